/- slices.SortFunc at literals, by the shelf's contract. -/
import Derived.Test.YtjkgndedffildaaMergeC
import Derived.Test.YtjkgndedffildaaHold
import Derived.Test.YtjkgndedffildaaShelf
namespace Go.Proofs.Ytjkgndedffildaa
open Go.ChangeShapes Go.WideShapes Go.ChangeAt Go.RowKit
open Go.Shelf
set_option linter.unusedVariables false
set_option maxRecDepth 100000

instance : Inhabited Ltl := ⟨⟨0, 0, false⟩⟩
/-- what only lays and draws, as one step. -/
theorem grow_of_below {w w' : World} (h : Below w.heap.size w w') (hd : w.drawn ≤ w'.drawn) : ∃ q os, w' = Sort.grow (w.drewN q) os := by
  refine ⟨w'.drawn - w.drawn, w'.heap.extract w.heap.size w'.heap.size, ?_⟩
  have hh : w'.heap = w.heap ++ w'.heap.extract w.heap.size w'.heap.size := by
    refine Array.ext_getElem? fun i => ?_
    rw [Array.getElem?_append]
    split
    · rename_i hi; exact h.block i hi
    · rename_i hi
      have hs := h.size
      rw [Array.getElem?_extract]
      split
      · rw [show w.heap.size + (i - w.heap.size) = i by omega]
      · rw [Array.getElem?_eq_none (by omega)]
  have e1 := h.os
  have e2 := h.tape
  have e3 := h.output
  unfold Sort.grow World.drewN
  cases w'
  simp only at *
  subst e1 e2 e3
  simp only [World.mk.injEq, and_true, true_and]
  exact ⟨hh, by omega⟩
theorem lt_cmp (x y : Ltl) : Go.Proofs.ltOf cmpL x y = ltlLess x y := by
  have h := cmpL_less x y
  unfold Go.Proofs.ltOf
  cases hl : ltlLess x y
  · rw [hl] at h
    have : 0 ≤ cmpL x y := by simpa using h
    exact decide_eq_false (by omega)
  · rw [hl] at h
    have : ¬ 0 ≤ cmpL x y := by simpa using h
    exact decide_eq_true (by omega)
theorem swo : Sort.SWO (Go.Proofs.ltOf cmpL) where
  irrefl x := by rw [lt_cmp]; exact less_irr x
  trans x y z h1 h2 := by rw [lt_cmp] at *; exact less_trans h1 h2
  ntrans x y z h1 h2 := by
    rw [lt_cmp] at *
    by_cases e1 : x = y
    · subst e1; exact h2
    · by_cases e2 : y = z
      · subst e2; exact h1
      · cases h : ltlLess x z
        · rfl
        · have := less_trans h (less_tot h2 e2)
          rw [this] at h1; cases h1
theorem cmpOrS (A : Option Addr) (n c : Nat) (xs : List Int) (w : World) (h : IntR w w.heap.size A n xs) :
    Calls Try.prog 52 #[.slice A n c] w fun e w' => e = .returned (.int .i64 (orF xs)) ∧ w = w' := by
  have hn := h.le
  have hl := Lib.hid h.len
  go_enter Try.func52, Try.ntmps52
  go_wp2_with fail
  go_loop [8] (fun i => ∃ k : Nat, k ≤ n ∧ i = .int .i64 k ∧ Hid (AllB (fun y => y == 0) xs k)) (fun i => n - (intOf i).toNat)
  case atStart => exact ⟨0, by omega, rfl, AllB.zero _ _⟩
  case round =>
    obtain ⟨k, hk, rfl, hq⟩ := hrel
    by_cases hlt : k < n
    · obtain ⟨ab, ao, x, rfl, hab, hxk, hcx⟩ := IntR.at_ h hlt
      have HX := Lib.hid hxk
      clear hxk
      by_cases hx0 : x = 0
      · subst hx0
        have hne : ((0 : Int) != 0) = false := rfl
        go_wp2_with fail
        go_round
        case rel => exact ⟨k + 1, by omega, by go_num, AllB.succ hq.out HX.out rfl⟩
        case measure => simp [intOf]; omega
      · have hne : (x != 0) = true := by simpa using hx0
        have H0 := Lib.hid hx0
        clear hx0
        go_wp2_with fail
        go_ret
        exact ⟨ret_int (orF_at hq.out HX.out H0.out).symm, rfl⟩
    · obtain rfl : k = n := by omega
      go_wp2_with fail
      go_ret
      exact ⟨ret_int (orF_zero (AllB.done hq.out (Nat.le_of_eq hl.out))).symm, rfl⟩
theorem update_drawn {H : Type} {P : Program} {k : TypeId} {R : Value → Option (DataW H × List MemPlace)} {w : World} {b n : Nat} {D : DataW H} {t e : TypeId} (h : w.ownsMap P k R b n D) (K : Maps.Keyed P k) (ht : P.underlying t = some (.map k e)) (hn : n < maxLen) {key val : Value} {kl : Lit} {d : DataW H} {ps : List MemPlace}
    (hkey : keyOf P k key = some kl) (hv : R val = some (d, ps)) : ∃ w', (Instr.mapUpdate t (.map (some b)) key val).run P w = .ok () w' ∧ w'.ownsMap P k R b (n + 1) (D.put kl d) ∧ w.grownBy w' (some b) ∧ w'.drawn = w.drawn := by
  obtain ⟨w', r1, r2, r3⟩ := h.update K ht hn hkey hv
  obtain ⟨es, clock, hb, F, hs, -⟩ := h
  obtain ⟨es', clock', r4, -⟩ := Maps.fit_store (R' := R) K ht hb F (Nat.lt_of_le_of_lt hs hn) (fun _ _ _ _ hz => hz) hkey hv
  rw [r1] at r4
  injection r4 with _ r4
  exact ⟨w', r1, r2, r3, by rw [r4]; rfl⟩
theorem icompareD (a b : Ltl) (w : World) : Calls Try.prog 35 #[.agg #[.int .i64 a.var, .int .i64 a.val, .bool a.neg], .agg #[.int .i64 b.var, .int .i64 b.val, .bool b.neg]] w fun e w' => e = .returned (.int .i64 (cmpL a b)) ∧ ∃ q os, w' = Sort.grow (w.drewN q) os := by
  have hmm := @run_makeMap Try.prog
  have hm0 := World.ownsMap_made (H := Unit) ((w.alloc (.cells #[.int .i64 a.var, .int .i64 a.val, .bool a.neg] 30)).alloc (.cells #[.int .i64 b.var, .int .i64 b.val, .bool b.neg] 30)) Try.prog 4 (plainElem Try.prog 3)
  obtain ⟨w3, hrun, ho3, hg3, hd3e⟩ := update_drawn hm0 (Maps.bool_keyed Try.underlying4) Try.underlying72 (by decide) (Maps.keyOf_bool_mk Try.underlying4 true) (plainElem_int Try.underlying3 (a := 1) (by decide))
  have hd3 := Lib.hid hd3e
  clear hd3e
  have hsz : ((w.alloc (.cells #[.int .i64 a.var, .int .i64 a.val, .bool a.neg] 30)).alloc (.cells #[.int .i64 b.var, .int .i64 b.val, .bool b.neg] 30)).heap.size = w.heap.size + 1 + 1 := by rw [size_alloc_, size_alloc_]
  have hBm : Below w.heap.size w (((w.alloc (.cells #[.int .i64 a.var, .int .i64 a.val, .bool a.neg] 30)).alloc (.cells #[.int .i64 b.var, .int .i64 b.val, .bool b.neg] 30)).alloc (.map #[] 0)) := b_alloc3 _ _ _ _
  have hB3 : Below w.heap.size w w3 := hBm.grown hg3 hBm.size (fun k e => by injection e with e; rw [← e, hsz]; omega)
  have hB4 : Below (w.heap.size + 1 + 1) ((w.alloc (.cells #[.int .i64 a.var, .int .i64 a.val, .bool a.neg] 30)).alloc (.cells #[.int .i64 b.var, .int .i64 b.val, .bool b.neg] 30)) w3 :=
    ((Below.refl _ _).alloc (by rw [hsz]; omega) _).grown hg3 (by rw [size_alloc_, hsz]; omega) (fun k e => by injection e with e; rw [← e, hsz]; omega)
  rw [hsz] at hrun ho3
  have ca0 : w3.cell? ⟨w.heap.size, 0, none⟩ = some (.int .i64 a.var) := (hB4.cell (p := ⟨_, _, none⟩) (by show w.heap.size < _; omega)).trans (by rw [World.cell?_alloc_past _ _ _ (by rw [size_alloc_]; omega), World.cell?_alloc_at _ _ _ _ rfl]; rfl)
  have ca1 : w3.cell? ⟨w.heap.size, 1, none⟩ = some (.int .i64 a.val) := (hB4.cell (p := ⟨_, _, none⟩) (by show w.heap.size < _; omega)).trans (by rw [World.cell?_alloc_past _ _ _ (by rw [size_alloc_]; omega), World.cell?_alloc_at _ _ _ _ rfl]; rfl)
  have ca2 : w3.cell? ⟨w.heap.size, 2, none⟩ = some (.bool a.neg) := (hB4.cell (p := ⟨_, _, none⟩) (by show w.heap.size < _; omega)).trans (by rw [World.cell?_alloc_past _ _ _ (by rw [size_alloc_]; omega), World.cell?_alloc_at _ _ _ _ rfl]; rfl)
  have cb0 : w3.cell? ⟨w.heap.size + 1, 0, none⟩ = some (.int .i64 b.var) := (hB4.cell (p := ⟨_, _, none⟩) (by show w.heap.size + 1 < _; omega)).trans (by rw [World.cell?_alloc_at _ _ _ _ (size_alloc_ _ _).symm]; rfl)
  have cb1 : w3.cell? ⟨w.heap.size + 1, 1, none⟩ = some (.int .i64 b.val) := (hB4.cell (p := ⟨_, _, none⟩) (by show w.heap.size + 1 < _; omega)).trans (by rw [World.cell?_alloc_at _ _ _ _ (size_alloc_ _ _).symm]; rfl)
  have cb2 : w3.cell? ⟨w.heap.size + 1, 2, none⟩ = some (.bool b.neg) := (hB4.cell (p := ⟨_, _, none⟩) (by show w.heap.size + 1 < _; omega)).trans (by rw [World.cell?_alloc_at _ _ _ _ (size_alloc_ _ _).symm]; rfl)
  have hz : ∀ w', (zeroValue 3).run Try.prog w' = .ok (.int .i64 0) w' := fun w' => by kernel_rfl
  have hlk : ∀ x : Bool, (Instr.lookup 72 (.map (some (w.heap.size + 1 + 1))) (.bool x) false).run Try.prog w3.drew = .ok (.int .i64 (bitI x)) w3.drew := fun x => by
    obtain ⟨c, h1, h2, _⟩ := ho3.drew.lookup_int (Maps.bool_keyed Try.underlying4) Try.underlying72 Try.underlying3 (hz _) (Maps.keyOf_bool_mk Try.underlying4 x)
    rw [h1]
    have e : (((DataW.map [] : DataW Unit).put (.bool true) (.lit (.int .i64 1))).atKey (.bool x) (.lit (.int .i64 0))) = .lit (.int .i64 (bitI x)) := by cases x <;> rfl
    rw [e] at h2
    injection h2 with h2
    injection h2 with _ h2
    rw [h2]
  clear hz hg3 hBm hB4 ho3 hsz hm0
  go_enter Try.func35, Try.ntmps35
  go_wp2_with fail
  refine wp_region_still_tail 19 (by kernel_rfl) (by kernel_rfl) ?_
  simp only [List.take_succ_cons, List.take_zero, List.drop_succ_cons, List.drop_zero]
  repeat still_step
  still_call (cmpCompare _ _ _)
  repeat still_step
  still_call (cmpCompare _ _ _)
  repeat still_step
  still_call (cmpCompare _ _ _)
  refine wpStill_nil ?_
  change wpList _ _ _ _ _ w3.drew
  have hB5 : Below w.heap.size w w3.drew := hB3.drew
  have hd5 : w.drawn ≤ w3.drew.drawn := by have e : w3.drew.drawn = w3.drawn + 1 := rfl; have e2 : w3.drawn = w.drawn := hd3.out; omega
  generalize w3.drew = w4 at hB5 hd5 ⊢
  clear hrun hB3 hd3 ca0 ca1 ca2 cb0 cb1 cb2 hlk hmm
  have hb6 := b_alloc w4 (.cells #[.int .i64 (cmpI a.var b.var), .int .i64 (cmpI a.val b.val), .int .i64 (cmpI (bitI a.neg) (bitI b.neg))] 3)
  have hr : IntR (w4.alloc (.cells #[.int .i64 (cmpI a.var b.var), .int .i64 (cmpI a.val b.val), .int .i64 (cmpI (bitI a.neg) (bitI b.neg))] 3)) (w4.alloc (.cells #[.int .i64 (cmpI a.var b.var), .int .i64 (cmpI a.val b.val), .int .i64 (cmpI (bitI a.neg) (bitI b.neg))] 3)).heap.size (some ⟨w4.heap.size, 0, none⟩) 3 [cmpI a.var b.var, cmpI a.val b.val, cmpI (bitI a.neg) (bitI b.neg)] := by
    refine ⟨rfl, by omega, fun _ => ⟨_, _, rfl, by rw [size_alloc_]; omega, fun k x hx => ⟨_, ?_, rfl⟩⟩⟩
    rw [World.cell?_alloc_at _ _ _ _ rfl]
    match k, hx with
    | 0, hx => simp at hx; subst hx; rfl
    | 1, hx => simp at hx; subst hx; rfl
    | 2, hx => simp at hx; subst hx; rfl
    | k + 3, hx => simp at hx
  have HR := Lib.hid hr
  clear hr
  go_wp2_with fail
  refine (cmpOrS _ _ _ _ _ HR.out).mono ?_
  rintro e w5 ⟨rfl, rfl⟩
  go_wp2_with fail
  go_ret
  exact ⟨rfl, grow_of_below (hB5.trans (hb6.mono hB5.size)) hd5⟩
/-- the sort of my own literals. -/
theorem sortLits (base g n c : Nat) (xs : List Ltl) (w : World) (h : HoldR w base 30 3 (.slice (some ⟨g, 0, none⟩) n c) n (xs.flatMap ltlCs)) (hl : xs.length = n) (hn : n ≤ 1000) :
    Calls Try.prog 45 #[.slice (some ⟨g, 0, none⟩) n c, .func (.func 35) #[] #[]] w fun e w' => e = .returned (.tuple #[]) ∧ ∃ ys : List Ltl, ys.Perm xs ∧ ys.Pairwise (fun x y => ltlLess y x = false) ∧ HoldR w' base 30 3 (.slice (some ⟨g, 0, none⟩) n c) n (ys.flatMap ltlCs) ∧ w.grownBy w' (some g) := by
  have hlc : ∀ x, (ltlCs x).length = 3 := fun _ => rfl
  obtain ⟨cap, cur, hcap, hg, hb, hcur, htake⟩ : ∃ cap cur, cap = c ∧ base ≤ g ∧ w.heap[g]? = some (.cells cur 30 (0, 0)) ∧ cap ≤ maxLen ∧ cur.toList.take (n * 3) = xs.flatMap ltlCs := by
    rcases h.2 with ⟨h1, h2⟩ | ⟨g', cap, cur, h1, h2, h3, h4, h5, h6⟩
    · cases h1
    · injection h1 with e1 e2 e3
      injection e1 with e1
      injection e1 with e1
      subst e1
      exact ⟨cap, cur, e3.symm, h2, h3, h5, h6⟩
  have hgw : g < w.heap.size := (Array.getElem?_eq_some_iff.1 hb).1
  have hcells : ∀ (i : Nat) x (j : Nat), xs[i]? = some x → j < 3 → w.cell? ⟨g, i * 3 + j, none⟩ = (ltlCs x)[j]? := fun i x j hx hj => by
    have hi : i < n := by rw [← hl]; exact (List.getElem?_eq_some_iff.1 hx).1
    rw [h.cellAt (i * 3 + j) (by omega), flatMap_at ltlCs 3 hlc xs hx hj]
  have hH : Sort.HoldsK ltlCs 3 w g 0 xs.toArray := by
    intro t ht
    have hsz : (Sort.flatK ltlCs 3 xs.toArray).size = n * 3 := by rw [Sort.size_flatK]; simp [hl]
    rw [hsz] at ht
    have hq : t / 3 < n := by omega
    have hx : xs[t / 3]? = some xs[t / 3] := List.getElem?_eq_getElem (by omega)
    refine ⟨?_, frozen_of_row w g _ cur _ hb⟩
    rw [Sort.get_flatK _ _ _ t (by simpa [hl] using ht)]
    have := hcells (t / 3) _ (t % 3) hx (by omega)
    rw [show t / 3 * 3 + t % 3 = 0 + t by omega] at this
    rw [this]
    have e1 : xs.toArray[t / 3]! = xs[t / 3] := by rw [getElem!_pos xs.toArray (t / 3) (by simpa [hl] using hq)]; simp
    rw [e1]
    have h3 : t % 3 < (ltlCs xs[t / 3]).length := by rw [hlc]; omega
    rw [List.getElem?_eq_getElem h3, getElem!_pos (ltlCs xs[t / 3]) (t % 3) h3]
    rfl
  have hcon := Go.Proofs.AnyQ.slices_SortFunc Try.sortLit 3 Try.isAgg30 Try.sizeOf30 ltlCs (fun _ => rfl) (fun x v hv => by simp [ltlCs] at hv; rcases hv with rfl | rfl | rfl <;> rfl) cmpL swo 35 #[] g 0 c xs.toArray w (enters_of Try.func35 (by kernel_rfl) rfl) (fun m os dk _ x y => icompareD x y _) hH hgw (by simp; omega)
  have hsz : xs.toArray.size = n := by simpa using hl
  rw [hsz] at hcon
  change Calls Try.prog 45 _ _ _ at hcon
  refine hcon.mono ?_
  rintro e w' ⟨rfl, d', m, os, hp, hs, rfl⟩
  have hds : d'.size = n := by rw [hp.1]; exact hsz
  refine ⟨rfl, d'.toList, ?_, ?_, ⟨?_, .inr ⟨g, c, Sort.putCells id 0 (Sort.flatK ltlCs 3 d') cur, rfl, hg, ?_, ?_, ?_, ?_⟩⟩, ?_⟩
  · have := hp.2.2
    simp only [Array.toList_extract, List.extract_eq_take_drop, List.drop_zero, Nat.sub_zero] at this
    rwa [List.take_of_length_le (by simp [hds]), List.take_of_length_le (by simp [hl])] at this
  · rw [List.pairwise_iff_getElem]
    intro i j hi hj hij
    have := hs i j (Nat.zero_le _) hij (by simpa [hds] using hj)
    rw [lt_cmp] at this
    have hi' : i < d'.size := by simpa using hi
    have hj' : j < d'.size := by simpa using hj
    rw [getElem!_pos d' i hi', getElem!_pos d' j hj'] at this
    simpa using this
  · rw [flatMap_len ltlCs 3 hlc]; simp [hds]
  · show ((w.heap.modify g _) ++ os)[g]? = _
    rw [Array.getElem?_append_left (by simpa using hgw), Array.getElem?_modify, if_pos rfl, hb]
    rfl
  · exact h.capLe
  · omega
  · refine List.ext_getElem? fun t => ?_
    rw [List.getElem?_take]
    have hcl : n * 3 ≤ cur.size := by
      have := congrArg List.length htake
      rw [List.length_take, flatMap_len ltlCs 3 hlc, hl] at this
      simp at this; omega
    split
    · rename_i ht
      have hq : t / 3 < d'.size := by omega
      have hx : d'.toList[t / 3]? = some d'[t / 3] := by rw [Array.getElem?_toList]; exact Array.getElem?_eq_getElem hq
      have := flatMap_at ltlCs 3 hlc d'.toList hx (show t % 3 < 3 by omega)
      rw [show t / 3 * 3 + t % 3 = t by omega] at this
      rw [this, Array.getElem?_toList]
      unfold Sort.putCells
      rw [Array.getElem?_mapIdx, Array.getElem?_eq_getElem (by omega : t < cur.size)]
      simp only [Option.map_some]
      rw [if_pos ⟨Nat.zero_le _, by rw [Sort.size_flatK, hds]; omega⟩, Nat.sub_zero, Sort.get_flatK _ _ _ t (by rw [hds]; omega)]
      have h3 : t % 3 < (ltlCs d'[t / 3]).length := by rw [hlc]; omega
      rw [getElem!_pos d' (t / 3) hq, List.getElem?_eq_getElem h3, getElem!_pos (ltlCs d'[t / 3]) (t % 3) h3]
      rfl
    · rename_i ht
      rw [List.getElem?_eq_none (by rw [flatMap_len ltlCs 3 hlc]; simp [hds]; omega)]
  · refine ⟨rfl, rfl, rfl, ?_, fun k hk hne => ?_⟩
    · show w.heap.size ≤ ((w.heap.modify g _) ++ os).size
      simp
    · show ((w.heap.modify g _) ++ os)[k]? = _
      have : g ≠ k := fun e => hne (by rw [e])
      rw [Array.getElem?_append_left (by simpa using hk), Array.getElem?_modify, if_neg this]
end Go.Proofs.Ytjkgndedffildaa
