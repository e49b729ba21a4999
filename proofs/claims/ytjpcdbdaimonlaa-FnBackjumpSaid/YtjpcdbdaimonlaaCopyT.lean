/- The program's copy of a store. -/
import Derived.Test.YtjpcdbdaimonlaaMarkC
import Derived.Test.YtjpcdbdaimonlaaSto
namespace Go.Proofs.Ytjpcdbdaimonlaa
open Go.ChangeShapes Go.WideShapes Go.ChangeAt Go.RowKit
open Go.Shelf
set_option linter.unusedVariables false
set_option linter.unusedSimpArgs false
set_option maxRecDepth 100000

/-- A copied store. -/
def CSto (w : World) (base : Nat) (us : List Value) (s : Sto) (D : List (Nat × Nat)) (xs : List CC) (rows : List (List Int × List (Nat × Nat))) : Prop := ∃ dv cv lv, us = [dv, cv, lv] ∧ CMod w base [dv, cv] s.model D xs ∧ HRs w base lv rows ∧ rows.map Prod.fst = s.levels ∧ rows.length ≤ 1048576
def flatS (D : List (Nat × Nat)) (xs : List CC) (rows : List (List Int × List (Nat × Nat))) : List (Nat × Nat) := flatM D xs ++ (rows.map Prod.snd).flatten
section
variable {w w' : World} {base : Nat} {us : List Value} {s : Sto} {D : List (Nat × Nat)} {xs : List CC} {rows : List (List Int × List (Nat × Nat))}
theorem CSto.below (h : CSto w base us s D xs rows) (hb : Below w.heap.size w w') : CSto w' base us s D xs rows := by
  obtain ⟨dv, cv, lv, e, h1, h2, r⟩ := h
  exact ⟨dv, cv, lv, e, h1.below hb, HRs.stays.below _ _ _ _ _ hb h2, r⟩
theorem CSto.base_ {base' : Nat} (h : CSto w base us s D xs rows) (hb : base' ≤ base) : CSto w base' us s D xs rows := by
  obtain ⟨dv, cv, lv, e, h1, h2, r⟩ := h
  exact ⟨dv, cv, lv, e, h1.base_ hb, HRs.stays.base _ _ _ _ _ hb h2, r⟩
theorem CSto.apart (h : CSto w base us s D xs rows) (ha : Apart base w w') : CSto w' base us s D xs rows := by
  obtain ⟨dv, cv, lv, e, h1, h2, r⟩ := h
  exact ⟨dv, cv, lv, e, h1.apart ha, h2.apart ha, r⟩
theorem CSto.read (h : CSto w base us s D xs rows) : StoR w w.heap.size us s := by
  obtain ⟨dv, cv, lv, e, h1, h2, h3, -⟩ := h
  have hl : rows.length = s.levels.length := by rw [← h3, List.length_map]
  obtain ⟨A, c, rfl⟩ := OwnOf.form h2
  have hcap : rows.length ≤ c := by
    obtain ⟨us, -, h5, -⟩ := h2
    exact own_cap h5
  obtain ⟨A', c', e', r3⟩ := HRs.read h2
  injection e' with e1 _ e3
  subst e1
  rw [h3, hl] at r3
  exact ⟨dv, cv, A, c, by rw [e, hl], h1.read, r3, by omega⟩
end
theorem box_three {Z : Array Value} {e t : TypeId} (u0 u1 u2 : Value) (W : World) :
    (((W.alloc (.cells Z e)).alloc (.cells #[u0, u1, u2] t)).cell? ⟨W.heap.size + 1, 0, none⟩ = some u0 ∧ ((W.alloc (.cells Z e)).alloc (.cells #[u0, u1, u2] t)).cell? ⟨W.heap.size + 1, 1, none⟩ = some u1 ∧ ((W.alloc (.cells Z e)).alloc (.cells #[u0, u1, u2] t)).cell? ⟨W.heap.size + 1, 2, none⟩ = some u2 ∧ ∀ j, ((W.alloc (.cells Z e)).alloc (.cells #[u0, u1, u2] t)).frozen? ⟨W.heap.size + 1, j, none⟩ = false) ∧
    (((W.alloc (.cells #[u0, u1, u2] t)).alloc (.cells Z e)).cell? ⟨W.heap.size, 0, none⟩ = some u0 ∧ ((W.alloc (.cells #[u0, u1, u2] t)).alloc (.cells Z e)).cell? ⟨W.heap.size, 1, none⟩ = some u1 ∧ ((W.alloc (.cells #[u0, u1, u2] t)).alloc (.cells Z e)).cell? ⟨W.heap.size, 2, none⟩ = some u2 ∧ ∀ j, ((W.alloc (.cells #[u0, u1, u2] t)).alloc (.cells Z e)).frozen? ⟨W.heap.size, j, none⟩ = false) := by
  have h1 : TBlk t ((W.alloc (.cells Z e)).alloc (.cells #[u0, u1, u2] t)) (W.heap.size + 1) #[u0, u1, u2] := TBlk.new2 _ _ _ _
  have h2 : TBlk t ((W.alloc (.cells #[u0, u1, u2] t)).alloc (.cells Z e)) W.heap.size #[u0, u1, u2] := (TBlk.new W #[u0, u1, u2] t).on (b_alloc _ _)
  exact ⟨⟨h1.at_ 0 rfl, h1.at_ 1 rfl, h1.at_ 2 rfl, fun j => h1.frozen j⟩, h2.at_ 0 rfl, h2.at_ 1 rfl, h2.at_ 2 rfl, fun j => h2.frozen j⟩
theorem Apart.on {w w' w'' : World} {base : Nat} (h : Apart base w w') (hb : Below w'.heap.size w' w'') : Apart base w w'' := ⟨Nat.le_trans h.1 hb.size, fun g h1 h2 => (hb.block g (Nat.lt_of_lt_of_le h2 h.1)).trans (h.2 g h1 h2)⟩
theorem Apart.set2 {w w' : World} {base g : Nat} (h : Apart base w w') (hg : g < base ∨ w.heap.size ≤ g) (j : Nat) (u : Value) : Apart base w (w'.setCell ⟨g, j, none⟩ u) := ⟨by have := h.1; simpa [World.setCell] using this, fun b h1 h2 => (Below.heap_setCell w' ⟨g, j, none⟩ u b (by show b ≠ g; omega)).trans (h.2 b h1 h2)⟩
/-- One more row where there is room. -/
theorem own_push {w : World} {base g k cap : Nat} {e : TypeId} {us : List Value} {u : Value} (h : w.ownsRow base e 1 (.slice (some ⟨g, 0, none⟩) k cap) k us) (hk : k < cap) : (w.setCell ⟨g, k, none⟩ u).ownsRow base e 1 (.slice (some ⟨g, 0, none⟩) (k + 1) cap) (k + 1) (us ++ [u]) := by
  obtain ⟨h1, h2⟩ := h
  refine ⟨by simp at h1 ⊢; omega, .inr ?_⟩
  rcases h2 with ⟨h3, -⟩ | ⟨g', cap', cur, hv, hg, hh, hcap, hmax, hsz, ht⟩
  · cases h3
  · injection hv with e1 e2 e3
    injection e1 with e1
    injection e1 with e1 _ _
    subst e1 e3
    refine ⟨g, cap, cur.setIfInBounds k u, rfl, hg, ?_, by omega, hmax, by simpa using hsz, ?_⟩
    · simp [World.setCell, Array.getElem?_modify, hh]
    · simp only [Nat.mul_one] at ht h1 hsz ⊢
      have hl : k < cur.toList.length := by simp; omega
      have h0 : (cur.toList.set k u)[k]? = some u := by rw [List.getElem?_set_self hl]
      have h4 : (cur.setIfInBounds k u).toList = cur.toList.set k u := by simp
      have h5 : (cur.toList.set k u).take k = cur.toList.take k := by
        rw [List.take_set, List.set_eq_of_length_le (by rw [List.length_take]; omega)]
      rw [h4, take_snoc h0, h5, ht]
theorem own_spare {w : World} {base g k cap : Nat} {e : TypeId} {us : List Value} (h : w.ownsRow base e 1 (.slice (some ⟨g, 0, none⟩) k cap) k us) (hk : k < cap) : (w.cell? ⟨g, k, none⟩).isSome = true ∧ w.frozen? ⟨g, k, none⟩ = false := by
  rcases h.2 with ⟨h3, -⟩ | ⟨g', cap', cur, hv, hg, hh, hcap, hmax, hsz, ht⟩
  · cases h3
  · injection hv with e1 e2 e3
    injection e1 with e1
    injection e1 with e1 _ _
    subst e1 e3
    refine ⟨?_, frozen_of_row w g k _ _ hh⟩
    rw [cell_of_row w g k _ _ _ hh, Array.getElem?_eq_getElem (by omega)]
    rfl
set_option maxHeartbeats 8000000 in
theorem istoCopied (us : List Value) (s : Sto) (w : World) (h : StoR w w.heap.size us s) (hs : SmSto s) :
    Calls Try.prog 14 #[.agg us.toArray] w fun e w' => ∃ (vs : List Value) (D : List (Nat × Nat)) (xs : List CC) (rows : List (List Int × List (Nat × Nat))), e = .returned (.agg vs.toArray) ∧ CSto w' w.heap.size vs s D xs rows ∧ Fr w.heap.size w'.heap.size (flatS D xs rows) ∧ Below w.heap.size w w' := by
  obtain ⟨u, v, la, lc, rfl, hm, hl, -⟩ := h
  obtain ⟨s1, s2, s3⟩ := hs
  obtain ⟨da, nd, cd, ca, nc, cc, e2⟩ : ∃ (da : Option Addr) (nd cd : Nat) (ca : Option Addr) (nc cc : Nat), [u, v] = [.slice da nd cd, .slice ca nc cc] := by
    obtain ⟨da, ca, nd, cd, nc, cc, e⟩ := hm.two
    exact ⟨da, nd, cd, ca, nc, cc, e⟩
  simp only [List.cons.injEq, and_true] at e2
  obtain ⟨rfl, rfl⟩ := e2
  obtain ⟨i1, hi1, hy0, hy1, hy2⟩ := info_parts (P := Try.prog) (e := 23) (z := .slice none 0 0) (size := 1) (bytes := 24) (by kernel_rfl)
  obtain ⟨nl, hnl⟩ : ∃ nl, s.levels.length = nl := ⟨_, rfl⟩
  rw [hnl] at hl s2
  rw [hnl]
  obtain ⟨Z, hmk, hZ⟩ := make_cells (P := Try.prog) 27 23 i1 _ 1 Try.underlying27 hi1 hy0 hy1 nl (by rw [hy2]; omega) (by unfold maxLen; omega)
  have HZ := Lib.hid hZ
  clear hZ
  obtain ⟨wa, hwa⟩ : ∃ wa, wa = w.alloc (.cells #[.slice da nd cd, .slice ca nc cc, .slice la nl lc] 29) := ⟨_, rfl⟩
  obtain ⟨wb, hwb⟩ : ∃ wb, wb = wa.alloc (.cells #[.slice none 0 0, .slice none 0 0, .slice none 0 0] 29) := ⟨_, rfl⟩
  have hb0 : Below w.heap.size w wa := by rw [hwa]; exact b_alloc _ _
  have hsa : wa.heap.size = w.heap.size + 1 := by rw [hwa, size_alloc_]
  have hb1 : Below wa.heap.size wa wb := by rw [hwb]; exact b_alloc _ _
  have hsb : wb.heap.size = w.heap.size + 1 + 1 := by rw [hwb, size_alloc_, hsa]
  have ha : TBlk 29 wa w.heap.size #[.slice da nd cd, .slice ca nc cc, .slice la nl lc] := by rw [hwa]; exact TBlk.new _ _ _
  have HA := Lib.hid (ha.below_ hb1 (by omega))
  have HR : Hid (TBlk 29 wb (w.heap.size + 1) #[.slice none 0 0, .slice none 0 0, .slice none 0 0]) := by rw [hwb, ← hsa]; exact TBlk.new _ _ _
  have hb01 := bgo hb0 hb1
  have G1 := Lib.hid (ModR.widens _ _ _ _ _ hb01.size (ModR.keeps _ _ _ _ _ (fun p hp => hb01.cell hp) hm))
  have G3 := Lib.hid (SlR.on (RowC.keeps IntC.keeps) (RowC.widens IntC.widens) hl hb01)
  have S3 := Lib.hid s3
  have SM := Lib.hid s1
  have HNL := Lib.hid hnl
  have hS : ∀ w', Below wb.heap.size wb w' → (w'.cell? ⟨w.heap.size, 0, none⟩ = some (.slice da nd cd) ∧ w'.cell? ⟨w.heap.size, 1, none⟩ = some (.slice ca nc cc) ∧ w'.cell? ⟨w.heap.size, 2, none⟩ = some (.slice la nl lc)) := by
    intro w' h
    have k := HA.out.below_ h (by omega)
    exact ⟨k.at_ 0 rfl, k.at_ 1 rfl, k.at_ 2 rfl⟩
  have hbd : Below wb.heap.size wb wb.drew := below_drewN (Below.refl _ _) 1
  have hS0 := hS _ hbd
  clear hm hl s1 s3 hnl ha hb0 hb1
  go_enter Try.func14, Try.ntmps14
  go_wp2_with fail
  rw [← hwa, ← hwb]
  clear hwa hwb
  have HSB := Lib.hid hsb
  clear hsb hsa
  rename_i K hK
  have q0 := fun W => (box_three (Z := Z) (e := 23) (t := 29) (.slice none 0 0) (.slice none 0 0) (.slice none 0 0) W).1.1
  have q1 := fun W => (box_three (Z := Z) (e := 23) (t := 29) (.slice none 0 0) (.slice none 0 0) (.slice none 0 0) W).1.2.1
  have q2 := fun W => (box_three (Z := Z) (e := 23) (t := 29) (.slice none 0 0) (.slice none 0 0) (.slice none 0 0) W).1.2.2.1
  have q3 := fun W => (box_three (Z := Z) (e := 23) (t := 29) (.slice none 0 0) (.slice none 0 0) (.slice none 0 0) W).1.2.2.2
  have q4 := fun W => (box_three (Z := Z) (e := 23) (t := 29) (.slice none 0 0) (.slice none 0 0) (.slice none 0 0) W).2.1
  have q5 := fun W => (box_three (Z := Z) (e := 23) (t := 29) (.slice none 0 0) (.slice none 0 0) (.slice none 0 0) W).2.2.1
  have q6 := fun W => (box_three (Z := Z) (e := 23) (t := 29) (.slice none 0 0) (.slice none 0 0) (.slice none 0 0) W).2.2.2.1
  have q7 := fun W => (box_three (Z := Z) (e := 23) (t := 29) (.slice none 0 0) (.slice none 0 0) (.slice none 0 0) W).2.2.2.2
  have KEY : ∀ (W : World) (A B : Option Addr) (n c k d gs g3 b8 : Nat) (W8 : World) (D : List (Nat × Nat)) (xs : List CC), CMod W8 b8 [.slice A n c, .slice B k d] s.model D xs → wb.heap.size ≤ b8 → Apart b8 W8 W → Fr wb.heap.size W8.heap.size (flatM D xs) → (gs < b8 ∨ W8.heap.size ≤ gs) → (g3 < b8 ∨ W8.heap.size ≤ g3) → W.ownsRow wb.heap.size 23 1 (.slice (some ⟨gs, 0, none⟩) 0 nl) 0 [] → TBlk 29 W g3 #[.slice A n c, .slice B k d, .slice (some ⟨gs, 0, none⟩) 0 nl] → wb.heap.size ≤ g3 → Below wb.heap.size wb W → K { tmps := #[.agg #[.slice da nd cd, .slice ca nc cc, .slice la nl lc], .pointer (some ⟨w.heap.size, 0, none⟩), .pointer (some ⟨w.heap.size + 1, 0, none⟩), .pointer (some ⟨g3, 0, none⟩), undef, undef, .pointer (some ⟨w.heap.size, 0, none⟩), .agg #[.slice da nd cd, .slice ca nc cc], .agg #[.slice A n c, .slice B k d], .pointer (some ⟨w.heap.size, 2, none⟩), .slice la nl lc, .int .i64 nl, .slice (some ⟨gs, 0, none⟩) 0 nl, .agg #[.slice A n c, .slice B k d, .slice (some ⟨gs, 0, none⟩) 0 nl], undef, undef, undef, undef, undef, undef, undef, undef, undef, undef, undef, undef, undef, undef, undef, undef], defers := [] } W := by
    intro W A B n c kk d gs g3 b8 W8 D xs hcm hb8 hap hfr8 hgs hg3s hO hT hg3 hbW
    refine hK _ _ ?_
    have HT := Lib.hid hT
    have HCM := Lib.hid hcm
    have HAP := Lib.hid hap
    have HF := Lib.hid hfr8
    have HO := Lib.hid (show HRs W wb.heap.size (.slice (some ⟨gs, 0, none⟩) 0 nl) [] from ⟨[], rfl, hO, by simp, fun i u x hu => by simp at hu⟩)
    have z8 := hap.1
    have hgw : wb.heap.size ≤ gs := by
      rcases hO.2 with ⟨h3, -⟩ | ⟨g', cap', cur, hv, hg, -⟩
      · cases h3
      · injection hv with e1
        injection e1 with e1
        injection e1 with e1 _ _
        omega
    have a2 := (hS _ hbW).2.2
    clear hT hO hcm hap hfr8 q0 q1 q2 q3 q4 q5 q6 q7 hS0
    go_wp2_with fail
    go_loopw [17] (fun i wr => ∃ (k : Nat) (rows : List (List Int × List (Nat × Nat))), k ≤ nl ∧ i = .int .i64 k ∧ Hid (TBlk 29 wr g3 #[.slice A n c, .slice B kk d, .slice (some ⟨gs, 0, none⟩) k nl]) ∧ Hid (HRs wr wb.heap.size (.slice (some ⟨gs, 0, none⟩) k nl) rows) ∧ Hid (rows.map Prod.fst = s.levels.take k) ∧ Hid (rows.length = k) ∧ Hid (Apart b8 W8 wr) ∧ Hid (Fr wb.heap.size wr.heap.size (flatS D xs rows)) ∧ Below wb.heap.size wb wr) (fun i _ => nl - (intOf i).toNat)
    case atStart => exact ⟨0, [], by omega, rfl, HT, HO, rfl, rfl, HAP, by show Fr _ _ (flatM D xs ++ []); rw [List.append_nil]; exact HF.out.wide (Nat.le_refl _) z8, hbW⟩
    case round =>
      obtain ⟨k, rows, hk, rfl, ht, hq, hfs, hln, hpp, hfr, hb⟩ := hrel
      have hzr := hb.size
      clear a2 HT HO HAP HF hbW
      by_cases hlt : k < nl
      · obtain ⟨ab, ao, row, u, rfl, hab, hxk, hcu, hrw⟩ := SlR.at_ (SlR.below (RowC.keeps IntC.keeps) G3.out hb) hlt
        obtain ⟨A2, d2, rfl, hri⟩ := hrw
        have hr1 := S3.out row (List.mem_of_getElem? hxk)
        have HX := Lib.hid (take_snoc hxk)
        have hbd3 : Below wr.heap.size wr wr.drew := Below.drew_ (Below.refl _ _)
        have HRI := Lib.hid (IntR.on (hri.more IntC.widens hzr) hbd3)
        have d5 : wr.drew.cell? ⟨g3, 2, none⟩ = some (.slice (some ⟨gs, 0, none⟩) k nl) := ht.out.at_ 2 rfl
        have hwk : 0 + k * 1 = k := by omega
        clear hxk hri
        go_wp2_with fail
        clear hcu
        go_region_law (first
          | (refine step_append_room rfl (.tmp 22) (.tmp 25) 27 rfl 23 i1 1 Try.underlying27 hi1 hy1 gs 0 k nl (by simp [Act.eval, Act.put]) ⟨W6.heap.size, 0, none⟩ 1 1 [.slice A6 row.length d6] (by simp [Act.eval, Act.put]) rfl HS6.out (by simp [Value.oneCell']) (by omega) HSP.out ?_
             rw [← HW7.out]
             have d7 := T7.out.at_ 2 rfl
             have f7 := T7.out.frozen 2)
          | (go_simp
             go_at_call 31
             refine (icopied0 A2 row.length d2 row _ HRI.out hr1).mono ?_
             rintro e W6 ⟨v6, L6, rfl, h6, hB6⟩
             obtain ⟨A6, d6, rfl, -, -⟩ := h6.read
             have b6 := bgo hbd3 hB6
             have z6 := b6.size
             have d6a := (ht.out.below_ b6 ht.out.lt).at_ 2 rfl
             have d6b := fun o => ((ht.out.below_ b6 ht.out.lt).on (b_alloc W6 o)).at_ 2 rfl
             have bA := b_alloc W6 (.cells #[.slice A6 row.length d6] 23)
             obtain ⟨us, u1, u2, u3, u4⟩ := HRs.stays.below _ _ _ _ _ bA (HRs.stays.below _ _ _ _ _ b6 hq.out)
             rw [hln.out] at u2
             have HS6 : Hid (∀ j u, [Value.slice A6 row.length d6][j]? = some u → (W6.alloc (.cells #[.slice A6 row.length d6] 23)).cell? ((⟨W6.heap.size, 0, none⟩ : Addr).add j) = some u) := by
               intro j u hu
               rw [add_own]
               exact (TBlk.new W6 _ 23).at_ j (by simpa using hu)
             have HSP : Hid (∀ j, j < [Value.slice A6 row.length d6].length → ((W6.alloc (.cells #[.slice A6 row.length d6] 23)).cell? ⟨gs, 0 + k * 1 + j, none⟩).isSome = true ∧ (W6.alloc (.cells #[.slice A6 row.length d6] 23)).frozen? ⟨gs, 0 + k * 1 + j, none⟩ = false) := by
               intro j hj
               have hj0 : j = 0 := by simp at hj; exact hj
               subst hj0
               rw [show 0 + k * 1 + 0 = k by omega]
               exact own_spare u2 hlt
             obtain ⟨W7, hW7⟩ : ∃ W7, W7 = (W6.alloc (.cells #[.slice A6 row.length d6] 23)).setCells gs (0 + k * 1) [.slice A6 row.length d6] := ⟨_, rfl⟩
             have HW7 := Lib.hid hW7
             have hW7' : W7 = (W6.alloc (.cells #[.slice A6 row.length d6] 23)).setCell ⟨gs, k, none⟩ (.slice A6 row.length d6) := by rw [hW7, hwk]; rfl
             have hO7 : Hid (W7.ownsRow wb.heap.size 23 1 (.slice (some ⟨gs, 0, none⟩) (k + 1) nl) (k + 1) (us ++ [.slice A6 row.length d6])) := by rw [hW7']; exact own_push u2 hlt
             have hne : g3 ≠ gs := by
               intro e0
               have hx := (ht.out.below_ b6 ht.out.lt).on bA
               rw [e0] at hx
               exact own_blk (show (29 : TypeId) ≠ 23 by decide) u2 hx rfl
             have T7 : Hid (TBlk 29 W7 g3 #[.slice A n c, .slice B kk d, .slice (some ⟨gs, 0, none⟩) k nl]) := by rw [hW7']; exact ((ht.out.below_ b6 ht.out.lt).on bA).far hne
             obtain ⟨cur6, hcur6⟩ := own_block u2
             have HSH : Hid (∀ u x, HIn (W6.alloc (.cells #[.slice A6 row.length d6] 23)) wb.heap.size u x → HIn W7 wb.heap.size u x) := by
               intro u x hx
               rw [hW7']
               exact HIn.shuns (show (23 : TypeId) ≠ 3 by decide) _ _ _ _ _ k _ _ _ hcur6 hx
             have HU := Lib.hid (And.intro u1 u4)
             have H6 := Lib.hid ((h6.below bA).base_ (base' := wb.heap.size) hzr)
             have F6 := Lib.hid h6.fr
             have HAP : Hid (Apart b8 W8 W7) := by
               rw [hW7']
               exact (((hpp.out.on b6).alloc _).set2 hgs k _)
             have HBL : Hid (Below wb.heap.size wb W7) := by
               rw [hW7']
               exact (Below.alloc0 (hb.trans (b6.mono hzr)) _).setCell hgw _
             have HZ7 : W7.heap.size = W6.heap.size + 1 := by rw [hW7']; simp [World.setCell]
             clear hW7 hW7' u1 u2 u3 u4 h6 hcur6 bA))
        all_goals
          have hfz : (W7.setCell ⟨g3, 2, none⟩ (.slice (some ⟨gs, 0, none⟩) (k + 1) nl)).heap.size = W7.heap.size := by simp [World.setCell]
          have K1 := Lib.hid (T7.out.store 2 (.slice (some ⟨gs, 0, none⟩) (k + 1) nl))
          have K2 : Hid (HRs (W7.setCell ⟨g3, 2, none⟩ (.slice (some ⟨gs, 0, none⟩) (k + 1) nl)) wb.heap.size (.slice (some ⟨gs, 0, none⟩) (k + 1) nl) (rows ++ [(row, L6)])) :=
            OwnOf.snoc (In := HIn) (w := W6.alloc (.cells #[.slice A6 row.length d6] 23)) (fun u x hx => HIn.shuns (show (29 : TypeId) ≠ 3 by decide) _ _ _ _ _ 2 _ _ _ T7.out (HSH.out u x hx)) HU.out.1 HU.out.2 H6.out (by rw [hln.out]; omega)
              (by rw [hln.out]; exact own_shun (show (29 : TypeId) ≠ 23 by decide) 2 _ T7.out hO7.out)
          have K3 := Lib.hid (HAP.out.set2 hg3s 2 (.slice (some ⟨gs, 0, none⟩) (k + 1) nl))
          have K4 : Hid (Fr wb.heap.size (W7.setCell ⟨g3, 2, none⟩ (.slice (some ⟨gs, 0, none⟩) (k + 1) nl)).heap.size (flatS D xs (rows ++ [(row, L6)]))) := by
            have e1 : flatS D xs (rows ++ [(row, L6)]) = flatS D xs rows ++ L6 := by simp [flatS]
            show Fr _ _ _
            rw [e1, hfz]
            exact hfr.out.append (F6.out.wide (Nat.le_refl _) (by omega)) (show wr.heap.size ≤ wr.drew.heap.size from Nat.le_refl _) (by show wb.heap.size ≤ wr.heap.size; exact hzr) (by omega)
          have K5 : Below wb.heap.size wb (W7.setCell ⟨g3, 2, none⟩ (.slice (some ⟨gs, 0, none⟩) (k + 1) nl)) := HBL.out.setCell hg3 _
          have K6 := Lib.hid (show (rows ++ [(row, L6)]).map Prod.fst = s.levels.take (k + 1) by rw [HX.out, List.map_append, hfs.out]; rfl)
          clear d7 f7
          go_wp2_with fail
          go_roundw
          case rel => exact ⟨k + 1, rows ++ [(row, L6)], by omega, by go_num, K1, K2, K6, Lib.hid (by rw [List.length_append, hln.out]; rfl), K3, K4, K5⟩
          case measure => simp [intOf]; omega
      · obtain rfl : k = nl := by omega
        have b0 := ht.out.at_ 0 rfl
        have b1 := ht.out.at_ 1 rfl
        have b2 := ht.out.at_ 2 rfl
        have hq0 := HR.out.below_ hb (by have := HSB.out; omega)
        have p0 := hq0.at_ 0 rfl
        have p1 := hq0.at_ 1 rfl
        have p2 := hq0.at_ 2 rfl
        have f0 := hq0.frozen 0
        have f1 := hq0.frozen 1
        have f2 := hq0.frozen 2
        go_wp2_with fail
        obtain ⟨WF, hWF⟩ : ∃ WF, WF = ((wr.setCell ⟨w.heap.size + 1, 0, none⟩ (.slice A n c)).setCell ⟨w.heap.size + 1, 1, none⟩ (.slice B kk d)).setCell ⟨w.heap.size + 1, 2, none⟩ (.slice (some ⟨gs, 0, none⟩) k k) := ⟨_, rfl⟩
        have hqf : TBlk 29 WF (w.heap.size + 1) #[.slice A n c, .slice B kk d, .slice (some ⟨gs, 0, none⟩) k k] := by
          rw [hWF]
          exact ((hq0.store 0 _).store 1 _).store 2 _
        have r0 := hqf.at_ 0 rfl
        have r1 := hqf.at_ 1 rfl
        have r2 := hqf.at_ 2 rfl
        have hapf : Apart wb.heap.size wr WF := by
          rw [hWF]
          have := HSB.out
          exact (((Apart.refl _ _).set (by omega) 0 _).set (by omega) 1 _).set (by omega) 2 _
        have hzf : WF.heap.size = wr.heap.size := by rw [hWF]; simp [World.setCell]
        have hbf : Below w.heap.size w WF := by
          rw [hWF]
          refine (hb01.trans (hb.mono (by have := HSB.out; omega))).trans ?_
          repeat' (first | exact Below.refl _ _ | refine Below.setCell ?_ (by simp) _)
        have hfin : CSto WF w.heap.size [.slice A n c, .slice B kk d, .slice (some ⟨gs, 0, none⟩) k k] s D xs rows := by
          refine CSto.base_ (CSto.apart (base := wb.heap.size) (w := wr) ⟨_, _, _, rfl, (CMod.apart HCM.out hpp.out).base_ hb8, hq.out, ?_, by rw [hln.out]; exact s2⟩ hapf) (by have := HSB.out; omega)
          rw [hfs.out, ← HNL.out, List.take_length]
        have FIN := Lib.hid (And.intro hfin (And.intro (show Fr w.heap.size WF.heap.size (flatS D xs rows) from hfr.out.wide (by have := HSB.out; omega) (by omega)) hbf))
        rw [← hWF]
        clear hfin hbf hapf hqf hq0 hWF hzf
        go_wp2_with fail
        exact bodyPost_ret (v := .agg #[.slice A n c, .slice B kk d, .slice (some ⟨gs, 0, none⟩) k k]) (by simp [results, Try.results14, go_sem, r0, r1, r2]) rfl (by first | exact ⟨_, _, _, _, rfl, FIN.out.1, FIN.out.2.1, FIN.out.2.2⟩ | exact ⟨_, rfl, _, _, _, FIN.out.1, FIN.out.2.1, FIN.out.2.2⟩)
  go_region_held3 (fun w' => w'.cell? ⟨w.heap.size, 0, none⟩ = some (.slice da nd cd) ∧ w'.cell? ⟨w.heap.size, 1, none⟩ = some (.slice ca nc cc) ∧ w'.cell? ⟨w.heap.size, 2, none⟩ = some (.slice la nl lc))
    (first | with_reducible exact hS0 | (with_reducible refine hS _ ?_; (repeat' (first | with_reducible assumption | with_reducible exact Below.refl _ _ | with_reducible refine Below.drew_ ?_ | with_reducible refine Below.setCell ?_ (by first | (simp; done) | (simp; omega)) _ | with_reducible refine Below.alloc0 ?_ _))))
    (first
      | (go_at_call 30
         refine (imodCopied [.slice da nd cd, .slice ca nc cc] s.model _ (ModR.on G1.out (by (repeat' (first | with_reducible assumption | with_reducible exact Below.refl _ _ | with_reducible refine Below.drew_ ?_ | with_reducible refine Below.setCell ?_ (by first | (simp; done) | (simp; omega)) _ | with_reducible refine Below.alloc0 ?_ _)))) SM.out).mono ?_
         rintro e W8 ⟨rs, D, xs, rfl, h8, f8, hB8⟩
         obtain ⟨A, n, c, B, k, d, rfl⟩ := CMod.shape h8
         have hb8 := bgo (show Below wb.heap.size wb _ by (repeat' (first | with_reducible assumption | with_reducible exact Below.refl _ _ | with_reducible refine Below.drew_ ?_ | with_reducible refine Below.setCell ?_ (by first | (simp; done) | (simp; omega)) _ | with_reducible refine Below.alloc0 ?_ _))) hB8
         have z8 := hb8.size
         first
           | (refine have_then (A := TBlk 29 W8 (wb.heap.size + 1) #[.slice none 0 0, .slice none 0 0, .slice none 0 0]) ?_ ?_
              focus (refine TBlk.on ?_ hB8; (repeat' (first | with_reducible assumption | with_reducible exact TBlk.new _ _ _ | with_reducible exact TBlk.new2 _ _ _ _ | with_reducible refine TBlk.drew_ ?_ | with_reducible refine TBlk.on ?_ (b_alloc _ _))); done)
              intro qb
              have qb0 := qb.at_ 0 rfl
              have qb1 := qb.at_ 1 rfl
              have qb2 := qb.at_ 2 rfl
              have qb3 := fun j => qb.frozen j)
           | (refine have_then (A := TBlk 29 W8 wb.heap.size #[.slice none 0 0, .slice none 0 0, .slice none 0 0]) ?_ ?_
              focus (refine TBlk.on ?_ hB8; (repeat' (first | with_reducible assumption | with_reducible exact TBlk.new _ _ _ | with_reducible exact TBlk.new2 _ _ _ _ | with_reducible refine TBlk.drew_ ?_ | with_reducible refine TBlk.on ?_ (b_alloc _ _))); done)
              intro qb
              have qb0 := qb.at_ 0 rfl
              have qb1 := qb.at_ 1 rfl
              have qb2 := qb.at_ 2 rfl
              have qb3 := fun j => qb.frozen j
              have qd := qb.on (b_alloc W8 (.cells Z 23))
              have qd0 := qd.at_ 0 rfl
              have qd1 := qd.at_ 1 rfl
              have qd2 := qd.at_ 2 rfl
              have qd3 := fun j => qd.frozen j)
           | skip))
  · refine KEY _ A B n c k d W8.heap.size (W8.heap.size + 1) _ W8 D xs h8 (show Below wb.heap.size wb _ by (repeat' (first | with_reducible assumption | with_reducible exact Below.refl _ _ | with_reducible refine Below.drew_ ?_ | with_reducible refine Below.setCell ?_ (by first | (simp; done) | (simp; omega)) _ | with_reducible refine Below.alloc0 ?_ _))).size (((Apart.refl _ _).alloc _).alloc _) (f8.wide (show Below wb.heap.size wb _ by (repeat' (first | with_reducible assumption | with_reducible exact Below.refl _ _ | with_reducible refine Below.drew_ ?_ | with_reducible refine Below.setCell ?_ (by first | (simp; done) | (simp; omega)) _ | with_reducible refine Below.alloc0 ?_ _))).size (Nat.le_refl _)) (.inr (Nat.le_refl _)) (.inr (by omega)) (own_base (own_below (HZ.out W8) (b_alloc _ _)) z8) (TBlk.new2 _ _ _ _) (by omega) (by (repeat' (first | with_reducible assumption | with_reducible exact Below.refl _ _ | with_reducible refine Below.drew_ ?_ | with_reducible refine Below.setCell ?_ (by first | (simp; done) | (simp; omega)) _ | with_reducible refine Below.alloc0 ?_ _)))
  · refine KEY _ A B n c k d (W8.heap.size + 1) W8.heap.size _ W8 D xs h8 (show Below wb.heap.size wb _ by (repeat' (first | with_reducible assumption | with_reducible exact Below.refl _ _ | with_reducible refine Below.drew_ ?_ | with_reducible refine Below.setCell ?_ (by first | (simp; done) | (simp; omega)) _ | with_reducible refine Below.alloc0 ?_ _))).size (((Apart.refl _ _).alloc _).alloc _) (f8.wide (show Below wb.heap.size wb _ by (repeat' (first | with_reducible assumption | with_reducible exact Below.refl _ _ | with_reducible refine Below.drew_ ?_ | with_reducible refine Below.setCell ?_ (by first | (simp; done) | (simp; omega)) _ | with_reducible refine Below.alloc0 ?_ _))).size (Nat.le_refl _)) (.inr (by omega)) (.inr (Nat.le_refl _)) ?_ ((TBlk.new _ _ _).on (b_alloc _ _)) (by omega) (by (repeat' (first | with_reducible assumption | with_reducible exact Below.refl _ _ | with_reducible refine Below.drew_ ?_ | with_reducible refine Below.setCell ?_ (by first | (simp; done) | (simp; omega)) _ | with_reducible refine Below.alloc0 ?_ _)))
    have := HZ.out (W8.alloc (.cells #[.slice A n c, .slice B k d, .slice (some ⟨W8.heap.size + 1, 0, none⟩) 0 nl] 29))
    rw [size_alloc_] at this
    exact own_base this (by omega)
  · refine KEY _ A B n c k d wb.heap.size W8.heap.size _ W8 D xs h8 (show Below wb.heap.size wb _ by (repeat' (first | with_reducible assumption | with_reducible exact Below.refl _ _ | with_reducible refine Below.drew_ ?_ | with_reducible refine Below.setCell ?_ (by first | (simp; done) | (simp; omega)) _ | with_reducible refine Below.alloc0 ?_ _))).size ((Apart.refl _ _).alloc _) (f8.wide (show Below wb.heap.size wb _ by (repeat' (first | with_reducible assumption | with_reducible exact Below.refl _ _ | with_reducible refine Below.drew_ ?_ | with_reducible refine Below.setCell ?_ (by first | (simp; done) | (simp; omega)) _ | with_reducible refine Below.alloc0 ?_ _))).size (Nat.le_refl _)) (.inl (by first | (simp; done) | (simp; omega))) (.inr (Nat.le_refl _)) (own_below (own_below (own_drew (HZ.out wb)) hB8) (b_alloc _ _)) (TBlk.new _ _ _) (by omega) (by (repeat' (first | with_reducible assumption | with_reducible exact Below.refl _ _ | with_reducible refine Below.drew_ ?_ | with_reducible refine Below.setCell ?_ (by first | (simp; done) | (simp; omega)) _ | with_reducible refine Below.alloc0 ?_ _)))
  · refine KEY _ A B n c k d wb.heap.size (wb.heap.size + 1) _ W8 D xs h8 (show Below wb.heap.size wb _ by (repeat' (first | with_reducible assumption | with_reducible exact Below.refl _ _ | with_reducible refine Below.drew_ ?_ | with_reducible refine Below.setCell ?_ (by first | (simp; done) | (simp; omega)) _ | with_reducible refine Below.alloc0 ?_ _))).size ((((Apart.refl _ _).set (by first | (simp; done) | (simp; omega)) 0 _).set (by first | (simp; done) | (simp; omega)) 1 _).set (by first | (simp; done) | (simp; omega)) 2 _) (f8.wide (show Below wb.heap.size wb _ by (repeat' (first | with_reducible assumption | with_reducible exact Below.refl _ _ | with_reducible refine Below.drew_ ?_ | with_reducible refine Below.setCell ?_ (by first | (simp; done) | (simp; omega)) _ | with_reducible refine Below.alloc0 ?_ _))).size (Nat.le_refl _)) (.inl (by first | (simp; done) | (simp; omega))) (.inl (by first | (simp; done) | (simp; omega))) ?_ (((qb.store 0 _).store 1 _).store 2 _) (by omega) (by (repeat' (first | with_reducible assumption | with_reducible exact Below.refl _ _ | with_reducible refine Below.drew_ ?_ | with_reducible refine Below.setCell ?_ (by first | (simp; done) | (simp; omega)) _ | with_reducible refine Below.alloc0 ?_ _)))
    exact own_shun (show (29 : TypeId) ≠ 23 by decide) 2 _ ((qb.store 0 _).store 1 _) (own_shun (show (29 : TypeId) ≠ 23 by decide) 1 _ (qb.store 0 _) (own_shun (show (29 : TypeId) ≠ 23 by decide) 0 _ qb (own_below (own_drew (own_below (HZ.out wb) (b_alloc _ _))) hB8)))
  · refine KEY _ A B n c k d W8.heap.size wb.heap.size _ W8 D xs h8 (show Below wb.heap.size wb _ by (repeat' (first | with_reducible assumption | with_reducible exact Below.refl _ _ | with_reducible refine Below.drew_ ?_ | with_reducible refine Below.setCell ?_ (by first | (simp; done) | (simp; omega)) _ | with_reducible refine Below.alloc0 ?_ _))).size (((((Apart.refl _ _).alloc _).set (by first | (simp; done) | (simp; omega)) 0 _).set (by first | (simp; done) | (simp; omega)) 1 _).set (by first | (simp; done) | (simp; omega)) 2 _) (f8.wide (show Below wb.heap.size wb _ by (repeat' (first | with_reducible assumption | with_reducible exact Below.refl _ _ | with_reducible refine Below.drew_ ?_ | with_reducible refine Below.setCell ?_ (by first | (simp; done) | (simp; omega)) _ | with_reducible refine Below.alloc0 ?_ _))).size (Nat.le_refl _)) (.inr (Nat.le_refl _)) (.inl (by first | (simp; done) | (simp; omega))) ?_ (((qd.store 0 _).store 1 _).store 2 _) (by omega) (by (repeat' (first | with_reducible assumption | with_reducible exact Below.refl _ _ | with_reducible refine Below.drew_ ?_ | with_reducible refine Below.setCell ?_ (by first | (simp; done) | (simp; omega)) _ | with_reducible refine Below.alloc0 ?_ _)))
    exact own_base (own_shun (show (29 : TypeId) ≠ 23 by decide) 2 _ ((qd.store 0 _).store 1 _) (own_shun (show (29 : TypeId) ≠ 23 by decide) 1 _ (qd.store 0 _) (own_shun (show (29 : TypeId) ≠ 23 by decide) 0 _ qd (HZ.out W8)))) z8
  · refine KEY _ A B n c k d (wb.heap.size + 1) wb.heap.size _ W8 D xs h8 (show Below wb.heap.size wb _ by (repeat' (first | with_reducible assumption | with_reducible exact Below.refl _ _ | with_reducible refine Below.drew_ ?_ | with_reducible refine Below.setCell ?_ (by first | (simp; done) | (simp; omega)) _ | with_reducible refine Below.alloc0 ?_ _))).size ((((Apart.refl _ _).set (by first | (simp; done) | (simp; omega)) 0 _).set (by first | (simp; done) | (simp; omega)) 1 _).set (by first | (simp; done) | (simp; omega)) 2 _) (f8.wide (show Below wb.heap.size wb _ by (repeat' (first | with_reducible assumption | with_reducible exact Below.refl _ _ | with_reducible refine Below.drew_ ?_ | with_reducible refine Below.setCell ?_ (by first | (simp; done) | (simp; omega)) _ | with_reducible refine Below.alloc0 ?_ _))).size (Nat.le_refl _)) (.inl (by first | (simp; done) | (simp; omega))) (.inl (by first | (simp; done) | (simp; omega))) ?_ (((qb.store 0 _).store 1 _).store 2 _) (by omega) (by (repeat' (first | with_reducible assumption | with_reducible exact Below.refl _ _ | with_reducible refine Below.drew_ ?_ | with_reducible refine Below.setCell ?_ (by first | (simp; done) | (simp; omega)) _ | with_reducible refine Below.alloc0 ?_ _)))
    have o0 := HZ.out (wb.alloc (.cells #[.slice none 0 0, .slice none 0 0, .slice none 0 0] 29))
    rw [size_alloc_] at o0
    have o1 := own_below (own_drew o0) hB8
    exact own_base (own_shun (show (29 : TypeId) ≠ 23 by decide) 2 _ ((qb.store 0 _).store 1 _) (own_shun (show (29 : TypeId) ≠ 23 by decide) 1 _ (qb.store 0 _) (own_shun (show (29 : TypeId) ≠ 23 by decide) 0 _ qb (o1)))) (by omega)
end Go.Proofs.Ytjpcdbdaimonlaa
