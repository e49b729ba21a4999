/- Copies of numbers; the current domains of a store; marks on stores. -/
import Derived.Test.YtejlljingbgffaaVsto
import Derived.Test.YtejlljingbgffaaTouch
namespace Go.Proofs.Ytejlljingbgffaa
open Go.ChangeShapes Go.WideShapes Go.ChangeAt Go.RowKit
open Go.Shelf
set_option linter.unusedVariables false
set_option maxRecDepth 100000

/-- Numbers in memory as what an append takes. -/
theorem IntR.src {w : World} {B n c : Nat} {A : Option Addr} {xs : List Int} (h : IntR w B A n xs) (h0 : 0 < n) : Src w 1 A n c (xs.map (.int .i64)) := by
  obtain ⟨h1, -, h2⟩ := h
  obtain ⟨b, o, rfl, hb, hc⟩ := h2 h0
  refine .inr ⟨_, rfl, by rw [List.length_map, h1]; omega, fun j u hj => ?_⟩
  rw [List.getElem?_map] at hj
  cases hx : xs[j]? with
  | none => rw [hx] at hj; cases hj
  | some x =>
    rw [hx] at hj
    obtain ⟨u', hu, he⟩ := hc j x hx
    simp only [Option.map_some, Option.some.injEq] at hj
    rw [← hj, Addr.add_lit]
    rw [hu, he]
set_option maxHeartbeats 4000000 in
theorem scopyR (A : Option Addr) (n c : Nat) (xs : List Int) (w : World) (h : IntR w w.heap.size A n xs) (h0 : 0 < n) (hn : n ≤ 1048576) :
    Calls Try.prog 44 #[.slice A n c] w fun e w' => ∃ v', e = .returned v' ∧ OwnI 3 w' w.heap.size v' xs ∧ Below w.heap.size w w' := by
  obtain ⟨i0, hi0, hz0, hz1, hz2⟩ := info_parts info_int
  have hl := Lib.hid h.len
  have ol : (w.alloc (.cells #[] 3)).ownsRow w.heap.size 3 1 (.slice (some ⟨w.heap.size, 0, none⟩) 0 0) 0 [] := World.ownsRow_lit w #[] 0 (Nat.le_refl _) (by decide) rfl
  have hs : Src (w.alloc (.cells #[] 3)) 1 A n c (xs.map (.int .i64)) := (IntR.on h (b_alloc w (.cells #[] 3))).src h0
  clear h
  go_enter Try.func44, Try.ntmps44
  go_wp2_with (at_builtin; refine wpList_append_any rfl _ _ 22 rfl w.heap.size 3 i0 _ 1 8 Try.underlying22 hi0 hz0 hz1 hz2 rfl (by decide) (.slice (some ⟨w.heap.size, 0, none⟩) 0 0) _ _ rfl ol _ _ _ _ rfl hs (by simp [Value.oneCell']) (by unfold maxLen; omega) (by omega) (by rw [size_alloc_]; omega) ?_; intro v1 w1 ho1 hb1 _ _)
  have ho2 : OwnI 3 w1 w.heap.size v1 xs := ⟨by rw [hl.out]; simpa using ho1, by rw [hl.out]; omega⟩
  go_ret
  exact ⟨v1, rfl, ho2, (b_alloc _ _).trans hb1⟩
set_option maxHeartbeats 4000000 in
theorem cloneR (A : Option Addr) (n c : Nat) (xs : List Int) (w : World) (h : IntR w w.heap.size A n xs) (h0 : 0 < n) (hn : n ≤ 1048576) :
    Calls Try.prog 91 #[.slice A n c] w fun e w' => ∃ v', e = .returned v' ∧ OwnI 3 w' w.heap.size v' xs ∧ Below w.heap.size w w' := by
  obtain ⟨i0, hi0, hz0, hz1, hz2⟩ := info_parts info_int
  have hl := Lib.hid h.len
  have ol : (w.alloc (.cells #[] 3)).ownsRow w.heap.size 3 1 (.slice (some ⟨w.heap.size, 0, none⟩) 0 0) 0 [] := World.ownsRow_lit w #[] 0 (Nat.le_refl _) (by decide) rfl
  have hs : Src (w.alloc (.cells #[] 3)) 1 A n c (xs.map (.int .i64)) := (IntR.on h (b_alloc w (.cells #[] 3))).src h0
  obtain ⟨b, o, rfl, -⟩ := h.2.2 h0
  clear h
  have q22 : ∀ (w : World) (a : Option Addr) (n c n' c' : Nat), (binOp .eql 22 (.slice a n c) (.slice none n' c')).run Try.prog w = .ok (.bool a.isNone) w := fun w a n c n' c' => Lib.run_eql_slice_nil w _ _ a n c n' c' Try.underlying22
  have u22 : ∀ w, Sem.run Try.prog (underlying 22) w = .ok (TypeDesc.slice 3) w := run_underlying Try.underlying22
  go_enter Try.func91, Try.ntmps91
  go_wp2_with (at_builtin; refine wpList_append_any rfl _ _ 22 rfl w.heap.size 3 i0 _ 1 8 Try.underlying22 hi0 hz0 hz1 hz2 rfl (by decide) (.slice (some ⟨w.heap.size, 0, none⟩) 0 0) _ _ rfl ol _ _ _ _ rfl hs (by simp [Value.oneCell']) (by unfold maxLen; omega) (by omega) (by rw [size_alloc_]; omega) ?_; intro v1 w1 ho1 hb1 _ _)
  have ho2 : OwnI 3 w1 w.heap.size v1 xs := ⟨by rw [hl.out]; simpa using ho1, by rw [hl.out]; omega⟩
  go_ret
  exact ⟨v1, rfl, ho2, (b_alloc _ _).trans hb1⟩
set_option maxHeartbeats 4000000 in
theorem icopiedR (A : Option Addr) (n c : Nat) (xs : List Int) (w : World) (h : IntR w w.heap.size A n xs) (h0 : 0 < n) (hn : n ≤ 1048576) :
    Calls Try.prog 47 #[.slice A n c] w fun e w' => ∃ v', e = .returned v' ∧ HoldR w' w.heap.size 3 1 v' n (xs.map (.int .i64)) ∧ Below w.heap.size w w' := by
  have hl := Lib.hid h.len
  have H := Lib.hid h
  clear h
  go_enter Try.func47, Try.ntmps47
  go_wp2_with fail
  refine (cloneR _ _ _ xs _ H.out h0 hn).mono ?_
  rintro e w1 ⟨v, rfl, ho, hb⟩
  obtain ⟨A1, c1, rfl, -⟩ := IntR.of_own ho.1 ho.2
  have hh := HoldR.of_own ho.1
  rw [hl.out] at hh
  have HH := Lib.hid hh
  have hl2 := hl.out
  rw [hl2]
  clear hh ho hl2
  go_wp2_with fail
  refine (clipInt _ _ _ _ _ _ HH.out).mono ?_
  rintro e w2 ⟨rfl, rfl⟩
  go_wp2_with fail
  go_ret
  exact ⟨_, rfl, HH.out.clip, hb⟩
def curF (s : Sto) : List Int := if vstoF s = true then (s.levels[s.levels.length - 1]?).getD [] else []
theorem cur_last {s : Sto} (h : vstoF s = true) : ∃ d, s.levels[s.levels.length - 1]? = some d ∧ curF s = d ∧ 1 ≤ d.length ∧ d.length ≤ 4 ∧ 1 ≤ s.levels.length ∧ s.levels.length ≤ 12 := by
  have h' := h
  unfold vstoF at h
  simp only [Bool.and_eq_true, List.all_eq_true] at h
  have h3 := inB_true h.2.2
  have hlt : s.levels.length - 1 < s.levels.length := by omega
  have hd : s.levels[s.levels.length - 1]? = some s.levels[s.levels.length - 1] := List.getElem?_eq_getElem hlt
  have h4 := h.1 _ (List.getElem_mem hlt)
  unfold lvlF dokF at h4
  simp only [Bool.and_eq_true] at h4
  have h5 := inB_true h4.2.1
  exact ⟨_, hd, by unfold curF; rw [if_pos h', hd]; rfl, by omega, by omega, by omega, by omega⟩
theorem curF_no {s : Sto} (h : vstoF s = false) : curF s = [] := if_neg (by rw [h]; decide)
theorem curF_len (s : Sto) : (curF s).length ≤ 4 := by
  cases h : vstoF s
  · rw [curF_no h]; simp
  · obtain ⟨d, -, e, -, h4, -⟩ := cur_last h
    rw [e]; exact h4
set_option maxHeartbeats 4000000 in
theorem sCurrentDomains (us : List Value) (s : Sto) (w : World) (h : StoR w w.heap.size us s) :
    Calls Try.prog 10 #[.agg us.toArray] w fun e w' => ∃ v, e = .returned v ∧ w'.ownsRow w.heap.size 3 1 v (curF s).length ((curF s).map (.int .i64)) ∧ Below w.heap.size w w' := by
  have H0 := h
  obtain ⟨da, ca, la, cd, cc, lc, rfl, g1, g2⟩ := h.parts
  clear h
  obtain ⟨wa, hwa⟩ : ∃ wa, wa = w.alloc (.cells #[.slice da s.model.doms.length cd, .slice ca s.model.cons.length cc, .slice la s.levels.length lc] 35) := ⟨_, rfl⟩
  have hb0 : Below w.heap.size w wa := by rw [hwa]; exact b_alloc _ _
  have hsz : wa.heap.size = w.heap.size + 1 := by rw [hwa, size_alloc_]
  have ha : TBlk 35 wa w.heap.size #[.slice da s.model.doms.length cd, .slice ca s.model.cons.length cc, .slice la s.levels.length lc] := by rw [hwa]; exact TBlk.new _ _ _
  have HA := Lib.hid ha
  have G0 := Lib.hid (StoR.on H0 hb0)
  have G2 := Lib.hid (SlR.on (RowC.keeps IntC.keeps) (RowC.widens IntC.widens) g2 hb0)
  clear ha g1 g2 H0
  go_enter Try.func10, Try.ntmps10
  go_wp2_with fail
  rw [← hwa]
  clear hwa
  refine (svalidStore _ s _ G0.out).mono ?_
  rintro e w1 ⟨rfl, hb1⟩
  cases t0 : vstoF s
  · have HE := Lib.hid (curF_no t0)
    clear t0
    go_wp2_with fail
    go_ret
    exact ⟨_, rfl, by rw [HE.out]; exact World.ownsRow_nil _ _ _ _, bgo hb0 hb1⟩
  obtain ⟨x, hx, he, hx1, hx4, hL1, hL12⟩ := cur_last t0
  have HE := Lib.hid he
  have a2 : w1.cell? ⟨w.heap.size, 2, none⟩ = some (.slice la s.levels.length lc) := (HA.out.below_ hb1 (by omega)).at_ 2 rfl
  obtain ⟨ab, ao, x', u, rfl, hab, hxk, hcx, A1, c1, rfl, hr⟩ := SlR.at_ (k := s.levels.length - 1) (G2.out.below (RowC.keeps IntC.keeps) hb1) (by omega)
  rw [hx] at hxk
  injection hxk with hxk
  subst hxk
  have HR := Lib.hid (hr.more IntC.widens hb1.size)
  have hsub : wrap64 ((s.levels.length : Int) - 1) = ((s.levels.length - 1 : Nat) : Int) := by rw [IntWalk.wrap64_in _ ⟨by omega, by omega⟩]; omega
  have hi0 : (0 : Int) ≤ ((s.levels.length - 1 : Nat) : Int) := by omega
  have hi1 : ((s.levels.length - 1 : Nat) : Int) < (s.levels.length : Int) := by omega
  clear t0 hx he hr
  go_wp2_with fail
  refine (scopyR _ _ _ x _ HR.out (by omega) (by omega)).mono ?_
  rintro e w2 ⟨v, rfl, ho, hb2⟩
  have HO := Lib.hid (own_base ho.1 (base' := w.heap.size) (by have := hb0.size; have := hb1.size; omega))
  clear ho a2 hcx
  go_wp2_with fail
  go_ret
  exact ⟨_, rfl, by rw [HE.out]; exact HO.out, bgo hb0 (bgo hb1 hb2)⟩
set_option maxHeartbeats 4000000 in
theorem icurrent (us : List Value) (s : Sto) (w : World) (h : StoR w w.heap.size us s) (hv : vstoF s = true) :
    Calls Try.prog 48 #[.agg us.toArray] w fun e w' => ∃ A c, e = .returned (.slice A (curF s).length c) ∧ IntR w' w'.heap.size A (curF s).length (curF s) ∧ Below w.heap.size w w' := by
  obtain ⟨da, ca, la, cd, cc, lc, rfl, g1, g2⟩ := h.parts
  clear h
  obtain ⟨wa, hwa⟩ : ∃ wa, wa = w.alloc (.cells #[.slice da s.model.doms.length cd, .slice ca s.model.cons.length cc, .slice la s.levels.length lc] 35) := ⟨_, rfl⟩
  have hb0 : Below w.heap.size w wa := by rw [hwa]; exact b_alloc _ _
  have ha : TBlk 35 wa w.heap.size #[.slice da s.model.doms.length cd, .slice ca s.model.cons.length cc, .slice la s.levels.length lc] := by rw [hwa]; exact TBlk.new _ _ _
  have g3 := SlR.on (RowC.keeps IntC.keeps) (RowC.widens IntC.widens) g2 hb0
  obtain ⟨x, hx, he, hx1, hx4, hL1, hL12⟩ := cur_last hv
  have HE := Lib.hid he
  have a2 : wa.cell? ⟨w.heap.size, 2, none⟩ = some (.slice la s.levels.length lc) := ha.at_ 2 rfl
  obtain ⟨ab, ao, x', u, rfl, hab, hxk, hcx, A1, c1, rfl, hr⟩ := SlR.at_ (k := s.levels.length - 1) g3 (by omega)
  rw [hx] at hxk
  injection hxk with hxk
  subst hxk
  have HR := Lib.hid hr
  have hsub : wrap64 ((s.levels.length : Int) - 1) = ((s.levels.length - 1 : Nat) : Int) := by rw [IntWalk.wrap64_in _ ⟨by omega, by omega⟩]; omega
  have hi0 : (0 : Int) ≤ ((s.levels.length - 1 : Nat) : Int) := by omega
  have hi1 : ((s.levels.length - 1 : Nat) : Int) < (s.levels.length : Int) := by omega
  have hcw : (w.alloc (.cells #[.slice da s.model.doms.length cd, .slice ca s.model.cons.length cc, .slice (some ⟨ab, ao, none⟩) s.levels.length lc] 35)).cell? ⟨ab, ao + (s.levels.length - 1), none⟩ = some (.slice A1 x.length c1) := by rw [← hwa]; exact hcx
  clear hx he hr ha g1 g2 g3 hv hcx a2
  go_enter Try.func48, Try.ntmps48
  go_wp2_with fail
  rw [← hwa]
  clear hwa hcw
  go_ret
  exact ⟨A1, c1, by rw [HE.out]; rfl, by rw [HE.out]; exact HR.out, hb0⟩
set_option maxHeartbeats 4000000 in
theorem iCurrentDomains (us : List Value) (s : Sto) (w : World) (h : StoR w w.heap.size us s) :
    Calls Try.prog 12 #[.agg us.toArray] w fun e w' => ∃ v, e = .returned v ∧ HoldR w' w.heap.size 3 1 v (curF s).length ((curF s).map (.int .i64)) ∧ Below w.heap.size w w' := by
  have H0 := h
  obtain ⟨da, ca, la, cd, cc, lc, rfl, g1, g2⟩ := h.parts
  clear h
  obtain ⟨wa, hwa⟩ : ∃ wa, wa = w.alloc (.cells #[.slice da s.model.doms.length cd, .slice ca s.model.cons.length cc, .slice la s.levels.length lc] 35) := ⟨_, rfl⟩
  have hb0 : Below w.heap.size w wa := by rw [hwa]; exact b_alloc _ _
  have hsz : wa.heap.size = w.heap.size + 1 := by rw [hwa, size_alloc_]
  have ha : TBlk 35 wa w.heap.size #[.slice da s.model.doms.length cd, .slice ca s.model.cons.length cc, .slice la s.levels.length lc] := by rw [hwa]; exact TBlk.new _ _ _
  have HA := Lib.hid ha
  have G0 := Lib.hid (StoR.on H0 hb0)
  clear ha g1 g2 H0
  go_enter Try.func12, Try.ntmps12
  go_wp2_with fail
  rw [← hwa]
  clear hwa
  refine (iValidStore _ s _ G0.out).mono ?_
  rintro e w1 ⟨rfl, hb1⟩
  have ha := HA.out.below_ hb1 (by omega)
  have a0 : w1.cell? ⟨w.heap.size, 0, none⟩ = some (.slice da s.model.doms.length cd) := ha.at_ 0 rfl
  have a1 : w1.cell? ⟨w.heap.size, 1, none⟩ = some (.slice ca s.model.cons.length cc) := ha.at_ 1 rfl
  have a2 : w1.cell? ⟨w.heap.size, 2, none⟩ = some (.slice la s.levels.length lc) := ha.at_ 2 rfl
  clear ha
  cases t0 : vstoF s
  · have HE := Lib.hid (curF_no t0)
    clear t0
    go_wp2_with fail
    go_ret
    exact ⟨_, rfl, by rw [HE.out]; exact HoldR.nil _ _ _ _, bgo hb0 hb1⟩
  have T0 := Lib.hid t0
  obtain ⟨x, hx, he, hx1, hx4, hL1, hL12⟩ := cur_last t0
  have h1 : 1 ≤ (curF s).length := by rw [he]; exact hx1
  have h4 := curF_len s
  clear t0 hx he hx1 hx4
  go_wp2_with fail
  refine (icurrent _ s _ (StoR.on G0.out hb1) T0.out).mono ?_
  rintro e w2 ⟨A2, c2, rfl, hr, hb2⟩
  have HR := Lib.hid hr
  clear hr
  go_wp2_with fail
  refine (icopiedR _ _ _ _ _ HR.out (by omega) (by omega)).mono ?_
  rintro e w3 ⟨v, rfl, ho, hb3⟩
  have HO := Lib.hid (ho.base_ (base' := w.heap.size) (by have := hb0.size; have := hb1.size; have := hb2.size; omega))
  clear ho
  go_wp2_with fail
  go_ret
  exact ⟨_, rfl, HO.out, bgo hb0 (bgo hb1 (bgo hb2 hb3))⟩
/-- A store whose blocks lie from lo to below hi. -/
def HSto (w : World) (lo hi : Nat) (us : List Value) : Prop := ∃ u v la nl lc, us = [u, v, .slice la nl lc] ∧ nl ≤ 1048576 ∧ HMod w lo hi [u, v] ∧ HRows w lo hi la nl
theorem HSto.keep {w w' : World} {lo hi : Nat} {us : List Value} (h : HSto w lo hi us) (k : Keep w w') : HSto w' lo hi us := by
  obtain ⟨u, v, la, nl, lc, e, h1, h2, h3⟩ := h
  exact ⟨u, v, la, nl, lc, e, h1, h2.keep k, h3.keep k⟩
theorem HSto.of_own {w : World} {base : Nat} {us : List Value} {s : Sto} (h : OwnSto w base (.agg us.toArray) s) (hs : SmSto s) : HSto w base w.heap.size us := by
  obtain ⟨dv, cv, lv, he, o1, o2⟩ := h
  injection he with he
  have he2 : us = [dv, cv, lv] := by simpa using congrArg Array.toList he
  obtain ⟨A2, c2, rfl, -⟩ := read2 o2
  exact ⟨dv, cv, A2, _, c2, he2, hs.2.1, HMod.of_own (us := [dv, cv]) o1 hs.1, HRows.of_own o2 hs.2.2⟩
set_option maxHeartbeats 4000000 in
theorem markStoreT (us : List Value) (lo hi : Nat) (k : Int) (w : World) (h : HSto w lo hi us) (hlo : lo ≤ w.heap.size) (h0 : 0 ≤ k) (h1 : k ≤ 1099510000000) :
    Calls Try.prog 15 #[.agg us.toArray, .int .i64 k] w fun e w' => ∃ k' : Int, e = .returned (.int .i64 k') ∧ k ≤ k' ∧ k' ≤ k + 2305844108726370304 ∧ Touch lo hi w w' ∧ Keep w w' := by
  obtain ⟨u, v, la, nl, lc, rfl, g1, g2, g3⟩ := h
  have g2' := g2
  obtain ⟨da, nd, cd, ca, nc, cc, e2, -⟩ := g2'
  simp only [List.cons.injEq, and_true] at e2
  obtain ⟨rfl, rfl⟩ := e2
  obtain ⟨wa, hwa⟩ : ∃ wa, wa = w.alloc (.cells #[.slice da nd cd, .slice ca nc cc, .slice la nl lc] 35) := ⟨_, rfl⟩
  have hb0 : Below w.heap.size w wa := by rw [hwa]; exact b_alloc _ _
  have hsz : wa.heap.size = w.heap.size + 1 := by rw [hwa, size_alloc_]
  have ha : TBlk 35 wa w.heap.size #[.slice da nd cd, .slice ca nc cc, .slice la nl lc] := by rw [hwa]; exact TBlk.new _ _ _
  have HA := Lib.hid ha
  have TA := Lib.hid (Touch.of_below (lo := lo) (hi := hi) hb0 hlo)
  have KA := Lib.hid (Keep.of_below hb0)
  have G2 := Lib.hid (g2.keep KA.out)
  have G3 := Lib.hid (g3.keep KA.out)
  have a0 : wa.cell? ⟨w.heap.size, 0, none⟩ = some (.slice da nd cd) := ha.at_ 0 rfl
  have a1 : wa.cell? ⟨w.heap.size, 1, none⟩ = some (.slice ca nc cc) := ha.at_ 1 rfl
  clear g2 g3 ha hb0
  go_enter Try.func15, Try.ntmps15
  go_wp2_with fail
  rw [← hwa]
  clear hwa
  refine (markModelT _ lo hi k wa G2.out (by omega) h0 h1).mono ?_
  rintro e w1 ⟨k1, rfl, p1, p2, ht1, hq1⟩
  obtain ⟨cs1, b1, b2, -⟩ := hq1 _ _ _ HA.out
  have a2 : w1.cell? ⟨w.heap.size, 2, none⟩ = some (.slice la nl lc) := by rw [cell_of_row w1 _ _ cs1 _ _ b1]; exact b2 2 _ _ _ rfl
  have z1 := ht1.1.size
  have TB := Lib.hid (TA.out.trans ht1)
  have KB := Lib.hid (KA.out.trans hq1)
  have G5 := Lib.hid (G3.out.keep hq1)
  clear ht1 hq1 b1 b2 a0 a1
  go_wp2_with fail
  refine (markIntSST la nl lc lo hi k1 w1 G5.out (by omega) g1 (by omega) (by omega)).mono ?_
  rintro e w2 ⟨k2, rfl, p3, p4, ht2, hq2⟩
  have TC := Lib.hid (TB.out.trans ht2)
  have KC := Lib.hid (KB.out.trans hq2)
  clear ht2 hq2
  go_wp2_with fail
  go_ret
  exact ⟨k2, rfl, by omega, by omega, TC.out, KC.out⟩
end Go.Proofs.Ytejlljingbgffaa
