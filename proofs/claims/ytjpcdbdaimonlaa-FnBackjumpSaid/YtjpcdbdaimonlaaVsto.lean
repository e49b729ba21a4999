/- Valid stores. -/
import Derived.Test.YtjpcdbdaimonlaaSto
namespace Go.Proofs.Ytjpcdbdaimonlaa
open Go.ChangeShapes Go.WideShapes Go.ChangeAt Go.RowKit
open Go.Shelf
set_option linter.unusedVariables false
set_option maxRecDepth 100000

theorem StoR.parts {w : World} {B : Nat} {us : List Value} {s : Sto} (h : StoR w B us s) : ∃ da ca la cd cc lc, us = [.slice da s.model.doms.length cd, .slice ca s.model.cons.length cc, .slice la s.levels.length lc] ∧
    ModR w B [.slice da s.model.doms.length cd, .slice ca s.model.cons.length cc] s.model ∧ SlR (RowC IntC) w B la s.levels.length s.levels := by
  obtain ⟨u, v, la, lc, rfl, hm, hl, -⟩ := h
  have hm2 := hm
  obtain ⟨da, ca, cd, cc, e, -⟩ := hm
  simp at e
  obtain ⟨rfl, rfl⟩ := e
  exact ⟨da, ca, la, cd, cc, lc, rfl, hm2, hl⟩
set_option maxHeartbeats 4000000 in
theorem svalidDomains (A : Option Addr) (n c : Nat) (xs : List Int) (w : World) (h : IntR w w.heap.size A n xs) :
    Calls Try.prog 32 #[.slice A n c] w fun e w' => e = .returned (.bool (dokF xs)) ∧ w = w' := by
  have hn := h.le
  have hl := Lib.hid h.len
  go_enter Try.func32, Try.ntmps32
  go_wp2_with fail
  go_loop [3] (fun i => ∃ k : Nat, k ≤ n ∧ i = .int .i64 k ∧ Hid (AllB vdB xs k)) (fun i => n - (intOf i).toNat)
  case atStart => exact ⟨0, by omega, rfl, AllB.zero _ _⟩
  case round =>
    obtain ⟨k, hk, rfl, hq⟩ := hrel
    by_cases hlt : k < n
    · obtain ⟨ab, ao, x, rfl, hab, hxk, hcx⟩ := IntR.at_ h hlt
      have HXK := Lib.hid hxk
      clear hxk
      go_wp2_with fail
      refine (svalidDomain _ _).mono ?_
      rintro e w' ⟨rfl, rfl⟩
      cases hv : vdB x
      · have HE := Lib.hid (show dokF xs = false by unfold dokF; rw [show (xs.all fun x => inB x 0 63) = xs.all vdB from rfl, all_no (f := vdB) HXK.out hv]; simp)
        clear hv
        go_wp2_with fail
        go_ret
        exact ⟨ret_bool HE.out.symm, rfl⟩
      · have HV := Lib.hid hv
        clear hv
        go_wp2_with fail
        go_round
        case rel => exact ⟨k + 1, by omega, by go_num, AllB.succ hq.out HXK.out HV.out⟩
        case measure => simp [intOf]; omega
    · obtain rfl : k = n := by omega
      have HE := Lib.hid (show dokF xs = inB k 1 4 by unfold dokF; rw [show (xs.all fun x => inB x 0 63) = xs.all vdB from rfl, AllB.done hq.out (Nat.le_of_eq hl.out), hl.out]; simp)
      go_wp2_with fail
      refine (inRange _ _ _ _).mono ?_
      rintro e w' ⟨rfl, rfl⟩
      go_wp2_with fail
      go_ret
      exact ⟨ret_bool HE.out.symm, rfl⟩
theorem svalidDomains_b (A : Option Addr) (n c : Nat) (xs : List Int) (w : World) (b : Bool) (hb : dokF xs = b) (h : IntR w w.heap.size A n xs) :
    Calls Try.prog 32 #[.slice A n c] w fun e w' => e = .returned (.bool b) ∧ w = w' := by
  subst hb; exact svalidDomains A n c xs w h
def lvlF (m : Mod) (d : List Int) : Bool := ((d.length : Int) == (m.doms.length : Int)) && dokF d
def vstoF (s : Sto) : Bool := (s.levels.all (lvlF s.model)) && (vmodF s.model && inB s.levels.length 1 12)
set_option maxHeartbeats 4000000 in
theorem svalidStore (us : List Value) (s : Sto) (w : World) (h : StoR w w.heap.size us s) :
    Calls Try.prog 17 #[.agg us.toArray] w fun e w' => e = .returned (.bool (vstoF s)) ∧ Below w.heap.size w w' := by
  obtain ⟨da, ca, la, cd, cc, lc, rfl, g1, g2⟩ := h.parts
  clear h
  obtain ⟨wa, hwa⟩ : ∃ wa, wa = w.alloc (.cells #[.slice da s.model.doms.length cd, .slice ca s.model.cons.length cc, .slice la s.levels.length lc] 29) := ⟨_, rfl⟩
  have hb0 : Below w.heap.size w wa := by rw [hwa]; exact b_alloc _ _
  have hsz : wa.heap.size = w.heap.size + 1 := by rw [hwa, size_alloc_]
  have ha : TBlk 29 wa w.heap.size #[.slice da s.model.doms.length cd, .slice ca s.model.cons.length cc, .slice la s.levels.length lc] := by rw [hwa]; exact TBlk.new _ _ _
  have HA := Lib.hid ha
  have G1 := Lib.hid (ModR.on g1 hb0)
  have G2 := Lib.hid (SlR.on (RowC.keeps IntC.keeps) (RowC.widens IntC.widens) g2 hb0)
  have hn2 := g2.le
  obtain ⟨nd, hnd⟩ : ∃ nd, nd = s.model.doms.length := ⟨_, rfl⟩
  obtain ⟨nl, hnl⟩ : ∃ nl, nl = s.levels.length := ⟨_, rfl⟩
  rw [← hnd] at HA G1
  rw [← hnl] at HA G2 hn2
  rw [← hnd, ← hnl]
  have HND := Lib.hid hnd
  have HNL := Lib.hid hnl
  clear ha g1 g2 hnd hnl
  rw [← HND.out, ← HNL.out] at hwa
  go_enter Try.func17, Try.ntmps17
  go_wp2_with fail
  rw [← hwa]
  clear hwa
  go_loopw [3] (fun i wr => ∃ k : Nat, k ≤ nl ∧ i = .int .i64 k ∧ Hid (AllB (lvlF s.model) s.levels k) ∧ Below wa.heap.size wa wr) (fun i _ => nl - (intOf i).toNat)
  case atStart => exact ⟨0, by omega, rfl, AllB.zero _ _, Below.refl _ _⟩
  case round =>
    obtain ⟨k, hk, rfl, hq, hX⟩ := hrel
    have ha := HA.out.below_ hX (by omega)
    have a0 : wr.cell? ⟨w.heap.size, 0, none⟩ = some (.slice da nd cd) := ha.at_ 0 rfl
    have a1 : wr.cell? ⟨w.heap.size, 1, none⟩ = some (.slice ca s.model.cons.length cc) := ha.at_ 1 rfl
    have a2 : wr.cell? ⟨w.heap.size, 2, none⟩ = some (.slice la nl lc) := ha.at_ 2 rfl
    clear ha
    by_cases hlt : k < nl
    · obtain ⟨ab, ao, x, u, rfl, hab, hxk, hcx, A1, c1, rfl, hx1⟩ := SlR.at_ (G2.out.below (RowC.keeps IntC.keeps) hX) hlt
      have HXK := Lib.hid hxk
      have HX1 := Lib.hid (hx1.more IntC.widens hX.size)
      clear hxk hx1
      have hzx := hX.size
      have hc : wr.cell? ⟨ab, ao + k, none⟩ = some (.slice A1 x.length c1) := hcx
      have p0 : ∀ p : Later wr, p.val.cell? ⟨w.heap.size, 0, none⟩ = some (.slice da nd cd) := fun p => p.cell (by omega) a0
      have p2 : ∀ p : Later wr, p.val.cell? ⟨w.heap.size, 2, none⟩ = some (.slice (some ⟨ab, ao, none⟩) nl lc) := fun p => p.cell (by omega) a2
      have q0 : ∀ p : Later wr, p.val.cell? ⟨ab, ao + k, none⟩ = some (.slice A1 x.length c1) := fun p => p.cell (by omega) hcx
      cases t1 : ((x.length : Int) == (nd : Int))
      · have t2 : ((x.length : Int) != (nd : Int)) = true := by simp only [bne, t1]; rfl
        have HE := Lib.hid (show vstoF s = false by unfold vstoF; rw [all_no (f := lvlF s.model) HXK.out (by unfold lvlF; rw [← HND.out, t1]; rfl)]; rfl)
        clear t1
        go_wp2_with fail
        refine wp_region_later (by kernel_rfl) (by kernel_rfl) ?_
        repeat (go_big_quiet_step (first | fail))
        refine wpQuiet_nil ?_
        intro w5 hw'
        obtain ⟨⟨w6, hb5⟩, hw''⟩ := hw'
        subst hw''
        go_wp2_with fail
        go_ret
        exact ⟨ret_bool HE.out.symm, bgo hb0 (bgo hX hb5)⟩
      · have t2 : ((x.length : Int) != (nd : Int)) = false := by simp only [bne, t1]; rfl
        have T1 := Lib.hid t1
        clear t1
        cases hv : dokF x
        · have HV := Lib.hid hv
          have HE := Lib.hid (show vstoF s = false by unfold vstoF; rw [all_no (f := lvlF s.model) HXK.out (by unfold lvlF; rw [hv]; simp)]; rfl)
          clear hv
          go_wp2_with fail
          refine wp_region_later (by kernel_rfl) (by kernel_rfl) ?_
          repeat (go_big_quiet_step (first | (go_at_call 32; exact calls_later_same (svalidDomains_b _ _ _ x _ _ HV.out (IntR.on HX1.out (Later.below _))))))
          refine wpQuiet_nil ?_
          intro w5 hw'
          obtain ⟨⟨w6, hb5⟩, hw''⟩ := hw'
          subst hw''
          go_wp2_with fail
          go_ret
          exact ⟨ret_bool HE.out.symm, bgo hb0 (bgo hX hb5)⟩
        · have HV := Lib.hid hv
          clear hv
          go_wp2_with fail
          refine wp_region_later (by kernel_rfl) (by kernel_rfl) ?_
          repeat (go_big_quiet_step (first | (go_at_call 32; exact calls_later_same (svalidDomains_b _ _ _ x _ _ HV.out (IntR.on HX1.out (Later.below _))))))
          refine wpQuiet_nil ?_
          intro w5 hw'
          obtain ⟨⟨w6, hb5⟩, hw''⟩ := hw'
          subst hw''
          go_wp2_with fail
          go_roundw
          case rel => exact ⟨k + 1, by omega, by go_num, AllB.succ hq.out HXK.out (by unfold lvlF; rw [← HND.out, T1.out, HV.out]; rfl), bgo hX hb5⟩
          case measure => simp [intOf]; omega
    · obtain rfl : k = nl := by omega
      have H1 := Lib.hid (AllB.done hq.out (Nat.le_of_eq HNL.out.symm))
      clear hq
      go_wp2_with fail
      refine (svalidModel _ s.model _ (ModR.on (by rw [HND.out] at G1 ⊢; exact G1.out) hX)).mono ?_
      rintro e w2 ⟨rfl, hY⟩
      have hX2 := bgo hX hY
      clear a0 a1 a2
      have a2 : w2.cell? ⟨w.heap.size, 2, none⟩ = some (.slice la k lc) := (HA.out.below_ hX2 (by omega)).at_ 2 rfl
      cases h3 : vmodF s.model
      · have HE := Lib.hid (show vstoF s = false by unfold vstoF; rw [h3]; simp)
        clear h3
        go_wp2_with fail
        go_ret
        exact ⟨ret_bool HE.out.symm, bgo hb0 hX2⟩
      · have HE := Lib.hid (show vstoF s = inB (k : Int) 1 12 by unfold vstoF; rw [h3, H1.out, HNL.out]; simp)
        clear h3
        go_wp2_with fail
        refine (inRange _ _ _ _).mono ?_
        rintro e w' ⟨rfl, rfl⟩
        go_wp2_with fail
        go_ret
        exact ⟨ret_bool HE.out.symm, bgo hb0 hX2⟩
theorem vstoF_impl (s : Sto) : vstoF s = (vmodF s.model && (inB s.levels.length 1 12 && !(s.levels.any fun d => !lvlF s.model d))) := by
  unfold vstoF
  rw [← List.all_eq_not_any_not]
  generalize s.levels.all (lvlF s.model) = a
  generalize vmodF s.model = b
  generalize inB (s.levels.length : Int) 1 12 = d
  cases a <;> cases b <;> cases d <;> rfl
set_option maxHeartbeats 4000000 in
theorem validStoreC (A : Option Addr) (c : Nat) (x : List Int) (m : Mod) (b cd : Nat) (da : Option Addr) (w : World) (h0 : w.cell? ⟨b, 0, none⟩ = some (.slice da m.doms.length cd)) (h : IntR w w.heap.size A x.length x) :
    Calls Try.prog 22 (#[.slice A x.length c] ++ #[.pointer (some ⟨b, 0, none⟩)]) w fun e w' => e = .returned (.bool (!lvlF m x)) ∧ Below w.heap.size w w' := by
  have HX := Lib.hid h
  clear h
  cases hp : ((x.length : Int) == (m.doms.length : Int))
  · have hp2 : ((x.length : Int) != (m.doms.length : Int)) = true := by simp only [bne, hp]; rfl
    have HP := Lib.hid hp
    clear hp
    go_enter Try.func22, Try.ntmps22
    go_wp2_with fail
    go_ret
    exact ⟨ret_bool (by unfold lvlF; rw [HP.out]; rfl), Below.refl _ _⟩
  · have hp2 : ((x.length : Int) != (m.doms.length : Int)) = false := by simp only [bne, hp]; rfl
    have HP := Lib.hid hp
    clear hp
    go_enter Try.func22, Try.ntmps22
    go_wp2_with fail
    refine (domainsOk _ _ _ _ _ HX.out).mono ?_
    rintro e w1 ⟨rfl, hb1⟩
    go_wp2_with fail
    go_ret
    exact ⟨ret_bool (by unfold lvlF; rw [HP.out]; rfl), hb1⟩
set_option maxHeartbeats 4000000 in
theorem iValidStore (us : List Value) (s : Sto) (w : World) (h : StoR w w.heap.size us s) :
    Calls Try.prog 8 #[.agg us.toArray] w fun e w' => e = .returned (.bool (vstoF s)) ∧ Below w.heap.size w w' := by
  obtain ⟨da, ca, la, cd, cc, lc, rfl, g1, g2⟩ := h.parts
  clear h
  obtain ⟨wa, hwa⟩ : ∃ wa, wa = w.alloc (.cells #[.slice da s.model.doms.length cd, .slice ca s.model.cons.length cc, .slice la s.levels.length lc] 29) := ⟨_, rfl⟩
  have hb0 : Below w.heap.size w wa := by rw [hwa]; exact b_alloc _ _
  have hsz : wa.heap.size = w.heap.size + 1 := by rw [hwa, size_alloc_]
  have ha : TBlk 29 wa w.heap.size #[.slice da s.model.doms.length cd, .slice ca s.model.cons.length cc, .slice la s.levels.length lc] := by rw [hwa]; exact TBlk.new _ _ _
  have HA := Lib.hid ha
  have G1 := Lib.hid (ModR.on g1 hb0)
  have G2 := Lib.hid (SlR.on (RowC.keeps IntC.keeps) (RowC.widens IntC.widens) g2 hb0)
  have a0 : wa.cell? ⟨w.heap.size, 0, none⟩ = some (.slice da s.model.doms.length cd) := ha.at_ 0 rfl
  have a1 : wa.cell? ⟨w.heap.size, 1, none⟩ = some (.slice ca s.model.cons.length cc) := ha.at_ 1 rfl
  clear ha g1 g2
  go_enter Try.func8, Try.ntmps8
  go_wp2_with fail
  rw [← hwa]
  clear hwa
  refine (iValidModel _ s.model _ G1.out).mono ?_
  rintro e w1 ⟨rfl, hb1⟩
  have a0 : w1.cell? ⟨w.heap.size, 0, none⟩ = some (.slice da s.model.doms.length cd) := (HA.out.below_ hb1 (by omega)).at_ 0 rfl
  have a2 : w1.cell? ⟨w.heap.size, 2, none⟩ = some (.slice la s.levels.length lc) := (HA.out.below_ hb1 (by omega)).at_ 2 rfl
  cases t0 : vmodF s.model
  · have HE := Lib.hid (show vstoF s = false by rw [vstoF_impl, t0]; rfl)
    clear t0
    go_wp2_with fail
    go_ret
    exact ⟨ret_bool HE.out.symm, bgo hb0 hb1⟩
  have T0 := Lib.hid t0
  clear t0
  go_wp2_with fail
  refine (within _ _ _ _).mono ?_
  rintro e w' ⟨rfl, rfl⟩
  cases t1 : inB (s.levels.length : Int) 1 12
  · have HE := Lib.hid (show vstoF s = false by rw [vstoF_impl, T0.out, t1]; rfl)
    clear t1
    go_wp2_with fail
    go_ret
    exact ⟨ret_bool HE.out.symm, bgo hb0 hb1⟩
  have HE := Lib.hid (show vstoF s = !(s.levels.any fun d => !lvlF s.model d) by rw [vstoF_impl, T0.out, t1]; rfl)
  clear t1
  go_wp2_with fail
  have hz := hb1.size
  refine (containsFuncRow la s.levels.length lc s.levels 22 _ (fun d => !lvlF s.model d) _ (enters_of Try.func22 (by kernel_rfl) rfl) (RowsR.on G2.out hb1) (fun k x W A1 d1 _ hW hx => validStoreC A1 d1 x s.model _ cd da W ((hW.cell (p := ⟨w.heap.size, 0, none⟩) (by show w.heap.size < _; omega)).trans a0) hx)).mono ?_
  rintro e w2 ⟨rfl, hb2⟩
  clear a0 a2
  go_wp2_with fail
  go_ret
  exact ⟨ret_bool HE.out.symm, bgo hb0 (bgo hb1 hb2)⟩
end Go.Proofs.Ytjpcdbdaimonlaa
