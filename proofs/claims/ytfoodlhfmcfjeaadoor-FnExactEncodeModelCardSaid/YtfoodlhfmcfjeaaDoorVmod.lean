/- Valid models. -/
import Derived.Test.YtfoodlhfmcfjeaaDoorBox
import Derived.Test.YtfoodlhfmcfjeaaDoorVcon
import Derived.Test.YtfoodlhfmcfjeaaDoorFits
namespace Go.Proofs.YtfoodlhfmcfjeaaDoor
open Go.ChangeShapes Go.WideShapes Go.ChangeAt Go.RowKit
open Go.Shelf
set_option linter.unusedVariables false
set_option maxRecDepth 100000

def vmodF (m : Mod) : Bool := (m.doms.all vdB) && ((m.cons.all fun c => vconF c m.doms.length) && (inB m.doms.length 1 4 && decide ((m.cons.length : Int) ≤ 6)))
theorem ConR.at_ {w : World} {B n i : Nat} {A : Option Addr} {xs : List Con} (h : ConsR w B A n xs) (hi : i < n) : ∃ b o c va aa ra cv ca cr, A = some ⟨b, o, none⟩ ∧ b < B ∧ xs[i]? = some c ∧
    w.cell? ⟨b, o + i * 5, none⟩ = some (.int .i64 c.kind) ∧ w.cell? ⟨b, o + i * 5 + 1, none⟩ = some (.slice va c.vars.length cv) ∧ w.cell? ⟨b, o + i * 5 + 2, none⟩ = some (.slice aa c.args.length ca) ∧ w.cell? ⟨b, o + i * 5 + 3, none⟩ = some (.int .i64 c.bound) ∧ w.cell? ⟨b, o + i * 5 + 4, none⟩ = some (.slice ra c.rows.length cr) ∧
    ConR w B [.int .i64 c.kind, .slice va c.vars.length cv, .slice aa c.args.length ca, .int .i64 c.bound, .slice ra c.rows.length cr] c := by
  obtain ⟨b, o, c, us, e, hb, hx, hl, hu, hr⟩ := SlK.at_ h hi
  obtain ⟨va, aa, ra, cv, ca, cr, rfl, q⟩ := hr
  exact ⟨b, o, c, va, aa, ra, cv, ca, cr, e, hb, hx, hu 0 _ rfl, hu 1 _ rfl, hu 2 _ rfl, hu 3 _ rfl, hu 4 _ rfl, va, aa, ra, cv, ca, cr, rfl, q⟩
theorem svalidConstraint_b (us : List Value) (c : Con) (m : Int) (w : World) (b : Bool) (hb : vconF c m = b) (h : ConR w w.heap.size us c) :
    Calls Tryd.prog 24 #[.agg us.toArray, .int .i64 m] w fun e w' => e = .returned (.bool b) ∧ Below w.heap.size w w' := by
  subst hb; exact svalidConstraint us c m w h
set_option maxHeartbeats 4000000 in
theorem svalidModel (us : List Value) (m : Mod) (w : World) (h : ModR w w.heap.size us m) :
    Calls Tryd.prog 11 #[.agg us.toArray] w fun e w' => e = .returned (.bool (vmodF m)) ∧ Below w.heap.size w w' := by
  obtain ⟨da, ca, cd, cc, rfl, g1, g2, -⟩ := h
  obtain ⟨wa, hwa⟩ : ∃ wa, wa = w.alloc (.cells #[.slice da m.doms.length cd, .slice ca m.cons.length cc] 30) := ⟨_, rfl⟩
  have hb0 : Below w.heap.size w wa := by rw [hwa]; exact b_alloc _ _
  have hsz : wa.heap.size = w.heap.size + 1 := by rw [hwa, size_alloc_]
  have ha : TBlk 30 wa w.heap.size #[.slice da m.doms.length cd, .slice ca m.cons.length cc] := by rw [hwa]; exact TBlk.new _ _ _
  have HA := Lib.hid ha
  have G1 := Lib.hid (IntR.on g1 hb0)
  have G2 := Lib.hid (ConsR.on g2 hb0)
  have hn1 := g1.le
  have hn2 := g2.le
  obtain ⟨nd, hnd⟩ : ∃ nd, nd = m.doms.length := ⟨_, rfl⟩
  obtain ⟨nc, hnc⟩ : ∃ nc, nc = m.cons.length := ⟨_, rfl⟩
  rw [← hnd] at HA G1 hn1
  rw [← hnc] at HA G2 hn2
  rw [← hnd, ← hnc]
  have HND := Lib.hid hnd
  have HNC := Lib.hid hnc
  clear ha g1 g2 hnd hnc
  rw [← HND.out, ← HNC.out] at hwa
  go_enter Tryd.func11, Tryd.ntmps11
  go_wp2_with fail
  rw [← hwa]
  clear hwa
  go_loopw [3] (fun i wr => ∃ k : Nat, k ≤ nd ∧ i = .int .i64 k ∧ Hid (AllB vdB m.doms k) ∧ Below wa.heap.size wa wr) (fun i _ => nd - (intOf i).toNat)
  case atStart => exact ⟨0, by omega, rfl, AllB.zero _ _, Below.refl _ _⟩
  case round =>
    obtain ⟨k, hk, rfl, hq, hX⟩ := hrel
    have ha := HA.out.below_ hX (by omega)
    have a0 : wr.cell? ⟨w.heap.size, 0, none⟩ = some (.slice da nd cd) := ha.at_ 0 rfl
    have a1 : wr.cell? ⟨w.heap.size, 1, none⟩ = some (.slice ca nc cc) := ha.at_ 1 rfl
    clear ha
    by_cases hlt : k < nd
    · obtain ⟨ab, ao, x, rfl, hab, hxk, hcx⟩ := IntR.at_ (G1.out.below IntC.keeps hX) hlt
      have HXK := Lib.hid hxk
      clear hxk
      go_wp2_with fail
      refine (svalidDomain _ _).mono ?_
      rintro e w' ⟨rfl, rfl⟩
      cases hv : vdB x
      · have HE := Lib.hid (show vmodF m = false by unfold vmodF; rw [all_no (f := vdB) HXK.out hv]; rfl)
        clear hv
        go_wp2_with fail
        go_ret
        exact ⟨ret_bool HE.out.symm, bgo hb0 hX⟩
      · have HV := Lib.hid hv
        clear hv
        go_wp2_with fail
        go_roundw
        case rel => exact ⟨k + 1, by omega, by go_num, AllB.succ hq.out HXK.out HV.out, hX⟩
        case measure => simp [intOf]; omega
    · obtain rfl : k = nd := by omega
      have H1 := Lib.hid (AllB.done hq.out (Nat.le_of_eq HND.out.symm))
      clear hq
      rename World => wo
      go_wp2_with fail
      go_loopw [4] (fun i wr => ∃ j : Nat, j ≤ nc ∧ i = .int .i64 j ∧ Hid (AllB (fun c => vconF c k) m.cons j) ∧ Below wa.heap.size wa wr) (fun i _ => nc - (intOf i).toNat)
      case atStart => exact ⟨0, by omega, rfl, AllB.zero _ _, hX⟩
      case round =>
        obtain ⟨j, hj, rfl, hq, hX⟩ := hrel
        have ha := HA.out.below_ hX (by omega)
        have a0 : wr.cell? ⟨w.heap.size, 0, none⟩ = some (.slice da k cd) := ha.at_ 0 rfl
        have a1 : wr.cell? ⟨w.heap.size, 1, none⟩ = some (.slice ca nc cc) := ha.at_ 1 rfl
        clear ha
        by_cases hlt2 : j < nc
        · obtain ⟨ab, ao, c, va, aa, ra, cv, ca', cr, rfl, hab, hxk, c0, c1, c2, c3, c4, hc⟩ := ConR.at_ (G2.out.below ConR.keeps hX) hlt2
          have HXK := Lib.hid hxk
          have HC := Lib.hid (ConR.widens _ _ _ _ _ hX.size hc)
          clear hxk hc
          have p0 : ∀ p : Later wr, p.val.cell? ⟨w.heap.size, 0, none⟩ = some (.slice da k cd) := fun p => p.cell (by have := hX.size; omega) a0
          have p1 : ∀ p : Later wr, p.val.cell? ⟨w.heap.size, 1, none⟩ = some _ := fun p => p.cell (by have := hX.size; omega) a1
          have q0 : ∀ p : Later wr, p.val.cell? ⟨ab, ao + j * 5, none⟩ = some _ := fun p => p.cell (by have := hX.size; omega) c0
          have q1 : ∀ p : Later wr, p.val.cell? ⟨ab, ao + j * 5 + 1, none⟩ = some _ := fun p => p.cell (by have := hX.size; omega) c1
          have q2 : ∀ p : Later wr, p.val.cell? ⟨ab, ao + j * 5 + 2, none⟩ = some _ := fun p => p.cell (by have := hX.size; omega) c2
          have q3 : ∀ p : Later wr, p.val.cell? ⟨ab, ao + j * 5 + 3, none⟩ = some _ := fun p => p.cell (by have := hX.size; omega) c3
          have q4 : ∀ p : Later wr, p.val.cell? ⟨ab, ao + j * 5 + 4, none⟩ = some _ := fun p => p.cell (by have := hX.size; omega) c4
          clear c0 c1 c2 c3 c4
          cases hv : vconF c k
          · have HV := Lib.hid hv
            clear hv
            go_wp2_with fail
            refine wp_region_later (by kernel_rfl) (by kernel_rfl) ?_
            repeat (go_big_quiet_step (first | (go_at_call 24; exact calls_later (svalidConstraint_b _ c _ _ _ HV.out (ConR.on HC.out (Later.below _))))))
            refine wpQuiet_nil ?_
            intro w5 hw'
            obtain ⟨⟨w6, hb5⟩, hw''⟩ := hw'
            subst hw''
            have HE := Lib.hid (show vmodF m = false by unfold vmodF; rw [all_no (f := fun c => vconF c m.doms.length) HXK.out (by rw [← HND.out]; exact HV.out)]; simp)
            go_wp2_with fail
            go_ret
            exact ⟨ret_bool HE.out.symm, bgo hb0 (bgo hX hb5)⟩
          · have HV := Lib.hid hv
            clear hv
            go_wp2_with fail
            refine wp_region_later (by kernel_rfl) (by kernel_rfl) ?_
            repeat (go_big_quiet_step (first | (go_at_call 24; exact calls_later (svalidConstraint_b _ c _ _ _ HV.out (ConR.on HC.out (Later.below _))))))
            refine wpQuiet_nil ?_
            intro w5 hw'
            obtain ⟨⟨w6, hb5⟩, hw''⟩ := hw'
            subst hw''
            go_wp2_with fail
            go_roundw
            case rel => exact ⟨j + 1, by omega, by go_num, AllB.succ hq.out HXK.out HV.out, bgo hX hb5⟩
            case measure => simp [intOf]; omega
        · obtain rfl : j = nc := by omega
          have H2 := Lib.hid (AllB.done hq.out (Nat.le_of_eq HNC.out.symm))
          clear hq
          go_wp2_with fail
          refine (inRange _ _ _ _).mono ?_
          rintro e w' ⟨rfl, rfl⟩
          cases h3 : inB (k : Int) 1 4
          · have HE := Lib.hid (show vmodF m = false by unfold vmodF; rw [← HND.out, h3]; simp)
            clear h3
            go_wp2_with fail
            go_ret
            exact ⟨ret_bool HE.out.symm, bgo hb0 hX⟩
          · have HE := Lib.hid (show vmodF m = decide ((j : Int) ≤ 6) by unfold vmodF; rw [← HND.out, ← HNC.out, h3, H1.out, H2.out]; simp)
            clear h3
            go_wp2_with fail
            go_ret
            exact ⟨ret_bool HE.out.symm, bgo hb0 hX⟩
set_option maxHeartbeats 4000000 in
theorem indexCon (A : Option Addr) (n c : Nat) (xs : List Con) (g : Nat) (lb : Array Value) (p : Con → Bool) (w : World) (eg : ∀ args w, (callFunc g args).run Tryd.prog w = .ok (.enter g args) w)
    (h : ConsR w w.heap.size A n xs) (hp : ∀ (k : Nat) x us W, xs[k]? = some x → Below w.heap.size w W → ConR W W.heap.size us x → Calls Tryd.prog g (#[.agg us.toArray] ++ lb) W fun e W' => e = .returned (.bool (p x)) ∧ Below W.heap.size W W') :
    Calls Tryd.prog 51 #[.slice A n c, .func (.func g) #[] lb] w fun e w' => ∃ j : Int, e = .returned (.int .i64 j) ∧ decide (0 ≤ j) = xs.any p ∧ Below w.heap.size w w' := by
  have hn := h.le
  have hl := Lib.hid h.len
  have HP := Lib.hid hp
  clear hp
  go_enter Tryd.func51, Tryd.ntmps51
  go_wp2_with fail
  go_loopw [8] (fun i wr => ∃ k : Nat, k ≤ n ∧ i = .int .i64 k ∧ Hid (AllB (fun x => !p x) xs k) ∧ Below w.heap.size w wr) (fun i _ => n - (intOf i).toNat)
  case atStart => exact ⟨0, by omega, rfl, AllB.zero _ _, Below.refl _ _⟩
  case round =>
    obtain ⟨k, hk, rfl, hq, hb⟩ := hrel
    by_cases hlt : k < n
    · obtain ⟨ab, ao, x, va, aa, ra, cv, ca', cr, rfl, hab, hxk, c0, c1, c2, c3, c4, hc⟩ := ConR.at_ (SlK.below ConR.keeps h hb) hlt
      have HX := Lib.hid hxk
      have HX1 := Lib.hid (ConR.widens _ _ _ _ _ hb.size hc)
      clear hxk hc
      cases hpx : p x
      · have HF := Lib.hid hpx
        clear hpx
        go_wp2_with fail
        refine (HP.out k x _ _ HX.out hb HX1.out).mono ?_
        rw [HF.out]
        rintro e w1 ⟨rfl, hb1⟩
        go_wp2_with fail
        go_roundw
        case rel => exact ⟨k + 1, by omega, by go_num, AllB.succ hq.out HX.out (by simp [HF.out]), bgo hb hb1⟩
        case measure => simp [intOf]; omega
      · have HF := Lib.hid hpx
        clear hpx
        go_wp2_with fail
        refine (HP.out k x _ _ HX.out hb HX1.out).mono ?_
        rw [HF.out]
        rintro e w1 ⟨rfl, hb1⟩
        go_wp2_with fail
        go_ret
        refine ⟨k, rfl, ?_, bgo hb hb1⟩
        have : xs.any p = true := List.any_eq_true.2 ⟨x, List.mem_of_getElem? HX.out, HF.out⟩
        rw [this]
        simp
    · obtain rfl : k = n := by omega
      go_wp2_with fail
      go_ret
      refine ⟨-1, rfl, ?_, hb⟩
      have := AllB.done hq.out (Nat.le_of_eq hl.out)
      rw [List.all_eq_not_any_not] at this
      simp only [Bool.not_not] at this
      have h2 : xs.any p = false := by simpa using this
      rw [h2]
      decide
theorem containsFuncCon (A : Option Addr) (n c : Nat) (xs : List Con) (g : Nat) (lb : Array Value) (p : Con → Bool) (w : World) (eg : ∀ args w, (callFunc g args).run Tryd.prog w = .ok (.enter g args) w)
    (h : ConsR w w.heap.size A n xs) (hp : ∀ (k : Nat) x us W, xs[k]? = some x → Below w.heap.size w W → ConR W W.heap.size us x → Calls Tryd.prog g (#[.agg us.toArray] ++ lb) W fun e W' => e = .returned (.bool (p x)) ∧ Below W.heap.size W W') :
    Calls Tryd.prog 30 #[.slice A n c, .func (.func g) #[] lb] w fun e w' => e = .returned (.bool (xs.any p)) ∧ Below w.heap.size w w' := by
  have HP := Lib.hid hp
  have HE := Lib.hid eg
  clear hp eg
  go_enter Tryd.func30, Tryd.ntmps30
  go_wp2_with fail
  refine (indexCon A n c xs g lb p w HE.out h HP.out).mono ?_
  rintro e w1 ⟨j, rfl, hj, hb⟩
  have HJ := Lib.hid hj
  clear hj
  go_wp2_with fail
  go_ret
  exact ⟨ret_bool HJ.out, hb⟩
def dokF (xs : List Int) : Bool := inB (xs.length : Int) 1 4 && xs.all fun x => inB x 0 63
set_option maxHeartbeats 4000000 in
theorem domainsOk (A : Option Addr) (n c : Nat) (xs : List Int) (w : World) (h : IntR w w.heap.size A n xs) :
    Calls Tryd.prog 29 #[.slice A n c] w fun e w' => e = .returned (.bool (dokF xs)) ∧ Below w.heap.size w w' := by
  have hl := Lib.hid h.len
  have H := Lib.hid h
  clear h
  go_enter Tryd.func29, Tryd.ntmps29
  go_wp2_with fail
  refine (within _ _ _ _).mono ?_
  rintro e w' ⟨rfl, rfl⟩
  cases t0 : inB (n : Int) 1 4
  · have HE := Lib.hid (show dokF xs = false by unfold dokF; rw [hl.out, t0]; rfl)
    clear t0
    go_wp2_with fail
    go_ret
    exact ⟨ret_bool HE.out.symm, Below.refl _ _⟩
  have HE := Lib.hid (show dokF xs = xs.all fun x => inB x 0 63 by unfold dokF; rw [hl.out, t0]; rfl)
  clear t0
  go_wp2_with fail
  refine (allIn _ _ _ _ _ _ _ H.out).mono ?_
  rintro e w1 ⟨rfl, hb1⟩
  go_wp2_with fail
  go_ret
  exact ⟨ret_bool HE.out.symm, hb1⟩
theorem vmodF_impl (m : Mod) : vmodF m = (dokF m.doms && (decide ((m.cons.length : Int) ≤ 6) && !(m.cons.any fun c => !vconstF c m.doms.length))) := by
  unfold vmodF dokF
  rw [show (m.doms.all vdB) = m.doms.all fun x => inB x 0 63 from rfl]
  cases h1 : inB (m.doms.length : Int) 1 4
  · simp
  · rw [← List.all_eq_not_any_not]
    have : (m.cons.all fun c => vconstF c m.doms.length) = m.cons.all fun c => vconF c m.doms.length := by
      congr 1; funext c; unfold vconstF; rw [h1]; rfl
    rw [this]
    generalize (m.doms.all fun x => inB x 0 63) = a
    generalize (m.cons.all fun c => vconF c m.doms.length) = b
    generalize decide ((m.cons.length : Int) ≤ 6) = d
    cases a <;> cases b <;> cases d <;> rfl
set_option maxHeartbeats 4000000 in
theorem validModelC (us : List Value) (c : Con) (b nd cd : Nat) (da : Option Addr) (w : World) (h : ConR w w.heap.size us c) (h0 : w.cell? ⟨b, 0, none⟩ = some (.slice da nd cd)) (hbw : b < w.heap.size) :
    Calls Tryd.prog 31 (#[.agg us.toArray] ++ #[.pointer (some ⟨b, 0, none⟩)]) w fun e w' => e = .returned (.bool (!vconstF c nd)) ∧ Below w.heap.size w w' := by
  have H0 := h
  obtain ⟨a0, d0, v1, r1, s1, n1, c1, n2, c2, n3, c3, rfl⟩ := h.five
  obtain ⟨wa, hwa⟩ : ∃ wa, wa = w.alloc (.cells #[.int .i64 a0, .slice v1 n1 c1, .slice r1 n2 c2, .int .i64 d0, .slice s1 n3 c3] 50) := ⟨_, rfl⟩
  have hb0 : Below w.heap.size w wa := by rw [hwa]; exact b_alloc _ _
  have H := Lib.hid (ConR.on h hb0)
  have h1 : wa.cell? ⟨b, 0, none⟩ = some (.slice da nd cd) := (hb0.cell (p := ⟨b, 0, none⟩) hbw).trans h0
  have ha : TBlk 50 wa w.heap.size #[.int .i64 a0, .slice v1 n1 c1, .slice r1 n2 c2, .int .i64 d0, .slice s1 n3 c3] := by rw [hwa]; exact TBlk.new _ _ _
  have p0 : wa.cell? ⟨w.heap.size, 0, none⟩ = some (.int .i64 a0) := ha.at_ 0 rfl
  have p1 : wa.cell? ⟨w.heap.size, 1, none⟩ = some (.slice v1 n1 c1) := ha.at_ 1 rfl
  have p2 : wa.cell? ⟨w.heap.size, 2, none⟩ = some (.slice r1 n2 c2) := ha.at_ 2 rfl
  have p3 : wa.cell? ⟨w.heap.size, 3, none⟩ = some (.int .i64 d0) := ha.at_ 3 rfl
  have p4 : wa.cell? ⟨w.heap.size, 4, none⟩ = some (.slice s1 n3 c3) := ha.at_ 4 rfl
  clear h H0 ha
  have h2 : (w.alloc (.cells #[.int .i64 a0, .slice v1 n1 c1, .slice r1 n2 c2, .int .i64 d0, .slice s1 n3 c3] 50)).cell? ⟨b, 0, none⟩ = some (.slice da nd cd) := by rw [← hwa]; exact h1
  go_enter Tryd.func31, Tryd.ntmps31
  go_wp2_with fail
  rw [← hwa]
  clear hwa
  refine (iValidConstraint _ _ _ _ H.out).mono ?_
  rintro e w1 ⟨rfl, hb1⟩
  go_wp2_with fail
  go_ret
  exact ⟨rfl, bgo hb0 hb1⟩
set_option maxHeartbeats 4000000 in
theorem iValidModel (us : List Value) (m : Mod) (w : World) (h : ModR w w.heap.size us m) :
    Calls Tryd.prog 15 #[.agg us.toArray] w fun e w' => e = .returned (.bool (vmodF m)) ∧ Below w.heap.size w w' := by
  obtain ⟨da, ca, cd, cc, rfl, g1, g2, -⟩ := h
  obtain ⟨wa, hwa⟩ : ∃ wa, wa = w.alloc (.cells #[.slice da m.doms.length cd, .slice ca m.cons.length cc] 30) := ⟨_, rfl⟩
  have hb0 : Below w.heap.size w wa := by rw [hwa]; exact b_alloc _ _
  have hsz : wa.heap.size = w.heap.size + 1 := by rw [hwa, size_alloc_]
  have ha : TBlk 30 wa w.heap.size #[.slice da m.doms.length cd, .slice ca m.cons.length cc] := by rw [hwa]; exact TBlk.new _ _ _
  have HA := Lib.hid ha
  have G1 := Lib.hid (IntR.on g1 hb0)
  have G2 := Lib.hid (ConsR.on g2 hb0)
  have a0 : wa.cell? ⟨w.heap.size, 0, none⟩ = some (.slice da m.doms.length cd) := ha.at_ 0 rfl
  have a1 : wa.cell? ⟨w.heap.size, 1, none⟩ = some (.slice ca m.cons.length cc) := ha.at_ 1 rfl
  clear ha g1 g2
  go_enter Tryd.func15, Tryd.ntmps15
  go_wp2_with fail
  rw [← hwa]
  clear hwa
  refine (domainsOk _ _ _ _ _ G1.out).mono ?_
  rintro e w1 ⟨rfl, hb1⟩
  have a0 : w1.cell? ⟨w.heap.size, 0, none⟩ = some (.slice da m.doms.length cd) := (HA.out.below_ hb1 (by omega)).at_ 0 rfl
  have a1 : w1.cell? ⟨w.heap.size, 1, none⟩ = some (.slice ca m.cons.length cc) := (HA.out.below_ hb1 (by omega)).at_ 1 rfl
  cases t0 : dokF m.doms
  · have HE := Lib.hid (show vmodF m = false by rw [vmodF_impl, t0]; rfl)
    clear t0
    go_wp2_with fail
    go_ret
    exact ⟨ret_bool HE.out.symm, bgo hb0 hb1⟩
  have T0 := Lib.hid t0
  clear t0
  cases t1 : decide ((m.cons.length : Int) ≤ 6)
  · have HE := Lib.hid (show vmodF m = false by rw [vmodF_impl, T0.out, t1]; rfl)
    go_wp2_with fail
    go_ret
    exact ⟨ret_bool HE.out.symm, bgo hb0 hb1⟩
  have HE := Lib.hid (show vmodF m = !(m.cons.any fun c => !vconstF c m.doms.length) by rw [vmodF_impl, T0.out, t1]; rfl)
  go_wp2_with fail
  have hz := hb1.size
  refine (containsFuncCon ca m.cons.length cc m.cons 31 _ (fun c => !vconstF c m.doms.length) _ (enters_of Tryd.func31 (by kernel_rfl) rfl) (ConsR.on G2.out hb1) (fun k x us W _ hW hx => validModelC us x _ _ cd da W hx ((hW.cell (p := ⟨w.heap.size, 0, none⟩) (by show w.heap.size < _; omega)).trans a0) (by have := hW.size; omega))).mono ?_
  rintro e w2 ⟨rfl, hb2⟩
  clear a0 a1 t1
  go_wp2_with fail
  go_ret
  exact ⟨ret_bool HE.out.symm, bgo hb0 (bgo hb1 hb2)⟩
end Go.Proofs.YtfoodlhfmcfjeaaDoor
