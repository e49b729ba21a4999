/- The weight of what is violated, by the program and by the reference. -/
import Derived.Test.YthnkeiofehcekaaSofI
import Derived.Test.YthnkeiofehcekaaSolS
namespace Go.Proofs.Ythnkeiofehcekaa
open Go.ChangeShapes Go.WideShapes Go.ChangeAt Go.RowKit
open Go.Shelf
set_option linter.unusedVariables false
set_option maxRecDepth 100000

theorem OwnSofs.read_n {w : World} {base n : Nat} {v : Value} {xs : List Sof} (hl : xs.length = n) (h : OwnSofs w base v xs) : ∃ A c, v = .slice A n c ∧ SofsR w w.heap.size A n xs := by
  subst hl
  obtain ⟨A, c, e, r, -⟩ := OwnSofs.read h
  exact ⟨A, c, e, r⟩
def softAt (n : Int) (s : Sof) : Bool := inB s.weight 1 9 && vconF s.con n
def softsF (xs : List Sof) (n : Int) : Bool := xs.all (softAt n) && decide ((xs.length : Int) ≤ 4)
def costAt (ss : List Sof) (xs : List Int) (k : Nat) (t : Int) : Int := match ss[k]? with | some s => if holdF s.con xs = true then t else wrap64 (t + s.weight) | none => t
def costTo (ss : List Sof) (xs : List Int) : Nat → Int
  | 0 => 0
  | k + 1 => costAt ss xs k (costTo ss xs k)
theorem costTo_yes {ss : List Sof} {xs : List Int} {k : Nat} {s : Sof} (h : ss[k]? = some s) (hh : holdF s.con xs = true) : costTo ss xs (k + 1) = costTo ss xs k := by
  show costAt ss xs k (costTo ss xs k) = _
  unfold costAt; rw [h]; exact if_pos hh
theorem costTo_no {ss : List Sof} {xs : List Int} {k : Nat} {s : Sof} (h : ss[k]? = some s) (hh : holdF s.con xs = false) : costTo ss xs (k + 1) = wrap64 (costTo ss xs k + s.weight) := by
  show costAt ss xs k (costTo ss xs k) = _
  unfold costAt; rw [h]; exact if_neg (by rw [hh]; decide)
def costF (ss : List Sof) (xs : List Int) : Int := if (inB xs.length 1 4 && ((xs.all fun x => inB x 0 5) && softsF ss xs.length)) = true then costTo ss xs ss.length else -1
theorem costF_no {ss : List Sof} {xs : List Int} (h : (inB xs.length 1 4 && ((xs.all fun x => inB x 0 5) && softsF ss xs.length)) = false) : costF ss xs = -1 := if_neg (by rw [h]; decide)
theorem costF_yes {ss : List Sof} {xs : List Int} (h : (inB xs.length 1 4 && ((xs.all fun x => inB x 0 5) && softsF ss xs.length)) = true) : costF ss xs = costTo ss xs ss.length := if_pos h
theorem SofR.at_ {w : World} {B n i : Nat} {A : Option Addr} {xs : List Sof} (h : SofsR w B A n xs) (hi : i < n) : ∃ b o s va aa ra cv ca cr, A = some ⟨b, o, none⟩ ∧ b < B ∧ xs[i]? = some s ∧
    w.cell? ⟨b, o + i * 6, none⟩ = some (.int .i64 s.con.kind) ∧ w.cell? ⟨b, o + i * 6 + 1, none⟩ = some (.slice va s.con.vars.length cv) ∧ w.cell? ⟨b, o + i * 6 + 2, none⟩ = some (.slice aa s.con.args.length ca) ∧ w.cell? ⟨b, o + i * 6 + 3, none⟩ = some (.int .i64 s.con.bound) ∧ w.cell? ⟨b, o + i * 6 + 4, none⟩ = some (.slice ra s.con.rows.length cr) ∧ w.cell? ⟨b, o + i * 6 + 5, none⟩ = some (.int .i64 s.weight) ∧
    ConR w B [.int .i64 s.con.kind, .slice va s.con.vars.length cv, .slice aa s.con.args.length ca, .int .i64 s.con.bound, .slice ra s.con.rows.length cr] s.con := by
  obtain ⟨b, o, s, us, e, hb, hx, hl, hu, hr⟩ := SlK.at_ h hi
  obtain ⟨va, aa, ra, cv, ca, cr, rfl⟩ := SofR.cells hr
  exact ⟨b, o, s, va, aa, ra, cv, ca, cr, e, hb, hx, hu 0 _ rfl, hu 1 _ rfl, hu 2 _ rfl, hu 3 _ rfl, hu 4 _ rfl, hu 5 _ rfl, (SofR.con hr).2⟩
theorem softAt_sat {ss : List Sof} {xs : List Int} {n : Nat} {s : Sof} (h : softsF ss n = true) (hs : s ∈ ss) : vconF s.con n = true := by
  unfold softsF at h
  simp only [Bool.and_eq_true, List.all_eq_true] at h
  have := h.1 s hs
  unfold softAt at this
  rw [Bool.and_eq_true] at this
  exact this.2
theorem all_vals {xs : List Int} (h : (xs.all fun x => inB x 0 5) = true) : ∀ v ∈ xs, 0 ≤ v ∧ v ≤ 5 := by
  rw [List.all_eq_true] at h
  exact fun v hv => inB_true (h v hv)
set_option maxHeartbeats 4000000 in
theorem svalidSoft (A : Option Addr) (n c : Nat) (ss : List Sof) (m : Int) (w : World) (h : SofsR w w.heap.size A n ss) :
    Calls Try.prog 45 #[.slice A n c, .int .i64 m] w fun e w' => e = .returned (.bool (softsF ss m)) ∧ Below w.heap.size w w' := by
  have hn := h.le
  have hl := Lib.hid h.len
  go_enter Try.func45, Try.ntmps45
  go_wp2_with fail
  go_loopw [5] (fun i wr => ∃ k : Nat, k ≤ n ∧ i = .int .i64 k ∧ Hid (AllB (softAt m) ss k) ∧ Below w.heap.size w wr) (fun i _ => n - (intOf i).toNat)
  case atStart => exact ⟨0, by omega, rfl, AllB.zero _ _, Below.refl _ _⟩
  case round =>
    obtain ⟨k, hk, rfl, hq, hb⟩ := hrel
    by_cases hlt : k < n
    · obtain ⟨ab, ao, s, va, aa, ra, cv, ca, cr, rfl, hab, hxk, c0, c1, c2, c3, c4, c5, hc⟩ := SofR.at_ (SlK.below SofR.keeps h hb) hlt
      have HX := Lib.hid hxk
      have HC := Lib.hid (ConR.widens _ _ _ _ _ hb.size hc)
      clear hxk hc
      go_wp2_with fail
      refine (inRange _ _ _ _).mono ?_
      rintro e w' ⟨rfl, rfl⟩
      cases t1 : inB s.weight 1 9
      · have HE := Lib.hid (show softsF ss m = false by unfold softsF; rw [all_no (f := softAt m) HX.out (by unfold softAt; rw [t1]; rfl)]; rfl)
        clear t1
        go_wp2_with fail
        go_ret
        exact ⟨ret_bool HE.out.symm, hb⟩
      have T1 := Lib.hid t1
      clear t1
      go_wp2_with fail
      refine (svalidConstraint _ s.con m _ HC.out).mono ?_
      rintro e w2 ⟨rfl, hb2⟩
      cases t2 : vconF s.con m
      · have HE := Lib.hid (show softsF ss m = false by unfold softsF; rw [all_no (f := softAt m) HX.out (by unfold softAt; rw [t2]; simp)]; rfl)
        clear t2
        go_wp2_with fail
        go_ret
        exact ⟨ret_bool HE.out.symm, bgo hb hb2⟩
      · have HS := Lib.hid (show softAt m s = true by unfold softAt; rw [T1.out, t2]; rfl)
        clear t2
        go_wp2_with fail
        go_roundw
        case rel => exact ⟨k + 1, by omega, by go_num, AllB.succ hq.out HX.out HS.out, bgo hb hb2⟩
        case measure => simp [intOf]; omega
    · obtain rfl : k = n := by omega
      have HE := Lib.hid (show softsF ss m = decide ((k : Int) ≤ 4) by unfold softsF; rw [AllB.done hq.out (Nat.le_of_eq hl.out), hl.out]; rfl)
      go_wp2_with fail
      go_ret
      exact ⟨ret_bool HE.out.symm, hb⟩
set_option maxHeartbeats 8000000 in
theorem ssoftCost (A B : Option Addr) (n m c d : Nat) (ss : List Sof) (xs : List Int) (w : World) (h : SofsR w w.heap.size A n ss) (hx : IntR w w.heap.size B m xs) (hv : softsF ss m = true) (hm4 : m ≤ 4) (hs : ∀ v ∈ xs, 0 ≤ v ∧ v ≤ 5) :
    Calls Try.prog 46 #[.slice A n c, .slice B m d] w fun e w' => e = .returned (.int .i64 (costTo ss xs n)) ∧ Below w.heap.size w w' := by
  have hn := h.le
  have hl := Lib.hid h.len
  have hlx := Lib.hid hx.len
  have HV := Lib.hid hv
  have HS0 := Lib.hid hs
  clear hv hs
  go_enter Try.func46, Try.ntmps46
  go_wp2_with fail
  go_loopw [5, 6] (fun t i wr => ∃ k : Nat, k ≤ n ∧ i = .int .i64 k ∧ t = .int .i64 (costTo ss xs k) ∧ Below w.heap.size w wr) (fun _ i _ => n - (intOf i).toNat)
  case atStart => exact ⟨0, by omega, rfl, rfl, Below.refl _ _⟩
  case round =>
    obtain ⟨k, hk, rfl, rfl, hX⟩ := hrel
    by_cases hlt : k < n
    · obtain ⟨ab, ao, s, va, aa, ra, cv, ca', cr, rfl, hab, hxk, c0, c1, c2, c3, c4, c5, hc⟩ := SofR.at_ (SlK.below SofR.keeps h hX) hlt
      have HXK := Lib.hid hxk
      have hvc := softAt_sat (xs := xs) HV.out (List.mem_of_getElem? hxk)
      have HC := Lib.hid (ConR.widens _ _ _ _ _ hX.size hc)
      have hz := hX.size
      clear hxk hc
      have hS : ∀ w', Below wr.heap.size wr w' → (w'.cell? ⟨ab, ao + k * 6, none⟩ = some (.int .i64 s.con.kind) ∧ w'.cell? ⟨ab, ao + k * 6 + 1, none⟩ = some (.slice va s.con.vars.length cv) ∧ w'.cell? ⟨ab, ao + k * 6 + 2, none⟩ = some (.slice aa s.con.args.length ca') ∧ w'.cell? ⟨ab, ao + k * 6 + 3, none⟩ = some (.int .i64 s.con.bound) ∧ w'.cell? ⟨ab, ao + k * 6 + 4, none⟩ = some (.slice ra s.con.rows.length cr)) ∧ w'.cell? ⟨ab, ao + k * 6 + 5, none⟩ = some (.int .i64 s.weight) := by
        intro w' h
        have hab2 : ab < wr.heap.size := by omega
        exact ⟨⟨(h.cell (p := ⟨ab, _, none⟩) hab2).trans c0, (h.cell (p := ⟨ab, _, none⟩) hab2).trans c1, (h.cell (p := ⟨ab, _, none⟩) hab2).trans c2, (h.cell (p := ⟨ab, _, none⟩) hab2).trans c3, (h.cell (p := ⟨ab, _, none⟩) hab2).trans c4⟩, (h.cell (p := ⟨ab, _, none⟩) hab2).trans c5⟩
      have hbd : Below wr.heap.size wr wr.drew := below_drewN (Below.refl _ _) 1
      have hS0 := (hS _ hbd).1
      have hok := Lib.hid (SatOk.of hvc hm4 hlx.out HS0.out)
      obtain ⟨q1, q2, q3⟩ := vcon_vars hvc hm4
      have Q1 := Lib.hid q1
      have Q2 := Lib.hid q2
      clear q1 q2 q3 c0 c1 c2 c3 c4 c5 hvc
      cases t1 : holdF s.con xs
      · have T1 := Lib.hid t1
        have HST := Lib.hid (costTo_no HXK.out t1)
        clear t1
        go_wp2_with fail
        go_region_held3 (fun w' => w'.cell? ⟨ab, ao + k * 6, none⟩ = some (.int .i64 s.con.kind) ∧ w'.cell? ⟨ab, ao + k * 6 + 1, none⟩ = some (.slice va s.con.vars.length cv) ∧ w'.cell? ⟨ab, ao + k * 6 + 2, none⟩ = some (.slice aa s.con.args.length ca') ∧ w'.cell? ⟨ab, ao + k * 6 + 3, none⟩ = some (.int .i64 s.con.bound) ∧ w'.cell? ⟨ab, ao + k * 6 + 4, none⟩ = some (.slice ra s.con.rows.length cr))
          (first | exact hS0 | exact (hS _ hb8).1 | exact (hS _ hb9).1)
          (first
            | (go_at_call 84
               refine (sproject _ s.con _ _ _ xs _ (ConR.on HC.out hbd) (IntR.on (IntR.on hx hX) hbd) Q2.out (by have := Q1.out; omega)).mono ?_
               rintro e Wq ⟨vw, rfl, ow, hBq⟩
               obtain ⟨B2, d2, rfl, rw2, -⟩ := IntR.of_own ow.1 ow.2
               have hb8 := bgo hbd hBq
               clear hBq ow)
            | (go_at_call 83
               refine (ssatisfies _ s.con _ _ _ (wordF s.con.vars xs) _ (ConR.on HC.out hb8) rw2 hok.out).mono ?_
               rintro e W9 ⟨rfl, hBq⟩
               have hb9 := bgo hb8 hBq
               have T2 : satF s.con (wordF s.con.vars xs) = false := T1.out
               clear hBq))
        have c9 := (hS _ hb9).2
        go_wp2_with fail
        go_roundw
        case rel => exact ⟨k + 1, by omega, by go_num, by rw [HST.out], bgo hX hb9⟩
        case measure => simp [intOf]; omega
      · have T1 := Lib.hid t1
        have HST := Lib.hid (costTo_yes HXK.out t1)
        clear t1
        go_wp2_with fail
        go_region_held3 (fun w' => w'.cell? ⟨ab, ao + k * 6, none⟩ = some (.int .i64 s.con.kind) ∧ w'.cell? ⟨ab, ao + k * 6 + 1, none⟩ = some (.slice va s.con.vars.length cv) ∧ w'.cell? ⟨ab, ao + k * 6 + 2, none⟩ = some (.slice aa s.con.args.length ca') ∧ w'.cell? ⟨ab, ao + k * 6 + 3, none⟩ = some (.int .i64 s.con.bound) ∧ w'.cell? ⟨ab, ao + k * 6 + 4, none⟩ = some (.slice ra s.con.rows.length cr))
          (first | exact hS0 | exact (hS _ hb8).1 | exact (hS _ hb9).1)
          (first
            | (go_at_call 84
               refine (sproject _ s.con _ _ _ xs _ (ConR.on HC.out hbd) (IntR.on (IntR.on hx hX) hbd) Q2.out (by have := Q1.out; omega)).mono ?_
               rintro e Wq ⟨vw, rfl, ow, hBq⟩
               obtain ⟨B2, d2, rfl, rw2, -⟩ := IntR.of_own ow.1 ow.2
               have hb8 := bgo hbd hBq
               clear hBq ow)
            | (go_at_call 83
               refine (ssatisfies _ s.con _ _ _ (wordF s.con.vars xs) _ (ConR.on HC.out hb8) rw2 hok.out).mono ?_
               rintro e W9 ⟨rfl, hBq⟩
               have hb9 := bgo hb8 hBq
               have T2 : satF s.con (wordF s.con.vars xs) = true := T1.out
               clear hBq))
        go_wp2_with fail
        go_roundw
        case rel => exact ⟨k + 1, by omega, by go_num, by rw [HST.out], bgo hX hb9⟩
        case measure => simp [intOf]; omega
    · obtain rfl : k = n := by omega
      go_wp2_with fail
      go_ret
      exact ⟨rfl, hX⟩
set_option maxHeartbeats 4000000 in
theorem sSoftCost (A B : Option Addr) (n m c d : Nat) (ss : List Sof) (xs : List Int) (w : World) (h : SofsR w w.heap.size A n ss) (hx : IntR w w.heap.size B m xs) :
    Calls Try.prog 11 #[.slice A n c, .slice B m d] w fun e w' => e = .returned (.int .i64 (costF ss xs)) ∧ Below w.heap.size w w' := by
  have hl := Lib.hid h.len
  have hlx := Lib.hid hx.len
  have H := Lib.hid h
  have HX := Lib.hid hx
  clear h hx
  go_enter Try.func11, Try.ntmps11
  go_wp2_with fail
  refine (inRange _ _ _ _).mono ?_
  rintro e w' ⟨rfl, rfl⟩
  cases t0 : inB (m : Int) 1 4
  · have HE := Lib.hid (costF_no (ss := ss) (xs := xs) (by rw [hlx.out, t0]; rfl))
    clear t0
    go_wp2_with fail
    go_ret
    exact ⟨by rw [HE.out]; rfl, Below.refl _ _⟩
  have T0 := Lib.hid t0
  clear t0
  go_wp2_with fail
  refine (allInRange _ _ _ _ _ _ _ HX.out).mono ?_
  rintro e w1 ⟨rfl, hb1⟩
  cases t1 : xs.all fun x => inB x 0 5
  · have HE := Lib.hid (costF_no (ss := ss) (xs := xs) (by rw [t1]; simp))
    clear t1
    go_wp2_with fail
    go_ret
    exact ⟨by rw [HE.out]; rfl, hb1⟩
  have T1 := Lib.hid t1
  clear t1
  go_wp2_with fail
  refine (svalidSoft _ _ _ ss _ _ (SofsR.on H.out hb1)).mono ?_
  rintro e w2 ⟨rfl, hb2⟩
  cases t2 : softsF ss (m : Int)
  · have HE := Lib.hid (costF_no (ss := ss) (xs := xs) (by rw [hlx.out, t2]; simp))
    clear t2
    go_wp2_with fail
    go_ret
    exact ⟨by rw [HE.out]; rfl, bgo hb1 hb2⟩
  have T2 := Lib.hid t2
  have HE := Lib.hid (costF_yes (ss := ss) (xs := xs) (by rw [hlx.out, T0.out, T1.out, t2]; rfl))
  clear t2
  go_wp2_with fail
  refine (ssoftCost _ _ _ _ _ _ ss xs _ (SofsR.on H.out (bgo hb1 hb2)) (IntR.on HX.out (bgo hb1 hb2)) T2.out (by have := inB_true T0.out; omega) (all_vals T1.out)).mono ?_
  rintro e w3 ⟨rfl, hb3⟩
  go_wp2_with fail
  go_ret
  exact ⟨by rw [HE.out, hl.out]; rfl, bgo hb1 (bgo hb2 hb3)⟩
set_option maxHeartbeats 4000000 in
theorem indexSof (A : Option Addr) (n c : Nat) (xs : List Sof) (g : Nat) (lb : Array Value) (p : Sof → Bool) (w : World) (eg : ∀ args w, (callFunc g args).run Try.prog w = .ok (.enter g args) w)
    (h : SofsR w w.heap.size A n xs) (hp : ∀ (k : Nat) x us W, xs[k]? = some x → Below w.heap.size w W → SofR W W.heap.size us x → Calls Try.prog g (#[.agg us.toArray] ++ lb) W fun e W' => e = .returned (.bool (p x)) ∧ Below W.heap.size W W') :
    Calls Try.prog 112 #[.slice A n c, .func (.func g) #[] lb] w fun e w' => ∃ j : Int, e = .returned (.int .i64 j) ∧ decide (0 ≤ j) = xs.any p ∧ Below w.heap.size w w' := by
  have hn := h.le
  have hl := Lib.hid h.len
  have HP := Lib.hid hp
  clear hp
  go_enter Try.func112, Try.ntmps112
  go_wp2_with fail
  go_loopw [8] (fun i wr => ∃ k : Nat, k ≤ n ∧ i = .int .i64 k ∧ Hid (AllB (fun x => !p x) xs k) ∧ Below w.heap.size w wr) (fun i _ => n - (intOf i).toNat)
  case atStart => exact ⟨0, by omega, rfl, AllB.zero _ _, Below.refl _ _⟩
  case round =>
    obtain ⟨k, hk, rfl, hq, hb⟩ := hrel
    by_cases hlt : k < n
    · obtain ⟨ab, ao, x, us, rfl, hab, hxk, hul, hcx, hc⟩ := SlK.at_ (SlK.below SofR.keeps h hb) hlt
      have HX := Lib.hid hxk
      have HX1 := Lib.hid (SofR.widens _ _ _ _ _ hb.size hc)
      obtain ⟨va, aa, ra, cv, ca, cr, rfl⟩ := SofR.cells hc
      have c0 : wr.cell? ⟨ab, ao + k * 6, none⟩ = some _ := hcx 0 _ rfl
      have c1 := hcx 1 _ rfl
      have c2 := hcx 2 _ rfl
      have c3 := hcx 3 _ rfl
      have c4 := hcx 4 _ rfl
      have c5 := hcx 5 _ rfl
      clear hxk hc hcx hul
      cases hpx : p x
      · have HF := Lib.hid hpx
        clear hpx
        go_wp2_with fail
        refine (HP.out k x _ _ HX.out hb HX1.out).mono ?_
        rw [HF.out]
        rintro e w1 ⟨rfl, hb1⟩
        go_wp2_with fail
        go_roundw
        case rel => exact ⟨k + 1, by omega, by go_num, AllB.succ hq.out HX.out (by simp [HF.out]), bgo hb hb1⟩
        case measure => simp [intOf]; omega
      · have HF := Lib.hid hpx
        clear hpx
        go_wp2_with fail
        refine (HP.out k x _ _ HX.out hb HX1.out).mono ?_
        rw [HF.out]
        rintro e w1 ⟨rfl, hb1⟩
        go_wp2_with fail
        go_ret
        refine ⟨k, rfl, ?_, bgo hb hb1⟩
        have : xs.any p = true := List.any_eq_true.2 ⟨x, List.mem_of_getElem? HX.out, HF.out⟩
        rw [this]
        simp
    · obtain rfl : k = n := by omega
      go_wp2_with fail
      go_ret
      refine ⟨-1, rfl, ?_, hb⟩
      have := AllB.done hq.out (Nat.le_of_eq hl.out)
      rw [List.all_eq_not_any_not] at this
      simp only [Bool.not_not] at this
      have h2 : xs.any p = false := by simpa using this
      rw [h2]
      decide
theorem containsFuncSof (A : Option Addr) (n c : Nat) (xs : List Sof) (g : Nat) (lb : Array Value) (p : Sof → Bool) (w : World) (eg : ∀ args w, (callFunc g args).run Try.prog w = .ok (.enter g args) w)
    (h : SofsR w w.heap.size A n xs) (hp : ∀ (k : Nat) x us W, xs[k]? = some x → Below w.heap.size w W → SofR W W.heap.size us x → Calls Try.prog g (#[.agg us.toArray] ++ lb) W fun e W' => e = .returned (.bool (p x)) ∧ Below W.heap.size W W') :
    Calls Try.prog 81 #[.slice A n c, .func (.func g) #[] lb] w fun e w' => e = .returned (.bool (xs.any p)) ∧ Below w.heap.size w w' := by
  have HP := Lib.hid hp
  have HE := Lib.hid eg
  clear hp eg
  go_enter Try.func81, Try.ntmps81
  go_wp2_with fail
  refine (indexSof A n c xs g lb p w HE.out h HP.out).mono ?_
  rintro e w1 ⟨j, rfl, hj, hb⟩
  have HJ := Lib.hid hj
  clear hj
  go_wp2_with fail
  go_ret
  exact ⟨ret_bool HJ.out, hb⟩
def softAtI (n : Int) (s : Sof) : Bool := inB s.weight 1 9 && vconstF s.con n
theorem softsF_impl {ss : List Sof} {n : Int} (hn : inB n 1 4 = true) : softsF ss n = (decide ((ss.length : Int) ≤ 4) && !(ss.any fun s => !softAtI n s)) := by
  unfold softsF
  rw [← List.all_eq_not_any_not]
  have : ss.all (softAt n) = ss.all fun s => softAtI n s := by
    congr 1; funext s; unfold softAt softAtI vconstF; rw [hn]; rfl
  rw [this, Bool.and_comm]
set_option maxHeartbeats 4000000 in
theorem softOkC (us : List Value) (s : Sof) (b : Nat) (m : Int) (w : World) (h : SofR w w.heap.size us s) (h0 : w.cell? ⟨b, 0, none⟩ = some (.int .i64 m)) (hbw : b < w.heap.size) :
    Calls Try.prog 82 (#[.agg us.toArray] ++ #[.pointer (some ⟨b, 0, none⟩)]) w fun e w' => e = .returned (.bool (!softAtI m s)) ∧ Below w.heap.size w w' := by
  obtain ⟨va, aa, ra, cv, ca, cr, rfl⟩ := SofR.cells h
  obtain ⟨wa, hwa⟩ : ∃ wa, wa = w.alloc (.cells #[.int .i64 s.con.kind, .slice va s.con.vars.length cv, .slice aa s.con.args.length ca, .int .i64 s.con.bound, .slice ra s.con.rows.length cr, .int .i64 s.weight] 35) := ⟨_, rfl⟩
  have hb0 : Below w.heap.size w wa := by rw [hwa]; exact b_alloc _ _
  have HC := Lib.hid (ConR.on (SofR.con h).2 hb0)
  have ha : TBlk 35 wa w.heap.size #[.int .i64 s.con.kind, .slice va s.con.vars.length cv, .slice aa s.con.args.length ca, .int .i64 s.con.bound, .slice ra s.con.rows.length cr, .int .i64 s.weight] := by rw [hwa]; exact TBlk.new _ _ _
  have p0 : wa.cell? ⟨w.heap.size, 0, none⟩ = some (.int .i64 s.con.kind) := ha.at_ 0 rfl
  have p1 : wa.cell? ⟨w.heap.size, 1, none⟩ = some (.slice va s.con.vars.length cv) := ha.at_ 1 rfl
  have p2 : wa.cell? ⟨w.heap.size, 2, none⟩ = some (.slice aa s.con.args.length ca) := ha.at_ 2 rfl
  have p3 : wa.cell? ⟨w.heap.size, 3, none⟩ = some (.int .i64 s.con.bound) := ha.at_ 3 rfl
  have p4 : wa.cell? ⟨w.heap.size, 4, none⟩ = some (.slice ra s.con.rows.length cr) := ha.at_ 4 rfl
  have h1 : wa.cell? ⟨b, 0, none⟩ = some (.int .i64 m) := (hb0.cell (p := ⟨b, 0, none⟩) hbw).trans h0
  clear h ha
  go_enter Try.func82, Try.ntmps82
  go_wp2_with fail
  rw [← hwa]
  clear hwa
  refine (within _ _ _ _).mono ?_
  rintro e w' ⟨rfl, rfl⟩
  cases t1 : inB s.weight 1 9
  · have HE := Lib.hid (show softAtI m s = false by unfold softAtI; rw [t1]; rfl)
    clear t1
    go_wp2_with fail
    go_ret
    exact ⟨ret_bool (by rw [HE.out]; rfl), hb0⟩
  have HE := Lib.hid (show softAtI m s = vconstF s.con m by unfold softAtI; rw [t1]; rfl)
  clear t1
  go_wp2_with fail
  refine (iValidConstraint _ s.con m _ HC.out).mono ?_
  rintro e w2 ⟨rfl, hb2⟩
  clear p0 p1 p2 p3 p4 h1
  go_wp2_with fail
  go_ret
  exact ⟨ret_bool (by rw [HE.out]), bgo hb0 hb2⟩
set_option maxHeartbeats 4000000 in
theorem isoftOk (A : Option Addr) (n c : Nat) (ss : List Sof) (m : Int) (w : World) (h : SofsR w w.heap.size A n ss) (hm : inB m 1 4 = true) :
    Calls Try.prog 41 #[.slice A n c, .int .i64 m] w fun e w' => e = .returned (.bool (softsF ss m)) ∧ Below w.heap.size w w' := by
  have hl := Lib.hid h.len
  obtain ⟨wa, hwa⟩ : ∃ wa, wa = w.alloc (.cells #[.int .i64 m] 3) := ⟨_, rfl⟩
  have hb0 : Below w.heap.size w wa := by rw [hwa]; exact b_alloc _ _
  have hsz : wa.heap.size = w.heap.size + 1 := by rw [hwa, size_alloc_]
  have ha : TBlk 3 wa w.heap.size #[.int .i64 m] := by rw [hwa]; exact TBlk.new _ _ _
  have a0 : wa.cell? ⟨w.heap.size, 0, none⟩ = some (.int .i64 m) := ha.at_ 0 rfl
  have H := Lib.hid (SofsR.on h hb0)
  have HM := Lib.hid (softsF_impl (ss := ss) hm)
  clear h hm ha
  cases t1 : decide ((n : Int) ≤ 4)
  · have HE := Lib.hid (show softsF ss m = false by rw [HM.out, hl.out, t1]; rfl)
    go_enter Try.func41, Try.ntmps41
    go_wp2_with fail
    rw [← hwa]
    clear hwa
    go_ret
    exact ⟨ret_bool HE.out.symm, hb0⟩
  · have HE := Lib.hid (show softsF ss m = !(ss.any fun s => !softAtI m s) by rw [HM.out, hl.out, t1]; rfl)
    go_enter Try.func41, Try.ntmps41
    go_wp2_with fail
    rw [← hwa]
    clear hwa
    refine (containsFuncSof A n c ss 82 _ (fun s => !softAtI m s) _ (enters_of Try.func82 (by kernel_rfl) rfl) H.out (fun k x us W _ hW hx => softOkC us x _ m W hx ((hW.cell (p := ⟨w.heap.size, 0, none⟩) (by show w.heap.size < _; omega)).trans a0) (by have := hW.size; omega))).mono ?_
    rintro e w2 ⟨rfl, hb2⟩
    clear a0 t1
    go_wp2_with fail
    go_ret
    exact ⟨ret_bool HE.out.symm, bgo hb0 hb2⟩
set_option maxHeartbeats 8000000 in
theorem isoftCost (A B : Option Addr) (n m c d : Nat) (ss : List Sof) (xs : List Int) (w : World) (h : SofsR w w.heap.size A n ss) (hx : IntR w w.heap.size B m xs) (hv : softsF ss m = true) (hm4 : m ≤ 4) (hs : ∀ v ∈ xs, 0 ≤ v ∧ v ≤ 5) :
    Calls Try.prog 42 #[.slice A n c, .slice B m d] w fun e w' => e = .returned (.int .i64 (costTo ss xs n)) ∧ Below w.heap.size w w' := by
  have hn := h.le
  have hl := Lib.hid h.len
  have hlx := Lib.hid hx.len
  have HV := Lib.hid hv
  have HS0 := Lib.hid hs
  clear hv hs
  go_enter Try.func42, Try.ntmps42
  go_wp2_with fail
  go_loopw [5, 10] (fun t i wr => ∃ k : Nat, k ≤ n ∧ i = .int .i64 k ∧ t = .int .i64 (costTo ss xs k) ∧ Below w.heap.size w wr) (fun _ i _ => n - (intOf i).toNat)
  case atStart => exact ⟨0, by omega, rfl, rfl, Below.refl _ _⟩
  case round =>
    obtain ⟨k, hk, rfl, rfl, hX⟩ := hrel
    by_cases hlt : k < n
    · obtain ⟨ab, ao, s, va, aa, ra, cv, ca', cr, rfl, hab, hxk, c0, c1, c2, c3, c4, c5, hc⟩ := SofR.at_ (SlK.below SofR.keeps h hX) hlt
      have HXK := Lib.hid hxk
      have HVC := Lib.hid (softAt_sat (xs := xs) HV.out (List.mem_of_getElem? hxk))
      obtain ⟨wb, hwb⟩ : ∃ wb, wb = wr.alloc (.cells #[.int .i64 s.con.kind, .slice va s.con.vars.length cv, .slice aa s.con.args.length ca', .int .i64 s.con.bound, .slice ra s.con.rows.length cr, .int .i64 s.weight] 35) := ⟨_, rfl⟩
      have hbb : Below wr.heap.size wr wb := by rw [hwb]; exact b_alloc _ _
      have hszb : wb.heap.size = wr.heap.size + 1 := by rw [hwb, size_alloc_]
      have HT : Hid (TBlk 35 wb wr.heap.size #[.int .i64 s.con.kind, .slice va s.con.vars.length cv, .slice aa s.con.args.length ca', .int .i64 s.con.bound, .slice ra s.con.rows.length cr, .int .i64 s.weight]) := by rw [hwb]; exact TBlk.new _ _ _
      have HC := Lib.hid (ConR.on (ConR.widens _ _ _ _ _ hX.size hc) hbb)
      clear hxk hc
      go_wp2_with fail
      rw [← hwb]
      clear hwb c0 c1 c2 c3 c4 c5
      refine (iholds _ s.con _ _ _ xs _ HC.out (IntR.on hx (bgo hX hbb)) HVC.out hm4 HS0.out).mono ?_
      rintro e w5 ⟨rfl, hb5⟩
      have hb6 := bgo hX (bgo hbb hb5)
      have a5 : w5.cell? ⟨wr.heap.size, 5, none⟩ = some (.int .i64 s.weight) := (HT.out.below_ hb5 (by omega)).at_ 5 rfl
      cases t1 : holdF s.con xs
      · have HST := Lib.hid (costTo_no HXK.out t1)
        clear t1
        go_wp2_with fail
        go_roundw
        case rel => exact ⟨k + 1, by omega, by go_num, by rw [HST.out], hb6⟩
        case measure => simp [intOf]; omega
      · have HST := Lib.hid (costTo_yes HXK.out t1)
        clear t1
        go_wp2_with fail
        go_roundw
        case rel => exact ⟨k + 1, by omega, by go_num, by rw [HST.out], hb6⟩
        case measure => simp [intOf]; omega
    · obtain rfl : k = n := by omega
      go_wp2_with fail
      go_ret
      exact ⟨rfl, hX⟩
set_option maxHeartbeats 4000000 in
theorem iSoftCost (A B : Option Addr) (n m c d : Nat) (ss : List Sof) (xs : List Int) (w : World) (h : SofsR w w.heap.size A n ss) (hx : IntR w w.heap.size B m xs) :
    Calls Try.prog 10 #[.slice A n c, .slice B m d] w fun e w' => e = .returned (.int .i64 (costF ss xs)) ∧ Below w.heap.size w w' := by
  have hl := Lib.hid h.len
  have hlx := Lib.hid hx.len
  have H := Lib.hid h
  have HX := Lib.hid hx
  clear h hx
  go_enter Try.func10, Try.ntmps10
  go_wp2_with fail
  refine (within _ _ _ _).mono ?_
  rintro e w' ⟨rfl, rfl⟩
  cases t0 : inB (m : Int) 1 4
  · have HE := Lib.hid (costF_no (ss := ss) (xs := xs) (by rw [hlx.out, t0]; rfl))
    clear t0
    go_wp2_with fail
    go_ret
    exact ⟨by rw [HE.out]; rfl, Below.refl _ _⟩
  have T0 := Lib.hid t0
  clear t0
  go_wp2_with fail
  refine (allIn _ _ _ _ _ _ _ HX.out).mono ?_
  rintro e w1 ⟨rfl, hb1⟩
  cases t1 : xs.all fun x => inB x 0 5
  · have HE := Lib.hid (costF_no (ss := ss) (xs := xs) (by rw [t1]; simp))
    clear t1
    go_wp2_with fail
    go_ret
    exact ⟨by rw [HE.out]; rfl, hb1⟩
  have T1 := Lib.hid t1
  clear t1
  go_wp2_with fail
  refine (isoftOk _ _ _ ss _ _ (SofsR.on H.out hb1) T0.out).mono ?_
  rintro e w2 ⟨rfl, hb2⟩
  cases t2 : softsF ss (m : Int)
  · have HE := Lib.hid (costF_no (ss := ss) (xs := xs) (by rw [hlx.out, t2]; simp))
    clear t2
    go_wp2_with fail
    go_ret
    exact ⟨by rw [HE.out]; rfl, bgo hb1 hb2⟩
  have T2 := Lib.hid t2
  have HE := Lib.hid (costF_yes (ss := ss) (xs := xs) (by rw [hlx.out, T0.out, T1.out, t2]; rfl))
  clear t2
  go_wp2_with fail
  refine (isoftCost _ _ _ _ _ _ ss xs _ (SofsR.on H.out (bgo hb1 hb2)) (IntR.on HX.out (bgo hb1 hb2)) T2.out (by have := inB_true T0.out; omega) (all_vals T1.out)).mono ?_
  rintro e w3 ⟨rfl, hb3⟩
  go_wp2_with fail
  go_ret
  exact ⟨by rw [HE.out, hl.out]; rfl, bgo hb1 (bgo hb2 hb3)⟩
end Go.Proofs.Ythnkeiofehcekaa
