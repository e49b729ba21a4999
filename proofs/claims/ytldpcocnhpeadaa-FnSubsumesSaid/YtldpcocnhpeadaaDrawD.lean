/- Draws of arguments that hold clauses. -/
import Derived.Test.YtldpcocnhpeadaaDrawC
namespace Go.Proofs.Ytldpcocnhpeadaa
open Go.ChangeShapes Go.WideShapes Go.ChangeAt Go.RowKit
open Go.Shelf
set_option linter.unusedVariables false
set_option maxRecDepth 100000

set_option maxHeartbeats 4000000 in
theorem drawClauseHolds (A : Option Addr) (n c : Nat) (bs : List Int) (w : World) (h : CodeA w w.heap.size A n c bs) :
    Calls Try.prog 26 #[.slice A n c] w fun e w' => ∃ (v1 v2 : Value) (xs : List Ltl) (ys : List Int), e = .returned (.tuple #[v1, v2]) ∧ (xs.length ≤ 4 ∧ InM 6 ys ∧ 1 ≤ ys.length ∧ ys.length ≤ 4) ∧ w'.ownsRow w.heap.size 41 3 v1 xs.length (xs.flatMap ltlCs) ∧ w'.ownsRow w.heap.size 3 1 v2 ys.length (ys.map (.int .i64)) ∧ Below w.heap.size w w' := by
  have HN := newReader A n c bs w h
  go_enter Try.func26, Try.ntmps26
  go_wp2_with fail
  refine HN.mono ?_
  rintro e w1 ⟨g, m, c', bs', rfl, hr, hb1, hg⟩
  go_wp2_with fail
  refine (pick _ g m c' 0 A bs' 4 w1 hr (by omega)).mono ?_
  rintro e w2 ⟨r, rfl, ⟨-, hr2⟩, hq2, hb2⟩
  obtain ⟨r0, r1⟩ := hr2 (by omega)
  obtain ⟨k, rfl⟩ := Int.eq_ofNat_of_zero_le r0
  have hk5 : k < 4 := by omega
  clear hr r0 r1 hr2
  go_wp2_with fail
  have e1 : (1 + (k : Int)) = ((1 + k : Nat) : Int) := by simp
  rw [e1]
  clear e1
  refine (anyClause _ g m c' 1 A bs' (1 + k) w2 hq2 (by omega) (by omega) (by omega)).mono ?_
  rintro e w3 ⟨v1, xs, q, rfl, -, hx4, hq, ho1, hq3, hb3⟩
  go_wp2_with fail
  have e1 : (1 + (k : Int)) = ((1 + k : Nat) : Int) := by simp
  try rw [e1]
  clear e1
  refine (randomRow _ g m c' q A bs' (1 + k) w3 hq3 (by omega) (by omega)).mono ?_
  rintro e w4 ⟨v2, ys, rfl, -, hl2, hi2, ho2, hq4, hb4⟩
  have s1 := hb1.size
  have s2 := hb2.size
  have s3 := hb3.size
  have hB : Below w.heap.size w w4 := hb1.trans (((hb2.go hb3).go hb4).below hq4.base_le s1)
  have oo1 := own_base (base' := w.heap.size) (own_butG ho1 hb4 (by omega)) (by omega)
  have oo2 := own_base (base' := w.heap.size) ho2 (by omega)
  have HI := Lib.hid hi2
  have HL := Lib.hid hl2
  clear ho1 ho2 hi2 hl2 hq4
  go_wp2_with fail
  exact bodyPost_ret (v := .tuple #[v1, v2]) (by simp [results, Try.results26, go_sem]) rfl ⟨v1, v2, xs, ys, rfl, ⟨hx4, HI.out, by have := HL.out; omega, by have := HL.out; omega⟩, oo1, by rw [HL.out]; exact oo2, hB⟩
set_option maxHeartbeats 4000000 in
theorem drawSubsumes (A : Option Addr) (n c : Nat) (bs : List Int) (w : World) (h : CodeA w w.heap.size A n c bs) :
    Calls Try.prog 22 #[.slice A n c] w fun e w' => ∃ (m : Nat) (v1 v2 : Value) (xs ys : List Ltl), e = .returned (.tuple #[.int .i64 m, v1, v2]) ∧ (1 ≤ m ∧ m ≤ 4 ∧ xs.length ≤ 4 ∧ ys.length ≤ 7) ∧ w'.ownsRow w.heap.size 41 3 v1 xs.length (xs.flatMap ltlCs) ∧ w'.ownsRow w.heap.size 41 3 v2 ys.length (ys.flatMap ltlCs) ∧ Below w.heap.size w w' := by
  have HN := newReader A n c bs w h
  go_enter Try.func22, Try.ntmps22
  go_wp2_with fail
  refine HN.mono ?_
  rintro e w1 ⟨g, m, c', bs', rfl, hr, hb1, hg⟩
  go_wp2_with fail
  refine (pick _ g m c' 0 A bs' 4 w1 hr (by omega)).mono ?_
  rintro e w2 ⟨r, rfl, ⟨-, hr2⟩, hq2, hb2⟩
  obtain ⟨r0, r1⟩ := hr2 (by omega)
  obtain ⟨k, rfl⟩ := Int.eq_ofNat_of_zero_le r0
  have hk5 : k < 4 := by omega
  clear hr r0 r1 hr2
  go_wp2_with fail
  obtain ⟨j, hj⟩ : ∃ j : Nat, j = 1 + k := ⟨_, rfl⟩
  have e1 : (1 + (k : Int)) = (j : Int) := by omega
  rw [e1]
  have hj1 : 1 ≤ j := by omega
  have hj4 : j ≤ 4 := by omega
  clear e1 hj hk5
  refine (anyClause _ g m c' 1 A bs' j w2 hq2 (by omega) (by omega) (by omega)).mono ?_
  rintro e w3 ⟨v1, xs, q, rfl, hn1, hx4, hq, ho1, hq3, hb3⟩
  have s1 := hb1.size
  have s2 := hb2.size
  have s3 := hb3.size
  have HNN1 := Lib.hid hn1
  clear hn1
  go_wp2_with fail
  refine (anyClause _ g m c' q A bs' j w3 hq3 (by omega) (by omega) (by omega)).mono ?_
  rintro e w4 ⟨v2, ys, q2, rfl, -, hy4, hqq, ho2, hq4, hb4⟩
  have s4 := hb4.size
  have oo1 := own_butG ho1 hb4 (by omega)
  clear ho1 hq3 hq2
  go_wp2_with fail
  refine (pick _ g m c' q2 A bs' 2 w4 hq4 (by omega)).mono ?_
  rintro e w5 ⟨r, rfl, -, hq5, hb5⟩
  have s5 := hb5.size
  have ox := own_butG oo1 hb5 (by omega)
  have oy := own_butG ho2 hb5 (by omega)
  have hB5 : Below w.heap.size w w5 := hb1.trans ((((hb2.go hb3).go hb4).go hb5).below hq5.base_le s1)
  clear oo1 ho2 hq4 hb1 hb2 hb3 hb4 hb5 HN h
  by_cases h0 : r = 0
  · subst h0
    go_wp2_with fail
    refine (randomClause _ g m c' (q2 + 1) A bs' j w5 hq5 (by omega) (by omega) (by omega)).mono ?_
    rintro e w6 ⟨v3, zs, q3, rfl, -, hz3, -, ho3, hq6, hb6⟩
    have s6 := hb6.size
    have ox6 := own_butG ox hb6 (by omega)
    have hmc := mergeClauses _ _ _ _ _ _ xs zs _ ox6 rfl ho3 rfl (by omega)
    have HMC := Lib.hid hmc
    clear hmc
    go_wp2_with fail
    refine HMC.out.mono ?_
    rintro e w7 ⟨v7, rfl, -, ho7, hb7⟩
    have hml := (mergeL_len xs zs).2
    have ox7 := own_base (base' := w.heap.size) (own_below ox6 hb7) (by omega)
    have oy7 := own_base (base' := w.heap.size) ho7 (by omega)
    have hB7 := bgo (hB5.trans (hb6.below hq5.base_le (by omega))) hb7
    clear ox6 ho3 ho7 HMC ox oy
    have OX := Lib.hid ox7
    have OY := Lib.hid oy7
    clear ox7 oy7
    go_wp2_with fail
    exact bodyPost_ret (v := .tuple #[.int .i64 j, v1, v7]) (by simp [results, Try.results22, go_sem]) rfl ⟨j, v1, v7, xs, mergeL xs zs, rfl, ⟨hj1, hj4, hx4, by omega⟩, OX.out, OY.out, hB7⟩
  · have hne : (r == 0) = false := by simpa using h0
    have OX := Lib.hid (own_base (base' := w.heap.size) ox (by omega))
    have OY := Lib.hid (own_base (base' := w.heap.size) oy (by omega))
    clear ox oy
    go_wp2_with fail
    exact bodyPost_ret (v := .tuple #[.int .i64 j, v1, v2]) (by simp [results, Try.results22, go_sem]) rfl ⟨j, v1, v2, xs, ys, rfl, ⟨hj1, hj4, hx4, by omega⟩, OX.out, OY.out, hB5⟩
end Go.Proofs.Ytldpcocnhpeadaa
