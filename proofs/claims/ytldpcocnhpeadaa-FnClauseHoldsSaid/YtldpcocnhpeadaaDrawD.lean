/- Draws of arguments that hold clauses. -/
import Derived.Test.YtldpcocnhpeadaaDrawC
namespace Go.Proofs.Ytldpcocnhpeadaa
open Go.ChangeShapes Go.WideShapes Go.ChangeAt Go.RowKit
open Go.Shelf
set_option linter.unusedVariables false
set_option maxRecDepth 100000

set_option maxHeartbeats 4000000 in
theorem drawClauseHolds (A : Option Addr) (n c : Nat) (bs : List Int) (w : World) (h : CodeA w w.heap.size A n c bs) :
    Calls Try.prog 26 #[.slice A n c] w fun e w' => ∃ (v1 v2 : Value) (xs : List Ltl) (ys : List Int), e = .returned (.tuple #[v1, v2]) ∧ (xs.length ≤ 4 ∧ InM 6 ys ∧ 1 ≤ ys.length ∧ ys.length ≤ 4) ∧ w'.ownsRow w.heap.size 41 3 v1 xs.length (xs.flatMap ltlCs) ∧ w'.ownsRow w.heap.size 3 1 v2 ys.length (ys.map (.int .i64)) ∧ Below w.heap.size w w' := by
  have HN := newReader A n c bs w h
  go_enter Try.func26, Try.ntmps26
  go_wp2_with fail
  refine HN.mono ?_
  rintro e w1 ⟨g, m, c', bs', rfl, hr, hb1, hg⟩
  go_wp2_with fail
  refine (pick _ g m c' 0 A bs' 4 w1 hr (by omega)).mono ?_
  rintro e w2 ⟨r, rfl, ⟨-, hr2⟩, hq2, hb2⟩
  obtain ⟨r0, r1⟩ := hr2 (by omega)
  obtain ⟨k, rfl⟩ := Int.eq_ofNat_of_zero_le r0
  have hk5 : k < 4 := by omega
  clear hr r0 r1 hr2
  go_wp2_with fail
  have e1 : (1 + (k : Int)) = ((1 + k : Nat) : Int) := by simp
  rw [e1]
  clear e1
  refine (anyClause _ g m c' 1 A bs' (1 + k) w2 hq2 (by omega) (by omega) (by omega)).mono ?_
  rintro e w3 ⟨v1, xs, q, rfl, -, hx4, hq, ho1, hq3, hb3⟩
  go_wp2_with fail
  have e1 : (1 + (k : Int)) = ((1 + k : Nat) : Int) := by simp
  try rw [e1]
  clear e1
  refine (randomRow _ g m c' q A bs' (1 + k) w3 hq3 (by omega) (by omega)).mono ?_
  rintro e w4 ⟨v2, ys, rfl, -, hl2, hi2, ho2, hq4, hb4⟩
  have s1 := hb1.size
  have s2 := hb2.size
  have s3 := hb3.size
  have hB : Below w.heap.size w w4 := hb1.trans (((hb2.go hb3).go hb4).below hq4.base_le s1)
  have oo1 := own_base (base' := w.heap.size) (own_butG ho1 hb4 (by omega)) (by omega)
  have oo2 := own_base (base' := w.heap.size) ho2 (by omega)
  have HI := Lib.hid hi2
  have HL := Lib.hid hl2
  clear ho1 ho2 hi2 hl2 hq4
  go_wp2_with fail
  exact bodyPost_ret (v := .tuple #[v1, v2]) (by simp [results, Try.results26, go_sem]) rfl ⟨v1, v2, xs, ys, rfl, ⟨hx4, HI.out, by have := HL.out; omega, by have := HL.out; omega⟩, oo1, by rw [HL.out]; exact oo2, hB⟩
end Go.Proofs.Ytldpcocnhpeadaa
