/- The laws' own functions on clauses. -/
import Derived.Test.YtjkgndedffildaaSubs
import Derived.Test.YtjkgndedffildaaDrawI
namespace Go.Proofs.Ytjkgndedffildaa
open Go.ChangeShapes Go.WideShapes Go.ChangeAt Go.RowKit
open Go.Shelf
set_option linter.unusedVariables false
set_option maxRecDepth 100000

theorem hasLiteral (A : Option Addr) (n c : Nat) (xs : List Ltl) (l : Ltl) (w : World) (h : LitR w w.heap.size A n xs) :
    Calls Try.prog 15 #[.slice A n c, .agg #[.int .i64 l.var, .int .i64 l.val, .bool l.neg]] w fun e w' => e = .returned (.bool (decide (l ∈ xs))) ∧ Below w.heap.size w w' := by
  have hn := h.le
  have hl := Lib.hid h.len
  go_enter Try.func15, Try.ntmps15
  go_wp2_with fail
  go_loopw [5] (fun i wr => ∃ k : Nat, k ≤ n ∧ i = .int .i64 k ∧ Hid (AllB (fun x => !decide (x = l)) xs k) ∧ Below (w.heap.size + 1) (w.alloc (.cells #[.int .i64 l.var, .int .i64 l.val, .bool l.neg] 30)) wr) (fun i _ => n - (intOf i).toNat)
  case atStart => exact ⟨0, by omega, rfl, AllB.zero _ _, Below.refl _ _⟩
  case round =>
    obtain ⟨k, hk, rfl, hq, hb1⟩ := hrel
    have hb : Below w.heap.size w wr := (b_alloc _ _).trans (hb1.mono (by omega))
    by_cases hlt : k < n
    · obtain ⟨ab, ao, x, rfl, hab, hxk, hc0, hc1, hc2⟩ := LitR.at_ (h.below LitC.keeps hb) hlt
      have HX := Lib.hid hxk
      clear hxk
      have l0 : wr.cell? ⟨w.heap.size, 0, none⟩ = some (.int .i64 l.var) := (hb1.cell (p := ⟨_, _, none⟩) (by show w.heap.size < _; omega)).trans (by rw [World.cell?_alloc_at _ _ _ _ rfl]; rfl)
      have l1 : wr.cell? ⟨w.heap.size, 1, none⟩ = some (.int .i64 l.val) := (hb1.cell (p := ⟨_, _, none⟩) (by show w.heap.size < _; omega)).trans (by rw [World.cell?_alloc_at _ _ _ _ rfl]; rfl)
      have l2 : wr.cell? ⟨w.heap.size, 2, none⟩ = some (.bool l.neg) := (hb1.cell (p := ⟨_, _, none⟩) (by show w.heap.size < _; omega)).trans (by rw [World.cell?_alloc_at _ _ _ _ rfl]; rfl)
      have hgu := lit_guard
      cases he : decide (x = l)
      · have heq := fun w => lit_eql x l w false he
        have HE := Lib.hid he
        clear he
        go_wp2_with fail
        go_quiet (fail)
        go_wp2_with fail
        go_roundw
        case rel => exact ⟨k + 1, by omega, by go_num, AllB.succ hq.out HX.out (by simp [HE.out]), below_drewN hb1 _⟩
        case measure => simp [intOf]; omega
      · have heq := fun w => lit_eql x l w true he
        have HE := Lib.hid he
        clear he
        go_wp2_with fail
        go_quiet (fail)
        go_wp2_with fail
        go_ret
        refine ⟨ret_bool ?_, below_drewN hb _⟩
        have hm : l ∈ xs := by rw [← of_decide_eq_true HE.out]; exact List.mem_of_getElem? HX.out
        rw [decide_eq_true hm]
    · obtain rfl : k = n := by omega
      go_wp2_with fail
      go_ret
      refine ⟨ret_bool ?_, hb⟩
      have := AllB.done hq.out (Nat.le_of_eq hl.out)
      have h2 : ¬ l ∈ xs := fun hm => by
        rw [List.all_eq_true] at this
        have := this l hm
        simp at this
      rw [decide_eq_false h2]
end Go.Proofs.Ytjkgndedffildaa
