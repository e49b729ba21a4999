/- '==' on two literals. -/
import Derived.Test.YtjkgndedffildaaLits
import Derived.Test.YtjkgndedffildaaMerge
import Derived.Laws.StructEq
namespace Go.Proofs.Ytjkgndedffildaa
open Go.ChangeShapes Go.WideShapes Go.ChangeAt Go.RowKit
set_option linter.unusedVariables false
set_option maxRecDepth 100000

theorem lit_fields : Try.prog.underlying 30 = some (.struct (Try.prog.fieldsOf 30)) := by rw [Program.fieldsOf, Try.underlying30]
theorem lit_eql (x y : Ltl) (w : World) (b : Bool) (hb : decide (x = y) = b) : (binOp .eql 30 (.agg #[.int .i64 x.var, .int .i64 x.val, .bool x.neg]) (.agg #[.int .i64 y.var, .int .i64 y.val, .bool y.neg])).run Try.prog w = .ok (.bool b) w := by
  subst hb
  rw [run_eql_struct, run_equalIn_agg _ _ _ _ _ lit_fields Try.stoodInHeld30, Program.fieldsOf, Try.underlying30]
  have e : decide (x = y) = (x.var == y.var && (x.val == y.val && x.neg == y.neg)) := by
    by_cases h : x = y
    · subst h; simp
    · rw [decide_eq_false h, ltl_ne h]
  rw [e]
  have hi : Try.prog.underlying 3 = some (.int .i64) := Try.underlying3
  have hb : Try.prog.underlying 4 = some .bool := Try.underlying4
  simp [Op.eqFields, go_sem, hi, hb]
  by_cases h1 : x.var = y.var <;> by_cases h2 : x.val = y.val <;> by_cases h3 : x.neg = y.neg <;> simp [h1, h2, h3]
theorem lit_neq (x y : Ltl) (w : World) (b : Bool) (hb : decide (x = y) = b) : (binOp .neq 30 (.agg #[.int .i64 x.var, .int .i64 x.val, .bool x.neg]) (.agg #[.int .i64 y.var, .int .i64 y.val, .bool y.neg])).run Try.prog w = .ok (.bool (!b)) w := by
  have h := lit_eql x y w b hb
  rw [run_eql_struct] at h
  rw [run_neq_struct]
  cases hr : (Op.equalIn 10000 30 (.agg #[.int .i64 x.var, .int .i64 x.val, .bool x.neg]) (.agg #[.int .i64 y.var, .int .i64 y.val, .bool y.neg])).run Try.prog w with
  | ok v w2 =>
    rw [hr] at h
    simp only [Result.andThen_ok] at h ⊢
    injection h with h1 h2
    injection h1 with h1
    rw [h1, h2]
  | halt c w2 => rw [hr] at h; simp [Result.andThen] at h
theorem lit_guard (op : BinOp) (a b : Operand) (xs ys : Array Value) (w : World) : (eqGuard op 30 a b (.agg xs) (.agg ys)).run Try.prog w = .ok () w := run_eqGuard_agg w op _ a b xs ys Try.eqGuardType30
end Go.Proofs.Ytjkgndedffildaa
