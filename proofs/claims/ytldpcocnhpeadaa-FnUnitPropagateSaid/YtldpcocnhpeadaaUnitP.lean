/- Plain Lean: unit propagation. No program in sight. -/
import Derived.Test.YtldpcocnhpeadaaMerge
namespace Go.Proofs.Ytldpcocnhpeadaa
set_option linter.unusedVariables false

/-- valid domains of 1 to 4 variables. -/
def doF (ds : List Int) : Bool := inB ds.length 1 4 && ds.all fun d => inB d 0 63
/-- a literal is not false on the domains. -/
def openL (ds : List Int) (l : Ltl) : Bool := bits .and .i64 (ds[l.var.toNat]?.getD 0) (truesF l) != 0
/-- unit propagation of a valid clause. -/
def upL (xs : List Ltl) (ds : List Int) : List Int :=
  match xs.filter (openL ds) with
  | [] => List.replicate ds.length 0
  | [l] => ds.set l.var.toNat (bits .and .i64 (ds[l.var.toNat]?.getD 0) (truesF l))
  | _ => ds
def upF (xs : List Ltl) (ds : List Int) : List Int := if doF ds && vcF xs ds.length then upL xs ds else []
theorem upL_len (xs : List Ltl) (ds : List Int) : (upL xs ds).length = ds.length := by
  unfold upL; split <;> simp
theorem litDom_tab : ∀ v : Fin 6, truesF ⟨0, (v.val : Int), true⟩ = 63 - 2 ^ v.val := by decide +kernel
theorem litDom (l : Ltl) (k : Nat) (hk : k < 6) (h : l.val = (k : Int)) (hn : l.neg = true) : truesF l = 63 - 2 ^ k := by
  have := litDom_tab ⟨k, hk⟩
  unfold truesF at this ⊢
  simp only [h, hn, if_true] at this ⊢
  exact this
theorem filter_snoc {xs : List Ltl} {k : Nat} {x : Ltl} (f : Ltl → Bool) (hx : xs[k]? = some x) : (xs.take (k + 1)).filter f = (xs.take k).filter f ++ (if f x then [x] else []) := by
  rw [List.take_add_one, hx, List.filter_append]
  cases h : f x <;> simp [h]
theorem doF_vals {ds : List Int} (h : doF ds = true) : 1 ≤ ds.length ∧ ds.length ≤ 4 ∧ ∀ d ∈ ds, 0 ≤ d ∧ d ≤ 63 := by
  unfold doF at h
  simp only [Bool.and_eq_true] at h
  have h1 := inB_true h.1
  exact ⟨by omega, by omega, fun d hd => inB_true (List.all_eq_true.1 h.2 d hd)⟩
theorem upF_len (xs : List Ltl) (ds : List Int) : (upF xs ds).length ≤ 4 := by
  unfold upF
  split
  · rename_i h
    simp only [Bool.and_eq_true] at h
    rw [upL_len]; exact (doF_vals h.1).2.1
  · simp
theorem filter_split (f : Ltl → Bool) (xs : List Ltl) (k : Nat) : xs.filter f = (xs.take k).filter f ++ (xs.drop k).filter f := by
  rw [← List.filter_append, List.take_append_drop]
theorem upL_two {xs : List Ltl} {ds : List Int} {k : Nat} {l x : Ltl} (h : (xs.take k).filter (openL ds) = [l, x]) : upL xs ds = ds := by
  unfold upL
  rw [filter_split _ xs k, h]
  rfl
theorem upL_one {xs : List Ltl} {ds : List Int} {k : Nat} {l : Ltl} (hk : xs.length = k) (h : (xs.take k).filter (openL ds) = [l]) : upL xs ds = ds.set l.var.toNat (bits .and .i64 (ds[l.var.toNat]?.getD 0) (truesF l)) := by
  unfold upL
  rw [List.take_of_length_le (by omega)] at h
  rw [h]
theorem upL_none {xs : List Ltl} {ds : List Int} {k : Nat} (hk : xs.length = k) (h : (xs.take k).filter (openL ds) = []) : upL xs ds = List.replicate ds.length 0 := by
  unfold upL
  rw [List.take_of_length_le (by omega)] at h
  rw [h]
theorem upL_many {xs : List Ltl} {ds : List Int} {k : Nat} {l l2 : Ltl} {os : List Ltl} (hk : xs.length = k) (h : (xs.take k).filter (openL ds) = l :: l2 :: os) : upL xs ds = ds := by
  unfold upL
  rw [List.take_of_length_le (by omega)] at h
  rw [h]
end Go.Proofs.Ytldpcocnhpeadaa
