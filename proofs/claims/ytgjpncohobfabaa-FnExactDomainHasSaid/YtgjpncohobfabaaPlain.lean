/- Plain Lean: numbers, bits of domains, the Luby sequence. No program in sight. -/
import Derived.WalkKit
namespace Go.Proofs.Ytgjpncohobfabaa
open Go.RowKit
set_option linter.unusedVariables false

theorem six_cases {k : Nat} (h : k < 6) : k = 0 ∨ k = 1 ∨ k = 2 ∨ k = 3 ∨ k = 4 ∨ k = 5 := by omega
theorem wrap64_pow (k : Nat) (hk : k < 6) : wrap64 (2 ^ k) = 2 ^ k := by
  rcases six_cases hk with rfl | rfl | rfl | rfl | rfl | rfl <;> decide +kernel
theorem pow_le5 (k : Nat) (hk : k < 6) : 0 < (2 : Int) ^ k ∧ (2 : Int) ^ k ≤ 32 := by
  rcases six_cases hk with rfl | rfl | rfl | rfl | rfl | rfl <;> decide
theorem or_tab : ∀ k : Fin 6, ∀ d : Fin 32, d.val < 2 ^ k.val → bits .or .i64 (d.val : Int) (2 ^ k.val) = (d.val : Int) + 2 ^ k.val := by decide +kernel
theorem or_pow (d : Int) (k : Nat) (hk : k < 6) (h0 : 0 ≤ d) (hd : d < 2 ^ k) : bits .or .i64 d (wrap64 (2 ^ k)) = d + 2 ^ k := by
  rw [wrap64_pow k hk]
  have h5 := pow_le5 k hk
  obtain ⟨n, rfl⟩ := Int.eq_ofNat_of_zero_le h0
  exact or_tab ⟨k, hk⟩ ⟨n, by show n < 32; omega⟩ (by simp only []; exact_mod_cast hd)

/-- lo ≤ n ≤ hi. -/
def inB (n lo hi : Int) : Bool := decide (lo ≤ n ∧ n ≤ hi)
theorem inB_true {n lo hi : Int} (h : inB n lo hi = true) : lo ≤ n ∧ n ≤ hi := of_decide_eq_true h
theorem inB_false {n lo hi : Int} (h : inB n lo hi = false) : ¬ (lo ≤ n ∧ n ≤ hi) := of_decide_eq_false h
theorem inB_mk {n lo hi : Int} (h : lo ≤ n ∧ n ≤ hi) : inB n lo hi = true := decide_eq_true h
theorem inB_no {n lo hi : Int} (h : ¬ (lo ≤ n ∧ n ≤ hi)) : inB n lo hi = false := decide_eq_false h
/-- a valid domain. -/
def vdB (d : Int) : Bool := inB d 0 63
/-- bit v of d, as the model's operations have it. -/
def hasB (d v : Int) : Bool := bits BinOp.and IntKind.i64 (d / 2 ^ v.toNat) 1 == 1
/-- v is a value in d. -/
def dhB (d v : Int) : Bool := inB v 0 5 && hasB d v

/-- the domain of the first k values that lie between lo and hi. -/
def drTo (lo hi : Int) : Nat → Int
  | 0 => 0
  | k + 1 => drTo lo hi k + (if inB k lo hi then 2 ^ k else 0)
theorem drTo_bd (lo hi : Int) (k : Nat) : 0 ≤ drTo lo hi k ∧ drTo lo hi k < 2 ^ k := by
  induction k with
  | zero => simp [drTo]
  | succ k ih =>
    have h2 : (2 : Int) ^ (k + 1) = 2 ^ k + 2 ^ k := by rw [Int.pow_succ]; omega
    unfold drTo
    rw [h2]
    split <;> omega
theorem drTo_63 (lo hi : Int) (k : Nat) (hk : k ≤ 6) : 0 ≤ drTo lo hi k ∧ drTo lo hi k ≤ 63 := by
  have h := drTo_bd lo hi k
  have h2 : (2 : Int) ^ k ≤ 64 := by
    have : k < 6 ∨ k = 6 := by omega
    rcases this with h | rfl
    · have := pow_le5 k h; omega
    · decide
  omega

/-- the greatest power of 2 that is a place of the Luby sequence up to i (i at most 127). -/
def pwr (i : Int) : Int := if i ≤ 1 then 1 else if i ≤ 3 then 2 else if i ≤ 7 then 4 else if i ≤ 15 then 8 else if i ≤ 31 then 16 else if i ≤ 63 then 32 else 64
def isP (p : Int) : Prop := p = 1 ∨ p = 2 ∨ p = 4 ∨ p = 8 ∨ p = 16 ∨ p = 32 ∨ p = 64
theorem pwr_of (p i : Int) (hp : isP p) (h : p ≤ i) (hi : i ≤ 127) (hx : i ≤ 2 * p - 1) : pwr i = p := by
  unfold pwr
  rcases hp with rfl | rfl | rfl | rfl | rfl | rfl | rfl <;> (repeat' split) <;> omega
def lub : Nat → Int → Int
  | 0, _ => 0
  | n + 1, i => if i = 2 * pwr i - 1 then pwr i else lub n (i - pwr i + 1)
end Go.Proofs.Ytgjpncohobfabaa
