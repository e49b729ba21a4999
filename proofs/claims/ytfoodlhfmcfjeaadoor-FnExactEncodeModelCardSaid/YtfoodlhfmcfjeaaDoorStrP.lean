/- The text of a domain: plain lists of bytes. -/
import Derived.Test.YtfoodlhfmcfjeaaDoorPlain
import Derived.Lib.Join
namespace Go.Proofs.YtfoodlhfmcfjeaaDoor
set_option linter.unusedVariables false
set_option maxRecDepth 100000

/-- a string of these bytes. -/
def bs (l : List UInt8) : ByteArray := ⟨l.toArray⟩
/-- the digit of a value. -/
def dig (v : Nat) : List UInt8 := [UInt8.ofNat (48 + v)]
/-- where the run that begins at v ends; f steps are left. -/
def runE (d : Int) : Nat → Nat → Nat
  | 0, v => v
  | f + 1, v => if v < 5 ∧ hasB d ((v + 1 : Nat) : Int) = true then runE d f (v + 1) else v
theorem runE_le (d : Int) : ∀ f v, v ≤ runE d f v ∧ runE d f v ≤ v + f
  | 0, v => ⟨Nat.le_refl _, Nat.le_refl _⟩
  | f + 1, v => by
    unfold runE
    split
    · have := runE_le d f (v + 1); omega
    · omega
/-- the text of the run from v to e. -/
def runT (v e : Nat) : List UInt8 := if v < e then dig v ++ ([45] ++ dig e) else dig v
/-- the runs' texts from v on; f values are left. -/
def partsF (d : Int) : Nat → Nat → List (List UInt8)
  | 0, _ => []
  | f + 1, v => if v < 6 then (if hasB d (v : Int) = true then runT v (runE d (5 - v) v) :: partsF d f (runE d (5 - v) v + 1) else partsF d f (v + 1)) else []
theorem partsF_done (d : Int) (f v : Nat) (h : 6 ≤ v) : partsF d f v = [] := by
  cases f with
  | zero => rfl
  | succ f => unfold partsF; rw [if_neg (by omega)]
/-- more steps than values change nothing. -/
theorem partsF_fuel (d : Int) : ∀ f g v, 6 - v ≤ f → 6 - v ≤ g → partsF d f v = partsF d g v
  | 0, g, v, hf, hg => (partsF_done d g v (by omega)).symm
  | f + 1, 0, v, hf, hg => partsF_done d _ v (by omega)
  | f + 1, g + 1, v, hf, hg => by
    by_cases hv : v < 6
    · unfold partsF
      rw [if_pos hv, if_pos hv]
      have := (runE_le d (5 - v) v).1
      rw [partsF_fuel d f g (v + 1) (by omega) (by omega), partsF_fuel d f g (runE d (5 - v) v + 1) (by omega) (by omega)]
    · rw [partsF_done d _ v (by omega), partsF_done d _ v (by omega)]
/-- impl's text. -/
def encF (d : Int) : List UInt8 := if d = 0 then [101, 109, 112, 116, 121] else Lib.join (partsF d 6 0) [44]
/-- spec's text behind the first k values. -/
def outF (d : Int) : Nat → List UInt8
  | 0 => []
  | k + 1 => if hasB d (k : Int) = true ∧ (dhB d ((k : Int) - 1) = false) then
      (if outF d k = [] then [] else outF d k ++ [44]) ++ runT k (runE d (5 - k) k) else outF d k
theorem enc_out : ∀ d : Fin 64, encF d.val = if outF d.val 6 = [] then [101, 109, 112, 116, 121] else outF d.val 6 := by decide +kernel
theorem enc_inj : ∀ d e : Fin 64, encF d.val = encF e.val → d = e := by decide +kernel
theorem enc_len : ∀ d : Fin 64, (encF d.val).length ≤ 64 ∧ encF d.val ≠ [] := by decide +kernel
/-- the first domain, from k on, whose text is s; f are left. -/
def decF (s : List UInt8) : Nat → Nat → Option Nat
  | 0, _ => none
  | f + 1, k => if encF (k : Int) = s then some k else decF s f (k + 1)
theorem decF_some {s : List UInt8} : ∀ {f k d}, decF s f k = some d → encF (d : Int) = s ∧ k ≤ d ∧ d < k + f
  | 0, k, d, h => by cases h
  | f + 1, k, d, h => by
    unfold decF at h
    split at h
    · next g => injection h with h; subst h; exact ⟨g, Nat.le_refl _, by omega⟩
    · obtain ⟨a, b, c⟩ := decF_some h; exact ⟨a, by omega, by omega⟩
theorem decF_none {s : List UInt8} : ∀ {f k}, decF s f k = none → ∀ d, k ≤ d → d < k + f → encF (d : Int) ≠ s
  | 0, k, h, d, h1, h2 => by omega
  | f + 1, k, h, d, h1, h2 => by
    unfold decF at h
    split at h
    · cases h
    · next g =>
      by_cases e : d = k
      · subst e; exact g
      · exact decF_none h d (by omega) (by omega)
end Go.Proofs.YtfoodlhfmcfjeaaDoor
