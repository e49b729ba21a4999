/- The text of a constraint and of a model: plain; the keywords. -/
import Derived.Test.YtfoodlhfmcfjeaaDoorStrN
import Derived.Test.YtfoodlhfmcfjeaaDoorVmod
import Derived.Deep.RegionHeld3
namespace Go.Proofs.YtfoodlhfmcfjeaaDoor
open Go.ChangeShapes Go.WideShapes Go.ChangeAt Go.RowKit
open Go.Shelf
set_option linter.unusedVariables false
set_option linter.unusedSimpArgs false
set_option maxRecDepth 100000

/-- what the worlds meet may be weakened on the way through a region. -/
theorem wpAnyH_weaken {P : Program} {md : Region.Mode} {ops : Array Oper} {Q : Exit → Act → World → Prop} {S S' : World → Prop} (hS : ∀ w, S' w → S w) : ∀ (fuel : Nat) (listed : Array Bool) (a : Act) (w : World), wpAnyH P md ops Q S' fuel listed a w → wpAnyH P md ops Q S fuel listed a w
  | 0, _, _, _, h => h
  | fuel + 1, _, _, _, h => ⟨h.1, fun i hi => wpOp_mono (fun a' w' h' => ⟨hS _ h'.1, wpAnyH_weaken hS fuel _ a' w' h'.2⟩) (h.2 i hi)⟩
def kws : List (List UInt8) := [[], [108, 105, 110, 101, 97, 114], [110, 111, 116, 101, 113, 117, 97, 108], [97, 108, 108, 100, 105, 102, 102, 101, 114, 101, 110, 116], [101, 108, 101, 109, 101, 110, 116], [116, 97, 98, 108, 101], [99, 111, 117, 110, 116], [99, 117, 109, 117, 108, 97, 116, 105, 118, 101], [114, 101, 103, 117, 108, 97, 114], [99, 105, 114, 99, 117, 105, 116]]
def kwF (k : Nat) : List UInt8 := kws.getD k []
def kwC : Array Value := #[.string ⟨#[]⟩, .string ⟨#[108, 105, 110, 101, 97, 114]⟩, .string ⟨#[110, 111, 116, 101, 113, 117, 97, 108]⟩, .string ⟨#[97, 108, 108, 100, 105, 102, 102, 101, 114, 101, 110, 116]⟩, .string ⟨#[101, 108, 101, 109, 101, 110, 116]⟩, .string ⟨#[116, 97, 98, 108, 101]⟩, .string ⟨#[99, 111, 117, 110, 116]⟩, .string ⟨#[99, 117, 109, 117, 108, 97, 116, 105, 118, 101]⟩, .string ⟨#[114, 101, 103, 117, 108, 97, 114]⟩, .string ⟨#[99, 105, 114, 99, 117, 105, 116]⟩]
theorem kwC_at {k : Nat} (h : k < 10) : kwC[k]? = some (.string (bs (kwF k))) := by
  match k, h with
  | 0, _ => rfl
  | 1, _ => rfl
  | 2, _ => rfl
  | 3, _ => rfl
  | 4, _ => rfl
  | 5, _ => rfl
  | 6, _ => rfl
  | 7, _ => rfl
  | 8, _ => rfl
  | 9, _ => rfl
theorem kw_len : ∀ k : Fin 10, (kwF k.val).length ≤ 12 := by decide
def rowsF (rs : List (List Int)) : List UInt8 := (rs.map fun r => 32 :: listF r).flatten
def headF (c : Con) : List UInt8 := kwF c.kind.toNat ++ [32] ++ listF c.vars ++ [32] ++ listF c.args ++ [32] ++ Lib.itoa c.bound
/-- the text of a constraint. -/
def conF (c : Con) : List UInt8 := headF c ++ rowsF c.rows
/-- the text of a model. -/
def domsF (ds : List Int) : List UInt8 := (ds.map fun d => [118, 97, 114, 32] ++ encF d ++ [10]).flatten
def consF (cs : List Con) : List UInt8 := (cs.map fun c => conF c ++ [10]).flatten
def modF (m : Mod) : List UInt8 := domsF m.doms ++ consF m.cons
theorem rowsF_snoc (rs : List (List Int)) (r : List Int) : rowsF (rs ++ [r]) = rowsF rs ++ (32 :: listF r) := by simp [rowsF]
theorem domsF_snoc (ds : List Int) (d : Int) : domsF (ds ++ [d]) = domsF ds ++ ([118, 97, 114, 32] ++ encF d ++ [10]) := by simp [domsF]
theorem consF_snoc (cs : List Con) (c : Con) : consF (cs ++ [c]) = consF cs ++ (conF c ++ [10]) := by simp [consF]
/-- the numbers of a valid constraint. -/
def GoodC (c : Con) : Prop := (0 ≤ c.kind ∧ c.kind ≤ 9) ∧ Sm9 c.vars ∧ Sm9 c.args ∧ (-999 ≤ c.bound ∧ c.bound ≤ 999) ∧ (∀ r ∈ c.rows, Sm9 r) ∧ c.rows.length ≤ 8
theorem rowsF_len {rs : List (List Int)} (h : ∀ r ∈ rs, Sm9 r ∧ r.length ≤ 1048576) : (rowsF rs).length ≤ 5242890 * rs.length := by
  induction rs with
  | nil => simp [rowsF]
  | cons r t ih =>
    have h1 := ih (fun x hx => h x (by simp [hx]))
    have h2 := h r (by simp)
    have h3 := listF_len h2.1
    have e : rowsF (r :: t) = (32 :: listF r) ++ rowsF t := by simp [rowsF]
    rw [e, List.length_append, List.length_cons, List.length_cons]
    omega
theorem headF_len {c : Con} (h : GoodC c) (hs : c.vars.length ≤ 1048576 ∧ c.args.length ≤ 1048576) : (headF c).length ≤ 11000000 := by
  unfold headF
  have h1 := listF_len h.2.1
  have h2 := listF_len h.2.2.1
  have h3 := (itoa_len h.2.2.2.1.1 h.2.2.2.1.2).2
  have h4 := kw_len ⟨c.kind.toNat, by have := h.1; omega⟩
  simp only [List.length_append, List.length_singleton] at h4 ⊢
  omega
theorem conF_len {c : Con} (h : GoodC c) (hs : SmCon c) : (conF c).length ≤ 60000000 := by
  obtain ⟨s1, s2, s3, s4⟩ := hs
  have h1 := headF_len h ⟨s1, s2⟩
  have h2 := rowsF_len (fun r hr => ⟨h.2.2.2.2.1 r hr, s4 r hr⟩)
  have h3 := h.2.2.2.2.2
  unfold conF
  rw [List.length_append]
  omega
theorem in9 {xs : List Int} {lo hi : Int} (h : (xs.all fun x => inB x lo hi) = true) (h0 : -999 ≤ lo) (h1 : hi ≤ 999) : Sm9 xs := fun x hx => by
  have := inB_true (List.all_eq_true.1 h x hx)
  omega
theorem rows9 {rs : List (List Int)} {n lo hi : Int} (h : rowsOk rs n lo hi = true) (h0 : -999 ≤ lo) (h1 : hi ≤ 999) : (∀ r ∈ rs, Sm9 r) ∧ rs.length ≤ 8 := by
  unfold rowsOk at h
  rw [Bool.and_eq_true] at h
  refine ⟨fun r hr => ?_, by have := inB_true h.1; omega⟩
  have h2 := List.all_eq_true.1 h.2 r hr
  unfold rowIn at h2
  rw [Bool.and_eq_true] at h2
  exact in9 h2.2 h0 h1
theorem norows {rs : List (List Int)} (h : ((rs.length : Int) == 0) = true) : (∀ r ∈ rs, Sm9 r) ∧ rs.length ≤ 8 := by
  have : rs = [] := List.eq_nil_of_length_eq_zero (by simpa using h)
  subst this
  exact ⟨fun r hr => (by simp at hr), by simp⟩
theorem bd0 {b : Int} (h : (b == 0) = true) : -999 ≤ b ∧ b ≤ 999 := by
  have : b = 0 := by simpa using h
  omega
theorem len0 {xs : List Int} (h : ((xs.length : Int) == 0) = true) : Sm9 xs := by
  have : xs = [] := List.eq_nil_of_length_eq_zero (by simpa using h)
  subst this
  exact fun x hx => by simp at hx
theorem good_of {c : Con} {n : Nat} (h : vconF c n = true) (hn : n ≤ 4) : GoodC c := by
  unfold vconF at h
  simp only [Bool.and_eq_true] at h
  obtain ⟨hl, hv, -, hf⟩ := h
  have hl := inB_true hl
  have hw : wrap64 ((n : Int) - 1) = (n : Int) - 1 := IntWalk.wrap64_in _ ⟨by omega, by omega⟩
  rw [hw] at hv
  have hv := in9 hv (by omega) (by omega)
  by_cases h1 : c.kind = 1
  · rw [fits1 h1] at hf
    simp only [Bool.and_eq_true] at hf
    obtain ⟨-, a, b, r⟩ := hf
    exact ⟨by omega, hv, in9 a (by omega) (by omega), inB_true b, (norows r).1, (norows r).2⟩
  by_cases h2 : c.kind = 2
  · rw [fits2 h2] at hf
    simp only [Bool.and_eq_true] at hf
    obtain ⟨-, -, a, b, r⟩ := hf
    exact ⟨by omega, hv, in9 a (by omega) (by omega), bd0 b, (norows r).1, (norows r).2⟩
  by_cases h3 : c.kind = 3
  · rw [fits3 h3] at hf
    simp only [Bool.and_eq_true] at hf
    obtain ⟨a, b, r⟩ := hf
    exact ⟨by omega, hv, len0 a, bd0 b, (norows r).1, (norows r).2⟩
  by_cases h9 : c.kind = 9
  · rw [fits9 h9] at hf
    simp only [Bool.and_eq_true] at hf
    obtain ⟨a, b, r⟩ := hf
    exact ⟨by omega, hv, len0 a, bd0 b, (norows r).1, (norows r).2⟩
  by_cases h4 : c.kind = 4
  · rw [fits4 h4] at hf
    simp only [Bool.and_eq_true] at hf
    obtain ⟨-, -, a, b, r⟩ := hf
    exact ⟨by omega, hv, in9 a (by omega) (by omega), bd0 b, (norows r).1, (norows r).2⟩
  by_cases h5 : c.kind = 5
  · rw [fits5 h5] at hf
    simp only [Bool.and_eq_true] at hf
    obtain ⟨a, b, r⟩ := hf
    have r := rows9 r (by omega) (by omega)
    exact ⟨by omega, hv, len0 a, bd0 b, r.1, r.2⟩
  by_cases h6 : c.kind = 6
  · rw [fits6 h6] at hf
    simp only [Bool.and_eq_true] at hf
    obtain ⟨-, a, b, r⟩ := hf
    have b := inB_true b
    exact ⟨by omega, hv, in9 a (by omega) (by omega), ⟨by omega, by omega⟩, (norows r).1, (norows r).2⟩
  by_cases h7 : c.kind = 7
  · rw [fits7 h7] at hf
    simp only [Bool.and_eq_true] at hf
    obtain ⟨-, a, b, r⟩ := hf
    have b := inB_true b
    exact ⟨by omega, hv, in9 a (by omega) (by omega), ⟨by omega, by omega⟩, (norows r).1, (norows r).2⟩
  by_cases h8 : c.kind = 8
  · rw [fits8 h8] at hf
    simp only [Bool.and_eq_true] at hf
    obtain ⟨r, a, -, b⟩ := hf
    have hr8 : c.rows.length ≤ 8 := by
      unfold rowsOk at r
      rw [Bool.and_eq_true] at r
      have := inB_true r.1
      omega
    have hw2 : wrap64 ((c.rows.length : Int) - 1) = (c.rows.length : Int) - 1 := IntWalk.wrap64_in _ ⟨by omega, by omega⟩
    rw [hw2] at r a
    have r := rows9 r (by omega) (by omega)
    exact ⟨by omega, hv, in9 a (by omega) (by omega), bd0 b, r.1, r.2⟩
  · rw [fits0 h1 h2 h3 h9 h4 h5 h6 h7 h8] at hf
    cases hf
theorem skeywords (w : World) : Calls Tryd.prog 46 #[] w fun e w' => e = .returned (.slice (some ⟨w.heap.size, 0, none⟩) 10 10) ∧ w' = w.alloc (.cells kwC 9) := by
  go_enter Tryd.func46, Tryd.ntmps46
  go_wp2_with fail
  go_ret
  exact ⟨rfl, rfl⟩
theorem ikeywords (w : World) : Calls Tryd.prog 37 #[] w fun e w' => e = .returned (.slice (some ⟨w.heap.size, 0, none⟩) 10 10) ∧ w' = w.alloc (.cells kwC 9) := by
  go_enter Tryd.func37, Tryd.ntmps37
  go_wp2_with fail
  go_ret
  exact ⟨rfl, rfl⟩
end Go.Proofs.YtfoodlhfmcfjeaaDoor
