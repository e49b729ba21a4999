/- spec's IsEntailed. -/
import Derived.Test.YtejfnkbdmlijbaaEnt
import Derived.Test.YtejfnkbdmlijbaaSatS
namespace Go.Proofs.Ytejfnkbdmlijbaa
open Go.ChangeShapes Go.WideShapes Go.ChangeAt Go.RowKit
open Go.Shelf
set_option linter.unusedVariables false
set_option maxRecDepth 100000
attribute [local go_sem] Oper.semAt_some

/-- what begins with t and goes on with a value of d below k. -/
def belK (ws t : List Int) (d : Int) (k : Nat) : List (List Int) := (valsTo d k).flatMap fun u => extT ws (t ++ [u])
theorem belK_zero (ws t : List Int) (d : Int) : belK ws t d 0 = [] := rfl
theorem belK_yes {ws t : List Int} {d : Int} {k : Nat} (h : hasB d k = true) : belK ws t d (k + 1) = belK ws t d k ++ extT ws (t ++ [(k : Int)]) := by
  unfold belK
  rw [valsTo, h]
  simp
theorem belK_no {ws t : List Int} {d : Int} {k : Nat} (h : hasB d k = false) : belK ws t d (k + 1) = belK ws t d k := by
  unfold belK
  rw [valsTo, h]
  simp
theorem belK_six {ws t : List Int} {d : Int} (h : ws[t.length]? = some d) : belK ws t d 6 = extT ws t := (extT_step h).symm
theorem ext_false {c : Con} {ws t : List Int} {d : Int} {k : Nat} (h : ws[t.length]? = some d) (hk : k < 6) (hb : hasB d k = true) (he : (extT ws (t ++ [(k : Int)])).all (satF c) = false) : (extT ws t).all (satF c) = false := by
  refine Bool.eq_false_iff.2 fun h2 => ?_
  rw [Bool.eq_false_iff] at he
  refine he (List.all_eq_true.2 fun x hx => List.all_eq_true.1 h2 x ?_)
  rw [extT_step h]
  exact List.mem_flatMap.2 ⟨k, valsTo_has (by omega) (by omega) hb, hx⟩
theorem word_mem {vars ds : List Int} {i : Nat} {v d : Int} (hv : vars[i]? = some v) (hd : ds[v.toNat]? = some d) : (wordF vars ds)[i]? = some d := by
  rw [wordF_at hv, gat_eq hd]
theorem take_snocE {xs : List Int} {cs : Array Value} {v : Int} (h : ∀ (j : Nat) x, xs[j]? = some x → cs[j]? = some (.int .i64 x)) (hl : xs.length < cs.size) : ∀ (j : Nat) x, (xs ++ [v])[j]? = some x → (cs.setIfInBounds xs.length (.int .i64 v))[j]? = some (.int .i64 x) := by
  intro j x hj
  rcases Nat.lt_or_ge j xs.length with hlt | hge
  · rw [Array.getElem?_setIfInBounds_ne (by omega)]
    rw [List.getElem?_append_left hlt] at hj
    exact h j x hj
  · rw [List.getElem?_append_right hge] at hj
    have hj0 : j = xs.length := by
      rcases Nat.lt_or_ge (j - xs.length) 1 with h4 | h4
      · omega
      · rw [List.getElem?_eq_none (by simpa using h4)] at hj; cases hj
    subst hj0
    rw [Nat.sub_self] at hj
    simp at hj
    subst hj
    rw [Array.getElem?_setIfInBounds_self_of_lt (by omega)]
/-- t stands at the front of the cells. -/
def Front (m : Nat) (W : World) (g : Nat) (t : List Int) : Prop := ∃ cs : Array Value, cs.size = m ∧ TBlk 3 W g cs ∧ ∀ (j : Nat) x, t[j]? = some x → cs[j]? = some (.int .i64 x)
theorem Front.on {m g : Nat} {W W' : World} {t : List Int} (h : Front m W g t) (hb : Below W.heap.size W W') : Front m W' g t := by
  obtain ⟨cs, h1, h2, h3⟩ := h
  exact ⟨cs, h1, h2.below_ hb h2.lt, h3⟩
theorem Front.push {m g : Nat} {W : World} {t : List Int} (h : Front m W g t) (hl : t.length < m) (v : Int) : Front m (W.setCell ⟨g, t.length, none⟩ (.int .i64 v)) g (t ++ [v]) := by
  obtain ⟨cs, h1, h2, h3⟩ := h
  exact ⟨_, by rw [Array.size_setIfInBounds, h1], h2.store _ _, take_snocE h3 (by omega)⟩
theorem Front.pop {m g : Nat} {W : World} {t : List Int} {v : Int} (h : Front m W g (t ++ [v])) : Front m W g t := by
  obtain ⟨cs, h1, h2, h3⟩ := h
  refine ⟨cs, h1, h2, fun j x hj => h3 j x ?_⟩
  have hlt : j < t.length := by
    rcases Nat.lt_or_ge j t.length with h4 | h4
    · exact h4
    · rw [List.getElem?_eq_none h4] at hj; cases hj
  rw [List.getElem?_append_left hlt]; exact hj
theorem Front.intR {m g : Nat} {W : World} {t : List Int} (h : Front m W g t) (hl : t.length = m) (hm : m ≤ 4) : IntR W W.heap.size (some ⟨g, 0, none⟩) m t := by
  obtain ⟨cs, h1, h2, h3⟩ := h
  exact intR_blk h2 h3 hl hm
theorem Front.frozen {m g : Nat} {W : World} {t : List Int} (h : Front m W g t) (j : Nat) : W.frozen? ⟨g, j, none⟩ = false := by
  obtain ⟨cs, h1, h2, h3⟩ := h
  exact h2.frozen j
theorem Front.cell {m g j : Nat} {W : World} {t : List Int} (h : Front m W g t) (hj : j < m) : ∃ u, W.cell? ⟨g, j, none⟩ = some u := by
  obtain ⟨cs, h1, h2, h3⟩ := h
  exact ⟨_, h2.at_ j (Array.getElem?_eq_getElem (by omega))⟩
theorem make_blk1 {P : Program} (t e : TypeId) (i : TypeInfo) (z : Value) (ht : P.underlying t = some (.slice e)) (hi : P.info? e = some i) (hz : i.zero = some z) (hs : i.size = 1) (h1 : z.cells = #[z]) (n : Nat) (hb : i.bytes * n ≤ 281474976710656) (h63 : n ≤ maxLen) :
    ∃ Z : Array Value, Z.toList = List.replicate n z ∧ ∀ W : World, Sem.run P (Instr.makeSlice t (.int .i64 (n : Int)) (.int .i64 (n : Int))) W = .ok (.slice (some ⟨W.heap.size, 0, none⟩) n n) (W.alloc (.cells Z e)) := by
  refine ⟨madeCells z.cells (n * i.size), ?_, fun W => ?_⟩
  · rw [hs, Nat.mul_one, h1]; exact toList_madeCells_one _ _
  · have h := run_make (P := P) W t e i z ht hi hz .i64 .i64 (n : Int) (n : Int) (Int.natCast_nonneg _) (Int.le_refl _) (by rw [← Int.natCast_mul]; exact Int.ofNat_le.2 hb) (by unfold maxLen at h63; omega)
    simpa using h
end Go.Proofs.Ytejfnkbdmlijbaa
