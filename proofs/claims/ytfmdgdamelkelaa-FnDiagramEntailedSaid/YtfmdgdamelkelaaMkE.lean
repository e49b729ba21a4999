/- A map from rows of six numbers to numbers: the maker's layers. -/
import Derived.Test.YtfmdgdamelkelaaBdG
import Derived.Test.YtfmdgdamelkelaaDdoI
import Derived.Maps.Own
import Derived.DeepKeys4
namespace Go.Proofs.Ytfmdgdamelkelaa
open Go.ChangeShapes Go.WideShapes Go.ChangeAt Go.RowKit
open Go.WideElems (Fit rd rg pl rd_key rd_val rg_of rd_mk)
open Go.Maps (Keyed)
set_option linter.unusedVariables false
set_option maxRecDepth 100000

/-- a row as a value. -/
def rowV (r : List Int) : Value := .agg (r.map (.int .i64)).toArray
theorem laidE : laidOutB Try.prog = true := by kernel_rfl
theorem rowE : 97 < Try.prog.types.size := of_decide_eq_true (by kernel_rfl)
theorem keyedE : Keyed Try.prog 97 := Keyed.of_law (deep_law_laid laidE (m := 9999) (by omega) rowE (by kernel_rfl) (by rw [Try.underlying97]))
/-- numbers of a row. -/
def In64 (r : List Int) : Prop := r.length = 6 ∧ ∀ x ∈ r, -9223372036854775808 ≤ x ∧ x ≤ 9223372036854775807
theorem In64.form {r : List Int} (h : In64 r) : ∃ a b c d e f, r = [a, b, c, d, e, f] := by
  obtain ⟨h1, -⟩ := h
  match r, h1 with
  | [a, b, c, d, e, f], _ => exact ⟨a, b, c, d, e, f, rfl⟩
theorem min64 : IntKind.i64.min = -9223372036854775808 := by decide
theorem max64 : IntKind.i64.max = 9223372036854775807 := by decide
theorem wf64 {a : Int} (h : -9223372036854775808 ≤ a ∧ a ≤ 9223372036854775807) : (Lit.int .i64 a).wf = true := by
  show (decide (IntKind.i64.min ≤ a) && decide (a ≤ IntKind.i64.max)) = true
  rw [min64, max64, decide_eq_true h.1, decide_eq_true h.2]; rfl
theorem lits1 (n : Nat) {a : Int} (h : (Lit.int .i64 a).wf = true) : Try.prog.keyLits (n + 1) 3 [.int .i64 a] = some [.int .i64 a] := by
  unfold Program.keyLits
  rw [Try.underlying3]
  simp [h]
theorem sizeE : ∃ s, Try.prog.types.size = s + 1 := by
  have : 0 < Try.prog.types.size := of_decide_eq_true (by kernel_rfl)
  exact ⟨Try.prog.types.size - 1, by omega⟩
theorem cells1 : Try.prog.cellsOf 3 = 1 := by kernel_rfl
theorem cells6 : Try.prog.cellsOf 97 = 6 := by kernel_rfl
set_option maxHeartbeats 1000000 in
theorem lits6 (n : Nat) {a b c d e f : Int} (wa : (Lit.int .i64 a).wf = true) (wb : (Lit.int .i64 b).wf = true) (wc : (Lit.int .i64 c).wf = true) (wd : (Lit.int .i64 d).wf = true) (we : (Lit.int .i64 e).wf = true) (wf : (Lit.int .i64 f).wf = true) :
    Try.prog.keyLits (n + 1 + 1) 97 [.int .i64 a, .int .i64 b, .int .i64 c, .int .i64 d, .int .i64 e, .int .i64 f] = some [.int .i64 a, .int .i64 b, .int .i64 c, .int .i64 d, .int .i64 e, .int .i64 f] := by
  have la := lits1 n wa
  have lb := lits1 n wb
  have lc := lits1 n wc
  have ld := lits1 n wd
  have le := lits1 n we
  have lf := lits1 n wf
  unfold Program.keyLits
  rw [Try.underlying97]
  simp only [cells6, cells1, List.length_cons, List.length_nil]
  simp [List.range, List.range.loop, la, lb, lc, ld, le, lf]
theorem formedE (a b c d e f : Int) (wa : (Lit.int .i64 a).wf = true) (wb : (Lit.int .i64 b).wf = true) (wc : (Lit.int .i64 c).wf = true) (wd : (Lit.int .i64 d).wf = true) (we : (Lit.int .i64 e).wf = true) (wf : (Lit.int .i64 f).wf = true) : (Value.agg #[.int .i64 a, .int .i64 b, .int .i64 c, .int .i64 d, .int .i64 e, .int .i64 f]).formed Try.prog 97 = true := by
  unfold Value.formed
  simp only [Try.underlying97, cells6]
  rfl
theorem keyE {r : List Int} (h : In64 r) : ∃ kl, keyOf Try.prog 97 (rowV r) = some kl := by
  obtain ⟨a, b, c, d, e, f, rfl⟩ := h.form
  have w := fun x hx => wf64 (h.2 x hx)
  have wa := w a (by simp)
  have wb := w b (by simp)
  have wc := w c (by simp)
  have wd := w d (by simp)
  have we := w e (by simp)
  have wf := w f (by simp)
  clear w h
  have kt : Try.prog.keyType 97 = true := by kernel_rfl
  obtain ⟨s, hs⟩ := sizeE
  have hl := lits6 s wa wb wc wd we wf
  have hf := formedE a b c d e f wa wb wc wd we wf
  unfold keyOf
  rw [Try.underlying97]
  simp only [rowV, List.map_cons, List.map_nil, kt, hf, hs, Value.cells, Bool.and_self, if_true, hl, Option.map_some]
  exact ⟨_, rfl⟩
/-- a map from rows to numbers: l's rows, each with its place. -/
def EMap (w : World) (b n : Nat) (l : List (List Int)) : Prop := ∃ es clock, w.heap[b]? = some (.map es clock) ∧ Fit (H := Unit) Try.prog 97 (plainElem Try.prog 3) es clock ∧ es.size ≤ n ∧
  (∀ x ∈ es.toList, ∃ (j : Nat) (r : List Int), l[j]? = some r ∧ x.key = rowV r ∧ x.val = .int .i64 (j : Int)) ∧ ∀ r ∈ l, ∃ x ∈ es.toList, x.key = rowV r
theorem EMap.made (w : World) (n : Nat) : EMap (w.alloc (.map #[] 0)) w.heap.size n [] := by
  obtain ⟨es, clock, h1, h2, h3, -⟩ := World.ownsMap_made (H := Unit) w Try.prog 97 (plainElem Try.prog 3)
  have h0 : es = #[] := by
    have := Array.size_eq_zero_iff.1 (Nat.le_zero.1 h3)
    exact this
  subst h0
  exact ⟨_, _, h1, h2, by simp, by simp, by simp⟩
theorem EMap.mono {w : World} {b n n' : Nat} {l : List (List Int)} (h : EMap w b n l) (hn : n ≤ n') : EMap w b n' l := by
  obtain ⟨es, clock, h1, h2, h3, h4⟩ := h; exact ⟨es, clock, h1, h2, by omega, h4⟩
theorem EMap.heap {w w' : World} {b n : Nat} {l : List (List Int)} (h : EMap w b n l) (hb : w'.heap[b]? = w.heap[b]?) : EMap w' b n l := by
  obtain ⟨es, clock, h1, h2⟩ := h; exact ⟨es, clock, hb.trans h1, h2⟩
theorem EMap.lt {w : World} {b n : Nat} {l : List (List Int)} (h : EMap w b n l) : b < w.heap.size := by
  obtain ⟨es, clock, h1, h2⟩ := h; exact (Array.getElem?_eq_some_iff.1 h1).1
theorem EMap.ne {w : World} {b n b' : Nat} {l : List (List Int)} {t : TypeId} {cs : Array Value} (h : EMap w b n l) (h' : TBlk t w b' cs) : b ≠ b' := fun e => by
  subst e
  obtain ⟨es, clock, h1, h2⟩ := h
  rw [show w.heap[b]? = _ from h'] at h1
  cases h1
theorem rowV_inj {r s : List Int} (h : rowV r = rowV s) : r = s := by
  unfold rowV at h
  injection h with h
  have := congrArg Array.toList h
  simp only at this
  exact (List.map_inj_right (fun a b e => by injection e)).1 this
theorem EMap.look {w : World} {b n : Nat} {l : List (List Int)} {r : List Int} (h : EMap w b n l) (hr : In64 r) :
    (r ∉ l ∧ (Instr.lookup 67 (.map (some b)) (rowV r) true).run Try.prog w = .ok (.tuple #[.int .i64 0, .bool false]) w) ∨
    ∃ j : Nat, l[j]? = some r ∧ (Instr.lookup 67 (.map (some b)) (rowV r) true).run Try.prog w = .ok (.tuple #[.int .i64 (j : Int), .bool true]) w := by
  obtain ⟨kl, hk⟩ := keyE hr
  obtain ⟨es, clock, h1, F, h3, h4, h5⟩ := h
  have hz : (zeroValue 3).run Try.prog w = .ok (.int .i64 0) w := by kernel_rfl
  rcases Maps.fit_look true keyedE Try.underlying67 hz h1 F hk with ⟨k1, k2, -⟩ | ⟨e0, y, k1, k2, k3, -⟩
  · refine .inl ⟨fun hm => ?_, k1⟩
    obtain ⟨x, hx, e⟩ := h5 r hm
    exact k2 x hx e
  · obtain ⟨j, r', e1, e2, e3⟩ := h4 e0 k1
    rw [k2] at e2
    have := rowV_inj e2
    subst this
    refine .inr ⟨j, e1, ?_⟩
    rw [k3, if_pos rfl, e3]
theorem EMap.put {w : World} {b n : Nat} {l : List (List Int)} {r : List Int} (h : EMap w b n l) (hn : n < maxLen) (hll : l.length < maxLen) (hr : In64 r) (hm : r ∉ l) :
    ∃ w', (Instr.mapUpdate 67 (.map (some b)) (rowV r) (.int .i64 (l.length : Int))).run Try.prog w = .ok () w' ∧ EMap w' b (n + 1) (l ++ [r]) ∧ w.grownBy w' (some b) := by
  obtain ⟨kl, hk⟩ := keyE hr
  obtain ⟨es, clock, hb, F, h3, h4, h5⟩ := h
  have hv := plainElem_int (H := Unit) Try.underlying3 (wf64 (a := (l.length : Int)) (by unfold maxLen at hll; omega))
  rcases keyedE.find w hk es.toList F.keys with ⟨h1, h2⟩ | ⟨j, e0, h1, h2, h6⟩
  · refine ⟨ChangeMaps.setBlock w b (.map (es.push ⟨rowV r, .int .i64 (l.length : Int), clock⟩) (clock + 1)), ?_, ⟨_, _, ChangeMaps.heap_setBlock_same hb _, ⟨by simp; omega, MapKept.stamped_push F.stamped h2, ?_⟩, by simp; omega, ?_, ?_⟩, ⟨rfl, rfl, rfl, by simp [ChangeMaps.setBlock], fun i _ hi => ChangeMaps.heap_setBlock_other hb _ (fun e => hi (by rw [e]))⟩⟩
    · simp [Instr.mapUpdate, run_underlying Try.underlying67, MapKept.run_getObj_map hb, keyedE.check w false hk, h1, MapKept.run_setObj_map _ hb, Result.andThen, ChangeMaps.setBlock]
    · intro x hx
      simp only [Array.toList_push, List.mem_append, List.mem_singleton] at hx
      rcases hx with hx | rfl
      · exact F.reads x hx
      · exact ⟨_, rd_mk hk hv⟩
    · intro x hx
      simp only [Array.toList_push, List.mem_append, List.mem_singleton] at hx
      rcases hx with hx | rfl
      · obtain ⟨j, r', e1, e2, e3⟩ := h4 x hx
        exact ⟨j, r', by rw [List.getElem?_append_left (List.getElem?_eq_some_iff.1 e1).1]; exact e1, e2, e3⟩
      · exact ⟨l.length, r, by simp, rfl, rfl⟩
    · intro s hs
      rcases List.mem_append.1 hs with hs | hs
      · obtain ⟨x, hx, e⟩ := h5 s hs
        exact ⟨x, by simp [hx], e⟩
      · rw [List.mem_singleton.1 hs]
        exact ⟨⟨rowV r, .int .i64 (l.length : Int), clock⟩, by simp, rfl⟩
  · obtain ⟨j', r', e1, e2, -⟩ := h4 e0 (List.mem_of_getElem? h2)
    rw [h6] at e2
    have := rowV_inj e2
    subst this
    exact absurd (List.mem_of_getElem? e1) hm
end Go.Proofs.Ytfmdgdamelkelaa
