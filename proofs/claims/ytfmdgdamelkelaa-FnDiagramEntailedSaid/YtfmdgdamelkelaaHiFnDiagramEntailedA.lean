/- Texts laid into one: BdC Tup Tup2 Ent EntS Fil TpS BdD Tps2 Suf Nxt BdS. -/
import Derived.Test.YtfmdgdamelkelaaBdG
import Derived.Test.YtfmdgdamelkelaaCnt
import Derived.Test.YtfmdgdamelkelaaTupP
import Derived.Test.YtfmdgdamelkelaaRange
import Derived.Test.YtfmdgdamelkelaaDvals
import Derived.ArgAppend
import Derived.Laws.EntriesVeiled
import Derived.Test.YtfmdgdamelkelaaSatI
import Derived.Test.YtfmdgdamelkelaaSolI
import Derived.Test.YtfmdgdamelkelaaSatS
import Derived.Test.YtfmdgdamelkelaaHold
import Derived.Test.YtfmdgdamelkelaaNums
import Derived.Test.YtfmdgdamelkelaaGrow
import Derived.Deep.RegionLaw
import Derived.Test.YtfmdgdamelkelaaBdM
import Derived.Test.YtfmdgdamelkelaaBdP
import Derived.Test.YtfmdgdamelkelaaRowsI
/- The layers of a reduced diagram: what they hold. Plain lists. -/
namespace Go.Proofs.Ytfmdgdamelkelaa
open Go.ChangeShapes Go.WideShapes Go.ChangeAt Go.RowKit
open Go.Shelf
set_option linter.unusedVariables false
set_option linter.unusedSectionVars false
set_option maxRecDepth 100000

structure Lay (f : Nat) (lay : List (List (List Int))) : Prop where
  nd : lay.Nodup
  pos : lay ≠ []
  ok : ∀ L ∈ lay, L ≠ [] ∧ L.Nodup ∧ L.length ≤ 100000 ∧ ∀ t ∈ L, t.length = f ∧ ∀ v ∈ t, 0 ≤ v ∧ v ≤ 5
def sumL (L : List (List Int)) : Nat → Nat
  | 0 => 0
  | n + 1 => sumL L n + (sufF ((n : Nat) : Int) L).length
theorem sumL_step (u : Nat) (t : List Int) (ts : List (List Int)) : ∀ n, sumL ((((u : Nat) : Int) :: t) :: ts) n = sumL ts n + if u < n then 1 else 0
  | 0 => by simp [sumL]
  | n + 1 => by
    rw [sumL, sumL, sumL_step u t ts n, sufF]
    simp only [List.head?_cons, List.tail_cons, Option.some.injEq]
    by_cases h : u = n
    · subst h; simp; omega
    · rw [if_neg (by omega : ¬ ((u : Nat) : Int) = (n : Int))]
      by_cases h2 : u < n
      · rw [if_pos h2, if_pos (by omega)]; omega
      · rw [if_neg h2, if_neg (by omega)]; omega
theorem sumL_all {f : Nat} : ∀ {L : List (List Int)}, (∀ t ∈ L, t.length = f + 1 ∧ ∀ v ∈ t, (0 : Int) ≤ v ∧ v ≤ 5) → sumL L 6 = L.length
  | [], _ => by simp [sumL, sufF]
  | t :: ts, h => by
    obtain ⟨h1, h2⟩ := h t (by simp)
    cases t with
    | nil => simp at h1
    | cons a s =>
      have ha := h2 a (by simp)
      obtain ⟨u, rfl⟩ : ∃ u : Nat, a = (u : Int) := ⟨a.toNat, by omega⟩
      rw [sumL_step, sumL_all (fun t ht => h t (by simp [ht])), if_pos (by omega)]
      simp
theorem sumL_mono (L : List (List Int)) : ∀ {m n}, m ≤ n → sumL L m ≤ sumL L n := fun {m n} h => by
  induction n with
  | zero => obtain rfl : m = 0 := by omega
            exact Nat.le_refl _
  | succ n ih =>
    rcases Nat.lt_or_ge m (n + 1) with h1 | h1
    · exact Nat.le_trans (ih (by omega)) (by rw [sumL]; omega)
    · obtain rfl : m = n + 1 := by omega
      exact Nat.le_refl _
theorem sufF_len (v : Int) : ∀ L : List (List Int), (sufF v L).length ≤ L.length
  | [] => by simp [sufF]
  | t :: ts => by have := sufF_len v ts; rw [sufF]; split <;> simp <;> omega
theorem next_mem {lay : List (List (List Int))} {s : List (List Int)} : s ∈ nextS lay ↔ ∃ L u, L ∈ lay ∧ u < 6 ∧ sufF ((u : Nat) : Int) L = s ∧ s ≠ [] := by
  unfold nextS
  rw [nxL_mem (Nat.le_refl _)]
  constructor
  · rintro ⟨i, L, u, h1, h2, h3, h4⟩
    unfold chS at h4
    split at h4
    · cases h4
    · rename_i h5
      injection h4 with h4
      exact ⟨L, u, List.mem_of_getElem? h2, h3, h4, h4 ▸ h5⟩
  · rintro ⟨L, u, h1, h2, h3, h4⟩
    obtain ⟨i, hi, e⟩ := List.getElem_of_mem h1
    exact ⟨i, L, u, hi, by rw [List.getElem?_eq_getElem hi, e], h2, by unfold chS; rw [h3, if_neg h4]⟩
theorem Lay.next {f : Nat} {lay : List (List (List Int))} (h : Lay (f + 1) lay) : Lay f (nextS lay) := by
  refine ⟨nxL_nodup _ _ _, fun e => ?_, fun s hs => ?_⟩
  · obtain ⟨L, hL⟩ := List.exists_mem_of_ne_nil _ h.pos
    obtain ⟨h1, -, -, h2⟩ := h.ok L hL
    obtain ⟨t, ht⟩ := List.exists_mem_of_ne_nil _ h1
    obtain ⟨h3, h4⟩ := h2 t ht
    cases t with
    | nil => simp at h3
    | cons a s =>
      have ha := h4 a (by simp)
      obtain ⟨u, rfl⟩ : ∃ u : Nat, a = (u : Int) := ⟨a.toNat, by omega⟩
      have hs : s ∈ sufF (u : Int) L := sufF_mem.2 ht
      have : sufF (u : Int) L ∈ nextS lay := next_mem.2 ⟨L, u, hL, by omega, rfl, fun e => by rw [e] at hs; simp at hs⟩
      rw [e] at this
      simp at this
  · obtain ⟨L, u, h1, h2, h3, h4⟩ := next_mem.1 hs
    obtain ⟨-, h5, h6, h7⟩ := h.ok L h1
    subst h3
    refine ⟨h4, sufF_nodup h5, Nat.le_trans (sufF_len _ _) h6, fun t ht => ?_⟩
    obtain ⟨h8, h9⟩ := h7 _ (sufF_mem.1 ht)
    exact ⟨by simpa using h8, fun v hv => h9 v (by simp [hv])⟩
theorem Lay.zero {lay : List (List (List Int))} (h : Lay 0 lay) : lay = [[[]]] := by
  have hL : ∀ L ∈ lay, L = [[]] := fun L hL => by
    obtain ⟨h1, h2, -, h3⟩ := h.ok L hL
    match L, h1, h2, h3 with
    | [], h1, _, _ => exact absurd rfl h1
    | [t], _, _, h3 => rw [List.eq_nil_of_length_eq_zero (h3 t (by simp)).1]
    | t :: s :: r, _, h2, h3 =>
      have e1 := List.eq_nil_of_length_eq_zero (h3 t (by simp)).1
      have e2 := List.eq_nil_of_length_eq_zero (h3 s (by simp)).1
      rw [e1, e2] at h2
      simp at h2
  have hn := h.nd
  have hp := h.pos
  match lay, hL, hn, hp with
  | [], _, _, hp => exact absurd rfl hp
  | [L], hL, _, _ => rw [hL L (by simp)]
  | L :: M :: r, hL, hn, _ =>
    rw [hL L (by simp), hL M (by simp)] at hn
    simp at hn
/-- layer i of the sets. -/
def layN (lay : List (List (List Int))) : Nat → List (List (List Int))
  | 0 => lay
  | i + 1 => nextS (layN lay i)
theorem layN_next (lay : List (List (List Int))) : ∀ i, layN (nextS lay) i = layN lay (i + 1)
  | 0 => rfl
  | i + 1 => by rw [layN, layN_next lay i, ← layN]
theorem bd_len : ∀ f lay, (bdL f lay).length = f
  | 0, _ => rfl
  | f + 1, lay => by rw [bdL, List.length_cons, bd_len f]
theorem bd_at : ∀ f lay i, i < f → (bdL f lay)[i]? = some ((layN lay i).map (rowG chS (layN lay (i + 1))))
  | 0, _, _, h => by omega
  | f + 1, lay, 0, _ => rfl
  | f + 1, lay, i + 1, h => by rw [bdL, List.getElem?_cons_succ, bd_at f _ i (by omega), layN_next, layN_next]
theorem Lay.at_ {lay : List (List (List Int))} : ∀ {f i}, Lay (f + i) lay → Lay f (layN lay i)
  | f, 0, h => h
  | f, i + 1, h => (Lay.at_ (f := f + 1) (i := i) (by rw [show f + 1 + i = f + (i + 1) by omega]; exact h)).next
theorem layN_len (lay : List (List (List Int))) (h : lay.length ≤ 1) : ∀ i, (layN lay i).length ≤ 6 ^ i
  | 0 => h
  | i + 1 => by
    have h1 := layN_len lay h i
    have h2 := nxL_len chS (layN lay i) (layN lay i).length
    rw [layN, nextS, Nat.pow_succ]
    omega
/-- an edge of a row: none, or the place of what it leads to. -/
theorem row_at {lay : List (List (List Int))} {L : List (List Int)} (hL : L ∈ lay) {u : Nat} (hu : u < 6) :
    ((rowG chS (nextS lay) L)[u]? = some (-1) ∧ sufF (u : Int) L = []) ∨ ∃ j, j < (nextS lay).length ∧ (rowG chS (nextS lay) L)[u]? = some ((j : Nat) : Int) ∧ (nextS lay)[j]? = some (sufF (u : Int) L) ∧ sufF (u : Int) L ≠ [] := by
  unfold rowG
  rw [List.getElem?_map, List.getElem?_range hu]
  by_cases h : sufF (u : Int) L = []
  · left
    refine ⟨?_, h⟩
    simp [chS, h, toG]
  · right
    obtain ⟨j, h1, h2, h3⟩ := fnd_some (next_mem.2 ⟨L, u, hL, hu, rfl, h⟩)
    exact ⟨j, h1, by simp [chS, h, toG, h2], h3, h⟩
theorem row_len (lay : List (List (List Int))) (L : List (List Int)) : (rowG chS lay L).length = 6 := by simp [rowG]
theorem row_lt {lay : List (List (List Int))} {L : List (List Int)} (hL : L ∈ lay) {x : Int} (hx : x ∈ rowG chS (nextS lay) L) : -1 ≤ x ∧ x ≤ (nextS lay).length - 1 := by
  obtain ⟨u, hu, e⟩ := List.getElem_of_mem hx
  rw [row_len] at hu
  have hx2 : (rowG chS (nextS lay) L)[u]? = some x := by rw [List.getElem?_eq_getElem (by rw [row_len]; exact hu), e]
  rcases row_at hL hu with ⟨h1, -⟩ | ⟨j, h1, h2, -⟩
  · rw [hx2] at h1; injection h1 with h1; omega
  · rw [hx2] at h2; injection h2 with h2; omega
theorem bd_vdg {k : Nat} {all : List (List Int)} (hk : 1 ≤ k) (h4 : k ≤ 4) (h : Lay k [all]) : vdgF (bdL k [all]) = true := by
  unfold vdgF
  rw [Bool.and_eq_true, Bool.and_eq_true]
  refine ⟨⟨inB_mk (by rw [bd_len]; omega), ?_⟩, ?_⟩
  · unfold firstOne
    rw [bd_at k _ 0 (by omega)]
    simp [layN]
  · unfold layersOk
    rw [List.all_eq_true]
    intro i hi
    rw [List.mem_range, bd_len] at hi
    unfold layerOk
    rw [bd_at k _ i hi]
    have hl := Lay.at_ (f := k - i) (i := i) (by rw [show k - i + i = k by omega]; exact h)
    have hp : 0 < (layN [all] i).length := List.length_pos_iff.2 hl.pos
    have hle := layN_len [all] (by simp) i
    have h216 : 6 ^ i ≤ 216 := Nat.le_trans (Nat.pow_le_pow_right (by omega) (show i ≤ 3 by omega)) (by decide)
    rw [Bool.and_eq_true]
    refine ⟨inB_mk (by rw [List.length_map]; omega), ?_⟩
    rw [List.all_eq_true]
    intro r hr
    obtain ⟨L, hL, rfl⟩ := List.mem_map.1 hr
    have hlast : lastF (bdL k [all]) i = ((layN [all] (i + 1)).length : Int) - 1 := by
      by_cases h2 : i + 1 < k
      · rw [lastF_some (bd_at k [all] (i + 1) h2), List.length_map]
      · rw [lastF_none rfl (by rw [bd_len]; omega)]
        have hz := (Lay.at_ (f := 0) (i := i + 1) (lay := [all]) (by rw [show 0 + (i + 1) = k by omega]; exact h)).zero
        rw [hz]; rfl
    unfold rowOk
    rw [hlast, Bool.and_eq_true]
    refine ⟨by simp [row_len], ?_⟩
    rw [List.all_eq_true]
    intro x hx
    have := row_lt hL hx
    exact inB_mk (by rw [layN]; omega)
/-- as many paths as tuples. -/
theorem bd_cnt : ∀ f lay, Lay f lay → cnt (bdL f lay) = lay.map fun L => ((L.length : Nat) : Int)
  | 0, lay, h => by rw [h.zero]; rfl
  | f + 1, lay, h => by
    rw [bdL, cnt, bd_cnt f _ h.next, cntL, List.map_map]
    refine List.map_congr_left fun L hL => ?_
    obtain ⟨-, -, h3, h4⟩ := h.ok L hL
    show sumTo _ (rowG chS (nextS lay) L) 6 = _
    have hall := sumL_all h4
    have key : ∀ n, n ≤ 6 → sumTo ((nextS lay).map fun L => ((L.length : Nat) : Int)) (rowG chS (nextS lay) L) n = ((sumL L n : Nat) : Int) := by
      intro n
      induction n with
      | zero => intro _; rfl
      | succ n ih =>
        intro hn
        have hb := sumL_mono L hn
        rcases row_at hL (show n < 6 by omega) with ⟨h5, h6⟩ | ⟨j, h5, h6, h7, h8⟩
        · rw [sumTo_no h5 (by omega), ih (by omega), sumL, h6]; simp
        · have hc : ((nextS lay).map fun L => ((L.length : Nat) : Int))[((j : Nat) : Int).toNat]? = some (((sufF (n : Int) L).length : Nat) : Int) := by
            rw [Int.toNat_natCast, List.getElem?_map, h7]; rfl
          rw [sumTo_yes h6 (by omega) hc, ih (by omega)]
          rw [sumL] at hb ⊢
          unfold wrap64
          omega
    rw [key 6 (Nat.le_refl _), hall]
end Go.Proofs.Ytfmdgdamelkelaa
/- impl's iterator over the tuples of domains. -/
namespace Go.Proofs.Ytfmdgdamelkelaa
open Go.ChangeShapes Go.WideShapes Go.ChangeAt Go.RowKit
open Go.Shelf
set_option linter.unusedVariables false
set_option maxRecDepth 100000
attribute [local go_sem] Oper.semAt_some

/-- All blocks from L on, but a and b, lie as they lay. -/
def KB (L a b : Nat) (W W' : World) : Prop := W.heap.size ≤ W'.heap.size ∧ ∀ k, L ≤ k → k < W.heap.size → k ≠ a → k ≠ b → W'.heap[k]? = W.heap[k]?
/-- All blocks from L on lie as they lay. -/
def KHi (L : Nat) (W W' : World) : Prop := W.heap.size ≤ W'.heap.size ∧ ∀ k, L ≤ k → k < W.heap.size → W'.heap[k]? = W.heap[k]?
theorem KHi.kb {L : Nat} {W W' : World} (h : KHi L W W') (a b : Nat) : KB L a b W W' := ⟨h.1, fun k h1 h2 _ _ => h.2 k h1 h2⟩
theorem KB.refl (L a b : Nat) (W : World) : KB L a b W W := ⟨Nat.le_refl _, fun _ _ _ _ _ => rfl⟩
theorem KB.trans {L a b : Nat} {W W1 W2 : World} (h : KB L a b W W1) (k : KB L a b W1 W2) : KB L a b W W2 := ⟨Nat.le_trans h.1 k.1, fun i h1 h2 h3 h4 => (k.2 i h1 (Nat.lt_of_lt_of_le h2 h.1) h3 h4).trans (h.2 i h1 h2 h3 h4)⟩
theorem Below.kb {L a b : Nat} {W W' : World} (h : Below W.heap.size W W') : KB L a b W W' := ⟨h.size, fun k _ h2 _ _ => h.block k h2⟩
theorem KB.set {L a b j : Nat} (W : World) (u : Value) : KB L a b W (W.setCell ⟨a, j, none⟩ u) := ⟨by simp, fun k _ _ h3 _ => Below.heap_setCell W ⟨a, j, none⟩ u k h3⟩
theorem KB.set2 {L a b j : Nat} (W : World) (u : Value) : KB L a b W (W.setCell ⟨b, j, none⟩ u) := ⟨by simp, fun k _ _ _ h4 => Below.heap_setCell W ⟨b, j, none⟩ u k h4⟩
theorem TBlk.kb {L a b g : Nat} {W W' : World} {t : TypeId} {cs : Array Value} (h : TBlk t W g cs) (k : KB L a b W W') (hL : L ≤ g) (ha : g ≠ a) (hb : g ≠ b) : TBlk t W' g cs := (k.2 g hL h.lt ha hb).trans h
theorem TBlk.khi {L g : Nat} {W W' : World} {t : TypeId} {cs : Array Value} (h : TBlk t W g cs) (k : KHi L W W') (hL : L ≤ g) : TBlk t W' g cs := (k.2 g hL h.lt).trans h
/-- The iterator's own blocks, t being the values at hand. -/
structure It (L bX bD bY bF g m l : Nat) (t : List Int) (W : World) : Prop where
  x : TBlk 22 W bX #[.slice (some ⟨g, 0, none⟩) t.length m]
  cs : ∃ cs : Array Value, cs.size = m ∧ TBlk 3 W g cs ∧ ∀ (j : Nat) v, t[j]? = some v → cs[j]? = some (.int .i64 v)
  y : TBlk 56 W bY #[.func (.yield l) #[] #[]]
  f : TBlk 95 W bF #[.func (.func 99) #[] #[.pointer (some ⟨bX, 0, none⟩), .pointer (some ⟨bD, 0, none⟩), .pointer (some ⟨bY, 0, none⟩), .pointer (some ⟨bF, 0, none⟩)]]
  lo : L ≤ bX ∧ L ≤ g ∧ L ≤ bY ∧ L ≤ bF
section
variable {L bX bD bY bF g m l : Nat} {t : List Int} {W W' : World}
theorem It.khi (h : It L bX bD bY bF g m l t W) (k : KHi L W W') : It L bX bD bY bF g m l t W' := by
  obtain ⟨cs, h1, h2, h3⟩ := h.cs
  exact ⟨h.x.khi k h.lo.1, ⟨cs, h1, h2.khi k h.lo.2.1, h3⟩, h.y.khi k h.lo.2.2.1, h.f.khi k h.lo.2.2.2, h.lo⟩
theorem It.on (h : It L bX bD bY bF g m l t W) (hb : Below W.heap.size W W') : It L bX bD bY bF g m l t W' := h.khi ⟨hb.size, fun k _ h2 => hb.block k h2⟩
theorem It.xg (h : It L bX bD bY bF g m l t W) : bX ≠ g := by
  obtain ⟨cs, h1, h2, h3⟩ := h.cs
  exact h.x.ne h2 (by decide)
theorem It.xy (h : It L bX bD bY bF g m l t W) : bY ≠ bX := h.y.ne h.x (by decide)
theorem It.xf (h : It L bX bD bY bF g m l t W) : bF ≠ bX := h.f.ne h.x (by decide)
theorem It.gy (h : It L bX bD bY bF g m l t W) : bY ≠ g := by
  obtain ⟨cs, h1, h2, h3⟩ := h.cs
  exact h.y.ne h2 (by decide)
theorem It.gf (h : It L bX bD bY bF g m l t W) : bF ≠ g := by
  obtain ⟨cs, h1, h2, h3⟩ := h.cs
  exact h.f.ne h2 (by decide)
/-- one value more. -/
theorem It.push (h : It L bX bD bY bF g m l t W) (hm : t.length < m) (v : Int) : It L bX bD bY bF g m l (t ++ [v]) ((W.setCell ⟨g, t.length, none⟩ (.int .i64 v)).setCell ⟨bX, 0, none⟩ (.slice (some ⟨g, 0, none⟩) (t.length + 1) m)) := by
  obtain ⟨cs, h1, h2, h3⟩ := h.cs
  refine ⟨?_, ⟨cs.setIfInBounds t.length (.int .i64 v), by rw [Array.size_setIfInBounds, h1], (h2.store t.length _).far h.xg.symm, fun j x hj => ?_⟩, (h.y.far h.gy).far h.xy, (h.f.far h.gf).far h.xf, h.lo⟩
  · have := (h.x.far (g := g) (j := t.length) (u := .int .i64 v) h.xg).store 0 (.slice (some ⟨g, 0, none⟩) (t.length + 1) m)
    rw [List.length_append]
    exact this
  · rcases Nat.lt_or_ge j t.length with hlt | hge
    · rw [Array.getElem?_setIfInBounds_ne (by omega)]
      rw [List.getElem?_append_left hlt] at hj
      exact h3 j x hj
    · rw [List.getElem?_append_right hge] at hj
      have hj0 : j = t.length := by
        rcases Nat.lt_or_ge (j - t.length) 1 with h4 | h4
        · omega
        · rw [List.getElem?_eq_none (by simpa using h4)] at hj; cases hj
      subst hj0
      rw [Nat.sub_self] at hj
      simp at hj
      subst hj
      rw [Array.getElem?_setIfInBounds_self_of_lt (by omega)]
/-- one value less. -/
theorem It.pop {v : Int} (h : It L bX bD bY bF g m l (t ++ [v]) W) : It L bX bD bY bF g m l t (W.setCell ⟨bX, 0, none⟩ (.slice (some ⟨g, 0, none⟩) t.length m)) := by
  obtain ⟨cs, h1, h2, h3⟩ := h.cs
  refine ⟨h.x.store 0 _, ⟨cs, h1, h2.far h.xg.symm, fun j x hj => h3 j x (by
    have hlt : j < t.length := by
      rcases Nat.lt_or_ge j t.length with h4 | h4
      · exact h4
      · rw [List.getElem?_eq_none h4] at hj; cases hj
    rw [List.getElem?_append_left hlt]; exact hj)⟩, h.y.far h.xy, h.f.far h.xf, h.lo⟩
end
/-- v stands at each place of t in that place's domain. -/
def PreDs (ds t : List Int) : Prop := ∀ (j : Nat) d v, ds[j]? = some d → t[j]? = some v → v ∈ valsTo d 6
theorem PreDs.push {ds t : List Int} {d v : Int} (h : PreDs ds t) (hd : ds[t.length]? = some d) (hv : v ∈ valsTo d 6) : PreDs ds (t ++ [v]) := by
  intro j e x hj hx
  rcases Nat.lt_or_ge j t.length with h1 | h1
  · rw [List.getElem?_append_left h1] at hx
    exact h j e x hj hx
  · rw [List.getElem?_append_right h1] at hx
    have hj0 : j = t.length := by
      rcases Nat.lt_or_ge (j - t.length) 1 with h4 | h4
      · omega
      · rw [List.getElem?_eq_none (by simpa using h4)] at hx; cases hx
    subst hj0
    rw [Nat.sub_self] at hx
    simp at hx
    rw [hd] at hj
    injection hj with hj
    subst hx hj
    exact hv
theorem PreDs.mem {ds t : List Int} (h : PreDs ds t) (hl : t.length = ds.length) : t ∈ allT ds :=
  mem_allT.2 ⟨hl, fun j d v hj hv => by have := valsTo_mem (h j d v hj hv); exact ⟨this.1, by omega, this.2.2⟩⟩
/-- a fresh row of ints, as a block. -/
theorem own_blk_int {w : World} {base n : Nat} {v : Value} {xs : List Int} (h : w.ownsRow base 3 1 v n (xs.map (.int .i64))) (hn : 0 < n) : ∃ gv c cur, v = .slice (some ⟨gv, 0, none⟩) n c ∧ base ≤ gv ∧ TBlk 3 w gv cur ∧ ∀ (k : Nat) x, xs[k]? = some x → cur[k]? = some (.int .i64 x) := by
  rcases h.2 with ⟨rfl, h2⟩ | ⟨gv, cap, cur, rfl, hg, hh, hcap, hmax, hsz, ht⟩
  · omega
  · refine ⟨gv, cap, cur, rfl, hg, hh, fun k x hx => ?_⟩
    have := h.cells (g := gv) rfl k _ (by rw [List.getElem?_map, hx]; rfl)
    rw [add_own] at this
    rw [cell_of_row w gv k cur _ _ hh] at this
    exact this
/-- what an append with room leaves. -/
theorem run_push1 (ty : TypeId) (i0 : TypeInfo) (hi0 : Try.prog.info? 3 = some i0) (hz1 : i0.size = 1) {w : World} {g k m : Nat} {x : Int} {cs : Array Value} (hc : TBlk 3 w g cs) (hk : k < m) (hm : cs.size = m) (hg : g < w.heap.size) :
    Sem.run Try.prog (Builtin.append_ #[ 22, 22 ] ty #[.slice (some ⟨g, 0, none⟩) k m, .slice (some ⟨w.heap.size, 0, none⟩) 1 1]) (w.alloc (.cells #[.int .i64 x] 3)) = .ok (.slice (some ⟨g, 0, none⟩) (k + 1) m) ((w.alloc (.cells #[.int .i64 x] 3)).setCell ⟨g, k, none⟩ (.int .i64 x)) := by
  have h := run_append_room_cells (P := Try.prog) (w.alloc (.cells #[.int .i64 x] 3)) 22 ty 3 i0 Try.underlying22 hi0 g 0 k m ⟨w.heap.size, 0, none⟩ 1 1 [.int .i64 x] (by simp [hz1]) (cell_one_new _ _ _) (by simp [Value.oneCell']) (by omega)
    (fun j hj => by
      have hj0 : j = 0 := by simpa using hj
      subst hj0
      rw [hz1, Nat.mul_one, Nat.zero_add, Nat.add_zero, (hc.alloc_ _).at_ k (Array.getElem?_eq_getElem (by omega))]; rfl)
    (fun j hj => by
      have hj0 : j = 0 := by simpa using hj
      subst hj0
      rw [hz1, Nat.mul_one, Nat.zero_add, Nat.add_zero]; exact (hc.alloc_ _).frozen k)
  rw [h, hz1, Nat.mul_one, Nat.zero_add]
  simp [World.setCells]
/-- append of one int where there is room, for the walk. -/
theorem wpList_push {ops : Array Oper} {rest : List Oper} {o : Oper} {a : Act} {Q : Exit → Act → World → Prop} (i0 : TypeInfo) (hi0 : Try.prog.info? 3 = some i0) (hz1 : i0.size = 1) (hgd : o.guard = none) (s x : Operand) (ho : o.op = .call { callee := .builtin .append, args := #[s, x], argTypes := #[ 22, 22 ] })
    {w : World} {g k m : Nat} {v : Int} {cs : Array Value} (hs : a.eval s = .slice (some ⟨g, 0, none⟩) k m) (hx : a.eval x = .slice (some ⟨w.heap.size, 0, none⟩) 1 1) (hc : TBlk 3 w g cs) (hk : k < m) (hm : cs.size = m)
    (h : ∀ W', W' = (w.alloc (.cells #[.int .i64 v] 3)).setCell ⟨g, k, none⟩ (.int .i64 v) → wpList Try.prog ops Q rest (a.put o.dst (.slice (some ⟨g, 0, none⟩) (k + 1) m)) W') : wpList Try.prog ops Q (o :: rest) a (w.alloc (.cells #[.int .i64 v] 3)) := by
  refine wpList_plain hgd fun K hK => ?_
  have hrun := run_push1 o.type i0 hi0 hz1 (x := v) hc hk hm hc.lt
  unfold Oper.wp execOp
  simp only [ho, resolve, invoke, builtin, Sem.run_bind, Sem.run_pure, Result.andThen_ok, List.map_toArray, List.map_cons, List.map_nil, hs, hx, hrun]
  exact hK _ _ (h _ rfl)
set_option maxHeartbeats 4000000 in
theorem from1 (L bX bD bY bF g m l db dof cd : Nat) (ds : List Int) (hds : Doms ds) (hm : ds.length = m) (hm4 : m ≤ 4) (J : List (List Int) → World → Prop) (Jx : World → Prop)
    (hJb : ∀ vis W W', J vis W → Below L W W' → J vis W')
    (hJd : ∀ vis W, J vis W → W.cell? ⟨bD, 0, none⟩ = some (.slice (some ⟨db, dof, none⟩) m cd) ∧ ∀ (j : Nat) x, ds[j]? = some x → W.cell? ⟨db, dof + j, none⟩ = some (.int .i64 x))
    (hY : ∀ mm vis t W, J vis W → t ∈ allT ds → It L bX bD bY bF g m l t W → YieldAt Fence.wide mm Try.prog l #[.slice (some ⟨g, 0, none⟩) m m] W fun e W' => (e = .returned (.bool true) ∧ J (vis ++ [t]) W' ∧ KHi L W W') ∨ (e = .returned (.bool false) ∧ Jx W')) :
    ∀ (r : Nat) (t : List Int) (vis : List (List Int)) (W : World), t.length + r = m → PreDs ds t → It L bX bD bY bF g m l t W → J vis W → L ≤ W.heap.size →
    Calls Try.prog 99 #[.pointer (some ⟨bX, 0, none⟩), .pointer (some ⟨bD, 0, none⟩), .pointer (some ⟨bY, 0, none⟩), .pointer (some ⟨bF, 0, none⟩)] W fun e W' => (e = .returned (.bool true) ∧ J (vis ++ extT ds t) W' ∧ It L bX bD bY bF g m l t W' ∧ KB L bX g W W') ∨ (e = .returned (.bool false) ∧ Jx W') := by
  obtain ⟨i0, hi0, hz0, hz1, hz2⟩ := info_parts info_int
  intro r
  induction r with
  | zero =>
    intro t vis W htr hpre hit hJ hL
    obtain rfl : t.length = m := by omega
    have hmem := hpre.mem (by omega)
    have hext := extT_full (ds := ds) (t := t) (by omega)
    rw [hext]
    obtain ⟨hd1, -⟩ := hJd vis W hJ
    have hx := hit.x.at_ 0 rfl
    have hy0 := hit.y.at_ 0 rfl
    obtain ⟨fn, tmps, assign, body, hy, hR⟩ := hY 4 vis t W hJ hmem hit
    have HIT := Lib.hid hit
    have HM := Lib.hid hm
    clear hext hmem hpre hm hds htr hit
    refine (callsIn_wide (n := 5)).1 ?_
    refine callsIn_of_wp Try.func99 rfl trivial ?_ rfl
    simp only [Try.ntmps99, List.size_toArray, List.length_cons, List.length_nil, Nat.reduceAdd, Nat.reduceSub, Array.replicate_succ, Array.replicate_zero, List.push_toArray, List.append_toArray, List.nil_append, List.cons_append]
    gi_wp2
    refine hR.mono ?_
    rintro e W3 (⟨rfl, hJ3, hk3⟩ | ⟨rfl, hJ3⟩)
    · have HJ3 := Lib.hid hJ3
      clear hJ3
      gi_wp2
      go_ret
      exact .inl ⟨rfl, HJ3.out, HIT.out.khi hk3, hk3.kb _ _⟩
    · have HJ3 := Lib.hid hJ3
      clear hJ3
      gi_wp2
      go_ret
      exact .inr ⟨rfl, HJ3.out⟩
  | succ r ih =>
    intro t vis W htr hpre hit hJ hL
    have htm : t.length < m := by omega
    have hne : ((t.length : Int) == (m : Int)) = false := by simp; omega
    obtain ⟨hd1, hd2⟩ := hJd vis W hJ
    obtain ⟨d, hd⟩ : ∃ d, ds[t.length]? = some d := ⟨_, List.getElem?_eq_getElem (by omega)⟩
    have hdd := hd2 _ _ hd
    have hd63 := hds d (List.mem_of_getElem? hd)
    obtain ⟨y, rfl⟩ := dom_fin hd63.1 hd63.2
    have hx : W.cell? ⟨bX, 0, none⟩ = some (.slice (some ⟨g, 0, none⟩) t.length m) := hit.x.at_ 0 rfl
    have HIT := Lib.hid hit
    have HPRE := Lib.hid hpre
    have HD := Lib.hid hd
    have HDS := Lib.hid hds
    have HM := Lib.hid hm
    have HJ := Lib.hid hJ
    obtain ⟨k, hk⟩ : ∃ k, k = t.length := ⟨_, rfl⟩
    rw [← hk] at hx hdd htm hne
    have HK := Lib.hid hk
    have HTR := Lib.hid htr
    have hval := fun W' : World => valuesOf y W'
    clear hpre hm hds hit hd hJ hd2 htr hk hval
    refine (callsIn_wide (n := 5)).1 ?_
    refine callsIn_of_wp Try.func99 rfl trivial ?_ rfl
    refine wpIn_wide.2 ?_
    simp only [Try.ntmps99, List.size_toArray, List.length_cons, List.length_nil, Nat.reduceAdd, Nat.reduceSub, Array.replicate_succ, Array.replicate_zero, List.push_toArray, List.append_toArray, List.nil_append, List.cons_append]
    go_wp2_with fail
    refine (valuesOf y _).mono ?_
    rintro e w5 ⟨v, rfl, ho, hb5⟩
    obtain ⟨vs, hvs⟩ : ∃ vs, vs = valsTo (y.val : Int) 6 := ⟨_, rfl⟩
    rw [← hvs] at ho
    have hvl : vs.length ≤ 6 := by rw [hvs]; exact valsTo_len _ _
    have HVS := Lib.hid hvs
    have hL5 : L ≤ w5.heap.size := Nat.le_trans hL hb5.size
    have hsz5 := hb5.size
    have hit5 := HIT.out.on hb5
    have hJ5 := hJb _ _ _ HJ.out (hb5.mono hL)
    have hkb5 : KB L bX g W w5 := Below.kb hb5
    have HB5 := Lib.hid hkb5
    have hxlt := HIT.out.x.lt
    have hglt : g < W.heap.size := by obtain ⟨cs, h1, h2, h3⟩ := HIT.out.cs; exact h2.lt
    have hlo := HIT.out.lo
    obtain ⟨A, c, rfl, hr, -⟩ := IntR.of_own ho (by omega)
    have hown := Lib.hid ho
    clear hd1 hdd hx hvs hb5 HIT HJ hkb5 ho
    go_wp2_with fail
    go_loopw [22] (fun t22 wr => ∃ q : Nat, q ≤ vs.length ∧ t22 = .int .i64 q ∧ Hid (J (vis ++ extK ds t vs q) wr) ∧ Hid (It L bX bD bY bF g m l t wr) ∧ Hid (KB L bX g w5 wr)) (fun t22 _ => vs.length - (intOf t22).toNat)
    case atStart => exact ⟨0, by omega, rfl, by rw [extK_zero, List.append_nil]; exact hJ5, hit5, KB.refl _ _ _ _⟩
    case round =>
      obtain ⟨q, hq, rfl, hJq, hitq, hkq⟩ := hrel
      clear hJ5 hit5 hr
      by_cases hlt : q < vs.length
      · obtain ⟨gv, cv, cur, e1, hgv, hblk, hcur⟩ := own_blk_int hown.out (by omega)
        injection e1 with e1 e2 e3
        subst e1
        subst e3
        have hvq : vs[q]? = some vs[q] := List.getElem?_eq_getElem hlt
        obtain ⟨x, hxq⟩ : ∃ x, x = vs[q] := ⟨_, rfl⟩
        rw [← hxq] at hvq
        have hbq : TBlk 3 wr gv cur := hblk.kb hkq.out (by omega) (by omega) (by omega)
        have hcq := hbq.at_ q (hcur q x hvq)
        have hx1 : wr.cell? ⟨bX, 0, none⟩ = some (.slice (some ⟨g, 0, none⟩) k m) := by rw [HK.out]; exact hitq.out.x.at_ 0 rfl
        obtain ⟨cs, hcs1, hcs2, hcs3⟩ := hitq.out.cs
        have hxm : x ∈ vs := List.mem_of_getElem? hvq
        have KEY : ∀ W6, W6 = (wr.alloc (.cells #[.int .i64 x] 3)).setCell ⟨g, k, none⟩ (.int .i64 x) → (W6.cell? ⟨bX, 0, none⟩ = some (.slice (some ⟨g, 0, none⟩) k m) ∧ W6.frozen? ⟨bX, 0, none⟩ = false ∧ (W6.setCell ⟨bX, 0, none⟩ (.slice (some ⟨g, 0, none⟩) (k + 1) m)).cell? ⟨bF, 0, none⟩ = some (.func (.func 99) #[] #[.pointer (some ⟨bX, 0, none⟩), .pointer (some ⟨bD, 0, none⟩), .pointer (some ⟨bY, 0, none⟩), .pointer (some ⟨bF, 0, none⟩)])) ∧
            Hid (It L bX bD bY bF g m l (t ++ [x]) (W6.setCell ⟨bX, 0, none⟩ (.slice (some ⟨g, 0, none⟩) (k + 1) m)) ∧ J (vis ++ extK ds t vs q) (W6.setCell ⟨bX, 0, none⟩ (.slice (some ⟨g, 0, none⟩) (k + 1) m)) ∧ KB L bX g w5 (W6.setCell ⟨bX, 0, none⟩ (.slice (some ⟨g, 0, none⟩) (k + 1) m)) ∧ L ≤ (W6.setCell ⟨bX, 0, none⟩ (.slice (some ⟨g, 0, none⟩) (k + 1) m)).heap.size) := by
          rintro W6 rfl
          have hLr : L ≤ wr.heap.size := Nat.le_trans hL5 hkq.out.1
          have ha := hitq.out.on (b_alloc wr (.cells #[.int .i64 x] 3))
          have hXs := ha.x.far (g := g) (j := k) (u := .int .i64 x) ha.xg
          have hp := ha.push (by rw [← HK.out]; exact htm) x
          rw [← HK.out] at hp hXs
          refine ⟨⟨hXs.at_ 0 rfl, hXs.frozen 0, hp.f.at_ 0 rfl⟩, hp, hJb _ _ _ hJq.out ((((Below.refl _ _).alloc hLr _).setCell (p := ⟨g, k, none⟩) hlo.2.1 _).setCell (p := ⟨bX, 0, none⟩) hlo.1 _), ((hkq.out.trans (Below.kb (b_alloc _ _))).trans (KB.set2 _ _)).trans (KB.set _ _), ?_⟩
          simp; omega
        have HKEY := Lib.hid KEY
        have HVQ := Lib.hid hvq
        clear hxq hvq hblk hcur hbq hcs3 KEY
        go_wp2_with (at_builtin; refine wpList_push i0 hi0 hz1 rfl _ _ rfl (v := x) rfl rfl hcs2 htm hcs1 ?_; intro W6 hW6; obtain ⟨⟨hX1, hX2, hX3⟩, HIT6⟩ := HKEY.out W6 hW6; clear hW6 HKEY)
        obtain ⟨W7, hW7⟩ : ∃ W7, W6.setCell ⟨bX, 0, none⟩ (.slice (some ⟨g, 0, none⟩) (k + 1) m) = W7 := ⟨_, rfl⟩
        rw [hW7] at HIT6 hX3 ⊢
        obtain ⟨hit7, hJ7, hkb7, hL7⟩ := HIT6.out
        refine (ih (t ++ [x]) _ _ (by rw [List.length_append, List.length_singleton]; have := HTR.out; omega) (HPRE.out.push HD.out (by rw [← HVS.out]; exact List.mem_of_getElem? HVQ.out)) hit7 hJ7 hL7).mono ?_
        rintro e w8 (⟨rfl, hJ8, hit8, hkb8⟩ | ⟨rfl, hJx⟩)
        · have hX4 : w8.cell? ⟨bX, 0, none⟩ = some (.slice (some ⟨g, 0, none⟩) (k + 1) m) := by
            have := hit8.x.at_ 0 rfl
            rw [List.length_append, List.length_singleton, ← HK.out] at this
            exact this
          have hX5 := hit8.x.frozen 0
          have hX6 : w8.cell? ⟨bX, 0, none⟩ = some (.slice (some ⟨g, 0, none⟩) (k + 1) m) := hX4
          have HJ8 := Lib.hid hJ8
          have HIT8 := Lib.hid hit8
          have HKB8 := Lib.hid (hkb7.trans hkb8)
          clear hit7 hJ7 hkb7 hX3 hW7 HIT6 hX1 hX2 hJ8 hit8 hkb8 hcs2 hcq hx1
          go_wp2_with fail
          go_roundw
          case rel =>
            refine ⟨q + 1, by omega, by go_num, ?_, ?_, HKB8.out.trans (KB.set _ _)⟩
            · rw [extK_succ HVQ.out, ← List.append_assoc]
              exact hJb _ _ _ HJ8.out ((Below.refl _ _).setCell (p := ⟨bX, 0, none⟩) hlo.1 _)
            · rw [HK.out]; exact HIT8.out.pop
          case measure => simp [intOf]; omega
        · have HJX := Lib.hid hJx
          clear hit7 hJ7 hkb7 hX3 hW7 HIT6 hX1 hX2 hcs2 hcq hx1 hJx
          go_wp2_with fail
          go_ret
          exact .inr ⟨rfl, HJX.out⟩
      · obtain rfl : q = vs.length := by omega
        go_wp2_with fail
        go_ret
        refine .inl ⟨rfl, ?_, hitq.out, HB5.out.trans hkq.out⟩
        have := hJq.out
        rw [HVS.out, extK_done HD.out] at this
        exact this
end Go.Proofs.Ytfmdgdamelkelaa
/- impl's iterator over the tuples: its start. -/
namespace Go.Proofs.Ytfmdgdamelkelaa
open Go.ChangeShapes Go.WideShapes Go.ChangeAt Go.RowKit
open Go.Shelf
set_option linter.unusedVariables false
set_option maxRecDepth 100000
attribute [local go_sem] Oper.semAt_some

/-- What 'make' of no element and room for n lays. -/
theorem make_room {P : Program} (t e : TypeId) (i : TypeInfo) (z : Value) (ht : P.underlying t = some (.slice e)) (hi : P.info? e = some i) (hz : i.zero = some z) (hs : i.size = 1) (h1 : z.cells = #[z]) (n : Nat) (hb : i.bytes * n ≤ 281474976710656) (h63 : n ≤ maxLen) :
    ∃ Z : Array Value, Z.size = n ∧ ∀ W : World, Sem.run P (Instr.makeSlice t (.int .i64 0) (.int .i64 (n : Int))) W = .ok (.slice (some ⟨W.heap.size, 0, none⟩) 0 n) (W.alloc (.cells Z e)) := by
  refine ⟨madeCells z.cells (n * i.size), ?_, fun W => ?_⟩
  · rw [hs, Nat.mul_one, h1, ← Array.length_toList, toList_madeCells_one, List.length_replicate]
  · have h := run_make (P := P) W t e i z ht hi hz .i64 .i64 0 (n : Int) (Int.le_refl _) (Int.natCast_nonneg _) (by rw [← Int.natCast_mul]; exact Int.ofNat_le.2 hb) (by unfold maxLen at h63; omega)
    simpa using h
theorem TBlk.newAt {w : World} {cs : Array Value} {t : TypeId} {b : Nat} (h : b = w.heap.size) : TBlk t (w.alloc (.cells cs t)) b cs := by subst h; exact TBlk.new _ _ _
theorem ituples (A : Option Addr) (n c : Nat) (w : World) : Calls Try.prog 62 #[.slice A n c] w fun e w' => e = .returned (.func (.func 98) #[] #[.pointer (some ⟨w.heap.size, 0, none⟩)]) ∧ w' = w.alloc (.cells #[.slice A n c] 22) := by
  go_enter Try.func62, Try.ntmps62
  go_wp2
  go_ret
  exact ⟨rfl, rfl⟩
set_option maxHeartbeats 4000000 in
/-- The iterator goes over all tuples, or is told to stop. -/
theorem tuples1 (bD m l db dof cd : Nat) (ds : List Int) (hds : Doms ds) (hm : ds.length = m) (hm4 : m ≤ 4) (W : World) (J : List (List Int) → World → Prop) (Jx : World → Prop)
    (hJb : ∀ vis W1 W', J vis W1 → Below W.heap.size W1 W' → J vis W')
    (hJd : ∀ vis W1, J vis W1 → W1.cell? ⟨bD, 0, none⟩ = some (.slice (some ⟨db, dof, none⟩) m cd) ∧ ∀ (j : Nat) x, ds[j]? = some x → W1.cell? ⟨db, dof + j, none⟩ = some (.int .i64 x))
    (hY : ∀ mm g vis t W1, J vis W1 → t ∈ allT ds → W.heap.size ≤ g → (∃ cs : Array Value, cs.size = m ∧ TBlk 3 W1 g cs ∧ ∀ (j : Nat) v, t[j]? = some v → cs[j]? = some (.int .i64 v)) → YieldAt Fence.wide mm Try.prog l #[.slice (some ⟨g, 0, none⟩) m m] W1 fun e W' => (e = .returned (.bool true) ∧ J (vis ++ [t]) W' ∧ KHi W.heap.size W1 W') ∨ (e = .returned (.bool false) ∧ Jx W'))
    (h0 : J [] W) :
    Calls Try.prog 98 #[.func (.yield l) #[] #[], .pointer (some ⟨bD, 0, none⟩)] W fun e W' => (∃ v, e = .returned v) ∧ (J (allT ds) W' ∨ Jx W') := by
  obtain ⟨i0, hi0, hz0, hz1, hz2⟩ := info_parts info_int
  have hd1 := (hJd [] W h0).1
  have hd2 : (W.alloc (.cells #[.func (.yield l) #[] #[]] 56)).cell? ⟨bD, 0, none⟩ = some (.slice (some ⟨db, dof, none⟩) m cd) := (World.cell?_alloc_some _ _ _ (by rw [hd1]; rfl)).trans hd1
  obtain ⟨Z, hZ, hmk⟩ := make_room (P := Try.prog) 22 3 i0 _ Try.underlying22 hi0 hz0 hz1 rfl m (by rw [hz2]; omega) (by unfold maxLen; omega)
  have HZ := Lib.hid hZ
  have HJ0 := Lib.hid h0
  have HDS := Lib.hid hds
  have HM := Lib.hid hm
  clear h0 hds hm hZ hd1
  go_enter Try.func98, Try.ntmps98
  go_wp2_with fail
  refine (from1 W.heap.size (W.heap.size + 1 + 1) bD W.heap.size (W.heap.size + 1 + 1 + 1) (W.heap.size + 1) m l db dof cd ds HDS.out HM.out hm4 J Jx hJb hJd
    (fun mm vis t W1 hJ1 ht hit => hY mm (W.heap.size + 1) vis t W1 hJ1 ht (by omega) hit.cs) m [] [] _ (by simp) (fun j d v _ hv => by simp at hv) ?_ ?_ ?_).mono ?_
  · refine ⟨?_, ⟨Z, HZ.out, ?_, fun j v hj => by simp at hj⟩, ?_, ?_, by omega⟩
    · exact (TBlk.newAt (by simp)).alloc_ _
    · exact ((TBlk.newAt (by simp)).alloc_ _).alloc_ _
    · exact (((TBlk.newAt rfl).alloc_ _).alloc_ _).alloc_ _
    · exact TBlk.newAt (by simp)
  · exact hJb _ _ _ HJ0.out ((((Below.refl _ _).alloc (Nat.le_refl _) _).alloc (by simp) _ |>.alloc (by simp; omega) _).alloc (by simp; omega) _)
  · simp; omega
  · rintro e w9 (⟨rfl, hJ9, -, -⟩ | ⟨rfl, hJ9⟩)
    · have HJ9 := Lib.hid hJ9
      clear hJ9
      go_wp2_with fail
      refine bodyPost_end (results_none rfl _ _ _) rfl ?_
      refine ⟨⟨_, rfl⟩, .inl ?_⟩
      have := HJ9.out
      rw [extT_nil, List.nil_append] at this
      exact this
    · have HJ9 := Lib.hid hJ9
      clear hJ9
      go_wp2_with fail
      refine bodyPost_end (results_none rfl _ _ _) rfl ?_
      exact ⟨⟨_, rfl⟩, .inr HJ9.out⟩
end Go.Proofs.Ytfmdgdamelkelaa
/- IsEntailed. -/
namespace Go.Proofs.Ytfmdgdamelkelaa
open Go.ChangeShapes Go.WideShapes Go.ChangeAt Go.RowKit
open Go.Shelf
set_option linter.unusedVariables false
set_option maxRecDepth 100000
attribute [local go_sem] Oper.semAt_some

set_option maxHeartbeats 4000000 in
theorem svalidDomainsF (A : Option Addr) (n c : Nat) (xs : List Int) (w : World) (h : IntR w w.heap.size A n xs) :
    Calls Try.prog 45 #[.slice A n c] w fun e w' => e = .returned (.bool (dokF xs)) ∧ w = w' := by
  have hn := h.le
  have hl := Lib.hid h.len
  go_enter Try.func45, Try.ntmps45
  go_wp2_with fail
  go_loop [3] (fun i => ∃ k : Nat, k ≤ n ∧ i = .int .i64 k ∧ Hid (AllB vdB xs k)) (fun i => n - (intOf i).toNat)
  case atStart => exact ⟨0, by omega, rfl, AllB.zero _ _⟩
  case round =>
    obtain ⟨k, hk, rfl, hq⟩ := hrel
    by_cases hlt : k < n
    · obtain ⟨ab, ao, x, rfl, hab, hxk, hcx⟩ := IntR.at_ h hlt
      have HXK := Lib.hid hxk
      clear hxk
      go_wp2_with fail
      refine (svalidDomain _ _).mono ?_
      rintro e w' ⟨rfl, rfl⟩
      cases hv : vdB x
      · have HE := Lib.hid (show dokF xs = false by unfold dokF; rw [show (xs.all fun x => inB x 0 63) = xs.all vdB from rfl, all_no (f := vdB) HXK.out hv]; simp)
        clear hv
        go_wp2_with fail
        go_ret
        exact ⟨ret_bool HE.out.symm, rfl⟩
      · have HV := Lib.hid hv
        clear hv
        go_wp2_with fail
        go_round
        case rel => exact ⟨k + 1, by omega, by go_num, AllB.succ hq.out HXK.out HV.out⟩
        case measure => simp [intOf]; omega
    · obtain rfl : k = n := by omega
      have HE := Lib.hid (show dokF xs = inB k 1 4 by unfold dokF; rw [show (xs.all fun x => inB x 0 63) = xs.all vdB from rfl, AllB.done hq.out (Nat.le_of_eq hl.out), hl.out]; simp)
      go_wp2_with fail
      refine (inRange _ _ _ _).mono ?_
      rintro e w' ⟨rfl, rfl⟩
      go_wp2_with fail
      go_ret
      exact ⟨ret_bool HE.out.symm, rfl⟩
theorem svalidDomainsF_b (A : Option Addr) (n c : Nat) (xs : List Int) (w : World) (b : Bool) (hb : dokF xs = b) (h : IntR w w.heap.size A n xs) :
    Calls Try.prog 45 #[.slice A n c] w fun e w' => e = .returned (.bool b) ∧ w = w' := by
  subst hb; exact svalidDomainsF A n c xs w h
/-- all tuples satisfy c. -/
def entF (c : Con) (ds : List Int) : Bool := (allT (wordF c.vars ds)).all (satF c)
def ientF (c : Con) (ds : List Int) : Bool := dokF ds && (vconF c ds.length && entF c ds)
theorem dok_parts {ds : List Int} (h : dokF ds = true) : 1 ≤ ds.length ∧ ds.length ≤ 4 ∧ Doms ds := by
  unfold dokF at h
  simp only [Bool.and_eq_true, List.all_eq_true] at h
  have := inB_true h.1
  exact ⟨by omega, by omega, fun x hx => inB_true (h.2 x hx)⟩
theorem word_doms {vars ds : List Int} (hv : ∀ v ∈ vars, 0 ≤ v ∧ v < (ds.length : Int)) (h : Doms ds) : Doms (wordF vars ds) := by
  intro x hx
  unfold wordF at hx
  obtain ⟨u, hu, rfl⟩ := List.mem_map.1 hx
  have := hv u hu
  exact h _ (gat_in (by omega))
theorem sat_tup {c : Con} {n : Nat} {ds t : List Int} (hv : vconF c n = true) (h4 : n ≤ 4) (ht : t ∈ allT (wordF c.vars ds)) : SatOk c t ∧ t.length = c.vars.length := by
  obtain ⟨h1, h2, h3⟩ := vcon_vars hv h4
  obtain ⟨hl, hm⟩ := mem_allT.1 ht
  rw [wordF_len] at hl
  refine ⟨⟨hl, by omega, by omega, fun v hv => ?_, h3⟩, hl⟩
  obtain ⟨k, hk, e⟩ := List.getElem_of_mem hv
  have := hm k (gat (wordF c.vars ds) k) v (by rw [gat_eq (List.getElem?_eq_getElem (by rw [wordF_len]; omega))]; exact List.getElem?_eq_getElem _) (by rw [List.getElem?_eq_getElem hk, e])
  omega
theorem results_cell1 {fn : Func} {p : Tmp} {ty : TypeId} (h : fn.results = #[.cell p ty]) (tmps : Array Value) (w : World) (a : Addr) (v : Value) (hp : tmps.getD p undef = .pointer (some a)) (hd : ∀ w, (isAgg ty).run Try.prog w = .ok false w) (hl : w.cell? a = some v) :
    (results fn tmps).run Try.prog w = .ok v w := by
  have hp' : tmps[p]?.getD undef = .pointer (some a) := by simpa using hp
  simp [results, h, hp', asAddr, loadVar, Sem.run_bind, hd, run_load, hl, Result.andThen]
theorem intR_blk {w : World} {g m : Nat} {cs : Array Value} {t : List Int} (hb : TBlk 3 w g cs) (hc : ∀ (j : Nat) v, t[j]? = some v → cs[j]? = some (.int .i64 v)) (hl : t.length = m) (hm : m ≤ 4) : IntR w w.heap.size (some ⟨g, 0, none⟩) m t :=
  ⟨hl, by omega, fun _ => ⟨g, 0, rfl, hb.lt, fun k x hx => ⟨_, by rw [Nat.zero_add]; exact hb.at_ k (hc k x hx), rfl⟩⟩⟩
set_option maxHeartbeats 8000000 in
theorem iIsEntailed (us : List Value) (c : Con) (A : Option Addr) (n d : Nat) (ds : List Int) (w : World) (h : ConR w w.heap.size us c) (hx : IntR w w.heap.size A n ds) :
    Calls Try.prog 26 #[.agg us.toArray, .slice A n d] w fun e w' => e = .returned (.bool (ientF c ds)) ∧ Below w.heap.size w w' := by
  have hl := Lib.hid hx.len
  obtain ⟨va, aa, ra, cv, ca, cr, eus, -⟩ := id h
  obtain ⟨us0, hus⟩ : ∃ us0 : Array Value, us0 = us.toArray := ⟨_, rfl⟩
  have HUS := Lib.hid (hus.trans (by rw [eus]))
  obtain ⟨x0, hx0⟩ : ∃ x0 : Value, x0 = .int .i64 c.kind := ⟨_, rfl⟩
  obtain ⟨x1, hx1⟩ : ∃ x0 : Value, x0 = .slice va c.vars.length cv := ⟨_, rfl⟩
  obtain ⟨x2, hx2⟩ : ∃ x0 : Value, x0 = .slice aa c.args.length ca := ⟨_, rfl⟩
  obtain ⟨x3, hx3⟩ : ∃ x0 : Value, x0 = .int .i64 c.bound := ⟨_, rfl⟩
  obtain ⟨x4, hx4⟩ : ∃ x0 : Value, x0 = .slice ra c.rows.length cr := ⟨_, rfl⟩
  obtain rfl : us = [x0, x1, x2, x3, x4] := by rw [eus, hx0, hx1, hx2, hx3, hx4]
  obtain ⟨wa, hwa⟩ : ∃ wa, wa = (w.alloc (.cells #[x0, x1, x2, x3, x4] 29)).alloc (.cells #[.bool false] 4) := ⟨_, rfl⟩
  have hb0 : Below w.heap.size w wa := by rw [hwa]; exact (b_alloc _ _).alloc (by simp) _
  have hsz : wa.heap.size = w.heap.size + 2 := by rw [hwa]; simp
  have ha : CBlk wa w.heap.size x0 x1 x2 x3 x4 := by rw [hwa]; exact (CBlk.new w _ _ _ _ _).below (b_alloc _ _) (by simp)
  have hr : TBlk 4 wa (w.heap.size + 1) #[.bool false] := by rw [hwa]; exact TBlk.newAt (by simp)
  have HC0 := Lib.hid h
  have H := Lib.hid (ConR.on h hb0)
  have GX := Lib.hid (IntR.on hx hb0)
  have HA := Lib.hid ha
  have HR := Lib.hid hr
  obtain ⟨a0, a1, a2, a3, a4⟩ := ha.cells
  have hr0 := hr.at_ 0 rfl
  have hr1 := hr.frozen 0
  clear h hx hx0 hx1 hx2 hx3 hx4 eus hus HUS ha hr
  obtain ⟨z, hz⟩ : ∃ z, z = w.heap.size := ⟨_, rfl⟩
  refine (callsIn_wide (n := 5)).1 ?_
  refine callsIn_of_wp_marks Try.func26 rfl trivial ?_ rfl
  refine wpIn_wide.2 ?_
  simp only [Try.ntmps26, List.size_toArray, List.length_cons, List.length_nil, Nat.reduceAdd, Nat.reduceSub, Array.replicate_succ, Array.replicate_zero, List.push_toArray, List.append_toArray, List.nil_append, List.cons_append]
  go_wp2_with fail
  rw [← hwa]
  clear hwa
  refine (domainsOk _ _ _ _ _ GX.out).mono ?_
  rintro e w1 ⟨rfl, hb1⟩
  have H1 := Lib.hid (ConR.on H.out hb1)
  have GX1 := Lib.hid (IntR.on GX.out hb1)
  have HA1 := Lib.hid (HA.out.below hb1 (by omega))
  have HR1 := Lib.hid (HR.out.below_ hb1 HR.out.lt)
  have hs1 := hb1.size
  have HB1 := Lib.hid (hb0.trans (hb1.mono (by omega)))
  obtain ⟨c0, c1, c2, c3, c4⟩ := HA1.out.cells
  have hr2 := HR1.out.at_ 0 rfl
  have hr3 := HR1.out.frozen 0
  clear a0 a1 a2 a3 a4 hr0 hr1 hb1 H GX HA HR
  cases t0 : dokF ds
  · have HE := Lib.hid (show ientF c ds = false by unfold ientF; rw [t0]; rfl)
    clear t0
    go_wp2_with fail
    refine ⟨_, results_cell1 rfl _ _ ⟨w.heap.size + 1, 0, none⟩ (.bool false) rfl (run_isAgg_plain Try.underlying4 rfl) ((HR1.out.store 0 _).at_ 0 rfl), ?_, ?_⟩
    · rw [HE.out]
    · exact HB1.out.setCell (p := ⟨w.heap.size + 1, 0, none⟩) (Nat.le_succ _) _
  obtain ⟨hl1, hl4, hdoms⟩ := dok_parts t0
  have HDM := Lib.hid hdoms
  rw [hl.out] at hl1 hl4
  have HD := Lib.hid t0
  clear t0 hdoms
  go_wp2_with fail
  refine (iValidConstraint _ c _ _ H1.out).mono ?_
  rintro e w2 ⟨rfl, hb2⟩
  have hvc : vconstF c (n : Int) = vconF c (n : Int) := by unfold vconstF; rw [inB_mk ⟨by omega, by omega⟩]; rfl
  rw [hvc]
  clear hvc
  have H2 := Lib.hid (ConR.on H1.out hb2)
  have GX2 := Lib.hid (IntR.on GX1.out hb2)
  have HA2 := Lib.hid (HA1.out.below hb2 (by omega))
  have HR2 := Lib.hid (HR1.out.below_ hb2 HR1.out.lt)
  have hs2 := hb2.size
  have HB2 := Lib.hid (HB1.out.trans (hb2.mono (by omega)))
  obtain ⟨d0, d1, d2, d3, d4⟩ := HA2.out.cells
  have hr4 := HR2.out.at_ 0 rfl
  have hr5 := HR2.out.frozen 0
  clear c0 c1 c2 c3 c4 hr2 hr3 hb2 H1 GX1 HA1 HR1 HB1 hb0
  cases t0 : vconF c (n : Int)
  · have HE := Lib.hid (show ientF c ds = false by unfold ientF; rw [hl.out, t0]; simp)
    clear t0
    go_wp2_with fail
    refine ⟨_, results_cell1 rfl _ _ ⟨w.heap.size + 1, 0, none⟩ (.bool false) rfl (run_isAgg_plain Try.underlying4 rfl) ((HR2.out.store 0 _).at_ 0 rfl), ?_, ?_⟩
    · rw [HE.out]
    · exact HB2.out.setCell (p := ⟨w.heap.size + 1, 0, none⟩) (Nat.le_succ _) _
  have hie : ientF c ds = entF c ds := by unfold ientF; rw [hl.out, t0, HD.out]; simp
  have HIE := Lib.hid hie
  have HV := Lib.hid t0
  have hvp := Lib.hid (vcon_vars t0 hl4)
  clear hie t0
  go_wp2_with fail
  refine (iword _ c _ _ _ ds _ H2.out GX2.out hvp.out.2.1 (by have := hvp.out.1; omega)).mono ?_
  rintro e w3 ⟨v, rfl, ho3, hb3⟩
  obtain ⟨ws, hws⟩ : ∃ ws, wordF c.vars ds = ws := ⟨_, rfl⟩
  have hwl : ws.length = c.vars.length := by rw [← hws, wordF_len]
  obtain ⟨m, hm⟩ : ∃ m, ws.length = m := ⟨_, rfl⟩
  have hm1 : 1 ≤ m ∧ m ≤ 4 := by have := hvp.out.1; omega
  rw [hws] at ho3
  have ho4 := ho3.1
  rw [hm] at ho4
  obtain ⟨gv, cc, cur, rfl, hgv, hgb, hgc⟩ := own_blk_int ho4 (by omega)
  have HGC := Lib.hid hgc
  have HWS := Lib.hid hws
  have HM := Lib.hid hm
  have HMV := Lib.hid (show c.vars.length = m from by omega)
  have H3 := Lib.hid (ConR.on H2.out hb3)
  have HA3 := Lib.hid (HA2.out.below hb3 (by omega))
  have HR3 := Lib.hid (HR2.out.below_ hb3 HR2.out.lt)
  have hs3 := hb3.size
  have HB3 := Lib.hid (HB2.out.trans (hb3.mono (by omega)))
  clear d0 d1 d2 d3 d4 hr4 hr5 hb3 H2 GX2 HA2 HR2 HB2 ho3 ho4 hws hm hgc hwl
  go_wp2_with fail
  refine (ituples _ _ _ _).mono ?_
  rintro e w4 ⟨rfl, hw4⟩
  obtain ⟨bD, hbD⟩ : ∃ bD, w3.heap.size = bD := ⟨_, rfl⟩
  have hd4 : TBlk 22 w4 bD #[.slice (some ⟨gv, 0, none⟩) m cc] := by rw [hw4]; exact TBlk.newAt hbD.symm
  have hg4 : TBlk 3 w4 gv cur := by rw [hw4]; exact hgb.alloc_ _
  have hs4 : w4.heap.size = bD + 1 := by rw [hw4]; simp [hbD]
  have hb34 : Below w3.heap.size w3 w4 := by rw [hw4]; exact b_alloc _ _
  have HA4 := Lib.hid (HA3.out.below hb34 (by omega))
  have HR4 := Lib.hid (HR3.out.below_ hb34 HR3.out.lt)
  have HB4 := Lib.hid (HB3.out.trans (hb34.mono (by omega)))
  rw [hbD]
  rw [hbD] at hs3
  clear hw4 hb34 H3 HA3 HR3 HB3 hbD hgb
  go_wp2_with fail
  have HG4 := Lib.hid hg4
  have HD4 := Lib.hid hd4
  have HSZ := Lib.hid (show w.heap.size + 2 ≤ gv ∧ gv < bD ∧ w.heap.size + 2 ≤ bD from ⟨by omega, by have := hg4.lt; have := hg4.ne hd4 (by decide); omega, by omega⟩)
  clear hg4 hd4 hsz hs1 hs2 hs3 hgv
  refine (wpIn_wide (n := 5)).1 ?_
  refine wp_range_direct (gf := 98) (lb := #[.pointer (some ⟨bD, 0, none⟩)]) rfl (enters_of Try.func98 (by kernel_rfl) rfl) ?_
  intro r hr1 hr2 hr3 hr4 hr5 hr6
  obtain ⟨B, hB⟩ : ∃ B, w4.heap.size = B := ⟨_, rfl⟩
  rw [hB]
  have HBD := Lib.hid (show B = bD + 1 from by rw [← hB]; exact hs4)
  let J : List (List Int) → World → Prop := fun vis W => Rdy B r W ∧ Below w.heap.size w W ∧ CBlk W w.heap.size x0 x1 x2 x3 x4 ∧ TBlk 4 W (w.heap.size + 1) #[.bool false] ∧ TBlk 22 W bD #[.slice (some ⟨gv, 0, none⟩) m cc] ∧ TBlk 3 W gv cur ∧ ∀ t ∈ vis, satF c t = true
  let Jx : World → Prop := fun W => Don B r .ret W ∧ Below w.heap.size w W ∧ TBlk 4 W (w.heap.size + 1) #[.bool false] ∧ entF c ds = false
  obtain ⟨W5, hW5⟩ : ∃ W5, (w4.alloc (.deferred (some []))).alloc (.loop r) = W5 := ⟨_, rfl⟩
  have hS5 : W5.heap.size = B + 2 := by rw [← hW5]; simp; omega
  have hJ0 : J [] W5 := by
    rw [← hW5]
    refine ⟨⟨?_, ?_⟩, (HB4.out.alloc (by have := HSZ.out; have := HBD.out; omega) _).alloc (by have := HSZ.out; have := HBD.out; simp; omega) _, (HA4.out.below (b_alloc _ _) HA4.out.lt).below (b_alloc _ _) (by have := HA4.out.lt; simp; omega), (HR4.out.alloc_ _).alloc_ _, (HD4.out.alloc_ _).alloc_ _, (HG4.out.alloc_ _).alloc_ _, by simp⟩
    · have := World.alloc_heap_new (w4.alloc (.deferred (some []))) (.loop r)
      rwa [World.size_alloc, hB] at this
    · have := World.alloc_heap_new w4 (.deferred (some []))
      rw [hB] at this
      exact ((b_alloc _ _).block _ (by rw [size_alloc_]; omega)).trans this
  have hws5 : Doms ws := by rw [← HWS.out]; exact word_doms (by rw [hl.out]; exact hvp.out.2.1) HDM.out
  rw [hW5]
  refine ((callsIn_wide (n := 5 - 1)).2 (tuples1 bD m (B + 1) gv 0 cc ws hws5 HM.out (by omega) W5 J Jx ?hJb ?hJd ?hY hJ0)).mono ?fin
  case hJb =>
    rintro vis W1 W' ⟨j1, j2, j3, j4, j5, j6, j7⟩ hb
    rw [hS5] at hb
    have := HSZ.out
    have := HBD.out
    exact ⟨j1.below (by omega) hb, j2.trans (hb.mono (by omega)), j3.below hb (by omega), j4.below_ hb (by omega), j5.below_ hb (by omega), j6.below_ hb (by omega), j7⟩
  case hJd =>
    rintro vis W1 ⟨j1, j2, j3, j4, j5, j6, j7⟩
    exact ⟨j5.at_ 0 rfl, fun j x hj => by rw [Nat.zero_add]; exact j6.at_ j (HGC.out j x hj)⟩
  case hY =>
    rintro mm g vis t W1 ⟨j1, j2, j3, j4, j5, j6, j7⟩ ht hg ⟨cs, hcs, hcb, hct⟩
    rw [hS5] at hg ⊢
    have htm := sat_tup (c := c) (ds := ds) HV.out hl4 (by rw [HWS.out]; exact ht)
    refine yield_direct (a1 := { tmps := #[.agg #[x0, x1, x2, x3, x4], .slice A n d, .pointer (some ⟨w.heap.size, 0, none⟩), undef, .pointer (some ⟨w.heap.size + 1, 0, none⟩), .slice (some ⟨g, 0, none⟩) m m, .slice A n d, .bool true, .bool false, .bool false, .agg #[x0, x1, x2, x3, x4], .slice A n d, .int .i64 n, .bool true, .bool false, .bool false,
          .agg #[x0, x1, x2, x3, x4], .slice A n d, .slice (some ⟨gv, 0, none⟩) m cc, .func (.func 98) #[] #[.pointer (some ⟨bD, 0, none⟩)], .slice (some ⟨g, 0, none⟩) m m, undef, undef, undef, undef], defers := [] }) j1 hr1 hr2 hr3 hr4 hr5 hr6 rfl (fun K hK => by gi_wp2; exact hK) ?_
    obtain ⟨W2, hW2⟩ : ∃ W2 : World, W1.putObj (B + 1) (.loop { r with state := .busy }) = W2 := ⟨_, rfl⟩
    have hBs : Bsy B r W2 := by rw [← hW2]; exact j1.busy
    have q2 : Below w.heap.size w W2 := by rw [← hW2]; exact j2.trans (put_below _ j1.1 (by have := HSZ.out; have := HBD.out; omega))
    have q3 : CBlk W2 w.heap.size x0 x1 x2 x3 x4 := by rw [← hW2]; exact (World.putObj_heap_other (by have := HSZ.out; have := HBD.out; omega)).trans j3
    have q4 : TBlk 4 W2 (w.heap.size + 1) #[.bool false] := by rw [← hW2]; exact j4.put_ j1.1 rfl
    have q5 : TBlk 22 W2 bD #[.slice (some ⟨gv, 0, none⟩) m cc] := by rw [← hW2]; exact j5.put_ j1.1 rfl
    have q6 : TBlk 3 W2 gv cur := by rw [← hW2]; exact j6.put_ j1.1 rfl
    have qg : TBlk 3 W2 g cs := by rw [← hW2]; exact hcb.put_ j1.1 rfl
    have qS : W2.heap.size = W1.heap.size := by rw [← hW2, put_size]
    have qH : ∀ k, k ≠ B + 1 → W2.heap[k]? = W1.heap[k]? := fun k hk => by rw [← hW2]; exact World.putObj_heap_other hk
    have hcon : ConR W2 W2.heap.size [x0, x1, x2, x3, x4] c := ConR.on HC0.out q2
    have hint : IntR W2 W2.heap.size (some ⟨g, 0, none⟩) m t := intR_blk qg hct (by rw [htm.2]; exact HMV.out) hm1.2
    have HQ := Lib.hid (And.intro q2 (And.intro q3 (And.intro q4 (And.intro q5 (And.intro q6 (And.intro qg (And.intro qS (And.intro qH hBs))))))))
    have HJ7 := Lib.hid j7
    have HTM := Lib.hid (And.intro htm ht)
    have HCON := Lib.hid hcon
    have HINT := Lib.hid hint
    have HHB := Lib.hid (show B + 1 < W2.heap.size from by have := (Array.getElem?_eq_some_iff.1 hBs.1).1; exact this)
    obtain ⟨k0, k1, k2, k3, k4⟩ := q3.cells
    have kr := q4.at_ 0 rfl
    have kf := q4.frozen 0
    rw [hW2]
    clear q2 q3 q4 q5 q6 qg qS qH j1 j2 j3 j4 j5 j6 j7 hcb hct hcs hW2 hcon hint hJ0 hW5 hr1 hr2 hr3 hr4 hr5 hr6 htm hBs hws5
    gi_wp2
    refine ⟨trivial, fun h => by simp [Fence.wide] at h, CallsIn.inRound _ (((callsIn_wide (n := mm - 1)).2 (isatisfied _ c _ _ _ t _ HCON.out HINT.out (Nat.le_refl _) HTM.out.1.1)).mono ?_)⟩
    rintro e W3 ⟨rfl, hb3⟩
    have HQ3 : Hid (Below w.heap.size w W3 ∧ CBlk W3 w.heap.size x0 x1 x2 x3 x4 ∧ TBlk 4 W3 (w.heap.size + 1) #[.bool false] ∧ TBlk 22 W3 bD #[.slice (some ⟨gv, 0, none⟩) m cc] ∧ TBlk 3 W3 gv cur ∧ W1.heap.size ≤ W3.heap.size ∧ (∀ k, k ≠ B + 1 → k < W1.heap.size → W3.heap[k]? = W1.heap[k]?) ∧ Bsy B r W3) := by
      obtain ⟨q2, q3, q4, q5, q6, qg, qS, qH, hBs⟩ := HQ.out
      have hs2 := q2.size
      exact Lib.hid ⟨q2.trans (hb3.mono hs2), q3.below hb3 q3.lt, q4.below_ hb3 q4.lt, q5.below_ hb3 q5.lt, q6.below_ hb3 q6.lt, by have := hb3.size; omega, fun k h1 h2 => (hb3.block k (by omega)).trans (qH k h1), ⟨(hb3.block _ HHB.out).trans hBs.1, (hb3.block _ (by have := HHB.out; omega)).trans hBs.2⟩⟩
    obtain ⟨q2, q3, q4, q5, q6, qS, qH, hBs⟩ := HQ3.out
    have kr := q4.at_ 0 rfl
    have kf := q4.frozen 0
    clear k0 k1 k2 k3 k4 hb3 HQ HCON HINT HHB q2 q3 q4 q5 q6 qS qH hBs
    cases hsat : satF c t
    · have HE := Lib.hid (show entF c ds = false by
        unfold entF
        rw [HWS.out]
        exact Bool.eq_false_iff.2 fun h => by have := List.all_eq_true.1 h t HTM.out.2; rw [hsat] at this; cases this)
      clear hsat
      gi_wp2
      obtain ⟨q2, q3, q4, q5, q6, qS, qH, hBs⟩ := HQ3.out
      have hz1 := HSZ.out
      have hz2 := HBD.out
      have hBs4 : Bsy B r (W3.setCell ⟨w.heap.size + 1, 0, none⟩ (.bool false)) := ⟨(Below.heap_setCell W3 ⟨w.heap.size + 1, 0, none⟩ _ _ (by show B + 1 ≠ w.heap.size + 1; omega)).trans hBs.1, (Below.heap_setCell W3 ⟨w.heap.size + 1, 0, none⟩ _ _ (by show B ≠ w.heap.size + 1; omega)).trans hBs.2⟩
      exact ⟨hBs4, .inr ⟨rfl, hBs4.done .ret, (q2.setCell (p := ⟨w.heap.size + 1, 0, none⟩) (Nat.le_succ _) _).trans (put_below _ hBs4.1 (by omega)), (q4.store 0 _).put_ hBs4.1 rfl, HE.out⟩⟩
    · have HST := Lib.hid hsat
      clear hsat
      gi_wp2
      obtain ⟨q2, q3, q4, q5, q6, qS, qH, hBs⟩ := HQ3.out
      have hz1 := HSZ.out
      have hz2 := HBD.out
      refine ⟨hBs, .inl ⟨rfl, ⟨hBs.ready, q2.trans (put_below _ hBs.1 (by omega)), (World.putObj_heap_other (by omega)).trans q3, q4.put_ hBs.1 rfl, q5.put_ hBs.1 rfl, q6.put_ hBs.1 rfl, fun x hx => ?_⟩, by rw [put_size]; exact qS, fun k h1 h2 => (World.putObj_heap_other (by omega)).trans (qH k (by omega) h2)⟩⟩
      rcases List.mem_append.1 hx with hx | hx
      · exact HJ7.out x hx
      · rw [List.mem_singleton.1 hx]; exact HST.out
  case fin =>
    rintro e W' ⟨⟨v, rfl⟩, (⟨hRd, j2, j3, j4, j5, j6, j7⟩ | ⟨hDn, j2, j4, hE⟩)⟩
    · refine ⟨⟨_, rfl⟩, .inl ⟨hRd, ?_⟩⟩
      have hent : entF c ds = true := by unfold entF; rw [HWS.out]; exact List.all_eq_true.2 j7
      obtain ⟨W3, hW3⟩ : ∃ W3 : World, W'.putObj (B + 1) (.loop { r with state := .exhausted, pending := none }) = W3 := ⟨_, rfl⟩
      rw [hW3]
      have hz1 := HSZ.out
      have hz2 := HBD.out
      have q4 : TBlk 4 W3 (w.heap.size + 1) #[.bool false] := by rw [← hW3]; exact j4.put_ hRd.1 rfl
      have q2 : Below w.heap.size w W3 := by rw [← hW3]; exact j2.trans (put_below _ hRd.1 (by omega))
      have hD3 : W3.heap[B]? = some (.deferred (some [])) := by rw [← hW3]; exact (World.putObj_heap_other (by omega)).trans hRd.2
      have HQ := Lib.hid (And.intro q2 (And.intro q4 (And.intro hD3 hent)))
      have kr := q4.at_ 0 rfl
      have kf := q4.frozen 0
      clear hW3 hRd j2 j3 j4 j5 j6 j7 q2 q4 hD3 hent hr1 hr2 hr3 hr4 hr5 hr6 hJ0 hW5 hws5 hB hs4
      dsimp only
      go_wp2_with fail
      obtain ⟨q2, q4, hD3, hent⟩ := HQ.out
      have hD4 : (W3.setCell ⟨w.heap.size + 1, 0, none⟩ (.bool true)).heap[B]? = some (.deferred (some [])) := (Below.heap_setCell W3 ⟨w.heap.size + 1, 0, none⟩ _ _ (by show B ≠ w.heap.size + 1; omega)).trans hD3
      refine ⟨by simp, .inl ⟨_, _, rfl, run_takeDeferred hD4, ?_⟩⟩
      refine ⟨_, results_cell1 rfl _ _ ⟨w.heap.size + 1, 0, none⟩ (.bool true) rfl (run_isAgg_plain Try.underlying4 rfl) (((q4.store 0 _).put_ hD4 rfl).at_ 0 rfl), ?_, ?_⟩
      · rw [HIE.out, hent]
      · exact (q2.setCell (p := ⟨w.heap.size + 1, 0, none⟩) (Nat.le_succ _) _).trans (put_below _ hD4 (by omega))
    · refine ⟨⟨_, rfl⟩, .inr ⟨.ret, hDn, ?_⟩⟩
      have hz1 := HSZ.out
      have hz2 := HBD.out
      obtain ⟨W3, hW3⟩ : ∃ W3 : World, W'.putObj (B + 1) (.loop { r with state := .exhausted, pending := some .ret }) = W3 := ⟨_, rfl⟩
      rw [hW3]
      have q4 : TBlk 4 W3 (w.heap.size + 1) #[.bool false] := by rw [← hW3]; exact j4.put_ hDn.1 rfl
      have q2 : Below w.heap.size w W3 := by rw [← hW3]; exact j2.trans (put_below _ hDn.1 (by omega))
      have hD3 : W3.heap[B]? = some (.deferred (some [])) := by rw [← hW3]; exact (World.putObj_heap_other (by omega)).trans hDn.2
      clear hW3 hDn j2 j4 hr1 hr2 hr3 hr4 hr5 hr6 hJ0 hW5 hws5 hB hs4
      dsimp only
      gi_wp2
      refine ⟨by simp, .inl ⟨_, _, rfl, run_takeDeferred hD3, ?_⟩⟩
      refine ⟨_, results_cell1 rfl _ _ ⟨w.heap.size + 1, 0, none⟩ (.bool false) rfl (run_isAgg_plain Try.underlying4 rfl) ((q4.put_ hD3 rfl).at_ 0 rfl), ?_, ?_⟩
      · rw [HIE.out, hE]
      · exact q2.trans (put_below _ hD3 (by omega))
end Go.Proofs.Ytfmdgdamelkelaa
/- spec's IsEntailed. -/
namespace Go.Proofs.Ytfmdgdamelkelaa
open Go.ChangeShapes Go.WideShapes Go.ChangeAt Go.RowKit
open Go.Shelf
set_option linter.unusedVariables false
set_option maxRecDepth 100000
attribute [local go_sem] Oper.semAt_some

/-- what begins with t and goes on with a value of d below k. -/
def belK (ws t : List Int) (d : Int) (k : Nat) : List (List Int) := (valsTo d k).flatMap fun u => extT ws (t ++ [u])
theorem belK_zero (ws t : List Int) (d : Int) : belK ws t d 0 = [] := rfl
theorem belK_yes {ws t : List Int} {d : Int} {k : Nat} (h : hasB d k = true) : belK ws t d (k + 1) = belK ws t d k ++ extT ws (t ++ [(k : Int)]) := by
  unfold belK
  rw [valsTo, h]
  simp
theorem belK_no {ws t : List Int} {d : Int} {k : Nat} (h : hasB d k = false) : belK ws t d (k + 1) = belK ws t d k := by
  unfold belK
  rw [valsTo, h]
  simp
theorem belK_six {ws t : List Int} {d : Int} (h : ws[t.length]? = some d) : belK ws t d 6 = extT ws t := (extT_step h).symm
theorem ext_false {c : Con} {ws t : List Int} {d : Int} {k : Nat} (h : ws[t.length]? = some d) (hk : k < 6) (hb : hasB d k = true) (he : (extT ws (t ++ [(k : Int)])).all (satF c) = false) : (extT ws t).all (satF c) = false := by
  refine Bool.eq_false_iff.2 fun h2 => ?_
  rw [Bool.eq_false_iff] at he
  refine he (List.all_eq_true.2 fun x hx => List.all_eq_true.1 h2 x ?_)
  rw [extT_step h]
  exact List.mem_flatMap.2 ⟨k, valsTo_has (by omega) (by omega) hb, hx⟩
theorem word_mem {vars ds : List Int} {i : Nat} {v d : Int} (hv : vars[i]? = some v) (hd : ds[v.toNat]? = some d) : (wordF vars ds)[i]? = some d := by
  rw [wordF_at hv, gat_eq hd]
theorem take_snocE {xs : List Int} {cs : Array Value} {v : Int} (h : ∀ (j : Nat) x, xs[j]? = some x → cs[j]? = some (.int .i64 x)) (hl : xs.length < cs.size) : ∀ (j : Nat) x, (xs ++ [v])[j]? = some x → (cs.setIfInBounds xs.length (.int .i64 v))[j]? = some (.int .i64 x) := by
  intro j x hj
  rcases Nat.lt_or_ge j xs.length with hlt | hge
  · rw [Array.getElem?_setIfInBounds_ne (by omega)]
    rw [List.getElem?_append_left hlt] at hj
    exact h j x hj
  · rw [List.getElem?_append_right hge] at hj
    have hj0 : j = xs.length := by
      rcases Nat.lt_or_ge (j - xs.length) 1 with h4 | h4
      · omega
      · rw [List.getElem?_eq_none (by simpa using h4)] at hj; cases hj
    subst hj0
    rw [Nat.sub_self] at hj
    simp at hj
    subst hj
    rw [Array.getElem?_setIfInBounds_self_of_lt (by omega)]
/-- t stands at the front of the cells. -/
def Front (m : Nat) (W : World) (g : Nat) (t : List Int) : Prop := ∃ cs : Array Value, cs.size = m ∧ TBlk 3 W g cs ∧ ∀ (j : Nat) x, t[j]? = some x → cs[j]? = some (.int .i64 x)
theorem Front.on {m g : Nat} {W W' : World} {t : List Int} (h : Front m W g t) (hb : Below W.heap.size W W') : Front m W' g t := by
  obtain ⟨cs, h1, h2, h3⟩ := h
  exact ⟨cs, h1, h2.below_ hb h2.lt, h3⟩
theorem Front.push {m g : Nat} {W : World} {t : List Int} (h : Front m W g t) (hl : t.length < m) (v : Int) : Front m (W.setCell ⟨g, t.length, none⟩ (.int .i64 v)) g (t ++ [v]) := by
  obtain ⟨cs, h1, h2, h3⟩ := h
  exact ⟨_, by rw [Array.size_setIfInBounds, h1], h2.store _ _, take_snocE h3 (by omega)⟩
theorem Front.pop {m g : Nat} {W : World} {t : List Int} {v : Int} (h : Front m W g (t ++ [v])) : Front m W g t := by
  obtain ⟨cs, h1, h2, h3⟩ := h
  refine ⟨cs, h1, h2, fun j x hj => h3 j x ?_⟩
  have hlt : j < t.length := by
    rcases Nat.lt_or_ge j t.length with h4 | h4
    · exact h4
    · rw [List.getElem?_eq_none h4] at hj; cases hj
  rw [List.getElem?_append_left hlt]; exact hj
theorem Front.intR {m g : Nat} {W : World} {t : List Int} (h : Front m W g t) (hl : t.length = m) (hm : m ≤ 4) : IntR W W.heap.size (some ⟨g, 0, none⟩) m t := by
  obtain ⟨cs, h1, h2, h3⟩ := h
  exact intR_blk h2 h3 hl hm
theorem Front.frozen {m g : Nat} {W : World} {t : List Int} (h : Front m W g t) (j : Nat) : W.frozen? ⟨g, j, none⟩ = false := by
  obtain ⟨cs, h1, h2, h3⟩ := h
  exact h2.frozen j
theorem Front.cell {m g j : Nat} {W : World} {t : List Int} (h : Front m W g t) (hj : j < m) : ∃ u, W.cell? ⟨g, j, none⟩ = some u := by
  obtain ⟨cs, h1, h2, h3⟩ := h
  exact ⟨_, h2.at_ j (Array.getElem?_eq_getElem (by omega))⟩
set_option maxHeartbeats 8000000 in
theorem sall (bE gx m n cd : Nat) (c : Con) (va aa ra : Option Addr) (cv ca cr : Nat) (ds : List Int) (A : Option Addr) (w0 : World) (hc : ConR w0 w0.heap.size [.int .i64 c.kind, .slice va c.vars.length cv, .slice aa c.args.length ca, .int .i64 c.bound, .slice ra c.rows.length cr] c)
    (hd : IntR w0 w0.heap.size A n ds) (hdm : Doms ds) (hvc : vconF c n = true) (h4 : n ≤ 4) (hm : c.vars.length = m) (hg : w0.heap.size ≤ bE ∧ w0.heap.size ≤ gx) :
    ∀ (r : Nat) (t : List Int) (W : World), t.length + r = m → PreDs (wordF c.vars ds) t → Below w0.heap.size w0 W →
      TBlk 79 W bE #[.int .i64 c.kind, .slice va m cv, .slice aa c.args.length ca, .int .i64 c.bound, .slice ra c.rows.length cr, .slice A n cd, .slice (some ⟨gx, 0, none⟩) m m] → Front m W gx t →
      Calls Try.prog 64 #[.pointer (some ⟨bE, 0, none⟩), .int .i64 t.length] W fun e W' => e = .returned (.bool ((extT (wordF c.vars ds) t).all (satF c))) ∧ Below w0.heap.size w0 W' ∧
        TBlk 79 W' bE #[.int .i64 c.kind, .slice va m cv, .slice aa c.args.length ca, .int .i64 c.bound, .slice ra c.rows.length cr, .slice A n cd, .slice (some ⟨gx, 0, none⟩) m m] ∧ Front m W' gx t := by
  obtain ⟨hv1, hv2, hv3⟩ := vcon_vars hvc h4
  have hvr : IntR w0 w0.heap.size va m c.vars := by
    obtain ⟨va', aa', ra', cv', ca', cr', e, g1, g2, g3, -⟩ := hc
    injection e with e1 e2
    injection e2 with e2 e3
    injection e2 with e2 e4 e5
    subst e2
    rw [hm] at g1
    exact g1
  intro r
  induction r with
  | zero =>
    intro t W htr hpre hb hE hX
    obtain rfl : t.length = m := by omega
    have hmem := hpre.mem (by rw [wordF_len]; omega)
    have hsat := (sat_tup hvc h4 hmem).1
    rw [extT_full (by rw [wordF_len]; omega)]
    have hcon := ConR.on hc hb
    have hint := hX.intR rfl (by omega)
    have c0 := hE.at_ 0 rfl
    have c1 := hE.at_ 1 rfl
    have c2 := hE.at_ 2 rfl
    have c3 := hE.at_ 3 rfl
    have c4 := hE.at_ 4 rfl
    have c6 := hE.at_ 6 rfl
    have hl4 : t.length ≤ 4 := by omega
    obtain ⟨k, hk⟩ : ∃ k, t.length = k := ⟨_, rfl⟩
    rw [hm, hk] at hcon
    rw [hk] at c1 c6 hint hE hX hl4 ⊢
    simp only [List.getElem_toArray, List.getElem_cons_zero, List.getElem_cons_succ] at c0 c1 c2 c3 c4 c6
    have HQ := Lib.hid (And.intro hsat (And.intro hcon (And.intro hint (And.intro hE (And.intro hX hb)))))
    clear hsat hcon hint hE hX hb hmem hpre htr hvr hc hd hdm hvc hk hm
    go_enter Try.func64, Try.ntmps64
    go_wp2_with fail
    go_still_tail 8, (by kernel_rfl)
    obtain ⟨g1, g2, g3, g4, g5, g6⟩ := HQ.out
    have hbd : Below W.heap.size W W.drew := below_drewN (Below.refl _ _) 1
    go_wp2_with fail
    refine (ssatisfies _ c _ _ _ t W.drew (ConR.on g2 hbd) (IntR.on g3 hbd) g1).mono ?_
    rintro e W3 ⟨rfl, hb3⟩
    have HQ3 := Lib.hid (And.intro (bgo g6 (bgo hbd hb3)) (And.intro (g4.below_ (bgo hbd hb3) g4.lt) (g5.on (bgo hbd hb3))))
    clear g1 g2 g3 g4 g5 g6 hbd hb3 HQ
    go_wp2_with fail
    go_ret
    exact ⟨ret_bool (by simp), HQ3.out.1, HQ3.out.2.1, HQ3.out.2.2⟩
  | succ r ih =>
    intro t W htr hpre hb hE hX
    obtain ⟨k, hk⟩ : ∃ k, t.length = k := ⟨_, rfl⟩
    have hkm : k < m := by omega
    have hkm' : ((k : Int) == (m : Int)) = false := by simp; omega
    obtain ⟨vb, vo, v, hva, hvb, hvk, hvc2⟩ := hvr.at_ hkm
    obtain ⟨hv0, hvn⟩ := hv2 v (List.mem_of_getElem? hvk)
    obtain ⟨vn, rfl⟩ : ∃ vn : Nat, v = (vn : Int) := ⟨v.toNat, by omega⟩
    obtain ⟨ab, ao, d, hA, hab, hdk, hdc⟩ := hd.at_ (k := vn) (by omega)
    subst hva hA
    have hws : (wordF c.vars ds)[t.length]? = some d := word_mem (by rw [hk]; exact hvk) (by rw [Int.toNat_natCast]; exact hdk)
    have hd63 := hdm d (List.mem_of_getElem? hdk)
    have HWS := Lib.hid hws
    have HPRE := Lib.hid hpre
    have HK := Lib.hid hk
    have HTR := Lib.hid htr
    have HHV := Lib.hid (show vn < n from by omega)
    have hE1 := hE.at_ 1 rfl
    have hE6 := hE.at_ 6 rfl
    simp only [List.getElem_toArray, List.getElem_cons_zero, List.getElem_cons_succ] at hE1 hE6
    have HB := Lib.hid hb
    have HE := Lib.hid hE
    have HX := Lib.hid hX
    have hvn2 : vn < n := by omega
    have hm4 : m ≤ 4 := by omega
    have hw0s := hb.size
    rw [hk]
    clear hws hpre hk htr hvk hdk hvr hc hd hdm hvc hv1 hv2 hv3 hb hE hX hv0 hvn
    go_enter Try.func64, Try.ntmps64
    go_wp2_with fail
    clear hE1 hE6
    go_loopw [5] (fun t5 wr => ∃ q : Nat, q ≤ 6 ∧ t5 = .int .i64 q ∧ Hid ((belK (wordF c.vars ds) t d q).all (satF c) = true) ∧ Hid (Below w0.heap.size w0 wr) ∧ Hid (TBlk 79 wr bE #[.int .i64 c.kind, .slice (some ⟨vb, vo, none⟩) m cv, .slice aa c.args.length ca, .int .i64 c.bound, .slice ra c.rows.length cr, .slice (some ⟨ab, ao, none⟩) n cd, .slice (some ⟨gx, 0, none⟩) m m]) ∧ Hid (Front m wr gx t)) (fun t5 _ => 6 - (intOf t5).toNat)
    case atStart => exact ⟨0, by omega, rfl, by rw [belK_zero]; rfl, HB.out, HE.out, HX.out⟩
    case round =>
      obtain ⟨q, hq, rfl, hall, hbq, hEq, hXq⟩ := hrel
      clear HB HE HX
      by_cases hlt : q < 6
      · have e1 := hEq.out.at_ 1 rfl
        have e5 := hEq.out.at_ 5 rfl
        have e6 := hEq.out.at_ 6 rfl
        simp only [List.getElem_toArray, List.getElem_cons_zero, List.getElem_cons_succ] at e1 e5 e6
        have ev : wr.cell? ⟨vb, vo + k, none⟩ = some (.int .i64 vn) := (hbq.out.cell (p := ⟨vb, _, none⟩) hvb).trans hvc2
        have ed : wr.cell? ⟨ab, ao + vn, none⟩ = some (.int .i64 d) := (hbq.out.cell (p := ⟨ab, _, none⟩) hab).trans hdc
        have hdh : dhB d q = hasB d q := by unfold dhB; rw [inB_mk ⟨by omega, by omega⟩]; rfl
        cases hh : hasB d q
        · have HH := Lib.hid hh
          rw [hh] at hdh
          clear hh
          go_wp2_with fail
          go_still_tail 15, (by kernel_rfl)
          go_wp2_with fail
          refine (sdomainHas _ _ hd63.1 _).mono ?_
          rw [hdh]
          rintro e W3 ⟨rfl, rfl⟩
          have hbd : Below wr.heap.size wr wr.drew := below_drewN (Below.refl _ _) 1
          have HN := Lib.hid (And.intro (hbq.out.trans (hbd.mono hbq.out.size)) (And.intro (hEq.out.below_ hbd hEq.out.lt) (hXq.out.on hbd)))
          clear hbd
          go_wp2_with fail
          go_roundw
          case rel => exact ⟨q + 1, by omega, by go_num, by rw [belK_no HH.out]; exact hall.out, HN.out.1, HN.out.2.1, HN.out.2.2⟩
          case measure => simp [intOf]; omega
        · have HH := Lib.hid hh
          rw [hh] at hdh
          clear hh
          go_wp2_with fail
          go_still_tail 15, (by kernel_rfl)
          go_wp2_with fail
          refine (sdomainHas _ _ hd63.1 _).mono ?_
          rw [hdh]
          rintro e W3 ⟨rfl, rfl⟩
          have hbd : Below wr.heap.size wr wr.drew := below_drewN (Below.refl _ _) 1
          have hb3 := hbq.out.trans (hbd.mono hbq.out.size)
          have hE3 := hEq.out.below_ hbd hEq.out.lt
          have hX3 := hXq.out.on hbd
          have hgE : gx ≠ bE := by
            obtain ⟨cs, _, h2, _⟩ := hX3
            exact h2.ne hE3 (by decide)
          obtain ⟨u0, hu0⟩ := hX3.cell hkm
          have hf0 := hX3.frozen k
          have hX4 := hX3.push (by have := HK.out; omega) q
          rw [HK.out] at hX4
          have hE4 := hE3.far (j := k) (u := .int .i64 q) hgE.symm
          have hb4 := hb3.setCell (p := ⟨gx, k, none⟩) hg.2 (.int .i64 q)
          have hI := ih (t ++ [(q : Int)]) _ (by rw [List.length_append, List.length_singleton]; have := HTR.out; omega) (HPRE.out.push HWS.out (valsTo_has (by omega) (by omega) HH.out)) hb4 hE4 hX4
          have hlen : (((t ++ [(q : Int)]).length : Nat) : Int) = (k : Int) + 1 := by rw [List.length_append, List.length_singleton, HK.out]; omega
          rw [hlen] at hI
          have HI := Lib.hid hI
          have E6 := hE3.at_ 6 rfl
          simp only [List.getElem_toArray, List.getElem_cons_zero, List.getElem_cons_succ] at E6
          clear hbd hb3 hE3 hX3 hX4 hE4 hb4 hI hlen ih e1 e5 e6 ev ed
          go_wp2_with fail
          refine HI.out.mono ?_
          rintro e W5 ⟨rfl, hb5, hE5, hX5⟩
          have HN := Lib.hid (And.intro hb5 (And.intro hE5 hX5.pop))
          clear hb5 hE5 hX5 HI E6 hu0 hf0
          cases hres : (extT (wordF c.vars ds) (t ++ [(q : Int)])).all (satF c)
          · have HF := Lib.hid (ext_false HWS.out hlt HH.out hres)
            clear hres
            go_wp2_with fail
            go_ret
            exact ⟨ret_bool HF.out.symm, HN.out.1, HN.out.2.1, HN.out.2.2⟩
          · have HR := Lib.hid hres
            clear hres
            go_wp2_with fail
            go_roundw
            case rel => exact ⟨q + 1, by omega, by go_num, by rw [belK_yes HH.out, List.all_append, hall.out, HR.out]; rfl, HN.out.1, HN.out.2.1, HN.out.2.2⟩
            case measure => simp [intOf]; omega
      · obtain rfl : q = 6 := by omega
        go_wp2_with fail
        go_ret
        refine ⟨?_, hbq.out, hEq.out, hXq.out⟩
        have := hall.out
        rw [belK_six HWS.out] at this
        exact ret_bool this.symm
theorem make_blk1 {P : Program} (t e : TypeId) (i : TypeInfo) (z : Value) (ht : P.underlying t = some (.slice e)) (hi : P.info? e = some i) (hz : i.zero = some z) (hs : i.size = 1) (h1 : z.cells = #[z]) (n : Nat) (hb : i.bytes * n ≤ 281474976710656) (h63 : n ≤ maxLen) :
    ∃ Z : Array Value, Z.toList = List.replicate n z ∧ ∀ W : World, Sem.run P (Instr.makeSlice t (.int .i64 (n : Int)) (.int .i64 (n : Int))) W = .ok (.slice (some ⟨W.heap.size, 0, none⟩) n n) (W.alloc (.cells Z e)) := by
  refine ⟨madeCells z.cells (n * i.size), ?_, fun W => ?_⟩
  · rw [hs, Nat.mul_one, h1]; exact toList_madeCells_one _ _
  · have h := run_make (P := P) W t e i z ht hi hz .i64 .i64 (n : Int) (n : Int) (Int.natCast_nonneg _) (Int.le_refl _) (by rw [← Int.natCast_mul]; exact Int.ofNat_le.2 hb) (by unfold maxLen at h63; omega)
    simpa using h
set_option maxHeartbeats 8000000 in
theorem sIsEntailed (us : List Value) (c : Con) (A : Option Addr) (n d : Nat) (ds : List Int) (w : World) (h : ConR w w.heap.size us c) (hx : IntR w w.heap.size A n ds) :
    Calls Try.prog 27 #[.agg us.toArray, .slice A n d] w fun e w' => e = .returned (.bool (ientF c ds)) ∧ Below w.heap.size w w' := by
  obtain ⟨i0, hi0, hz0, hz1, hz2⟩ := info_parts info_int
  have hl := Lib.hid hx.len
  obtain ⟨va, aa, ra, cv, ca, cr, rfl, -⟩ := id h
  obtain ⟨wa, hwa⟩ : ∃ wa, wa = w.alloc (.cells #[.int .i64 c.kind, .slice va c.vars.length cv, .slice aa c.args.length ca, .int .i64 c.bound, .slice ra c.rows.length cr] 29) := ⟨_, rfl⟩
  have hb0 : Below w.heap.size w wa := by rw [hwa]; exact b_alloc _ _
  have ha : CBlk wa w.heap.size (.int .i64 c.kind) (.slice va c.vars.length cv) (.slice aa c.args.length ca) (.int .i64 c.bound) (.slice ra c.rows.length cr) := by rw [hwa]; exact CBlk.new w _ _ _ _ _
  have HC1 := Lib.hid (ConR.on h hb0)
  have GX := Lib.hid (IntR.on hx hb0)
  have HC0 := Lib.hid h
  have HX0 := Lib.hid hx
  have HA := Lib.hid ha
  obtain ⟨a0, a1, a2, a3, a4⟩ := ha.cells
  clear ha h hx
  go_enter Try.func27, Try.ntmps27
  go_wp2_with fail
  rw [← hwa]
  clear hwa
  refine (svalidDomainsF _ _ _ _ _ GX.out).mono ?_
  rintro e w' ⟨rfl, rfl⟩
  cases t0 : dokF ds
  · have HE := Lib.hid (show ientF c ds = false by unfold ientF; rw [t0]; rfl)
    clear t0
    go_wp2_with fail
    go_ret
    exact ⟨ret_bool HE.out.symm, hb0⟩
  obtain ⟨hl1, hl4, hdoms⟩ := dok_parts t0
  have HDM := Lib.hid hdoms
  rw [hl.out] at hl1 hl4
  have HD := Lib.hid t0
  clear t0 hdoms
  go_wp2_with fail
  refine (svalidConstraint _ c _ _ HC1.out).mono ?_
  rintro e w2 ⟨rfl, hb2⟩
  have HA2 := Lib.hid (HA.out.below hb2 HA.out.lt)
  have hsw : w.heap.size < w2.heap.size := HA2.out.lt
  have HB2 := Lib.hid (bgo hb0 hb2)
  obtain ⟨d0, d1, d2, d3, d4⟩ := HA2.out.cells
  clear a0 a1 a2 a3 a4 hb2 HC1 GX HA hb0
  cases t0 : vconF c (n : Int)
  · have HE := Lib.hid (show ientF c ds = false by unfold ientF; rw [hl.out, t0]; simp)
    clear t0
    go_wp2_with fail
    go_ret
    exact ⟨ret_bool HE.out.symm, HB2.out⟩
  have HIE := Lib.hid (show ientF c ds = entF c ds by unfold ientF; rw [hl.out, t0, HD.out]; simp)
  have HV := Lib.hid t0
  have hvp := Lib.hid (vcon_vars t0 hl4)
  obtain ⟨m, hm⟩ : ∃ m, c.vars.length = m := ⟨_, rfl⟩
  have hm4 : m ≤ 4 := by have := hvp.out.1; omega
  obtain ⟨Z, hZ, hmk⟩ := make_blk1 (P := Try.prog) 22 3 i0 _ Try.underlying22 hi0 hz0 hz1 rfl m (by rw [hz2]; omega) (by unfold maxLen; omega)
  have HZ := Lib.hid hZ
  have HM := Lib.hid hm
  rw [hm] at d1
  clear t0 hm hZ
  go_wp2_with fail
  have hSk : ∀ w', Below w2.heap.size w2 w' → w'.cell? ⟨w.heap.size, 0, none⟩ = some (.int .i64 c.kind) ∧ w'.cell? ⟨w.heap.size, 1, none⟩ = some (.slice va m cv) ∧ w'.cell? ⟨w.heap.size, 2, none⟩ = some (.slice aa c.args.length ca) ∧ w'.cell? ⟨w.heap.size, 3, none⟩ = some (.int .i64 c.bound) ∧ w'.cell? ⟨w.heap.size, 4, none⟩ = some (.slice ra c.rows.length cr) :=
    fun w' hb => ⟨(hb.cell (p := ⟨_, _, none⟩) hsw).trans d0, (hb.cell (p := ⟨_, _, none⟩) hsw).trans d1, (hb.cell (p := ⟨_, _, none⟩) hsw).trans d2, (hb.cell (p := ⟨_, _, none⟩) hsw).trans d3, (hb.cell (p := ⟨_, _, none⟩) hsw).trans d4⟩
  refine wp_region_held_drew (S := fun w' => w'.cell? ⟨w.heap.size, 0, none⟩ = some (.int .i64 c.kind) ∧ w'.cell? ⟨w.heap.size, 1, none⟩ = some (.slice va m cv) ∧ w'.cell? ⟨w.heap.size, 2, none⟩ = some (.slice aa c.args.length ca) ∧ w'.cell? ⟨w.heap.size, 3, none⟩ = some (.int .i64 c.bound) ∧ w'.cell? ⟨w.heap.size, 4, none⟩ = some (.slice ra c.rows.length cr)) (by kernel_rfl) (hSk _ (below_drewN (Below.refl _ _) 1)) (fun hHeld => ?_)
  refine wpAnyH_take (i := 0) (oi := { dst := _, op := _, type := _, pos := _, after := _, guard := _ }) (v := ?v0) rfl (by kernel_rfl) (by kernel_rfl) (by kernel_rfl) (fun _ _ _ h => h) (Or.inl ⟨by rfl, ?y0⟩) hHeld ?r0
  case y0 => (intro w hSw; (try dsimp only at hSw); go_simp; try with_reducible rfl)
  try simp only [Act.put, List.setIfInBounds_toArray, List.set_cons_zero, List.set_cons_succ]
  refine wpAnyH_take (i := 1) (oi := { dst := _, op := _, type := _, pos := _, after := _, guard := _ }) (v := ?v1) rfl (by kernel_rfl) (by kernel_rfl) (by kernel_rfl) (fun _ _ _ h => h) (Or.inl ⟨by rfl, ?y1⟩) hHeld ?r1
  case y1 => (intro w hSw; (try dsimp only at hSw); go_simp; try with_reducible rfl)
  try simp only [Act.put, List.setIfInBounds_toArray, List.set_cons_zero, List.set_cons_succ]
  refine wpAnyH_take (i := 2) (oi := { dst := _, op := _, type := _, pos := _, after := _, guard := _ }) (v := ?v2) rfl (by kernel_rfl) (by kernel_rfl) (by kernel_rfl) (fun _ _ _ h => h) (Or.inl ⟨by rfl, ?y2⟩) hHeld ?r2
  case y2 => (intro w hSw; (try dsimp only at hSw); go_simp; try with_reducible rfl)
  try simp only [Act.put, List.setIfInBounds_toArray, List.set_cons_zero, List.set_cons_succ]
  refine wpAnyH_take (i := 3) (oi := { dst := _, op := _, type := _, pos := _, after := _, guard := _ }) (v := ?v3) rfl (by kernel_rfl) (by kernel_rfl) (by kernel_rfl) (fun _ _ _ h => h) (Or.inl ⟨by rfl, ?y3⟩) hHeld ?r3
  case y3 => (intro w hSw; (try dsimp only at hSw); go_simp; try with_reducible rfl)
  try simp only [Act.put, List.setIfInBounds_toArray, List.set_cons_zero, List.set_cons_succ]
  refine wpAnyH_take (i := 4) (oi := { dst := _, op := _, type := _, pos := _, after := _, guard := _ }) (v := ?v4) rfl (by kernel_rfl) (by kernel_rfl) (by kernel_rfl) (fun _ _ _ h => h) (Or.inl ⟨by rfl, ?y4⟩) hHeld ?r4
  case y4 => (intro w hSw; (try dsimp only at hSw); go_simp; try with_reducible rfl)
  try simp only [Act.put, List.setIfInBounds_toArray, List.set_cons_zero, List.set_cons_succ]
  refine wpAnyH_ready (rs := [5]) (by kernel_rfl) (by simp) ?_
  refine AllReadyH.cons (o := { dst := _, op := _, type := _, pos := _, after := _, guard := _ }) rfl (fun K hK => ?_) AllReadyH.nil
  go_simp
  refine hK.out _ _ ?_ (fun hHeld => ?_)
  · exact hSk _ (below_drewN (b_alloc _ _) 1)
  clear hK K
  try simp only [Act.put, List.setIfInBounds_toArray, List.set_cons_zero, List.set_cons_succ]
  refine wpAnyH_take (i := 6) (oi := { dst := _, op := _, type := _, pos := _, after := _, guard := _ }) (v := ?v6) rfl (by kernel_rfl) (by kernel_rfl) (by kernel_rfl) (fun _ _ _ h => h) (Or.inl ⟨by rfl, ?y6⟩) hHeld ?r6
  case y6 => (intro w hSw; (try dsimp only at hSw); go_simp; try with_reducible rfl)
  try simp only [Act.put, List.setIfInBounds_toArray, List.set_cons_zero, List.set_cons_succ]
  refine wpAnyH_ready (rs := [7]) (by kernel_rfl) (by simp) ?_
  refine AllReadyH.cons (o := { dst := _, op := _, type := _, pos := _, after := _, guard := _ }) rfl (fun K hK => ?_) AllReadyH.nil
  go_simp
  refine hK.out _ _ ?_ (fun hHeld => ?_)
  · exact hSk _ (below_drewN ((b_alloc _ _).alloc (by simp) _) 1)
  clear hK K
  try simp only [Act.put, List.setIfInBounds_toArray, List.set_cons_zero, List.set_cons_succ]
  refine wpAnyH_take (i := 8) (oi := { dst := _, op := _, type := _, pos := _, after := _, guard := _ }) (v := ?v8) rfl (by kernel_rfl) (by kernel_rfl) (by kernel_rfl) (fun _ _ _ h => h) (Or.inl ⟨by rfl, ?y8⟩) hHeld ?r8
  case y8 => (intro w hSw; (try dsimp only at hSw); go_simp; try with_reducible rfl)
  try simp only [Act.put, List.setIfInBounds_toArray, List.set_cons_zero, List.set_cons_succ]
  refine wpAnyH_done (by kernel_rfl) ?_ _
  go_wp2_with fail
  have hZs : Z.size = m := by rw [← Array.length_toList, HZ.out, List.length_replicate]
  have hI := sall (w2.heap.size + 1) w2.heap.size m n d c va aa ra cv ca cr ds A w2 (ConR.on HC0.out HB2.out) (IntR.on HX0.out HB2.out) HDM.out HV.out hl4 HM.out ⟨by omega, Nat.le_refl _⟩ m [] _ (by simp) (fun j d v _ hv => by simp at hv)
    (below_drewN ((b_alloc w2 (.cells Z 3)).alloc (by simp) (.cells #[.int .i64 c.kind, .slice va m cv, .slice aa c.args.length ca, .int .i64 c.bound, .slice ra c.rows.length cr, .slice A n d, .slice (some ⟨w2.heap.size, 0, none⟩) m m] 79)) 1)
    ((TBlk.newAt (by simp)).drewN_ 1) ⟨Z, hZs, ((TBlk.newAt rfl).alloc_ _).drewN_ 1, fun j x hj => by simp at hj⟩
  have HI := Lib.hid hI
  clear hI hHeld hSk hmk d0 d1 d2 d3 d4 hZs
  refine HI.out.mono ?_
  rintro e w5 ⟨rfl, hb5, -, -⟩
  have HB5 := Lib.hid (bgo HB2.out hb5)
  have HR := Lib.hid (show (extT (wordF c.vars ds) []).all (satF c) = ientF c ds by rw [HIE.out, extT_nil]; rfl)
  clear hb5 HI
  go_wp2_with fail
  go_ret
  exact ⟨ret_bool HR.out, HB5.out⟩
end Go.Proofs.Ytfmdgdamelkelaa
/- impl's filter. -/
namespace Go.Proofs.Ytfmdgdamelkelaa
open Go.ChangeShapes Go.WideShapes Go.ChangeAt Go.RowKit
open Go.Shelf
set_option linter.unusedVariables false
set_option maxRecDepth 100000
attribute [local go_sem] Oper.semAt_some

/-- Numbers in memory as what an append takes. -/
theorem IntR.srcF {w : World} {B n c : Nat} {A : Option Addr} {xs : List Int} (h : IntR w B A n xs) (h0 : 0 < n) : Src w 1 A n c (xs.map (.int .i64)) := by
  obtain ⟨h1, -, h2⟩ := h
  obtain ⟨b, o, rfl, hb, hc⟩ := h2 h0
  refine .inr ⟨_, rfl, by rw [List.length_map, h1]; omega, fun j u hj => ?_⟩
  rw [List.getElem?_map] at hj
  cases hx : xs[j]? with
  | none => rw [hx] at hj; cases hj
  | some x =>
    rw [hx] at hj
    obtain ⟨u', hu, he⟩ := hc j x hx
    simp only [Option.map_some, Option.some.injEq] at hj
    rw [← hj, Addr.add_lit]
    rw [hu, he]
set_option maxHeartbeats 4000000 in
theorem scopyRF (A : Option Addr) (n c : Nat) (xs : List Int) (w : World) (h : IntR w w.heap.size A n xs) (h0 : 0 < n) (hn : n ≤ 1048576) :
    Calls Try.prog 116 #[.slice A n c] w fun e w' => ∃ v', e = .returned v' ∧ OwnI 3 w' w.heap.size v' xs ∧ Below w.heap.size w w' := by
  obtain ⟨i0, hi0, hz0, hz1, hz2⟩ := info_parts info_int
  have hl := Lib.hid h.len
  have ol : (w.alloc (.cells #[] 3)).ownsRow w.heap.size 3 1 (.slice (some ⟨w.heap.size, 0, none⟩) 0 0) 0 [] := World.ownsRow_lit w #[] 0 (Nat.le_refl _) (by decide) rfl
  have hs : Src (w.alloc (.cells #[] 3)) 1 A n c (xs.map (.int .i64)) := (IntR.on h (b_alloc w (.cells #[] 3))).srcF h0
  clear h
  go_enter Try.func116, Try.ntmps116
  go_wp2_with (at_builtin; refine wpList_append_any rfl _ _ 22 rfl w.heap.size 3 i0 _ 1 8 Try.underlying22 hi0 hz0 hz1 hz2 rfl (by decide) (.slice (some ⟨w.heap.size, 0, none⟩) 0 0) _ _ rfl ol _ _ _ _ rfl hs (by simp [Value.oneCell']) (by unfold maxLen; omega) (by omega) (by rw [size_alloc_]; omega) ?_; intro v1 w1 ho1 hb1 _ _)
  have ho2 : OwnI 3 w1 w.heap.size v1 xs := ⟨by rw [hl.out]; simpa using ho1, by rw [hl.out]; omega⟩
  go_ret
  exact ⟨v1, rfl, ho2, (b_alloc _ _).trans hb1⟩
set_option maxHeartbeats 4000000 in
theorem cloneRF (A : Option Addr) (n c : Nat) (xs : List Int) (w : World) (h : IntR w w.heap.size A n xs) (h0 : 0 < n) (hn : n ≤ 1048576) :
    Calls Try.prog 90 #[.slice A n c] w fun e w' => ∃ v', e = .returned v' ∧ OwnI 3 w' w.heap.size v' xs ∧ Below w.heap.size w w' := by
  obtain ⟨i0, hi0, hz0, hz1, hz2⟩ := info_parts info_int
  have hl := Lib.hid h.len
  have ol : (w.alloc (.cells #[] 3)).ownsRow w.heap.size 3 1 (.slice (some ⟨w.heap.size, 0, none⟩) 0 0) 0 [] := World.ownsRow_lit w #[] 0 (Nat.le_refl _) (by decide) rfl
  have hs : Src (w.alloc (.cells #[] 3)) 1 A n c (xs.map (.int .i64)) := (IntR.on h (b_alloc w (.cells #[] 3))).srcF h0
  obtain ⟨b, o, rfl, -⟩ := h.2.2 h0
  clear h
  have q22 : ∀ (w : World) (a : Option Addr) (n c n' c' : Nat), (binOp .eql 22 (.slice a n c) (.slice none n' c')).run Try.prog w = .ok (.bool a.isNone) w := fun w a n c n' c' => Lib.run_eql_slice_nil w _ _ a n c n' c' Try.underlying22
  have u22 : ∀ w, Sem.run Try.prog (underlying 22) w = .ok (TypeDesc.slice 3) w := run_underlying Try.underlying22
  go_enter Try.func90, Try.ntmps90
  go_wp2_with (at_builtin; refine wpList_append_any rfl _ _ 22 rfl w.heap.size 3 i0 _ 1 8 Try.underlying22 hi0 hz0 hz1 hz2 rfl (by decide) (.slice (some ⟨w.heap.size, 0, none⟩) 0 0) _ _ rfl ol _ _ _ _ rfl hs (by simp [Value.oneCell']) (by unfold maxLen; omega) (by omega) (by rw [size_alloc_]; omega) ?_; intro v1 w1 ho1 hb1 _ _)
  have ho2 : OwnI 3 w1 w.heap.size v1 xs := ⟨by rw [hl.out]; simpa using ho1, by rw [hl.out]; omega⟩
  go_ret
  exact ⟨v1, rfl, ho2, (b_alloc _ _).trans hb1⟩
theorem updTo_at2 {acc t : List Int} {k : Nat} {v : Int} (hl : acc.length = t.length) (hv : t[k]? = some v) : ∃ a, acc[k]? = some a ∧ (updTo acc t k)[k]? = some a := by
  have hk : k < t.length := by
    rcases Nat.lt_or_ge k t.length with h | h
    · exact h
    · rw [List.getElem?_eq_none h] at hv; cases hv
  exact ⟨_, List.getElem?_eq_getElem (by omega), updTo_at hl (List.getElem?_eq_getElem (by omega))⟩
theorem HoldR.put_ {w : World} {base n size l : Nat} {e : TypeId} {v : Value} {xs : List Value} {o o' : Obj} (h : HoldR w base e size v n xs) (hl : w.heap[l]? = some o) (ho : o.isCells = false) : HoldR (w.putObj l o') base e size v n xs :=
  ⟨h.1, h.2.imp id fun ⟨g, cap, cur, h1, h2, h3, r⟩ => ⟨g, cap, cur, h1, h2, TBlk.put_ (t := e) h3 hl ho, r⟩⟩
theorem putTo_succ {ds vars sup : List Int} {k v : Nat} {a : Int} (hv : vars[k]? = some (v : Int)) (ha : sup[k]? = some a) : putTo ds vars sup (k + 1) = (putTo ds vars sup k).set v a := by
  rw [putTo, gat_eq hv, gat_eq ha, Int.toNat_natCast]
theorem filF_len (c : Con) (ds : List Int) : (filF c ds).length = ds.length := putTo_len _ _ _ _
theorem wrap_pow6 : ∀ a : Fin 6, IntKind.i64.wrap (2 ^ (a.val : Int).toNat) = 2 ^ (a.val : Int).toNat := by decide +kernel
theorem wrap_pow {v : Int} (h0 : 0 ≤ v) (h1 : v ≤ 5) : IntKind.i64.wrap (2 ^ v.toNat) = 2 ^ v.toNat := by
  obtain ⟨a, rfl⟩ := fin6 h0 h1
  exact wrap_pow6 a
/-- what Filter gives. -/
def filtF (c : Con) (ds : List Int) : List Int := if dokF ds && vconF c ds.length then filF c ds else []
theorem filtF_len (c : Con) (ds : List Int) : (filtF c ds).length ≤ 4 := by
  unfold filtF
  split
  · rename_i h
    simp only [Bool.and_eq_true] at h
    rw [filF_len]; exact (dok_parts h.1).2.1
  · simp
end Go.Proofs.Ytfmdgdamelkelaa
/- spec's tuples. -/
namespace Go.Proofs.Ytfmdgdamelkelaa
open Go.ChangeShapes Go.WideShapes Go.ChangeAt Go.RowKit
open Go.Shelf
set_option linter.unusedVariables false
set_option maxRecDepth 100000
attribute [local go_sem] Oper.semAt_some

/-- what lies at or above B stays. -/
def Hi (B : Nat) (W W' : World) : Prop := W.heap.size ≤ W'.heap.size ∧ ∀ b, B ≤ b → b < W.heap.size → W'.heap[b]? = W.heap[b]?
theorem Hi.of_below {B : Nat} {W W' : World} (h : Below W.heap.size W W') : Hi B W W' := ⟨h.size, fun b _ hb => h.block b hb⟩
theorem Hi.set {B g j : Nat} (W : World) (u : Value) (hg : g < B) : Hi B W (W.setCell ⟨g, j, none⟩ u) := ⟨by simp, fun b h1 _ => Below.heap_setCell W ⟨g, j, none⟩ u b (by show b ≠ g; omega)⟩
theorem Hi.trans {B : Nat} {W W1 W2 : World} (h : Hi B W W1) (k : Hi B W1 W2) : Hi B W W2 := ⟨Nat.le_trans h.1 k.1, fun b h1 h2 => (k.2 b h1 (Nat.lt_of_lt_of_le h2 h.1)).trans (h.2 b h1 h2)⟩
theorem own_hi {W W' : World} {B n size : Nat} {e : TypeId} {v : Value} {xs : List Value} (h : W.ownsRow B e size v n xs) (k : Hi B W W') : W'.ownsRow B e size v n xs :=
  ⟨h.1, h.2.imp id fun ⟨g, cap, cur, h1, h2, h3, r⟩ => ⟨g, cap, cur, h1, h2, (k.2 g h2 (Array.getElem?_eq_some_iff.1 h3).1).trans h3, r⟩⟩
/-- the tuples found so far. -/
abbrev FoundS (W : World) (B : Nat) (v : Value) (fs : List (List Int)) : Prop := OwnOf 22 (OwnI 3) W B v fs
theorem FoundS.hi {W W' : World} {B : Nat} {v : Value} {fs : List (List Int)} (h : FoundS W B v fs) (k : Hi B W W') : FoundS W' B v fs := by
  obtain ⟨us, h1, h2, h3, h4⟩ := h
  exact ⟨us, h1, own_hi h2 k, h3, fun i u x hu hx => ⟨own_hi (h4 i u x hu hx).1 k, (h4 i u x hu hx).2⟩⟩
theorem FoundS.nil (W : World) (B : Nat) : FoundS W B (.slice none 0 0) [] := ⟨[], rfl, World.ownsRow_nil _ _ _ _, by simp, fun i u x hu => by simp at hu⟩
theorem grown_low {W W' : World} {B n size b : Nat} {e : TypeId} {v : Value} {xs : List Value} (h : W.ownsRow B e size v n xs) (hg : W.grownBy W' v.ownBlock) (hb : b < B) (hs : b < W.heap.size) : W'.heap[b]? = W.heap[b]? :=
  hg.block b hs (fun e => by have := (h.lt b e.symm).1; omega)
theorem vals_le (d : Int) : ∀ k, (valsTo d k).length ≤ k
  | 0 => by simp [valsTo]
  | k + 1 => by have := vals_le d k; rw [valsTo, List.length_append]; split <;> simp <;> omega
theorem flat_le6 {α : Type} (f : α → List (List Int)) (b : Nat) : ∀ l : List α, (∀ x ∈ l, (f x).length ≤ b) → (l.flatMap f).length ≤ l.length * b
  | [], _ => by simp
  | x :: l, h => by
    have h1 := h x (by simp)
    have h2 := flat_le6 f b l fun y hy => h y (by simp [hy])
    rw [List.flatMap_cons, List.length_append, List.length_cons, Nat.succ_mul]; omega
theorem allT_le : ∀ ds : List Int, (allT ds).length ≤ 6 ^ ds.length
  | [] => by simp [allT]
  | d :: ds => by
    have h := flat_le6 (fun v => (allT ds).map (v :: ·)) (6 ^ ds.length) (valsTo d 6) fun v _ => by rw [List.length_map]; exact allT_le ds
    have hv := vals_le d 6
    rw [allT, List.length_cons, Nat.pow_succ]
    have := Nat.mul_le_mul_right (6 ^ ds.length) hv
    omega
theorem extT_le {ws t : List Int} {r : Nat} (h : ws.length = t.length + r) : (extT ws t).length ≤ 6 ^ r := by
  unfold extT
  rw [List.length_map]
  have := allT_le (ws.drop t.length)
  rwa [List.length_drop, show ws.length - t.length = r by omega] at this
theorem belK_le {ws t : List Int} {r : Nat} (h : ws.length = t.length + (r + 1)) (d : Int) (k : Nat) : (belK ws t d k).length ≤ k * 6 ^ r := by
  have := flat_le6 (fun u => extT ws (t ++ [u])) (6 ^ r) (valsTo d k) fun u _ => extT_le (by simp; omega)
  exact Nat.le_trans this (Nat.mul_le_mul_right _ (vals_le d k))
set_option maxHeartbeats 16000000 in
theorem stwalk (bE gx B m n cd : Nat) (c : Con) (va aa ra : Option Addr) (cv ca cr : Nat) (ds : List Int) (A : Option Addr) (w0 : World) (hc : ConR w0 w0.heap.size [.int .i64 c.kind, .slice va c.vars.length cv, .slice aa c.args.length ca, .int .i64 c.bound, .slice ra c.rows.length cr] c)
    (hd : IntR w0 w0.heap.size A n ds) (hdm : Doms ds) (hvc : vconF c n = true) (h4 : n ≤ 4) (hm : c.vars.length = m) (hg : w0.heap.size ≤ bE ∧ w0.heap.size ≤ gx ∧ bE < B ∧ gx < B) :
    ∀ (r : Nat) (t : List Int) (fs : List (List Int)) (vf : Value) (W : World), t.length + r = m → PreDs (wordF c.vars ds) t → Below w0.heap.size w0 W → B ≤ W.heap.size →
      TBlk 92 W bE #[.int .i64 c.kind, .slice va m cv, .slice aa c.args.length ca, .int .i64 c.bound, .slice ra c.rows.length cr, .slice A n cd, .slice (some ⟨gx, 0, none⟩) m m, vf] → Front m W gx t → FoundS W B vf fs → fs.length + 6 ^ r ≤ 5000 →
      Calls Try.prog 85 #[.pointer (some ⟨bE, 0, none⟩), .int .i64 t.length] W fun e W' => (∃ v, e = .returned v) ∧ Below w0.heap.size w0 W' ∧ W.heap.size ≤ W'.heap.size ∧ ∃ vf' : Value,
        TBlk 92 W' bE #[.int .i64 c.kind, .slice va m cv, .slice aa c.args.length ca, .int .i64 c.bound, .slice ra c.rows.length cr, .slice A n cd, .slice (some ⟨gx, 0, none⟩) m m, vf'] ∧ Front m W' gx t ∧ FoundS W' B vf' (fs ++ (extT (wordF c.vars ds) t).filter (satF c)) := by
  obtain ⟨i1, hi1, hy0, hy1, hy2⟩ := info_parts (P := Try.prog) (e := 22) (z := .slice none 0 0) (size := 1) (bytes := 24) (by kernel_rfl)
  obtain ⟨hv1, hv2, hv3⟩ := vcon_vars hvc h4
  have hvr : IntR w0 w0.heap.size va m c.vars := by
    obtain ⟨va', aa', ra', cv', ca', cr', e, g1, g2, g3, -⟩ := hc
    injection e with e1 e2
    injection e2 with e2 e3
    injection e2 with e2 e4 e5
    subst e2
    rw [hm] at g1
    exact g1
  intro r
  induction r with
  | zero =>
    intro t fs vf W htr hpre hb hBW hE hX hF hfl
    obtain rfl : t.length = m := by omega
    have hmem := hpre.mem (by rw [wordF_len]; omega)
    have hsat := (sat_tup hvc h4 hmem).1
    rw [extT_full (by rw [wordF_len]; omega)]
    have hcon := ConR.on hc hb
    have hint := hX.intR rfl (by omega)
    have c0 := hE.at_ 0 rfl
    have c1 := hE.at_ 1 rfl
    have c2 := hE.at_ 2 rfl
    have c3 := hE.at_ 3 rfl
    have c4 := hE.at_ 4 rfl
    have c6 := hE.at_ 6 rfl
    have hl4 : t.length ≤ 4 := by omega
    obtain ⟨m, hk⟩ : ∃ k, t.length = k := ⟨_, rfl⟩
    rw [hm, hk] at hcon
    rw [hk] at c1 c6 hint hE hX hl4 ⊢
    simp only [List.getElem_toArray, List.getElem_cons_zero, List.getElem_cons_succ] at c0 c1 c2 c3 c4 c6
    have HQ := Lib.hid (And.intro hsat (And.intro hcon (And.intro hint (And.intro hE (And.intro hX (And.intro hF hb))))))
    have HTL := Lib.hid hk
    have hm1 : 1 ≤ m := by omega
    clear hsat hcon hint hE hX hb hmem hpre htr hvr hc hd hdm hvc hk hm hF
    go_enter Try.func85, Try.ntmps85
    go_wp2_with fail
    go_still_tail 8, (by kernel_rfl)
    go_wp2_with fail
    obtain ⟨g1, g2, g3, g4, g5, g7, g6⟩ := HQ.out
    have hbd : Below W.heap.size W W.drew := below_drewN (Below.refl _ _) 1
    refine (ssatisfies _ c _ _ _ t W.drew (ConR.on g2 hbd) (IntR.on g3 hbd) g1).mono ?_
    rintro e W3 ⟨rfl, hb3⟩
    have hs3 := (bgo hbd hb3).size
    have HQ3 := Lib.hid (And.intro (bgo g6 (bgo hbd hb3)) (And.intro (g4.below_ (bgo hbd hb3) g4.lt) (And.intro (g5.on (bgo hbd hb3)) (g7.hi (Hi.of_below (bgo hbd hb3))))))
    clear g1 g2 g3 g4 g5 g6 g7 hbd hb3 HQ c0 c1 c2 c3 c4 c6
    cases hst : satF c t
    · have HST := Lib.hid (show [t].filter (satF c) = [] by simp [hst])
      clear hst
      go_wp2_with fail
      refine bodyPost_ret (results_none rfl _ _ _) rfl ?_
      obtain ⟨g1, g2, g3, g4⟩ := HQ3.out
      exact ⟨⟨_, rfl⟩, g1, hs3, _, g2, g3, by rw [HST.out, List.append_nil]; exact g4⟩
    · have HST := Lib.hid (show [t].filter (satF c) = [t] by simp [hst])
      clear hst
      obtain ⟨g1, g2, g3, us, k1, k2, k3, k4⟩ := HQ3.out
      have hint3 := Lib.hid (IntR.on (g3.intR HTL.out hl4) (below_drewN (Below.refl W3.heap.size W3) 1))
      have d6 : W3.drew.cell? ⟨bE, 6, none⟩ = some (.slice (some ⟨gx, 0, none⟩) m m) := g2.at_ 6 rfl
      have d7 : W3.drew.cell? ⟨bE, 7, none⟩ = some vf := g2.at_ 7 rfl
      have hbd3 : Below W3.heap.size W3 W3.drew := below_drewN (Below.refl _ _) 1
      have hK2 := Lib.hid k2
      have hK4 := Lib.hid k4
      have hG2 := Lib.hid g2
      have hG3 := Lib.hid g3
      have hbE3 : bE < W3.heap.size := g2.lt
      have hfl' : fs.length ≤ 5000 := by omega
      have HB3 : Hid (B ≤ W3.drew.heap.size) := Lib.hid (Nat.le_trans hBW (Nat.le_trans hs3 hbd3.size))
      clear g2 g3 k2 k4 HQ3
      go_wp2_with fail
      go_region_law (first
        | (refine step_append_any (by rfl) _ _ 23 (by rfl) B 22 i1 _ 1 24 Try.underlying23 hi1 hy0 hy1 hy2 rfl (by omega) vf fs.length us (by rfl) ho6.out (some ⟨W6.heap.size, 0, none⟩) 1 [.slice A6 t.length c6] (by exact ⟨_, rfl, .inr ⟨_, rfl, rfl, cell_one_new _ _ _⟩⟩) (by simp [Value.oneCell']) (by unfold maxLen; omega) (by omega) (by rw [size_alloc_]; omega) ?_
           intro v1 W7 hown hbw hgr _
           obtain ⟨A7, c7, rfl⟩ := (HoldR.of_own hown).form
           have T7 : TBlk 92 W7 bE _ := (grown_low ho6.out hgr hg.2.2.1 (by rw [size_alloc_]; omega)).trans T6.out
           have e7 := T7.at_ 7 rfl
           have f7 := T7.frozen 7)
        | (go_simp
           go_at_call 116
           refine (scopyRF _ _ _ t _ hint3.out (by omega) (by omega)).mono ?_
           rintro e W6 ⟨v6, rfl, o6, hb6⟩
           obtain ⟨A6, c6, rfl, -⟩ := o6.read
           have bA := b_alloc W6 (.cells #[.slice A6 t.length c6] 22)
           have b36 := bgo hbd3 hb6
           have T6 := Lib.hid ((hG2.out.below_ b36 hbE3).alloc_ (.cells #[.slice A6 t.length c6] 22))
           have ho6 := Lib.hid (own_below (own_below hK2.out b36) bA)
           have d7b := fun o => ((hG2.out.below_ b36 hbE3).alloc_ o).at_ 7 rfl
           have d7c := (hG2.out.below_ b36 hbE3).at_ 7 rfl
           have z6 := b36.size))
      all_goals
        have hza : (W6.alloc (.cells #[.slice A6 t.length c6] 22)).heap.size = W6.heap.size + 1 := size_alloc_ _ _
        have hz7 := hgr.size
        have hsn : FoundS W7 B (.slice A7 (fs.length + 1) c7) (fs ++ [t]) := OwnRows.snoc (by decide) k1 ho6.out (fun i u x hu hx => by
          have k := hK4.out i u x hu hx
          exact ⟨own_below (own_below k.1 b36) bA, k.2⟩) (show OwnI 3 _ B (.slice A6 t.length c6) t from ⟨own_base (own_below o6.1 bA) HB3.out, o6.2⟩) (by omega) hown hgr
        have hBF : Below w0.heap.size w0 W7 := ((g1.trans (b36.mono g1.size)).trans (bA.mono (by have := g1.size; omega))).trans (hbw.mono (by omega))
        have hXF : Front m W7 gx t := by
          obtain ⟨cs, q1, q2, q3⟩ := (hG3.out.on b36).on bA
          exact ⟨cs, q1, (grown_low ho6.out hgr hg.2.2.2 q2.lt).trans q2, q3⟩
        have HFIN := Lib.hid (And.intro (hsn.hi (Hi.set (g := bE) (j := 7) W7 (.slice A7 (fs.length + 1) c7) hg.2.2.1)) (And.intro (hBF.setCell (p := ⟨bE, 7, none⟩) hg.1 (.slice A7 (fs.length + 1) c7)) (And.intro (T7.store 7 (.slice A7 (fs.length + 1) c7)) (show Front m (W7.setCell ⟨bE, 7, none⟩ (.slice A7 (fs.length + 1) c7)) gx t by
          obtain ⟨cs, q1, q2, q3⟩ := hXF
          exact ⟨cs, q1, q2.far (fun e => (T7.ne q2 (by decide)) e.symm), q3⟩))))
        have hzs : (W7.setCell ⟨bE, 7, none⟩ (.slice A7 (fs.length + 1) c7)).heap.size = W7.heap.size := by simp [World.setCell]
        have hzf : W.heap.size ≤ W7.heap.size := by omega
        clear hsn hBF hXF T7 e7 f7 hown hbw hgr d6 d7 b36 bA T6 ho6 o6 d7b d7c hb6
        go_wp2_with fail
        refine bodyPost_ret (results_none rfl _ _ _) rfl ?_
        obtain ⟨q1, q2, q3, q4⟩ := HFIN.out
        exact ⟨⟨_, rfl⟩, q2, by rw [hzs]; exact hzf, _, q3, q4, by rw [HST.out]; exact q1⟩
  | succ r ih =>
    intro t fs vf W htr hpre hb hBW hE hX hF hfl
    obtain ⟨k, hk⟩ : ∃ k, t.length = k := ⟨_, rfl⟩
    have hkm : k < m := by omega
    have hkm' : ((k : Int) == (m : Int)) = false := by simp; omega
    obtain ⟨vb, vo, v, hva, hvb, hvk, hvc2⟩ := hvr.at_ hkm
    obtain ⟨hv0, hvn⟩ := hv2 v (List.mem_of_getElem? hvk)
    obtain ⟨vn, rfl⟩ : ∃ vn : Nat, v = (vn : Int) := ⟨v.toNat, by omega⟩
    obtain ⟨ab, ao, d, hA, hab, hdk, hdc⟩ := hd.at_ (k := vn) (by omega)
    subst hva hA
    have hws : (wordF c.vars ds)[t.length]? = some d := word_mem (by rw [hk]; exact hvk) (by rw [Int.toNat_natCast]; exact hdk)
    have hd63 := hdm d (List.mem_of_getElem? hdk)
    have hwl : (wordF c.vars ds).length = t.length + (r + 1) := by rw [wordF_len]; omega
    have HBL := Lib.hid (fun q => belK_le hwl d q)
    have HWS := Lib.hid hws
    have HPRE := Lib.hid hpre
    have HK := Lib.hid hk
    have HTR := Lib.hid htr
    have HHV := Lib.hid (show vn < n from by omega)
    have hE1 := hE.at_ 1 rfl
    have hE6 := hE.at_ 6 rfl
    simp only [List.getElem_toArray, List.getElem_cons_zero, List.getElem_cons_succ] at hE1 hE6
    have HB := Lib.hid hb
    have HE := Lib.hid hE
    have HX := Lib.hid hX
    have HS := Lib.hid hF
    have HFL := Lib.hid hfl
    have hvn2 : vn < n := by omega
    have hm4 : m ≤ 4 := by omega
    have hw0s := hb.size
    rw [hk]
    clear hws hpre hk htr hvk hdk hvr hc hd hdm hvc hv1 hv2 hv3 hb hE hX hv0 hvn hF hwl hfl
    go_enter Try.func85, Try.ntmps85
    go_wp2_with fail
    clear hE1 hE6
    go_loopw [4] (fun t4 wr => ∃ (q : Nat) (vf : Value), q ≤ 6 ∧ t4 = .int .i64 q ∧ Hid (FoundS wr B vf (fs ++ (belK (wordF c.vars ds) t d q).filter (satF c))) ∧ Hid (Below w0.heap.size w0 wr) ∧ Hid (W.heap.size ≤ wr.heap.size) ∧ Hid (TBlk 92 wr bE #[.int .i64 c.kind, .slice (some ⟨vb, vo, none⟩) m cv, .slice aa c.args.length ca, .int .i64 c.bound, .slice ra c.rows.length cr, .slice (some ⟨ab, ao, none⟩) n cd, .slice (some ⟨gx, 0, none⟩) m m, vf]) ∧ Hid (Front m wr gx t)) (fun t4 _ => 6 - (intOf t4).toNat)
    case atStart => exact ⟨0, vf, by omega, rfl, Lib.hid (by rw [belK_zero]; simpa using HS.out), HB.out, Lib.hid (Nat.le_refl _), HE.out, HX.out⟩
    case round =>
      obtain ⟨q, vq, hq, rfl, hall, hbq, hzq, hEq, hXq⟩ := hrel
      clear HB HE HX HS
      by_cases hlt : q < 6
      · have e1 := hEq.out.at_ 1 rfl
        have e5 := hEq.out.at_ 5 rfl
        have e6 := hEq.out.at_ 6 rfl
        simp only [List.getElem_toArray, List.getElem_cons_zero, List.getElem_cons_succ] at e1 e5 e6
        have ev : wr.cell? ⟨vb, vo + k, none⟩ = some (.int .i64 vn) := (hbq.out.cell (p := ⟨vb, _, none⟩) hvb).trans hvc2
        have ed : wr.cell? ⟨ab, ao + vn, none⟩ = some (.int .i64 d) := (hbq.out.cell (p := ⟨ab, _, none⟩) hab).trans hdc
        have hdh : dhB d q = hasB d q := by unfold dhB; rw [inB_mk ⟨by omega, by omega⟩]; rfl
        cases hh : hasB d q
        · have HH := Lib.hid hh
          rw [hh] at hdh
          clear hh
          go_wp2_with fail
          go_still_tail 15, (by kernel_rfl)
          go_wp2_with fail
          refine (sdomainHas _ _ hd63.1 _).mono ?_
          rw [hdh]
          rintro e W3 ⟨rfl, rfl⟩
          have hbd : Below wr.heap.size wr wr.drew := below_drewN (Below.refl _ _) 1
          have HN := Lib.hid (And.intro (hbq.out.trans (hbd.mono hbq.out.size)) (And.intro (hEq.out.below_ hbd hEq.out.lt) (And.intro (hXq.out.on hbd) (hall.out.hi (Hi.of_below hbd)))))
          clear hbd
          go_wp2_with fail
          go_roundw
          case rel => exact ⟨q + 1, vq, by omega, by go_num, Lib.hid (by rw [belK_no HH.out]; exact HN.out.2.2.2), HN.out.1, hzq, HN.out.2.1, HN.out.2.2.1⟩
          case measure => simp [intOf]; omega
        · have HH := Lib.hid hh
          rw [hh] at hdh
          clear hh
          go_wp2_with fail
          go_still_tail 15, (by kernel_rfl)
          go_wp2_with fail
          refine (sdomainHas _ _ hd63.1 _).mono ?_
          rw [hdh]
          rintro e W3 ⟨rfl, rfl⟩
          have hbd : Below wr.heap.size wr wr.drew := below_drewN (Below.refl _ _) 1
          have hb3 := hbq.out.trans (hbd.mono hbq.out.size)
          have hE3 := hEq.out.below_ hbd hEq.out.lt
          have hX3 := hXq.out.on hbd
          have hF3 := (hall.out.hi (Hi.of_below hbd)).hi (Hi.set (j := k) wr.drew (.int .i64 q) hg.2.2.2)
          have hgE : gx ≠ bE := by
            obtain ⟨cs, _, h2, _⟩ := hX3
            exact h2.ne hE3 (by decide)
          obtain ⟨u0, hu0⟩ := hX3.cell hkm
          have hf0 := hX3.frozen k
          have hX4 := hX3.push (by have := HK.out; omega) q
          rw [HK.out] at hX4
          have hE4 := hE3.far (j := k) (u := .int .i64 q) hgE.symm
          have hb4 := hb3.setCell (p := ⟨gx, k, none⟩) hg.2.1 (.int .i64 q)
          have hzz : (wr.drew.setCell ⟨gx, k, none⟩ (.int .i64 q)).heap.size = wr.heap.size := by simp [World.setCell]
          have hln : (fs ++ (belK (wordF c.vars ds) t d q).filter (satF c)).length + 6 ^ r ≤ 5000 := by
            have h1 := List.length_filter_le (satF c) (belK (wordF c.vars ds) t d q)
            have h2 := HBL.out q
            have h3 := HFL.out
            have h4 : q * 6 ^ r ≤ 5 * 6 ^ r := Nat.mul_le_mul_right _ (by omega)
            rw [List.length_append]
            rw [Nat.pow_succ] at h3
            omega
          have hI := ih (t ++ [(q : Int)]) (fs ++ (belK (wordF c.vars ds) t d q).filter (satF c)) vq _ (by rw [List.length_append, List.length_singleton]; have := HTR.out; omega) (HPRE.out.push HWS.out (valsTo_has (by omega) (by omega) HH.out)) hb4 (by rw [hzz]; have := hzq.out; omega) hE4 hX4 hF3 hln
          rw [hzz] at hI
          have hlen : (((t ++ [(q : Int)]).length : Nat) : Int) = (k : Int) + 1 := by rw [List.length_append, List.length_singleton, HK.out]; omega
          rw [hlen] at hI
          have HI := Lib.hid hI
          have E6 := hE3.at_ 6 rfl
          simp only [List.getElem_toArray, List.getElem_cons_zero, List.getElem_cons_succ] at E6
          clear hbd hb3 hE3 hX3 hF3 hX4 hE4 hb4 hI hlen ih e1 e5 e6 ev ed hzz hln
          go_wp2_with fail
          refine HI.out.mono ?_
          rintro e W5 ⟨⟨v5, rfl⟩, hb5, hz5, vq5, hE5, hX5, hF5⟩
          have HN := Lib.hid (And.intro hb5 (And.intro hE5 (And.intro hX5.pop hF5)))
          have HZ5 : Hid (W.heap.size ≤ W5.heap.size) := Lib.hid (Nat.le_trans hzq.out hz5)
          clear hb5 hE5 hX5 HI E6 hu0 hf0 hF5 hz5
          go_wp2_with fail
          go_roundw
          case rel => exact ⟨q + 1, vq5, by omega, by go_num, Lib.hid (by rw [belK_yes HH.out, List.filter_append, ← List.append_assoc]; exact HN.out.2.2.2), HN.out.1, HZ5, HN.out.2.1, HN.out.2.2.1⟩
          case measure => simp [intOf]; omega
      · obtain rfl : q = 6 := by omega
        go_wp2_with fail
        refine bodyPost_end (results_none rfl _ _ _) rfl ?_
        have := hall.out
        rw [belK_six HWS.out] at this
        exact ⟨⟨_, rfl⟩, hbq.out, hzq.out, vq, hEq.out, hXq.out, this⟩
end Go.Proofs.Ytfmdgdamelkelaa
/- What BuildDiagram gives. No program in sight. -/
namespace Go.Proofs.Ytfmdgdamelkelaa
set_option linter.unusedVariables false
set_option maxRecDepth 100000

theorem cmp_ok {sat : List Int → Bool} {ws : List Int} : ∀ (r : Nat) (x : List Int), x.length + r = ws.length → (cmpF sat ws x).Nodup ∧ ∀ t ∈ cmpF sat ws x, t.length = r ∧ ∀ v ∈ t, (0 : Int) ≤ v ∧ v ≤ 5
  | 0, x, h => by
    rw [cmp_full (by omega)]
    split <;> simp
  | r + 1, x, h => by
    have hx : x.length < ws.length := by omega
    rw [cmp_step (List.getElem?_eq_getElem hx)]
    have ih := fun v : Nat => cmp_ok (sat := sat) (ws := ws) r (x ++ [(v : Int)]) (by simp; omega)
    refine ⟨flatV_nodup fun v hv => ?_, fun t ht => ?_⟩
    · show (if _ then _ else _ : List (List Int)).Nodup
      split
      · exact (ih v).1
      · exact List.nodup_nil
    · obtain ⟨v, s, hv, hs, rfl⟩ := flatV_mem.1 ht
      have hs' : s ∈ cmpF sat ws (x ++ [(v : Int)]) := by
        have := hs
        split at this
        · exact this
        · simp at this
      obtain ⟨h1, h2⟩ := (ih v).2 s hs'
      refine ⟨by simp [h1], fun u hu => ?_⟩
      rcases List.mem_cons.1 hu with rfl | hu
      · omega
      · exact h2 u hu
/-- all tuples that satisfy. -/
def allF (c : Con) (ds : List Int) : List (List Int) := cmpF (satF c) (wordF c.vars ds) []
theorem allF_eq (c : Con) (ds : List Int) : (allT (wordF c.vars ds)).filter (satF c) = allF c ds := by
  unfold allF cmpF
  simp
theorem allF_len (c : Con) (ds : List Int) (h : c.vars.length ≤ 4) : (allF c ds).length ≤ 5000 := by
  rw [← allF_eq]
  refine Nat.le_trans (List.length_filter_le _ _) (Nat.le_trans (allT_le _) ?_)
  rw [wordF_len]
  have : c.vars.length = 0 ∨ c.vars.length = 1 ∨ c.vars.length = 2 ∨ c.vars.length = 3 ∨ c.vars.length = 4 := by omega
  rcases this with h | h | h | h | h <;> rw [h] <;> decide
theorem allF_lay {c : Con} {ds : List Int} (h4 : c.vars.length ≤ 4) (h : allF c ds ≠ []) : Lay c.vars.length [allF c ds] := by
  have hk := cmp_ok (sat := satF c) (ws := wordF c.vars ds) c.vars.length [] (by rw [wordF_len]; simp)
  refine ⟨by simp, by simp, fun L hL => ?_⟩
  rw [List.mem_singleton.1 hL]
  exact ⟨h, hk.1, Nat.le_trans (allF_len c ds h4) (by omega), hk.2⟩
def bdgF (c : Con) (ds : List Int) : List (List (List Int)) := if dokF ds && vconF c ds.length then (if allF c ds = [] then [] else bdL c.vars.length [allF c ds]) else []
theorem bd_take (m : Nat) (lay : List (List (List Int))) {i : Nat} (h : i < m) : (bdL m lay).take (i + 1) = (bdL m lay).take i ++ [(layN lay i).map (rowG chS (layN lay (i + 1)))] := by
  rw [List.take_add_one, bd_at m lay i h]; rfl
theorem lay_bounds {m : Nat} (h4 : m ≤ 4) {all : List (List Int)} (h : Lay m [all]) {i : Nat} (hi : i < m) : (layN [all] i).length ≤ 5000 ∧ ∀ L ∈ layN [all] i, L.length ≤ 100000 ∧ ∀ t ∈ L, t ≠ [] := by
  have hk := Lay.at_ (lay := [all]) (f := m - i) (i := i) (by rwa [Nat.sub_add_cancel (by omega)])
  refine ⟨Nat.le_trans (layN_len [all] (by simp) i) ?_, fun L hL => ?_⟩
  · have : i = 0 ∨ i = 1 ∨ i = 2 ∨ i = 3 := by omega
    rcases this with rfl | rfl | rfl | rfl <;> decide
  · obtain ⟨-, -, h3, h5⟩ := hk.ok L hL
    refine ⟨h3, fun t ht e => ?_⟩
    have := (h5 t ht).1
    rw [e] at this
    simp at this
    omega
end Go.Proofs.Ytfmdgdamelkelaa
/- spec's tuples: the list of all tuples that satisfy. -/
namespace Go.Proofs.Ytfmdgdamelkelaa
open Go.ChangeShapes Go.WideShapes Go.ChangeAt Go.RowKit
open Go.Shelf
set_option linter.unusedVariables false
set_option maxRecDepth 100000
attribute [local go_sem] Oper.semAt_some

/-- the load of a whole constraint (it also makes the loads' match equations known to this text). -/
theorem ld_con (ρ : Operand → Value) (k b : Nat) (dst) (ty pos aft) (w : World) (x0 x1 x2 x3 x4 : Value) (hk : ρ (Operand.tmp k) = Value.pointer (some ⟨b, 0, none⟩))
    (h0 : w.cell? ⟨b, 0, none⟩ = some x0) (h1 : w.cell? ⟨b, 1, none⟩ = some x1) (h2 : w.cell? ⟨b, 2, none⟩ = some x2) (h3 : w.cell? ⟨b, 3, none⟩ = some x3) (h4 : w.cell? ⟨b, 4, none⟩ = some x4) :
    Sem.run Try.prog (execOp ρ { dst := dst, op := .load 29 (.tmp k), type := ty, pos := pos, after := aft, guard := none }) w = Result.ok (Next.value (Value.agg #[x0, x1, x2, x3, x4])) w := by
  go_simp
theorem six_le {m : Nat} (h : m ≤ 4) : 6 ^ m ≤ 5000 := by
  have : m = 0 ∨ m = 1 ∨ m = 2 ∨ m = 3 ∨ m = 4 := by omega
  rcases this with rfl | rfl | rfl | rfl | rfl <;> decide
theorem FoundS.base {W : World} {B C : Nat} {v : Value} {fs : List (List Int)} (h : FoundS W B v fs) (k : C ≤ B) : FoundS W C v fs := by
  obtain ⟨us, h1, h2, h3, h4⟩ := h
  exact ⟨us, h1, own_base h2 k, h3, fun i u x hu hx => ⟨own_base (h4 i u x hu hx).1 k, (h4 i u x hu hx).2⟩⟩
theorem FoundS.below_ {W W' : World} {B : Nat} {v : Value} {fs : List (List Int)} (h : FoundS W B v fs) (k : Below W.heap.size W W') : FoundS W' B v fs := h.hi (Hi.of_below k)
set_option maxHeartbeats 8000000 in
theorem stuples (us : List Value) (c : Con) (A : Option Addr) (n d : Nat) (ds : List Int) (w : World) (h : ConR w w.heap.size us c) (hx : IntR w w.heap.size A n ds) (hdm : Doms ds) (hvc : vconF c n = true) (hl4 : n ≤ 4) :
    Calls Try.prog 47 #[.agg us.toArray, .slice A n d] w fun e w' => ∃ v, e = .returned v ∧ FoundS w' w.heap.size v ((allT (wordF c.vars ds)).filter (satF c)) ∧ Below w.heap.size w w' := by
  obtain ⟨i0, hi0, hz0, hz1, hz2⟩ := info_parts info_int
  obtain ⟨va, aa, ra, cv, ca, cr, rfl, -⟩ := id h
  obtain ⟨wa, hwa⟩ : ∃ wa, wa = w.alloc (.cells #[.int .i64 c.kind, .slice va c.vars.length cv, .slice aa c.args.length ca, .int .i64 c.bound, .slice ra c.rows.length cr] 29) := ⟨_, rfl⟩
  have hb0 : Below w.heap.size w wa := by rw [hwa]; exact b_alloc _ _
  have ha : CBlk wa w.heap.size (.int .i64 c.kind) (.slice va c.vars.length cv) (.slice aa c.args.length ca) (.int .i64 c.bound) (.slice ra c.rows.length cr) := by rw [hwa]; exact CBlk.new w _ _ _ _ _
  have HC0 := Lib.hid (ConR.on h hb0)
  have HX0 := Lib.hid (IntR.on hx hb0)
  have HB0 := Lib.hid hb0
  have HDM := Lib.hid hdm
  have HV := Lib.hid hvc
  have hsw : w.heap.size < wa.heap.size := ha.lt
  obtain ⟨d0, d1, d2, d3, d4⟩ := ha.cells
  have hvp := vcon_vars hvc hl4
  obtain ⟨m, hm⟩ : ∃ m, c.vars.length = m := ⟨_, rfl⟩
  have hm4 : m ≤ 4 := by have := hvp.1; omega
  obtain ⟨Z, hZ, hmk⟩ := make_blk1 (P := Try.prog) 22 3 i0 _ Try.underlying22 hi0 hz0 hz1 rfl m (by rw [hz2]; omega) (by unfold maxLen; omega)
  have HZ := Lib.hid hZ
  have HM := Lib.hid hm
  rw [hm] at d1
  clear ha h hx hZ hdm hvc hvp hb0 hm
  go_enter Try.func47, Try.ntmps47
  go_wp2_with fail
  rw [← hwa]
  clear hwa
  have hSk : ∀ w', Below wa.heap.size wa w' → w'.cell? ⟨w.heap.size, 0, none⟩ = some (.int .i64 c.kind) ∧ w'.cell? ⟨w.heap.size, 1, none⟩ = some (.slice va m cv) ∧ w'.cell? ⟨w.heap.size, 2, none⟩ = some (.slice aa c.args.length ca) ∧ w'.cell? ⟨w.heap.size, 3, none⟩ = some (.int .i64 c.bound) ∧ w'.cell? ⟨w.heap.size, 4, none⟩ = some (.slice ra c.rows.length cr) :=
    fun w' hb => ⟨(hb.cell (p := ⟨_, _, none⟩) hsw).trans d0, (hb.cell (p := ⟨_, _, none⟩) hsw).trans d1, (hb.cell (p := ⟨_, _, none⟩) hsw).trans d2, (hb.cell (p := ⟨_, _, none⟩) hsw).trans d3, (hb.cell (p := ⟨_, _, none⟩) hsw).trans d4⟩
  refine wp_region_held_drew (S := fun w' => w'.cell? ⟨w.heap.size, 0, none⟩ = some (.int .i64 c.kind) ∧ w'.cell? ⟨w.heap.size, 1, none⟩ = some (.slice va m cv) ∧ w'.cell? ⟨w.heap.size, 2, none⟩ = some (.slice aa c.args.length ca) ∧ w'.cell? ⟨w.heap.size, 3, none⟩ = some (.int .i64 c.bound) ∧ w'.cell? ⟨w.heap.size, 4, none⟩ = some (.slice ra c.rows.length cr)) (by kernel_rfl) (hSk _ (below_drewN (Below.refl _ _) 1)) (fun hHeld => ?_)
  refine wpAnyH_take (i := 0) (oi := { dst := _, op := _, type := _, pos := _, after := _, guard := _ }) (v := ?v0) rfl (by kernel_rfl) (by kernel_rfl) (by kernel_rfl) (fun _ _ _ h => h) (Or.inl ⟨by rfl, ?y0⟩) hHeld ?r0
  case y0 => (intro w hSw; (try dsimp only at hSw); go_simp; try with_reducible rfl)
  try simp only [Act.put, List.setIfInBounds_toArray, List.set_cons_zero, List.set_cons_succ]
  refine wpAnyH_take (i := 1) (oi := { dst := _, op := _, type := _, pos := _, after := _, guard := _ }) (v := ?v1) rfl (by kernel_rfl) (by kernel_rfl) (by kernel_rfl) (fun _ _ _ h => h) (Or.inl ⟨by rfl, ?y1⟩) hHeld ?r1
  case y1 => (intro w hSw; (try dsimp only at hSw); go_simp; try with_reducible rfl)
  try simp only [Act.put, List.setIfInBounds_toArray, List.set_cons_zero, List.set_cons_succ]
  refine wpAnyH_take (i := 2) (oi := { dst := _, op := _, type := _, pos := _, after := _, guard := _ }) (v := ?v2) rfl (by kernel_rfl) (by kernel_rfl) (by kernel_rfl) (fun _ _ _ h => h) (Or.inl ⟨by rfl, ?y2⟩) hHeld ?r2
  case y2 => (intro w hSw; (try dsimp only at hSw); go_simp; try with_reducible rfl)
  try simp only [Act.put, List.setIfInBounds_toArray, List.set_cons_zero, List.set_cons_succ]
  refine wpAnyH_take (i := 3) (oi := { dst := _, op := _, type := _, pos := _, after := _, guard := _ }) (v := ?v3) rfl (by kernel_rfl) (by kernel_rfl) (by kernel_rfl) (fun _ _ _ h => h) (Or.inl ⟨by rfl, ?y3⟩) hHeld ?r3
  case y3 => (intro w hSw; (try dsimp only at hSw); go_simp; try with_reducible rfl)
  try simp only [Act.put, List.setIfInBounds_toArray, List.set_cons_zero, List.set_cons_succ]
  refine wpAnyH_take (i := 4) (oi := { dst := _, op := _, type := _, pos := _, after := _, guard := _ }) (v := ?v4) rfl (by kernel_rfl) (by kernel_rfl) (by kernel_rfl) (fun _ _ _ h => h) (Or.inl ⟨by rfl, ?y4⟩) hHeld ?r4
  case y4 => (intro w hSw; (try dsimp only at hSw); go_simp; try with_reducible rfl)
  try simp only [Act.put, List.setIfInBounds_toArray, List.set_cons_zero, List.set_cons_succ]
  refine wpAnyH_ready (rs := [5]) (by kernel_rfl) (by simp) ?_
  refine AllReadyH.cons (o := { dst := _, op := _, type := _, pos := _, after := _, guard := _ }) rfl (fun K hK => ?_) AllReadyH.nil
  go_simp
  refine hK.out _ _ ?_ (fun hHeld => ?_)
  · exact hSk _ (below_drewN (b_alloc _ _) 1)
  clear hK K
  try simp only [Act.put, List.setIfInBounds_toArray, List.set_cons_zero, List.set_cons_succ]
  refine wpAnyH_take (i := 6) (oi := { dst := _, op := _, type := _, pos := _, after := _, guard := _ }) (v := ?v6) rfl (by kernel_rfl) (by kernel_rfl) (by kernel_rfl) (fun _ _ _ h => h) (Or.inl ⟨by rfl, ?y6⟩) hHeld ?r6
  case y6 => (intro w hSw; (try dsimp only at hSw); go_simp; try with_reducible rfl)
  try simp only [Act.put, List.setIfInBounds_toArray, List.set_cons_zero, List.set_cons_succ]
  refine wpAnyH_ready (rs := [7]) (by kernel_rfl) (by simp) ?_
  refine AllReadyH.cons (o := { dst := _, op := _, type := _, pos := _, after := _, guard := _ }) rfl (fun K hK => ?_) AllReadyH.nil
  go_simp
  refine hK.out _ _ ?_ (fun hHeld => ?_)
  · exact hSk _ (below_drewN ((b_alloc _ _).alloc (by simp) _) 1)
  clear hK K
  try simp only [Act.put, List.setIfInBounds_toArray, List.set_cons_zero, List.set_cons_succ]
  refine wpAnyH_take (i := 8) (oi := { dst := _, op := _, type := _, pos := _, after := _, guard := _ }) (v := ?v8) rfl (by kernel_rfl) (by kernel_rfl) (by kernel_rfl) (fun _ _ _ h => h) (Or.inl ⟨by rfl, ?y8⟩) hHeld ?r8
  case y8 => (intro w hSw; (try dsimp only at hSw); go_simp; try with_reducible rfl)
  try simp only [Act.put, List.setIfInBounds_toArray, List.set_cons_zero, List.set_cons_succ]
  refine wpAnyH_done (by kernel_rfl) ?_ _
  go_wp2_with fail
  have hZs : Z.size = m := by rw [← Array.length_toList, HZ.out, List.length_replicate]
  have hI := stwalk (wa.heap.size + 1) wa.heap.size (wa.heap.size + 2) m n d c va aa ra cv ca cr ds A wa HC0.out HX0.out HDM.out HV.out hl4 HM.out ⟨by omega, Nat.le_refl _, by omega, by omega⟩ m [] [] (.slice none 0 0) _ (by simp) (fun j d v _ hv => by simp at hv)
    (below_drewN ((b_alloc wa (.cells Z 3)).alloc (by simp) (.cells #[.int .i64 c.kind, .slice va m cv, .slice aa c.args.length ca, .int .i64 c.bound, .slice ra c.rows.length cr, .slice A n d, .slice (some ⟨wa.heap.size, 0, none⟩) m m, .slice none 0 0] 92)) 1)
    (by simp [World.drewN])
    ((TBlk.newAt (by simp)).drewN_ 1) ⟨Z, hZs, ((TBlk.newAt rfl).alloc_ _).drewN_ 1, fun j x hj => by simp at hj⟩ (FoundS.nil _ _) (by rw [List.length_nil, Nat.zero_add]; exact six_le hm4)
  have HI := Lib.hid hI
  clear hI hHeld hSk hmk d0 d1 d2 d3 d4 hZs
  refine HI.out.mono ?_
  rintro e w5 ⟨⟨v5, rfl⟩, hb5, hz5, vf, hE5, -, hF5⟩
  have e7 := hE5.at_ 7 rfl
  simp only [List.getElem_toArray, List.getElem_cons_zero, List.getElem_cons_succ] at e7
  have HR := Lib.hid (And.intro (hF5.base (show w.heap.size ≤ wa.heap.size + 2 by omega)) (bgo HB0.out hb5))
  clear hb5 HI hE5 hF5 hz5
  go_wp2_with fail
  go_ret
  exact ⟨_, rfl, by have := HR.out.1; rwa [extT_nil, List.nil_append] at this, HR.out.2⟩
end Go.Proofs.Ytfmdgdamelkelaa
/- spec's suffixes and equalTuples. -/
namespace Go.Proofs.Ytfmdgdamelkelaa
open Go.ChangeShapes Go.WideShapes Go.ChangeAt Go.RowKit
open Go.Shelf
set_option linter.unusedVariables false
set_option maxRecDepth 100000
variable {L0 : Nat → Prop}
attribute [local go_sem] Oper.semAt_some

theorem sequalInts_b (A B : Option Addr) (n m c d : Nat) (xs ys : List Int) (w : World) (b : Bool) (h : decide (xs = ys) = b) (hx : SlR IntC w w.heap.size A n xs) (hy : SlR IntC w w.heap.size B m ys) :
    Calls Try.prog 117 #[.slice A n c, .slice B m d] w fun e w' => e = .returned (.bool b) ∧ Below w.heap.size w w' := by
  subst h; exact sequalInts A B n m c d xs ys w hx hy
theorem sequalTuples (A B : Option Addr) (n m c d : Nat) (xs ys : List (List Int)) (w : World) (hx : SlR (RowC IntC) w w.heap.size A n xs) (hy : SlR (RowC IntC) w w.heap.size B m ys) :
    Calls Try.prog 87 #[.slice A n c, .slice B m d] w fun e w' => e = .returned (.bool (decide (xs = ys))) ∧ Below w.heap.size w w' := by
  have hn := hx.le
  have hm := hy.le
  have hlx := Lib.hid hx.len
  have hly := Lib.hid hy.len
  by_cases hnm : n = m
  · subst hnm
    have hne : ((n : Int) != (n : Int)) = false := by simp
    go_enter Try.func87, Try.ntmps87
    go_wp2_with fail
    go_loopw [5] (fun i wr => ∃ k : Nat, k ≤ n ∧ i = .int .i64 k ∧ Hid (EqB xs ys k) ∧ Below w.heap.size w wr) (fun i _ => n - (intOf i).toNat)
    case atStart => exact ⟨0, by omega, rfl, EqB.zero _ _, Below.refl _ _⟩
    case round =>
      obtain ⟨k, hk, rfl, hq, hb⟩ := hrel
      by_cases hlt : k < n
      · obtain ⟨ab, ao, x, u, rfl, hab, hxk, hcx, A1, c1, rfl, hx1⟩ := SlR.at_ (hx.below (RowC.keeps IntC.keeps) hb) hlt
        obtain ⟨bb, bo, y, u, rfl, hbb, hyk, hcy, B1, d1, rfl, hy1⟩ := SlR.at_ (hy.below (RowC.keeps IntC.keeps) hb) hlt
        have HX := Lib.hid hxk
        have HY := Lib.hid hyk
        clear hxk hyk
        have hw := hb.size
        have HX1 := Lib.hid (hx1.more IntC.widens hw)
        have HY1 := Lib.hid (hy1.more IntC.widens hw)
        have q0 : ∀ p : Later wr, p.val.cell? ⟨ab, ao + k, none⟩ = some (.slice A1 x.length c1) := fun p => p.cell (by omega) hcx
        have r0 : ∀ p : Later wr, p.val.cell? ⟨bb, bo + k, none⟩ = some (.slice B1 y.length d1) := fun p => p.cell (by omega) hcy
        clear hx1 hy1
        cases he : decide (x = y)
        · have HE := Lib.hid he
          clear he
          go_wp2_with fail
          refine wp_region_later (by kernel_rfl) (by kernel_rfl) ?_
          repeat (go_big_quiet_step (first | (go_at_call 117; exact calls_later (sequalInts_b _ _ _ _ _ _ x y _ _ HE.out (SlR.on IntC.keeps IntC.widens HX1.out (Later.below _)) (SlR.on IntC.keeps IntC.widens HY1.out (Later.below _))))))
          refine wpQuiet_nil ?_
          intro w5 hw'
          obtain ⟨⟨w6, hb5⟩, hw''⟩ := hw'
          subst hw''
          go_wp2_with fail
          go_ret
          exact ⟨ret_bool (decide_eq_false (ne_of_at HX.out HY.out (of_decide_eq_false HE.out))).symm, bgo hb hb5⟩
        · have HE := Lib.hid he
          clear he
          go_wp2_with fail
          refine wp_region_later (by kernel_rfl) (by kernel_rfl) ?_
          repeat (go_big_quiet_step (first | (go_at_call 117; exact calls_later (sequalInts_b _ _ _ _ _ _ x y _ _ HE.out (SlR.on IntC.keeps IntC.widens HX1.out (Later.below _)) (SlR.on IntC.keeps IntC.widens HY1.out (Later.below _))))))
          refine wpQuiet_nil ?_
          intro w5 hw'
          obtain ⟨⟨w6, hb5⟩, hw''⟩ := hw'
          subst hw''
          go_wp2_with fail
          go_roundw
          case rel => exact ⟨k + 1, by omega, by go_num, EqB.succ hq.out (by rw [HX.out, HY.out, of_decide_eq_true HE.out]), bgo hb hb5⟩
          case measure => simp [intOf]; omega
      · obtain rfl : k = n := by omega
        go_wp2_with fail
        go_ret
        exact ⟨ret_bool (decide_eq_true (EqB.done hq.out hlx.out hly.out)).symm, hb⟩
  · have hne : ((n : Int) != (m : Int)) = true := by simp; omega
    have HN := Lib.hid hnm
    clear hnm
    go_enter Try.func87, Try.ntmps87
    go_wp2_with fail
    go_ret
    exact ⟨ret_bool (decide_eq_false (fun h => HN.out (by rw [← hlx.out, ← hly.out, h]))).symm, Below.refl _ _⟩
theorem sufF_take {q : Int} {L : List (List Int)} {k : Nat} {x : List Int} (hx : L[k]? = some x) : sufF q (L.take (k + 1)) = sufF q (L.take k) ++ (if x.head? = some q then [x.tail] else []) := by
  rw [List.take_add_one, hx, sufF_app]
  simp only [Option.toList_some, sufF]
theorem RowK.tail {w : World} {B b o c : Nat} {y : Int} {t : List Int} (h : SlR IntC w B (some ⟨b, o, none⟩) (t.length + 1) (y :: t)) (hc : t.length + 1 ≤ c) (hb0 : L0 b) : (RowK L0) w B (.slice (if c = 1 then some ⟨b, o, none⟩ else some ⟨b, o + 1, none⟩) t.length (c - 1)) t := by
  refine ⟨_, _, rfl, by omega, ⟨rfl, by have := h.2.1; omega, fun hn => ?_⟩, fun hn b' o' e => ?_⟩
  case refine_2 =>
    split at e
    · injection e with e; injection e with e1 e2; subst e1; exact hb0
    · injection e with e; injection e with e1 e2; subst e1; exact hb0
  rw [if_neg (by omega)]
  obtain ⟨b', o', e, hb, k⟩ := h.2.2 (by omega)
  injection e with e
  injection e with e1 e2
  subst e1 e2
  refine ⟨b, o + 1, rfl, hb, fun i x hx => ?_⟩
  obtain ⟨u, hu, hr⟩ := k (i + 1) x (by simpa using hx)
  exact ⟨u, by rw [show o + 1 + i = o + (i + 1) by omega]; exact hu, hr⟩
/-- rests, built at base. -/
abbrev RestB (L0 : Nat → Prop) (lo base : Nat) (W : World) (u : Value) (r : List (List Int)) : Prop := OwnOf 22 (fun w _ x t => (RowK L0) w lo x t ∧ lo ≤ w.heap.size) W base u r
theorem RestB.rest {lo base : Nat} {W : World} {u : Value} {r : List (List Int)} (h : RestB L0 lo base W u r) (hb : lo ≤ base) : RestO L0 lo W u r := by
  obtain ⟨us, a, b, c, d⟩ := h
  exact ⟨us, a, own_base b hb, c, d⟩
theorem RestB.below {lo base : Nat} {W W' : World} {u : Value} {r : List (List Int)} (h : RestB L0 lo base W u r) (hl : lo ≤ W.heap.size) (hb : Below W.heap.size W W') : RestB L0 lo base W' u r := by
  obtain ⟨us, a, b, c, d⟩ := h
  exact ⟨us, a, own_below b hb, c, fun i x t hx ht => ⟨RowK.keeps _ _ _ _ _ (fun p hp => (hb.mono hl).cell hp) (d i x t hx ht).1, Nat.le_trans hl hb.size⟩⟩
theorem sufF_le (v : Int) : ∀ L : List (List Int), (sufF v L).length ≤ L.length
  | [] => by simp [sufF]
  | t :: ts => by have := sufF_le v ts; rw [sufF]; split <;> simp <;> omega
theorem RestB.snoc {W W' : World} {lo base : Nat} {v v' u : Value} {r : List (List Int)} {us : List Value} {x : List Int} (hlo : lo ≤ base) (h1 : us.length = r.length) (h2 : W.ownsRow base 22 1 v r.length us)
    (h4 : ∀ (i : Nat) u x, us[i]? = some u → r[i]? = some x → (RowK L0) W lo u x ∧ lo ≤ W.heap.size) (hx : (RowK L0) W lo u x) (hbs : base ≤ W.heap.size) (hl : r.length + 1 ≤ 9223372036854775807)
    (hown : W'.ownsRow base 22 1 v' (r.length + 1) (us ++ [u])) (hgr : W.grownBy W' v.ownBlock) : RestB L0 lo base W' v' (r ++ [x]) := by
  have hb : Below base W W' := (Below.refl _ _).grown hgr hbs (fun g hg => (h2.lt g hg).1)
  have hk : ∀ u x, (RowK L0) W lo u x → (RowK L0) W' lo u x ∧ lo ≤ W'.heap.size := fun u x h => ⟨RowK.keeps _ _ _ _ _ (fun p hp => (hb.mono hlo).cell hp) h, Nat.le_trans hlo (Nat.le_trans hbs hb.size)⟩
  refine ⟨us ++ [u], by simp [h1], by simpa using hown, by simpa using hl, fun i u' x' hu hx' => ?_⟩
  rcases Nat.lt_or_ge i us.length with hi | hi
  · rw [List.getElem?_append_left hi] at hu
    rw [List.getElem?_append_left (by omega)] at hx'
    exact hk _ _ (h4 i u' x' hu hx').1
  · have hi2 : i = us.length := by
      rcases Nat.lt_or_ge i (us.length + 1) with h | h
      · omega
      · rw [List.getElem?_eq_none (by simp; omega)] at hu; cases hu
    subst hi2
    rw [List.getElem?_append_right (Nat.le_refl _), Nat.sub_self] at hu
    rw [h1, List.getElem?_append_right (Nat.le_refl _), Nat.sub_self] at hx'
    simp at hu hx'
    subst hu hx'
    exact hk _ _ hx
set_option maxHeartbeats 4000000 in
theorem ssuffixes (A : Option Addr) (n c lo : Nat) (q : Int) (L : List (List Int)) (w : World) (h : SlR (RowK L0) w lo A n L) (hlo : lo ≤ w.heap.size) (hne : ∀ t ∈ L, t ≠ []) (hn : n ≤ 100000) :
    Calls Try.prog 86 #[.slice A n c, .int .i64 q] w fun e w' => ∃ u, e = .returned u ∧ RestB L0 lo w.heap.size w' u (sufF q L) ∧ Below w.heap.size w w' := by
  obtain ⟨i1, hi1, hy0, hy1, hy2⟩ := info_parts (P := Try.prog) (e := 22) (z := .slice none 0 0) (size := 1) (bytes := 24) (by kernel_rfl)
  obtain ⟨i0, hi0, hz0, hz1, hz2⟩ := info_parts info_int
  have hl := h.len
  have HA := Lib.hid h
  have HNE := Lib.hid hne
  have HL := Lib.hid hl
  have u22 : ∀ w, Sem.run Try.prog (underlying 22) w = .ok (TypeDesc.slice 3) w := run_underlying Try.underlying22
  have h0 : RestB L0 lo w.heap.size (w.alloc (.cells #[] 22)) (.slice (some ⟨w.heap.size, 0, none⟩) 0 0) (sufF q (L.take 0)) :=
    ⟨[], rfl, World.ownsRow_lit w #[] 0 (Nat.le_refl _) (by decide) rfl, by simp [sufF], fun i u x hu => by simp at hu⟩
  have H0 := Lib.hid h0
  clear h h0 hne hl
  go_enter Try.func86, Try.ntmps86
  go_wp2_with fail
  go_loopw [5, 6] (fun t5 i wr => ∃ (k : Nat) (v : Value), k ≤ n ∧ i = .int .i64 k ∧ v = t5 ∧ Hid (RestB L0 lo w.heap.size wr v (sufF q (L.take k))) ∧ Below w.heap.size w wr) (fun _ i _ => n - (intOf i).toNat)
  case atStart => exact ⟨0, _, by omega, rfl, rfl, H0, b_alloc _ _⟩
  case round =>
    obtain ⟨k, v, hk, rfl, rfl, hq, hb⟩ := hrel
    have hbs := hb.size
    by_cases hlt : k < n
    · obtain ⟨ab, ao, x, u, rfl, hab, hxk, hcx, A1, c1, rfl, hxc, hx1, hxl⟩ := SlR.at_ (HA.out.below RowK.keeps (hb.mono hlo)) hlt
      obtain ⟨y, t, rfl⟩ : ∃ y t, x = y :: t := by
        cases x with
        | nil => exact absurd rfl (HNE.out _ (List.mem_of_getElem? hxk))
        | cons y t => exact ⟨y, t, rfl⟩
      obtain ⟨b1, o1, y', rfl, hb1, hy', hcy⟩ := IntR.at_ hx1 (show 0 < (y :: t).length by simp)
      simp only [List.getElem?_cons_zero, Option.some.injEq] at hy'
      subst hy'
      simp only [List.length_cons, Nat.add_zero] at hcx hxc hx1 hcy
      have HT := Lib.hid (RowK.tail hx1 hxc (hxl (by simp) b1 o1 rfl))
      have HST := Lib.hid (sufF_take (q := q) hxk)
      clear hx1 hxk hxl
      cases heq : (y == q)
      · have HE := Lib.hid heq
        go_wp2_with fail
        go_roundw
        case rel => exact ⟨k + 1, _, by omega, by go_num, rfl, Lib.hid (by rw [HST.out, if_neg (by have := HE.out; simpa using this), List.append_nil]; exact hq.out), hb⟩
        case measure => simp [intOf]; omega
      · have HE := Lib.hid heq
        rcases Nat.lt_or_ge c1 2 with hc1 | hc1
        · obtain rfl : c1 = 1 := by omega
          obtain rfl : t = [] := List.eq_nil_of_length_eq_zero (by omega)
          rw [if_pos rfl] at HT
          simp only [List.length_nil, Nat.zero_add] at hcx hxc HT
          obtain ⟨us, j1, j2, j3, j4⟩ := hq.out
          have J1 := Lib.hid j1
          have J2 := Lib.hid j2
          have J4 := Lib.hid j4
          have hsl : (sufF q (L.take k)).length ≤ k := Nat.le_trans (sufF_le _ _) (by rw [List.length_take]; omega)
          have hal : Below wr.heap.size wr (wr.alloc (.cells #[.slice (some ⟨b1, o1, none⟩) 0 0] 22)) := b_alloc _ _
          have ho := own_below j2 hal
          clear j1 j2 j3 j4
          go_wp2_with (at_builtin; refine wpList_append_own _ rfl _ _ 23 rfl w.heap.size 22 i1 _ 1 24 Try.underlying23 hi1 hy0 hy1 hy2 rfl (by decide) v _ _ rfl ho ⟨wr.heap.size, 0, none⟩ 1 1 [.slice (some ⟨b1, o1, none⟩) 0 0] rfl rfl (cell_one_new _ _ _) (by simp [Value.oneCell']) (by unfold maxLen; omega) (by omega) (by rw [size_alloc_]; omega) ?_; intro v1 w3 hown hgr _)
          have hbw : Below w.heap.size wr w3 := ((Below.refl _ _).alloc hbs _).grown hgr (by rw [size_alloc_]; omega) (fun g hg => (ho.lt g hg).1)
          have HN := Lib.hid (RestB.snoc hlo J1.out ho (fun i x t hx ht => by have := J4.out i x t hx ht; exact ⟨RowK.keeps _ _ _ _ _ (fun p hp => (hal.mono (Nat.le_trans hlo hbs)).cell hp) this.1, Nat.le_trans this.2 hal.size⟩) (show (RowK L0) (wr.alloc (.cells #[.slice (some ⟨b1, o1, none⟩) 0 0] 22)) lo _ [] from RowK.keeps _ _ _ _ _ (fun p hp => (hal.mono (Nat.le_trans hlo hbs)).cell hp) HT.out) (by rw [size_alloc_]; omega) (by omega) hown hgr)
          clear hown hgr hal ho
          go_roundw
          case rel => exact ⟨k + 1, _, by omega, by go_num, rfl, Lib.hid (by rw [HST.out, if_pos (by have := HE.out; simpa using this)]; exact HN.out), hb.trans hbw⟩
          case measure => simp [intOf]; omega
        · have hc2 : (c1 = 1) = False := eq_false (by omega)
          have hc3 : ¬ c1 = 1 := by omega
          rw [if_neg hc3] at HT
          obtain ⟨us, j1, j2, j3, j4⟩ := hq.out
          have J1 := Lib.hid j1
          have J2 := Lib.hid j2
          have J4 := Lib.hid j4
          have hsl : (sufF q (L.take k)).length ≤ k := Nat.le_trans (sufF_le _ _) (by rw [List.length_take]; omega)
          have hal : Below wr.heap.size wr (wr.alloc (.cells #[.slice (some ⟨b1, o1 + 1, none⟩) t.length (c1 - 1)] 22)) := b_alloc _ _
          have ho := own_below j2 hal
          clear j1 j2 j3 j4
          go_wp2_with (at_builtin; refine wpList_append_own _ rfl _ _ 23 rfl w.heap.size 22 i1 _ 1 24 Try.underlying23 hi1 hy0 hy1 hy2 rfl (by decide) v _ _ rfl ho ⟨wr.heap.size, 0, none⟩ 1 1 [.slice (some ⟨b1, o1 + 1, none⟩) t.length (c1 - 1)] rfl rfl (cell_one_new _ _ _) (by simp [Value.oneCell']) (by unfold maxLen; omega) (by omega) (by rw [size_alloc_]; omega) ?_; intro v1 w3 hown hgr _)
          have hbw : Below w.heap.size wr w3 := ((Below.refl _ _).alloc hbs _).grown hgr (by rw [size_alloc_]; omega) (fun g hg => (ho.lt g hg).1)
          have HN := Lib.hid (RestB.snoc hlo J1.out ho (fun i x t hx ht => by have := J4.out i x t hx ht; exact ⟨RowK.keeps _ _ _ _ _ (fun p hp => (hal.mono (Nat.le_trans hlo hbs)).cell hp) this.1, Nat.le_trans this.2 hal.size⟩) (show (RowK L0) (wr.alloc (.cells #[.slice (some ⟨b1, o1 + 1, none⟩) t.length (c1 - 1)] 22)) lo _ t from RowK.keeps _ _ _ _ _ (fun p hp => (hal.mono (Nat.le_trans hlo hbs)).cell hp) HT.out) (by rw [size_alloc_]; omega) (by omega) hown hgr)
          clear hown hgr hal ho
          go_roundw
          case rel => exact ⟨k + 1, _, by omega, by go_num, rfl, Lib.hid (by rw [HST.out, if_pos (by have := HE.out; simpa using this)]; exact HN.out), hb.trans hbw⟩
          case measure => simp [intOf]; omega
    · obtain rfl : k = n := by omega
      go_wp2_with fail
      go_ret
      exact ⟨_, rfl, by have := hq.out; rwa [← HL.out, List.take_length] at this, hb⟩
end Go.Proofs.Ytfmdgdamelkelaa
/- spec's nextLayer. -/
namespace Go.Proofs.Ytfmdgdamelkelaa
open Go.ChangeShapes Go.WideShapes Go.ChangeAt Go.RowKit
open Go.Shelf
set_option linter.unusedVariables false
set_option maxRecDepth 100000
variable {L0 : Nat → Prop}
attribute [local go_sem] Oper.semAt_some

/-- the edges so far. -/
def rowTo (nx : List (List (List Int))) (L : List (List Int)) (v : Nat) : List Int := (List.range v).map fun u => toG nx (chS L u)
theorem rowTo_len (nx : List (List (List Int))) (L : List (List Int)) (v : Nat) : (rowTo nx L v).length = v := by simp [rowTo]
theorem rowTo_succ (nx : List (List (List Int))) (L : List (List Int)) (v : Nat) : rowTo nx L (v + 1) = rowTo nx L v ++ [toG nx (chS L v)] := by simp [rowTo, List.range_succ]
section
variable {lay : List (List (List Int))} {L : List (List Int)} {i v : Nat}
/-- no tuple goes on so. -/
theorem way_no (hL : lay[i]? = some L) (hv : v < 6) (hr : sufF ((v : Nat) : Int) L = []) : nxV chS L (nxL chS lay i) (v + 1) = nxV chS L (nxL chS lay i) v ∧ rowTo (nextS lay) L (v + 1) = rowTo (nextS lay) L v ++ [-1] := by
  have h : chS L v = none := by unfold chS; rw [if_pos hr]
  refine ⟨by rw [nxV, h, addO], by rw [rowTo_succ, h]; rfl⟩
/-- a node that is there. -/
theorem way_old (hL : lay[i]? = some L) (hv : v < 6) (hr : sufF ((v : Nat) : Int) L ≠ []) {j : Nat} (hf : fnd (nxV chS L (nxL chS lay i) v) (sufF ((v : Nat) : Int) L) (nxV chS L (nxL chS lay i) v).length = (j : Int)) :
    nxV chS L (nxL chS lay i) (v + 1) = nxV chS L (nxL chS lay i) v ∧ rowTo (nextS lay) L (v + 1) = rowTo (nextS lay) L v ++ [(j : Int)] := by
  have h : chS L v = some (sufF ((v : Nat) : Int) L) := by unfold chS; rw [if_neg hr]
  have hm : sufF ((v : Nat) : Int) L ∈ nxV chS L (nxL chS lay i) v := by
    rcases fnd_cases (nxV chS L (nxL chS lay i) v) (sufF ((v : Nat) : Int) L) (nxV chS L (nxL chS lay i) v).length with ⟨h1, -⟩ | ⟨k, -, -, h3⟩
    · rw [h1] at hf; omega
    · exact List.mem_of_getElem? h3
  have h2 : nxV chS L (nxL chS lay i) (v + 1) = nxV chS L (nxL chS lay i) v := by rw [nxV, h, addO, if_pos hm]
  refine ⟨h2, ?_⟩
  have hs := toG_step chS lay hL hv
  rw [rowTo_succ]
  show _ = _
  rw [show toG (nextS lay) (chS L v) = (j : Int) from by
    show toG (nxL chS lay lay.length) (chS L v) = _
    rw [← hs, h2, h]
    exact hf]
/-- a new node. -/
theorem way_new (hL : lay[i]? = some L) (hv : v < 6) (hr : sufF ((v : Nat) : Int) L ≠ []) (hf : fnd (nxV chS L (nxL chS lay i) v) (sufF ((v : Nat) : Int) L) (nxV chS L (nxL chS lay i) v).length = -1) :
    nxV chS L (nxL chS lay i) (v + 1) = nxV chS L (nxL chS lay i) v ++ [sufF ((v : Nat) : Int) L] ∧ rowTo (nextS lay) L (v + 1) = rowTo (nextS lay) L v ++ [(((nxV chS L (nxL chS lay i) v).length : Nat) : Int)] := by
  have h : chS L v = some (sufF ((v : Nat) : Int) L) := by unfold chS; rw [if_neg hr]
  have hm : sufF ((v : Nat) : Int) L ∉ nxV chS L (nxL chS lay i) v := by
    intro hm
    obtain ⟨j, -, h2, -⟩ := fnd_some hm
    rw [h2] at hf; omega
  have h2 : nxV chS L (nxL chS lay i) (v + 1) = nxV chS L (nxL chS lay i) v ++ [sufF ((v : Nat) : Int) L] := by rw [nxV, h, addO, if_neg hm]
  refine ⟨h2, ?_⟩
  have hs := toG_step chS lay hL hv
  rw [rowTo_succ]
  rw [show toG (nextS lay) (chS L v) = (((nxV chS L (nxL chS lay i) v).length : Nat) : Int) from by
    show toG (nxL chS lay lay.length) (chS L v) = _
    rw [← hs, h2, h]
    show fnd _ _ _ = _
    rw [List.length_append, List.length_singleton, fnd, if_pos (by simp)]]
theorem nx_len (lay : List (List (List Int))) (L : List (List Int)) (i v : Nat) : (nxV chS L (nxL chS lay i) v).length ≤ 6 * i + v :=
  Nat.le_trans (nxV_len chS L _ v) (by have := nxL_len chS lay i; omega)
end
theorem RowK.row_ (w : World) (B : Nat) (u : Value) (x : List Int) (h : (RowK L0) w B u x) : RowC IntC w B u x := h.row
theorem SlR.mono_ {α : Type} {R S : World → Nat → Value → α → Prop} (hRS : ∀ w B u x, R w B u x → S w B u x) {w : World} {B n : Nat} {A : Option Addr} {xs : List α} (h : SlR R w B A n xs) : SlR S w B A n xs := by
  obtain ⟨h1, h2, h3⟩ := h
  refine ⟨h1, h2, fun hn => ?_⟩
  obtain ⟨b, o, e, hb, k⟩ := h3 hn
  refine ⟨b, o, e, hb, fun i x hx => ?_⟩
  obtain ⟨u, hu, hr⟩ := k i x hx
  exact ⟨u, hu, hRS _ _ _ _ hr⟩
theorem RestB.lt_ {lo base : Nat} {W : World} {u : Value} {r : List (List Int)} {b : Nat} (h : RestB L0 lo base W u r) (hb : u.ownBlock = some b) : base ≤ b := by
  obtain ⟨us, -, h2, -⟩ := h
  exact (own_lt h2 hb).1
theorem HoldR.some_of_own {w : World} {base n size : Nat} {e : TypeId} {v : Value} {xs : List Value} (hn : 0 < n) (h : w.ownsRow base e size v n xs) : ∃ g c, v = .slice (some ⟨g, 0, none⟩) n c ∧ base ≤ g ∧ g < w.heap.size := by
  rcases h.2 with ⟨-, h0⟩ | ⟨b, cap, cur, rfl, h1, h2, -⟩
  · omega
  · exact ⟨b, cap, rfl, h1, (Array.getElem?_eq_some_iff.1 h2).1⟩
set_option maxHeartbeats 16000000 in
theorem snextLayer (A : Option Addr) (n c : Nat) (lay : List (List (List Int))) (w : World) (h : SlR (RowC (RowK L0)) w w.heap.size A n lay) (hne : ∀ L ∈ lay, L.length ≤ 100000 ∧ ∀ t ∈ L, t ≠ []) (hn : n ≤ 5000) :
    Calls Try.prog 48 #[.slice A n c] w fun e w' => ∃ (ev vn : Value) (gs : List Nat), e = .returned (.tuple #[ev, vn]) ∧ RowsAt w' w.heap.size ev (lay.map (rowG chS (nextS lay))) gs ∧ gs.Nodup ∧ NextU L0 w.heap.size ev w' vn (nextS lay) ∧ Below w.heap.size w w' := by
  obtain ⟨i1, hi1, hy0, hy1, hy2⟩ := info_parts (P := Try.prog) (e := 22) (z := .slice none 0 0) (size := 1) (bytes := 24) (by kernel_rfl)
  obtain ⟨i2, hi2, hx0, hx1, hx2⟩ := info_parts (P := Try.prog) (e := 23) (z := .slice none 0 0) (size := 1) (bytes := 24) (by kernel_rfl)
  obtain ⟨i0, hi0, hz0, hz1, hz2⟩ := info_parts info_int
  have HL := Lib.hid h.len
  have HA := Lib.hid h
  have HNE := Lib.hid hne
  have hr0 : RowsAt ((w.alloc (.cells #[] 22)).alloc (.cells #[] 23)) w.heap.size (.slice (some ⟨w.heap.size, 0, none⟩) 0 0) [] [] :=
    RowsAt.nil (own_below (World.ownsRow_lit w #[] 0 (Nat.le_refl _) (by decide) rfl) (b_alloc _ _))
  have hn0 : NextU L0 w.heap.size (.slice (some ⟨w.heap.size, 0, none⟩) 0 0) ((w.alloc (.cells #[] 22)).alloc (.cells #[] 23)) (.slice (some ⟨w.heap.size + 1, 0, none⟩) 0 0) [] :=
    ⟨[], rfl, by
      have := World.ownsRow_lit (w.alloc (.cells #[] 22)) (e := 23) (size := 1) #[] 0 (Nat.le_refl _) (by decide) rfl
      rw [size_alloc_] at this
      exact own_base this (by omega), by simp, fun i u x hu => by simp at hu⟩
  have HR0 := Lib.hid hr0
  have HN0 := Lib.hid hn0
  clear h hne hr0 hn0
  go_enter Try.func48, Try.ntmps48
  go_wp2_with fail
  go_loopw [4, 5, 6] (fun t4 t5 t6 wr => ∃ (i : Nat) (ev vn : Value) (gs : List Nat), i ≤ n ∧ t6 = .int .i64 i ∧ ev = t4 ∧ vn = t5 ∧ Hid (RowsAt wr w.heap.size ev ((lay.take i).map (rowG chS (nextS lay))) gs ∧ gs.Nodup) ∧ Hid (NextU L0 w.heap.size ev wr vn (nxL chS lay i)) ∧ Below w.heap.size w wr) (fun _ _ t6 _ => n - (intOf t6).toNat)
  case atStart => exact ⟨0, _, _, [], by omega, rfl, rfl, rfl, Lib.hid ⟨HR0.out, List.nodup_nil⟩, HN0, (b_alloc _ _).trans ((b_alloc _ _).mono (by simp))⟩
  case round =>
    obtain ⟨i, ev, vn, gs, hi, rfl, rfl, rfl, hr, hnx, hb⟩ := hrel
    clear HR0 HN0
    rename World => wo
    have hbs := hb.size
    by_cases hlt : i < n
    · obtain ⟨ab, ao, L, u, rfl, hab, hLk, hcL, A1, c1, rfl, hL1⟩ := SlR.at_ HA.out hlt
      have HLK := Lib.hid hLk
      have HL1 := Lib.hid hL1
      have HCL := Lib.hid hcL
      have hLm := HNE.out L (List.mem_of_getElem? hLk)
      have HLM := Lib.hid hLm.2
      have hL5 := hLm.1
      have hal0 : Below wo.heap.size wo (wo.alloc (.cells #[] 3)) := b_alloc _ _
      have HR1 := Lib.hid (hr.out.1.below hal0)
      have HN1 := Lib.hid (hnx.out.below hbs hal0)
      have HND := Lib.hid hr.out.2
      have HEV : Hid (∀ b, ev.ownBlock = some b → b < wo.heap.size) := Lib.hid (fun b hb => by
        obtain ⟨-, rs, -, h3, -⟩ := hr.out.1
        exact (own_lt h3 hb).2)
      have HGL := Lib.hid (fun g hg => (hr.out.1.lt g hg).2)
      have HO1 : Hid ((wo.alloc (.cells #[] 3)).ownsRow wo.heap.size 3 1 (.slice (some ⟨wo.heap.size, 0, none⟩) 0 0) 0 ((rowTo (nextS lay) L 0).map (.int .i64))) := Lib.hid (World.ownsRow_lit wo #[] 0 (Nat.le_refl _) (by decide) rfl)
      have hB1 := hb.trans (hal0.mono hbs)
      clear hLk hL1 hcL hLm hal0 hr hnx
      go_wp2_with fail
      go_loopw [5, 7, 8] (fun t5 t7 t8 wr => ∃ (v : Nat) (vn ov : Value), v ≤ 6 ∧ t8 = .int .i64 v ∧ vn = t5 ∧ ov = t7 ∧ Hid (RowsAt wr w.heap.size ev ((lay.take i).map (rowG chS (nextS lay))) gs) ∧ Hid (NextU L0 w.heap.size ev wr vn (nxV chS L (nxL chS lay i) v)) ∧ Hid (wr.ownsRow wo.heap.size 3 1 ov v ((rowTo (nextS lay) L v).map (.int .i64))) ∧ Below w.heap.size w wr ∧ wo.heap.size ≤ wr.heap.size) (fun _ _ t8 _ => 6 - (intOf t8).toNat)
      case atStart => exact ⟨0, _, _, by omega, rfl, rfl, rfl, HR1, HN1, HO1, hB1, by simp⟩
      case round =>
        obtain ⟨v, vn, ov, hv, rfl, rfl, rfl, hr, hnx, hov, hb2, hw2⟩ := hrel
        clear HR1 HN1 HO1 hB1
        rename World => w2
        have hbs2 := hb2.size
        by_cases hlt2 : v < 6
        · have t6 : decide ((v : Int) ≤ 5) = true := decide_eq_true (by omega)
          have hcL2 : w2.cell? ⟨ab, ao + i, none⟩ = some (.slice A1 L.length c1) := (hb2.cell (p := ⟨ab, _, none⟩) hab).trans HCL.out
          have hcall := ssuffixes A1 L.length c1 w.heap.size (v : Int) L w2 (HL1.out.below RowK.keeps hb2) hbs2 HLM.out hL5
          have HC := Lib.hid hcall
          clear hcall
          go_wp2_with fail
          refine HC.out.mono ?_
          rintro e w3 ⟨u, rfl, hu, hb3⟩
          have hz3 := hb3.size
          obtain ⟨r, hre⟩ : ∃ r, sufF ((v : Nat) : Int) L = r := ⟨_, rfl⟩
          obtain ⟨nx, hnxe⟩ : ∃ nx, nxV chS L (nxL chS lay i) v = nx := ⟨_, rfl⟩
          have hnl : nx.length ≤ 6 * i + v := by rw [← hnxe]; exact nx_len lay L i v
          have HRE := Lib.hid hre
          have HNX := Lib.hid hnxe
          rw [hre] at hu
          have HU := Lib.hid hu
          have HR3 := Lib.hid (hr.out.below hb3)
          have HN3 : Hid (NextU L0 w.heap.size ev w3 vn nx) := Lib.hid (by rw [← hnxe]; exact hnx.out.below hbs2 hb3)
          have HO3 := Lib.hid (own_below hov.out hb3)
          have hB3 := hb2.trans (hb3.mono hbs2)
          obtain ⟨A3, c3, rfl, hR3⟩ := RestO.read (hu.rest hbs2)
          have HRR := Lib.hid (SlR.mono_ RowK.row_ hR3)
          obtain ⟨A4, c4, rfl, hN4⟩ := HN3.out.read
          have HN4 := Lib.hid hN4
          clear hu hN4 hR3 hcL2 HC hr hnx hov hb3 hre hnxe
          by_cases hrn : r = []
          · subst hrn
            have HW := Lib.hid (way_no (lay := lay) HLK.out hlt2 HRE.out)
            rw [HNX.out] at HW
            simp only [List.length_nil]
            go_wp2_with fail
            go_loopw [10, 11] (fun t10 t11 wr => t11 = .int .i64 (0 : Nat) ∧ t10 = .int .i64 (-1) ∧ wr = w3) (fun _ _ _ => 0)
            case atStart => exact ⟨rfl, rfl, rfl⟩
            case round =>
              obtain ⟨rfl, rfl, rfl⟩ := hrel
              by_cases hkk : 0 < nx.length
              · have hal : Below wr.heap.size wr (wr.alloc (.cells #[.int .i64 (-1)] 3)) := b_alloc _ _
                have ho := own_below HO3.out hal
                have hzwr : wo.heap.size ≤ wr.heap.size := by omega
                have hlowr : w.heap.size ≤ wr.heap.size := hB3.size
                go_wp2_with (at_builtin; refine wpList_append_own _ rfl _ _ 22 rfl wo.heap.size 3 i0 _ 1 8 Try.underlying22 hi0 hz0 hz1 hz2 rfl (by decide) ov _ _ rfl ho ⟨wr.heap.size, 0, none⟩ 1 1 [.int .i64 (-1)] rfl rfl (cell_one_new _ _ _) (by simp [Value.oneCell']) (by unfold maxLen; omega) (by omega) (by rw [size_alloc_]; omega) ?_; intro v1 w6 hown hgr _)
                have hbo : Below wo.heap.size (wr.alloc (.cells #[.int .i64 (-1)] 3)) w6 := (Below.refl _ _).grown hgr (by rw [size_alloc_]; omega) (fun g hg => (ho.lt g hg).1)
                have HR6 := Lib.hid ((HR3.out.below hal).grown ho hgr HGL.out)
                have HN6 := Lib.hid (((HN3.out.below hlowr hal).grown (hbo.mono hbs) ho hgr))
                have HB6 := (hB3.trans (hal.mono hlowr)).trans (hbo.mono hbs)
                have hz6 : wo.heap.size ≤ w6.heap.size := by have := hgr.size; rw [size_alloc_] at this; omega
                have HO6 : Hid (w6.ownsRow wo.heap.size 3 1 v1 (v + 1) ((rowTo (nextS lay) L (v + 1)).map (.int .i64))) := Lib.hid (by rw [HW.out.2, List.map_append]; exact hown)
                clear hown hgr hbo ho hal
                go_roundw
                case rel => exact ⟨v + 1, _, v1, by omega, by go_num, rfl, rfl, HR6, Lib.hid (by rw [HW.out.1]; exact HN6.out), HO6, HB6, hz6⟩
                case measure => simp [intOf]; omega
              · have hal : Below wr.heap.size wr (wr.alloc (.cells #[.int .i64 (-1)] 3)) := b_alloc _ _
                have ho := own_below HO3.out hal
                have hzwr : wo.heap.size ≤ wr.heap.size := by omega
                have hlowr : w.heap.size ≤ wr.heap.size := hB3.size
                go_wp2_with (at_builtin; refine wpList_append_own _ rfl _ _ 22 rfl wo.heap.size 3 i0 _ 1 8 Try.underlying22 hi0 hz0 hz1 hz2 rfl (by decide) ov _ _ rfl ho ⟨wr.heap.size, 0, none⟩ 1 1 [.int .i64 (-1)] rfl rfl (cell_one_new _ _ _) (by simp [Value.oneCell']) (by unfold maxLen; omega) (by omega) (by rw [size_alloc_]; omega) ?_; intro v1 w6 hown hgr _)
                have hbo : Below wo.heap.size (wr.alloc (.cells #[.int .i64 (-1)] 3)) w6 := (Below.refl _ _).grown hgr (by rw [size_alloc_]; omega) (fun g hg => (ho.lt g hg).1)
                have HR6 := Lib.hid ((HR3.out.below hal).grown ho hgr HGL.out)
                have HN6 := Lib.hid (((HN3.out.below hlowr hal).grown (hbo.mono hbs) ho hgr))
                have HB6 := (hB3.trans (hal.mono hlowr)).trans (hbo.mono hbs)
                have hz6 : wo.heap.size ≤ w6.heap.size := by have := hgr.size; rw [size_alloc_] at this; omega
                have HO6 : Hid (w6.ownsRow wo.heap.size 3 1 v1 (v + 1) ((rowTo (nextS lay) L (v + 1)).map (.int .i64))) := Lib.hid (by rw [HW.out.2, List.map_append]; exact hown)
                clear hown hgr hbo ho hal
                go_roundw
                case rel => exact ⟨v + 1, _, v1, by omega, by go_num, rfl, rfl, HR6, Lib.hid (by rw [HW.out.1]; exact HN6.out), HO6, HB6, hz6⟩
                case measure => simp [intOf]; omega
          · have hrp : 0 < r.length := List.length_pos_iff.2 hrn
            have HRN := Lib.hid hrn
            have HRE2 : Hid (∀ b, ev.ownBlock = some b → (Value.slice A3 r.length c3).ownBlock ≠ some b) := Lib.hid (fun b hb he => by
              have h1 := (HEV.out b hb)
              have h2 := HU.out.lt_ he
              omega)
            clear hrn
            go_wp2_with fail
            go_loopw [10, 11] (fun t10 t11 wr => ∃ k : Nat, k ≤ nx.length ∧ t11 = .int .i64 k ∧ t10 = .int .i64 (fnd nx r k) ∧ Below w3.heap.size w3 wr) (fun _ t11 _ => nx.length - (intOf t11).toNat)
            case atStart => exact ⟨0, by omega, rfl, rfl, Below.refl _ _⟩
            case round =>
              obtain ⟨k, hk, rfl, rfl, hb4⟩ := hrel
              rename World => w4
              have hz4 := hb4.size
              by_cases hk2 : k < nx.length
              · obtain ⟨bb, bo, s, u, rfl, hbb, hsk, hcs, B1, d1, rfl, hs1⟩ := SlR.at_ (HN4.out.below (RowC.keeps RowK.keeps) hb4) hk2
                have HSK := Lib.hid hsk
                have HC := Lib.hid (sequalTuples B1 A3 s.length r.length d1 c3 s r w4 ((SlR.mono_ RowK.row_ hs1).more (RowC.widens IntC.widens) hz4) (SlR.on (RowC.keeps IntC.keeps) (RowC.widens IntC.widens) HRR.out hb4))
                clear hsk hs1
                go_wp2_with fail
                refine HC.out.mono ?_
                rintro e w5 ⟨rfl, hb5⟩
                cases he : decide (s = r)
                · have HE := Lib.hid he
                  clear HC
                  go_wp2_with fail
                  go_roundw
                  case rel => exact ⟨k + 1, by omega, by go_num, by rw [fnd, if_neg (by rw [HSK.out]; intro h; injection h with h; exact of_decide_eq_false HE.out h)], bgo hb4 hb5⟩
                  case measure => simp [intOf]; omega
                · have HE := Lib.hid he
                  clear HC
                  go_wp2_with fail
                  go_roundw
                  case rel => exact ⟨k + 1, by omega, by go_num, by rw [fnd, if_pos (by rw [HSK.out, of_decide_eq_true HE.out])], bgo hb4 hb5⟩
                  case measure => simp [intOf]; omega
              · obtain rfl : k = nx.length := by omega
                have hlo4 : w.heap.size ≤ w4.heap.size := Nat.le_trans hB3.size hz4
                have HR4 := Lib.hid (HR3.out.below hb4)
                have HN4b := Lib.hid (HN3.out.below hB3.size hb4)
                have HO4 := Lib.hid (own_below HO3.out hb4)
                have hB4 := hB3.trans (hb4.mono hB3.size)
                rcases fnd_cases nx r nx.length with ⟨hf, -⟩ | ⟨j, hj, hf, -⟩
                · rw [hf]
                  have HW := Lib.hid (way_new (lay := lay) HLK.out hlt2 (by rw [HRE.out]; exact HRN.out) (by rw [HNX.out, HRE.out]; exact hf))
                  rw [HNX.out, HRE.out] at HW
                  clear hf HN4 HN3 HR3 HO3
                  obtain ⟨us, j1, j2, j3, j4⟩ := HN4b.out
                  have haln : Below w4.heap.size w4 (w4.alloc (.cells #[.slice A3 r.length c3] 23)) := b_alloc _ _
                  have hon := own_below j2 haln
                  have hzw4 : wo.heap.size ≤ w4.heap.size := by omega
                  have J1 := Lib.hid j1
                  have J4 := Lib.hid (fun i x t hx ht => (And.intro ((j4 i x t hx ht).1.below hlo4 haln) (j4 i x t hx ht).2 : RestO L0 w.heap.size (w4.alloc (.cells #[.slice A3 r.length c3] 23)) x t ∧ ∀ b, ev.ownBlock = some b → x.ownBlock ≠ some b))
                  have HRX := Lib.hid (((HU.out.rest hbs2).below hB3.size hb4).below hlo4 haln)
                  clear j1 j2 j3 j4 hb4
                  go_wp2_with (first | (at_builtin; refine wpList_append_own _ rfl _ _ 27 rfl w.heap.size 23 i2 _ 1 24 Try.underlying27 hi2 hx0 hx1 hx2 rfl (by decide) (.slice A4 nx.length c4) _ _ rfl hon ⟨w4.heap.size, 0, none⟩ 1 1 [.slice A3 r.length c3] rfl rfl (cell_one_new _ _ _) (by simp [Value.oneCell']) (by unfold maxLen; omega) (by omega) (by rw [size_alloc_]; omega) ?_; intro vn1 w5 hown hgr _; obtain ⟨A5, c5, rfl⟩ := (HoldR.of_own hown).form; have hb5 : Below w.heap.size (w4.alloc (.cells #[.slice A3 r.length c3] 23)) w5 := (Below.refl _ _).grown hgr (by rw [size_alloc_]; omega) (fun g hg => (hon.lt g hg).1); have HR5 := Lib.hid ((HR4.out.below haln).grown2 hon hgr); have HN5 : Hid (NextU L0 w.heap.size ev w5 (.slice A5 (nx.length + 1) c5) (nx ++ [r])) := Lib.hid (NextU.snoc J1.out hon J4.out HRX.out HRE2.out (by omega) hb5 hown hgr); have HO5 := Lib.hid (own_grown (own_below HO4.out haln) hgr (own_ne (by decide) (own_below HO4.out haln) hon)); have hB5 := (hB4.trans (haln.mono hlo4)).trans hb5; have hal : Below w5.heap.size w5 (w5.alloc (.cells #[.int .i64 ((nx.length : Nat) : Int)] 3)) := b_alloc _ _; have ho := own_below HO5.out hal; have hzw5 : wo.heap.size ≤ w5.heap.size := Nat.le_trans hzw4 (Nat.le_trans haln.size hgr.size); have hlow5 : w.heap.size ≤ w5.heap.size := hB5.size; clear hown hgr hb5) | (at_builtin; refine wpList_append_own _ rfl _ _ 22 rfl wo.heap.size 3 i0 _ 1 8 Try.underlying22 hi0 hz0 hz1 hz2 rfl (by decide) ov _ _ rfl ho ⟨w5.heap.size, 0, none⟩ 1 1 [.int .i64 ((nx.length : Nat) : Int)] rfl rfl (cell_one_new _ _ _) (by simp [Value.oneCell']) (by unfold maxLen; omega) (by omega) (by rw [size_alloc_]; omega) ?_; intro v1 w6 hown hgr _))
                  have hbo : Below wo.heap.size (w5.alloc (.cells #[.int .i64 ((nx.length : Nat) : Int)] 3)) w6 := (Below.refl _ _).grown hgr (by rw [size_alloc_]; omega) (fun g hg => (ho.lt g hg).1)
                  have HR6 := Lib.hid ((HR5.out.below hal).grown ho hgr HGL.out)
                  have HN6 := Lib.hid (((HN5.out.below hlow5 hal).grown (hbo.mono hbs) ho hgr))
                  have HB6 := (hB5.trans (hal.mono hlow5)).trans (hbo.mono hbs)
                  have hz6 : wo.heap.size ≤ w6.heap.size := by have := hgr.size; rw [size_alloc_] at this; omega
                  have HO6 : Hid (w6.ownsRow wo.heap.size 3 1 v1 (v + 1) ((rowTo (nextS lay) L (v + 1)).map (.int .i64))) := Lib.hid (by rw [HW.out.2, List.map_append]; exact hown)
                  clear hown hgr hbo ho hal
                  go_roundw
                  case rel => exact ⟨v + 1, _, v1, by omega, by go_num, rfl, rfl, HR6, Lib.hid (by rw [HW.out.1]; exact HN6.out), HO6, HB6, hz6⟩
                  case measure => simp [intOf]; omega
                · rw [hf]
                  have HW := Lib.hid (way_old (lay := lay) HLK.out hlt2 (by rw [HRE.out]; exact HRN.out) (j := j) (by rw [HNX.out, HRE.out]; exact hf))
                  rw [HNX.out] at HW
                  clear hf HN4 HN3 HR3 HO3 hb4
                  have hal : Below w4.heap.size w4 (w4.alloc (.cells #[.int .i64 ((j : Nat) : Int)] 3)) := b_alloc _ _
                  have ho := own_below HO4.out hal
                  have hzw4 : wo.heap.size ≤ w4.heap.size := by omega
                  have hlow4 : w.heap.size ≤ w4.heap.size := hB4.size
                  go_wp2_with (at_builtin; refine wpList_append_own _ rfl _ _ 22 rfl wo.heap.size 3 i0 _ 1 8 Try.underlying22 hi0 hz0 hz1 hz2 rfl (by decide) ov _ _ rfl ho ⟨w4.heap.size, 0, none⟩ 1 1 [.int .i64 ((j : Nat) : Int)] rfl rfl (cell_one_new _ _ _) (by simp [Value.oneCell']) (by unfold maxLen; omega) (by omega) (by rw [size_alloc_]; omega) ?_; intro v1 w6 hown hgr _)
                  have hbo : Below wo.heap.size (w4.alloc (.cells #[.int .i64 ((j : Nat) : Int)] 3)) w6 := (Below.refl _ _).grown hgr (by rw [size_alloc_]; omega) (fun g hg => (ho.lt g hg).1)
                  have HR6 := Lib.hid ((HR4.out.below hal).grown ho hgr HGL.out)
                  have HN6 := Lib.hid (((HN4b.out.below hlow4 hal).grown (hbo.mono hbs) ho hgr))
                  have HB6 := (hB4.trans (hal.mono hlow4)).trans (hbo.mono hbs)
                  have hz6 : wo.heap.size ≤ w6.heap.size := by have := hgr.size; rw [size_alloc_] at this; omega
                  have HO6 : Hid (w6.ownsRow wo.heap.size 3 1 v1 (v + 1) ((rowTo (nextS lay) L (v + 1)).map (.int .i64))) := Lib.hid (by rw [HW.out.2, List.map_append]; exact hown)
                  clear hown hgr hbo ho hal
                  go_roundw
                  case rel => exact ⟨v + 1, _, v1, by omega, by go_num, rfl, rfl, HR6, Lib.hid (by rw [HW.out.1]; exact HN6.out), HO6, HB6, hz6⟩
                  case measure => simp [intOf]; omega
        · obtain rfl : v = 6 := by omega
          have t6 : decide (((6 : Nat) : Int) ≤ 5) = false := by decide
          obtain ⟨g, c6, rfl, hg, -⟩ := HoldR.some_of_own (by omega : 0 < 6) hov.out
          have hel : ((lay.take i).map (rowG chS (nextS lay))).length = i := by have := HL.out; rw [List.length_map, List.length_take]; omega
          have hal : Below w2.heap.size w2 (w2.alloc (.cells #[.slice (some ⟨g, 0, none⟩) 6 c6] 22)) := b_alloc _ _
          have hrow : OwnI 3 (w2.alloc (.cells #[.slice (some ⟨g, 0, none⟩) 6 c6] 22)) w.heap.size (.slice (some ⟨g, 0, none⟩) 6 c6) (rowTo (nextS lay) L 6) := ⟨by rw [rowTo_len]; exact own_base (own_below hov.out hal) hbs, by rw [rowTo_len]; omega⟩
          have hra := hr.out.below hal
          have HNA := Lib.hid (hnx.out.below hbs2 hal)
          obtain ⟨h1, rs, h2, h3, h4, h5⟩ := hra
          rw [hel] at h3
          have H1 := Lib.hid h1
          have H2 := Lib.hid h2
          have H3 := Lib.hid h3
          have H5 := Lib.hid h5
          have HEL := Lib.hid hel
          have HROW := Lib.hid hrow
          clear h1 h2 h5 hel hrow hr hnx hov hal
          go_wp2_with (at_builtin; refine wpList_append_blk rfl _ _ 23 rfl w.heap.size 22 i1 _ 1 24 Try.underlying23 hi1 hy0 hy1 hy2 rfl (by decide) ev _ _ rfl h3 ⟨w2.heap.size, 0, none⟩ 1 1 [.slice (some ⟨g, 0, none⟩) 6 c6] rfl rfl (cell_one_new _ _ _) (by simp [Value.oneCell']) (by unfold maxLen; omega) (by omega) (by rw [size_alloc_]; omega) ?_; intro ev1 w3 hown hbw hgr hblk)
          have hbb : Below w.heap.size w w3 := (hb2.trans ((b_alloc w2 (.cells #[.slice (some ⟨g, 0, none⟩) 6 c6] 22)).mono hbs2)).trans hbw
          have HR6 : Hid (RowsAt w3 w.heap.size ev1 ((lay.take (i + 1)).map (rowG chS (nextS lay))) (gs ++ [g]) ∧ (gs ++ [g]).Nodup) := Lib.hid ⟨by
            rw [List.take_add_one, HLK.out, List.map_append]
            exact RowsAt.snoc H1.out H2.out (by rw [HEL.out]; exact H3.out) H5.out HROW.out rfl (by rw [HEL.out]; omega) (by rw [HEL.out]; exact hown) hgr, by
            rw [List.nodup_append]
            refine ⟨HND.out, by simp, fun a ha b hb' e => ?_⟩
            rw [List.mem_singleton.1 hb'] at e
            have := HGL.out a ha
            omega⟩
          have HN6 : Hid (NextU L0 w.heap.size ev1 w3 vn (nxL chS lay (i + 1))) := Lib.hid (by
            rw [nxL, HLK.out]
            exact HNA.out.grownE hbw H3.out hgr hblk)
          clear hown hgr hblk
          go_roundw
          case rel => exact ⟨i + 1, ev1, vn, gs ++ [g], by omega, by go_num, rfl, rfl, HR6, HN6, hbb⟩
          case measure => simp [intOf]; omega
    · obtain rfl : i = n := by omega
      go_wp2_with fail
      refine bodyPost_ret (v := .tuple #[ev, vn]) (by simp [results, Try.results48, go_sem]) rfl ⟨ev, vn, gs, rfl, ?_, hr.out.2, ?_, hb⟩
      · have := hr.out.1
        rwa [← HL.out, List.take_length] at this
      · have := hnx.out
        rw [← HL.out] at this
        exact this
end Go.Proofs.Ytfmdgdamelkelaa
/- spec's BuildDiagram. -/
namespace Go.Proofs.Ytfmdgdamelkelaa
open Go.ChangeShapes Go.WideShapes Go.ChangeAt Go.RowKit
open Go.Shelf
set_option linter.unusedVariables false
set_option maxRecDepth 100000
attribute [local go_sem] Oper.semAt_some

/-- the list of all tuples, read. -/
theorem FoundS.rowK {W : World} {B : Nat} {v : Value} {fs : List (List Int)} (h : FoundS W B v fs) : RowC (RowK (fun b => B ≤ b ∧ b < W.heap.size)) W W.heap.size v fs := by
  obtain ⟨us, h1, h2, h3, h4⟩ := h
  have hk : ∀ (i : Nat) u x, us[i]? = some u → fs[i]? = some x → RowK (fun b => B ≤ b ∧ b < W.heap.size) W W.heap.size u x := fun i u x hu hx => by
    obtain ⟨ho, hl⟩ := h4 i u x hu hx
    obtain ⟨A, c, e, hr, -⟩ := IntR.of_own ho hl
    subst e
    refine ⟨A, c, rfl, ?_, hr, fun hn b o e => ?_⟩
    · rcases ho.2 with ⟨e, e2⟩ | ⟨g, cap, cur, e, -, -, hc, -⟩
      · omega
      · injection e with _ _ e3; omega
    · subst e
      exact own_lt ho rfl
  rcases h2.2 with ⟨rfl, h6⟩ | ⟨g, cap, cur, rfl, hg, hh, hcap, hmax, hsz, ht⟩
  · exact ⟨none, 0, by rw [h6], rfl, h3, fun hn => absurd hn (by omega)⟩
  · refine ⟨some ⟨g, 0, none⟩, cap, rfl, rfl, h3, fun hn => ⟨g, 0, rfl, (h2.lt g rfl).2, fun i x hx => ?_⟩⟩
    have hi : i < fs.length := (List.getElem?_eq_some_iff.1 hx).1
    refine ⟨us[i]'(by omega), ?_, hk i _ x (List.getElem?_eq_getElem (by omega)) hx⟩
    have := h2.cells rfl i (us[i]'(by omega)) (List.getElem?_eq_getElem (by omega))
    rw [add_own] at this
    rw [Nat.zero_add]; exact this
/-- what BuildDiagram gives: nothing, or own layers at blocks that differ. -/
def DgR (W : World) (lo : Nat) (v : Value) (d : List (List (List Int))) : Prop := ∃ gss : List (List Nat), DgAt W lo v d gss ∧ gss.flatten.Nodup
theorem DgR.nil (W : World) (lo : Nat) : DgR W lo (.slice none 0 0) [] := ⟨[], DgAt.nil (World.ownsRow_nil _ _ _ _), by simp⟩
theorem DgAt.base {W : World} {lo lo' : Nat} {v : Value} {d : List (List (List Int))} {gss : List (List Nat)} (h : DgAt W lo v d gss) (hl : lo' ≤ lo) : DgAt W lo' v d gss := by
  obtain ⟨a, us, b, c, e, f⟩ := h
  exact ⟨a, us, b, own_base c hl, e, fun i u es gs hu he hg => (f i u es gs hu he hg).base hl⟩
theorem lay_next : ∀ (i : Nat) (lay : List (List (List Int))), nextS (layN lay i) = layN lay (i + 1)
  | 0, lay => rfl
  | i + 1, lay => by
    rw [← layN_next lay i, ← layN_next lay (i + 1)]
    exact lay_next i (nextS lay)
theorem one_layer {P : Nat → Prop} {W : World} {A : Option Addr} {c : Nat} {all : List (List Int)} (h : SlR (RowK P) W W.heap.size A all.length all) :
    RowC (RowC (RowK P)) (W.alloc (.cells #[.slice A all.length c] 23)) (W.alloc (.cells #[.slice A all.length c] 23)).heap.size (.slice (some ⟨W.heap.size, 0, none⟩) 1 1) [all] := by
  have hb := b_alloc W (.cells #[.slice A all.length c] 23)
  refine ⟨some ⟨W.heap.size, 0, none⟩, 1, rfl, rfl, by simp, fun _ => ⟨_, 0, rfl, by rw [size_alloc_]; omega, fun k x hx => ?_⟩⟩
  match k, hx with
  | 0, hx =>
    simp at hx
    subst hx
    refine ⟨.slice A all.length c, ?_, A, c, rfl, (h.below RowK.keeps hb).more RowK.widens hb.size⟩
    have := cell_one_new W (.slice A all.length c) 23 0 _ rfl
    exact this
  | k + 1, hx => simp at hx
set_option maxHeartbeats 16000000 in
theorem sBuildDiagram (us : List Value) (c : Con) (A : Option Addr) (n d : Nat) (ds : List Int) (w : World) (h : ConR w w.heap.size us c) (hx : IntR w w.heap.size A n ds) :
    Calls Try.prog 10 #[.agg us.toArray, .slice A n d] w fun e w' => ∃ v, e = .returned v ∧ DgR w' w.heap.size v (bdgF c ds) ∧ Below w.heap.size w w' := by
  obtain ⟨i2, hi2, hx0, hx1, hx2⟩ := info_parts (P := Try.prog) (e := 23) (z := .slice none 0 0) (size := 1) (bytes := 24) (by kernel_rfl)
  have hl := Lib.hid hx.len
  obtain ⟨va, aa, ra, cv, ca, cr, rfl, -⟩ := id h
  obtain ⟨w1, hw1⟩ : ∃ w1, w1 = w.alloc (.cells #[.int .i64 c.kind, .slice va c.vars.length cv, .slice aa c.args.length ca, .int .i64 c.bound, .slice ra c.rows.length cr] 29) := ⟨_, rfl⟩
  have hb1 : Below w.heap.size w w1 := by rw [hw1]; exact b_alloc _ _
  have ha1 : CBlk w1 w.heap.size (.int .i64 c.kind) (.slice va c.vars.length cv) (.slice aa c.args.length ca) (.int .i64 c.bound) (.slice ra c.rows.length cr) := by rw [hw1]; exact CBlk.new w _ _ _ _ _
  obtain ⟨wa, hwa⟩ : ∃ wa, wa = w1.alloc (.cells #[] 23) := ⟨_, rfl⟩
  have hba : Below w1.heap.size w1 wa := by rw [hwa]; exact b_alloc _ _
  have ha : CBlk wa w.heap.size (.int .i64 c.kind) (.slice va c.vars.length cv) (.slice aa c.args.length ca) (.int .i64 c.bound) (.slice ra c.rows.length cr) := ha1.below hba ha1.lt
  have hb0 : Below w.heap.size w wa := bgo hb1 hba
  have HO : Hid (DgAt wa w1.heap.size (.slice (some ⟨w1.heap.size, 0, none⟩) 0 0) [] [] ∧ w1.heap.size < wa.heap.size) := Lib.hid ⟨DgAt.nil (by rw [hwa]; exact World.ownsRow_lit w1 #[] 0 (Nat.le_refl _) (by decide) rfl), by rw [hwa, size_alloc_]; omega⟩
  have HC1 := Lib.hid (ConR.on h hb0)
  have GX := Lib.hid (IntR.on hx hb0)
  have HC0 := Lib.hid h
  have HX0 := Lib.hid hx
  have HA := Lib.hid ha
  obtain ⟨a0, a1, a2, a3, a4⟩ := ha.cells
  have hsz1 : w1.heap.size = w.heap.size + 1 := by rw [hw1, size_alloc_]
  clear ha ha1 h hx hba
  go_enter Try.func10, Try.ntmps10
  go_wp2_with fail
  rw [← hw1, ← hwa]
  clear hw1 hwa
  rw [hsz1] at HO
  clear hsz1
  refine (svalidDomainsF _ _ _ _ _ GX.out).mono ?_
  rintro e w' ⟨rfl, rfl⟩
  cases t0 : dokF ds
  · have HE := Lib.hid (show bdgF c ds = [] by unfold bdgF; rw [t0]; rfl)
    clear t0
    go_wp2_with fail
    go_ret
    exact ⟨_, rfl, by rw [HE.out]; exact DgR.nil _ _, hb0⟩
  obtain ⟨hl1, hl4, hdoms⟩ := dok_parts t0
  have HDM := Lib.hid hdoms
  rw [hl.out] at hl1 hl4
  have HD := Lib.hid t0
  clear t0 hdoms
  go_wp2_with fail
  refine (svalidConstraint _ c _ _ HC1.out).mono ?_
  rintro e w2 ⟨rfl, hb2⟩
  have HA2 := Lib.hid (HA.out.below hb2 HA.out.lt)
  obtain ⟨d0, d1, d2, d3, d4⟩ := HA2.out.cells
  have HB2 := Lib.hid (bgo hb0 hb2)
  have HO2 := Lib.hid (And.intro (HO.out.1.below hb2) (Nat.lt_of_lt_of_le HO.out.2 hb2.size))
  have HC2 := Lib.hid (ConR.on HC1.out hb2)
  have HX2 := Lib.hid (IntR.on GX.out hb2)
  clear a0 a1 a2 a3 a4 hb2 HC1 GX HA hb0 HO
  cases t0 : vconF c (n : Int)
  · have HE := Lib.hid (show bdgF c ds = [] by unfold bdgF; rw [hl.out, t0]; simp)
    clear t0
    go_wp2_with fail
    go_ret
    exact ⟨_, rfl, by rw [HE.out]; exact DgR.nil _ _, HB2.out⟩
  have hvp := vcon_vars t0 hl4
  have hm4 : c.vars.length ≤ 4 := by omega
  have HE := Lib.hid (show bdgF c ds = (if allF c ds = [] then [] else bdL c.vars.length [allF c ds]) by unfold bdgF; rw [hl.out, t0, HD.out]; rfl)
  have hT := stuples _ c A n d ds w2 HC2.out HX2.out HDM.out t0 hl4
  rw [allF_eq] at hT
  have HT := Lib.hid hT
  clear hT t0 HC2 HX2 HDM hvp
  go_wp2_with fail
  refine HT.out.mono ?_
  rintro e w3 ⟨v, rfl, hF, hb3⟩
  have hFK := hF.rowK
  obtain ⟨A3, c3, rfl, hS⟩ := hFK
  have hz3 := hb3.size
  have HS := Lib.hid hS
  have HA3 := Lib.hid (HA2.out.below hb3 HA2.out.lt)
  have HB3 := Lib.hid (bgo HB2.out hb3)
  have HO3 := Lib.hid (And.intro (HO2.out.1.below hb3) HO2.out.2)
  clear hF hS HA2 HB2 HO2 HT hb3 d0 d1 d2 d3 d4
  by_cases hall : allF c ds = []
  · have HR := Lib.hid (show bdgF c ds = [] by rw [HE.out, if_pos hall])
    have hlen : ((((allF c ds).length : Nat) : Int) == 0) = true := by rw [hall]; rfl
    have hlen2 : (allF c ds).length = 0 := by rw [hall]; rfl
    clear hall
    go_wp2_with fail
    go_ret
    exact ⟨_, rfl, by rw [HR.out]; exact DgR.nil _ _, HB3.out⟩
  · have HR := Lib.hid (show bdgF c ds = bdL c.vars.length [allF c ds] by rw [HE.out, if_neg hall])
    have HLAY := Lib.hid (allF_lay hm4 hall)
    have hlen2 : 0 < (allF c ds).length := List.length_pos_iff.2 hall
    obtain ⟨all, hae⟩ : ∃ all, allF c ds = all := ⟨_, rfl⟩
    rw [hae] at HR HLAY hlen2 HS
    have hlen : (((all.length : Nat) : Int) == 0) = false := by have h : ((all.length : Nat) : Int) ≠ 0 := (by omega); simpa using h
    rw [hae]
    obtain ⟨m, hm⟩ : ∃ m, c.vars.length = m := ⟨_, rfl⟩
    rw [hm] at HR HLAY hm4 HA3
    have HL1 := Lib.hid (one_layer (c := c3) HS.out)
    clear hall hae HE HS hm
    go_wp2_with fail
    go_loopw [5, 7, 8] (fun t5 t7 t8 wr => ∃ (i : Nat) (ov lv : Value) (gss : List (List Nat)), i ≤ m ∧ t8 = .int .i64 i ∧ ov = t5 ∧ lv = t7 ∧ Hid (DgAt wr (w.heap.size + 1) ov ((bdL m [all]).take i) gss ∧ gss.flatten.Nodup ∧ ∀ b, ov.ownBlock = some b → ¬ (w2.heap.size ≤ b ∧ b < w3.heap.size)) ∧ Hid (RowC (RowC (RowK (fun b => w2.heap.size ≤ b ∧ b < w3.heap.size))) wr wr.heap.size lv (layN [all] i)) ∧ Hid (Below (w.heap.size + 1) w3 wr)) (fun _ _ t8 _ => m - (intOf t8).toNat)
    case atStart => exact ⟨0, _, _, [], by omega, rfl, rfl, rfl, Lib.hid ⟨HO3.out.1.below (b_alloc _ _), by simp, fun b hb => by
      injection hb with hb
      have hb' : w.heap.size + 1 = b := hb
      have := HO3.out.2
      omega⟩, HL1, Lib.hid ((b_alloc _ _).mono (by have := HO3.out.2; omega))⟩
    case round =>
      obtain ⟨i, ov, lv, gss, hi, rfl, rfl, rfl, hD, hLv, hB⟩ := hrel
      have hbx : wr.cell? ⟨w.heap.size, 1, none⟩ = some (.slice va m cv) := (hB.out.cell (p := ⟨w.heap.size, 1, none⟩) (by show w.heap.size < _; omega)).trans HA3.out.cells.2.1
      have hzr := hB.out.size
      by_cases hlt : i < m
      · obtain ⟨A5, c5, rfl, hS5⟩ := hLv.out
        have hlb := lay_bounds hm4 HLAY.out hlt
        have HC := Lib.hid (snextLayer A5 _ c5 (layN [all] i) wr hS5 hlb.2 hlb.1)
        clear hS5 hlb hLv
        go_wp2_with fail
        refine HC.out.mono ?_
        rintro e w5 ⟨ev, vn, gs, rfl, hR, hnd, hN, hb5⟩
        obtain ⟨h1, us, h2, h3, h4, h5⟩ := hD.out.1
        have hel : ((bdL m [all]).take i).length = i := by rw [List.length_take, bd_len]; omega
        rw [hel] at h3
        obtain ⟨Ae, ce, rfl⟩ : ∃ Ae ce, ev = .slice Ae (layN [all] i).length ce := by
          obtain ⟨-, rs, -, k3, -⟩ := hR
          have := (HoldR.of_own k3).form
          rwa [List.length_map] at this
        have HBK := Lib.hid (fun b hb => (And.intro (own_lt h3 hb).2 (hD.out.2.2 b hb)))
        have hz5 := hb5.size
        have hal : Below w5.heap.size w5 (w5.alloc (.cells #[.slice Ae (layN [all] i).length ce] 23)) := b_alloc _ _
        have hba := hb5.trans (hal.mono hz5)
        have HDP := Lib.hid (And.intro h1 (And.intro h2 (fun i u es gs hu he hg => ((h5 i u es gs hu he hg).below hb5).below hal)))
        have HRA := Lib.hid ((hR.below hal).base (show w.heap.size + 1 ≤ wr.heap.size by have := HO3.out.2; omega))
        have HNA := Lib.hid (hN.below hz5 hal)
        have ho := own_below (own_below h3 hb5) hal
        have HEL := Lib.hid hel
        have HND := Lib.hid (show (gss ++ [gs]).flatten.Nodup by
          rw [List.flatten_append, List.nodup_append]
          refine ⟨hD.out.2.1, by simpa using hnd, fun a ha b hb' e => ?_⟩
          have q1 := (hD.out.1.lt a ha).2
          have q2 := (hR.lt b (by simpa using hb')).1
          omega)
        have HBA := Lib.hid hba
        have hw3 : w.heap.size + 1 < w3.heap.size := by have := HO3.out.2; omega
        clear h1 h2 h3 h5 hel hR hN hnd hb5 hD HC hba hal
        go_wp2_with (at_builtin; refine wpList_append_blk rfl _ _ 27 rfl (w.heap.size + 1) 23 i2 _ 1 24 Try.underlying27 hi2 hx0 hx1 hx2 rfl (by decide) ov _ _ rfl ho ⟨w5.heap.size, 0, none⟩ 1 1 [.slice Ae (layN [all] i).length ce] rfl rfl (cell_one_new _ _ _) (by simp [Value.oneCell']) (by unfold maxLen; omega) (by omega) (by rw [size_alloc_]; omega) ?_; intro ov1 w6 hown hbw hgr hblk)
        have HB6 := Lib.hid (hB.out.trans ((HBA.out.mono (show w.heap.size + 1 ≤ wr.heap.size by omega)).trans hbw))
        have HD6 : Hid (DgAt w6 (w.heap.size + 1) ov1 ((bdL m [all]).take (i + 1)) (gss ++ [gs]) ∧ (gss ++ [gs]).flatten.Nodup ∧ ∀ b, ov1.ownBlock = some b → ¬ (w2.heap.size ≤ b ∧ b < w3.heap.size)) := Lib.hid ⟨by
          rw [bd_take m [all] hlt, ← lay_next i]
          exact DgAt.snoc HDP.out.1 HDP.out.2.1 (by rw [HEL.out]; exact ho) HDP.out.2.2 HRA.out (by rw [HEL.out]; omega) (by rw [HEL.out]; exact hown) hgr, HND.out, fun b hb => by
            rcases hblk with e | e
            · rw [e] at hb; exact (HBK.out b hb).2
            · rw [e] at hb
              injection hb with hb
              rw [size_alloc_] at hb
              omega⟩
        have HN6 : Hid (RowC (RowC (RowK (fun b => w2.heap.size ≤ b ∧ b < w3.heap.size))) w6 w6.heap.size vn (layN [all] (i + 1))) := Lib.hid (by
          have := (HNA.out.grownO ho hgr HBK.out (fun b hb => by rw [size_alloc_]; omega)).read
          rwa [lay_next] at this)
        clear hown hgr hblk hbw
        go_roundw
        case rel => exact ⟨i + 1, ov1, vn, gss ++ [gs], by omega, by go_num, rfl, rfl, HD6, HN6, HB6⟩
        case measure => simp [intOf]; omega
      · obtain rfl : i = m := by omega
        go_wp2_with fail
        go_ret
        refine ⟨_, rfl, ?_, HB3.out.trans (hB.out.mono (Nat.le_succ _))⟩
        rw [HR.out]
        have := hD.out.1
        rw [List.take_of_length_le (by rw [bd_len]; exact Nat.le_refl _)] at this
        exact ⟨gss, this.base (by omega), hD.out.2.1⟩
end Go.Proofs.Ytfmdgdamelkelaa
