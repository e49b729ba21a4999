/- Slices of owned things that grow. No program in sight. -/
import Derived.Test.YtjpcdbdaimonlaaMod
import Derived.Test.YtjpcdbdaimonlaaApp
namespace Go.Proofs.Ytjpcdbdaimonlaa
open Go.ChangeShapes Go.WideShapes Go.ChangeAt Go.RowKit
open Go.Shelf
set_option linter.unusedVariables false
set_option maxRecDepth 100000

theorem own_ne {w : World} {base base' n m size size' : Nat} {e e' : TypeId} {v v' : Value} {xs ys : List Value} (he : e ≠ e') (h : w.ownsRow base e size v n xs) (k : w.ownsRow base' e' size' v' m ys) : ∀ b, v'.ownBlock = some b → v.ownBlock ≠ some b := by
  intro b hb hv
  rcases h.2 with ⟨rfl, -⟩ | ⟨g, cap, cur, rfl, -, hh, -⟩
  · cases hv
  rcases k.2 with ⟨rfl, -⟩ | ⟨g', cap', cur', rfl, -, hh', -⟩
  · cases hb
  injection hv with hv
  injection hb with hb
  have hv' : g = b := hv
  have hb' : g' = b := hb
  subst hv' hb'
  rw [hh] at hh'
  injection hh' with hh'
  injection hh' with _ e2 _
  exact he e2
theorem own_grown {w w' : World} {base n size : Nat} {e : TypeId} {v : Value} {xs : List Value} {r : Option Nat} (h : w.ownsRow base e size v n xs) (hg : w.grownBy w' r) (hne : ∀ b, r = some b → v.ownBlock ≠ some b) : w'.ownsRow base e size v n xs := by
  refine ⟨h.1, h.2.imp id fun ⟨g, cap, cur, h1, h2, h3, r'⟩ => ⟨g, cap, cur, h1, h2, ?_, r'⟩⟩
  refine (hg.block g (Array.getElem?_eq_some_iff.1 h3).1 (fun e => hne g e.symm (by rw [h1]; rfl))).trans h3
/-- a row is appended to rows. -/
theorem OwnRows.snoc {w w2 : World} {base : Nat} {e0 e1 : TypeId} (he : e0 ≠ e1) {v v1 : Value} {us : List Value} {u : Value} {xs : List (List Int)} {x : List Int} (h1 : us.length = xs.length) (h2 : w.ownsRow base e1 1 v xs.length us) (h4 : ∀ (i : Nat) u x, us[i]? = some u → xs[i]? = some x → OwnI e0 w base u x)
    (hx : OwnI e0 w base u x) (hl : xs.length + 1 ≤ 9223372036854775807) (hown : w2.ownsRow base e1 1 v1 (xs.length + 1) (us ++ [u])) (hgr : w.grownBy w2 v.ownBlock) : OwnOf e1 (OwnI e0) w2 base v1 (xs ++ [x]) := by
  have hk : ∀ u x, OwnI e0 w base u x → OwnI e0 w2 base u x := fun u x ho => ⟨own_grown ho.1 hgr (own_ne he ho.1 h2), ho.2⟩
  refine ⟨us ++ [u], by simp [h1], by simpa using hown, by simpa using hl, fun i u' x' hu hx' => ?_⟩
  rcases Nat.lt_or_ge i us.length with hi | hi
  · rw [List.getElem?_append_left hi] at hu
    rw [List.getElem?_append_left (by omega)] at hx'
    exact hk _ _ (h4 i u' x' hu hx')
  · have hi2 : i = us.length := by
      rcases Nat.lt_or_ge i (us.length + 1) with h | h
      · omega
      · rw [List.getElem?_eq_none (by simp; omega)] at hu; cases hu
    subst hi2
    rw [List.getElem?_append_right (Nat.le_refl _), Nat.sub_self] at hu
    rw [h1, List.getElem?_append_right (Nat.le_refl _), Nat.sub_self] at hx'
    simp at hu hx'
    subst hu hx'
    exact hk _ _ hx
/-- What is owned stays when a slice of type e grows. -/
def Grows {α : Type} (e : TypeId) (In : World → Nat → List Value → α → Prop) : Prop := ∀ (w w' : World) (base base0 n size : Nat) (v : Value) (ys us : List Value) (x : α), w.ownsRow base0 e size v n ys → w.grownBy w' v.ownBlock → In w base us x → In w' base us x
section
variable {w w' : World} {base base0 n size : Nat} {e : TypeId} {v : Value} {ys : List Value}
theorem OwnI.grown {t : TypeId} (he : t ≠ e) (h : w.ownsRow base0 e size v n ys) (hg : w.grownBy w' v.ownBlock) {u : Value} {x : List Int} (ho : OwnI t w base u x) : OwnI t w' base u x := ⟨own_grown ho.1 hg (own_ne he ho.1 h), ho.2⟩
theorem OwnRows.grown {t t1 : TypeId} (he : t ≠ e) (he1 : t1 ≠ e) (h : w.ownsRow base0 e size v n ys) (hg : w.grownBy w' v.ownBlock) {u : Value} {x : List (List Int)} (ho : OwnOf t1 (OwnI t) w base u x) : OwnOf t1 (OwnI t) w' base u x := by
  obtain ⟨us, h1, h2, h3, h4⟩ := ho
  exact ⟨us, h1, own_grown h2 hg (own_ne he1 h2 h), h3, fun i u x hu hx => (h4 i u x hu hx).grown he h hg⟩
end
theorem OwnConU.grows {e : TypeId} (h1 : 3 ≠ e) (h2 : 23 ≠ e) : Grows e OwnConU := fun w w' base base0 n size v ys us x h hg ho => by
  obtain ⟨vv, av, rv, e1, k1, k2, k3⟩ := ho
  exact ⟨vv, av, rv, e1, k1.grown h1 h hg, k2.grown h1 h hg, OwnRows.grown h1 h2 h hg k3⟩
/-- one more thing of several cells. -/
theorem OwnK.snoc {α : Type} {e : TypeId} {m : Nat} {In : World → Nat → List Value → α → Prop} (hG : Grows e In) {w w2 : World} {base : Nat} {v v1 : Value} {uss : List (List Value)} {u : List Value} {xs : List α} {x : α}
    (h1 : uss.length = xs.length) (h0 : ∀ u ∈ uss, u.length = m) (h2 : w.ownsRow base e m v xs.length uss.flatten) (h4 : ∀ (i : Nat) u x, uss[i]? = some u → xs[i]? = some x → In w base u x)
    (hx : In w base u x) (hu : u.length = m) (hl : xs.length + 1 ≤ 9223372036854775807) (hown : w2.ownsRow base e m v1 (xs.length + 1) (uss.flatten ++ u)) (hgr : w.grownBy w2 v.ownBlock) : OwnK e m In w2 base v1 (xs ++ [x]) := by
  have hk : ∀ us y, In w base us y → In w2 base us y := fun us y => hG w w2 base base _ _ v _ us y h2 hgr
  refine ⟨uss ++ [u], by simp [h1], fun y hy => ?_, by simpa using hown, by simpa using hl, fun i u' x' hu' hx' => ?_⟩
  · rcases List.mem_append.1 hy with h | h
    · exact h0 y h
    · rw [List.mem_singleton.1 h]; exact hu
  rcases Nat.lt_or_ge i uss.length with hi | hi
  · rw [List.getElem?_append_left hi] at hu'
    rw [List.getElem?_append_left (by omega)] at hx'
    exact hk _ _ (h4 i u' x' hu' hx')
  · have hi2 : i = uss.length := by
      rcases Nat.lt_or_ge i (uss.length + 1) with h | h
      · omega
      · rw [List.getElem?_eq_none (by simp; omega)] at hu'; cases hu'
    subst hi2
    rw [List.getElem?_append_right (Nat.le_refl _), Nat.sub_self] at hu'
    rw [h1, List.getElem?_append_right (Nat.le_refl _), Nat.sub_self] at hx'
    simp at hu' hx'
    subst hu' hx'
    exact hk _ _ hx
end Go.Proofs.Ytjpcdbdaimonlaa
