/- Small laws on what is owned: forms, nil, boxes. -/
import Derived.Test.YtjpcdbdaimonlaaGrow
import Derived.Test.YtjpcdbdaimonlaaHold
namespace Go.Proofs.Ytjpcdbdaimonlaa
open Go.ChangeShapes Go.WideShapes Go.ChangeAt Go.RowKit
open Go.Shelf
set_option linter.unusedVariables false
set_option maxRecDepth 100000

theorem own_blk {w : World} {base n size g : Nat} {e t : TypeId} {v : Value} {xs : List Value} {cs : Array Value} (hne : t ≠ e) (h : w.ownsRow base e size v n xs) (ht : TBlk t w g cs) : some g ≠ v.ownBlock := by
  intro he
  rcases h.2 with ⟨e1, -⟩ | ⟨g', cap, cur, e1, -, hh, -⟩
  · rw [e1] at he; cases he
  · rw [e1] at he
    injection he with he
    have he' : g' = g := he.symm
    subst he'
    unfold TBlk at ht
    rw [ht] at hh
    injection hh with hh
    injection hh with _ e2 _
    exact hne e2
section
variable {w w' : World} {base : Nat}
theorem OwnI.form {e : TypeId} {v : Value} {xs : List Int} (h : OwnI e w base v xs) : ∃ A c, v = .slice A xs.length c := (HoldR.of_own h.1).form
theorem OwnOf.form {α : Type} {e : TypeId} {In : World → Nat → Value → α → Prop} {v : Value} {xs : List α} (h : OwnOf e In w base v xs) : ∃ A c, v = .slice A xs.length c := by
  obtain ⟨us, -, h2, -⟩ := h
  exact (HoldR.of_own h2).form
theorem OwnK.form {α : Type} {e : TypeId} {m : Nat} {In : World → Nat → List Value → α → Prop} {v : Value} {xs : List α} (h : OwnK e m In w base v xs) : ∃ A c, v = .slice A xs.length c := by
  obtain ⟨us, -, -, h2, -⟩ := h
  exact (HoldR.of_own h2).form
theorem OwnRows.nil0 (w : World) (B : Nat) : OwnOf 23 (OwnI 3) w B (.slice none 0 0) [] := ⟨[], rfl, World.ownsRow_nil _ _ _ _, by simp, fun i u x hu => by simp at hu⟩
theorem OwnCons.nil0 (w : World) (B : Nat) : OwnCons w B (.slice none 0 0) [] := ⟨[], rfl, fun u hu => by simp at hu, World.ownsRow_nil _ _ _ _, by simp, fun i u x hu => by simp at hu⟩
end
theorem OwnConU.shunsM : ShunsK 26 OwnConU := fun w base us c g j cs fr u hg ho => by
  obtain ⟨vv, av, rv, e, h1, h2, h3⟩ := ho
  exact ⟨vv, av, rv, e, OwnI.shuns (show (26 : TypeId) ≠ 3 by decide) _ _ _ _ _ j _ _ u hg h1, OwnI.shuns (show (26 : TypeId) ≠ 3 by decide) _ _ _ _ _ j _ _ u hg h2, OwnOf.shuns (show (26 : TypeId) ≠ 23 by decide) (OwnI.shuns (show (26 : TypeId) ≠ 3 by decide)) _ _ _ _ _ j _ _ u hg h3⟩
theorem TBlk.on {t : TypeId} {w w' : World} {b : Nat} {cs : Array Value} (h : TBlk t w b cs) (hb : Below w.heap.size w w') : TBlk t w' b cs := h.below_ hb h.lt
theorem TBlk.drew_ {t : TypeId} {w : World} {b : Nat} {cs : Array Value} (h : TBlk t w b cs) : TBlk t w.drew b cs := h
theorem own_drew {w : World} {base n size : Nat} {e : TypeId} {v : Value} {xs : List Value} (h : w.ownsRow base e size v n xs) : w.drew.ownsRow base e size v n xs := h
theorem TBlk.grown {w w' : World} {base n size g : Nat} {e t : TypeId} {v : Value} {xs : List Value} {cs : Array Value} (hne : t ≠ e) (ht : TBlk t w g cs) (h : w.ownsRow base e size v n xs) (hg : w.grownBy w' v.ownBlock) : TBlk t w' g cs := (hg.block g ht.lt (own_blk hne h ht)).trans ht
theorem src_blk {t : TypeId} {w : World} {b : Nat} {cs : List Value} (h : TBlk t w b cs.toArray) (ha : 0 < cs.length) : Src w cs.length (some ⟨b, 0, none⟩) 1 1 cs := .inr ⟨_, rfl, by simp, fun j u hu => by rw [add_own]; exact h.at_ j (by simpa using hu)⟩
theorem Below.drew_ {B : Nat} {a w : World} (h : Below B a w) : Below B a w.drew := below_drewN h 1
theorem Below.alloc0 {a w : World} (h : Below a.heap.size a w) (o : Obj) : Below a.heap.size a (w.alloc o) := h.alloc h.size o
end Go.Proofs.Ytjpcdbdaimonlaa
