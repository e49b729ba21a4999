/- The marks of a constraint that came in; cuts of a walk behind a region. -/
import Derived.Test.YtjpcdbdaimonlaaLawS
namespace Go.Proofs.Ytjpcdbdaimonlaa
open Go.ChangeShapes Go.WideShapes Go.ChangeAt Go.RowKit
open Go.Shelf
set_option linter.unusedVariables false
set_option maxRecDepth 100000
/-- A constraint whose blocks lie from lo to below hi. -/
def HConV (w : World) (lo hi : Nat) (us : List Value) : Prop := ∃ kk va nv cv aa na ca b ra nr cr, us = [.int .i64 kk, .slice va nv cv, .slice aa na ca, .int .i64 b, .slice ra nr cr] ∧ HCon w lo hi va aa ra nv na nr
theorem HConV.keep {w w' : World} {lo hi : Nat} {us : List Value} (h : HConV w lo hi us) (k : Keep w w') : HConV w' lo hi us := by
  obtain ⟨kk, va, nv, cv, aa, na, ca, b, ra, nr, cr, e, h1⟩ := h
  exact ⟨kk, va, nv, cv, aa, na, ca, b, ra, nr, cr, e, h1.keep k⟩
theorem HConV.of_own {w : World} {base : Nat} {us : List Value} {c : Con} (h : OwnCon w base (.agg us.toArray) c) (hs : SmCon c) : HConV w base w.heap.size us := by
  obtain ⟨vv, av, rv, he, o1, o2, o3⟩ := h
  injection he with he
  have he2 : us = [.int .i64 c.kind, vv, av, .int .i64 c.bound, rv] := by simpa using congrArg Array.toList he
  obtain ⟨A1, c1, hv1, -⟩ := o1.read
  obtain ⟨A2, c2, hv2, -⟩ := o2.read
  obtain ⟨A3, c3, hv3, -⟩ := read2 o3
  rw [hv1] at o1 he2
  rw [hv2] at o2 he2
  rw [hv3] at o3 he2
  exact ⟨_, _, _, _, _, _, _, _, _, _, _, he2, hs.1, hs.2.1, hs.2.2.1, HI.of_own o1, HI.of_own o2, HRows.of_own o3 hs.2.2.2⟩
/-- The walk is cut behind a code: what the code leaves is named, the act by the cells that it has set. -/
theorem wp_cut {P : Program} {c : Code} {Q : Exit → Act → World → Prop} {a : Act} {w : World} {ι : Type} (u : ι → Act → Act) (F : ι → World → Prop) (h : c.wp P (fun e a' w' => e = .normal ∧ ∃ i, a' = u i a ∧ F i w') a w) (k : ∀ i w', F i w' → Q .normal (u i a) w') : c.wp P Q a w :=
  Code.wp_mono (fun e a' w' ⟨he, i, ha, hf⟩ => by subst he ha; exact k i w' hf) h
/-- cells of an act. -/
def Act.sets (a : Act) (l : List (Nat × Value)) : Act := { a with tmps := l.foldl (fun t p => t.setIfInBounds p.1 p.2) a.tmps }
theorem TBlk.on2 {t : TypeId} {w w' : World} {b : Nat} {cs : Array Value} {F : Nat → Prop} (h : TBlk t w b cs) (hb : Below w.heap.size w w') (hf : F w.heap.size) : ∃ B, TBlk t w' b cs ∧ b < B ∧ F B := ⟨_, h.on hb, h.lt, hf⟩
structure CutP where
  p : List Value
  q : List Value
  A : Option Addr
  n : Nat
  c : Nat
  B : Option Addr
  m : Nat
  d : Nat
  g : Nat
theorem OwnModL.modR {w : World} {B : Nat} {us : List Value} {m : Mod} (h : OwnMod w B (.agg us.toArray) m) : ModR w w.heap.size us m := by
  obtain ⟨A, n, c, A', n', c', rfl, hr⟩ := OwnModL.shape h
  exact hr
theorem OwnModL.keep {w w' : World} {B : Nat} {v : Value} {m : Mod} (h : OwnMod w B v m) (hb : Below w.heap.size w w') : OwnMod w' B v m := OwnMod.below h hb
end Go.Proofs.Ytjpcdbdaimonlaa
