/- Weighted constraints: the laws' copies, sizes and comparisons. -/
import Derived.Test.YthnkeiofehcekaaBox
namespace Go.Proofs.Ythnkeiofehcekaa
open Go.ChangeShapes Go.WideShapes Go.ChangeAt Go.RowKit
open Go.Shelf
set_option linter.unusedVariables false
set_option maxRecDepth 100000

theorem SofA.on {w w' : World} {us : List Value} {c : Sof} (h : SofA w w.heap.size us c) (hb : Below w.heap.size w w') : SofA w' w'.heap.size us c := SofA.widens _ _ _ _ _ hb.size (SofA.keeps _ _ _ _ _ (fun _ hp => hb.cell hp) h)
theorem SofR.on {w w' : World} {us : List Value} {c : Sof} (h : SofR w w.heap.size us c) (hb : Below w.heap.size w w') : SofR w' w'.heap.size us c := SofR.widens _ _ _ _ _ hb.size (SofR.keeps _ _ _ _ _ (fun _ hp => hb.cell hp) h)
theorem SofA.cells {w : World} {B : Nat} {us : List Value} {s : Sof} (h : SofA w B us s) : ∃ va aa ra cv ca cr, us = [.int .i64 s.con.kind, .slice va s.con.vars.length cv, .slice aa s.con.args.length ca, .int .i64 s.con.bound, .slice ra s.con.rows.length cr, .int .i64 s.weight] := by
  obtain ⟨us0, rfl, va, aa, ra, cv, ca, cr, rfl, -⟩ := h
  exact ⟨_, _, _, _, _, _, rfl⟩
theorem SofR.cells {w : World} {B : Nat} {us : List Value} {s : Sof} (h : SofR w B us s) : ∃ va aa ra cv ca cr, us = [.int .i64 s.con.kind, .slice va s.con.vars.length cv, .slice aa s.con.args.length ca, .int .i64 s.con.bound, .slice ra s.con.rows.length cr, .int .i64 s.weight] := by
  obtain ⟨us0, rfl, va, aa, ra, cv, ca, cr, rfl, -⟩ := h
  exact ⟨_, _, _, _, _, _, rfl⟩
theorem SofA.con {w : World} {B : Nat} {a b c d e f : Value} {s : Sof} (h : SofA w B [a, b, c, d, e, f] s) : f = .int .i64 s.weight ∧ ConA w B [a, b, c, d, e] s.con := by
  obtain ⟨us0, e1, va, aa, ra, cv, ca, cr, rfl, h⟩ := h
  simp only [List.cons_append, List.nil_append, List.cons.injEq, and_true] at e1
  obtain ⟨rfl, rfl, rfl, rfl, rfl, rfl⟩ := e1
  exact ⟨rfl, va, aa, ra, cv, ca, cr, rfl, h⟩
theorem SofR.con {w : World} {B : Nat} {a b c d e f : Value} {s : Sof} (h : SofR w B [a, b, c, d, e, f] s) : f = .int .i64 s.weight ∧ ConR w B [a, b, c, d, e] s.con := by
  obtain ⟨us0, e1, va, aa, ra, cv, ca, cr, rfl, h⟩ := h
  simp only [List.cons_append, List.nil_append, List.cons.injEq, and_true] at e1
  obtain ⟨rfl, rfl, rfl, rfl, rfl, rfl⟩ := e1
  exact ⟨rfl, va, aa, ra, cv, ca, cr, rfl, h⟩
def SmSof (s : Sof) : Prop := SmCon s.con
def OwnSof (w : World) (base : Nat) (v : Value) (s : Sof) : Prop := ∃ vv av rv, v = .agg #[.int .i64 s.con.kind, vv, av, .int .i64 s.con.bound, rv, .int .i64 s.weight] ∧ OwnI 3 w base vv s.con.vars ∧ OwnI 3 w base av s.con.args ∧ OwnOf 24 (OwnI 3) w base rv s.con.rows
theorem OwnSof.con {w : World} {base : Nat} {a b c d e f : Value} {s : Sof} (h : OwnSof w base (.agg #[a, b, c, d, e, f]) s) : OwnCon w base (.agg #[a, b, c, d, e]) s.con := by
  obtain ⟨vv, av, rv, he, h1, h2, h3⟩ := h
  injection he with he
  have he2 : [a, b, c, d, e, f] = [.int .i64 s.con.kind, vv, av, .int .i64 s.con.bound, rv, .int .i64 s.weight] := by simpa using congrArg Array.toList he
  simp only [List.cons.injEq, and_true] at he2
  obtain ⟨rfl, rfl, rfl, rfl, rfl, rfl⟩ := he2
  exact ⟨_, _, _, rfl, h1, h2, h3⟩
def OwnSofU : World → Nat → List Value → Sof → Prop := fun w b us c => OwnSof w b (.agg us.toArray) c
theorem OwnSofU.stays : StaysK OwnSofU :=
  ⟨fun _ _ _ _ _ hb ⟨vv, av, rv, e, h1, h2, h3⟩ => ⟨vv, av, rv, e, (OwnI.stays 3).below _ _ _ _ _ hb h1, (OwnI.stays 3).below _ _ _ _ _ hb h2, (OwnOf.stays (OwnI.stays 3)).below _ _ _ _ _ hb h3⟩,
   fun _ _ _ _ _ hb ⟨vv, av, rv, e, h1, h2, h3⟩ => ⟨vv, av, rv, e, (OwnI.stays 3).base _ _ _ _ _ hb h1, (OwnI.stays 3).base _ _ _ _ _ hb h2, (OwnOf.stays (OwnI.stays 3)).base _ _ _ _ _ hb h3⟩⟩
theorem OwnSofU.shun {t : TypeId} (h1 : t ≠ 3) (h2 : t ≠ 24) : ShunsK t OwnSofU := by
  intro w base us c g j cs fr u hg h
  obtain ⟨vv, av, rv, e, k1, k2, k3⟩ := h
  exact ⟨vv, av, rv, e, OwnI.shuns h1 _ _ _ _ _ j _ _ _ hg k1, OwnI.shuns h1 _ _ _ _ _ j _ _ _ hg k2, OwnOf.shuns h2 (OwnI.shuns h1) _ _ _ _ _ j _ _ _ hg k3⟩
theorem OwnSofU.shuns : ShunsK 35 OwnSofU := OwnSofU.shun (by decide) (by decide)
theorem OwnSofU.read {w : World} {base : Nat} {us : List Value} {c : Sof} (h : OwnSofU w base us c) : SofR w w.heap.size us c := by
  obtain ⟨vv, av, rv, e, h1, h2, h3⟩ := h
  injection e with e
  have e2 : us = [.int .i64 c.con.kind, vv, av, .int .i64 c.con.bound, rv, .int .i64 c.weight] := by simpa using congrArg Array.toList e
  obtain ⟨vs, e3, hr⟩ := OwnCon.read (show OwnCon w base (.agg #[.int .i64 c.con.kind, vv, av, .int .i64 c.con.bound, rv]) c.con from ⟨_, _, _, rfl, h1, h2, h3⟩)
  injection e3 with e3
  have e4 : [.int .i64 c.con.kind, vv, av, .int .i64 c.con.bound, rv] = vs := by simpa using congrArg Array.toList e3
  refine ⟨vs, ?_, hr⟩
  rw [e2, ← e4]; rfl
abbrev OwnSofs (w : World) (base : Nat) (v : Value) (xs : List Sof) : Prop := OwnK 35 6 OwnSofU w base v xs
theorem OwnSofs.read {w : World} {base : Nat} {v : Value} {xs : List Sof} (h : OwnSofs w base v xs) : ∃ A c, v = .slice A xs.length c ∧ SofsR w w.heap.size A xs.length xs ∧ xs.length ≤ c := OwnK.read (fun _ _ _ _ h => OwnSofU.read h) h
end Go.Proofs.Ythnkeiofehcekaa
