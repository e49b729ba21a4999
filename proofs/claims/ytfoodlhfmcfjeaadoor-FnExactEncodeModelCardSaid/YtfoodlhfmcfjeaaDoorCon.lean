/- Constraints and models as a law's arguments and as what functions are handed. No program in sight but the types' shapes. -/
import Derived.Test.YtfoodlhfmcfjeaaDoorRowsI
import Derived.Test.YtfoodlhfmcfjeaaDoorOpen
namespace Go.Proofs.YtfoodlhfmcfjeaaDoor
open Go.RowKit Go.ChangeShapes Go.WideShapes Go.Deep
set_option linter.unusedVariables false
set_option maxRecDepth 100000

/-- A constraint. -/
structure Con where
  kind : Int
  vars : List Int
  args : List Int
  bound : Int
  rows : List (List Int)
  deriving DecidableEq
/-- A constraint's five cells (an argument of the law). -/
def ConA : World → Nat → List Value → Con → Prop := fun w B us c => ∃ va aa ra cv ca cr, us = [.int .i64 c.kind, .slice va c.vars.length cv, .slice aa c.args.length ca, .int .i64 c.bound, .slice ra c.rows.length cr] ∧ IntA w B va c.vars.length c.vars ∧ IntA w B aa c.args.length c.args ∧ SlA (RowA IntC) w B ra c.rows.length c.rows
/-- The same, at plain addresses. -/
def ConR : World → Nat → List Value → Con → Prop := fun w B us c => ∃ va aa ra cv ca cr, us = [.int .i64 c.kind, .slice va c.vars.length cv, .slice aa c.args.length ca, .int .i64 c.bound, .slice ra c.rows.length cr] ∧ IntR w B va c.vars.length c.vars ∧ IntR w B aa c.args.length c.args ∧ SlR (RowC IntC) w B ra c.rows.length c.rows ∧ c.vars.length ≤ cv ∧ c.args.length ≤ ca
theorem ConA.keeps : KeepsK ConA := fun _ _ _ _ _ hk ⟨va, aa, ra, cv, ca, cr, e, h1, h2, h3⟩ => ⟨va, aa, ra, cv, ca, cr, e, h1.keep IntC.keeps hk, h2.keep IntC.keeps hk, h3.keep (RowA.keeps IntC.keeps) hk⟩
theorem ConA.widens : WidensK ConA := fun _ _ _ _ _ hB ⟨va, aa, ra, cv, ca, cr, e, h1, h2, h3⟩ => ⟨va, aa, ra, cv, ca, cr, e, h1.more IntC.widens hB, h2.more IntC.widens hB, h3.more (RowA.widens IntC.widens) hB⟩
theorem ConR.keeps : KeepsK ConR := fun _ _ _ _ _ hk ⟨va, aa, ra, cv, ca, cr, e, h1, h2, h3, h4⟩ => ⟨va, aa, ra, cv, ca, cr, e, h1.keep IntC.keeps hk, h2.keep IntC.keeps hk, h3.keep (RowC.keeps IntC.keeps) hk, h4⟩
theorem ConR.widens : WidensK ConR := fun _ _ _ _ _ hB ⟨va, aa, ra, cv, ca, cr, e, h1, h2, h3, h4⟩ => ⟨va, aa, ra, cv, ca, cr, e, h1.more IntC.widens hB, h2.more IntC.widens hB, h3.more (RowC.widens IntC.widens) hB, h4⟩
theorem ConA.on {w w' : World} {us : List Value} {c : Con} (h : ConA w w.heap.size us c) (hb : Below w.heap.size w w') : ConA w' w'.heap.size us c := ConA.widens _ _ _ _ _ hb.size (ConA.keeps _ _ _ _ _ (fun _ hp => hb.cell hp) h)
theorem ConR.on {w w' : World} {us : List Value} {c : Con} (h : ConR w w.heap.size us c) (hb : Below w.heap.size w w') : ConR w' w'.heap.size us c := ConR.widens _ _ _ _ _ hb.size (ConR.keeps _ _ _ _ _ (fun _ hp => hb.cell hp) h)
theorem trod_part {H : Type} {enc : TypeId × Value → H} {P : Program} {w : World} {base : Nat} {fs : Array Field} {cs : List Value} {xs : List (DataW H × List MemPlace)} {n i k : Nat} {f : Field} (hi : fs[i]? = some f) (hk : P.cellsOf f.type = k)
    (h : ∀ (i : Nat) (f : Field), fs[i]? = some f → DataW.trod enc P w base (fun _ => true) true n f.type ((cs.drop f.offset).take (P.cellsOf f.type)) = xs[i]?) (hx : i < xs.length) : DataW.trod enc P w base (fun _ => true) true n f.type ((cs.drop f.offset).take k) = some xs[i] := by
  have := h i f hi
  rw [hk] at this
  rw [this, List.getElem?_eq_getElem hx]
theorem gives_intSl {P : Program} {t e : TypeId} (ht : P.underlying t = some (.slice e)) (hi : P.underlying e = some (.int .i64)) (hk : P.cellsOf e = 1) : Gives P t (fun w B cs (y : List Int) => ∃ A c, cs = [.slice A y.length c] ∧ IntA w B A y.length y) := by
  intro H enc w base fuel cs x h
  obtain ⟨y, A, c, e1, hs⟩ := gives_slice ht hk (by omega) (gives_int hi) _ _ _ _ _ _ _ h
  exact ⟨y, A, c, e1, hs.one.map fun u x hx => by simpa [IntC] using hx⟩
theorem gives_rowSl {P : Program} {t e0 e : TypeId} (ht : P.underlying t = some (.slice e0)) (ht0 : P.underlying e0 = some (.slice e)) (hi : P.underlying e = some (.int .i64)) (hk0 : P.cellsOf e0 = 1) (hk : P.cellsOf e = 1) : Gives P t (fun w B cs (y : List (List Int)) => ∃ A c, cs = [.slice A y.length c] ∧ SlA (RowA IntC) w B A y.length y) := by
  intro H enc w base fuel cs x h
  obtain ⟨y, A, c, e1, hs⟩ := gives_slice ht hk0 (by omega) (gives_slice ht0 hk (by omega) (gives_int hi)) _ _ _ _ _ _ _ h
  exact ⟨y, A, c, e1, hs.one.map fun u x hx => row_conv (fun u x hx => by simpa [IntC] using hx) hx⟩
theorem gives_con {P : Program} {t : TypeId} {f0 f1 f2 f3 f4 : Field} (ht : P.underlying t = some (.struct #[f0, f1, f2, f3, f4])) (hc : P.cellsOf t = 5) (o0 : f0.offset = 0) (o1 : f1.offset = 1) (o2 : f2.offset = 2) (o3 : f3.offset = 3) (o4 : f4.offset = 4)
    (c0 : P.cellsOf f0.type = 1) (c1 : P.cellsOf f1.type = 1) (c2 : P.cellsOf f2.type = 1) (c3 : P.cellsOf f3.type = 1) (c4 : P.cellsOf f4.type = 1)
    (t0 : P.underlying f0.type = some (.int .i64)) (t3 : P.underlying f3.type = some (.int .i64))
    (g1 : Gives P f1.type (fun w B cs (y : List Int) => ∃ A c, cs = [.slice A y.length c] ∧ IntA w B A y.length y)) (g2 : Gives P f2.type (fun w B cs (y : List Int) => ∃ A c, cs = [.slice A y.length c] ∧ IntA w B A y.length y))
    (g4 : Gives P f4.type (fun w B cs (y : List (List Int)) => ∃ A c, cs = [.slice A y.length c] ∧ SlA (RowA IntC) w B A y.length y)) : Gives P t ConA := by
  intro H enc w base fuel cs x h
  obtain ⟨xs, n, _, _, hlen, hxl, hf⟩ := DataW.trod_struct ht h
  rw [hc] at hlen
  have hxl' : xs.length = 5 := hxl
  match cs, hlen with
  | [a, b, c, d, e], _ =>
    have e0 := trod_part (i := 0) (f := f0) rfl c0 hf (by omega)
    have e1 := trod_part (i := 1) (f := f1) rfl c1 hf (by omega)
    have e2 := trod_part (i := 2) (f := f2) rfl c2 hf (by omega)
    have e3 := trod_part (i := 3) (f := f3) rfl c3 hf (by omega)
    have e4 := trod_part (i := 4) (f := f4) rfl c4 hf (by omega)
    simp only [o0, o1, o2, o3, o4, List.drop_zero, List.drop_succ_cons, List.take_succ_cons, List.take_zero] at e0 e1 e2 e3 e4
    obtain ⟨v0, h0, _⟩ := DataW.trod_int t0 e0
    obtain ⟨y1, A1, k1, h1, s1⟩ := g1 _ _ _ _ _ _ _ e1
    obtain ⟨y2, A2, k2, h2, s2⟩ := g2 _ _ _ _ _ _ _ e2
    obtain ⟨v3, h3, _⟩ := DataW.trod_int t3 e3
    obtain ⟨y4, A4, k4, h4, s4⟩ := g4 _ _ _ _ _ _ _ e4
    simp at h0 h1 h2 h3 h4
    subst h0 h1 h2 h3 h4
    exact ⟨⟨v0, y1, y2, v3, y4⟩, A1, A2, A4, k1, k2, k4, rfl, s1, s2, s4⟩
/-- A law's parameter that is a struct. -/
theorem open_agg {H : Type} {enc : TypeId × Value → H} {P : Program} {W : World} {base : Nat} {t : TypeId} {fs : Array Field} {α : Type} {R : World → Nat → List Value → α → Prop} {v : Value} {d : DataW H} {p : List MemPlace} (ht : P.underlying t = some (.struct fs)) (he : Gives P t R)
    (hv : Value.okWide P W .any base t v) (h : DataW.Trod enc P W 0 (fun _ => true) true t v d p) : ∃ (us : List Value) (y : α), v = .agg us.toArray ∧ R W W.heap.size us y := by
  obtain ⟨cs, rfl, hsz⟩ := okWide_struct ht hv
  obtain ⟨fuel, hf⟩ := h
  obtain ⟨y, hy⟩ := he _ _ _ _ _ _ _ hf
  exact ⟨cs.toList, y, by simp, hy⟩
/-- A fresh constraint. -/
def OwnCon (w : World) (base : Nat) (v : Value) (c : Con) : Prop := ∃ vv av rv, v = .agg #[.int .i64 c.kind, vv, av, .int .i64 c.bound, rv] ∧ OwnI 3 w base vv c.vars ∧ OwnI 3 w base av c.args ∧ OwnOf 22 (OwnI 3) w base rv c.rows
theorem own_cap {w : World} {base n m k c : Nat} {e : TypeId} {A : Option Addr} {xs : List Value} (h : w.ownsRow base e k (.slice A n c) m xs) : n ≤ c := by
  rcases h.2 with ⟨h1, h2⟩ | ⟨g, cap, cur, hv, hg, hh, hcap, r⟩
  · injection h1 with _ e1 _; omega
  · injection hv with _ e1 e2; omega
theorem OwnCon.read {w : World} {base : Nat} {v : Value} {c : Con} (h : OwnCon w base v c) : ∃ us, v = .agg us.toArray ∧ ConR w w.heap.size us c := by
  obtain ⟨vv, av, rv, rfl, h1, h2, h3⟩ := h
  obtain ⟨A1, c1, rfl, r1⟩ := h1.read
  obtain ⟨A2, c2, rfl, r2⟩ := h2.read
  have k1 := own_cap h1.1
  have k2 := own_cap h2.1
  obtain ⟨A3, c3, rfl, r3⟩ := read2 h3
  exact ⟨_, rfl, A1, A2, A3, c1, c2, c3, rfl, r1, r2, r3, k1, k2⟩
def SmCon (c : Con) : Prop := Sm1 c.vars ∧ Sm1 c.args ∧ SmS Sm1 c.rows
end Go.Proofs.YtfoodlhfmcfjeaaDoor
