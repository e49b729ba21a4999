/- Models, stores and weighted constraints as a law's arguments. -/
import Derived.Test.YtfoodlhfmcfjeaaDoorCon
namespace Go.Proofs.YtfoodlhfmcfjeaaDoor
open Go.RowKit Go.ChangeShapes Go.WideShapes Go.Deep
set_option linter.unusedVariables false
set_option maxRecDepth 100000

/-- A model. -/
structure Mod where
  doms : List Int
  cons : List Con
  deriving DecidableEq
/-- A store. -/
structure Sto where
  model : Mod
  levels : List (List Int)
  deriving DecidableEq
/-- A weighted constraint. -/
structure Sof where
  con : Con
  weight : Int
  deriving DecidableEq
abbrev ConsA (w : World) (B : Nat) (A : Option Addr) (n : Nat) (xs : List Con) : Prop := SlKA ConA 5 w B A n xs
abbrev ConsR (w : World) (B : Nat) (A : Option Addr) (n : Nat) (xs : List Con) : Prop := SlK ConR 5 w B A n xs
def ModA : World → Nat → List Value → Mod → Prop := fun w B us m => ∃ da ca cd cc, us = [.slice da m.doms.length cd, .slice ca m.cons.length cc] ∧ IntA w B da m.doms.length m.doms ∧ ConsA w B ca m.cons.length m.cons
def ModR : World → Nat → List Value → Mod → Prop := fun w B us m => ∃ da ca cd cc, us = [.slice da m.doms.length cd, .slice ca m.cons.length cc] ∧ IntR w B da m.doms.length m.doms ∧ ConsR w B ca m.cons.length m.cons ∧ m.doms.length ≤ cd ∧ m.cons.length ≤ cc
theorem ModA.keeps : KeepsK ModA := fun _ _ _ _ _ hk ⟨da, ca, cd, cc, e, h1, h2⟩ => ⟨da, ca, cd, cc, e, h1.keep IntC.keeps hk, h2.keep ConA.keeps hk⟩
theorem ModA.widens : WidensK ModA := fun _ _ _ _ _ hB ⟨da, ca, cd, cc, e, h1, h2⟩ => ⟨da, ca, cd, cc, e, h1.more IntC.widens hB, h2.more ConA.widens hB⟩
theorem ModR.keeps : KeepsK ModR := fun _ _ _ _ _ hk ⟨da, ca, cd, cc, e, h1, h2, h3⟩ => ⟨da, ca, cd, cc, e, h1.keep IntC.keeps hk, h2.keep ConR.keeps hk, h3⟩
theorem ModR.widens : WidensK ModR := fun _ _ _ _ _ hB ⟨da, ca, cd, cc, e, h1, h2, h3⟩ => ⟨da, ca, cd, cc, e, h1.more IntC.widens hB, h2.more ConR.widens hB, h3⟩
theorem ModA.on {w w' : World} {us : List Value} {c : Mod} (h : ModA w w.heap.size us c) (hb : Below w.heap.size w w') : ModA w' w'.heap.size us c := ModA.widens _ _ _ _ _ hb.size (ModA.keeps _ _ _ _ _ (fun _ hp => hb.cell hp) h)
theorem ModR.on {w w' : World} {us : List Value} {c : Mod} (h : ModR w w.heap.size us c) (hb : Below w.heap.size w w') : ModR w' w'.heap.size us c := ModR.widens _ _ _ _ _ hb.size (ModR.keeps _ _ _ _ _ (fun _ hp => hb.cell hp) h)
theorem ConsA.on {w w' : World} {n : Nat} {A : Option Addr} {xs : List Con} (h : ConsA w w.heap.size A n xs) (hb : Below w.heap.size w w') : ConsA w' w'.heap.size A n xs := SlKA.on ConA.keeps ConA.widens h hb
theorem ConsR.on {w w' : World} {n : Nat} {A : Option Addr} {xs : List Con} (h : ConsR w w.heap.size A n xs) (hb : Below w.heap.size w w') : ConsR w' w'.heap.size A n xs := SlK.on_ ConR.keeps ConR.widens h hb
def StoA : World → Nat → List Value → Sto → Prop := fun w B us s => ∃ u v la lc, us = [u, v, .slice la s.levels.length lc] ∧ ModA w B [u, v] s.model ∧ SlA (RowA IntC) w B la s.levels.length s.levels
def StoR : World → Nat → List Value → Sto → Prop := fun w B us s => ∃ u v la lc, us = [u, v, .slice la s.levels.length lc] ∧ ModR w B [u, v] s.model ∧ SlR (RowC IntC) w B la s.levels.length s.levels ∧ s.levels.length ≤ lc
theorem StoA.keeps : KeepsK StoA := fun _ _ _ _ _ hk ⟨u, v, la, lc, e, h1, h2⟩ => ⟨u, v, la, lc, e, ModA.keeps _ _ _ _ _ hk h1, h2.keep (RowA.keeps IntC.keeps) hk⟩
theorem StoA.widens : WidensK StoA := fun _ _ _ _ _ hB ⟨u, v, la, lc, e, h1, h2⟩ => ⟨u, v, la, lc, e, ModA.widens _ _ _ _ _ hB h1, h2.more (RowA.widens IntC.widens) hB⟩
theorem StoR.keeps : KeepsK StoR := fun _ _ _ _ _ hk ⟨u, v, la, lc, e, h1, h2, h3⟩ => ⟨u, v, la, lc, e, ModR.keeps _ _ _ _ _ hk h1, h2.keep (RowC.keeps IntC.keeps) hk, h3⟩
theorem StoR.widens : WidensK StoR := fun _ _ _ _ _ hB ⟨u, v, la, lc, e, h1, h2, h3⟩ => ⟨u, v, la, lc, e, ModR.widens _ _ _ _ _ hB h1, h2.more (RowC.widens IntC.widens) hB, h3⟩
theorem StoA.on {w w' : World} {us : List Value} {c : Sto} (h : StoA w w.heap.size us c) (hb : Below w.heap.size w w') : StoA w' w'.heap.size us c := StoA.widens _ _ _ _ _ hb.size (StoA.keeps _ _ _ _ _ (fun _ hp => hb.cell hp) h)
theorem StoR.on {w w' : World} {us : List Value} {c : Sto} (h : StoR w w.heap.size us c) (hb : Below w.heap.size w w') : StoR w' w'.heap.size us c := StoR.widens _ _ _ _ _ hb.size (StoR.keeps _ _ _ _ _ (fun _ hp => hb.cell hp) h)
def SofA : World → Nat → List Value → Sof → Prop := fun w B us s => ∃ us0, us = us0 ++ [.int .i64 s.weight] ∧ ConA w B us0 s.con
def SofR : World → Nat → List Value → Sof → Prop := fun w B us s => ∃ us0, us = us0 ++ [.int .i64 s.weight] ∧ ConR w B us0 s.con
theorem SofA.keeps : KeepsK SofA := fun _ _ _ _ _ hk ⟨u, e, h1⟩ => ⟨u, e, ConA.keeps _ _ _ _ _ hk h1⟩
theorem SofA.widens : WidensK SofA := fun _ _ _ _ _ hB ⟨u, e, h1⟩ => ⟨u, e, ConA.widens _ _ _ _ _ hB h1⟩
theorem SofR.keeps : KeepsK SofR := fun _ _ _ _ _ hk ⟨u, e, h1⟩ => ⟨u, e, ConR.keeps _ _ _ _ _ hk h1⟩
theorem SofR.widens : WidensK SofR := fun _ _ _ _ _ hB ⟨u, e, h1⟩ => ⟨u, e, ConR.widens _ _ _ _ _ hB h1⟩
abbrev SofsA (w : World) (B : Nat) (A : Option Addr) (n : Nat) (xs : List Sof) : Prop := SlKA SofA 6 w B A n xs
abbrev SofsR (w : World) (B : Nat) (A : Option Addr) (n : Nat) (xs : List Sof) : Prop := SlK SofR 6 w B A n xs
theorem SofsA.on {w w' : World} {n : Nat} {A : Option Addr} {xs : List Sof} (h : SofsA w w.heap.size A n xs) (hb : Below w.heap.size w w') : SofsA w' w'.heap.size A n xs := SlKA.on SofA.keeps SofA.widens h hb
theorem SofsR.on {w w' : World} {n : Nat} {A : Option Addr} {xs : List Sof} (h : SofsR w w.heap.size A n xs) (hb : Below w.heap.size w w') : SofsR w' w'.heap.size A n xs := SlK.on_ SofR.keeps SofR.widens h hb
theorem gives_conSl {P : Program} {t e : TypeId} (ht : P.underlying t = some (.slice e)) (hk : P.cellsOf e = 5) (hi : Gives P e ConA) : Gives P t (fun w B cs (y : List Con) => ∃ A c, cs = [.slice A y.length c] ∧ ConsA w B A y.length y) := by
  intro H enc w base fuel cs x h
  obtain ⟨y, A, c, e1, hs⟩ := gives_slice ht hk (by omega) hi _ _ _ _ _ _ _ h
  exact ⟨y, A, c, e1, hs⟩
theorem gives_mod {P : Program} {t : TypeId} {f0 f1 : Field} (ht : P.underlying t = some (.struct #[f0, f1])) (hc : P.cellsOf t = 2) (o0 : f0.offset = 0) (o1 : f1.offset = 1)
    (c0 : P.cellsOf f0.type = 1) (c1 : P.cellsOf f1.type = 1)
    (g0 : Gives P f0.type (fun w B cs (y : List Int) => ∃ A c, cs = [.slice A y.length c] ∧ IntA w B A y.length y))
    (g1 : Gives P f1.type (fun w B cs (y : List Con) => ∃ A c, cs = [.slice A y.length c] ∧ ConsA w B A y.length y)) : Gives P t ModA := by
  intro H enc w base fuel cs x h
  obtain ⟨xs, n, _, _, hlen, hxl, hf⟩ := DataW.trod_struct ht h
  rw [hc] at hlen
  have hxl' : xs.length = 2 := hxl
  match cs, hlen with
  | [a, b], _ =>
    have e0 := trod_part (i := 0) (f := f0) rfl c0 hf (by omega)
    have e1 := trod_part (i := 1) (f := f1) rfl c1 hf (by omega)
    simp only [o0, o1, List.drop_zero, List.drop_succ_cons, List.take_succ_cons, List.take_zero] at e0 e1
    obtain ⟨y1, A1, k1, h1, s1⟩ := g0 _ _ _ _ _ _ _ e0
    obtain ⟨y2, A2, k2, h2, s2⟩ := g1 _ _ _ _ _ _ _ e1
    simp at h1 h2
    subst h1 h2
    exact ⟨⟨y1, y2⟩, A1, A2, k1, k2, rfl, s1, s2⟩
theorem gives_sto {P : Program} {t : TypeId} {f0 f1 : Field} (ht : P.underlying t = some (.struct #[f0, f1])) (hc : P.cellsOf t = 3) (o0 : f0.offset = 0) (o1 : f1.offset = 2)
    (c0 : P.cellsOf f0.type = 2) (c1 : P.cellsOf f1.type = 1) (g0 : Gives P f0.type ModA)
    (g1 : Gives P f1.type (fun w B cs (y : List (List Int)) => ∃ A c, cs = [.slice A y.length c] ∧ SlA (RowA IntC) w B A y.length y)) : Gives P t StoA := by
  intro H enc w base fuel cs x h
  obtain ⟨xs, n, _, _, hlen, hxl, hf⟩ := DataW.trod_struct ht h
  rw [hc] at hlen
  have hxl' : xs.length = 2 := hxl
  match cs, hlen with
  | [a, b, c], _ =>
    have e0 := trod_part (i := 0) (f := f0) rfl c0 hf (by omega)
    have e1 := trod_part (i := 1) (f := f1) rfl c1 hf (by omega)
    simp only [o0, o1, List.drop_zero, List.drop_succ_cons, List.take_succ_cons, List.take_zero] at e0 e1
    obtain ⟨m, hm⟩ := g0 _ _ _ _ _ _ _ e0
    obtain ⟨y2, A2, k2, h2, s2⟩ := g1 _ _ _ _ _ _ _ e1
    simp at h2
    subst h2
    exact ⟨⟨m, y2⟩, a, b, A2, k2, rfl, hm, s2⟩
theorem gives_sof {P : Program} {t : TypeId} {f0 f1 : Field} (ht : P.underlying t = some (.struct #[f0, f1])) (hc : P.cellsOf t = 6) (o0 : f0.offset = 0) (o1 : f1.offset = 5)
    (c0 : P.cellsOf f0.type = 5) (c1 : P.cellsOf f1.type = 1) (g0 : Gives P f0.type ConA) (t1 : P.underlying f1.type = some (.int .i64)) : Gives P t SofA := by
  intro H enc w base fuel cs x h
  obtain ⟨xs, n, _, _, hlen, hxl, hf⟩ := DataW.trod_struct ht h
  rw [hc] at hlen
  have hxl' : xs.length = 2 := hxl
  match cs, hlen with
  | [a, b, c, d, e, f], _ =>
    have e0 := trod_part (i := 0) (f := f0) rfl c0 hf (by omega)
    have e1 := trod_part (i := 1) (f := f1) rfl c1 hf (by omega)
    simp only [o0, o1, List.drop_zero, List.drop_succ_cons, List.take_succ_cons, List.take_zero] at e0 e1
    obtain ⟨m, hm⟩ := g0 _ _ _ _ _ _ _ e0
    obtain ⟨v1, h1, _⟩ := DataW.trod_int t1 e1
    simp at h1
    subst h1
    exact ⟨⟨m, v1⟩, [a, b, c, d, e], rfl, hm⟩
theorem gives_conA : Gives Tryd.prog 55 ConA := gives_con Tryd.underlying55 (by kernel_rfl) rfl rfl rfl rfl rfl (by kernel_rfl) (by kernel_rfl) (by kernel_rfl) (by kernel_rfl) (by kernel_rfl) Tryd.underlying3 Tryd.underlying3
  (gives_intSl Tryd.underlying22 Tryd.underlying3 (by kernel_rfl)) (gives_intSl Tryd.underlying22 Tryd.underlying3 (by kernel_rfl)) (gives_rowSl Tryd.underlying48 Tryd.underlying22 Tryd.underlying3 (by kernel_rfl) (by kernel_rfl))
theorem open_con {H : Type} {enc : TypeId × Value → H} {W : World} {base : Nat} {v : Value} {d : DataW H} {p : List MemPlace} (hv : Value.okWide Tryd.prog W .any base 55 v) (h : DataW.Trod enc Tryd.prog W 0 (fun _ => true) true 55 v d p) :
    ∃ (us : List Value) (y : Con), v = .agg us.toArray ∧ ConA W W.heap.size us y := open_agg Tryd.underlying55 gives_conA hv h
theorem gives_modA : Gives Tryd.prog 25 ModA := gives_mod Tryd.underlying25 (by kernel_rfl) rfl rfl (by kernel_rfl) (by kernel_rfl)
  (gives_intSl Tryd.underlying22 Tryd.underlying3 (by kernel_rfl)) (gives_conSl Tryd.underlying23 (by kernel_rfl) gives_conA)
theorem open_model {H : Type} {enc : TypeId × Value → H} {W : World} {base : Nat} {v : Value} {d : DataW H} {p : List MemPlace} (hv : Value.okWide Tryd.prog W .any base 25 v) (h : DataW.Trod enc Tryd.prog W 0 (fun _ => true) true 25 v d p) :
    ∃ (us : List Value) (y : Mod), v = .agg us.toArray ∧ ModA W W.heap.size us y := open_agg Tryd.underlying25 gives_modA hv h
end Go.Proofs.YtfoodlhfmcfjeaaDoor
