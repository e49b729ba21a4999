/- What is drawn: a model that may be invalid; a model and a constraint. -/
import Derived.Test.YtejfnkbdmlijbaaDrawM
namespace Go.Proofs.Ytejfnkbdmlijbaa
open Go.ChangeShapes Go.WideShapes Go.ChangeAt Go.RowKit
open Go.Shelf
set_option linter.unusedVariables false
set_option linter.unusedSimpArgs false
set_option maxRecDepth 100000

/-- a model laid into the box of a result. -/
theorem OwnMod.laid2 {w w0 : World} {B B0 R g base n c p : Nat} {A : Option Addr} {bs : List Int} {m : Mod} {x0 x1 : Value} {zs : Array Value}
    (h : OwnMod w B (.agg #[x0, x1]) m) (hr : TBlk 26 w R zs) (hz : zs.size = 2) (hd : Rd w base g A n c bs p) (hg : g < R) (hR : B0 ≤ R) (hb : ButG g B0 w0 w) {wf : World}
    (hf : wf = (w.setCell ⟨R, 0, none⟩ x0).setCell ⟨R, 1, none⟩ x1) :
    (wf.cell? ⟨R, 0, none⟩ = some x0 ∧ wf.cell? ⟨R, 1, none⟩ = some x1) ∧ OwnMod wf B (.agg #[x0, x1]) m ∧ Rd wf base g A n c bs p ∧ ButG g B0 w0 wf := by
  obtain ⟨z0, z1, rfl⟩ : ∃ z0 z1, zs = #[z0, z1] := by
    rcases zs with ⟨l⟩
    match l, hz with
    | [z0, z1], _ => exact ⟨_, _, rfl⟩
  have t1 := hr.store 0 x0
  have t2 := t1.store 1 x1
  obtain ⟨dv, cv, e, o1, o2⟩ := h
  subst hf
  refine ⟨⟨t2.at_ 0 rfl, t2.at_ 1 rfl⟩, ⟨dv, cv, e, ?_, ?_⟩, (hd.set hg 0 _).set hg 1 _, (hb.setHi hR 0 _).setHi hR 1 _⟩
  · exact OwnI.shuns (show (26 : TypeId) ≠ 3 by decide) _ _ _ _ _ 1 _ _ _ t1 (OwnI.shuns (show (26 : TypeId) ≠ 3 by decide) _ _ _ _ _ 0 _ _ _ hr o1)
  · exact OwnK.shuns (show (26 : TypeId) ≠ 35 by decide) OwnConU.shunsM _ _ _ _ _ 1 _ _ _ t1 (OwnK.shuns (show (26 : TypeId) ≠ 35 by decide) OwnConU.shunsM _ _ _ _ _ 0 _ _ _ hr o2)
/-- whatever number is stored into a block of numbers: what is owned stays owned, and as long. -/
theorem OwnI.any {w : World} {B gD j : Nat} {v : Value} {xs : List Int} {cs : Array Value} (x : Int) (hb : TBlk 3 w gD cs) (h : OwnI 3 w B v xs) : ∃ xs', OwnI 3 (w.setCell ⟨gD, j, none⟩ (.int .i64 x)) B v xs' ∧ xs'.length = xs.length := by
  obtain ⟨h1, h3⟩ := h
  obtain ⟨h1a, h2⟩ := id h1
  rcases h2 with ⟨rfl, h0⟩ | ⟨g, cap, cur, rfl, hg, hh, hcap, hmax, hsz, ht⟩
  · exact ⟨xs, ⟨⟨h1a, .inl ⟨rfl, h0⟩⟩, h3⟩, rfl⟩
  · by_cases e : g = gD
    · subst e
      refine ⟨xs.set j x, ⟨?_, by rw [List.length_set]; exact h3⟩, List.length_set⟩
      rw [List.length_set, List.map_set]
      exact (h1.stored j (.int .i64 x)).1
    · refine ⟨xs, ⟨⟨h1a, .inr ⟨g, cap, cur, rfl, hg, ?_, hcap, hmax, hsz, ht⟩⟩, h3⟩, rfl⟩
      rw [Below.heap_setCell _ _ _ _ (by exact e)]
      exact hh
theorem OwnRows.any {w : World} {B gD j : Nat} {v : Value} {xs : List (List Int)} {cs : Array Value} (x : Int) (hb : TBlk 3 w gD cs) (h : OwnOf 23 (OwnI 3) w B v xs) :
    ∃ xs', OwnOf 23 (OwnI 3) (w.setCell ⟨gD, j, none⟩ (.int .i64 x)) B v xs' ∧ xs'.length = xs.length ∧ ∀ m, RowsLe m xs → RowsLe m xs' := by
  obtain ⟨us, h1, h2, h3, h4⟩ := h
  obtain ⟨l, hl, hq⟩ := list_of xs.length (fun i (y : List Int) => ∀ u z, us[i]? = some u → xs[i]? = some z → OwnI 3 (w.setCell ⟨gD, j, none⟩ (.int .i64 x)) B u y ∧ y.length = z.length) (fun i hi => by
    obtain ⟨ys, a, b⟩ := (h4 i _ _ (List.getElem?_eq_getElem (by omega)) (List.getElem?_eq_getElem hi)).any (j := j) x hb
    refine ⟨ys, fun u z hu hz => ?_⟩
    rw [List.getElem?_eq_getElem (by omega)] at hu
    rw [List.getElem?_eq_getElem hi] at hz
    injection hu with hu
    injection hz with hz
    subst hu hz
    exact ⟨a, b⟩)
  refine ⟨l, ⟨us, by omega, by rw [hl]; exact own_shun (by decide) j _ hb h2, by omega, fun i u y hu hy => ?_⟩, hl, fun m hm y hy => ?_⟩
  · have hi : i < xs.length := by
      rw [← hl]; exact (List.getElem?_eq_some_iff.1 hy).1
    exact (hq i y hy u _ hu (List.getElem?_eq_getElem hi)).1
  · obtain ⟨i, hi, e⟩ := List.getElem_of_mem hy
    have hi2 : i < xs.length := by omega
    have := (hq i y (by rw [List.getElem?_eq_getElem hi, e]) _ _ (List.getElem?_eq_getElem (show i < us.length by omega)) (List.getElem?_eq_getElem hi2)).2
    rw [this]
    exact hm _ (List.getElem_mem hi2)
theorem OwnConU.any {w : World} {B gD j : Nat} {us : List Value} {k : Con} {cs : Array Value} (x : Int) (hb : TBlk 3 w gD cs) (h : OwnConU w B us k) : ∃ k', OwnConU (w.setCell ⟨gD, j, none⟩ (.int .i64 x)) B us k' ∧ (SmD k → SmD k') := by
  obtain ⟨vv, av, rv, e, o1, o2, o3⟩ := h
  obtain ⟨x1, a1, b1⟩ := o1.any (j := j) x hb
  obtain ⟨x2, a2, b2⟩ := o2.any (j := j) x hb
  obtain ⟨x3, a3, b3, d3⟩ := OwnRows.any (j := j) x hb o3
  exact ⟨⟨k.kind, x1, x2, k.bound, x3⟩, ⟨vv, av, rv, e, a1, a2, a3⟩, fun hs => ⟨by show x1.length ≤ 9; rw [b1]; exact hs.1, by show x2.length ≤ 9; rw [b2]; exact hs.2.1, by show x3.length ≤ 8; rw [b3]; exact hs.2.2.1, d3 8 hs.2.2.2⟩⟩
theorem OwnCons.any {w : World} {B gD j : Nat} {v : Value} {xs : List Con} {cs : Array Value} (x : Int) (hb : TBlk 3 w gD cs) (h : OwnCons w B v xs) : ∃ xs', OwnCons (w.setCell ⟨gD, j, none⟩ (.int .i64 x)) B v xs' ∧ xs'.length = xs.length ∧ ((∀ k ∈ xs, SmD k) → ∀ k ∈ xs', SmD k) := by
  obtain ⟨uss, h1, h0, h2, h3, h4⟩ := h
  obtain ⟨l, hl, hq⟩ := list_of xs.length (fun i (y : Con) => ∀ u z, uss[i]? = some u → xs[i]? = some z → OwnConU (w.setCell ⟨gD, j, none⟩ (.int .i64 x)) B u y ∧ (SmD z → SmD y)) (fun i hi => by
    obtain ⟨ys, a, b⟩ := (h4 i _ _ (List.getElem?_eq_getElem (by omega)) (List.getElem?_eq_getElem hi)).any (j := j) x hb
    refine ⟨ys, fun u z hu hz => ?_⟩
    rw [List.getElem?_eq_getElem (by omega)] at hu
    rw [List.getElem?_eq_getElem hi] at hz
    injection hu with hu
    injection hz with hz
    subst hu hz
    exact ⟨a, b⟩)
  refine ⟨l, ⟨uss, by omega, h0, by rw [hl]; exact own_shun (by decide) j _ hb h2, by omega, fun i u y hu hy => ?_⟩, hl, fun hm y hy => ?_⟩
  · have hi : i < xs.length := by
      rw [← hl]; exact (List.getElem?_eq_some_iff.1 hy).1
    exact (hq i y hy u _ hu (List.getElem?_eq_getElem hi)).1
  · obtain ⟨i, hi, e⟩ := List.getElem_of_mem hy
    have hi2 : i < xs.length := by omega
    exact (hq i y (by rw [List.getElem?_eq_getElem hi, e]) _ _ (List.getElem?_eq_getElem (show i < uss.length by omega)) (List.getElem?_eq_getElem hi2)).2 (hm _ (List.getElem_mem hi2))
theorem flat_set {uss : List (List Value)} {m i : Nat} {p : List Value} (h : ∀ u ∈ uss, u.length = m) (hi : i < uss.length) (hp : p.length = m) (z0 z1 z2 z3 z4 x0 x1 x2 x3 x4 : Value) (hz : uss[i]? = some [z0, z1, z2, z3, z4]) (hm : m = 5) (hx : p = [x0, x1, x2, x3, x4]) :
    (((((uss.flatten).set (i * 5) x0).set (i * 5 + 1) x1).set (i * 5 + 2) x2).set (i * 5 + 3) x3).set (i * 5 + 4) x4 = (uss.set i p).flatten := by
  subst hx hm
  have hs : uss = uss.take i ++ ([z0, z1, z2, z3, z4] :: uss.drop (i + 1)) := by
    have e : uss[i] = [z0, z1, z2, z3, z4] := by
      rw [List.getElem?_eq_getElem hi] at hz
      injection hz
    rw [← e, List.getElem_cons_drop, List.take_append_drop]
  have hl : ((uss.take i).flatten).length = i * 5 := by rw [flat_len (fun u hu => h u (List.mem_of_mem_take hu)), List.length_take, Nat.min_eq_left (by omega)]
  have e1 : uss.flatten = (uss.take i).flatten ++ ([z0, z1, z2, z3, z4] ++ (uss.drop (i + 1)).flatten) := by
    conv => lhs; rw [hs]
    rw [List.flatten_append, List.flatten_cons]
  have e2 : (uss.set i [x0, x1, x2, x3, x4]).flatten = (uss.take i).flatten ++ ([x0, x1, x2, x3, x4] ++ (uss.drop (i + 1)).flatten) := by
    rw [List.set_eq_take_append_cons_drop, if_pos hi, List.flatten_append, List.flatten_cons]
  rw [e1, set5 _ _ _ _ _ _ _ _ _ _ _ _ _ hl, e2]
/-- one constraint of a row is put in the place of another. -/
theorem OwnCons.put {w : World} {B g c i n : Nat} {xs : List Con} {x0 x1 x2 x3 x4 : Value} {y : Con} (hn : xs.length = n) (h : OwnCons w B (.slice (some ⟨g, 0, none⟩) n c) xs) (hi : i < n) (hy : OwnConU w B [x0, x1, x2, x3, x4] y) :
    OwnCons (((((w.setCell ⟨g, i * 5, none⟩ x0).setCell ⟨g, i * 5 + 1, none⟩ x1).setCell ⟨g, i * 5 + 2, none⟩ x2).setCell ⟨g, i * 5 + 3, none⟩ x3).setCell ⟨g, i * 5 + 4, none⟩ x4) B (.slice (some ⟨g, 0, none⟩) n c) (xs.set i y) := by
  subst hn
  obtain ⟨uss, h1, h0, ho, h3, h4⟩ := h
  obtain ⟨o1, i1⟩ := fstep OwnConU.shuns ho (i * 5) x0
  obtain ⟨o2, i2⟩ := fstep OwnConU.shuns o1 (i * 5 + 1) x1
  obtain ⟨o3, i3⟩ := fstep OwnConU.shuns o2 (i * 5 + 2) x2
  obtain ⟨o4, i4⟩ := fstep OwnConU.shuns o3 (i * 5 + 3) x3
  obtain ⟨o5, i5⟩ := fstep OwnConU.shuns o4 (i * 5 + 4) x4
  obtain ⟨z0, z1, z2, z3, z4, hz⟩ : ∃ z0 z1 z2 z3 z4, uss[i]? = some [z0, z1, z2, z3, z4] := by
    have hl := h0 _ (List.getElem_mem (show i < uss.length by omega))
    generalize hu : uss[i] = u at hl
    match u, hl with
    | [z0, z1, z2, z3, z4], _ => exact ⟨z0, z1, z2, z3, z4, by rw [List.getElem?_eq_getElem (by omega), hu]⟩
  rw [flat_set h0 (by omega) (p := [x0, x1, x2, x3, x4]) rfl z0 z1 z2 z3 z4 x0 x1 x2 x3 x4 hz rfl rfl] at o5
  refine ⟨uss.set i [x0, x1, x2, x3, x4], by rw [List.length_set, List.length_set, h1], fun u hu => ?_, by rw [List.length_set]; exact o5, by rw [List.length_set]; exact h3, fun k u x hu hx => ?_⟩
  · rcases List.mem_or_eq_of_mem_set hu with h | h
    · exact h0 u h
    · rw [h]; rfl
  · by_cases e : i = k
    · subst e
      rw [List.getElem?_set_self (by omega)] at hu hx
      injection hu with hu
      injection hx with hx
      subst hu hx
      exact i5 _ _ (i4 _ _ (i3 _ _ (i2 _ _ (i1 _ _ hy))))
    · rw [List.getElem?_set_ne e] at hu hx
      exact i5 _ _ (i4 _ _ (i3 _ _ (i2 _ _ (i1 _ _ (h4 k u x hu hx)))))
theorem OwnCons.elem {w : World} {B n c i : Nat} {A : Option Addr} {xs : List Con} (h : OwnCons w B (.slice A n c) xs) (hi : i < xs.length) :
    ∃ g : Nat, A = some ⟨g, 0, none⟩ ∧ B ≤ g ∧ ∃ us k, xs[i]? = some k ∧ us.length = 5 ∧ (∀ (j : Nat) u, us[j]? = some u → w.cell? ⟨g, i * 5 + j, none⟩ = some u) ∧ (∀ j, w.frozen? ⟨g, j, none⟩ = false) ∧ OwnConU w B us k := by
  obtain ⟨uss, h1, h0, ho, h3, h4⟩ := h
  rcases id ho.2 with ⟨_, h5⟩ | ⟨g, cap, cur, hv, hg, hh, -⟩
  · omega
  injection hv with e1 e2 e3
  subst e1
  have hn : n = xs.length := e2
  subst hn
  refine ⟨g, rfl, hg, uss[i], xs[i], List.getElem?_eq_getElem hi, h0 _ (List.getElem_mem (by omega)), fun j u hj => ?_, fun j => frozen_of_row w g j _ _ hh, h4 i _ _ (List.getElem?_eq_getElem (by omega)) (List.getElem?_eq_getElem hi)⟩
  have hc := ho.cells (g := g) rfl (i * 5 + j) u (flat_at h0 (List.getElem?_eq_getElem (show i < uss.length by omega)) hj)
  rw [add_own] at hc
  exact hc
theorem OwnCons.butG {w w' : World} {base g : Nat} {v : Value} {xs : List Con} (h : OwnCons w base v xs) (hb : ButG g w.heap.size w w') (hg : g < base) : OwnCons w' base v xs := OwnK.butG0 (fun us x h => OwnConU.butG0 h hb hg) h hb hg
theorem OwnMod.putCon {w w0 : World} {B B0 g base nb cb p gC nc cc i b1 b2 : Nat} {A : Option Addr} {bs : List Int} {doms : List Int} {cons : List Con} {y : Con} {dv x0 x1 x2 x3 x4 : Value} {cs1 cs2 : Array Value}
    (hd : OwnI 3 w B dv doms) (hc : OwnCons w B (.slice (some ⟨gC, 0, none⟩) nc cc) cons) (hn : cons.length = nc) (hi : i < nc) (hgC : B ≤ gC) (hy : OwnConU w B [x0, x1, x2, x3, x4] y)
    (t1 : TBlk 26 w b1 cs1) (t2 : TBlk 26 w b2 cs2) (hr : Rd w base g A nb cb bs p) (hg : g < B) (hb : ButG g B0 w0 w) (hB : B0 ≤ B) {wf : World}
    (hf : wf = ((((w.setCell ⟨gC, i * 5, none⟩ x0).setCell ⟨gC, i * 5 + 1, none⟩ x1).setCell ⟨gC, i * 5 + 2, none⟩ x2).setCell ⟨gC, i * 5 + 3, none⟩ x3).setCell ⟨gC, i * 5 + 4, none⟩ x4) :
    TBlk 26 wf b1 cs1 ∧ TBlk 26 wf b2 cs2 ∧ OwnMod wf B (.agg #[dv, .slice (some ⟨gC, 0, none⟩) nc cc]) ⟨doms, cons.set i y⟩ ∧ Rd wf base g A nb cb bs p ∧ ButG g B0 w0 wf := by
  obtain ⟨cur, hcur⟩ : ∃ cur, TBlk 35 w gC cur := by
    obtain ⟨uss, h1, h0, ho, -⟩ := hc
    rw [hn] at ho
    exact own_block ho
  have hcp := OwnCons.put hn hc hi hy
  have n1 : b1 ≠ gC := t1.ne hcur (by decide)
  have n2 : b2 ≠ gC := t2.ne hcur (by decide)
  have k1 := hcur.store (i * 5) x0
  have k2 := k1.store (i * 5 + 1) x1
  have k3 := k2.store (i * 5 + 2) x2
  have k4 := k3.store (i * 5 + 3) x3
  have d1 := OwnI.shuns (t := 35) (by decide) _ _ _ _ _ (i * 5) _ _ x0 hcur hd
  have d2 := OwnI.shuns (t := 35) (by decide) _ _ _ _ _ (i * 5 + 1) _ _ x1 k1 d1
  have d3 := OwnI.shuns (t := 35) (by decide) _ _ _ _ _ (i * 5 + 2) _ _ x2 k2 d2
  have d4 := OwnI.shuns (t := 35) (by decide) _ _ _ _ _ (i * 5 + 3) _ _ x3 k3 d3
  have d5 := OwnI.shuns (t := 35) (by decide) _ _ _ _ _ (i * 5 + 4) _ _ x4 k4 d4
  subst hf
  refine ⟨((((t1.far n1).far n1).far n1).far n1).far n1, ((((t2.far n2).far n2).far n2).far n2).far n2, ⟨_, _, rfl, d5, hcp⟩, ?_, ?_⟩
  · exact ((((hr.set (b := gC) (by omega) _ _).set (b := gC) (by omega) _ _).set (b := gC) (by omega) _ _).set (b := gC) (by omega) _ _).set (b := gC) (by omega) _ _
  · exact ((((hb.setHi (b := gC) (by omega) _ _).setHi (b := gC) (by omega) _ _).setHi (b := gC) (by omega) _ _).setHi (b := gC) (by omega) _ _).setHi (b := gC) (by omega) _ _
set_option maxHeartbeats 6000000 in
theorem anyModel (base g n c p : Nat) (A : Option Addr) (bs : List Int) (w : World) (h : Rd w base g A n c bs p) (hp : p ≤ 700000) :
    Calls Try.prog 41 #[.pointer (some ⟨g, 0, none⟩)] w fun e w' => ∃ (vs : List Value) (m : Mod) (q : Nat), e = .returned (.agg vs.toArray) ∧ OwnMod w' w.heap.size (.agg vs.toArray) m ∧ (1 ≤ m.doms.length ∧ m.doms.length ≤ 4 ∧ m.cons.length ≤ 4 ∧ ∀ k ∈ m.cons, SmD k) ∧ q ≤ p + 910 ∧ Rd w' base g A n c bs q ∧ ButG g w.heap.size w w' := by
  have hg : g < w.heap.size := (Array.getElem?_eq_some_iff.1 h.block).1
  have hG := Lib.hid hg
  obtain ⟨wa, hwa⟩ : ∃ wa, wa = w.alloc (.cells #[.slice none 0 0, .slice none 0 0] 26) := ⟨_, rfl⟩
  have hb0 : Below w.heap.size w wa := by rw [hwa]; exact b_alloc _ _
  have hsa : wa.heap.size = w.heap.size + 1 := by rw [hwa, size_alloc_]
  have HR : Hid (TBlk 26 wa w.heap.size #[.slice none 0 0, .slice none 0 0]) := by rw [hwa]; exact TBlk.new _ _ _
  have HD := Lib.hid (h.under hb0 hg)
  have HB0 := Lib.hid hb0
  clear h hb0
  go_enter Try.func41, Try.ntmps41
  go_wp2_with fail
  rw [← hwa]
  clear hwa
  refine (randomModel base g n c p A bs wa HD.out (by omega)).mono ?_
  rintro e w1 ⟨vs, m, q, rfl, ho, hm1, hm4, hmc, hsm, hq, hd1, hb1⟩
  obtain ⟨dv, cv, ev, o1, o2⟩ := ho
  obtain rfl : vs = [dv, cv] := by
    injection ev with ev
    exact List.toArray_inj ev
  obtain ⟨A0, c0, rfl, -⟩ := o1.read
  obtain ⟨Ac, cc, rfl⟩ := OwnK.form o2
  have HSM := Lib.hid hsm
  obtain ⟨doms, cons⟩ := m
  obtain ⟨nd, hnd⟩ : ∃ nd, doms.length = nd := ⟨_, rfl⟩
  obtain ⟨nc, hnc⟩ : ∃ nc, cons.length = nc := ⟨_, rfl⟩
  simp only at o1 o2 hm1 hm4 hmc hsm HSM ⊢
  have HND := Lib.hid hnd
  have HNC := Lib.hid hnc
  rw [hnd] at hm1 hm4 o1 ⊢
  rw [hnc] at hmc o2 ⊢
  obtain ⟨w2, hw2⟩ : ∃ w2, w1.alloc (.cells #[.slice A0 nd c0, .slice Ac nc cc] 26) = w2 := ⟨_, rfl⟩
  have hb2 : Below w1.heap.size w1 w2 := by rw [← hw2]; exact b_alloc _ _
  have hz1 := hb1.size
  have hz2 := hb2.size
  have T2 : TBlk 26 w2 w1.heap.size #[.slice A0 nd c0, .slice Ac nc cc] := by rw [← hw2]; exact TBlk.new _ _ _
  have O2 : OwnMod w2 wa.heap.size (.agg #[.slice A0 nd c0, .slice Ac nc cc]) ⟨doms, cons⟩ := OwnMod.below ⟨_, _, rfl, o1, o2⟩ hb2
  have R2 := (HR.out.butG hb1 (by omega)).below_ hb2 (by have := hz1; omega)
  have D2 := hd1.under hb2 (by omega)
  have B2 := ((below_butG HB0.out g).go hb1).go (below_butG hb2 g)
  clear hb1 hb2 hd1 o1 o2 hsm hnd hnc HR HD HB0
  go_wp2_with fail
  refine (pick base g n c q A bs 16 w2 D2 (by omega)).mono ?_
  rintro e w3 ⟨r, rfl, -, hd3, hb3⟩
  have HT3 := Lib.hid (T2.butG hb3 (by omega))
  have HR3 := Lib.hid (R2.butG hb3 (by omega))
  have HO3 := Lib.hid (show OwnMod w3 wa.heap.size (.agg #[.slice A0 nd c0, .slice Ac nc cc]) ⟨doms, cons⟩ from by
    obtain ⟨a, b, e, k1, k2⟩ := O2
    exact ⟨a, b, e, OwnI.butG k1 hb3 (by omega), OwnCons.butG k2 hb3 (by omega)⟩)
  have hz3 := hb3.size
  have HB3 := Lib.hid (B2.go hb3)
  clear T2 R2 O2 D2 B2 hb3 hw2
  have hSZ := Lib.hid (show 1 ≤ (Mod.mk doms cons).doms.length ∧ (Mod.mk doms cons).doms.length ≤ 4 ∧ (Mod.mk doms cons).cons.length ≤ 4 ∧ ∀ k ∈ (Mod.mk doms cons).cons, SmD k from ⟨by show 1 ≤ doms.length; rw [HND.out]; exact hm1, by show doms.length ≤ 4; rw [HND.out]; exact hm4, by show cons.length ≤ 4; rw [HNC.out]; exact hmc, fun k hk => (HSM.out k hk).1.d⟩)
  by_cases h0 : r = 0
  · subst h0
    obtain ⟨a, b, ev, k1, k2⟩ := HO3.out
    injection ev with ev
    injection ev with ev
    injection ev with ea ev
    injection ev with eb
    subst ea eb
    have k3 := k1.1
    rw [HND.out] at k3
    obtain ⟨gD, cD, cur, eD, hgD, hblk, hcur⟩ := own_blk_int k3 (by omega)
    injection eD with eD1 _ eD3
    subst eD1 eD3
    have hneD : w1.heap.size ≠ gD := HT3.out.ne hblk (by decide)
    have HBK := Lib.hid (And.intro hblk (And.intro k1 k2))
    have hS : ∀ w', ButG g w3.heap.size w3 w' → w'.cell? ⟨w1.heap.size, 0, none⟩ = some (.slice (some ⟨gD, 0, none⟩) nd c0) := fun w' h => (HT3.out.butG h (by omega)).at_ 0 rfl
    have hbd : ButG g w3.heap.size w3 w3.drew := below_butG (below_drewN (Below.refl _ _) 1) g
    have hS0 := hS _ hbd
    have hbA : ButG g w3.heap.size w3 (w3.drew.alloc (.cells #[.int .i64 (-1), .int .i64 64, .int .i64 0] 3)) := hbd.go (below_butG (b_alloc _ _) g)
    have hSA := hS _ hbA
    have hrd : Rd w3.drew base g A n c bs (q + 1) := hd3.drewN 1
    have hzd : w3.drew.heap.size = w3.heap.size := rfl
    have hrA : Rd (w3.drew.alloc (.cells #[.int .i64 (-1), .int .i64 64, .int .i64 0] 3)) base g A n c bs (q + 1) := hrd.under (b_alloc _ _) (by omega)
    have hTL : TBlk 3 (w3.drew.alloc (.cells #[.int .i64 (-1), .int .i64 64, .int .i64 0] 3)) w3.heap.size (ints [-1, 64, 0]) := TBlk.new _ _ _
    have KEY := Lib.hid (fun (W7 : World) (j : Nat) (x : Int) (hj : j < nd) (hB : ButG g w3.heap.size w3 W7) =>
      (show (∃ z, W7.cell? ⟨gD, j, none⟩ = some (.int .i64 z)) ∧ W7.frozen? ⟨gD, j, none⟩ = false ∧ (W7.setCell ⟨gD, j, none⟩ (.int .i64 x)).cell? ⟨w1.heap.size, 0, none⟩ = some (.slice (some ⟨gD, 0, none⟩) nd c0) from by
        have hb7 := HBK.out.1.butG hB (by omega)
        have ht7 := (HT3.out.butG hB (by omega)).far (g := gD) (j := j) (u := .int .i64 x) hneD
        have hjd : j < doms.length := by rw [HND.out]; exact hj
        exact ⟨⟨_, hb7.at_ j (hcur j _ (List.getElem?_eq_getElem hjd))⟩, hb7.frozen j, ht7.at_ 0 rfl⟩))
    clear hblk k1 k2 k3 hcur
    go_wp2_with fail
    go_region_held3 (fun w' => w'.cell? ⟨w1.heap.size, 0, none⟩ = some (.slice (some ⟨gD, 0, none⟩) nd c0))
      (first | with_reducible exact hS0 | with_reducible exact hSA | with_reducible assumption | exact hSA)
      (first
        | (go_at_call 66
           first
             | (refine (pick base g n c (q + 1) A bs nd w3.drew hrd (by omega)).mono ?_
                rintro e W6 ⟨r1, rfl, ⟨-, hr⟩, hd6, hb6⟩
                have hB6 := hbd.go hb6
                have hS6 := hS _ hB6
                have hBL : ButG g w3.heap.size w3 (W6.alloc (.cells #[.int .i64 (-1), .int .i64 64, .int .i64 0] 3)) := hB6.go (below_butG (b_alloc _ _) g)
                have hSL := hS _ hBL
                have hzW := hB6.size
                have hdL : Rd (W6.alloc (.cells #[.int .i64 (-1), .int .i64 64, .int .i64 0] 3)) base g A n c bs (q + 1 + 1) := hd6.under (b_alloc _ _) (by omega)
                have hTl : TBlk 3 (W6.alloc (.cells #[.int .i64 (-1), .int .i64 64, .int .i64 0] 3)) W6.heap.size (ints [-1, 64, 0]) := TBlk.new _ _ _
                obtain ⟨r10, r11⟩ := hr (by omega)
                obtain ⟨j, rfl⟩ := Int.eq_ofNat_of_zero_le r10
                have hjn : j < nd := by omega
                clear hr r10)
             | (refine (pick base g n c (q + 1) A bs nd (w3.drew.alloc (.cells #[.int .i64 (-1), .int .i64 64, .int .i64 0] 3)) hrA (by omega)).mono ?_
                rintro e W6 ⟨r1, rfl, ⟨-, hr⟩, hd6, hb6⟩
                have hB6 := hbA.go hb6
                have hS6 := hS _ hB6
                have hzW := hB6.size
                have hTl := hTL.butG hb6 (show w3.heap.size ≠ g by omega)
                obtain ⟨r10, r11⟩ := hr (by omega)
                obtain ⟨j, rfl⟩ := Int.eq_ofNat_of_zero_le r10
                have hjn : j < nd := by omega
                clear hr r10))
        | (go_at_call 83
           first
             | (refine (one base g n c (q + 1 + 1) W6.heap.size 3 3 A bs [-1, 64, 0] (W6.alloc (.cells #[.int .i64 (-1), .int .i64 64, .int .i64 0] 3)) hdL (by omega) rfl (by omega) (by omega) (by omega) hTl.lt (fun i x hx => hTl.at_ i (ints_at hx))).mono ?_
                rintro e W7 ⟨x1, rfl, -, hd7, hb7⟩
                have hB7 := hBL.go hb7
                have hS7 := hS _ hB7
                obtain ⟨⟨z7, hz7⟩, hf7, hS8⟩ := KEY.out W7 j x1 hjn hB7)
             | (refine (one base g n c (q + 1 + 1) w3.heap.size 3 3 A bs [-1, 64, 0] W6 hd6 (by omega) rfl (by omega) (by omega) (by omega) hTl.lt (fun i x hx => hTl.at_ i (ints_at hx))).mono ?_
                rintro e W7 ⟨x1, rfl, -, hd7, hb7⟩
                have hB7 := hB6.go hb7
                have hS7 := hS _ hB7
                obtain ⟨⟨z7, hz7⟩, hf7, hS8⟩ := KEY.out W7 j x1 hjn hB7)))
    all_goals
      have hBk := HBK.out.1.butG hB7 (show gD ≠ g by omega)
      obtain ⟨ds', od, ld⟩ := (HBK.out.2.1.butG hB7 (by omega)).any (j := j) x1 hBk
      obtain ⟨cs', oc, lc, sc⟩ := (OwnCons.butG HBK.out.2.2 hB7 (by omega)).any (j := j) x1 hBk
      have TZ := (HT3.out.butG hB7 (show w1.heap.size ≠ g by omega)).far (g := gD) (j := j) (u := .int .i64 x1) hneD
      have hneR : w.heap.size ≠ gD := HR3.out.ne HBK.out.1 (by decide)
      have RZ := (HR3.out.butG hB7 (show w.heap.size ≠ g by have := hG.out; omega)).far (g := gD) (j := j) (u := .int .i64 x1) hneR
      have BZ := (HB3.out.go hB7).setHi (b := gD) (by omega) j (.int .i64 x1)
      have DZ := hd7.set (b := gD) (by omega) j (.int .i64 x1)
      have SZ := Lib.hid (show 1 ≤ (Mod.mk ds' cs').doms.length ∧ (Mod.mk ds' cs').doms.length ≤ 4 ∧ (Mod.mk ds' cs').cons.length ≤ 4 ∧ ∀ k ∈ (Mod.mk ds' cs').cons, SmD k from ⟨by show 1 ≤ ds'.length; rw [ld, HND.out]; exact hm1, by show ds'.length ≤ 4; rw [ld, HND.out]; exact hm4, by show cs'.length ≤ 4; rw [lc, HNC.out]; exact hmc, sc (fun k hk => (HSM.out k hk).1.d)⟩)
      have HALL := Lib.hid (And.intro (And.intro TZ RZ) (And.intro (And.intro od oc) (And.intro BZ DZ)))
      obtain ⟨wz, hwz⟩ : ∃ wz, W7.setCell ⟨gD, j, none⟩ (.int .i64 x1) = wz := ⟨_, rfl⟩
      rw [hwz] at HALL ⊢
      clear hwz TZ RZ od oc BZ DZ hBk hb7 hd7 hB7 hS7 hS8 hz7 hf7 hS0 hSA hd6 hb6 hB6 hS6 hTl
      have x0 := (HALL.out.1.1).at_ 0 rfl
      have x1 := (HALL.out.1.1).at_ 1 rfl
      have y0 := (HALL.out.1.2).at_ 0 rfl
      have y1 := (HALL.out.1.2).at_ 1 rfl
      have f0 := (HALL.out.1.2).frozen 0
      have f1 := (HALL.out.1.2).frozen 1
      obtain ⟨wf, hwf⟩ : ∃ wf, wf = (wz.setCell ⟨w.heap.size, 0, none⟩ (.slice (some ⟨gD, 0, none⟩) nd c0)).setCell ⟨w.heap.size, 1, none⟩ (.slice Ac nc cc) := ⟨_, rfl⟩
      have HF := Lib.hid (OwnMod.laid2 (show OwnMod wz wa.heap.size (.agg #[.slice (some ⟨gD, 0, none⟩) nd c0, .slice Ac nc cc]) ⟨ds', cs'⟩ from ⟨_, _, rfl, HALL.out.2.1.1, HALL.out.2.1.2⟩) (HALL.out.1.2) rfl HALL.out.2.2.2 hG.out (Nat.le_refl _) HALL.out.2.2.1 hwf)
      have HWF := Lib.hid hwf
      clear hwf
      go_wp2_with fail
      rw [← HWF.out]
      obtain ⟨⟨t0, t1⟩, ho, hrd, hbf⟩ := HF.out
      refine bodyPost_ret (v := .agg #[.slice (some ⟨gD, 0, none⟩) nd c0, .slice Ac nc cc]) ?_ rfl ?_
      · simp [results, Try.results41, go_sem, t0, t1]
      · exact ⟨[.slice (some ⟨gD, 0, none⟩) nd c0, .slice Ac nc cc], rfl, _, OwnMod.base_ ho (by omega), SZ.out, _, by omega, hrd, hbf⟩
  have n0 : (r == 0) = false := by simpa using h0
  by_cases h1 : r = 1
  · subst h1
    by_cases hnc0 : 0 < nc
    · obtain ⟨a, b, ev, k1, k2⟩ := HO3.out
      injection ev with ev
      injection ev with ev
      injection ev with ea ev
      injection ev with eb
      subst ea eb
      have x1 := HT3.out.at_ 1 rfl
      have hncd : decide ((0 : Int) < (nc : Int)) = true := decide_eq_true (by omega)
      have HK1 := Lib.hid k1
      have HK2 := Lib.hid k2
      clear k1 k2
      go_wp2_with fail
      refine (pick base g n c (q + 1) A bs nc w3 hd3 (by omega)).mono ?_
      rintro e w4 ⟨r1, rfl, ⟨-, hr⟩, hd4, hb4⟩
      obtain ⟨r10, r11⟩ := hr (by omega)
      obtain ⟨i, rfl⟩ := Int.eq_ofNat_of_zero_le r10
      have hin : i < nc := by omega
      have hinz : (i : Int) < (nc : Int) := by omega
      have HT4 := Lib.hid (HT3.out.butG hb4 (by omega))
      have HR4 := Lib.hid (HR3.out.butG hb4 (by have := hG.out; omega))
      have hz4 := hb4.size
      have HB4 := Lib.hid (HB3.out.go hb4)
      have HI4 := Lib.hid (OwnI.butG HK1.out hb4 (by omega))
      have hc4 := OwnCons.butG HK2.out hb4 (by omega)
      obtain ⟨gC, rfl, hgC, us, kk, hkk, hul, hcs, hfz, hou⟩ := OwnCons.elem hc4 (i := i) (by rw [HNC.out]; exact hin)
      have HC4 := Lib.hid hc4
      obtain ⟨vv, av, rv, eu, o1, o2, o3⟩ := hou
      obtain ⟨A1, c1, rfl, -⟩ := o1.read
      obtain ⟨A2, c2, rfl, -⟩ := o2.read
      obtain ⟨A3, c3, rfl, -⟩ := read2 o3
      obtain rfl : us = [.int .i64 kk.kind, .slice A1 kk.vars.length c1, .slice A2 kk.args.length c2, .int .i64 kk.bound, .slice A3 kk.rows.length c3] := by
        injection eu with eu
        exact List.toArray_inj eu
      have hsk := HSM.out kk (List.mem_of_getElem? hkk)
      have HSK := Lib.hid hsk
      have HU4 := Lib.hid (show OwnCon w4 wa.heap.size (.agg #[.int .i64 kk.kind, .slice A1 kk.vars.length c1, .slice A2 kk.args.length c2, .int .i64 kk.bound, .slice A3 kk.rows.length c3]) kk from ⟨_, _, _, rfl, o1, o2, o3⟩)
      have hwx : ∀ w' : World, ButG g w4.heap.size w4 w' → w'.cell? ⟨w1.heap.size, 1, none⟩ = some (.slice (some ⟨gC, 0, none⟩) nc cc) := fun w' h => (HT4.out.butG h (by omega)).at_ 1 rfl
      have hbd : ButG g w4.heap.size w4 w4.drew := below_butG (below_drewN (Below.refl _ _) 1) g
      have hx0 := hwx _ hbd
      have hx00 := hwx _ (ButG.refl _ _ _)
      have hrd : Rd w4.drew base g A n c bs (q + 1 + 1) := hd4.drewN 1
      have hUd : OwnCon w4.drew wa.heap.size (.agg #[.int .i64 kk.kind, .slice A1 kk.vars.length c1, .slice A2 kk.args.length c2, .int .i64 kk.bound, .slice A3 kk.rows.length c3]) kk := OwnCon.below HU4.out (below_drewN (Below.refl _ _) 1)
      have z0 : w4.drew.cell? ⟨gC, i * 5, none⟩ = some _ := hcs 0 _ rfl
      have z1 : w4.drew.cell? ⟨gC, i * 5 + 1, none⟩ = some _ := hcs 1 _ rfl
      have z2 : w4.drew.cell? ⟨gC, i * 5 + 2, none⟩ = some _ := hcs 2 _ rfl
      have z3 : w4.drew.cell? ⟨gC, i * 5 + 3, none⟩ = some _ := hcs 3 _ rfl
      have z4 : w4.drew.cell? ⟨gC, i * 5 + 4, none⟩ = some _ := hcs 4 _ rfl
      have KEY := Lib.hid (fun (W6 : World) (hB : ButG g w4.heap.size w4 W6) => OwnCons.elem (OwnCons.butG HC4.out hB (by omega)) (i := i) (by rw [HNC.out]; exact hin))
      have hzd : w4.drew.heap.size = w4.heap.size := rfl
      clear o1 o2 o3 hr r10 hcs hfz hkk hul hc4 x1 hsk
      go_wp2_with fail
      go_region_law (first
        | (go_simp
           go_at_call 84
           refine (damage base g n c (q + 1 + 1) wa.heap.size A bs _ kk w4.drew hrd (by omega) hUd (by omega) (by omega) HSK.out.2 HSK.out.1.1 HSK.out.1.2.1).mono ?_
           rintro e W6 ⟨v', k', q', rfl, ho', hn', hq', hr6, hb6⟩
           have hB6 := hbd.go hb6
           have hx6 := hwx _ hB6
           obtain ⟨vv', av', rv', rfl, k1, k2, k3⟩ := ho'
           obtain ⟨A1', c1', rfl, -⟩ := k1.read
           obtain ⟨A2', c2', rfl, -⟩ := k2.read
           obtain ⟨A3', c3', rfl, -⟩ := read2 k3
           obtain ⟨gX, eX, -, us6, kk6, -, hul6, hcs6, hfz6, -⟩ := KEY.out W6 hB6
           injection eX with eX
           injection eX with eX
           subst eX
           obtain ⟨u0, u1, u2, u3, u4, rfl⟩ : ∃ u0 u1 u2 u3 u4, us6 = [u0, u1, u2, u3, u4] := by
             match us6, hul6 with
             | [u0, u1, u2, u3, u4], _ => exact ⟨u0, u1, u2, u3, u4, rfl⟩
           have p0 : W6.cell? ⟨gC, i * 5, none⟩ = some u0 := hcs6 0 _ rfl
           have p1 : W6.cell? ⟨gC, i * 5 + 1, none⟩ = some u1 := hcs6 1 _ rfl
           have p2 : W6.cell? ⟨gC, i * 5 + 2, none⟩ = some u2 := hcs6 2 _ rfl
           have p3 : W6.cell? ⟨gC, i * 5 + 3, none⟩ = some u3 := hcs6 3 _ rfl
           have p4 : W6.cell? ⟨gC, i * 5 + 4, none⟩ = some u4 := hcs6 4 _ rfl
           have f0 := hfz6 (i * 5)
           have f1 := hfz6 (i * 5 + 1)
           have f2 := hfz6 (i * 5 + 2)
           have f3 := hfz6 (i * 5 + 3)
           have f4 := hfz6 (i * 5 + 4)
           clear hcs6 hfz6))
      all_goals
        obtain ⟨wz, hwz⟩ : ∃ wz, wz = ((((W6.setCell ⟨gC, i * 5, none⟩ (.int .i64 k'.kind)).setCell ⟨gC, i * 5 + 1, none⟩ (.slice A1' k'.vars.length c1')).setCell ⟨gC, i * 5 + 2, none⟩ (.slice A2' k'.args.length c2')).setCell ⟨gC, i * 5 + 3, none⟩ (.int .i64 k'.bound)).setCell ⟨gC, i * 5 + 4, none⟩ (.slice A3' k'.rows.length c3') := ⟨_, rfl⟩
        have HALL := Lib.hid (OwnMod.putCon (HI4.out.butG hB6 (by omega)) (OwnCons.butG HC4.out hB6 (by omega)) HNC.out hin hgC (show OwnConU W6 wa.heap.size [.int .i64 k'.kind, .slice A1' k'.vars.length c1', .slice A2' k'.args.length c2', .int .i64 k'.bound, .slice A3' k'.rows.length c3'] k' from ⟨_, _, _, rfl, k1, k2, k3⟩) (HT4.out.butG hB6 (show w1.heap.size ≠ g by omega)) (HR4.out.butG hB6 (show w.heap.size ≠ g by have := hG.out; omega)) hr6 (by omega) (HB4.out.go hB6) (by omega) hwz)
        have SZ := Lib.hid (show 1 ≤ (Mod.mk doms (cons.set i k')).doms.length ∧ (Mod.mk doms (cons.set i k')).doms.length ≤ 4 ∧ (Mod.mk doms (cons.set i k')).cons.length ≤ 4 ∧ ∀ k ∈ (Mod.mk doms (cons.set i k')).cons, SmD k from ⟨by show 1 ≤ doms.length; rw [HND.out]; exact hm1, by show doms.length ≤ 4; rw [HND.out]; exact hm4, by show (cons.set i k').length ≤ 4; rw [List.length_set, HNC.out]; exact hmc, fun k hk => by
          rcases List.mem_or_eq_of_mem_set hk with h | h
          · exact (HSM.out k h).1.d
          · rw [h]; exact HSK.out.1.near hn'⟩)
        rw [← hwz]
        clear hwz k1 k2 k3 hr6 hB6 hb6 hx6 hx0 hx00 hUd z0 z1 z2 z3 z4 p0 p1 p2 p3 p4 f0 f1 f2 f3 f4 hwx hn' hul6 hrd hd4 hb4
        have x0 := (HALL.out.1).at_ 0 rfl
        have x1 := (HALL.out.1).at_ 1 rfl
        have y0 := (HALL.out.2.1).at_ 0 rfl
        have y1 := (HALL.out.2.1).at_ 1 rfl
        have f0 := (HALL.out.2.1).frozen 0
        have f1 := (HALL.out.2.1).frozen 1
        obtain ⟨wf, hwf⟩ : ∃ wf, wf = (wz.setCell ⟨w.heap.size, 0, none⟩ (.slice A0 nd c0)).setCell ⟨w.heap.size, 1, none⟩ (.slice (some ⟨gC, 0, none⟩) nc cc) := ⟨_, rfl⟩
        have HF := Lib.hid (OwnMod.laid2 (HALL.out.2.2.1) (HALL.out.2.1) rfl HALL.out.2.2.2.1 hG.out (Nat.le_refl _) HALL.out.2.2.2.2 hwf)
        have HWF := Lib.hid hwf
        clear hwf
        go_wp2_with fail
        rw [← HWF.out]
        obtain ⟨⟨t0, t1⟩, ho, hrd, hbf⟩ := HF.out
        refine bodyPost_ret (v := .agg #[.slice A0 nd c0, .slice (some ⟨gC, 0, none⟩) nc cc]) ?_ rfl ?_
        · simp [results, Try.results41, go_sem, t0, t1]
        · exact ⟨[.slice A0 nd c0, .slice (some ⟨gC, 0, none⟩) nc cc], rfl, _, OwnMod.base_ ho (by omega), SZ.out, _, by omega, hrd, hbf⟩
    · obtain rfl : nc = 0 := by omega
      have hncd : decide ((0 : Int) < ((0 : Nat) : Int)) = false := by decide
      have x0 := (HT3.out).at_ 0 rfl
      have x1 := (HT3.out).at_ 1 rfl
      have y0 := (HR3.out).at_ 0 rfl
      have y1 := (HR3.out).at_ 1 rfl
      have f0 := (HR3.out).frozen 0
      have f1 := (HR3.out).frozen 1
      obtain ⟨wf, hwf⟩ : ∃ wf, wf = (w3.setCell ⟨w.heap.size, 0, none⟩ (.slice A0 nd c0)).setCell ⟨w.heap.size, 1, none⟩ (.slice Ac 0 cc) := ⟨_, rfl⟩
      have HF := Lib.hid (OwnMod.laid2 (HO3.out) (HR3.out) rfl hd3 hG.out (Nat.le_refl _) HB3.out hwf)
      have HWF := Lib.hid hwf
      clear hwf
      go_wp2_with fail
      rw [← HWF.out]
      obtain ⟨⟨t0, t1⟩, ho, hrd, hbf⟩ := HF.out
      refine bodyPost_ret (v := .agg #[.slice A0 nd c0, .slice Ac 0 cc]) ?_ rfl ?_
      · simp [results, Try.results41, go_sem, t0, t1]
      · exact ⟨[.slice A0 nd c0, .slice Ac 0 cc], _, _, rfl, OwnMod.base_ ho (by omega), hSZ.out, by omega, hrd, hbf⟩
  have n1 : (r == 1) = false := by simpa using h1
  have x0 := (HT3.out).at_ 0 rfl
  have x1 := (HT3.out).at_ 1 rfl
  have y0 := (HR3.out).at_ 0 rfl
  have y1 := (HR3.out).at_ 1 rfl
  have f0 := (HR3.out).frozen 0
  have f1 := (HR3.out).frozen 1
  obtain ⟨wf, hwf⟩ : ∃ wf, wf = (w3.setCell ⟨w.heap.size, 0, none⟩ (.slice A0 nd c0)).setCell ⟨w.heap.size, 1, none⟩ (.slice Ac nc cc) := ⟨_, rfl⟩
  have HF := Lib.hid (OwnMod.laid2 (HO3.out) (HR3.out) rfl hd3 hG.out (Nat.le_refl _) HB3.out hwf)
  have HWF := Lib.hid hwf
  clear hwf
  go_wp2_with fail
  rw [← HWF.out]
  obtain ⟨⟨t0, t1⟩, ho, hrd, hbf⟩ := HF.out
  refine bodyPost_ret (v := .agg #[.slice A0 nd c0, .slice Ac nc cc]) ?_ rfl ?_
  · simp [results, Try.results41, go_sem, t0, t1]
  · exact ⟨[.slice A0 nd c0, .slice Ac nc cc], _, _, rfl, OwnMod.base_ ho (by omega), hSZ.out, by omega, hrd, hbf⟩

end Go.Proofs.Ytejfnkbdmlijbaa
