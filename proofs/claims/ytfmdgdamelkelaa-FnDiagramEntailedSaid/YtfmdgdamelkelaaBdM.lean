/- The memory of diagrams that are built: own rows at known blocks, lists of rests. No program in sight. -/
import Derived.Test.YtfmdgdamelkelaaGrow
namespace Go.Proofs.Ytfmdgdamelkelaa
open Go.ChangeShapes Go.WideShapes Go.ChangeAt Go.RowKit
open Go.Shelf
set_option linter.unusedVariables false
set_option maxRecDepth 100000
variable {L0 : Nat → Prop}

/-- rows of numbers at the blocks gs. -/
def RowsAt (W : World) (lo : Nat) (v : Value) (es : List (List Int)) (gs : List Nat) : Prop :=
  gs.length = es.length ∧ ∃ rs : List Value, rs.length = es.length ∧ W.ownsRow lo 22 1 v es.length rs ∧ es.length ≤ 9223372036854775807 ∧
    ∀ (i : Nat) r x g, rs[i]? = some r → es[i]? = some x → gs[i]? = some g → OwnI 3 W lo r x ∧ r.ownBlock = some g
theorem RowsAt.nil {W : World} {lo : Nat} {v : Value} (h : W.ownsRow lo 22 1 v 0 []) : RowsAt W lo v [] [] := ⟨rfl, [], rfl, h, by simp, fun i r x g hr => by simp at hr⟩
theorem RowsAt.move {W W' : World} {lo : Nat} {v : Value} {es : List (List Int)} {gs : List Nat} (h : RowsAt W lo v es gs) (h1 : ∀ n us, W.ownsRow lo 22 1 v n us → W'.ownsRow lo 22 1 v n us)
    (h2 : ∀ r g n us, g ∈ gs → r.ownBlock = some g → W.ownsRow lo 3 1 r n us → W'.ownsRow lo 3 1 r n us) : RowsAt W' lo v es gs := by
  obtain ⟨a, rs, b, c, d, e⟩ := h
  exact ⟨a, rs, b, h1 _ _ c, d, fun i r x g hr hx hg => ⟨⟨h2 r g _ _ (List.mem_of_getElem? hg) (e i r x g hr hx hg).2 (e i r x g hr hx hg).1.1, (e i r x g hr hx hg).1.2⟩, (e i r x g hr hx hg).2⟩⟩
theorem RowsAt.below {W W' : World} {lo : Nat} {v : Value} {es : List (List Int)} {gs : List Nat} (h : RowsAt W lo v es gs) (hb : Below W.heap.size W W') : RowsAt W' lo v es gs :=
  h.move (fun _ _ k => own_below k hb) (fun _ _ _ _ _ _ k => own_below k hb)
theorem own_lt {W : World} {lo n size g : Nat} {e : TypeId} {v : Value} {xs : List Value} (h : W.ownsRow lo e size v n xs) (hg : v.ownBlock = some g) : lo ≤ g ∧ g < W.heap.size := by
  rcases h.2 with ⟨rfl, -⟩ | ⟨b, cap, cur, rfl, h1, h2, -⟩
  · cases hg
  · injection hg with hg
    have hg' : b = g := hg
    subst hg'
    exact ⟨h1, (Array.getElem?_eq_some_iff.1 h2).1⟩
theorem RowsAt.lt {W : World} {lo : Nat} {v : Value} {es : List (List Int)} {gs : List Nat} (h : RowsAt W lo v es gs) : ∀ g ∈ gs, lo ≤ g ∧ g < W.heap.size := by
  obtain ⟨a, rs, b, c, d, e⟩ := h
  intro g hg
  obtain ⟨i, hi, rfl⟩ := List.getElem_of_mem hg
  have k := e i rs[i] es[i] gs[i] (List.getElem?_eq_getElem (by omega)) (List.getElem?_eq_getElem (by omega)) (List.getElem?_eq_getElem hi)
  exact own_lt k.1.1 k.2
/-- a row grows that is none of these. -/
theorem RowsAt.grown {W W' : World} {lo base n : Nat} {v u : Value} {es : List (List Int)} {gs : List Nat} {ys : List Value} (h : RowsAt W lo v es gs) (hu : W.ownsRow base 3 1 u n ys) (hg : W.grownBy W' u.ownBlock) (hne : ∀ g ∈ gs, g < base) : RowsAt W' lo v es gs :=
  h.move (fun _ _ k => own_grown k hg (own_ne (by decide) k hu)) (fun r g _ _ hm hr k => own_grown k hg (fun b hb e => by
    have h1 := (own_lt hu hb).1
    rw [hr] at e
    injection e with e
    have := hne g hm
    omega))
/-- a slice of lists of rows grows. -/
theorem RowsAt.grown2 {W W' : World} {lo base n : Nat} {v u : Value} {es : List (List Int)} {gs : List Nat} {ys : List Value} (h : RowsAt W lo v es gs) (hu : W.ownsRow base 23 1 u n ys) (hg : W.grownBy W' u.ownBlock) : RowsAt W' lo v es gs :=
  h.move (fun _ _ k => own_grown k hg (own_ne (by decide) k hu)) (fun r g _ _ hm hr k => own_grown k hg (own_ne (by decide) k hu))
theorem RowsAt.snoc {W W' : World} {lo g : Nat} {v v' u : Value} {es : List (List Int)} {gs : List Nat} {rs : List Value} {x : List Int} (h1 : gs.length = es.length) (h2 : rs.length = es.length) (h3 : W.ownsRow lo 22 1 v es.length rs)
    (h5 : ∀ (i : Nat) r x g, rs[i]? = some r → es[i]? = some x → gs[i]? = some g → OwnI 3 W lo r x ∧ r.ownBlock = some g) (hx : OwnI 3 W lo u x) (hu : u.ownBlock = some g) (hl : es.length + 1 ≤ 9223372036854775807)
    (hown : W'.ownsRow lo 22 1 v' (es.length + 1) (rs ++ [u])) (hgr : W.grownBy W' v.ownBlock) : RowsAt W' lo v' (es ++ [x]) (gs ++ [g]) := by
  refine ⟨by simp [h1], rs ++ [u], by simp [h2], by simpa using hown, by simpa using hl, fun i r y g' hr hy hg => ?_⟩
  rcases Nat.lt_or_ge i es.length with hi | hi
  · rw [List.getElem?_append_left (by omega)] at hr hy hg
    have k := h5 i r y g' hr hy hg
    exact ⟨k.1.grown (by decide) h3 hgr, k.2⟩
  · have hi2 : i = es.length := by
      rcases Nat.lt_or_ge i (es.length + 1) with h | h
      · omega
      · rw [List.getElem?_eq_none (by simp; omega)] at hy; cases hy
    subst hi2
    rw [List.getElem?_append_right (by omega)] at hr hy hg
    rw [h2, Nat.sub_self] at hr
    rw [Nat.sub_self] at hy
    rw [h1, Nat.sub_self] at hg
    simp at hr hy hg
    subst hr hy hg
    exact ⟨hx.grown (by decide) h3 hgr, hu⟩
theorem RowsAt.read {W : World} {lo : Nat} {v : Value} {es : List (List Int)} {gs : List Nat} (h : RowsAt W lo v es gs) : OwnOf 22 (OwnI 3) W lo v es := by
  obtain ⟨a, rs, b, c, d, e⟩ := h
  refine ⟨rs, b, c, d, fun i u x hu hx => ?_⟩
  have hi : i < gs.length := by have := (List.getElem?_eq_some_iff.1 hx).1; omega
  exact (e i u x gs[i] hu hx (List.getElem?_eq_getElem hi)).1
/-- a row that may be sliced: its length is within its room. -/
def RowK (L0 : Nat → Prop) (w : World) (B : Nat) (u : Value) (r : List Int) : Prop := ∃ A c, u = .slice A r.length c ∧ r.length ≤ c ∧ SlR IntC w B A r.length r ∧ (r ≠ [] → ∀ b o, A = some ⟨b, o, none⟩ → L0 b)
theorem RowK.keeps : Keeps (RowK L0) := fun _ _ _ _ _ hk ⟨A, c, e, hl, hs, h0⟩ => ⟨A, c, e, hl, hs.keep IntC.keeps hk, h0⟩
theorem RowK.widens : Widens (RowK L0) := fun _ _ _ _ _ hk ⟨A, c, e, hl, hs, h0⟩ => ⟨A, c, e, hl, hs.more IntC.widens hk, h0⟩
theorem RowK.row {w : World} {B : Nat} {u : Value} {r : List Int} (h : (RowK L0) w B u r) : RowC IntC w B u r := by obtain ⟨A, c, e, -, hs, -⟩ := h; exact ⟨A, c, e, hs⟩
theorem RowC.mono {α : Type} {R S : World → Nat → Value → α → Prop} (hRS : ∀ w B u x, R w B u x → S w B u x) {w : World} {B : Nat} {u : Value} {r : List α} (h : RowC R w B u r) : RowC S w B u r := by
  obtain ⟨A, c, e, h1, h2, h3⟩ := h
  refine ⟨A, c, e, h1, h2, fun hn => ?_⟩
  obtain ⟨b, o, e, hb, k⟩ := h3 hn
  refine ⟨b, o, e, hb, fun i x hx => ?_⟩
  obtain ⟨u, hu, hr⟩ := k i x hx
  exact ⟨u, hu, hRS _ _ _ _ hr⟩
/-- rests: an own list of rows that lie below lo. -/
def RestO (L0 : Nat → Prop) (lo : Nat) (W : World) (u : Value) (r : List (List Int)) : Prop := OwnOf 22 (fun w _ x t => (RowK L0) w lo x t ∧ lo ≤ w.heap.size) W lo u r
theorem RestO.move {W W' : World} {lo : Nat} {u : Value} {r : List (List Int)} (h : RestO L0 lo W u r) (hb : Below lo W W') (ho : ∀ n us, W.ownsRow lo 22 1 u n us → W'.ownsRow lo 22 1 u n us) : RestO L0 lo W' u r := by
  obtain ⟨us, a, b, c, d⟩ := h
  refine ⟨us, a, ho _ _ b, c, fun i x t hx ht => ?_⟩
  have k := d i x t hx ht
  exact ⟨RowK.keeps _ _ _ _ _ (fun p hp => hb.cell hp) k.1, Nat.le_trans k.2 hb.size⟩
theorem RestO.read {W : World} {lo : Nat} {u : Value} {r : List (List Int)} (h : RestO L0 lo W u r) : RowC (RowK L0) W W.heap.size u r :=
  OwnOf.read (fun w base v x hx => RowK.widens _ _ _ _ _ hx.2 hx.1) h
theorem RestO.below {W W' : World} {lo : Nat} {u : Value} {r : List (List Int)} (h : RestO L0 lo W u r) (hl : lo ≤ W.heap.size) (hb : Below W.heap.size W W') : RestO L0 lo W' u r :=
  h.move (hb.mono hl) (fun _ _ k => own_below k hb)
/-- the next layer's lists of rests; none of them is the block of ev. -/
def NextU (L0 : Nat → Prop) (lo : Nat) (ev : Value) (W : World) (vn : Value) (nx : List (List (List Int))) : Prop := OwnOf 23 (fun w _ u r => RestO L0 lo w u r ∧ ∀ b, ev.ownBlock = some b → u.ownBlock ≠ some b) W lo vn nx
theorem NextU.move {W W' : World} {lo : Nat} {ev ev' vn : Value} {nx : List (List (List Int))} (h : NextU L0 lo ev W vn nx) (hb : Below lo W W') (ho : ∀ n us, W.ownsRow lo 23 1 vn n us → W'.ownsRow lo 23 1 vn n us)
    (hc : ∀ u n us, (∀ b, ev.ownBlock = some b → u.ownBlock ≠ some b) → W.ownsRow lo 22 1 u n us → W'.ownsRow lo 22 1 u n us ∧ ∀ b, ev'.ownBlock = some b → u.ownBlock ≠ some b) : NextU L0 lo ev' W' vn nx := by
  obtain ⟨us, a, b, c, d⟩ := h
  refine ⟨us, a, ho _ _ b, c, fun i x t hx ht => ?_⟩
  have k := d i x t hx ht
  obtain ⟨us2, a2, b2, -⟩ := id k.1
  exact ⟨k.1.move hb fun n us hn => (hc x n us k.2 hn).1, (hc x _ _ k.2 b2).2⟩
theorem NextU.below {W W' : World} {lo : Nat} {ev vn : Value} {nx : List (List (List Int))} (h : NextU L0 lo ev W vn nx) (hl : lo ≤ W.heap.size) (hb : Below W.heap.size W W') : NextU L0 lo ev W' vn nx :=
  h.move (hb.mono hl) (fun _ _ k => own_below k hb) (fun u n us he k => ⟨own_below k hb, he⟩)
/-- a row of numbers grows. -/
theorem NextU.grown {W W' : World} {lo base n : Nat} {ev vn u : Value} {nx : List (List (List Int))} {ys : List Value} (h : NextU L0 lo ev W vn nx) (hb : Below lo W W') (hu : W.ownsRow base 3 1 u n ys) (hg : W.grownBy W' u.ownBlock) : NextU L0 lo ev W' vn nx :=
  h.move hb (fun _ _ k => own_grown k hg (own_ne (by decide) k hu)) (fun x n us he k => ⟨own_grown k hg (own_ne (by decide) k hu), he⟩)
/-- the edges grow. -/
theorem NextU.grownE {W W' : World} {lo n : Nat} {ev ev' vn : Value} {nx : List (List (List Int))} {ys : List Value} (h : NextU L0 lo ev W vn nx) (hb : Below lo W W') (hu : W.ownsRow lo 22 1 ev n ys) (hg : W.grownBy W' ev.ownBlock) (he : ev'.ownBlock = ev.ownBlock ∨ ev'.ownBlock = some W.heap.size) : NextU L0 lo ev' W' vn nx :=
  h.move hb (fun _ _ k => own_grown k hg (own_ne (by decide) k hu)) (fun x n us hx k => ⟨own_grown k hg hx, fun b hb' hxb => by
    rcases he with e | e
    · rw [e] at hb'; exact hx b hb' hxb
    · rw [e] at hb'
      injection hb' with hb'
      have := (own_lt k hxb).2
      omega⟩)
/-- one more list of rests. -/
theorem NextU.snoc {W W' : World} {lo : Nat} {ev vn vn' u : Value} {nx : List (List (List Int))} {us : List Value} {r : List (List Int)} (h1 : us.length = nx.length) (h2 : W.ownsRow lo 23 1 vn nx.length us)
    (h4 : ∀ (i : Nat) x t, us[i]? = some x → nx[i]? = some t → RestO L0 lo W x t ∧ ∀ b, ev.ownBlock = some b → x.ownBlock ≠ some b) (hx : RestO L0 lo W u r) (hu : ∀ b, ev.ownBlock = some b → u.ownBlock ≠ some b) (hl : nx.length + 1 ≤ 9223372036854775807)
    (hb : Below lo W W') (hown : W'.ownsRow lo 23 1 vn' (nx.length + 1) (us ++ [u])) (hgr : W.grownBy W' vn.ownBlock) : NextU L0 lo ev W' vn' (nx ++ [r]) := by
  have hk : ∀ x t, RestO L0 lo W x t → RestO L0 lo W' x t := fun x t h => h.move hb fun _ _ k => own_grown k hgr (own_ne (by decide) k h2)
  refine ⟨us ++ [u], by simp [h1], by simpa using hown, by simpa using hl, fun i x t hx' ht => ?_⟩
  rcases Nat.lt_or_ge i us.length with hi | hi
  · rw [List.getElem?_append_left hi] at hx'
    rw [List.getElem?_append_left (by omega)] at ht
    have k := h4 i x t hx' ht
    exact ⟨hk _ _ k.1, k.2⟩
  · have hi2 : i = us.length := by
      rcases Nat.lt_or_ge i (us.length + 1) with h | h
      · omega
      · rw [List.getElem?_eq_none (by simp; omega)] at hx'; cases hx'
    subst hi2
    rw [List.getElem?_append_right (Nat.le_refl _), Nat.sub_self] at hx'
    rw [h1, List.getElem?_append_right (Nat.le_refl _), Nat.sub_self] at ht
    simp at hx' ht
    subst hx' ht
    exact ⟨hk _ _ hx, hu⟩
theorem NextU.read {W : World} {lo : Nat} {ev vn : Value} {nx : List (List (List Int))} (h : NextU L0 lo ev W vn nx) : RowC (RowC (RowK L0)) W W.heap.size vn nx :=
  OwnOf.read (fun w base v x hx => RestO.read hx.1) h
theorem RowK.move {w w' : World} {B : Nat} {u : Value} {r : List Int} (h : (RowK L0) w B u r) (hk : ∀ p : Addr, L0 p.block → w'.cell? p = w.cell? p) : (RowK L0) w' B u r := by
  obtain ⟨A, c, e, hl, ⟨h1, h2, h3⟩, h0⟩ := h
  refine ⟨A, c, e, hl, ⟨h1, h2, fun hn => ?_⟩, h0⟩
  obtain ⟨b, o, e, hb, k⟩ := h3 hn
  refine ⟨b, o, e, hb, fun i x hx => ?_⟩
  obtain ⟨u, hu, hr⟩ := k i x hx
  exact ⟨u, (hk ⟨b, _, none⟩ (h0 (fun e => by rw [e] at hn; simp at hn) b o e)).trans hu, hr⟩
/-- a slice of lists of rows grows that lies below, and holds no row. -/
theorem NextU.grownO {W W' : World} {lo base n : Nat} {ev vn u : Value} {nx : List (List (List Int))} {ys : List Value} (h : NextU L0 lo ev W vn nx) (hu : W.ownsRow base 23 1 u n ys) (hg : W.grownBy W' u.ownBlock)
    (hlt : ∀ b, u.ownBlock = some b → b < lo ∧ ¬ L0 b) (hL : ∀ b, L0 b → b < W.heap.size) : NextU L0 lo ev W' vn nx := by
  have hk : ∀ p : Addr, L0 p.block → W'.cell? p = W.cell? p := fun p hp => World.cell?_of_block (hg.block p.block (hL _ hp) (fun e => (hlt _ e.symm).2 hp))
  have ho : ∀ {e n v us}, W.ownsRow lo e 1 v n us → W'.ownsRow lo e 1 v n us := fun {e n v us} k => own_grown k hg fun b hb e' => by
    have h1 := (hlt b hb).1
    have h2 := (own_lt k e').1
    omega
  obtain ⟨us, a, b, c, d⟩ := h
  refine ⟨us, a, ho b, c, fun i x t hx ht => ⟨?_, (d i x t hx ht).2⟩⟩
  obtain ⟨us2, a2, b2, c2, d2⟩ := (d i x t hx ht).1
  exact ⟨us2, a2, ho b2, c2, fun i x t hx ht => ⟨(d2 i x t hx ht).1.move hk, Nat.le_trans (d2 i x t hx ht).2 hg.size⟩⟩
theorem RowsAt.base {W : World} {lo lo' : Nat} {v : Value} {es : List (List Int)} {gs : List Nat} (h : RowsAt W lo v es gs) (hl : lo' ≤ lo) : RowsAt W lo' v es gs := by
  obtain ⟨a, rs, b, c, d, e⟩ := h
  exact ⟨a, rs, b, own_base c hl, d, fun i r x g hr hx hg => ⟨⟨own_base (e i r x g hr hx hg).1.1 hl, (e i r x g hr hx hg).1.2⟩, (e i r x g hr hx hg).2⟩⟩
/-- layers of rows at the blocks gss. -/
def DgAt (W : World) (lo : Nat) (v : Value) (d : List (List (List Int))) (gss : List (List Nat)) : Prop :=
  gss.length = d.length ∧ ∃ us : List Value, us.length = d.length ∧ W.ownsRow lo 23 1 v d.length us ∧ d.length ≤ 9223372036854775807 ∧
    ∀ (i : Nat) u es gs, us[i]? = some u → d[i]? = some es → gss[i]? = some gs → RowsAt W lo u es gs
theorem DgAt.nil {W : World} {lo : Nat} {v : Value} (h : W.ownsRow lo 23 1 v 0 []) : DgAt W lo v [] [] := ⟨rfl, [], rfl, h, by simp, fun i r x g hr => by simp at hr⟩
theorem DgAt.below {W W' : World} {lo : Nat} {v : Value} {d : List (List (List Int))} {gss : List (List Nat)} (h : DgAt W lo v d gss) (hb : Below W.heap.size W W') : DgAt W' lo v d gss := by
  obtain ⟨a, us, b, c, e, f⟩ := h
  exact ⟨a, us, b, own_below c hb, e, fun i u es gs hu he hg => (f i u es gs hu he hg).below hb⟩
theorem DgAt.lt {W : World} {lo : Nat} {v : Value} {d : List (List (List Int))} {gss : List (List Nat)} (h : DgAt W lo v d gss) : ∀ g ∈ gss.flatten, lo ≤ g ∧ g < W.heap.size := by
  obtain ⟨a, us, b, c, e, f⟩ := h
  intro g hg
  obtain ⟨gs, hgs, hg⟩ := List.mem_flatten.1 hg
  obtain ⟨i, hi, rfl⟩ := List.getElem_of_mem hgs
  exact (f i us[i] d[i] gss[i] (List.getElem?_eq_getElem (by omega)) (List.getElem?_eq_getElem (by omega)) (List.getElem?_eq_getElem hi)).lt g hg
theorem DgAt.snoc {W W' : World} {lo : Nat} {v v' u : Value} {d : List (List (List Int))} {gss : List (List Nat)} {us : List Value} {es : List (List Int)} {gs : List Nat} (h1 : gss.length = d.length) (h2 : us.length = d.length) (h3 : W.ownsRow lo 23 1 v d.length us)
    (h5 : ∀ (i : Nat) u es gs, us[i]? = some u → d[i]? = some es → gss[i]? = some gs → RowsAt W lo u es gs) (hx : RowsAt W lo u es gs) (hl : d.length + 1 ≤ 9223372036854775807)
    (hown : W'.ownsRow lo 23 1 v' (d.length + 1) (us ++ [u])) (hgr : W.grownBy W' v.ownBlock) : DgAt W' lo v' (d ++ [es]) (gss ++ [gs]) := by
  refine ⟨by simp [h1], us ++ [u], by simp [h2], by simpa using hown, by simpa using hl, fun i r y g' hr hy hg => ?_⟩
  rcases Nat.lt_or_ge i d.length with hi | hi
  · rw [List.getElem?_append_left (by omega)] at hr hy hg
    exact (h5 i r y g' hr hy hg).grown2 h3 hgr
  · have hi2 : i = d.length := by
      rcases Nat.lt_or_ge i (d.length + 1) with h | h
      · omega
      · rw [List.getElem?_eq_none (by simp; omega)] at hy; cases hy
    subst hi2
    rw [List.getElem?_append_right (by omega)] at hr hy hg
    rw [h2, Nat.sub_self] at hr
    rw [Nat.sub_self] at hy
    rw [h1, Nat.sub_self] at hg
    simp at hr hy hg
    subst hr hy hg
    exact hx.grown2 h3 hgr
theorem DgAt.read {W : World} {lo : Nat} {v : Value} {d : List (List (List Int))} {gss : List (List Nat)} (h : DgAt W lo v d gss) : OwnOf 23 (OwnOf 22 (OwnI 3)) W lo v d := by
  obtain ⟨a, us, b, c, e, f⟩ := h
  refine ⟨us, b, c, e, fun i u x hu hx => ?_⟩
  have hi : i < gss.length := by have := (List.getElem?_eq_some_iff.1 hx).1; omega
  exact (f i u x gss[i] hu hx (List.getElem?_eq_getElem hi)).read
section
variable {P : Program} {w : World} {o : Oper} {a : Act} {Q : Exit → Act → World → Prop}
/-- append to my slice; it tells where the new one lies. -/
theorem wpList_append_blk {ops : Array Oper} {rest : List Oper} (hgd : o.guard = none) (s x : Operand) (t : TypeId)
    (ho : o.op = .call { callee := .builtin .append, args := #[s, x], argTypes := #[t, t] })
    (base : Nat) (e : TypeId) (i : TypeInfo) (z : Value) (size bytes : Nat) (ht : P.underlying t = some (.slice e)) (hi : P.info? e = some i) (hz : i.zero = some z)
    (hsize : i.size = size) (hby : i.bytes = bytes) (hzs : z.cells.size = size) (hsz : 0 < size)
    (v : Value) (n : Nat) (xs : List Value) (hs : a.eval s = v) (hown : w.ownsRow base e size v n xs)
    (ad : Addr) (m c : Nat) (news : List Value) (hx : a.eval x = .slice (some ad) m c) (hl : news.length = m * size) (hc : ∀ j u, news[j]? = some u → w.cell? (ad.add j) = some u) (h1 : ∀ u ∈ news, u.oneCell' = true)
    (h63 : n + m ≤ maxLen) (hbytes : (n + m) * bytes ≤ 140737488355328) (hbase : base ≤ w.heap.size)
    (h : ∀ v' w', w'.ownsRow base e size v' (n + m) (xs ++ news) → Below base w w' → w.grownBy w' v.ownBlock → (v'.ownBlock = v.ownBlock ∨ v'.ownBlock = some w.heap.size) → wpList P ops Q rest (a.put o.dst v') w') :
    wpList P ops Q (o :: rest) a w := by
  refine wpList_plain hgd fun K hK => ?_
  obtain ⟨v', w', hr, h2, h3, h4, h5⟩ := run_append_own_at (P := P) w base t o.type e i z size bytes ht hi hz hsize hby hzs hsz v n xs hown ad m c news hl hc h1 h63 hbytes hbase
  unfold Oper.wp execOp
  simp only [ho, resolve, invoke, builtin, Sem.run_bind, Sem.run_pure, Result.andThen_ok, List.map_toArray, List.map_cons, List.map_nil, hs, hx, hr]
  exact hK _ _ (h v' w' h2 ((Below.refl _ _).grown h3 hbase (fun g hg => (hown.lt g hg).1)) h3 h5)
end
end Go.Proofs.Ytfmdgdamelkelaa
