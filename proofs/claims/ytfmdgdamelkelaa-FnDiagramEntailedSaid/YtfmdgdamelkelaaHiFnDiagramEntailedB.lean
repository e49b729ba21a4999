/- Texts laid into one: DgD Marks TouchF MarkCF MarkD DgS DrawA DrawF DrawG DrawH DgW DrawJ. -/
import Derived.Test.YtfmdgdamelkelaaHiFnDiagramEntailedA
import Derived.Test.YtfmdgdamelkelaaHold
import Derived.Test.YtfmdgdamelkelaaModI
import Derived.Test.YtfmdgdamelkelaaSolI
import Derived.Test.YtfmdgdamelkelaaBdM
import Derived.Test.YtfmdgdamelkelaaDraw
import Derived.Test.YtfmdgdamelkelaaInts
import Derived.Test.YtfmdgdamelkelaaDrawR
import Derived.Test.YtfmdgdamelkelaaNums
import Derived.Deep.Cut
/- The shape of drawn diagrams, and one number stored into one. No program in sight. -/
namespace Go.Proofs.Ytfmdgdamelkelaa
open Go.ChangeShapes Go.WideShapes Go.ChangeAt Go.RowKit
open Go.Shelf
set_option linter.unusedVariables false
set_option maxRecDepth 100000

/-- at most 4 layers of nodes with 6 edges each. -/
def DgSh (d : List (List (List Int))) : Prop := d.length ≤ 4 ∧ ∀ es ∈ d, 1 ≤ es.length ∧ es.length ≤ 5000 ∧ ∀ x ∈ es, x.length = 6
theorem DgSh.nil : DgSh [] := ⟨by simp, by simp⟩
theorem bdg_sh (c : Con) (ds : List Int) : DgSh (bdgF c ds) := by
  unfold bdgF
  split
  · rename_i hok
    split
    · exact DgSh.nil
    · rename_i hall
      simp only [Bool.and_eq_true] at hok
      obtain ⟨-, hl4, -⟩ := dok_parts hok.1
      have hv := vcon_vars hok.2 hl4
      have h4 : c.vars.length ≤ 4 := by omega
      have hlay := allF_lay h4 hall
      refine ⟨by rw [bd_len]; exact h4, fun es hes => ?_⟩
      obtain ⟨i, hi, e⟩ := List.getElem_of_mem hes
      have hi2 : i < c.vars.length := by rwa [bd_len] at hi
      have hb := bd_at c.vars.length [allF c ds] i hi2
      rw [List.getElem?_eq_getElem hi, e] at hb
      injection hb with hb
      subst hb
      have hk := Lay.at_ (lay := [allF c ds]) (f := c.vars.length - i) (i := i) (by rwa [Nat.sub_add_cancel (by omega)])
      refine ⟨by rw [List.length_map]; exact List.length_pos_iff.2 hk.pos, by rw [List.length_map]; exact (lay_bounds h4 hlay hi2).1, fun x hx => ?_⟩
      obtain ⟨L, -, rfl⟩ := List.mem_map.1 hx
      exact row_len _ _
  · exact DgSh.nil
theorem list_of_ {α : Type} {P : Nat → α → Prop} : ∀ n : Nat, (∀ i, i < n → ∃ y, P i y) → ∃ l : List α, l.length = n ∧ ∀ (i : Nat) y, l[i]? = some y → P i y
  | 0, _ => ⟨[], rfl, fun i y h => by simp at h⟩
  | n + 1, h => by
    obtain ⟨l, hl, hq⟩ := list_of_ n fun i hi => h i (by omega)
    obtain ⟨y, hy⟩ := h n (by omega)
    refine ⟨l ++ [y], by simp [hl], fun i z hz => ?_⟩
    rcases Nat.lt_or_ge i n with hi | hi
    · rw [List.getElem?_append_left (by omega)] at hz
      exact hq i z hz
    · have hi2 : i = n := by
        have := (List.getElem?_eq_some_iff.1 hz).1
        simp [hl] at this
        omega
      subst hi2
      rw [List.getElem?_append_right (by omega), hl, Nat.sub_self] at hz
      simp at hz
      subst hz
      exact hy
/-- whatever number is stored into a block of numbers: what is owned stays owned, and as long. -/
theorem OwnI.any_ {w : World} {B gD j : Nat} {v : Value} {xs : List Int} {cs : Array Value} (x : Int) (hb : TBlk 3 w gD cs) (h : OwnI 3 w B v xs) : ∃ xs', OwnI 3 (w.setCell ⟨gD, j, none⟩ (.int .i64 x)) B v xs' ∧ xs'.length = xs.length := by
  obtain ⟨h1, h3⟩ := h
  obtain ⟨h1a, h2⟩ := id h1
  rcases h2 with ⟨rfl, h0⟩ | ⟨g, cap, cur, rfl, hg, hh, hcap, hmax, hsz, ht⟩
  · exact ⟨xs, ⟨⟨h1a, .inl ⟨rfl, h0⟩⟩, h3⟩, rfl⟩
  · by_cases e : g = gD
    · subst e
      refine ⟨xs.set j x, ⟨?_, by rw [List.length_set]; exact h3⟩, List.length_set⟩
      rw [List.length_set, List.map_set]
      exact (h1.stored j (.int .i64 x)).1
    · refine ⟨xs, ⟨⟨h1a, .inr ⟨g, cap, cur, rfl, hg, ?_, hcap, hmax, hsz, ht⟩⟩, h3⟩, rfl⟩
      rw [Below.heap_setCell _ _ _ _ (by exact e)]
      exact hh
theorem OwnOf.any_ {α : Type} {e1 : TypeId} (he : 3 ≠ e1) {In In' : World → Nat → Value → α → Prop} {R : α → α → Prop} {w : World} {B gD j : Nat} {v : Value} {xs : List α} {cs : Array Value} (x : Int) (hb : TBlk 3 w gD cs) (h : OwnOf e1 In w B v xs)
    (hI : ∀ u z, In w B u z → ∃ y, In (w.setCell ⟨gD, j, none⟩ (.int .i64 x)) B u y ∧ R z y) :
    ∃ xs', OwnOf e1 In (w.setCell ⟨gD, j, none⟩ (.int .i64 x)) B v xs' ∧ xs'.length = xs.length ∧ ∀ y ∈ xs', ∃ z ∈ xs, R z y := by
  obtain ⟨us, h1, h2, h3, h4⟩ := h
  obtain ⟨l, hl, hq⟩ := list_of_ xs.length (P := fun i (y : α) => ∀ u z, us[i]? = some u → xs[i]? = some z → In (w.setCell ⟨gD, j, none⟩ (.int .i64 x)) B u y ∧ R z y) (fun i hi => by
    obtain ⟨ys, a, b⟩ := hI _ _ (h4 i _ _ (List.getElem?_eq_getElem (by omega)) (List.getElem?_eq_getElem hi))
    refine ⟨ys, fun u z hu hz => ?_⟩
    rw [List.getElem?_eq_getElem (by omega)] at hu
    rw [List.getElem?_eq_getElem hi] at hz
    injection hu with hu
    injection hz with hz
    subst hu hz
    exact ⟨a, b⟩)
  refine ⟨l, ⟨us, by omega, by rw [hl]; exact own_shun he j _ hb h2, by omega, fun i u y hu hy => ?_⟩, hl, fun y hy => ?_⟩
  · have hi : i < xs.length := by
      rw [← hl]; exact (List.getElem?_eq_some_iff.1 hy).1
    exact (hq i y hy u _ hu (List.getElem?_eq_getElem hi)).1
  · obtain ⟨i, hi, e⟩ := List.getElem_of_mem hy
    have hi2 : i < xs.length := by omega
    exact ⟨xs[i], List.getElem_mem hi2, (hq i y (by rw [List.getElem?_eq_getElem hi, e]) _ _ (List.getElem?_eq_getElem (show i < us.length by omega)) (List.getElem?_eq_getElem hi2)).2⟩
/-- a drawn diagram. -/
abbrev OwnD (w : World) (B : Nat) (v : Value) (d : List (List (List Int))) : Prop := OwnOf 23 (OwnOf 22 (OwnI 3)) w B v d
theorem OwnD.any {w : World} {B gD j : Nat} {v : Value} {d : List (List (List Int))} {cs : Array Value} (x : Int) (hb : TBlk 3 w gD cs) (h : OwnD w B v d) (hs : DgSh d) : ∃ d', OwnD (w.setCell ⟨gD, j, none⟩ (.int .i64 x)) B v d' ∧ DgSh d' := by
  obtain ⟨d', h1, h2, h3⟩ := OwnOf.any_ (In' := fun _ _ _ _ => True) (R := fun (z y : List (List Int)) => y.length = z.length ∧ ∀ t ∈ y, ∃ s ∈ z, t.length = s.length) (j := j) (by decide) x hb h (fun u z hz => by
    obtain ⟨y, a, b, c⟩ := OwnOf.any_ (In' := fun _ _ _ _ => True) (R := fun (s t : List Int) => t.length = s.length) (j := j) (by decide) x hb hz (fun u z hz => OwnI.any_ x hb hz)
    exact ⟨y, a, b, c⟩)
  refine ⟨d', h1, by rw [h2]; exact hs.1, fun es hes => ?_⟩
  obtain ⟨z, hz, a, b⟩ := h3 es hes
  obtain ⟨q1, q2, q3⟩ := hs.2 z hz
  refine ⟨by omega, by omega, fun t ht => ?_⟩
  obtain ⟨s, hs', e⟩ := b t ht
  rw [e]; exact q3 s hs'
end Go.Proofs.Ytfmdgdamelkelaa
/- The laws' marks, on fresh slices of whatever capacity; what they leave alone. -/
namespace Go.Proofs.Ytfmdgdamelkelaa
open Go.ChangeShapes Go.WideShapes Go.ChangeAt Go.RowKit
open Go.Shelf
set_option linter.unusedVariables false
set_option maxRecDepth 100000

theorem grown_trans {w w1 w2 : World} {r : Option Nat} (h : w.grownBy w1 r) (k : w1.grownBy w2 r) : w.grownBy w2 r :=
  ⟨k.os.trans h.os, k.tape.trans h.tape, k.output.trans h.output, Nat.le_trans h.size k.size, fun b hb hne => (k.block b (Nat.lt_of_lt_of_le hb h.size) hne).trans (h.block b hb hne)⟩
theorem grown_set (w : World) (g j : Nat) (u : Value) : w.grownBy (w.setCell ⟨g, j, none⟩ u) (some g) :=
  ⟨rfl, rfl, rfl, by simp, fun k _ hk => Below.heap_setCell w ⟨g, j, none⟩ u k (fun e => hk (by rw [e]))⟩
theorem HoldR.far {w w' : World} {base n size : Nat} {e : TypeId} {v : Value} {xs : List Value} {r : Option Nat} (h : HoldR w base e size v n xs) (hg : w.grownBy w' r) (hne : ∀ b, r = some b → b < base) : HoldR w' base e size v n xs :=
  ⟨h.1, h.2.imp id fun ⟨g, cap, cur, h1, h2, h3, r⟩ => ⟨g, cap, cur, h1, h2, (hg.block g (Array.getElem?_eq_some_iff.1 h3).1 (fun e => by have := hne g e.symm; omega)).trans h3, r⟩⟩
theorem HoldR.blk {w : World} {base n size : Nat} {e : TypeId} {v : Value} {xs : List Value} (h : HoldR w base e size v n xs) : ∀ b, v.ownBlock = some b → base ≤ b ∧ b < w.heap.size := fun b hb => by
  rcases h.2 with ⟨rfl, _⟩ | ⟨g, cap, cur, rfl, h2, h3, _⟩
  · cases hb
  · injection hb with hb
    subst hb
    exact ⟨h2, (Array.getElem?_eq_some_iff.1 h3).1⟩
theorem markIntH (v : Value) (n base : Nat) (k : Int) (xs : List Int) (w : World) (h : HoldR w base 3 1 v n (xs.map (.int .i64))) (hn : n ≤ 16777216) (h0 : 0 ≤ k) (h1 : k ≤ 1099511627776) :
    Calls Try.prog 18 #[v, .int .i64 k] w fun e w' => e = .returned (.int .i64 (k + n)) ∧ HoldR w' base 3 1 v n ((seqF k n).map (.int .i64)) ∧ Below base w w' ∧ w.grownBy w' v.ownBlock := by
  have hl : xs.length = n := by have := h.1; simpa using this
  obtain ⟨A, c, rfl⟩ := h.form
  by_cases hz : n = 0
  · subst hz
    go_enter Try.func18, Try.ntmps18
    go_wp2_with fail
    refine wp_loop_once ?_
    go_wp2_with fail
    go_ret
    refine ⟨ret_int (by simp), ?_, Below.refl _ _, grown_refl _ _⟩
    have : xs = [] := List.eq_nil_of_length_eq_zero hl
    subst this
    simpa [seqF] using h
  obtain ⟨g, rfl, hg, hgw⟩ := h.pos (by omega)
  have H := Lib.hid h
  have HL := Lib.hid hl
  clear h hl
  go_enter Try.func18, Try.ntmps18
  go_wp2_with fail
  go_loopw [1, 5] (fun t i wr => ∃ j : Nat, j ≤ n ∧ i = .int .i64 j ∧ t = .int .i64 (k + j) ∧ Hid (HoldR wr base 3 1 (.slice (some ⟨g, 0, none⟩) n c) n ((markTo k xs j).map (.int .i64))) ∧ Below base w wr ∧ Hid (w.grownBy wr (some g))) (fun _ i _ => n - (intOf i).toNat)
  case atStart => exact ⟨0, by omega, rfl, by simp, by rw [markTo_zero]; exact H.out, Below.refl _ _, Lib.hid (grown_refl _ _)⟩
  case round =>
    obtain ⟨j, hj, rfl, rfl, hq, hb, hgr⟩ := hrel
    by_cases hlt : j < n
    · have hco := hq.out.cellAt j (by omega)
      rw [List.getElem?_map, markTo_at (by rw [HL.out]; exact hlt)] at hco
      simp only [Option.map_some] at hco
      have hfo := hq.out.frozenAt j
      go_wp2_with fail
      go_roundw
      case rel => exact ⟨j + 1, by omega, by go_num, by simp; omega, by have := hq.out.stored j (.int .i64 (k + j)); rw [← List.map_set, markTo_set (by rw [HL.out]; exact hlt)] at this; exact this, hb.setCell (by simpa using hg) _, Lib.hid (grown_trans hgr.out (grown_set _ _ _ _))⟩
      case measure => simp [intOf]; omega
    · obtain rfl : j = n := by omega
      go_wp2_with fail
      go_ret
      exact ⟨rfl, by rw [← markTo_done HL.out]; exact hq.out, hb, hgr.out⟩
/-- the i-th marked literal, marks from k on. -/
def mkL1 (k : Int) (i : Nat) : Ltl := ⟨k + 3 * (i : Int), k + 3 * (i : Int) + 1, (k + 3 * (i : Int) + 2) % 3 == 0⟩
def mkL (k : Int) (n : Nat) : List Ltl := (List.range n).map (mkL1 k)
theorem mkL_len (k : Int) (n : Nat) : (mkL k n).length = n := by simp [mkL]
theorem mkL_at {k : Int} {n j : Nat} (h : j < n) : (mkL k n)[j]? = some (mkL1 k j) := by simp [mkL, h]
def mkTo (k : Int) (xs : List Ltl) (j : Nat) : List Ltl := mkL k j ++ xs.drop j
theorem mkTo_zero (k : Int) (xs : List Ltl) : mkTo k xs 0 = xs := by simp [mkTo, mkL]
theorem mkTo_done {k : Int} {xs : List Ltl} {n : Nat} (h : xs.length = n) : mkTo k xs n = mkL k n := by simp [mkTo, ← h]
theorem mkTo_at {k : Int} {xs : List Ltl} {j : Nat} {x : Ltl} (hx : xs[j]? = some x) : (mkTo k xs j)[j]? = some x := by
  unfold mkTo
  rw [List.getElem?_append_right (by rw [mkL_len]; omega), mkL_len, Nat.sub_self, List.getElem?_drop, Nat.add_zero, hx]
theorem mkTo_set {k : Int} {xs : List Ltl} {j : Nat} {x : Ltl} (hx : xs[j]? = some x) :
    ((((mkTo k xs j).flatMap ltlCs).set (j * 3) (.int .i64 (k + 3 * (j : Int)))).set (j * 3 + 1) (.int .i64 (k + 3 * (j : Int) + 1))).set (j * 3 + 2) (.bool ((k + 3 * (j : Int) + 2) % 3 == 0)) = (mkTo k xs (j + 1)).flatMap ltlCs := by
  have hj : j < xs.length := (List.getElem?_eq_some_iff.1 hx).1
  have e1 : (mkTo k xs j).flatMap ltlCs = (mkL k j).flatMap ltlCs ++ ([.int .i64 x.var, .int .i64 x.val, .bool x.neg] ++ (xs.drop (j + 1)).flatMap ltlCs) := by
    unfold mkTo
    rw [List.flatMap_append, List.drop_eq_getElem_cons hj, List.flatMap_cons]
    have : xs[j] = x := by rw [List.getElem?_eq_getElem hj] at hx; injection hx
    rw [this]; rfl
  rw [e1, set3 _ _ _ _ _ _ _ _ (j * 3) (by rw [flatMap_len ltlCs 3 (fun _ => rfl), mkL_len])]
  unfold mkTo mkL
  rw [List.range_succ, List.map_append, List.append_assoc, List.flatMap_append, List.flatMap_append]
  rfl
end Go.Proofs.Ytfmdgdamelkelaa
/- Marks on the law's own copies of models: which blocks they touch, and what they keep. -/
namespace Go.Proofs.Ytfmdgdamelkelaa
open Go.ChangeShapes Go.WideShapes Go.ChangeAt Go.RowKit
open Go.Shelf
set_option linter.unusedVariables false
set_option maxRecDepth 100000

/-- Of the blocks of w only those from lo to below hi may have turned. -/
def Touch (lo hi : Nat) (w w' : World) : Prop := Below lo w w' ∧ ∀ b, hi ≤ b → b < w.heap.size → w'.heap[b]? = w.heap[b]?
/-- Slices in cells stay, numbers stay numbers. -/
def Keep (w w' : World) : Prop := ∀ (g : Nat) (cs : Array Value) (t : TypeId), w.heap[g]? = some (.cells cs t (0, 0)) → ∃ cs' : Array Value, w'.heap[g]? = some (.cells cs' t (0, 0)) ∧
  (∀ (j : Nat) A n c, cs[j]? = some (.slice A n c) → cs'[j]? = some (.slice A n c)) ∧ (∀ (j : Nat) x, cs[j]? = some (.int .i64 x) → ∃ y, cs'[j]? = some (.int .i64 y))
section
variable {w w1 w2 w' : World} {lo hi n : Nat} {A : Option Addr}
theorem lt_heap {g : Nat} {o : Obj} (h : w.heap[g]? = some o) : g < w.heap.size := (Array.getElem?_eq_some_iff.1 h).1
theorem Touch.refl (lo hi : Nat) (w : World) : Touch lo hi w w := ⟨Below.refl _ _, fun _ _ _ => rfl⟩
theorem Touch.trans (h : Touch lo hi w w1) (k : Touch lo hi w1 w2) : Touch lo hi w w2 :=
  ⟨h.1.trans k.1, fun b hb hs => (k.2 b hb (Nat.lt_of_lt_of_le hs h.1.size)).trans (h.2 b hb hs)⟩
theorem Touch.of_below (hb : Below w.heap.size w w') (hl : lo ≤ w.heap.size) : Touch lo hi w w' := ⟨hb.mono hl, fun b _ hs => hb.block b hs⟩
theorem Touch.store {g : Nat} (hl : lo ≤ g) (hh : g < hi) (j : Nat) (u : Value) : Touch lo hi w (w.setCell ⟨g, j, none⟩ u) :=
  ⟨(Below.refl _ _).setCell (by simpa using hl) _, fun b hb _ => Below.heap_setCell w ⟨g, j, none⟩ u b (by show b ≠ g; omega)⟩
theorem Keep.refl (w : World) : Keep w w := fun g cs t h => ⟨cs, h, fun _ _ _ _ h => h, fun _ x h => ⟨x, h⟩⟩
theorem Keep.trans (h : Keep w w1) (k : Keep w1 w2) : Keep w w2 := fun g cs t hg => by
  obtain ⟨c1, h1, h2, h3⟩ := h g cs t hg
  obtain ⟨c2, k1, k2, k3⟩ := k g c1 t h1
  refine ⟨c2, k1, fun j A n c hj => k2 j A n c (h2 j A n c hj), fun j x hj => ?_⟩
  obtain ⟨y, hy⟩ := h3 j x hj
  exact k3 j y hy
theorem Keep.of_below (hb : Below w.heap.size w w') : Keep w w' := fun g cs t hg => ⟨cs, (hb.block g (lt_heap hg)).trans hg, fun _ _ _ _ h => h, fun _ x h => ⟨x, h⟩⟩
theorem Keep.store {g j : Nat} {cs : Array Value} {t : TypeId} {x y : Int} (hg : w.heap[g]? = some (.cells cs t (0, 0))) (hj : cs[j]? = some (.int .i64 x)) : Keep w (w.setCell ⟨g, j, none⟩ (.int .i64 y)) := by
  intro g' c0 t0 h0
  by_cases he : g' = g
  · subst he
    rw [hg] at h0
    injection h0 with h0
    injection h0 with e1 e2 e3
    subst e1 e2
    refine ⟨_, heap_setCell_same w g' j cs t _ hg, fun i A n c hi => ?_, fun i x' hi => ?_⟩
    · rw [Array.getElem?_setIfInBounds]
      split
      · rename_i hij; subst hij; rw [hj] at hi; cases hi
      · exact hi
    · rw [Array.getElem?_setIfInBounds]
      split
      · rename_i hij
        subst hij
        rw [if_pos (Array.getElem?_eq_some_iff.1 hj).1]
        exact ⟨y, rfl⟩
      · exact ⟨x', hi⟩
  · exact ⟨c0, (Below.heap_setCell w ⟨g, j, none⟩ _ g' he).trans h0, fun _ _ _ _ h => h, fun _ x h => ⟨x, h⟩⟩
/-- n numbers in a block from lo to below hi. -/
def HI (w : World) (lo hi : Nat) (A : Option Addr) (n : Nat) : Prop := n = 0 ∨ ∃ (g : Nat) (cs : Array Value) (t : TypeId), A = some ⟨g, 0, none⟩ ∧ lo ≤ g ∧ g < hi ∧ w.heap[g]? = some (.cells cs t (0, 0)) ∧ ∀ j, j < n → ∃ x, cs[j]? = some (.int .i64 x)
theorem HI.keep (h : HI w lo hi A n) (k : Keep w w') : HI w' lo hi A n := by
  rcases h with h | ⟨g, cs, t, e, h1, h2, h3, h4⟩
  · exact .inl h
  · obtain ⟨c1, k1, k2, k3⟩ := k g cs t h3
    refine .inr ⟨g, c1, t, e, h1, h2, k1, fun j hj => ?_⟩
    obtain ⟨x, hx⟩ := h4 j hj
    exact k3 j x hx
/-- rows of numbers, each in a block from lo to below hi. -/
def HRows (w : World) (lo hi : Nat) (A : Option Addr) (n : Nat) : Prop := n = 0 ∨ ∃ (g : Nat) (cs : Array Value) (t : TypeId), A = some ⟨g, 0, none⟩ ∧ w.heap[g]? = some (.cells cs t (0, 0)) ∧ ∀ j, j < n → ∃ A' n' c', cs[j]? = some (.slice A' n' c') ∧ n' ≤ 1048576 ∧ HI w lo hi A' n'
theorem HRows.keep (h : HRows w lo hi A n) (k : Keep w w') : HRows w' lo hi A n := by
  rcases h with h | ⟨g, cs, t, e, h3, h4⟩
  · exact .inl h
  · obtain ⟨c1, k1, k2, k3⟩ := k g cs t h3
    refine .inr ⟨g, c1, t, e, k1, fun j hj => ?_⟩
    obtain ⟨A', n', c', a1, a2, a3⟩ := h4 j hj
    exact ⟨A', n', c', k2 j _ _ _ a1, a2, a3.keep k⟩
def HCon (w : World) (lo hi : Nat) (va aa ra : Option Addr) (nv na nr : Nat) : Prop := nv ≤ 1048576 ∧ na ≤ 1048576 ∧ nr ≤ 1048576 ∧ HI w lo hi va nv ∧ HI w lo hi aa na ∧ HRows w lo hi ra nr
theorem HCon.keep {va aa ra : Option Addr} {nv na nr : Nat} (h : HCon w lo hi va aa ra nv na nr) (k : Keep w w') : HCon w' lo hi va aa ra nv na nr := ⟨h.1, h.2.1, h.2.2.1, h.2.2.2.1.keep k, h.2.2.2.2.1.keep k, h.2.2.2.2.2.keep k⟩
/-- constraints, all in blocks from lo to below hi. -/
def HCons (w : World) (lo hi : Nat) (A : Option Addr) (n : Nat) : Prop := n = 0 ∨ ∃ (g : Nat) (cs : Array Value) (t : TypeId), A = some ⟨g, 0, none⟩ ∧ lo ≤ g ∧ g < hi ∧ w.heap[g]? = some (.cells cs t (0, 0)) ∧
  ∀ j, j < n → ∃ k va nv cv aa na ca b ra nr cr, cs[j * 5]? = some (.int .i64 k) ∧ cs[j * 5 + 1]? = some (.slice va nv cv) ∧ cs[j * 5 + 2]? = some (.slice aa na ca) ∧ cs[j * 5 + 3]? = some (.int .i64 b) ∧ cs[j * 5 + 4]? = some (.slice ra nr cr) ∧ HCon w lo hi va aa ra nv na nr
theorem HCons.keep (h : HCons w lo hi A n) (k : Keep w w') : HCons w' lo hi A n := by
  rcases h with h | ⟨g, cs, t, e, h1, h2, h3, h4⟩
  · exact .inl h
  · obtain ⟨c1, k1, k2, k3⟩ := k g cs t h3
    refine .inr ⟨g, c1, t, e, h1, h2, k1, fun j hj => ?_⟩
    obtain ⟨k, va, nv, cv, aa, na, ca, b, ra, nr, cr, a0, a1, a2, a3, a4, a5⟩ := h4 j hj
    obtain ⟨k', a0'⟩ := k3 _ _ a0
    obtain ⟨b', a3'⟩ := k3 _ _ a3
    exact ⟨k', va, nv, cv, aa, na, ca, b', ra, nr, cr, a0', k2 _ _ _ _ a1, k2 _ _ _ _ a2, a3', k2 _ _ _ _ a4, a5.keep ‹_›⟩
end
set_option maxHeartbeats 4000000 in
theorem markIntT (A : Option Addr) (n c lo hi : Nat) (k : Int) (w : World) (h : HI w lo hi A n) (hlo : lo ≤ w.heap.size) (hn : n ≤ 1048576) (h0 : 0 ≤ k) (h1 : k ≤ 4611686018427387904) :
    Calls Try.prog 18 #[.slice A n c, .int .i64 k] w fun e w' => ∃ k' : Int, e = .returned (.int .i64 k') ∧ k ≤ k' ∧ k' ≤ k + 1048576 ∧ Touch lo hi w w' ∧ Keep w w' := by
  have H := Lib.hid h
  clear h
  go_enter Try.func18, Try.ntmps18
  go_wp2_with fail
  go_loopw [1, 5] (fun t i wr => ∃ j : Nat, ∃ k' : Int, j ≤ n ∧ i = .int .i64 j ∧ t = .int .i64 k' ∧ k ≤ k' ∧ k' ≤ k + j ∧ Touch lo hi w wr ∧ Hid (Keep w wr)) (fun _ i _ => n - (intOf i).toNat)
  case atStart => exact ⟨0, k, by omega, rfl, rfl, by omega, by simp, Touch.refl _ _ _, Keep.refl _⟩
  case round =>
    obtain ⟨j, k', hj, rfl, rfl, hk, hk2, ht, hq⟩ := hrel
    by_cases hlt : j < n
    · rcases H.out.keep hq.out with h | ⟨g, cs, t, rfl, hg1, hg2, hg3, hg4⟩
      · omega
      obtain ⟨x, hx⟩ := hg4 j hlt
      have hc : wr.cell? ⟨g, j, none⟩ = some (.int .i64 x) := by rw [cell_of_row wr g j cs t _ hg3]; exact hx
      have hf := frozen_of_row wr g j cs t hg3
      have hT := Lib.hid (ht.trans (Touch.store (w := wr) hg1 hg2 j (.int .i64 k')))
      have hK := Lib.hid (hq.out.trans (Keep.store (y := k') hg3 hx))
      clear hg3 hg4 hx
      have hadd : wrap64 (k' + 1) = k' + 1 := IntWalk.wrap64_in _ ⟨by omega, by omega⟩
      go_wp2_with fail
      go_roundw
      case rel => exact ⟨j + 1, k' + 1, by omega, by go_num, rfl, by omega, by omega, hT.out, hK⟩
      case measure => simp [intOf]; omega
    · obtain rfl : j = n := by omega
      go_wp2_with fail
      go_ret
      exact ⟨k', rfl, by omega, by omega, ht, hq.out⟩
set_option maxHeartbeats 4000000 in
theorem markIntSST (A : Option Addr) (n c lo hi : Nat) (k : Int) (w : World) (h : HRows w lo hi A n) (hlo : lo ≤ w.heap.size) (hn : n ≤ 1048576) (h0 : 0 ≤ k) (h1 : k ≤ 4611684918915760128) :
    Calls Try.prog 56 #[.slice A n c, .int .i64 k] w fun e w' => ∃ k' : Int, e = .returned (.int .i64 k') ∧ k ≤ k' ∧ k' ≤ k + 1099511627776 ∧ Touch lo hi w w' ∧ Keep w w' := by
  have H := Lib.hid h
  clear h
  go_enter Try.func56, Try.ntmps56
  go_wp2_with fail
  go_loopw [1, 5] (fun t i wr => ∃ j : Nat, ∃ k' : Int, j ≤ n ∧ i = .int .i64 j ∧ t = .int .i64 k' ∧ k ≤ k' ∧ k' ≤ k + j * 1048576 ∧ Touch lo hi w wr ∧ Hid (Keep w wr)) (fun _ i _ => n - (intOf i).toNat)
  case atStart => exact ⟨0, k, by omega, rfl, rfl, by omega, by simp, Touch.refl _ _ _, Keep.refl _⟩
  case round =>
    obtain ⟨j, k', hj, rfl, rfl, hk1, hk2, ht, hq⟩ := hrel
    by_cases hlt : j < n
    · rcases H.out.keep hq.out with h | ⟨g, cs, t, rfl, hg3, hg4⟩
      · omega
      obtain ⟨A', n', c', hx, hn', hi'⟩ := hg4 j hlt
      have hc : wr.cell? ⟨g, j, none⟩ = some (.slice A' n' c') := by rw [cell_of_row wr g j cs t _ hg3]; exact hx
      have HI' := Lib.hid hi'
      have hsz := ht.1.size
      clear hg3 hg4 hx hi'
      go_wp2_with fail
      refine (markIntT _ _ _ lo hi k' _ HI'.out (by omega) hn' (by omega) (by omega)).mono ?_
      rintro e w1 ⟨k1, rfl, p1, p2, ht1, hq1⟩
      have hT := Lib.hid (ht.trans ht1)
      have hK := Lib.hid (hq.out.trans hq1)
      clear hq1 hc
      go_wp2_with fail
      go_roundw
      case rel => exact ⟨j + 1, k1, by omega, by go_num, rfl, by omega, by omega, hT.out, hK⟩
      case measure => simp [intOf]; omega
    · obtain rfl : j = n := by omega
      go_wp2_with fail
      go_ret
      exact ⟨k', rfl, by omega, by omega, ht, hq.out⟩
/-- A model whose blocks lie from lo to below hi. -/
def HMod (w : World) (lo hi : Nat) (us : List Value) : Prop := ∃ da nd cd ca nc cc, us = [.slice da nd cd, .slice ca nc cc] ∧ nd ≤ 1048576 ∧ nc ≤ 1048576 ∧ HI w lo hi da nd ∧ HCons w lo hi ca nc
theorem HMod.keep {w w' : World} {lo hi : Nat} {us : List Value} (h : HMod w lo hi us) (k : Keep w w') : HMod w' lo hi us := by
  obtain ⟨da, nd, cd, ca, nc, cc, e, h1, h2, h3, h4⟩ := h
  exact ⟨da, nd, cd, ca, nc, cc, e, h1, h2, h3.keep k, h4.keep k⟩
theorem take_at {cur : Array Value} {m j : Nat} {L : List Value} (h : cur.toList.take m = L) (hj : j < m) : cur[j]? = L[j]? := by
  rw [← h, List.getElem?_take, if_pos hj]; simp
theorem own_heap {w : World} {base n m size c : Nat} {e : TypeId} {A : Option Addr} {xs : List Value} (h : w.ownsRow base e size (.slice A n c) m xs) : (n = 0 ∧ m = 0) ∨ ∃ (g : Nat) (cur : Array Value), A = some ⟨g, 0, none⟩ ∧ n = m ∧ base ≤ g ∧ g < w.heap.size ∧ w.heap[g]? = some (.cells cur e (0, 0)) ∧ ∀ j, j < m * size → cur[j]? = xs[j]? := by
  rcases h.2 with ⟨h1, h2⟩ | ⟨g, cap, cur, hv, hg, hh, hcap, hmax, hsz, ht⟩
  · injection h1 with _ e1 _
    exact .inl ⟨e1, h2⟩
  · injection hv with e1 e2 e3
    exact .inr ⟨g, cur, e1, e2, hg, lt_heap hh, hh, fun j hj => take_at ht hj⟩
theorem HI.of_own {w : World} {base n c : Nat} {A : Option Addr} {xs : List Int} {e : TypeId} (h : OwnI e w base (.slice A n c) xs) : HI w base w.heap.size A n := by
  rcases own_heap h.1 with ⟨h1, -⟩ | ⟨g, cur, e1, e2, hg, hgw, hh, hc⟩
  · exact .inl h1
  · refine .inr ⟨g, cur, e, e1, hg, hgw, hh, fun j hj => ?_⟩
    have hj' : j < xs.length := by omega
    refine ⟨xs[j], ?_⟩
    rw [hc j (by omega), List.getElem?_map, List.getElem?_eq_getElem hj']; rfl
theorem HRows.of_own {w : World} {base n c : Nat} {A : Option Addr} {xs : List (List Int)} {e e0 : TypeId} (h : OwnOf e (OwnI e0) w base (.slice A n c) xs) (hs : ∀ x ∈ xs, x.length ≤ 1048576) : HRows w base w.heap.size A n := by
  obtain ⟨us, h1, h2, -, h4⟩ := h
  rcases own_heap h2 with ⟨h5, -⟩ | ⟨g, cur, e1, e2, hg, hgw, hh, hc⟩
  · exact .inl h5
  · refine .inr ⟨g, cur, e, e1, hh, fun j hj => ?_⟩
    have hj' : j < xs.length := by omega
    have hju : j < us.length := by omega
    have ho := h4 j us[j] xs[j] (List.getElem?_eq_getElem hju) (List.getElem?_eq_getElem hj')
    obtain ⟨A', c', hv, -⟩ := ho.read
    rw [hv] at ho
    refine ⟨A', xs[j].length, c', ?_, hs _ (List.getElem_mem hj'), HI.of_own ho⟩
    rw [hc j (by omega), List.getElem?_eq_getElem hju, hv]
theorem HCons.of_own {w : World} {base n c : Nat} {A : Option Addr} {xs : List Con} (h : OwnCons w base (.slice A n c) xs) (hs : SmS SmCon xs) : HCons w base w.heap.size A n := by
  obtain ⟨uss, h1, h0, h2, -, h4⟩ := h
  rcases own_heap h2 with ⟨h5, -⟩ | ⟨g, cur, e1, e2, hg, hgw, hh, hc⟩
  · exact .inl h5
  · refine .inr ⟨g, cur, _, e1, hg, hgw, hh, fun j hj => ?_⟩
    have hj' : j < xs.length := by omega
    have hju : j < uss.length := by omega
    have hu : uss[j]? = some uss[j] := List.getElem?_eq_getElem hju
    obtain ⟨vv, av, rv, he, o1, o2, o3⟩ := h4 j uss[j] xs[j] hu (List.getElem?_eq_getElem hj')
    injection he with he
    have he2 : uss[j] = [.int .i64 xs[j].kind, vv, av, .int .i64 xs[j].bound, rv] := by simpa using congrArg Array.toList he
    have hsm := hs.2 xs[j] (List.getElem_mem hj')
    obtain ⟨A1, c1, hv1, -⟩ := o1.read
    obtain ⟨A2, c2, hv2, -⟩ := o2.read
    obtain ⟨A3, c3, hv3, -⟩ := read2 o3
    rw [hv1] at o1 he2
    rw [hv2] at o2 he2
    rw [hv3] at o3 he2
    have hcell : ∀ i u, [Value.int .i64 xs[j].kind, .slice A1 xs[j].vars.length c1, .slice A2 xs[j].args.length c2, .int .i64 xs[j].bound, .slice A3 xs[j].rows.length c3][i]? = some u → cur[j * 5 + i]? = some u := fun i u hi => by
      have hi5 : i < 5 := (List.getElem?_eq_some_iff.1 hi).1
      rw [hc (j * 5 + i) (by omega)]
      exact flat_at h0 hu (by rw [he2]; exact hi)
    exact ⟨_, _, _, _, _, _, _, _, _, _, _, hcell 0 _ rfl, hcell 1 _ rfl, hcell 2 _ rfl, hcell 3 _ rfl, hcell 4 _ rfl, hsm.1, hsm.2.1, hsm.2.2.1, HI.of_own o1, HI.of_own o2, HRows.of_own o3 hsm.2.2.2⟩
theorem HMod.of_own {w : World} {base : Nat} {us : List Value} {m : Mod} (h : OwnMod w base (.agg us.toArray) m) (hs : SmMod m) : HMod w base w.heap.size us := by
  obtain ⟨dv, cv, he, o1, o2⟩ := h
  injection he with he
  have he2 : us = [dv, cv] := by simpa using congrArg Array.toList he
  obtain ⟨A1, c1, rfl, -⟩ := o1.read
  obtain ⟨A2, c2, rfl, -⟩ := OwnCons.read o2
  exact ⟨A1, _, c1, A2, _, c2, he2, hs.1, hs.2.1, HI.of_own o1, HCons.of_own o2 hs.2⟩
theorem HoldR.touch {w w' : World} {base n size lo hi : Nat} {e : TypeId} {v : Value} {xs : List Value} (h : HoldR w base e size v n xs) (ht : Touch lo hi w w') (hb : hi ≤ base) : HoldR w' base e size v n xs :=
  ⟨h.1, h.2.imp id fun ⟨g, cap, cur, h1, h2, h3, r⟩ => ⟨g, cap, cur, h1, h2, (ht.2 g (by omega) (lt_heap h3)).trans h3, r⟩⟩
theorem TBlk.touch {w w' : World} {lo hi b : Nat} {t : TypeId} {cs : Array Value} (h : TBlk t w b cs) (ht : Touch lo hi w w') (hb : hi ≤ b) : TBlk t w' b cs := (ht.2 b hb h.lt).trans h
theorem Touch.below {w0 w w' : World} {lo hi B : Nat} (ht : Touch lo hi w w') (h : Below B w0 w) (hB : B ≤ lo) : Below B w0 w' := h.trans (ht.1.mono hB)
end Go.Proofs.Ytfmdgdamelkelaa
/- The marks of a constraint that came in; cuts of a walk behind a region. -/
namespace Go.Proofs.Ytfmdgdamelkelaa
open Go.ChangeShapes Go.WideShapes Go.ChangeAt Go.RowKit
open Go.Shelf
set_option linter.unusedVariables false
set_option maxRecDepth 100000
/-- A constraint whose blocks lie from lo to below hi. -/
def HConV (w : World) (lo hi : Nat) (us : List Value) : Prop := ∃ kk va nv cv aa na ca b ra nr cr, us = [.int .i64 kk, .slice va nv cv, .slice aa na ca, .int .i64 b, .slice ra nr cr] ∧ HCon w lo hi va aa ra nv na nr
theorem HConV.keep {w w' : World} {lo hi : Nat} {us : List Value} (h : HConV w lo hi us) (k : Keep w w') : HConV w' lo hi us := by
  obtain ⟨kk, va, nv, cv, aa, na, ca, b, ra, nr, cr, e, h1⟩ := h
  exact ⟨kk, va, nv, cv, aa, na, ca, b, ra, nr, cr, e, h1.keep k⟩
theorem HConV.of_own {w : World} {base : Nat} {us : List Value} {c : Con} (h : OwnCon w base (.agg us.toArray) c) (hs : SmCon c) : HConV w base w.heap.size us := by
  obtain ⟨vv, av, rv, he, o1, o2, o3⟩ := h
  injection he with he
  have he2 : us = [.int .i64 c.kind, vv, av, .int .i64 c.bound, rv] := by simpa using congrArg Array.toList he
  obtain ⟨A1, c1, hv1, -⟩ := o1.read
  obtain ⟨A2, c2, hv2, -⟩ := o2.read
  obtain ⟨A3, c3, hv3, -⟩ := read2 o3
  rw [hv1] at o1 he2
  rw [hv2] at o2 he2
  rw [hv3] at o3 he2
  exact ⟨_, _, _, _, _, _, _, _, _, _, _, he2, hs.1, hs.2.1, hs.2.2.1, HI.of_own o1, HI.of_own o2, HRows.of_own o3 hs.2.2.2⟩
set_option maxHeartbeats 4000000 in
theorem markConT (us : List Value) (lo hi : Nat) (k : Int) (w : World) (h : HConV w lo hi us) (hlo : lo ≤ w.heap.size) (h0 : 0 ≤ k) (h1 : k ≤ 4611684918000000000) :
    Calls Try.prog 17 #[.agg us.toArray, .int .i64 k] w fun e w' => ∃ k' : Int, e = .returned (.int .i64 k') ∧ k ≤ k' ∧ k' ≤ k + 1099513724928 ∧ Touch lo hi w w' ∧ Keep w w' := by
  obtain ⟨kk, va, nv, cv, aa, na, ca, b, ra, nr, cr, rfl, s1, s2, s3, g1, g2, g3⟩ := h
  obtain ⟨wa, hwa⟩ : ∃ wa, wa = w.alloc (.cells #[.int .i64 kk, .slice va nv cv, .slice aa na ca, .int .i64 b, .slice ra nr cr] 29) := ⟨_, rfl⟩
  have hb0 : Below w.heap.size w wa := by rw [hwa]; exact b_alloc _ _
  have hsz : wa.heap.size = w.heap.size + 1 := by rw [hwa, size_alloc_]
  have ha : TBlk 29 wa w.heap.size #[.int .i64 kk, .slice va nv cv, .slice aa na ca, .int .i64 b, .slice ra nr cr] := by rw [hwa]; exact TBlk.new _ _ _
  have HA := Lib.hid ha
  have TA := Lib.hid (Touch.of_below (lo := lo) (hi := hi) hb0 hlo)
  have KA := Lib.hid (Keep.of_below hb0)
  have G1 := Lib.hid (g1.keep KA.out)
  have G2 := Lib.hid (g2.keep KA.out)
  have G3 := Lib.hid (g3.keep KA.out)
  have a1 : wa.cell? ⟨w.heap.size, 1, none⟩ = some (.slice va nv cv) := ha.at_ 1 rfl
  clear g1 g2 g3 ha hb0
  go_enter Try.func17, Try.ntmps17
  go_wp2_with fail
  rw [← hwa]
  clear hwa
  refine (markIntT va nv cv lo hi k wa G1.out (by omega) s1 h0 (by omega)).mono ?_
  rintro e w1 ⟨k1, rfl, p1, p2, ht1, hq1⟩
  obtain ⟨cs1, b1, b2, -⟩ := hq1 _ _ _ HA.out
  have a2 : w1.cell? ⟨w.heap.size, 2, none⟩ = some (.slice aa na ca) := by rw [cell_of_row w1 _ _ cs1 _ _ b1]; exact b2 2 _ _ _ rfl
  have z1 := ht1.1.size
  have S4 := Lib.hid (b2 4 _ _ _ rfl)
  have B1 := Lib.hid b1
  have TB := Lib.hid (TA.out.trans ht1)
  have KB := Lib.hid (KA.out.trans hq1)
  have G5 := Lib.hid (G2.out.keep hq1)
  have G6 := Lib.hid (G3.out.keep hq1)
  clear ht1 hq1 b1 b2 a1
  go_wp2_with fail
  refine (markIntT aa na ca lo hi k1 w1 G5.out (by omega) s2 (by omega) (by omega)).mono ?_
  rintro e w2 ⟨k2, rfl, p3, p4, ht2, hq2⟩
  obtain ⟨cs2, b3, b4, -⟩ := hq2 _ _ _ B1.out
  have a4 : w2.cell? ⟨w.heap.size, 4, none⟩ = some (.slice ra nr cr) := by rw [cell_of_row w2 _ _ cs2 _ _ b3]; exact b4 4 _ _ _ S4.out
  have z2 := ht2.1.size
  have TC := Lib.hid (TB.out.trans ht2)
  have KC := Lib.hid (KB.out.trans hq2)
  have G7 := Lib.hid (G6.out.keep hq2)
  clear ht2 hq2 b3 b4 a2
  go_wp2_with fail
  refine (markIntSST ra nr cr lo hi k2 w2 G7.out (by omega) s3 (by omega) (by omega)).mono ?_
  rintro e w3 ⟨k3, rfl, p5, p6, ht3, hq3⟩
  have TD := Lib.hid (TC.out.trans ht3)
  have KD := Lib.hid (KC.out.trans hq3)
  clear ht3 hq3
  go_wp2_with fail
  go_ret
  exact ⟨k3, rfl, by omega, by omega, TD.out, KD.out⟩
end Go.Proofs.Ytfmdgdamelkelaa
/- (printed by gmarkd.py) Which number cells a value holds, in the order in which they are marked; what marking leaves. No program in sight. -/
namespace Go.Proofs.Ytfmdgdamelkelaa
open Go.ChangeShapes Go.WideShapes Go.ChangeAt Go.RowKit
open Go.Shelf
set_option linter.unusedVariables false
set_option maxRecDepth 100000
attribute [local go_sem] Oper.semAt_some

/-- the cells of S hold k, k + 1, ..; every other cell is as it was. -/
structure Wr (lo : Nat) (w w' : World) (S : List (Nat × Nat)) (k : Int) : Prop where
  below : Below lo w w'
  keep : Keep w w'
  old : ∀ (b j : Nat), b < w.heap.size → (b, j) ∉ S → w'.cell? ⟨b, j, none⟩ = w.cell? ⟨b, j, none⟩
  set : S.Nodup → ∀ (i : Nat) s, S[i]? = some s → w'.cell? ⟨s.1, s.2, none⟩ = some (.int .i64 (k + i))
  lt : ∀ s ∈ S, s.1 < w'.heap.size
/-- the cells of S hold k, k + 1, .. -/
def Holds (w : World) (S : List (Nat × Nat)) (k : Int) : Prop := ∀ (i : Nat) s, S[i]? = some s → w.cell? ⟨s.1, s.2, none⟩ = some (.int .i64 (k + i))
section
variable {lo : Nat} {w w1 w2 w' : World} {S T : List (Nat × Nat)} {k : Int}
theorem Wr.refl (lo : Nat) (w : World) (k : Int) : Wr lo w w [] k := ⟨Below.refl _ _, Keep.refl _, fun _ _ _ _ => rfl, fun _ i s h => by simp at h, fun s h => by simp at h⟩
theorem Wr.of_below (hb : Below w.heap.size w w') (hl : lo ≤ w.heap.size) : Wr lo w w' [] k := ⟨hb.mono hl, Keep.of_below hb, fun b j hs _ => hb.cell (p := ⟨b, j, none⟩) hs, fun _ i s h => by simp at h, fun s h => by simp at h⟩
theorem Wr.trans {k2 : Int} (h : Wr lo w w1 S k) (g : Wr lo w1 w2 T k2) (hk : k2 = k + S.length) : Wr lo w w2 (S ++ T) k := by
  subst hk
  have hS := h.lt
  refine ⟨h.below.trans g.below, h.keep.trans g.keep, fun b j hb hn => ?_, fun hnd i s hi => ?_, fun s hs => (List.mem_append.1 hs).elim (fun h1 => Nat.lt_of_lt_of_le (h.lt s h1) g.below.size) (g.lt s)⟩
  · rw [List.mem_append, not_or] at hn
    exact (g.old b j (Nat.lt_of_lt_of_le hb h.below.size) hn.2).trans (h.old b j hb hn.1)
  · obtain ⟨n1, n2, n3⟩ := List.nodup_append.1 hnd
    rcases Nat.lt_or_ge i S.length with hl | hl
    · rw [List.getElem?_append_left hl] at hi
      have hm := List.mem_of_getElem? hi
      have := g.old s.1 s.2 (hS s hm) (fun hc => n3 s hm _ hc rfl)
      exact this.trans (h.set n1 i s hi)
    · rw [List.getElem?_append_right hl] at hi
      have := g.set n2 _ s hi
      rw [this]
      congr 2
      omega
theorem Wr.store {g j : Nat} {cs : Array Value} {t : TypeId} {x : Int} (hl : lo ≤ g) (hg : w.heap[g]? = some (.cells cs t (0, 0))) (hj : cs[j]? = some (.int .i64 x)) : Wr lo w (w.setCell ⟨g, j, none⟩ (.int .i64 k)) [(g, j)] k := by
  have hc : w.cell? ⟨g, j, none⟩ = some (.int .i64 x) := by rw [cell_of_row w g j cs t _ hg]; exact hj
  refine ⟨(Below.refl _ _).setCell (by simpa using hl) _, Keep.store hg hj, fun b j' hb hn => ?_, fun _ i s hi => ?_, fun s hs => by simp at hs; subst hs; simpa using lt_heap hg⟩
  · refine World.cell?_setCell_other _ _ _ _ (fun e => hn ?_)
    injection e with e1 e2
    rw [← e1, ← e2]; simp
  · match i, hi with
    | 0, hi =>
      simp at hi
      subst hi
      rw [World.cell?_setCell_same _ _ _ hc]
      simp
    | i + 1, hi => simp at hi
theorem Wr.nil_left (h : Wr lo w w1 [] k) (g : Wr lo w1 w2 T k) : Wr lo w w2 T k := by
  have := h.trans g (by simp)
  simpa using this
theorem Wr.nil_right {k2 : Int} (h : Wr lo w w1 S k) (g : Wr lo w1 w2 [] k2) : Wr lo w w2 S k :=
  ⟨h.below.trans g.below, h.keep.trans g.keep, fun b j hb hn => (g.old b j (Nat.lt_of_lt_of_le hb h.below.size) (by simp)).trans (h.old b j hb hn), fun hnd i s hi => (g.old s.1 s.2 (h.lt s (List.mem_of_getElem? hi)) (by simp)).trans (h.set hnd i s hi), fun s hs => Nat.lt_of_lt_of_le (h.lt s hs) g.below.size⟩
theorem Holds.of_wr (h : Wr lo w w' S k) (hn : S.Nodup) : Holds w' S k := h.set hn
theorem Holds.append (h : Holds w (S ++ T) k) : Holds w S k ∧ Holds w T (k + S.length) := by
  refine ⟨fun i s hi => h i s ?_, fun i s hi => ?_⟩
  · rw [List.getElem?_append_left (by
      rcases Nat.lt_or_ge i S.length with hl | hl
      · exact hl
      · rw [List.getElem?_eq_none hl] at hi; cases hi)]; exact hi
  · have := h (S.length + i) s (by rw [List.getElem?_append_right (by omega)]; rw [show S.length + i - S.length = i by omega]; exact hi)
    rw [this]
    congr 2
    omega
theorem Holds.below (h : Holds w S k) (hb : Below w.heap.size w w') (hS : ∀ s ∈ S, s.1 < w.heap.size) : Holds w' S k := fun i s hi => (hb.cell (p := ⟨s.1, s.2, none⟩) (hS s (List.mem_of_getElem? hi))).trans (h i s hi)
end
section
variable {lo n : Nat} {w w' : World} {A : Option Addr}
/-- the first n cells of block g. -/
def seg (g n : Nat) : List (Nat × Nat) := (List.range n).map fun j => (g, j)
theorem seg_len (g n : Nat) : (seg g n).length = n := by simp [seg]
theorem seg_at {g n j : Nat} (h : j < n) : (seg g n)[j]? = some (g, j) := by simp [seg, h]
theorem seg_take {g n j : Nat} (h : j ≤ n) : (seg g n).take j = seg g j := by
  unfold seg
  rw [← List.map_take, List.take_range, Nat.min_eq_left h]
theorem seg_succ (g j : Nat) : seg g (j + 1) = seg g j ++ [(g, j)] := by simp [seg, List.range_succ]
theorem take_snoc {α : Type} {S : List α} {j : Nat} {s : α} (h : S[j]? = some s) : S.take (j + 1) = S.take j ++ [s] := by rw [List.take_add_one, h]; rfl
theorem flat_snoc {α : Type} {Ss : List (List α)} {j : Nat} {S : List α} (h : Ss[j]? = some S) : (Ss.take (j + 1)).flatten = (Ss.take j).flatten ++ S := by rw [take_snoc h]; simp
theorem flat_le {α : Type} (Ss : List (List α)) (j : Nat) : (Ss.take j).flatten.length ≤ Ss.flatten.length := by
  have := congrArg (fun l => l.flatten.length) (List.take_append_drop j Ss)
  simp only [List.flatten_append, List.length_append] at this
  omega
/-- numbers, at S. -/
def SI (lo : Nat) (w : World) (A : Option Addr) (n : Nat) (S : List (Nat × Nat)) : Prop := (n = 0 ∧ S = []) ∨ ∃ (g : Nat) (cs : Array Value) (t : TypeId), A = some ⟨g, 0, none⟩ ∧ lo ≤ g ∧ w.heap[g]? = some (.cells cs t (0, 0)) ∧ (∀ j, j < n → ∃ x, cs[j]? = some (.int .i64 x)) ∧ S = seg g n
theorem SI.keep {S : List (Nat × Nat)} (h : SI lo w A n S) (k : Keep w w') : SI lo w' A n S := by
  rcases h with h | ⟨g, cs, t, e, h1, h3, h4, h5⟩
  · exact .inl h
  · obtain ⟨c1, k1, k2, k3⟩ := k g cs t h3
    refine .inr ⟨g, c1, t, e, h1, k1, fun j hj => ?_, h5⟩
    obtain ⟨x, hx⟩ := h4 j hj
    exact k3 j x hx
theorem SI.len {S : List (Nat × Nat)} (h : SI lo w A n S) : S.length = n := by
  rcases h with ⟨h1, h2⟩ | ⟨g, cs, t, e, h1, h3, h4, h5⟩
  · rw [h1, h2]; rfl
  · rw [h5, seg_len]
theorem SI.lt {S : List (Nat × Nat)} (h : SI lo w A n S) : ∀ s ∈ S, s.1 < w.heap.size := by
  rcases h with ⟨h1, h2⟩ | ⟨g, cs, t, e, h1, h3, h4, h5⟩
  · rw [h2]; simp
  · intro s hs
    rw [h5] at hs
    unfold seg at hs
    obtain ⟨j, -, rfl⟩ := List.mem_map.1 hs
    exact lt_heap h3
/-- rows of numbers, at Ss. -/
def SRows (lo : Nat) (w : World) (A : Option Addr) (n : Nat) (Ss : List (List (Nat × Nat))) : Prop := Ss.length = n ∧ (n = 0 ∨ ∃ (g : Nat) (cs : Array Value) (t : TypeId), A = some ⟨g, 0, none⟩ ∧ w.heap[g]? = some (.cells cs t (0, 0)) ∧ ∀ (j : Nat) S, Ss[j]? = some S → ∃ A' n' c', cs[j]? = some (.slice A' n' c') ∧ SI lo w A' n' S)
theorem SRows.keep {Ss : List (List (Nat × Nat))} (h : SRows lo w A n Ss) (k : Keep w w') : SRows lo w' A n Ss := by
  obtain ⟨hl, h⟩ := h
  refine ⟨hl, h.imp id ?_⟩
  rintro ⟨g, cs, t, e, h3, h4⟩
  obtain ⟨c1, k1, k2, k3⟩ := k g cs t h3
  refine ⟨g, c1, t, e, k1, fun j S hj => ?_⟩
  obtain ⟨A', n', c', a1, a3⟩ := h4 j S hj
  exact ⟨A', n', c', k2 j _ _ _ a1, a3.keep k⟩
theorem SRows.lt {Ss : List (List (Nat × Nat))} (h : SRows lo w A n Ss) : ∀ s ∈ Ss.flatten, s.1 < w.heap.size := by
  obtain ⟨hl, h⟩ := h
  intro s hs
  obtain ⟨S, hS, hs⟩ := List.mem_flatten.1 hs
  obtain ⟨j, hj⟩ := List.mem_iff_getElem?.1 hS
  rcases h with h | ⟨g, cs, t, e, h3, h4⟩
  · rw [List.length_eq_zero_iff.1 (hl.trans h)] at hS; simp at hS
  · obtain ⟨A', n', c', a1, a3⟩ := h4 j S hj
    exact a3.lt s hs
/-- layers of rows of numbers, at Sss. -/
def SLays (lo : Nat) (w : World) (A : Option Addr) (n : Nat) (Sss : List (List (List (Nat × Nat)))) : Prop := Sss.length = n ∧ (n = 0 ∨ ∃ (g : Nat) (cs : Array Value) (t : TypeId), A = some ⟨g, 0, none⟩ ∧ w.heap[g]? = some (.cells cs t (0, 0)) ∧ ∀ (j : Nat) Ss, Sss[j]? = some Ss → ∃ A' n' c', cs[j]? = some (.slice A' n' c') ∧ n' ≤ 1048576 ∧ SRows lo w A' n' Ss)
theorem SLays.keep {Sss : List (List (List (Nat × Nat)))} (h : SLays lo w A n Sss) (k : Keep w w') : SLays lo w' A n Sss := by
  obtain ⟨hl, h⟩ := h
  refine ⟨hl, h.imp id ?_⟩
  rintro ⟨g, cs, t, e, h3, h4⟩
  obtain ⟨c1, k1, k2, k3⟩ := k g cs t h3
  refine ⟨g, c1, t, e, k1, fun j S hj => ?_⟩
  obtain ⟨A', n', c', a1, a2, a3⟩ := h4 j S hj
  exact ⟨A', n', c', k2 j _ _ _ a1, a2, a3.keep k⟩
theorem SLays.lt {Sss : List (List (List (Nat × Nat)))} (h : SLays lo w A n Sss) : ∀ s ∈ (Sss.map List.flatten).flatten, s.1 < w.heap.size := by
  obtain ⟨hl, h⟩ := h
  intro s hs
  obtain ⟨S, hS, hs⟩ := List.mem_flatten.1 hs
  obtain ⟨T, hT, rfl⟩ := List.mem_map.1 hS
  obtain ⟨j, hj⟩ := List.mem_iff_getElem?.1 hT
  rcases h with h | ⟨g, cs, t, e, h3, h4⟩
  · rw [List.length_eq_zero_iff.1 (hl.trans h)] at hT; simp at hT
  · obtain ⟨A', n', c', a1, a2, a3⟩ := h4 j T hj
    exact a3.lt s hs
end
set_option maxHeartbeats 4000000 in
theorem markIntW (A : Option Addr) (n c lo : Nat) (k : Int) (S : List (Nat × Nat)) (w : World) (h : SI lo w A n S) (h0 : 0 ≤ k) (h1 : k + S.length ≤ 4611686018427387904) :
    Calls Try.prog 18 #[.slice A n c, .int .i64 k] w fun e w' => e = .returned (.int .i64 (k + S.length)) ∧ Wr lo w w' S k := by
  have hl := h.len
  rw [hl] at h1 ⊢
  have H := Lib.hid h
  have HL := Lib.hid hl
  clear h hl
  go_enter Try.func18, Try.ntmps18
  go_wp2_with fail
  go_loopw [1, 5] (fun t i wr => ∃ j : Nat, j ≤ n ∧ i = .int .i64 j ∧ t = .int .i64 (k + j) ∧ Hid (Wr lo w wr (S.take j) k)) (fun _ i _ => n - (intOf i).toNat)
  case atStart => exact ⟨0, by omega, rfl, by simp, Wr.refl _ _ _⟩
  case round =>
    obtain ⟨j, hj, rfl, rfl, hq⟩ := hrel
    by_cases hlt : j < n
    · rcases H.out.keep hq.out.keep with h | ⟨g, cs, t, rfl, hg1, hg3, hg4, hS⟩
      · omega
      obtain ⟨x, hx⟩ := hg4 j hlt
      have hc : wr.cell? ⟨g, j, none⟩ = some (.int .i64 x) := by rw [cell_of_row wr g j cs t _ hg3]; exact hx
      have hf := frozen_of_row wr g j cs t hg3
      have hs1 : S[j]? = some (g, j) := by rw [hS]; exact seg_at hlt
      have hK := Lib.hid (show Wr lo w (wr.setCell ⟨g, j, none⟩ (.int .i64 (k + j))) (S.take (j + 1)) k by
        rw [take_snoc hs1]
        exact hq.out.trans (Wr.store hg1 hg3 hx) (by rw [List.length_take, HL.out, Nat.min_eq_left (by omega)]))
      clear hg3 hg4 hx hS hs1
      have hadd : wrap64 (k + j + 1) = k + (j + 1 : Nat) := by rw [IntWalk.wrap64_in _ ⟨by omega, by omega⟩]; omega
      go_wp2_with fail
      go_roundw
      case rel => exact ⟨j + 1, by omega, by go_num, by simp; omega, hK⟩
      case measure => simp [intOf]; omega
    · obtain rfl : n = j := by omega
      have ht : S.take n = S := List.take_of_length_le (by rw [HL.out]; omega)
      rw [ht] at hq
      go_wp2_with fail
      go_ret
      exact ⟨rfl, hq.out⟩
set_option maxHeartbeats 4000000 in
theorem markIntSSW (A : Option Addr) (n c lo : Nat) (k : Int) (Ss : List (List (Nat × Nat))) (w : World) (h : SRows lo w A n Ss) (hn : n ≤ 1048576) (h0 : 0 ≤ k) (h1 : k + Ss.flatten.length ≤ 4611686018427387904) :
    Calls Try.prog 56 #[.slice A n c, .int .i64 k] w fun e w' => e = .returned (.int .i64 (k + Ss.flatten.length)) ∧ Wr lo w w' Ss.flatten k := by
  have H := Lib.hid h
  have HL := Lib.hid h.1
  have HB := Lib.hid (fun j => flat_le Ss j)
  clear h
  go_enter Try.func56, Try.ntmps56
  go_wp2_with fail
  go_loopw [1, 5] (fun t i wr => ∃ j : Nat, j ≤ n ∧ i = .int .i64 j ∧ t = .int .i64 (k + (Ss.take j).flatten.length) ∧ Hid (Wr lo w wr (Ss.take j).flatten k)) (fun _ i _ => n - (intOf i).toNat)
  case atStart => exact ⟨0, by omega, rfl, by simp, Wr.refl _ _ _⟩
  case round =>
    obtain ⟨j, hj, rfl, rfl, hq⟩ := hrel
    by_cases hlt : j < n
    · obtain ⟨-, h⟩ := H.out.keep hq.out.keep
      rcases h with h | ⟨g, cs, t, rfl, hg3, hg4⟩
      · omega
      obtain ⟨S, hS⟩ : ∃ S, Ss[j]? = some S := ⟨_, List.getElem?_eq_getElem (by rw [HL.out]; exact hlt)⟩
      obtain ⟨A', n', c', hx, hi'⟩ := hg4 j S hS
      have hc : wr.cell? ⟨g, j, none⟩ = some (.slice A' n' c') := by rw [cell_of_row wr g j cs t _ hg3]; exact hx
      have HI' := Lib.hid hi'
      have hfs := flat_snoc hS
      have hb1 := HB.out (j + 1)
      rw [hfs, List.length_append] at hb1
      have HFS := Lib.hid hfs
      obtain ⟨m, hm⟩ : ∃ m, (Ss.take j).flatten.length = m := ⟨_, rfl⟩
      rw [hm] at hb1 ⊢
      have HM := Lib.hid hm
      clear hg3 hg4 hx hi' hfs hm hS
      go_wp2_with fail
      refine (markIntW _ _ _ lo (k + m) S _ HI'.out (by omega) (by omega)).mono ?_
      rintro e w1 ⟨rfl, ht1⟩
      have hK := Lib.hid (show Wr lo w w1 (Ss.take (j + 1)).flatten k by rw [HFS.out]; exact hq.out.trans ht1 (by rw [HM.out]))
      have hmm : (Ss.take (j + 1)).flatten.length = m + S.length := by rw [HFS.out, List.length_append, HM.out]
      clear ht1 hc
      go_wp2_with fail
      go_roundw
      case rel => exact ⟨j + 1, by omega, by go_num, by rw [hmm]; simp; omega, hK⟩
      case measure => simp [intOf]; omega
    · obtain rfl : n = j := by omega
      have ht : Ss.take n = Ss := List.take_of_length_le (by rw [HL.out]; omega)
      rw [ht] at hq ⊢
      go_wp2_with fail
      go_ret
      exact ⟨rfl, hq.out⟩
set_option maxHeartbeats 4000000 in
theorem heldIntW (A : Option Addr) (n c lo : Nat) (k : Int) (S : List (Nat × Nat)) (w : World) (h : SI lo w A n S) (hh : Holds w S k) (h0 : 0 ≤ k) (h1 : k + S.length ≤ 4611686018427387904) :
    Calls Try.prog 42 #[.slice A n c, .int .i64 k] w fun e w' => e = .returned (.int .i64 (k + S.length)) ∧ Below w.heap.size w w' := by
  have hl := h.len
  rw [hl] at h1 ⊢
  have H := Lib.hid h
  have HH := Lib.hid hh
  clear h hl hh
  go_enter Try.func42, Try.ntmps42
  go_wp2_with fail
  go_loop [1, 5] (fun t i => ∃ j : Nat, j ≤ n ∧ i = .int .i64 j ∧ t = .int .i64 (k + j)) (fun _ i => n - (intOf i).toNat)
  case atStart => exact ⟨0, by omega, rfl, by simp⟩
  case round =>
    obtain ⟨j, hj, rfl, rfl⟩ := hrel
    by_cases hlt : j < n
    · rcases H.out with h | ⟨g, cs, t, rfl, hg1, hg3, hg4, hS⟩
      · omega
      have hc := HH.out j (g, j) (by rw [hS]; exact seg_at hlt)
      have hne : ((k + (j : Int)) != k + (j : Int)) = false := by simp
      have hadd : wrap64 (k + j + 1) = k + (j + 1 : Nat) := by rw [IntWalk.wrap64_in _ ⟨by omega, by omega⟩]; omega
      clear hg3 hg4 hS
      go_wp2_with fail
      go_round
      case rel => exact ⟨j + 1, by omega, by go_num, by simp; omega⟩
      case measure => simp [intOf]; omega
    · obtain rfl : n = j := by omega
      go_wp2_with fail
      go_ret
      exact ⟨rfl, Below.refl _ _⟩
set_option maxHeartbeats 4000000 in
theorem heldIntSSW (A : Option Addr) (n c lo : Nat) (k : Int) (Ss : List (List (Nat × Nat))) (w : World) (h : SRows lo w A n Ss) (hh : Holds w Ss.flatten k) (hn : n ≤ 1048576) (h0 : 0 ≤ k) (h1 : k + Ss.flatten.length ≤ 4611686018427387904) :
    Calls Try.prog 57 #[.slice A n c, .int .i64 k] w fun e w' => e = .returned (.int .i64 (k + Ss.flatten.length)) ∧ Below w.heap.size w w' := by
  have H := Lib.hid h
  have HL := Lib.hid h.1
  have HB := Lib.hid (fun j => flat_le Ss j)
  have HH := Lib.hid hh
  clear h hh
  go_enter Try.func57, Try.ntmps57
  go_wp2_with fail
  go_loopw [1, 5] (fun t i wr => ∃ j : Nat, j ≤ n ∧ i = .int .i64 j ∧ t = .int .i64 (k + (Ss.take j).flatten.length) ∧ Below w.heap.size w wr) (fun _ i _ => n - (intOf i).toNat)
  case atStart => exact ⟨0, by omega, rfl, by simp, Below.refl _ _⟩
  case round =>
    obtain ⟨j, hj, rfl, rfl, hq⟩ := hrel
    by_cases hlt : j < n
    · obtain ⟨-, h⟩ := H.out.keep (Keep.of_below hq)
      rcases h with h | ⟨g, cs, t, rfl, hg3, hg4⟩
      · omega
      obtain ⟨S, hS⟩ : ∃ S, Ss[j]? = some S := ⟨_, List.getElem?_eq_getElem (by rw [HL.out]; exact hlt)⟩
      obtain ⟨A', n', c', hx, hi'⟩ := hg4 j S hS
      have hc : wr.cell? ⟨g, j, none⟩ = some (.slice A' n' c') := by rw [cell_of_row wr g j cs t _ hg3]; exact hx
      have HI' := Lib.hid hi'
      have hfs := flat_snoc hS
      have hb1 := HB.out (j + 1)
      rw [hfs, List.length_append] at hb1
      have hhs : Holds wr S (k + (Ss.take j).flatten.length) := by
        have h2 := (HH.out.below hq H.out.lt)
        rw [← List.take_append_drop (j + 1) Ss, List.flatten_append, hfs, List.append_assoc] at h2
        exact h2.append.2.append.1
      have HHS := Lib.hid hhs
      have HFS := Lib.hid hfs
      obtain ⟨m, hm⟩ : ∃ m, (Ss.take j).flatten.length = m := ⟨_, rfl⟩
      rw [hm] at hb1 HHS ⊢
      have HM := Lib.hid hm
      clear hg3 hg4 hx hi' hfs hm hS hhs
      go_wp2_with fail
      refine (heldIntW _ _ _ lo (k + m) S _ HI'.out HHS.out (by omega) (by omega)).mono ?_
      rintro e w1 ⟨rfl, ht1⟩
      have hmm : (Ss.take (j + 1)).flatten.length = m + S.length := by rw [HFS.out, List.length_append, HM.out]
      have hb := hq.trans (ht1.mono hq.size)
      have hnn : decide (k + (m : Int) + (S.length : Int) < 0) = false := decide_eq_false (by omega)
      clear ht1 hc
      go_wp2_with fail
      go_roundw
      case rel => exact ⟨j + 1, by omega, by go_num, by rw [hmm]; simp; omega, hb⟩
      case measure => simp [intOf]; omega
    · obtain rfl : n = j := by omega
      have ht : Ss.take n = Ss := List.take_of_length_le (by rw [HL.out]; omega)
      rw [ht]
      go_wp2_with fail
      go_ret
      exact ⟨rfl, hq⟩
set_option maxHeartbeats 4000000 in
theorem markIntSSSW (A : Option Addr) (n c lo : Nat) (k : Int) (Sss : List (List (List (Nat × Nat)))) (Ss : List (List (Nat × Nat))) (hSe : Sss.map List.flatten = Ss) (w : World) (h : SLays lo w A n Sss) (hn : n ≤ 1048576) (h0 : 0 ≤ k) (h1 : k + Ss.flatten.length ≤ 4611686018427387904) :
    Calls Try.prog 19 #[.slice A n c, .int .i64 k] w fun e w' => e = .returned (.int .i64 (k + Ss.flatten.length)) ∧ Wr lo w w' Ss.flatten k := by
  have H := Lib.hid h
  have HSE := Lib.hid hSe
  have HL := Lib.hid h.1
  have HB := Lib.hid (fun j => flat_le Ss j)
  clear h hSe
  go_enter Try.func19, Try.ntmps19
  go_wp2_with fail
  go_loopw [1, 5] (fun t i wr => ∃ j : Nat, j ≤ n ∧ i = .int .i64 j ∧ t = .int .i64 (k + (Ss.take j).flatten.length) ∧ Hid (Wr lo w wr (Ss.take j).flatten k)) (fun _ i _ => n - (intOf i).toNat)
  case atStart => exact ⟨0, by omega, rfl, by simp, Wr.refl _ _ _⟩
  case round =>
    obtain ⟨j, hj, rfl, rfl, hq⟩ := hrel
    by_cases hlt : j < n
    · obtain ⟨-, h⟩ := H.out.keep hq.out.keep
      rcases h with h | ⟨g, cs, t, rfl, hg3, hg4⟩
      · omega
      obtain ⟨T, hT⟩ : ∃ T, Sss[j]? = some T := ⟨_, List.getElem?_eq_getElem (by rw [HL.out]; exact hlt)⟩
      obtain ⟨S, hS⟩ : ∃ S, Ss[j]? = some S := ⟨T.flatten, by rw [← HSE.out, List.getElem?_map, hT]; rfl⟩
      have hST : S = T.flatten := by rw [← HSE.out, List.getElem?_map, hT] at hS; simpa using hS.symm
      subst hST
      obtain ⟨A', n', c', hx, hn3, hi'⟩ := hg4 j T hT
      have hc : wr.cell? ⟨g, j, none⟩ = some (.slice A' n' c') := by rw [cell_of_row wr g j cs t _ hg3]; exact hx
      have HI' := Lib.hid hi'
      have hfs := flat_snoc hS
      have hb1 := HB.out (j + 1)
      rw [hfs, List.length_append] at hb1
      have HFS := Lib.hid hfs
      obtain ⟨m, hm⟩ : ∃ m, (Ss.take j).flatten.length = m := ⟨_, rfl⟩
      rw [hm] at hb1 ⊢
      have HM := Lib.hid hm
      clear hg3 hg4 hx hi' hfs hm hS
      go_wp2_with fail
      refine (markIntSSW _ _ _ lo (k + m) T _ HI'.out hn3 (by omega) (by omega)).mono ?_
      rintro e w1 ⟨rfl, ht1⟩
      have hK := Lib.hid (show Wr lo w w1 (Ss.take (j + 1)).flatten k by rw [HFS.out]; exact hq.out.trans ht1 (by rw [HM.out]))
      have hmm : (Ss.take (j + 1)).flatten.length = m + T.flatten.length := by rw [HFS.out, List.length_append, HM.out]
      clear ht1 hc
      go_wp2_with fail
      go_roundw
      case rel => exact ⟨j + 1, by omega, by go_num, by rw [hmm]; simp; omega, hK⟩
      case measure => simp [intOf]; omega
    · obtain rfl : n = j := by omega
      have ht : Ss.take n = Ss := List.take_of_length_le (by rw [← HSE.out, List.length_map, HL.out]; omega)
      rw [ht] at hq ⊢
      go_wp2_with fail
      go_ret
      exact ⟨rfl, hq.out⟩
set_option maxHeartbeats 4000000 in
theorem heldIntSSSW (A : Option Addr) (n c lo : Nat) (k : Int) (Sss : List (List (List (Nat × Nat)))) (Ss : List (List (Nat × Nat))) (hSe : Sss.map List.flatten = Ss) (w : World) (h : SLays lo w A n Sss) (hh : Holds w Ss.flatten k) (hn : n ≤ 1048576) (h0 : 0 ≤ k) (h1 : k + Ss.flatten.length ≤ 4611686018427387904) :
    Calls Try.prog 20 #[.slice A n c, .int .i64 k] w fun e w' => e = .returned (.int .i64 (k + Ss.flatten.length)) ∧ Below w.heap.size w w' := by
  have H := Lib.hid h
  have HSE := Lib.hid hSe
  have HL := Lib.hid h.1
  have HB := Lib.hid (fun j => flat_le Ss j)
  have HH := Lib.hid hh
  clear h hh hSe
  go_enter Try.func20, Try.ntmps20
  go_wp2_with fail
  go_loopw [1, 5] (fun t i wr => ∃ j : Nat, j ≤ n ∧ i = .int .i64 j ∧ t = .int .i64 (k + (Ss.take j).flatten.length) ∧ Below w.heap.size w wr) (fun _ i _ => n - (intOf i).toNat)
  case atStart => exact ⟨0, by omega, rfl, by simp, Below.refl _ _⟩
  case round =>
    obtain ⟨j, hj, rfl, rfl, hq⟩ := hrel
    by_cases hlt : j < n
    · obtain ⟨-, h⟩ := H.out.keep (Keep.of_below hq)
      rcases h with h | ⟨g, cs, t, rfl, hg3, hg4⟩
      · omega
      obtain ⟨T, hT⟩ : ∃ T, Sss[j]? = some T := ⟨_, List.getElem?_eq_getElem (by rw [HL.out]; exact hlt)⟩
      obtain ⟨S, hS⟩ : ∃ S, Ss[j]? = some S := ⟨T.flatten, by rw [← HSE.out, List.getElem?_map, hT]; rfl⟩
      have hST : S = T.flatten := by rw [← HSE.out, List.getElem?_map, hT] at hS; simpa using hS.symm
      subst hST
      obtain ⟨A', n', c', hx, hn3, hi'⟩ := hg4 j T hT
      have hc : wr.cell? ⟨g, j, none⟩ = some (.slice A' n' c') := by rw [cell_of_row wr g j cs t _ hg3]; exact hx
      have HI' := Lib.hid hi'
      have hfs := flat_snoc hS
      have hb1 := HB.out (j + 1)
      rw [hfs, List.length_append] at hb1
      have hhs : Holds wr T.flatten (k + (Ss.take j).flatten.length) := by
        have h2 := (HH.out.below hq (by rw [← HSE.out]; exact H.out.lt))
        rw [← List.take_append_drop (j + 1) Ss, List.flatten_append, hfs, List.append_assoc] at h2
        exact h2.append.2.append.1
      have HHS := Lib.hid hhs
      have HFS := Lib.hid hfs
      obtain ⟨m, hm⟩ : ∃ m, (Ss.take j).flatten.length = m := ⟨_, rfl⟩
      rw [hm] at hb1 HHS ⊢
      have HM := Lib.hid hm
      clear hg3 hg4 hx hi' hfs hm hS hhs
      go_wp2_with fail
      refine (heldIntSSW _ _ _ lo (k + m) T _ HI'.out HHS.out hn3 (by omega) (by omega)).mono ?_
      rintro e w1 ⟨rfl, ht1⟩
      have hmm : (Ss.take (j + 1)).flatten.length = m + T.flatten.length := by rw [HFS.out, List.length_append, HM.out]
      have hb := hq.trans (ht1.mono hq.size)
      have hnn : decide (k + (m : Int) + (T.flatten.length : Int) < 0) = false := decide_eq_false (by omega)
      clear ht1 hc
      go_wp2_with fail
      go_roundw
      case rel => exact ⟨j + 1, by omega, by go_num, by rw [hmm]; simp; omega, hb⟩
      case measure => simp [intOf]; omega
    · obtain rfl : n = j := by omega
      have ht : Ss.take n = Ss := List.take_of_length_le (by rw [← HSE.out, List.length_map, HL.out]; omega)
      rw [ht]
      go_wp2_with fail
      go_ret
      exact ⟨rfl, hq⟩
end Go.Proofs.Ytfmdgdamelkelaa
/- The sites of a diagram that BuildDiagram made. -/
namespace Go.Proofs.Ytfmdgdamelkelaa
open Go.ChangeShapes Go.WideShapes Go.ChangeAt Go.RowKit
open Go.Shelf
set_option linter.unusedVariables false
set_option maxRecDepth 100000

theorem si_own {W : World} {lo n g c : Nat} {A : Option Addr} {x : List Int} (h : OwnI 3 W lo (.slice A n c) x) (hg : (Value.slice A n c).ownBlock = some g) (h6 : x.length = 6) : n = 6 ∧ SI lo W A n (seg g 6) := by
  rcases own_heap h.1 with ⟨-, h5⟩ | ⟨b, cur, rfl, e2, hb, hbw, hh, hc⟩
  · omega
  · injection hg with hg
    have hg' : b = g := hg
    subst hg'
    refine ⟨by omega, .inr ⟨b, cur, _, rfl, hb, hh, fun j hj => ?_, by rw [show n = 6 by omega]⟩⟩
    have hj' : j < x.length := by omega
    exact ⟨x[j], by rw [hc j (by omega), List.getElem?_map, List.getElem?_eq_getElem hj']; rfl⟩
theorem RowsAt.sites {W : World} {lo n c : Nat} {A : Option Addr} {es : List (List Int)} {gs : List Nat} (h : RowsAt W lo (.slice A n c) es gs) (h6 : ∀ x ∈ es, x.length = 6) : n = es.length ∧ SRows lo W A n (gs.map (seg · 6)) := by
  obtain ⟨h1, rs, h2, h3, h4, h5⟩ := h
  rcases own_heap h3 with ⟨e1, e2⟩ | ⟨g, cur, rfl, e2, hb, hbw, hh, hc⟩
  · exact ⟨by omega, by rw [List.length_map]; omega, .inl e1⟩
  · refine ⟨e2, by rw [List.length_map]; omega, .inr ⟨g, cur, _, rfl, hh, fun j S hj => ?_⟩⟩
    rw [List.getElem?_map] at hj
    cases hgj : gs[j]? with
    | none => rw [hgj] at hj; simp at hj
    | some gg =>
      rw [hgj] at hj
      simp at hj
      subst hj
      have hjl : j < gs.length := (List.getElem?_eq_some_iff.1 hgj).1
      have k := h5 j rs[j] es[j] gg (List.getElem?_eq_getElem (by omega)) (List.getElem?_eq_getElem (by omega)) hgj
      obtain ⟨A', n', c', hv⟩ : ∃ A' n' c', rs[j] = .slice A' n' c' := by
        rcases k.1.1.2 with ⟨e, -⟩ | ⟨b, cap, cur, e, -⟩
        · exact ⟨_, _, _, e⟩
        · exact ⟨_, _, _, e⟩
      rw [hv] at k
      have q := si_own k.1 k.2 (h6 _ (List.getElem_mem (by omega)))
      exact ⟨A', n', c', by rw [hc j (by omega), List.getElem?_eq_getElem (by omega), hv], q.2⟩
theorem DgAt.sites {W : World} {lo n c : Nat} {A : Option Addr} {d : List (List (List Int))} {gss : List (List Nat)} (h : DgAt W lo (.slice A n c) d gss) (h6 : ∀ es ∈ d, es.length ≤ 1048576 ∧ ∀ x ∈ es, x.length = 6) : n = d.length ∧ SLays lo W A n (gss.map fun gs => gs.map (seg · 6)) := by
  obtain ⟨h1, rs, h2, h3, h4, h5⟩ := h
  rcases own_heap h3 with ⟨e1, e2⟩ | ⟨g, cur, rfl, e2, hb, hbw, hh, hc⟩
  · exact ⟨by omega, by rw [List.length_map]; omega, .inl e1⟩
  · refine ⟨e2, by rw [List.length_map]; omega, .inr ⟨g, cur, _, rfl, hh, fun j S hj => ?_⟩⟩
    rw [List.getElem?_map] at hj
    cases hgj : gss[j]? with
    | none => rw [hgj] at hj; simp at hj
    | some gg =>
      rw [hgj] at hj
      simp at hj
      subst hj
      have hjl : j < gss.length := (List.getElem?_eq_some_iff.1 hgj).1
      have k := h5 j rs[j] d[j] gg (List.getElem?_eq_getElem (by omega)) (List.getElem?_eq_getElem (by omega)) hgj
      obtain ⟨A', n', c', hv⟩ : ∃ A' n' c', rs[j] = .slice A' n' c' := by
        obtain ⟨-, us, -, k3, -⟩ := k
        rcases k3.2 with ⟨e, -⟩ | ⟨b, cap, cur, e, -⟩
        · exact ⟨_, _, _, e⟩
        · exact ⟨_, _, _, e⟩
      rw [hv] at k
      have hm := h6 _ (List.getElem_mem (show j < d.length by omega))
      have q := k.sites hm.2
      exact ⟨A', n', c', by rw [hc j (by omega), List.getElem?_eq_getElem (by omega), hv], by omega, q.2⟩
theorem seg_mem {g n : Nat} {s : Nat × Nat} (h : s ∈ seg g n) : s.1 = g := by
  unfold seg at h
  obtain ⟨j, -, rfl⟩ := List.mem_map.1 h
  rfl
theorem seg_nodup (g n : Nat) : (seg g n).Nodup := List.Pairwise.map _ (fun a b hab e => hab (by injection e)) List.nodup_range
theorem segs_nodup : ∀ {gs : List Nat}, gs.Nodup → (gs.map (seg · 6)).flatten.Nodup
  | [], _ => by simp
  | g :: gs, h => by
    obtain ⟨h1, h2⟩ := List.nodup_cons.1 h
    rw [List.map_cons, List.flatten_cons, List.nodup_append]
    refine ⟨seg_nodup g 6, segs_nodup h2, fun a ha b hb e => ?_⟩
    subst e
    obtain ⟨S, hS, hs⟩ := List.mem_flatten.1 hb
    obtain ⟨g', hg', rfl⟩ := List.mem_map.1 hS
    exact h1 (by rw [← seg_mem ha, seg_mem hs]; exact hg')
theorem sites_eq : ∀ (gss : List (List Nat)), ((gss.map fun gs => gs.map (seg · 6)).map List.flatten).flatten = (gss.flatten.map (seg · 6)).flatten
  | [] => rfl
  | gs :: gss => by
    have := sites_eq gss
    simp only [List.map_cons, List.flatten_cons, List.map_append, List.flatten_append]
    rw [this]
end Go.Proofs.Ytfmdgdamelkelaa
/- Draws of single domains. -/
namespace Go.Proofs.Ytfmdgdamelkelaa
open Go.ChangeShapes Go.WideShapes Go.ChangeAt Go.RowKit
open Go.Shelf
set_option linter.unusedVariables false
set_option maxRecDepth 100000

theorem one (base g n c p b m c2 : Nat) (A : Option Addr) (bs : List Int) (xs : List Int) (w : World) (h : Rd w base g A n c bs p) (hp : p ≤ 1048576) (hl : xs.length = m) (hm : 0 < m) (hm2 : m ≤ 1000) (hb : b ≠ g) (hbw : b < w.heap.size) (hc : ∀ i x, xs[i]? = some x → w.cell? ⟨b, i, none⟩ = some (.int .i64 x)) :
    Calls Try.prog 111 #[.pointer (some ⟨g, 0, none⟩), .slice (some ⟨b, 0, none⟩) m c2] w fun e w' => ∃ x : Int, e = .returned (.int .i64 x) ∧ x ∈ xs ∧ Rd w' base g A n c bs (p + 1) ∧ ButG g w.heap.size w w' := by
  have HP := Lib.hid (fun k : Int => pick base g n c p A bs k w h hp)
  have HC := Lib.hid hc
  clear h hc
  go_enter Try.func111, Try.ntmps111
  go_wp2_with fail
  refine (HP.out _).mono ?_
  rintro e w1 ⟨r, rfl, ⟨-, hr⟩, hr1, hb1⟩
  obtain ⟨r0, rm⟩ := hr (by omega)
  obtain ⟨i, rfl⟩ := Int.eq_ofNat_of_zero_le r0
  obtain ⟨x, hx⟩ : ∃ x, xs[i]? = some x := ⟨_, List.getElem?_eq_getElem (by omega)⟩
  have hcell : w1.cell? ⟨b, i, none⟩ = some (.int .i64 x) := (World.cell?_of_block (w := w) (a := ⟨b, i, none⟩) (hb1.block b hbw hb)).trans (HC.out i x hx)
  have him : i < m := by omega
  have HX := Lib.hid hx
  clear hx hr r0
  go_wp2_with fail
  go_ret
  exact ⟨x, rfl, List.mem_of_getElem? HX.out, hr1, hb1⟩
set_option maxHeartbeats 4000000 in
theorem randomDomain (base g n c p : Nat) (A : Option Addr) (bs : List Int) (w : World) (h : Rd w base g A n c bs p) (hp : p ≤ 1000000) :
    Calls Try.prog 95 #[.pointer (some ⟨g, 0, none⟩)] w fun e w' => ∃ (x : Int) (q : Nat), e = .returned (.int .i64 x) ∧ (0 ≤ x ∧ x ≤ 63) ∧ q ≤ p + 3 ∧ Rd w' base g A n c bs q ∧ ButG g w.heap.size w w' := by
  have H := Lib.hid h
  clear h
  go_enter Try.func95, Try.ntmps95
  go_wp2_with fail
  refine (pick base g n c p A bs 4 w H.out (by omega)).mono ?_
  rintro e w1 ⟨r, rfl, -, hr1, hb1⟩
  by_cases h0 : r = 0
  · subst h0
    go_wp2_with fail
    go_ret
    exact ⟨63, _, rfl, by omega, by omega, hr1, hb1⟩
  · have n0 : (r == 0) = false := by simpa using h0
    by_cases h1 : r = 1
    · subst h1
      go_wp2_with fail
      refine (pick base g n c (p + 1) A bs 3 _ hr1 (by omega)).mono ?_
      rintro e w2 ⟨lo, rfl, -, hr2, hb2⟩
      go_wp2_with fail
      refine (pick base g n c (p + 1 + 1) A bs 4 _ hr2 (by omega)).mono ?_
      rintro e w3 ⟨hi, rfl, ⟨-, hhi⟩, hr3, hb3⟩
      obtain ⟨hi0, hi1⟩ := hhi (by omega)
      clear hhi
      go_wp2_with fail
      refine (sDomainRange _ _ _).mono ?_
      rintro e w4 ⟨rfl, rfl⟩
      go_wp2_with fail
      go_ret
      exact ⟨_, _, rfl, drTo_63 _ _ 6 (by omega), by omega, hr3, (hb1.go hb2).go hb3⟩
    · have n1 : (r == 1) = false := by simpa using h1
      by_cases h2 : r = 2
      · subst h2
        go_wp2_with fail
        refine (pick base g n c (p + 1) A bs 6 _ hr1 (by omega)).mono ?_
        rintro e w2 ⟨k, rfl, ⟨-, hk⟩, hr2, hb2⟩
        obtain ⟨k0, k1⟩ := hk (by omega)
        obtain ⟨k, rfl⟩ := Int.eq_ofNat_of_zero_le k0
        have hk6 : k < 6 := by omega
        have hp2 := pow_le5 k hk6
        clear hk k0 k1
        go_wp2_with fail
        go_ret
        exact ⟨_, _, rfl, by omega, by omega, hr2, hb1.go hb2⟩
      · have n2 : (r == 2) = false := by simpa using h2
        go_wp2_with fail
        refine (pick base g n c (p + 1) A bs 63 _ hr1 (by omega)).mono ?_
        rintro e w2 ⟨k, rfl, ⟨-, hk⟩, hr2, hb2⟩
        obtain ⟨k0, k1⟩ := hk (by omega)
        clear hk
        go_wp2_with fail
        go_ret
        exact ⟨_, _, rfl, by omega, by omega, hr2, hb1.go hb2⟩
set_option maxHeartbeats 4000000 in
theorem anyDomain (base g n c p : Nat) (A : Option Addr) (bs : List Int) (w : World) (h : Rd w base g A n c bs p) (hp : p ≤ 900000) :
    Calls Try.prog 96 #[.pointer (some ⟨g, 0, none⟩)] w fun e w' => ∃ (x : Int) (q : Nat), e = .returned (.int .i64 x) ∧ (-1 ≤ x ∧ x ≤ 255) ∧ q ≤ p + 4 ∧ Rd w' base g A n c bs q ∧ ButG g w.heap.size w w' := by
  have hg : g < w.heap.size := (Array.getElem?_eq_some_iff.1 h.block).1
  have H := Lib.hid h
  clear h
  go_enter Try.func96, Try.ntmps96
  go_wp2_with fail
  refine (pick base g n c p A bs 10 w H.out (by omega)).mono ?_
  rintro e w1 ⟨r, rfl, -, hr1, hb1⟩
  have s1 := hb1.size
  by_cases h0 : r = 0
  · subst h0
    go_wp2_with fail
    have hN0 : (w1.alloc (.cells #[.int .i64 0, .int .i64 (-1), .int .i64 64, .int .i64 255] 3)).heap.size = w1.heap.size + 1 := size_alloc_ _ _
    have hc0 : ∀ i x, ([0, -1, 64, 255] : List Int)[i]? = some x → (w1.alloc (.cells #[.int .i64 0, .int .i64 (-1), .int .i64 64, .int .i64 255] 3)).cell? ⟨w1.heap.size, i, none⟩ = some (.int .i64 x) := fun i x hx => by
      rw [World.cell?_alloc_at _ _ _ _ rfl]
      match i, hx with
      | 0, hx => simp at hx; subst hx; rfl
      | 1, hx => simp at hx; subst hx; rfl
      | 2, hx => simp at hx; subst hx; rfl
      | 3, hx => simp at hx; subst hx; rfl
      | i + 4, hx => simp at hx
    refine (one base g n c (p + 1) w1.heap.size 4 4 A bs [0, -1, 64, 255] _ (hr1.under (b_alloc _ _) (by omega)) (by omega) rfl (by omega) (by omega) (by omega) (by omega) hc0).mono ?_
    rintro e w3 ⟨x1, rfl, hx1, hr3, hb3⟩
    have hb23 := hb1.go ((below_butG (b_alloc w1 (.cells #[.int .i64 0, .int .i64 (-1), .int .i64 64, .int .i64 255] 3)) g).go hb3)
    have hxb : -1 ≤ x1 ∧ x1 ≤ 255 := by
      simp at hx1
      omega
    clear hc0 hN0 hb3 hx1
    go_wp2_with fail
    go_ret
    exact ⟨x1, _, rfl, hxb, by omega, hr3, hb23⟩
  · have n0 : (r == 0) = false := by simpa using h0
    go_wp2_with fail
    refine (randomDomain base g n c (p + 1) A bs _ hr1 (by omega)).mono ?_
    rintro e w2 ⟨x, q, rfl, hx, hq, hr2, hb2⟩
    go_wp2_with fail
    go_ret
    exact ⟨x, q, rfl, by omega, by omega, hr2, hb1.go hb2⟩
end Go.Proofs.Ytfmdgdamelkelaa
/- What is drawn for Filter: a constraint that may be damaged, and domains. -/
namespace Go.Proofs.Ytfmdgdamelkelaa
open Go.ChangeShapes Go.WideShapes Go.ChangeAt Go.RowKit
open Go.Shelf
set_option linter.unusedVariables false
set_option maxRecDepth 100000

theorem lit_cells (w : World) (xs : List Int) : ∀ (i : Nat) x, xs[i]? = some x → (w.alloc (.cells (ints xs) 3)).cell? ⟨w.heap.size, i, none⟩ = some (.int .i64 x) := fun i x hx => (TBlk.new w (ints xs) 3).at_ i (ints_at hx)
theorem CS.finish2 {w w0 : World} {B B0 bx R g base n c p : Nat} {A : Option Addr} {bs : List Int} {k : Con} {v1 v2 v3 : Option Addr} {n1 c1 n2 c2 n3 c3 : Nat} {zs : Array Value}
    (h : CS w B bx k (.slice v1 n1 c1) (.slice v2 n2 c2) (.slice v3 n3 c3)) (hr : TBlk 29 w R zs) (hz : zs.size = 5) (hne : bx ≠ R) (hd : Rd w base g A n c bs p) (hg : g < R) (hR : B0 ≤ R) (hb : ButG g B0 w0 w) {wf : World}
    (hf : wf = ((((w.setCell ⟨R, 0, none⟩ (.int .i64 k.kind)).setCell ⟨R, 1, none⟩ (.slice v1 n1 c1)).setCell ⟨R, 2, none⟩ (.slice v2 n2 c2)).setCell ⟨R, 3, none⟩ (.int .i64 k.bound)).setCell ⟨R, 4, none⟩ (.slice v3 n3 c3)) :
    (wf.cell? ⟨R, 0, none⟩ = some (.int .i64 k.kind) ∧ wf.cell? ⟨R, 1, none⟩ = some (.slice v1 n1 c1) ∧ wf.cell? ⟨R, 2, none⟩ = some (.slice v2 n2 c2) ∧ wf.cell? ⟨R, 3, none⟩ = some (.int .i64 k.bound) ∧ wf.cell? ⟨R, 4, none⟩ = some (.slice v3 n3 c3)) ∧
    OwnCon wf B (.agg #[.int .i64 k.kind, .slice v1 n1 c1, .slice v2 n2 c2, .int .i64 k.bound, .slice v3 n3 c3]) k ∧ Rd wf base g A n c bs p ∧ ButG g B0 w0 wf := by
  obtain ⟨z0, z1, z2, z3, z4, rfl⟩ : ∃ z0 z1 z2 z3 z4, zs = #[z0, z1, z2, z3, z4] := by
    rcases zs with ⟨l⟩
    match l, hz with
    | [z0, z1, z2, z3, z4], _ => exact ⟨_, _, _, _, _, rfl⟩
  have t1 := hr.store 0 (.int .i64 k.kind)
  have s1 := h.far hne hr 0 (.int .i64 k.kind)
  have t2 := t1.store 1 (.slice v1 n1 c1)
  have s2 := s1.far hne t1 1 (.slice v1 n1 c1)
  have t3 := t2.store 2 (.slice v2 n2 c2)
  have s3 := s2.far hne t2 2 (.slice v2 n2 c2)
  have t4 := t3.store 3 (.int .i64 k.bound)
  have s4 := s3.far hne t3 3 (.int .i64 k.bound)
  have t5 := t4.store 4 (.slice v3 n3 c3)
  have s5 := s4.far hne t4 4 (.slice v3 n3 c3)
  subst hf
  refine ⟨⟨t5.at_ 0 rfl, t5.at_ 1 rfl, t5.at_ 2 rfl, t5.at_ 3 rfl, t5.at_ 4 rfl⟩, s5.own, ?_, ?_⟩
  · exact ((((hd.set hg 0 _).set hg 1 _).set hg 2 _).set hg 3 _).set hg 4 _
  · exact ((((hb.setHi hR 0 _).setHi hR 1 _).setHi hR 2 _).setHi hR 3 _).setHi hR 4 _
theorem CS.put {w1 w5 w6 w0 : World} {B B0 bx R g base n c p m j : Nat} {A : Option Addr} {bs : List Int} {k k' : Con} {v1 v2 v3 v1' v2' v : Value} {xs : List Int} {zs : Array Value} (hC : CS w1 B bx k v1 v2 v3) (hT : TBlk 29 w1 R zs) (hd : Rd w1 base g A n c bs p) (hbt : ButG g B0 w0 w1) (hb : Below w1.heap.size w1 w5)
    (ho : w5.ownsRow w1.heap.size 3 1 v m (xs.map (.int .i64))) (hl : xs.length = m) (hm : m ≤ 1048576) (hB : B ≤ w1.heap.size) (hg : g < bx) (hne : R ≠ bx) (hB0 : B0 ≤ bx) (h6 : w5.setCell ⟨bx, j, none⟩ v = w6) (hj : (j = 1 ∧ k' = { k with vars := xs } ∧ v1' = v ∧ v2' = v2) ∨ (j = 2 ∧ k' = { k with args := xs } ∧ v1' = v1 ∧ v2' = v)) :
    CS w6 B bx k' v1' v2' v3 ∧ TBlk 29 w6 R zs ∧ Rd w6 base g A n c bs p ∧ ButG g B0 w0 w6 := by
  have hC5 := hC.below hb
  have hbx := hC.blk.lt
  have hoI : OwnI 3 w5 B v xs := ⟨by rw [hl]; exact own_base ho hB, by rw [hl]; omega⟩
  have hd5 : Rd w5 base g A n c bs p := hd.under hb (by omega)
  have hb5 : ButG g B0 w0 w5 := hbt.trans (below_butG (hb.mono (by have := hbt.size; omega)) g)
  subst h6
  refine ⟨?_, (hT.below_ hb hT.lt).far hne, hd5.set hg _ _, hb5.setHi hB0 _ _⟩
  rcases hj with ⟨rfl, rfl, rfl, rfl⟩ | ⟨rfl, rfl, rfl, rfl⟩
  · exact hC5.setV hoI
  · exact hC5.setA hoI
theorem CS.putV {w1 w5 w0 : World} {B bx base g n c p m nv na nr c1 c2 c3 : Nat} {A A1 A2 A3 : Option Addr} {bs : List Int} {k : Con} {v : Value} {xs : List Int} (hC : CS w1 B bx k (.slice A1 nv c1) (.slice A2 na c2) (.slice A3 nr c3))
    (hT : TBlk 29 w1 (bx + 1) #[.int .i64 0, .slice none 0 0, .slice none 0 0, .int .i64 0, .slice none 0 0]) (hd : Rd w1 base g A n c bs p) (hbt : ButG g bx w0 w1) (hb : Below w1.heap.size w1 w5)
    (ho : w5.ownsRow w1.heap.size 3 1 v m (xs.map (.int .i64))) (hl : xs.length = m) (hm : m ≤ 1048576) (hB : B ≤ w1.heap.size) (hg : g < bx) :
    ∃ A5 c5 w6, v = .slice A5 m c5 ∧ w5.setCell ⟨bx, 1, none⟩ (.slice A5 m c5) = w6 ∧ w5.cell? ⟨bx, 1, none⟩ = some (.slice A1 nv c1) ∧ w5.frozen? ⟨bx, 1, none⟩ = false ∧ (w6.cell? ⟨bx, 0, none⟩ = some (.int .i64 k.kind) ∧ w6.cell? ⟨bx, 1, none⟩ = some (.slice A5 m c5) ∧ w6.cell? ⟨bx, 2, none⟩ = some (.slice A2 na c2) ∧ w6.cell? ⟨bx, 3, none⟩ = some (.int .i64 k.bound) ∧ w6.cell? ⟨bx, 4, none⟩ = some (.slice A3 nr c3)) ∧ (w6.cell? ⟨bx + 1, 0, none⟩ = some (.int .i64 0) ∧ w6.cell? ⟨bx + 1, 1, none⟩ = some (.slice none 0 0) ∧ w6.cell? ⟨bx + 1, 2, none⟩ = some (.slice none 0 0) ∧ w6.cell? ⟨bx + 1, 3, none⟩ = some (.int .i64 0) ∧ w6.cell? ⟨bx + 1, 4, none⟩ = some (.slice none 0 0)) ∧ (w6.frozen? ⟨bx + 1, 0, none⟩ = false ∧ w6.frozen? ⟨bx + 1, 1, none⟩ = false ∧ w6.frozen? ⟨bx + 1, 2, none⟩ = false ∧ w6.frozen? ⟨bx + 1, 3, none⟩ = false ∧ w6.frozen? ⟨bx + 1, 4, none⟩ = false) ∧ w1.heap.size ≤ w6.heap.size ∧
      Hid (CS w6 B bx { k with vars := xs } (.slice A5 m c5) (.slice A2 na c2) (.slice A3 nr c3) ∧ TBlk 29 w6 (bx + 1) #[.int .i64 0, .slice none 0 0, .slice none 0 0, .int .i64 0, .slice none 0 0] ∧ Rd w6 base g A n c bs p ∧ ButG g bx w0 w6) := by
  obtain ⟨A5, c5, rfl, -⟩ := IntR.of_own ho (by omega)
  obtain ⟨w6, h6⟩ : ∃ w6, w5.setCell ⟨bx, 1, none⟩ (.slice A5 m c5) = w6 := ⟨_, rfl⟩
  have hb5 := (hC.below hb).blk
  obtain ⟨q1, q2, q3, q4⟩ := CS.put (k' := { k with vars := xs }) (v1' := .slice A5 m c5) (v2' := .slice A2 na c2) hC hT hd hbt hb ho hl hm hB hg (by omega) (Nat.le_refl _) h6 (.inl ⟨rfl, rfl, rfl, rfl⟩)
  refine ⟨A5, c5, w6, rfl, h6, hb5.at_ 1 rfl, hb5.frozen 1, ⟨q1.blk.at_ 0 rfl, q1.blk.at_ 1 rfl, q1.blk.at_ 2 rfl, q1.blk.at_ 3 rfl, q1.blk.at_ 4 rfl⟩, ⟨q2.at_ 0 rfl, q2.at_ 1 rfl, q2.at_ 2 rfl, q2.at_ 3 rfl, q2.at_ 4 rfl⟩, ⟨q2.frozen 0, q2.frozen 1, q2.frozen 2, q2.frozen 3, q2.frozen 4⟩, by rw [← h6, World.size_setCell]; exact hb.size, Lib.hid ⟨q1, q2, q3, q4⟩⟩
theorem CS.putA {w1 w5 w0 : World} {B bx base g n c p m nv na nr c1 c2 c3 : Nat} {A A1 A2 A3 : Option Addr} {bs : List Int} {k : Con} {v : Value} {xs : List Int} (hC : CS w1 B bx k (.slice A1 nv c1) (.slice A2 na c2) (.slice A3 nr c3))
    (hT : TBlk 29 w1 (bx + 1) #[.int .i64 0, .slice none 0 0, .slice none 0 0, .int .i64 0, .slice none 0 0]) (hd : Rd w1 base g A n c bs p) (hbt : ButG g bx w0 w1) (hb : Below w1.heap.size w1 w5)
    (ho : w5.ownsRow w1.heap.size 3 1 v m (xs.map (.int .i64))) (hl : xs.length = m) (hm : m ≤ 1048576) (hB : B ≤ w1.heap.size) (hg : g < bx) :
    ∃ A5 c5 w6, v = .slice A5 m c5 ∧ w5.setCell ⟨bx, 2, none⟩ (.slice A5 m c5) = w6 ∧ w5.cell? ⟨bx, 2, none⟩ = some (.slice A2 na c2) ∧ w5.frozen? ⟨bx, 2, none⟩ = false ∧ (w6.cell? ⟨bx, 0, none⟩ = some (.int .i64 k.kind) ∧ w6.cell? ⟨bx, 1, none⟩ = some (.slice A1 nv c1) ∧ w6.cell? ⟨bx, 2, none⟩ = some (.slice A5 m c5) ∧ w6.cell? ⟨bx, 3, none⟩ = some (.int .i64 k.bound) ∧ w6.cell? ⟨bx, 4, none⟩ = some (.slice A3 nr c3)) ∧ (w6.cell? ⟨bx + 1, 0, none⟩ = some (.int .i64 0) ∧ w6.cell? ⟨bx + 1, 1, none⟩ = some (.slice none 0 0) ∧ w6.cell? ⟨bx + 1, 2, none⟩ = some (.slice none 0 0) ∧ w6.cell? ⟨bx + 1, 3, none⟩ = some (.int .i64 0) ∧ w6.cell? ⟨bx + 1, 4, none⟩ = some (.slice none 0 0)) ∧ (w6.frozen? ⟨bx + 1, 0, none⟩ = false ∧ w6.frozen? ⟨bx + 1, 1, none⟩ = false ∧ w6.frozen? ⟨bx + 1, 2, none⟩ = false ∧ w6.frozen? ⟨bx + 1, 3, none⟩ = false ∧ w6.frozen? ⟨bx + 1, 4, none⟩ = false) ∧ w1.heap.size ≤ w6.heap.size ∧
      Hid (CS w6 B bx { k with args := xs } (.slice A1 nv c1) (.slice A5 m c5) (.slice A3 nr c3) ∧ TBlk 29 w6 (bx + 1) #[.int .i64 0, .slice none 0 0, .slice none 0 0, .int .i64 0, .slice none 0 0] ∧ Rd w6 base g A n c bs p ∧ ButG g bx w0 w6) := by
  obtain ⟨A5, c5, rfl, -⟩ := IntR.of_own ho (by omega)
  obtain ⟨w6, h6⟩ : ∃ w6, w5.setCell ⟨bx, 2, none⟩ (.slice A5 m c5) = w6 := ⟨_, rfl⟩
  have hb5 := (hC.below hb).blk
  obtain ⟨q1, q2, q3, q4⟩ := CS.put (k' := { k with args := xs }) (v1' := .slice A1 nv c1) (v2' := .slice A5 m c5) hC hT hd hbt hb ho hl hm hB hg (by omega) (Nat.le_refl _) h6 (.inr ⟨rfl, rfl, rfl, rfl⟩)
  refine ⟨A5, c5, w6, rfl, h6, hb5.at_ 2 rfl, hb5.frozen 2, ⟨q1.blk.at_ 0 rfl, q1.blk.at_ 1 rfl, q1.blk.at_ 2 rfl, q1.blk.at_ 3 rfl, q1.blk.at_ 4 rfl⟩, ⟨q2.at_ 0 rfl, q2.at_ 1 rfl, q2.at_ 2 rfl, q2.at_ 3 rfl, q2.at_ 4 rfl⟩, ⟨q2.frozen 0, q2.frozen 1, q2.frozen 2, q2.frozen 3, q2.frozen 4⟩, by rw [← h6, World.size_setCell]; exact hb.size, Lib.hid ⟨q1, q2, q3, q4⟩⟩
/-- a constraint and what damage makes of it. -/
def NearC (k k' : Con) : Prop := k'.vars.length ≤ k.vars.length + 1 ∧ k'.args.length ≤ k.args.length + 1 ∧ k'.rows = k.rows
set_option maxHeartbeats 16000000 in
theorem damage (base g n c p B : Nat) (A : Option Addr) (bs : List Int) (v : Value) (k : Con) (w : World) (h : Rd w base g A n c bs p) (hp : p ≤ 900000) (ho : OwnCon w B v k) (hB : B ≤ w.heap.size) (hgB : g < B) (h1 : 1 ≤ k.vars.length) (hs1 : k.vars.length ≤ 8) (hs2 : k.args.length ≤ 8) :
    Calls Try.prog 122 #[.pointer (some ⟨g, 0, none⟩), v] w fun e w' => ∃ (v' : Value) (k' : Con) (q : Nat), e = .returned v' ∧ OwnCon w' B v' k' ∧ NearC k k' ∧ q ≤ p + 2 ∧ Rd w' base g A n c bs q ∧ ButG g w.heap.size w w' := by
  obtain ⟨i0, hi0, hz0, hz1, hz2⟩ := info_parts info_int
  have hg : g < w.heap.size := (Array.getElem?_eq_some_iff.1 h.block).1
  obtain ⟨vv, av, rv, rfl, o1, o2, o3⟩ := ho
  obtain ⟨A1, c1, rfl, -⟩ := o1.read
  obtain ⟨A2, c2, rfl, -⟩ := o2.read
  obtain ⟨A3, c3, rfl, -⟩ := read2 o3
  obtain ⟨nv, hnv⟩ : ∃ nv, k.vars.length = nv := ⟨_, rfl⟩
  obtain ⟨na, hna⟩ : ∃ na, k.args.length = na := ⟨_, rfl⟩
  obtain ⟨nr, hnr⟩ : ∃ nr, k.rows.length = nr := ⟨_, rfl⟩
  rw [hnv] at o1 h1 hs1 ⊢
  rw [hna] at o2 hs2 ⊢
  rw [hnr] at o3 ⊢
  have HNV := Lib.hid hnv
  have HNA := Lib.hid hna
  clear hnv hna hnr
  obtain ⟨wa, hwa⟩ : ∃ wa, wa = (w.alloc (.cells #[.int .i64 k.kind, .slice A1 nv c1, .slice A2 na c2, .int .i64 k.bound, .slice A3 nr c3] 29)).alloc (.cells #[.int .i64 0, .slice none 0 0, .slice none 0 0, .int .i64 0, .slice none 0 0] 29) := ⟨_, rfl⟩
  have hba : Below w.heap.size w wa := by rw [hwa]; exact (b_alloc _ _).alloc (by simp) _
  have HT : Hid (TBlk 29 wa (w.heap.size + 1) #[.int .i64 0, .slice none 0 0, .slice none 0 0, .int .i64 0, .slice none 0 0]) := by rw [hwa]; exact Lib.hid (TBlk.newAt (by simp))
  have HC : Hid (CS wa B w.heap.size k (.slice A1 nv c1) (.slice A2 na c2) (.slice A3 nr c3)) :=
    Lib.hid ⟨by rw [hwa]; exact (TBlk.new _ _ _).alloc_ _, (OwnI.stays 3).below _ _ _ _ _ hba o1, (OwnI.stays 3).below _ _ _ _ _ hba o2, (OwnOf.stays (OwnI.stays 3)).below _ _ _ _ _ hba o3⟩
  have HD := Lib.hid (h.under hba hg)
  have hBa := Lib.hid hba
  clear o1 o2 o3 h hba
  go_enter Try.func122, Try.ntmps122
  go_wp2_with fail
  rw [← hwa]
  clear hwa
  refine (pick base g n c p A bs 5 wa HD.out (by omega)).mono ?_
  rintro e w1 ⟨r, rfl, ⟨-, hr⟩, hr1, hb1⟩
  obtain ⟨r0, rm⟩ := hr (by omega)
  have HC1 := Lib.hid (HC.out.butG hb1 hgB (by omega))
  have HT1 := Lib.hid (HT.out.butG hb1 (by omega))
  have HB1 := Lib.hid ((below_butG hBa.out g).go hb1)
  have hs1' := HT1.out.lt
  clear hb1 HC HT HD hBa hr
  by_cases e0 : r = 0
  · subst e0
    go_wp2_with fail
    have hc0 := lit_cells w1 [0, 10, 1, 5]
    refine (one base g n c (p + 1) w1.heap.size 4 4 A bs [0, 10, 1, 5] _ (hr1.under (b_alloc w1 (.cells (ints [0, 10, 1, 5]) 3)) (by omega)) (by omega) rfl (by omega) (by omega) (by omega) (by rw [size_alloc_]; omega) hc0).mono ?_
    rintro e w3 ⟨x1, rfl, -, hr3, hb3⟩
    have hC2 := HC1.out.below (b_alloc w1 (.cells (ints [0, 10, 1, 5]) 3))
    have hC3 := hC2.butG hb3 hgB (by omega)
    have hT2 := HT1.out.below_ (b_alloc w1 (.cells (ints [0, 10, 1, 5]) 3)) HT1.out.lt
    have hT3 := hT2.butG hb3 (by omega)
    have hb13 := HB1.out.go ((below_butG (b_alloc w1 (.cells (ints [0, 10, 1, 5]) 3)) g).go hb3)
    have hs13 := hb13.size
    have hbl3 := hC3.blk
    clear hc0 hC2 hT2 hb3
    have hm := hbl3.at_ 0 rfl
    have hfz := hbl3.frozen 0
    have HX := Lib.hid (And.intro (hC3.kind x1) (And.intro (hT3.far (g := w.heap.size) (j := 0) (u := .int .i64 x1) (by omega)) (And.intro (hr3.set (b := w.heap.size) (by omega) 0 (.int .i64 x1)) (hb13.setHi (b := w.heap.size) (Nat.le_refl _) 0 (.int .i64 x1)))))
    clear hC3 hT3 hr3 hb13 hbl3
    obtain ⟨w4, hw4⟩ : ∃ w4, w3.setCell ⟨w.heap.size, 0, none⟩ (.int .i64 x1) = w4 := ⟨_, rfl⟩
    rw [hw4] at HX
    obtain ⟨hC, hT, hd, hbt⟩ := HX.out
    have z0 : w4.cell? ⟨w.heap.size, 0, none⟩ = some (.int .i64 (x1)) := hC.blk.at_ 0 rfl
    have y0 : w4.cell? ⟨w.heap.size + 1, 0, none⟩ = some (.int .i64 0) := hT.at_ 0 rfl
    have f0 := hT.frozen 0
    have z1 : w4.cell? ⟨w.heap.size, 1, none⟩ = some (.slice A1 nv c1) := hC.blk.at_ 1 rfl
    have y1 : w4.cell? ⟨w.heap.size + 1, 1, none⟩ = some (.slice none 0 0) := hT.at_ 1 rfl
    have f1 := hT.frozen 1
    have z2 : w4.cell? ⟨w.heap.size, 2, none⟩ = some (.slice A2 na c2) := hC.blk.at_ 2 rfl
    have y2 : w4.cell? ⟨w.heap.size + 1, 2, none⟩ = some (.slice none 0 0) := hT.at_ 2 rfl
    have f2 := hT.frozen 2
    have z3 : w4.cell? ⟨w.heap.size, 3, none⟩ = some (.int .i64 (k.bound)) := hC.blk.at_ 3 rfl
    have y3 : w4.cell? ⟨w.heap.size + 1, 3, none⟩ = some (.int .i64 0) := hT.at_ 3 rfl
    have f3 := hT.frozen 3
    have z4 : w4.cell? ⟨w.heap.size, 4, none⟩ = some (.slice A3 nr c3) := hC.blk.at_ 4 rfl
    have y4 : w4.cell? ⟨w.heap.size + 1, 4, none⟩ = some (.slice none 0 0) := hT.at_ 4 rfl
    have f4 := hT.frozen 4
    have hF := Lib.hid (CS.finish2 hC hT rfl (by omega) hd (by omega) (Nat.le_succ _) hbt rfl)
    clear hC hT hbt
    go_wp2_with fail
    generalize (((((w4.setCell ⟨w.heap.size + 1, 0, none⟩ (.int .i64 (x1))).setCell ⟨w.heap.size + 1, 1, none⟩ (.slice A1 nv c1)).setCell ⟨w.heap.size + 1, 2, none⟩ (.slice A2 na c2)).setCell ⟨w.heap.size + 1, 3, none⟩ (.int .i64 (k.bound))).setCell ⟨w.heap.size + 1, 4, none⟩ (.slice A3 nr c3)) = wf at hF ⊢
    obtain ⟨⟨t0, t1, t2, t3, t4⟩, ho, hrd, hbf⟩ := hF.out
    refine bodyPost_ret (v := .agg #[.int .i64 (x1), .slice A1 nv c1, .slice A2 na c2, .int .i64 (k.bound), .slice A3 nr c3]) ?_ rfl ?_
    · simp [results, Try.results122, go_sem, t0, t1, t2, t3, t4]
    · exact ⟨_, _, _, rfl, ho, by first | exact ⟨Nat.le_succ _, Nat.le_succ _, rfl⟩ | exact ⟨by simp, Nat.le_succ _, rfl⟩ | exact ⟨Nat.le_succ _, by simp, rfl⟩, by omega, hrd, hbf⟩
  have n0 : (r == 0) = false := by simpa using e0
  by_cases e1 : r = 1
  · subst e1
    have hbl1 := HC1.out.blk
    have o1 := HC1.out.vars.1
    rw [HNV.out] at o1
    obtain ⟨gA, cA, cur, eA, hgA, hblk, hcur⟩ := own_blk_int o1 (by omega)
    injection eA with eA1 eA2 eA3
    subst eA1 eA3
    obtain ⟨v0, hv0⟩ : ∃ v0, k.vars[0]? = some v0 := ⟨_, List.getElem?_eq_getElem (by have := HNV.out; omega)⟩
    have hC1 : ∀ w', Below w1.heap.size w1 w' → w'.cell? ⟨w.heap.size, 1, none⟩ = some (.slice (some ⟨gA, 0, none⟩) nv c1) := fun w' h => (hbl1.below_ h hbl1.lt).at_ 1 rfl
    have hS : ∀ w', Below w1.heap.size w1 w' → w'.cell? ⟨gA, 0, none⟩ = some (.int .i64 v0) := fun w' h => (hblk.below_ h hblk.lt).at_ 0 (hcur 0 v0 hv0)
    have hneA : gA ≠ w.heap.size := hblk.ne hbl1 (by decide)
    have HS6 := Lib.hid (fun (w5 : World) (u : Value) (h : Below w1.heap.size w1 w5) => (((hblk.below_ h hblk.lt).far (j := 1) (u := u) hneA).at_ 0 (hcur 0 v0 hv0)))
    have hbd : Below w1.heap.size w1 w1.drew := below_drewN (Below.refl _ _) 1
    have hS0 := hS _ hbd
    have hd0 := hC1 _ hbd
    have hb00 : Below w1.heap.size w1 w1 := Below.refl _ _
    have hd00 := hC1 _ hb00
    have hba0 : Below w1.heap.size w1 (w1.drew.alloc (.cells #[.int .i64 v0] 3)) := hbd.alloc (Nat.le_refl _) _
    have hba1 : Below w1.heap.size w1 (w1.alloc (.cells #[.int .i64 v0] 3)).drew := below_drewN (hb00.alloc (Nat.le_refl _) _) 1
    have hda0 := hC1 _ hba0
    have hda1 := hC1 _ hba1
    have O1 := Lib.hid o1
    have HKEY := Lib.hid (fun v5 w5 (ho : w5.ownsRow w1.heap.size 3 1 v5 (nv + 1) (k.vars.map (.int .i64) ++ [.int .i64 v0])) (hb : Below w1.heap.size w1 w5) =>
      CS.putV (xs := k.vars ++ [v0]) HC1.out HT1.out hr1 HB1.out hb (by rw [List.map_append]; exact ho) (by rw [List.length_append, HNV.out]; rfl) (by omega) (by omega) hg)
    clear hbl1 o1 hblk hcur hv0
    go_wp2_with fail
    have hs0 := hS _ hba0
    have hs1' := hS _ hba1
    have hnv0 : 0 < nv := by omega
    have hnv1 : (0 : Int) < (nv : Int) := by omega
    go_region_law (first
      | (refine step_append_any (by rfl) _ _ 22 (by rfl) w1.heap.size 3 i0 _ 1 8 Try.underlying22 hi0 hz0 hz1 hz2 rfl (by omega) v8 nv (k.vars.map (.int .i64)) (by rfl) oc2 _ 1 [.int .i64 v0] (by exact ⟨_, rfl, sr⟩) (by simp [Value.oneCell']) (by unfold maxLen; omega) (by omega) (by exact hba8.size) ?_
         intro v5 w5 ho5 hb5 _ _
         have hb9 := hba8.trans hb5
         obtain ⟨A5, c5, w6, rfl, hw6, q2, qf, ⟨z0, z1, z2, z3, z4⟩, ⟨y0, y1, y2, y3, y4⟩, ⟨f0, f1, f2, f3, f4⟩, zs6, hX⟩ := HKEY.out v5 w5 ho5 hb9
         clear ho5 hb5)
      | (go_simp
         go_at_call 116
         first
           | (refine (copyInts _ nv _ k.vars w1.drew (own_below O1.out hbd) (by omega)).mono ?_
              rintro e W8 ⟨v8, rfl, oc, hBq⟩
              have hb8 := bgo hbd hBq
              have hz8 := hb8.size
              have hd8 := hC1 _ hb8
              have oc2 := own_below oc (b_alloc W8 (.cells #[.int .i64 v0] 3))
              have sr := src_own (World.ownsRow_lit (e := 3) (size := 1) W8 #[.int .i64 v0] 1 (Nat.le_refl _) (by decide) rfl)
              have hba8 := hb8.alloc hz8 (.cells #[.int .i64 v0] 3)
              have s8 := hS _ hb8
              have s9 := hS _ hba8
              have hd9 := hC1 _ hba8
              clear hBq oc)
           | (refine (copyInts _ nv _ k.vars (w1.drew.alloc (.cells #[.int .i64 v0] 3)) (own_below O1.out (hbd.alloc (Nat.le_refl _) _)) (by omega)).mono ?_
              rintro e W8 ⟨v8, rfl, oc, hBq⟩
              have hb8 := bgo (hbd.alloc (Nat.le_refl _) (.cells #[.int .i64 v0] 3)) hBq
              have hz8 := hb8.size
              have hd8 := hC1 _ hb8
              have oc2 := own_base oc (show w1.heap.size ≤ (w1.drew.alloc (.cells #[.int .i64 v0] 3)).heap.size by simp)
              have sr := src_own (own_below (World.ownsRow_lit (e := 3) (size := 1) w1.drew #[.int .i64 v0] 1 (Nat.le_refl _) (by decide) rfl) hBq)
              have hba8 := hb8
              have s8 := hS _ hb8
              clear hBq oc)))
    all_goals
      go_wp2_with fail
      obtain ⟨hC, hT, hd, hbt⟩ := hX.out
      have hF := Lib.hid (CS.finish2 hC hT rfl (by omega) hd (by omega) (Nat.le_succ _) hbt rfl)
      clear hC hT hbt
      generalize (((((w6.setCell ⟨w.heap.size + 1, 0, none⟩ (.int .i64 (k.kind))).setCell ⟨w.heap.size + 1, 1, none⟩ (.slice A5 (nv + 1) c5)).setCell ⟨w.heap.size + 1, 2, none⟩ (.slice A2 na c2)).setCell ⟨w.heap.size + 1, 3, none⟩ (.int .i64 (k.bound))).setCell ⟨w.heap.size + 1, 4, none⟩ (.slice A3 nr c3)) = wf at hF ⊢
      obtain ⟨⟨t0, t1, t2, t3, t4⟩, ho, hrd, hbf⟩ := hF.out
      refine bodyPost_ret (v := .agg #[.int .i64 (k.kind), .slice A5 (nv + 1) c5, .slice A2 na c2, .int .i64 (k.bound), .slice A3 nr c3]) ?_ rfl ?_
      · simp [results, Try.results122, go_sem, t0, t1, t2, t3, t4]
      · exact ⟨_, rfl, _, ho, by first | exact ⟨Nat.le_succ _, Nat.le_succ _, rfl⟩ | exact ⟨by simp, Nat.le_succ _, rfl⟩ | exact ⟨Nat.le_succ _, by simp, rfl⟩, _, by omega, hrd, hbf⟩
  have n1 : (r == 1) = false := by simpa using e1
  by_cases e2 : r = 2
  · subst e2
    have hbl1 := HC1.out.blk
    have m2 : w1.cell? ⟨w.heap.size, 2, none⟩ = some (.slice A2 na c2) := hbl1.at_ 2 rfl
    clear hbl1
    go_wp2_with fail
    have o2 := HC1.out.args.1
    rw [HNA.out] at o2
    refine (copyInts _ na _ k.args w1 o2 (by omega)).mono ?_
    rintro e w2 ⟨v2, rfl, oc, hb2⟩
    have z2 := hb2.size
    have HKEY := Lib.hid (fun v5 w5 (ho : w5.ownsRow w1.heap.size 3 1 v5 (na + 1) (k.args.map (.int .i64) ++ [.int .i64 1])) (hb : Below w1.heap.size (w2.alloc (.cells #[.int .i64 1] 3)) w5) =>
      CS.putA (xs := k.args ++ [1]) HC1.out HT1.out hr1 HB1.out ((hb2.alloc z2 _).trans hb) (by rw [List.map_append]; exact ho) (by rw [List.length_append, HNA.out]; rfl) (by omega) (by omega) hg)
    have HOC := Lib.hid oc
    clear o2 m2 oc hb2
    go_wp2_with (at_builtin; refine wpList_append_any rfl _ _ 22 rfl w1.heap.size 3 i0 _ 1 8 Try.underlying22 hi0 hz0 hz1 hz2 rfl (by decide) v2 na (k.args.map (.int .i64)) rfl (own_below HOC.out (b_alloc _ _)) _ _ _ [.int .i64 1] rfl (src_own (World.ownsRow_lit w2 #[.int .i64 1] 1 (Nat.le_refl _) (by decide) rfl)) (by simp [Value.oneCell']) (by unfold maxLen; omega) (by omega) (by rw [size_alloc_]; omega) ?_; intro v5 w5 ho5 hb5 _ _; obtain ⟨A5, c5, w6, rfl, hw6, q2, qf, ⟨z0, z1, z2, z3, z4⟩, ⟨y0, y1, y2, y3, y4⟩, ⟨f0, f1, f2, f3, f4⟩, zs6, hX⟩ := HKEY.out v5 w5 ho5 hb5; clear ho5 hb5 HKEY)
    obtain ⟨hC, hT, hd, hbt⟩ := hX.out
    have hF := Lib.hid (CS.finish2 hC hT rfl (by omega) hd (by omega) (Nat.le_succ _) hbt rfl)
    clear hC hT hbt
    generalize (((((w6.setCell ⟨w.heap.size + 1, 0, none⟩ (.int .i64 (k.kind))).setCell ⟨w.heap.size + 1, 1, none⟩ (.slice A1 nv c1)).setCell ⟨w.heap.size + 1, 2, none⟩ (.slice A5 (na + 1) c5)).setCell ⟨w.heap.size + 1, 3, none⟩ (.int .i64 (k.bound))).setCell ⟨w.heap.size + 1, 4, none⟩ (.slice A3 nr c3)) = wf at hF ⊢
    obtain ⟨⟨t0, t1, t2, t3, t4⟩, ho, hrd, hbf⟩ := hF.out
    refine bodyPost_ret (v := .agg #[.int .i64 (k.kind), .slice A1 nv c1, .slice A5 (na + 1) c5, .int .i64 (k.bound), .slice A3 nr c3]) ?_ rfl ?_
    · simp [results, Try.results122, go_sem, t0, t1, t2, t3, t4]
    · exact ⟨_, _, _, rfl, ho, by first | exact ⟨Nat.le_succ _, Nat.le_succ _, rfl⟩ | exact ⟨by simp, Nat.le_succ _, rfl⟩ | exact ⟨Nat.le_succ _, by simp, rfl⟩, by omega, hrd, hbf⟩
  have n2 : (r == 2) = false := by simpa using e2
  by_cases e3 : r = 3
  · subst e3
    go_wp2_with fail
    have hc0 := lit_cells w1 [-1000, 1000, 5]
    refine (one base g n c (p + 1) w1.heap.size 3 3 A bs [-1000, 1000, 5] _ (hr1.under (b_alloc w1 (.cells (ints [-1000, 1000, 5]) 3)) (by omega)) (by omega) rfl (by omega) (by omega) (by omega) (by rw [size_alloc_]; omega) hc0).mono ?_
    rintro e w3 ⟨x1, rfl, -, hr3, hb3⟩
    have hC2 := HC1.out.below (b_alloc w1 (.cells (ints [-1000, 1000, 5]) 3))
    have hC3 := hC2.butG hb3 hgB (by omega)
    have hT2 := HT1.out.below_ (b_alloc w1 (.cells (ints [-1000, 1000, 5]) 3)) HT1.out.lt
    have hT3 := hT2.butG hb3 (by omega)
    have hb13 := HB1.out.go ((below_butG (b_alloc w1 (.cells (ints [-1000, 1000, 5]) 3)) g).go hb3)
    have hs13 := hb13.size
    have hbl3 := hC3.blk
    clear hc0 hC2 hT2 hb3
    have hm := hbl3.at_ 3 rfl
    have hfz := hbl3.frozen 3
    have HX := Lib.hid (And.intro (hC3.bound x1) (And.intro (hT3.far (g := w.heap.size) (j := 3) (u := .int .i64 x1) (by omega)) (And.intro (hr3.set (b := w.heap.size) (by omega) 3 (.int .i64 x1)) (hb13.setHi (b := w.heap.size) (Nat.le_refl _) 3 (.int .i64 x1)))))
    clear hC3 hT3 hr3 hb13 hbl3
    obtain ⟨w4, hw4⟩ : ∃ w4, w3.setCell ⟨w.heap.size, 3, none⟩ (.int .i64 x1) = w4 := ⟨_, rfl⟩
    rw [hw4] at HX
    obtain ⟨hC, hT, hd, hbt⟩ := HX.out
    have z0 : w4.cell? ⟨w.heap.size, 0, none⟩ = some (.int .i64 (k.kind)) := hC.blk.at_ 0 rfl
    have y0 : w4.cell? ⟨w.heap.size + 1, 0, none⟩ = some (.int .i64 0) := hT.at_ 0 rfl
    have f0 := hT.frozen 0
    have z1 : w4.cell? ⟨w.heap.size, 1, none⟩ = some (.slice A1 nv c1) := hC.blk.at_ 1 rfl
    have y1 : w4.cell? ⟨w.heap.size + 1, 1, none⟩ = some (.slice none 0 0) := hT.at_ 1 rfl
    have f1 := hT.frozen 1
    have z2 : w4.cell? ⟨w.heap.size, 2, none⟩ = some (.slice A2 na c2) := hC.blk.at_ 2 rfl
    have y2 : w4.cell? ⟨w.heap.size + 1, 2, none⟩ = some (.slice none 0 0) := hT.at_ 2 rfl
    have f2 := hT.frozen 2
    have z3 : w4.cell? ⟨w.heap.size, 3, none⟩ = some (.int .i64 (x1)) := hC.blk.at_ 3 rfl
    have y3 : w4.cell? ⟨w.heap.size + 1, 3, none⟩ = some (.int .i64 0) := hT.at_ 3 rfl
    have f3 := hT.frozen 3
    have z4 : w4.cell? ⟨w.heap.size, 4, none⟩ = some (.slice A3 nr c3) := hC.blk.at_ 4 rfl
    have y4 : w4.cell? ⟨w.heap.size + 1, 4, none⟩ = some (.slice none 0 0) := hT.at_ 4 rfl
    have f4 := hT.frozen 4
    have hF := Lib.hid (CS.finish2 hC hT rfl (by omega) hd (by omega) (Nat.le_succ _) hbt rfl)
    clear hC hT hbt
    go_wp2_with fail
    generalize (((((w4.setCell ⟨w.heap.size + 1, 0, none⟩ (.int .i64 (k.kind))).setCell ⟨w.heap.size + 1, 1, none⟩ (.slice A1 nv c1)).setCell ⟨w.heap.size + 1, 2, none⟩ (.slice A2 na c2)).setCell ⟨w.heap.size + 1, 3, none⟩ (.int .i64 (x1))).setCell ⟨w.heap.size + 1, 4, none⟩ (.slice A3 nr c3)) = wf at hF ⊢
    obtain ⟨⟨t0, t1, t2, t3, t4⟩, ho, hrd, hbf⟩ := hF.out
    refine bodyPost_ret (v := .agg #[.int .i64 (k.kind), .slice A1 nv c1, .slice A2 na c2, .int .i64 (x1), .slice A3 nr c3]) ?_ rfl ?_
    · simp [results, Try.results122, go_sem, t0, t1, t2, t3, t4]
    · exact ⟨_, _, _, rfl, ho, by first | exact ⟨Nat.le_succ _, Nat.le_succ _, rfl⟩ | exact ⟨by simp, Nat.le_succ _, rfl⟩ | exact ⟨Nat.le_succ _, by simp, rfl⟩, by omega, hrd, hbf⟩
  have n3 : (r == 3) = false := by simpa using e3
  go_wp2_with fail
  have hc0 := lit_cells w1 [-1, 4]
  refine (one base g n c (p + 1) w1.heap.size 2 2 A bs [-1, 4] _ (hr1.under (b_alloc w1 (.cells (ints [-1, 4]) 3)) (by omega)) (by omega) rfl (by omega) (by omega) (by omega) (by rw [size_alloc_]; omega) hc0).mono ?_
  rintro e w3 ⟨x1, rfl, -, hr3, hb3⟩
  have hC2 := HC1.out.below (b_alloc w1 (.cells (ints [-1, 4]) 3))
  have hC3 := hC2.butG hb3 hgB (by omega)
  have hT2 := HT1.out.below_ (b_alloc w1 (.cells (ints [-1, 4]) 3)) HT1.out.lt
  have hT3 := hT2.butG hb3 (by omega)
  have hb13 := HB1.out.go ((below_butG (b_alloc w1 (.cells (ints [-1, 4]) 3)) g).go hb3)
  have hs13 := hb13.size
  have hbl3 := hC3.blk
  clear hc0 hC2 hT2 hb3
  have hK := CS.putV (xs := [x1]) hC3 hT3 hr3 hb13 (b_alloc w3 (.cells #[.int .i64 x1] 3)) (World.ownsRow_lit w3 #[.int .i64 x1] 1 (Nat.le_refl _) (by decide) rfl) rfl (by omega) (by omega) hg
  obtain ⟨A5, c5, w6, hv, hw6, q2, qf, ⟨z0, z1, z2, z3, z4⟩, ⟨y0, y1, y2, y3, y4⟩, ⟨f0, f1, f2, f3, f4⟩, zs6, hX⟩ := hK
  injection hv with hv1 hv2 hv3
  subst hv1 hv3
  clear hC3 hT3 hr3 hb13 hbl3
  go_wp2_with fail
  obtain ⟨hC, hT, hd, hbt⟩ := hX.out
  have hF := Lib.hid (CS.finish2 hC hT rfl (by omega) hd (by omega) (Nat.le_succ _) hbt rfl)
  clear hC hT hbt
  generalize (((((w6.setCell ⟨w.heap.size + 1, 0, none⟩ (.int .i64 (k.kind))).setCell ⟨w.heap.size + 1, 1, none⟩ (.slice (some ⟨w3.heap.size, 0, none⟩) 1 1)).setCell ⟨w.heap.size + 1, 2, none⟩ (.slice A2 na c2)).setCell ⟨w.heap.size + 1, 3, none⟩ (.int .i64 (k.bound))).setCell ⟨w.heap.size + 1, 4, none⟩ (.slice A3 nr c3)) = wf at hF ⊢
  obtain ⟨⟨t0, t1, t2, t3, t4⟩, ho, hrd, hbf⟩ := hF.out
  refine bodyPost_ret (v := .agg #[.int .i64 (k.kind), .slice (some ⟨w3.heap.size, 0, none⟩) 1 1, .slice A2 na c2, .int .i64 (k.bound), .slice A3 nr c3]) ?_ rfl ?_
  · simp [results, Try.results122, go_sem, t0, t1, t2, t3, t4]
  · exact ⟨_, _, _, rfl, ho, by first | exact ⟨Nat.le_succ _, Nat.le_succ _, rfl⟩ | exact ⟨by simp, Nat.le_succ _, rfl⟩ | exact ⟨Nat.le_succ _, by simp, rfl⟩, by omega, hrd, hbf⟩
end Go.Proofs.Ytfmdgdamelkelaa
/- anyConstraint: a drawn constraint that may be damaged. -/
namespace Go.Proofs.Ytfmdgdamelkelaa
open Go.ChangeShapes Go.WideShapes Go.ChangeAt Go.RowKit
open Go.Shelf
set_option linter.unusedVariables false
set_option maxRecDepth 100000

theorem OwnCon.shunT {w : World} {B R j : Nat} {v u : Value} {k : Con} {zs : Array Value} (h : OwnCon w B v k) (hr : TBlk 29 w R zs) : OwnCon (w.setCell ⟨R, j, none⟩ u) B v k := by
  obtain ⟨vv, av, rv, e, h1, h2, h3⟩ := h
  exact ⟨vv, av, rv, e, OwnI.shuns (t := 29) (by decide) _ _ _ _ _ j _ _ u hr h1, OwnI.shuns (t := 29) (by decide) _ _ _ _ _ j _ _ u hr h2, OwnOf.shuns (t := 29) (by decide) (OwnI.shuns (by decide)) _ _ _ _ _ j _ _ u hr h3⟩
theorem OwnCon.laid0 {w : World} {B R : Nat} {k : Con} {x0 x1 x2 x3 x4 : Value} {zs : Array Value}
    (h : OwnCon w B (.agg #[x0, x1, x2, x3, x4]) k) (hr : TBlk 29 w R zs) (hz : zs.size = 5) {wf : World}
    (hf : wf = ((((w.setCell ⟨R, 0, none⟩ x0).setCell ⟨R, 1, none⟩ x1).setCell ⟨R, 2, none⟩ x2).setCell ⟨R, 3, none⟩ x3).setCell ⟨R, 4, none⟩ x4) :
    TBlk 29 wf R #[x0, x1, x2, x3, x4] ∧ OwnCon wf B (.agg #[x0, x1, x2, x3, x4]) k := by
  obtain ⟨z0, z1, z2, z3, z4, rfl⟩ : ∃ z0 z1 z2 z3 z4, zs = #[z0, z1, z2, z3, z4] := by
    rcases zs with ⟨l⟩
    match l, hz with
    | [z0, z1, z2, z3, z4], _ => exact ⟨_, _, _, _, _, rfl⟩
  have t1 := hr.store 0 x0
  have s1 := h.shunT (j := 0) (u := x0) hr
  have t2 := t1.store 1 x1
  have s2 := s1.shunT (j := 1) (u := x1) t1
  have t3 := t2.store 2 x2
  have s3 := s2.shunT (j := 2) (u := x2) t2
  have t4 := t3.store 3 x3
  have s4 := s3.shunT (j := 3) (u := x3) t3
  have t5 := t4.store 4 x4
  have s5 := s4.shunT (j := 4) (u := x4) t4
  subst hf
  exact ⟨t5, s5⟩
theorem below_laid {w w0 : World} {B R : Nat} {x0 x1 x2 x3 x4 : Value} (h : Below B w0 w) (hR : B ≤ R) {wf : World}
    (hf : wf = ((((w.setCell ⟨R, 0, none⟩ x0).setCell ⟨R, 1, none⟩ x1).setCell ⟨R, 2, none⟩ x2).setCell ⟨R, 3, none⟩ x3).setCell ⟨R, 4, none⟩ x4) : Below B w0 wf := by
  subst hf
  exact ((((h.setCell (p := ⟨R, 0, none⟩) hR _).setCell (p := ⟨R, 1, none⟩) hR _).setCell (p := ⟨R, 2, none⟩) hR _).setCell (p := ⟨R, 3, none⟩) hR _).setCell (p := ⟨R, 4, none⟩) hR _
/-- A constraint laid into the box of the result. -/
theorem OwnCon.laid {w w0 : World} {B B0 R g base n c p : Nat} {A : Option Addr} {bs : List Int} {k : Con} {x0 x1 x2 x3 x4 : Value} {zs : Array Value}
    (h : OwnCon w B (.agg #[x0, x1, x2, x3, x4]) k) (hr : TBlk 29 w R zs) (hz : zs.size = 5) (hd : Rd w base g A n c bs p) (hg : g < R) (hR : B0 ≤ R) (hb : ButG g B0 w0 w) {wf : World}
    (hf : wf = ((((w.setCell ⟨R, 0, none⟩ x0).setCell ⟨R, 1, none⟩ x1).setCell ⟨R, 2, none⟩ x2).setCell ⟨R, 3, none⟩ x3).setCell ⟨R, 4, none⟩ x4) :
    (wf.cell? ⟨R, 0, none⟩ = some x0 ∧ wf.cell? ⟨R, 1, none⟩ = some x1 ∧ wf.cell? ⟨R, 2, none⟩ = some x2 ∧ wf.cell? ⟨R, 3, none⟩ = some x3 ∧ wf.cell? ⟨R, 4, none⟩ = some x4) ∧
    OwnCon wf B (.agg #[x0, x1, x2, x3, x4]) k ∧ Rd wf base g A n c bs p ∧ ButG g B0 w0 wf := by
  obtain ⟨z0, z1, z2, z3, z4, rfl⟩ : ∃ z0 z1 z2 z3 z4, zs = #[z0, z1, z2, z3, z4] := by
    rcases zs with ⟨l⟩
    match l, hz with
    | [z0, z1, z2, z3, z4], _ => exact ⟨_, _, _, _, _, rfl⟩
  have t1 := hr.store 0 x0
  have s1 := h.shunT (j := 0) (u := x0) hr
  have t2 := t1.store 1 x1
  have s2 := s1.shunT (j := 1) (u := x1) t1
  have t3 := t2.store 2 x2
  have s3 := s2.shunT (j := 2) (u := x2) t2
  have t4 := t3.store 3 x3
  have s4 := s3.shunT (j := 3) (u := x3) t3
  have t5 := t4.store 4 x4
  have s5 := s4.shunT (j := 4) (u := x4) t4
  subst hf
  refine ⟨⟨t5.at_ 0 rfl, t5.at_ 1 rfl, t5.at_ 2 rfl, t5.at_ 3 rfl, t5.at_ 4 rfl⟩, s5, ?_, ?_⟩
  · exact ((((hd.set hg 0 _).set hg 1 _).set hg 2 _).set hg 3 _).set hg 4 _
  · exact ((((hb.setHi hR 0 _).setHi hR 1 _).setHi hR 2 _).setHi hR 3 _).setHi hR 4 _
/-- small, with a margin. -/
def SmD (c : Con) : Prop := c.vars.length ≤ 9 ∧ c.args.length ≤ 9 ∧ c.rows.length ≤ 8 ∧ RowsLe 8 c.rows
theorem SmC.d {c : Con} (h : SmC c) : SmD c := ⟨by have := h.1; omega, by have := h.2.1; omega, h.2.2.1, h.2.2.2⟩
theorem SmC.near {c d : Con} (h : SmC c) (k : NearC c d) : SmD d := ⟨by have := h.1; have := k.1; omega, by have := h.2.1; have := k.2.1; omega, by rw [k.2.2]; exact h.2.2.1, by rw [k.2.2]; exact h.2.2.2⟩
theorem SmD.con {c : Con} (h : SmD c) : SmCon c := ⟨by have := h.1; unfold Sm1; omega, by have := h.2.1; unfold Sm1; omega, by have := h.2.2.1; omega, fun x hx => by have := h.2.2.2 x hx; unfold Sm1; omega⟩
set_option maxHeartbeats 16000000 in
theorem anyConstraint (base g n c p : Nat) (A : Option Addr) (bs : List Int) (m : Nat) (w : World) (h : Rd w base g A n c bs p) (hp : p ≤ 800000) (hm1 : 1 ≤ m) (hm4 : m ≤ 4) :
    Calls Try.prog 97 #[.pointer (some ⟨g, 0, none⟩), .int .i64 m] w fun e w' => ∃ (v : Value) (k : Con) (q : Nat), e = .returned v ∧ OwnCon w' w.heap.size v k ∧ SmD k ∧ q ≤ p + 210 ∧ Rd w' base g A n c bs q ∧ ButG g w.heap.size w w' := by
  have hg : g < w.heap.size := (Array.getElem?_eq_some_iff.1 h.block).1
  obtain ⟨wa, hwa⟩ : ∃ wa, wa = w.alloc (.cells #[.int .i64 0, .slice none 0 0, .slice none 0 0, .int .i64 0, .slice none 0 0] 29) := ⟨_, rfl⟩
  have hba : Below w.heap.size w wa := by rw [hwa]; exact b_alloc _ _
  have hza : wa.heap.size = w.heap.size + 1 := by rw [hwa, size_alloc_]
  have HT : Hid (TBlk 29 wa w.heap.size #[.int .i64 0, .slice none 0 0, .slice none 0 0, .int .i64 0, .slice none 0 0]) := by rw [hwa]; exact TBlk.new _ _ _
  have HD := Lib.hid (h.under hba hg)
  have HBA := Lib.hid hba
  clear h hba
  go_enter Try.func97, Try.ntmps97
  go_wp2_with fail
  rw [← hwa]
  clear hwa
  refine (randomConstraint base g n c p A bs m wa HD.out (by omega) hm1 hm4).mono ?_
  rintro e w1 ⟨v, k, q, rfl, ho, hk1, hsm, hq, hr1, hb1⟩
  have HT1 := Lib.hid (HT.out.butG hb1 (by omega))
  have HB1 := Lib.hid ((below_butG HBA.out g).go hb1)
  have hz1 := hb1.size
  obtain ⟨vv, av, rv, rfl, o1, o2, o3⟩ := ho
  obtain ⟨A1, c1, rfl, -⟩ := o1.read
  obtain ⟨A2, c2, rfl, -⟩ := o2.read
  obtain ⟨A3, c3, rfl, -⟩ := read2 o3
  obtain ⟨nv, hnv⟩ : ∃ nv, k.vars.length = nv := ⟨_, rfl⟩
  obtain ⟨na, hna⟩ : ∃ na, k.args.length = na := ⟨_, rfl⟩
  obtain ⟨nr, hnr⟩ : ∃ nr, k.rows.length = nr := ⟨_, rfl⟩
  rw [hnv] at o1 ⊢
  rw [hna] at o2 ⊢
  rw [hnr] at o3 ⊢
  have HSM := Lib.hid (And.intro hk1 hsm)
  obtain ⟨w4, hw4⟩ : ∃ w4, w1.alloc (.cells #[.int .i64 k.kind, .slice A1 nv c1, .slice A2 na c2, .int .i64 k.bound, .slice A3 nr c3] 29) = w4 := ⟨_, rfl⟩
  have hb4 : Below w1.heap.size w1 w4 := by rw [← hw4]; exact b_alloc _ _
  have hC4 : CS w4 w.heap.size w1.heap.size k (.slice A1 nv c1) (.slice A2 na c2) (.slice A3 nr c3) :=
    ⟨by rw [← hw4]; exact TBlk.new _ _ _, (OwnI.stays 3).base _ _ _ _ _ (show w.heap.size ≤ wa.heap.size by omega) ((OwnI.stays 3).below _ _ _ _ _ hb4 o1), (OwnI.stays 3).base _ _ _ _ _ (show w.heap.size ≤ wa.heap.size by omega) ((OwnI.stays 3).below _ _ _ _ _ hb4 o2), (OwnOf.stays (OwnI.stays 3)).base _ _ _ _ _ (show w.heap.size ≤ wa.heap.size by omega) ((OwnOf.stays (OwnI.stays 3)).below _ _ _ _ _ hb4 o3)⟩
  have HC4 := Lib.hid hC4
  have HT4 := Lib.hid (HT1.out.below_ hb4 (by omega))
  have HD4 := Lib.hid (hr1.under hb4 (by omega))
  have HB4 := Lib.hid (HB1.out.go (below_butG hb4 g))
  have hz4 := hb4.size
  clear o1 o2 o3 hk1 hsm hnv hna hnr hC4 hb4 hb1 hr1
  go_wp2_with fail
  refine (pick base g n c q A bs 10 w4 HD4.out (by omega)).mono ?_
  rintro e w5 ⟨r, rfl, -, hr5, hb5⟩
  have hgw : g < w.heap.size := hg
  have HC5 := HC4.out.butG hb5 hgw (by omega)
  have HT5 := Lib.hid (HT4.out.butG hb5 (by omega))
  have HB5 := Lib.hid (HB4.out.go hb5)
  have hz5 := hb5.size
  have z0 := HC5.blk.at_ 0 rfl
  have z1 := HC5.blk.at_ 1 rfl
  have z2 := HC5.blk.at_ 2 rfl
  have z3 := HC5.blk.at_ 3 rfl
  have z4 := HC5.blk.at_ 4 rfl
  have HCH := Lib.hid HC5
  clear HC5 hb5 HC4 HT4 HB4 HD4
  by_cases h0 : r = 0
  · subst h0
    go_wp2_with fail
    obtain ⟨hv1, hv2, hv3⟩ := And.intro HSM.out.1 (And.intro HSM.out.2.1 HSM.out.2.2.1)
    refine (damage base g n c (q + 1) w.heap.size A bs _ k w5 hr5 (by omega) HCH.out.own (by omega) hgw hv1 hv2 hv3).mono ?_
    rintro e w6 ⟨v', k', q', rfl, ho', hn', hq', hr6, hb6⟩
    have HT6 := HT5.out.butG hb6 (by omega)
    have HB6 := HB5.out.go hb6
    obtain ⟨vv', av', rv', rfl, k1, k2, k3⟩ := ho'
    obtain ⟨A1', c1', rfl, -⟩ := k1.read
    obtain ⟨A2', c2', rfl, -⟩ := k2.read
    obtain ⟨A3', c3', rfl, -⟩ := read2 k3
    have y0 := HT6.at_ 0 rfl
    have y1 := HT6.at_ 1 rfl
    have y2 := HT6.at_ 2 rfl
    have y3 := HT6.at_ 3 rfl
    have y4 := HT6.at_ 4 rfl
    have f0 := HT6.frozen 0
    have f1 := HT6.frozen 1
    have f2 := HT6.frozen 2
    have f3 := HT6.frozen 3
    have f4 := HT6.frozen 4
    have hF := Lib.hid (OwnCon.laid (show OwnCon w6 w.heap.size _ k' from ⟨_, _, _, rfl, k1, k2, k3⟩) HT6 rfl hr6 hgw (Nat.le_refl _) HB6 rfl)
    have HN := Lib.hid (HSM.out.2.near hn')
    clear k1 k2 k3 HT6 HB6 hr6 hb6 hr5 z0 z1 z2 z3 z4 hn' hv1 hv2 hv3
    go_wp2_with fail
    generalize (((((w6.setCell ⟨w.heap.size, 0, none⟩ (.int .i64 k'.kind)).setCell ⟨w.heap.size, 1, none⟩ (.slice A1' k'.vars.length c1')).setCell ⟨w.heap.size, 2, none⟩ (.slice A2' k'.args.length c2')).setCell ⟨w.heap.size, 3, none⟩ (.int .i64 k'.bound)).setCell ⟨w.heap.size, 4, none⟩ (.slice A3' k'.rows.length c3')) = wf at hF ⊢
    obtain ⟨⟨t0, t1, t2, t3, t4⟩, ho, hrd, hbf⟩ := hF.out
    refine bodyPost_ret (v := .agg #[.int .i64 k'.kind, .slice A1' k'.vars.length c1', .slice A2' k'.args.length c2', .int .i64 k'.bound, .slice A3' k'.rows.length c3']) ?_ rfl ?_
    · simp [results, Try.results97, go_sem, t0, t1, t2, t3, t4]
    · exact ⟨_, _, _, rfl, ho, HN.out, by omega, hrd, hbf⟩
  have n0 : (r == 0) = false := by simpa using h0
  have y0 := HT5.out.at_ 0 rfl
  have y1 := HT5.out.at_ 1 rfl
  have y2 := HT5.out.at_ 2 rfl
  have y3 := HT5.out.at_ 3 rfl
  have y4 := HT5.out.at_ 4 rfl
  have f0 := HT5.out.frozen 0
  have f1 := HT5.out.frozen 1
  have f2 := HT5.out.frozen 2
  have f3 := HT5.out.frozen 3
  have f4 := HT5.out.frozen 4
  have hF := Lib.hid (OwnCon.laid HCH.out.own HT5.out rfl hr5 hgw (Nat.le_refl _) HB5.out rfl)
  have HN := Lib.hid HSM.out.2.d
  clear hr5
  go_wp2_with fail
  generalize (((((w5.setCell ⟨w.heap.size, 0, none⟩ (.int .i64 k.kind)).setCell ⟨w.heap.size, 1, none⟩ (.slice A1 nv c1)).setCell ⟨w.heap.size, 2, none⟩ (.slice A2 na c2)).setCell ⟨w.heap.size, 3, none⟩ (.int .i64 k.bound)).setCell ⟨w.heap.size, 4, none⟩ (.slice A3 nr c3)) = wf at hF ⊢
  obtain ⟨⟨t0, t1, t2, t3, t4⟩, ho, hrd, hbf⟩ := hF.out
  refine bodyPost_ret (v := .agg #[.int .i64 k.kind, .slice A1 nv c1, .slice A2 na c2, .int .i64 k.bound, .slice A3 nr c3]) ?_ rfl ?_
  · simp [results, Try.results97, go_sem, t0, t1, t2, t3, t4]
  · exact ⟨_, _, _, rfl, ho, HN.out, by omega, hrd, hbf⟩
end Go.Proofs.Ytfmdgdamelkelaa
/- What is drawn for Filter: a constraint and domains. -/
namespace Go.Proofs.Ytfmdgdamelkelaa
open Go.ChangeShapes Go.WideShapes Go.ChangeAt Go.RowKit
open Go.Shelf
set_option linter.unusedVariables false
set_option linter.unusedSimpArgs false
set_option maxRecDepth 100000

theorem OwnI.laid5 {w : World} {B R : Nat} {v : Value} {xs : List Int} {x0 x1 x2 x3 x4 : Value} {zs : Array Value} (h : OwnI 3 w B v xs) (hr : TBlk 29 w R zs) (hz : zs.size = 5) {wf : World}
    (hf : wf = ((((w.setCell ⟨R, 0, none⟩ x0).setCell ⟨R, 1, none⟩ x1).setCell ⟨R, 2, none⟩ x2).setCell ⟨R, 3, none⟩ x3).setCell ⟨R, 4, none⟩ x4) : OwnI 3 wf B v xs := by
  have t1 := hr.store 0 x0
  have s1 := OwnI.shuns (t := 29) (by decide) _ _ _ _ _ 0 _ _ x0 hr h
  have t2 := t1.store 1 x1
  have s2 := OwnI.shuns (t := 29) (by decide) _ _ _ _ _ 1 _ _ x1 t1 s1
  have t3 := t2.store 2 x2
  have s3 := OwnI.shuns (t := 29) (by decide) _ _ _ _ _ 2 _ _ x2 t2 s2
  have t4 := t3.store 3 x3
  have s4 := OwnI.shuns (t := 29) (by decide) _ _ _ _ _ 3 _ _ x3 t3 s3
  subst hf
  exact OwnI.shuns (t := 29) (by decide) _ _ _ _ _ 4 _ _ x4 t4 s4
/-- drawn domains. -/
def DrD (xs : List Int) : Prop := ∀ x ∈ xs, -1 ≤ x ∧ x ≤ 255
theorem DrD.snoc {x : Int} {xs : List Int} (h : DrD xs) (hx : -1 ≤ x ∧ x ≤ 255) : DrD (xs ++ [x]) := fun y hy => by
  rcases List.mem_append.1 hy with h1 | h1
  · exact h y h1
  · rw [List.mem_singleton.1 h1]; exact hx
theorem DrD.set {x : Int} {xs : List Int} (h : DrD xs) (hx : -1 ≤ x ∧ x ≤ 255) (k : Nat) : DrD (xs.set k x) := fun y hy => by
  rcases List.mem_or_eq_of_mem_set hy with h1 | h1
  · exact h y h1
  · rw [h1]; exact hx
set_option maxHeartbeats 16000000 in
theorem constraintAndDomains (base g n c p : Nat) (A : Option Addr) (bs : List Int) (w : World) (h : Rd w base g A n c bs p) (hp : p ≤ 700000) :
    Calls Try.prog 58 #[.pointer (some ⟨g, 0, none⟩)] w fun e w' => ∃ (vk vd : Value) (k : Con) (ds : List Int) (q : Nat), e = .returned (.tuple #[vk, vd]) ∧ OwnCon w' w.heap.size vk k ∧ SmD k ∧ OwnI 3 w' w.heap.size vd ds ∧ 1 ≤ ds.length ∧ ds.length ≤ 4 ∧ DrD ds ∧ q ≤ p + 300 ∧ Rd w' base g A n c bs q ∧ ButG g w.heap.size w w' := by
  obtain ⟨i0, hi0, hz0, hz1, hz2⟩ := info_parts info_int
  have hg : g < w.heap.size := (Array.getElem?_eq_some_iff.1 h.block).1
  have hG := Lib.hid hg
  obtain ⟨wa, hwa⟩ : ∃ wa, wa = w.alloc (.cells #[.int .i64 0, .slice none 0 0, .slice none 0 0, .int .i64 0, .slice none 0 0] 29) := ⟨_, rfl⟩
  have hba : Below w.heap.size w wa := by rw [hwa]; exact b_alloc _ _
  have hza : wa.heap.size = w.heap.size + 1 := by rw [hwa, size_alloc_]
  have HT : Hid (TBlk 29 wa w.heap.size #[.int .i64 0, .slice none 0 0, .slice none 0 0, .int .i64 0, .slice none 0 0]) := by rw [hwa]; exact TBlk.new _ _ _
  have HD := Lib.hid (h.under hba hg)
  have HBA := Lib.hid hba
  clear h hba
  go_enter Try.func58, Try.ntmps58
  go_wp2_with fail
  rw [← hwa]
  clear hwa
  refine (pick base g n c p A bs 4 wa HD.out (by omega)).mono ?_
  rintro e w1 ⟨r, rfl, ⟨-, hr⟩, hd1, hb1⟩
  obtain ⟨r0, r1⟩ := hr (by omega)
  obtain ⟨k0, rfl⟩ := Int.eq_ofNat_of_zero_le r0
  have hwr : IntKind.i64.wrap (1 + (k0 : Int)) = ((k0 + 1 : Nat) : Int) := by rw [IntKind.wrap_i64]; omega
  have HT1 := HT.out.butG hb1 (by omega)
  have HB1 := (below_butG HBA.out g).go hb1
  have hz1' := hb1.size
  clear hr
  have ho : (w1.alloc (.cells #[] 3)).ownsRow w1.heap.size 3 1 (.slice (some ⟨w1.heap.size, 0, none⟩) 0 0) 0 (([] : List Int).map (.int .i64)) := World.ownsRow_lit w1 #[] 0 (Nat.le_refl _) (by decide) rfl
  have hb0 : ButG g w.heap.size w (w1.alloc (.cells #[] 3)) := HB1.go (below_butG (b_alloc _ _) g)
  have hr0 : Rd (w1.alloc (.cells #[] 3)) base g A n c bs (p + 1) := hd1.under (b_alloc _ _) (by omega)
  have HT2 := Lib.hid (HT1.below_ (b_alloc w1 (.cells #[] 3)) HT1.lt)
  clear hd1 HT1 HB1 hb1 HT HD HBA
  go_wp2_with fail
  go_loopw [5, 6] (fun v i wr => ∃ (k q : Nat) (v' : Value) (xs : List Int), k ≤ k0 + 1 ∧ i = .int .i64 k ∧ v' = v ∧ Hid (xs.length = k) ∧ Hid (DrD xs) ∧ Hid (wr.ownsRow w1.heap.size 3 1 v' k (xs.map (.int .i64))) ∧ q ≤ p + 1 + 3 * k ∧ Rd wr base g A n c bs q ∧ ButG g w.heap.size w wr ∧ Hid (TBlk 29 wr w.heap.size #[.int .i64 0, .slice none 0 0, .slice none 0 0, .int .i64 0, .slice none 0 0]) ∧ w1.heap.size ≤ wr.heap.size) (fun _ i _ => (k0 + 1) - (intOf i).toNat)
  case atStart => exact ⟨0, p + 1, _, [], by omega, rfl, rfl, Lib.hid rfl, Lib.hid (fun _ h => by simp at h), ho, by omega, hr0, hb0, HT2, le_alloc _ _⟩
  case round =>
    obtain ⟨k, q, v, xs, hk, rfl, rfl, hl, hdm, hq, hqp, hr, hb, ht, hzr⟩ := hrel
    clear ho hb0 hr0 HT2
    rename World => wr
    by_cases hlt : k < k0 + 1
    · go_wp2_with fail
      refine (randomDomain base g n c q A bs wr hr (by omega)).mono ?_
      rintro e w2 ⟨x, q2, rfl, hx, hq2, hr2, hb2⟩
      have hq3 := own_butG hq.out hb2 (by have := hG.out; omega)
      have hb3 := hb.go hb2
      have ht3 := ht.out.butG hb2 (by have := hG.out; omega)
      have hs2 := hb2.size
      clear hq ht hr hb2
      go_wp2_with (at_builtin; refine wpList_append_own _ rfl _ _ 22 rfl w1.heap.size 3 i0 _ 1 8 Try.underlying22 hi0 hz0 hz1 hz2 rfl (by decide) v _ _ rfl (hq3.alloc _) ⟨w2.heap.size, 0, none⟩ 1 1 [.int .i64 x] rfl rfl (cell_one_new _ _ _) (by simp [Value.oneCell']) (by unfold maxLen; omega) (by omega) (by rw [size_alloc_]; omega) ?_; intro v1 w3 hown hgr _)
      have hr0 := hq3.lt
      have hbw : Below w1.heap.size w2 w3 := ((Below.refl _ _).alloc (by omega) _).grown hgr (by rw [size_alloc_]; omega) (fun g hg => (hr0 g hg).1)
      have hown2 : w3.ownsRow w1.heap.size 3 1 v1 (k + 1) ((xs ++ [x]).map (.int .i64)) := by simpa using hown
      clear hown hgr
      go_roundw
      case rel => exact ⟨k + 1, q2, v1, xs ++ [x], by omega, by go_num, rfl, Lib.hid (by rw [List.length_append, hl.out]; rfl), Lib.hid (hdm.out.snoc (by omega)), hown2, by omega, hr2.under hbw (by have := hG.out; omega), hb3.trans (below_butG (hbw.mono (by omega)) g), Lib.hid (ht3.below_ hbw (by omega)), by have := hbw.size; omega⟩
      case measure => simp [intOf]; omega
    · obtain rfl : k = k0 + 1 := by omega
      obtain ⟨B, d, rfl, -⟩ := IntR.of_own hq.out (by omega)
      go_wp2_with fail
      refine (pick base g n c q A bs 14 wr hr (by omega)).mono ?_
      rintro e w2 ⟨r2, rfl, -, hr2, hb2⟩
      have hq2 := own_butG hq.out hb2 (by have := hG.out; omega)
      have hb3 := hb.go hb2
      have ht3 := ht.out.butG hb2 (by have := hG.out; omega)
      have hs2 := hb2.size
      have hgl := hG.out
      clear hq ht hr hb2
      by_cases h0 : r2 = 0
      · subst h0
        obtain ⟨gd, rfl, hgd⟩ : ∃ gd : Nat, B = some ⟨gd, 0, none⟩ ∧ w1.heap.size ≤ gd := by
          rcases hq2.2 with ⟨_, h6⟩ | ⟨gd, cap, cur, hv, hgd, -⟩
          · omega
          · injection hv with e1 _ _
            exact ⟨gd, e1, hgd⟩
        have HQ2 := Lib.hid hq2
        clear hq2
        go_wp2_with fail
        refine (anyDomain base g n c (q + 1) A bs w2 hr2 (by omega)).mono ?_
        rintro e w3 ⟨x, q3, rfl, hx, hq3, hr3, hbq3⟩
        have hq4 := own_butG HQ2.out hbq3 (by omega)
        have hb4 := hb3.go hbq3
        have ht4 := ht3.butG hbq3 (by omega)
        have hs3 := hbq3.size
        have hco := hq4.cellAt 0 (by omega)
        obtain ⟨z, hz⟩ : ∃ z, xs[0]? = some z := ⟨_, List.getElem?_eq_getElem (by rw [hl.out]; omega)⟩
        rw [List.getElem?_map, hz] at hco
        simp only [Option.map_some] at hco
        have hfo := hq4.frozenAt 0
        have hst := (hq4.stored 0 (.int .i64 x)).1
        have hgR : gd ≠ w.heap.size := by omega
        have HT5 := Lib.hid (ht4.far (g := gd) (j := 0) (u := .int .i64 x) (by omega))
        have HB5 := Lib.hid (hb4.setHi (b := gd) (by omega) 0 (.int .i64 x))
        have HR5 := Lib.hid (hr3.set (b := gd) (by omega) 0 (.int .i64 x))
        have HO5 := Lib.hid (show OwnI 3 (w3.setCell ⟨gd, 0, none⟩ (.int .i64 x)) w1.heap.size (.slice (some ⟨gd, 0, none⟩) (k0 + 1) d) (xs.set 0 x) from ⟨by rw [List.length_set, hl.out, List.map_set]; exact hst, by rw [List.length_set, hl.out]; omega⟩)
        have hz5 : (w3.setCell ⟨gd, 0, none⟩ (.int .i64 x)).heap.size = w3.heap.size := by simp
        clear hq4 hb4 ht4 hst hr3 hbq3 HQ2 hr2 hz
        go_wp2_with fail
        obtain ⟨w5, hw5⟩ : ∃ w5, w3.setCell ⟨gd, 0, none⟩ (.int .i64 x) = w5 := ⟨_, rfl⟩
        rw [hw5] at HT5 HB5 HR5 HO5 hz5 ⊢
        clear hw5 hco hfo
        refine (anyConstraint base g n c q3 A bs (k0 + 1) w5 HR5.out (by omega) (by omega) (by omega)).mono ?_
        rintro e w6 ⟨vk, kc, q6, rfl, hoc, hsm, hq6, hr6, hb6⟩
        have hz6 := hb6.size
        have HT6 := HT5.out.butG hb6 (by omega)
        have HB6 := HB5.out.go hb6
        have HO6 := (HO5.out).butG hb6 (by omega)
        obtain ⟨vv', av', rv', rfl, k1, k2, k3⟩ := hoc
        obtain ⟨A1', c1', rfl, -⟩ := k1.read
        obtain ⟨A2', c2', rfl, -⟩ := k2.read
        obtain ⟨A3', c3', rfl, -⟩ := read2 k3
        have y0 := HT6.at_ 0 rfl
        have y1 := HT6.at_ 1 rfl
        have y2 := HT6.at_ 2 rfl
        have y3 := HT6.at_ 3 rfl
        have y4 := HT6.at_ 4 rfl
        have f0 := HT6.frozen 0
        have f1 := HT6.frozen 1
        have f2 := HT6.frozen 2
        have f3 := HT6.frozen 3
        have f4 := HT6.frozen 4
        obtain ⟨wf, hwf⟩ : ∃ wf, wf = (((((w6.setCell ⟨w.heap.size, 0, none⟩ (.int .i64 kc.kind)).setCell ⟨w.heap.size, 1, none⟩ (.slice A1' kc.vars.length c1')).setCell ⟨w.heap.size, 2, none⟩ (.slice A2' kc.args.length c2')).setCell ⟨w.heap.size, 3, none⟩ (.int .i64 kc.bound)).setCell ⟨w.heap.size, 4, none⟩ (.slice A3' kc.rows.length c3')) := ⟨_, rfl⟩
        have hF := Lib.hid (And.intro (OwnI.laid5 HO6 HT6 rfl hwf) (OwnCon.laid (OwnCon.base_ (show OwnCon w6 _ _ kc from ⟨_, _, _, rfl, k1, k2, k3⟩) (show w.heap.size ≤ _ by omega)) HT6 rfl hr6 hG.out (Nat.le_refl _) HB6 hwf))
        have HWF := Lib.hid hwf
        clear hwf
        have HN := Lib.hid (And.intro hsm (hdm.out.set hx 0))
        clear k1 k2 k3 HT6 HB6 HO6 hr6 hb6 hsm
        go_wp2_with fail
        rw [← HWF.out]
        obtain ⟨hod, ⟨t0, t1, t2, t3, t4⟩, ho, hrd, hbf⟩ := hF.out
        refine bodyPost_ret (v := .tuple #[.agg #[.int .i64 kc.kind, .slice A1' kc.vars.length c1', .slice A2' kc.args.length c2', .int .i64 kc.bound, .slice A3' kc.rows.length c3'], .slice (some ⟨gd, 0, none⟩) (k0 + 1) d]) ?_ rfl ?_
        · simp [results, Try.results58, go_sem, t0, t1, t2, t3, t4]
        · exact ⟨_, _, _, _, _, rfl, ho, HN.out.1, (OwnI.stays 3).base _ _ _ _ _ (show w.heap.size ≤ w1.heap.size by omega) hod, by have := (show (xs.set 0 x).length = k0 + 1 by rw [List.length_set, hl.out]); omega, by have := (show (xs.set 0 x).length = k0 + 1 by rw [List.length_set, hl.out]); omega, HN.out.2, by omega, hrd, hbf⟩
      have n0 : (r2 == 0) = false := by simpa using h0
      have HO5 := Lib.hid (show OwnI 3 w2 w1.heap.size (.slice B (k0 + 1) d) xs from ⟨by rw [hl.out]; exact hq2, by rw [hl.out]; omega⟩)
      have HT5 := Lib.hid ht3
      have HB5 := Lib.hid hb3
      have HR5 := Lib.hid hr2
      clear hq2 ht3 hb3 hr2
      go_wp2_with fail
      refine (anyConstraint base g n c (q + 1) A bs (k0 + 1) w2 HR5.out (by omega) (by omega) (by omega)).mono ?_
      rintro e w6 ⟨vk, kc, q6, rfl, hoc, hsm, hq6, hr6, hb6⟩
      have hz6 := hb6.size
      have HT6 := HT5.out.butG hb6 (by omega)
      have HB6 := HB5.out.go hb6
      have HO6 := (HO5.out).butG hb6 (by omega)
      obtain ⟨vv', av', rv', rfl, k1, k2, k3⟩ := hoc
      obtain ⟨A1', c1', rfl, -⟩ := k1.read
      obtain ⟨A2', c2', rfl, -⟩ := k2.read
      obtain ⟨A3', c3', rfl, -⟩ := read2 k3
      have y0 := HT6.at_ 0 rfl
      have y1 := HT6.at_ 1 rfl
      have y2 := HT6.at_ 2 rfl
      have y3 := HT6.at_ 3 rfl
      have y4 := HT6.at_ 4 rfl
      have f0 := HT6.frozen 0
      have f1 := HT6.frozen 1
      have f2 := HT6.frozen 2
      have f3 := HT6.frozen 3
      have f4 := HT6.frozen 4
      obtain ⟨wf, hwf⟩ : ∃ wf, wf = (((((w6.setCell ⟨w.heap.size, 0, none⟩ (.int .i64 kc.kind)).setCell ⟨w.heap.size, 1, none⟩ (.slice A1' kc.vars.length c1')).setCell ⟨w.heap.size, 2, none⟩ (.slice A2' kc.args.length c2')).setCell ⟨w.heap.size, 3, none⟩ (.int .i64 kc.bound)).setCell ⟨w.heap.size, 4, none⟩ (.slice A3' kc.rows.length c3')) := ⟨_, rfl⟩
      have hF := Lib.hid (And.intro (OwnI.laid5 HO6 HT6 rfl hwf) (OwnCon.laid (OwnCon.base_ (show OwnCon w6 _ _ kc from ⟨_, _, _, rfl, k1, k2, k3⟩) (show w.heap.size ≤ _ by omega)) HT6 rfl hr6 hG.out (Nat.le_refl _) HB6 hwf))
      have HWF := Lib.hid hwf
      clear hwf
      have HN := Lib.hid (And.intro hsm (hdm.out))
      clear k1 k2 k3 HT6 HB6 HO6 hr6 hb6 hsm
      go_wp2_with fail
      rw [← HWF.out]
      obtain ⟨hod, ⟨t0, t1, t2, t3, t4⟩, ho, hrd, hbf⟩ := hF.out
      refine bodyPost_ret (v := .tuple #[.agg #[.int .i64 kc.kind, .slice A1' kc.vars.length c1', .slice A2' kc.args.length c2', .int .i64 kc.bound, .slice A3' kc.rows.length c3'], .slice B (k0 + 1) d]) ?_ rfl ?_
      · simp [results, Try.results58, go_sem, t0, t1, t2, t3, t4]
      · exact ⟨_, _, _, _, _, rfl, ho, HN.out.1, (OwnI.stays 3).base _ _ _ _ _ (show w.heap.size ≤ w1.heap.size by omega) hod, by have := hl.out; omega, by have := hl.out; omega, HN.out.2, by omega, hrd, hbf⟩
end Go.Proofs.Ytfmdgdamelkelaa
/- spec's anyDiagram and the draws of diagrams. -/
namespace Go.Proofs.Ytfmdgdamelkelaa
open Go.ChangeShapes Go.WideShapes Go.ChangeAt Go.RowKit
open Go.Shelf
set_option linter.unusedVariables false
set_option maxRecDepth 100000
attribute [local go_sem] Oper.semAt_some

theorem OwnD.butG {w w' : World} {base g : Nat} {v : Value} {d : List (List (List Int))} (h : OwnD w base v d) (hb : ButG g w.heap.size w w') (hg : g < base) : OwnD w' base v d := by
  obtain ⟨us, h1, h2, h3, h4⟩ := h
  exact ⟨us, h1, own_butG h2 hb hg, h3, fun i u x hu hx => OwnRows.butG (h4 i u x hu hx) hb hg⟩
theorem OwnD.lays {w : World} {base : Nat} {v : Value} {d : List (List (List Int))} (h : OwnD w base v d) : RowC (RowC (RowC IntC)) w w.heap.size v d := OwnOf.read (fun w base v x hx => OwnOf.read (fun w base v x hx => hx.read) hx) h
theorem own_some {w : World} {B n m c : Nat} {e : TypeId} {A : Option Addr} {xs : List Value} (h : w.ownsRow B e 1 (.slice A n c) m xs) (hm : 0 < m) : ∃ (g : Nat) (cur : Array Value), A = some ⟨g, 0, none⟩ ∧ n = m ∧ TBlk e w g cur ∧ B ≤ g ∧ ∀ (j : Nat) u, xs[j]? = some u → cur[j]? = some u := by
  rcases own_heap h with ⟨-, h0⟩ | ⟨g, cur, e1, e2, hg, hgw, hh, hc⟩
  · omega
  · refine ⟨g, cur, e1, e2, hh, hg, fun j u hu => ?_⟩
    have hj : j < xs.length := (List.getElem?_eq_some_iff.1 hu).1
    rw [hc j (by have := h.1; omega)]
    exact hu
/-- the way to one row. -/
theorem OwnD.site {w : World} {B n c i k : Nat} {A : Option Addr} {d : List (List (List Int))} {es : List (List Int)} {x : List Int} (h : OwnD w B (.slice A n c) d) (hi : d[i]? = some es) (hk : es[k]? = some x) (hx : 0 < x.length) :
    ∃ (b1 b2 gD c2 c3 : Nat) (c1' c2' c3' : Array Value), A = some ⟨b1, 0, none⟩ ∧ TBlk 23 w b1 c1' ∧ TBlk 22 w b2 c2' ∧ TBlk 3 w gD c3' ∧ B ≤ b1 ∧ B ≤ b2 ∧ B ≤ gD ∧ c1'[i]? = some (.slice (some ⟨b2, 0, none⟩) es.length c2) ∧ c2'[k]? = some (.slice (some ⟨gD, 0, none⟩) x.length c3) ∧ ∀ j, j < x.length → ∃ z, c3'[j]? = some (.int .i64 z) := by
  have hil := (List.getElem?_eq_some_iff.1 hi).1
  have hkl := (List.getElem?_eq_some_iff.1 hk).1
  obtain ⟨us, h1, h2, h3, h4⟩ := h
  obtain ⟨b1, c1', rfl, -, t1, g1, f1⟩ := own_some h2 (by omega)
  have hu : us[i]? = some us[i] := List.getElem?_eq_getElem (by omega)
  have q1 := f1 i _ hu
  have k1 := h4 i _ _ hu hi
  obtain ⟨A2, c2, e2⟩ := (OwnOf.read (fun w base v x hx => hx.read) k1 : RowC (RowC IntC) w w.heap.size us[i] es)
  obtain ⟨rs, r1, r2, r3, r4⟩ := k1
  rw [e2.1] at r2 q1
  obtain ⟨b2, c2', rfl, -, t2, g2, f2⟩ := own_some r2 (by omega)
  have hr : rs[k]? = some rs[k] := List.getElem?_eq_getElem (by omega)
  have q2 := f2 k _ hr
  have k2 := r4 k _ _ hr hk
  obtain ⟨A3, c3, e3⟩ := k2.read
  have k3 := k2.1
  rw [e3.1] at k3 q2
  obtain ⟨gD, c3', rfl, -, t3, g3, f3⟩ := own_some k3 hx
  exact ⟨b1, b2, gD, c2, c3, c1', c2', c3', rfl, t1, t2, t3, g1, g2, g3, q1, q2, fun j hj => ⟨x[j], f3 j _ (by rw [List.getElem?_map, List.getElem?_eq_getElem hj]; rfl)⟩⟩
set_option maxHeartbeats 16000000 in
theorem anyDiagram (base g n c p : Nat) (A : Option Addr) (bs : List Int) (w : World) (h : Rd w base g A n c bs p) (hp : p ≤ 700000) :
    Calls Try.prog 68 #[.pointer (some ⟨g, 0, none⟩)] w fun e w' => ∃ (v : Value) (d : List (List (List Int))) (q : Nat), e = .returned v ∧ OwnD w' w.heap.size v d ∧ DgSh d ∧ q ≤ p + 400 ∧ Rd w' base g A n c bs q ∧ ButG g w.heap.size w w' := by
  obtain ⟨i0, hi0, hz0, hz1, hz2⟩ := info_parts info_int
  have hg : g < w.heap.size := (Array.getElem?_eq_some_iff.1 h.block).1
  have hG := Lib.hid hg
  have HC := Lib.hid (constraintAndDomains base g n c p A bs w h hp)
  clear h
  go_enter Try.func68, Try.ntmps68
  go_wp2_with fail
  refine HC.out.mono ?_
  rintro e w6 ⟨vk, vd, kc, ds, q, rfl, hoc, hsm, hod, hd1, hd4, hdr, hq, hr6, hb6⟩
  have hz6 := hb6.size
  obtain ⟨vv', av', rv', rfl, k1, k2, k3⟩ := hoc
  obtain ⟨A1', c1', rfl, -⟩ := k1.read
  obtain ⟨A2', c2', rfl, -⟩ := k2.read
  obtain ⟨A3', c3', rfl, -⟩ := read2 k3
  obtain ⟨Ad, cd, rfl, -⟩ := hod.read
  obtain ⟨wf, hwf⟩ : ∃ wf, wf = w6.alloc (.cells #[.int .i64 kc.kind, .slice A1' kc.vars.length c1', .slice A2' kc.args.length c2', .int .i64 kc.bound, .slice A3' kc.rows.length c3'] 29) := ⟨_, rfl⟩
  have hal : Below w6.heap.size w6 wf := by rw [hwf]; exact b_alloc _ _
  have hT : CBlk wf w6.heap.size (.int .i64 kc.kind) (.slice A1' kc.vars.length c1') (.slice A2' kc.args.length c2') (.int .i64 kc.bound) (.slice A3' kc.rows.length c3') := by rw [hwf]; exact CBlk.new w6 _ _ _ _ _
  obtain ⟨a0, a1, a2, a3, a4⟩ := hT.cells
  have hoC : OwnCon wf w.heap.size (.agg #[.int .i64 kc.kind, .slice A1' kc.vars.length c1', .slice A2' kc.args.length c2', .int .i64 kc.bound, .slice A3' kc.rows.length c3']) kc := OwnCon.below ⟨_, _, _, rfl, k1, k2, k3⟩ hal
  obtain ⟨us, eus, hCR⟩ := hoC.read
  obtain rfl : us = [.int .i64 kc.kind, .slice A1' kc.vars.length c1', .slice A2' kc.args.length c2', .int .i64 kc.bound, .slice A3' kc.rows.length c3'] := by
    injection eus with eus
    exact (congrArg Array.toList eus).symm
  obtain ⟨Ad', cd', ed, hIR⟩ := ((OwnI.stays 3).below _ _ _ _ _ hal hod).read
  injection ed with e1 e2 e3
  subst e1 e3
  have HBD := Lib.hid (sBuildDiagram _ kc Ad ds.length cd ds wf hCR hIR)
  have HB6 := Lib.hid (hb6.go (below_butG hal g))
  have HR6 := Lib.hid (hr6.under hal (by omega))
  have hzf := hal.size
  clear k1 k2 k3 hsm hod hdr hoC hal hb6 hr6 HC hT hCR hIR eus
  go_upto_region 2 with (fail)
  rw [← hwf]
  clear hwf
  go_wp2_with fail
  refine HBD.out.mono ?_
  rintro e w7 ⟨v, rfl, hD, hb7⟩
  clear HBD a0 a1 a2 a3 a4
  have hz7 := hb7.size
  obtain ⟨gss, hA, -⟩ := hD
  have hDO : OwnD w7 w.heap.size v (bdgF kc ds) := (OwnOf.stays (OwnOf.stays (OwnI.stays 3))).base _ _ _ _ _ (show w.heap.size ≤ wf.heap.size by omega) hA.read
  have hDS := bdg_sh kc ds
  obtain ⟨d, hd⟩ : ∃ d, bdgF kc ds = d := ⟨_, rfl⟩
  rw [hd] at hDO hDS
  clear hd hA gss
  have HDO := Lib.hid hDO
  have HDS := Lib.hid hDS
  have HB7 := Lib.hid (HB6.out.go (below_butG hb7 g))
  have HR7 := Lib.hid (HR6.out.under hb7 (by omega))
  obtain ⟨Av, cv, rfl, hLR⟩ := OwnOf.read (fun w base v x hx => OwnOf.read (fun w base v x hx => hx.read) hx) hDO
  have hd4' := hDS.1
  clear hDO hDS hb7 HB6 HR6
  by_cases hdl : 0 < d.length
  · go_wp2_with fail
    refine (pick base g n c q A bs _ w7 HR7.out (by omega)).mono ?_
    rintro e w8 ⟨r, rfl, ⟨-, hr⟩, hd8, hb8⟩
    obtain ⟨r0, r1⟩ := hr (by omega)
    obtain ⟨i, rfl⟩ := Int.eq_ofNat_of_zero_le r0
    have HDO8 := Lib.hid (HDO.out.butG hb8 hG.out)
    have HB8 := Lib.hid (HB7.out.go hb8)
    have HR8 := Lib.hid hd8
    obtain ⟨Av', cv', ev, hL8⟩ := HDO8.out.lays
    injection ev with e1 e2 e3
    subst e1 e3
    obtain ⟨b1, o1, es, u1, rfl, hb1, hes, hc1, A1, c1, rfl, hL1⟩ := SlR.at_ hL8 (show i < d.length by omega)
    have hes3 := HDS.out.2 es (List.mem_of_getElem? hes)
    have HES := Lib.hid hes
    have he1 := hes3.1
    clear hr hd8 hb8 hL8 hes hL1 HDO HB7 HR7 hLR
    go_wp2_with fail
    refine (pick base g n c (q + 1) A bs _ w8 HR8.out (by omega)).mono ?_
    rintro e w9 ⟨r, rfl, ⟨-, hr⟩, hd9, hb9⟩
    obtain ⟨r0, r1⟩ := hr (by omega)
    obtain ⟨k, rfl⟩ := Int.eq_ofNat_of_zero_le r0
    have HDO9 := Lib.hid (HDO8.out.butG hb9 hG.out)
    have HB9 := Lib.hid (HB8.out.go hb9)
    have HR9 := Lib.hid hd9
    clear hr hd9 hb9 HDO8 HB8 HR8 hc1
    go_wp2_with fail
    refine (pick base g n c (q + 1 + 1) A bs 4 w9 HR9.out (by omega)).mono ?_
    rintro e w10 ⟨r, rfl, -, hd10, hb10⟩
    have HDO10 := Lib.hid (HDO9.out.butG hb10 hG.out)
    have HB10 := Lib.hid (HB9.out.go hb10)
    have HR10 := Lib.hid hd10
    clear hd10 hb10 HDO9 HB9 HR9
    by_cases h0 : r = 0
    · subst h0
      obtain ⟨x, hx⟩ : ∃ x, es[k]? = some x := ⟨_, List.getElem?_eq_getElem (by omega)⟩
      have hx6 := hes3.2.2 x (List.mem_of_getElem? hx)
      obtain ⟨e1, e2, gD, c2, c3, q1, q2, q3, eA, t1, t2, t3, g1, g2, g3, f1, f2, f3⟩ := HDO10.out.site HES.out hx (by omega)
      rw [hx6] at f2 f3
      injection eA with eA
      injection eA with eA1 eA2
      subst eA1 eA2
      have hgl := hG.out
      have hz10 := HB10.out.size
      have hne1 : b1 ≠ gD := t1.ne t3 (by decide)
      have hne2 : e2 ≠ gD := t2.ne t3 (by decide)
      have HT := Lib.hid (And.intro t1 (And.intro t2 t3))
      have HF3 := Lib.hid f3
      have hS : ∀ w', ButG g w10.heap.size w10 w' → w'.cell? ⟨b1, i, none⟩ = some (.slice (some ⟨e2, 0, none⟩) es.length c2) ∧ w'.cell? ⟨e2, k, none⟩ = some (.slice (some ⟨gD, 0, none⟩) 6 c3) := fun w' h => ⟨(HT.out.1.butG h (by omega)).at_ i f1, (HT.out.2.1.butG h (by omega)).at_ k f2⟩
      have HS := Lib.hid hS
      have KEY := Lib.hid (fun (W7 : World) (j : Nat) (y : Int) (hj : j < 6) (hB : ButG g w10.heap.size w10 W7) =>
        (show (∃ z, W7.cell? ⟨gD, j, none⟩ = some (.int .i64 z)) ∧ W7.frozen? ⟨gD, j, none⟩ = false ∧ ((W7.setCell ⟨gD, j, none⟩ (.int .i64 y)).cell? ⟨b1, i, none⟩ = some (.slice (some ⟨e2, 0, none⟩) es.length c2) ∧ (W7.setCell ⟨gD, j, none⟩ (.int .i64 y)).cell? ⟨e2, k, none⟩ = some (.slice (some ⟨gD, 0, none⟩) 6 c3)) from by
          have hb7 := HT.out.2.2.butG hB (by omega)
          obtain ⟨z, hz⟩ := HF3.out j hj
          exact ⟨⟨z, hb7.at_ j hz⟩, hb7.frozen j, ((HT.out.1.butG hB (by omega)).far (g := gD) (j := j) (u := .int .i64 y) hne1).at_ i f1, ((HT.out.2.1.butG hB (by omega)).far (g := gD) (j := j) (u := .int .i64 y) hne2).at_ k f2⟩))
      have hbd : ButG g w10.heap.size w10 w10.drew := below_butG (below_drewN (Below.refl _ _) 1) g
      have hS0 := HS.out _ hbd
      have hrd : Rd w10.drew base g A n c bs (q + 1 + 1 + 1) := HR10.out.drewN 1
      have hzd : w10.drew.heap.size = w10.heap.size := rfl
      have hik : i < d.length := by omega
      have hikz : (i : Int) < (d.length : Int) := by omega
      have hkz : (k : Int) < (es.length : Int) := by omega
      clear hS f1 f2 f3 t1 t2 t3 hx
      go_wp2_with fail
      go_region_held3 (fun w' => w'.cell? ⟨b1, i, none⟩ = some (.slice (some ⟨e2, 0, none⟩) es.length c2) ∧ w'.cell? ⟨e2, k, none⟩ = some (.slice (some ⟨gD, 0, none⟩) 6 c3))
        (first | with_reducible exact hS0 | with_reducible assumption)
        (first
          | (go_at_call 61
             refine (pick base g n c (q + 1 + 1 + 1) A bs 6 w10.drew hrd (by omega)).mono ?_
             rintro e W7 ⟨r1, rfl, ⟨-, hr⟩, hd7, hb7⟩
             have hB7 := hbd.go hb7
             have hS7 := HS.out _ hB7
             obtain ⟨r10, r11⟩ := hr (by omega)
             obtain ⟨j, rfl⟩ := Int.eq_ofNat_of_zero_le r10
             have hjn : j < 6 := by omega
             obtain ⟨⟨z7, hz7⟩, hf7, hS8⟩ := KEY.out W7 j (-1) hjn hB7
             clear hr r10))
      all_goals
        have hBk := HT.out.2.2.butG hB7 (show gD ≠ g by omega)
        obtain ⟨d', od, sd⟩ := OwnD.any (j := j) (-1) hBk (HDO10.out.butG hB7 hgl) HDS.out
        have BZ := (HB10.out.go hB7).setHi (b := gD) g3 j (.int .i64 (-1))
        have DZ := hd7.set (b := gD) (by omega) j (.int .i64 (-1))
        have HALL := Lib.hid (And.intro od (And.intro sd (And.intro BZ DZ)))
        obtain ⟨wz, hwz⟩ : ∃ wz, W7.setCell ⟨gD, j, none⟩ (.int .i64 (-1)) = wz := ⟨_, rfl⟩
        rw [hwz] at HALL ⊢
        clear hwz od sd BZ DZ hBk hd7 hB7 hS7 hS8 hz7 hf7 hS0
        go_wp2_with fail
        go_ret
        exact ⟨_, d', q + 1 + 1 + 1 + 1, rfl, HALL.out.1, HALL.out.2.1, by omega, HALL.out.2.2.2, HALL.out.2.2.1⟩
    · by_cases h1 : r = 1
      · subst h1
        obtain ⟨x, hx⟩ : ∃ x, es[k]? = some x := ⟨_, List.getElem?_eq_getElem (by omega)⟩
        have hx6 := hes3.2.2 x (List.mem_of_getElem? hx)
        obtain ⟨e1, e2, gD, c2, c3, q1, q2, q3, eA, t1, t2, t3, g1, g2, g3, f1, f2, f3⟩ := HDO10.out.site HES.out hx (by omega)
        rw [hx6] at f2 f3
        injection eA with eA
        injection eA with eA1 eA2
        subst eA1 eA2
        have hgl := hG.out
        have hz10 := HB10.out.size
        have hne1 : b1 ≠ gD := t1.ne t3 (by decide)
        have hne2 : e2 ≠ gD := t2.ne t3 (by decide)
        have HT := Lib.hid (And.intro t1 (And.intro t2 t3))
        have HF3 := Lib.hid f3
        have hS : ∀ w', ButG g w10.heap.size w10 w' → w'.cell? ⟨b1, i, none⟩ = some (.slice (some ⟨e2, 0, none⟩) es.length c2) ∧ w'.cell? ⟨e2, k, none⟩ = some (.slice (some ⟨gD, 0, none⟩) 6 c3) := fun w' h => ⟨(HT.out.1.butG h (by omega)).at_ i f1, (HT.out.2.1.butG h (by omega)).at_ k f2⟩
        have HS := Lib.hid hS
        have KEY := Lib.hid (fun (W7 : World) (j : Nat) (y : Int) (hj : j < 6) (hB : ButG g w10.heap.size w10 W7) =>
          (show (∃ z, W7.cell? ⟨gD, j, none⟩ = some (.int .i64 z)) ∧ W7.frozen? ⟨gD, j, none⟩ = false ∧ ((W7.setCell ⟨gD, j, none⟩ (.int .i64 y)).cell? ⟨b1, i, none⟩ = some (.slice (some ⟨e2, 0, none⟩) es.length c2) ∧ (W7.setCell ⟨gD, j, none⟩ (.int .i64 y)).cell? ⟨e2, k, none⟩ = some (.slice (some ⟨gD, 0, none⟩) 6 c3)) from by
            have hb7 := HT.out.2.2.butG hB (by omega)
            obtain ⟨z, hz⟩ := HF3.out j hj
            exact ⟨⟨z, hb7.at_ j hz⟩, hb7.frozen j, ((HT.out.1.butG hB (by omega)).far (g := gD) (j := j) (u := .int .i64 y) hne1).at_ i f1, ((HT.out.2.1.butG hB (by omega)).far (g := gD) (j := j) (u := .int .i64 y) hne2).at_ k f2⟩))
        have hbd : ButG g w10.heap.size w10 w10.drew := below_butG (below_drewN (Below.refl _ _) 1) g
        have hS0 := HS.out _ hbd
        have hrd : Rd w10.drew base g A n c bs (q + 1 + 1 + 1) := HR10.out.drewN 1
        have hzd : w10.drew.heap.size = w10.heap.size := rfl
        have hik : i < d.length := by omega
        have hikz : (i : Int) < (d.length : Int) := by omega
        have hkz : (k : Int) < (es.length : Int) := by omega
        clear hS f1 f2 f3 t1 t2 t3 hx
        have hbA : ButG g w10.heap.size w10 (w10.drew.alloc (.cells #[.int .i64 0, .int .i64 7, .int .i64 (-2)] 3)) := hbd.go (below_butG (b_alloc _ _) g)
        have hSA := HS.out _ hbA
        have hrA : Rd (w10.drew.alloc (.cells #[.int .i64 0, .int .i64 7, .int .i64 (-2)] 3)) base g A n c bs (q + 1 + 1 + 1) := hrd.under (b_alloc _ _) (by omega)
        have hTL : TBlk 3 (w10.drew.alloc (.cells #[.int .i64 0, .int .i64 7, .int .i64 (-2)] 3)) w10.heap.size (ints [0, 7, -2]) := TBlk.new _ _ _
        go_wp2_with fail
        go_region_held3 (fun w' => w'.cell? ⟨b1, i, none⟩ = some (.slice (some ⟨e2, 0, none⟩) es.length c2) ∧ w'.cell? ⟨e2, k, none⟩ = some (.slice (some ⟨gD, 0, none⟩) 6 c3))
          (first | with_reducible exact hS0 | with_reducible exact hSA | with_reducible assumption | exact hSA)
          (first
            | (go_at_call 61
               first
                 | (refine (pick base g n c (q + 1 + 1 + 1) A bs 6 w10.drew hrd (by omega)).mono ?_
                    rintro e W6 ⟨r1, rfl, ⟨-, hr⟩, hd6, hb6⟩
                    have hB6 := hbd.go hb6
                    have hS6 := HS.out _ hB6
                    have hBL : ButG g w10.heap.size w10 (W6.alloc (.cells #[.int .i64 0, .int .i64 7, .int .i64 (-2)] 3)) := hB6.go (below_butG (b_alloc _ _) g)
                    have hSL := HS.out _ hBL
                    have hzW := hB6.size
                    have hdL : Rd (W6.alloc (.cells #[.int .i64 0, .int .i64 7, .int .i64 (-2)] 3)) base g A n c bs (q + 1 + 1 + 1 + 1) := hd6.under (b_alloc _ _) (by omega)
                    have hTl : TBlk 3 (W6.alloc (.cells #[.int .i64 0, .int .i64 7, .int .i64 (-2)] 3)) W6.heap.size (ints [0, 7, -2]) := TBlk.new _ _ _
                    obtain ⟨r10, r11⟩ := hr (by omega)
                    obtain ⟨j, rfl⟩ := Int.eq_ofNat_of_zero_le r10
                    have hjn : j < 6 := by omega
                    clear hr r10)
                 | (refine (pick base g n c (q + 1 + 1 + 1) A bs 6 (w10.drew.alloc (.cells #[.int .i64 0, .int .i64 7, .int .i64 (-2)] 3)) hrA (by omega)).mono ?_
                    rintro e W6 ⟨r1, rfl, ⟨-, hr⟩, hd6, hb6⟩
                    have hB6 := hbA.go hb6
                    have hS6 := HS.out _ hB6
                    have hzW := hB6.size
                    have hTl := hTL.butG hb6 (show w10.heap.size ≠ g by omega)
                    obtain ⟨r10, r11⟩ := hr (by omega)
                    obtain ⟨j, rfl⟩ := Int.eq_ofNat_of_zero_le r10
                    have hjn : j < 6 := by omega
                    clear hr r10))
            | (go_at_call 111
               first
                 | (refine (one base g n c (q + 1 + 1 + 1 + 1) W6.heap.size 3 3 A bs [0, 7, -2] (W6.alloc (.cells #[.int .i64 0, .int .i64 7, .int .i64 (-2)] 3)) hdL (by omega) rfl (by omega) (by omega) (by omega) hTl.lt (fun i x hx => hTl.at_ i (ints_at hx))).mono ?_
                    rintro e W7 ⟨y1, rfl, -, hd7, hb7⟩
                    have hB7 := hBL.go hb7
                    have hS7 := HS.out _ hB7
                    obtain ⟨⟨z7, hz7⟩, hf7, hS8⟩ := KEY.out W7 j y1 hjn hB7)
                 | (refine (one base g n c (q + 1 + 1 + 1 + 1) w10.heap.size 3 3 A bs [0, 7, -2] W6 hd6 (by omega) rfl (by omega) (by omega) (by omega) hTl.lt (fun i x hx => hTl.at_ i (ints_at hx))).mono ?_
                    rintro e W7 ⟨y1, rfl, -, hd7, hb7⟩
                    have hB7 := hB6.go hb7
                    have hS7 := HS.out _ hB7
                    obtain ⟨⟨z7, hz7⟩, hf7, hS8⟩ := KEY.out W7 j y1 hjn hB7)))
        all_goals
          have hBk := HT.out.2.2.butG hB7 (show gD ≠ g by omega)
          obtain ⟨d', od, sd⟩ := OwnD.any (j := j) (y1) hBk (HDO10.out.butG hB7 hgl) HDS.out
          have BZ := (HB10.out.go hB7).setHi (b := gD) g3 j (.int .i64 (y1))
          have DZ := hd7.set (b := gD) (by omega) j (.int .i64 (y1))
          have HALL := Lib.hid (And.intro od (And.intro sd (And.intro BZ DZ)))
          obtain ⟨wz, hwz⟩ : ∃ wz, W7.setCell ⟨gD, j, none⟩ (.int .i64 (y1)) = wz := ⟨_, rfl⟩
          rw [hwz] at HALL ⊢
          clear hwz od sd BZ DZ hBk hd7 hB7 hS7 hS8 hz7 hf7 hS0
          go_wp2_with fail
          go_ret
          exact ⟨_, d', q + 1 + 1 + 1 + 1 + 1, rfl, HALL.out.1, HALL.out.2.1, by omega, HALL.out.2.2.2, HALL.out.2.2.1⟩
      · have t0 : (r == 0) = false := by simpa using h0
        have t1 : (r == 1) = false := by simpa using h1
        go_wp2_with fail
        go_ret
        exact ⟨_, d, q + 1 + 1 + 1, rfl, HDO10.out, HDS.out, by omega, HR10.out, HB10.out⟩
  · go_wp2_with fail
    go_ret
    exact ⟨_, d, q, rfl, HDO.out, HDS.out, by omega, HR7.out, HB7.out⟩
end Go.Proofs.Ytfmdgdamelkelaa
/- constraintAndDomains once more: the domains lie below the constraint; spec's draw for IsEntailed. -/
namespace Go.Proofs.Ytfmdgdamelkelaa
open Go.ChangeShapes Go.WideShapes Go.ChangeAt Go.RowKit
open Go.Shelf
set_option linter.unusedVariables false
set_option maxRecDepth 100000
attribute [local go_sem] Oper.semAt_some
set_option maxHeartbeats 16000000 in
theorem constraintAndDomains2 (base g n c p : Nat) (A : Option Addr) (bs : List Int) (w : World) (h : Rd w base g A n c bs p) (hp : p ≤ 700000) :
    Calls Try.prog 58 #[.pointer (some ⟨g, 0, none⟩)] w fun e w' => ∃ (vk vd : Value) (k : Con) (ds : List Int) (q : Nat), e = .returned (.tuple #[vk, vd]) ∧ (∃ mid, w.heap.size ≤ mid ∧ OwnCon w' mid vk k ∧ ∀ g, vd.ownBlock = some g → g < mid) ∧ SmD k ∧ OwnI 3 w' w.heap.size vd ds ∧ 1 ≤ ds.length ∧ ds.length ≤ 4 ∧ DrD ds ∧ q ≤ p + 300 ∧ Rd w' base g A n c bs q ∧ ButG g w.heap.size w w' := by
  obtain ⟨i0, hi0, hz0, hz1, hz2⟩ := info_parts info_int
  have hg : g < w.heap.size := (Array.getElem?_eq_some_iff.1 h.block).1
  have hG := Lib.hid hg
  obtain ⟨wa, hwa⟩ : ∃ wa, wa = w.alloc (.cells #[.int .i64 0, .slice none 0 0, .slice none 0 0, .int .i64 0, .slice none 0 0] 29) := ⟨_, rfl⟩
  have hba : Below w.heap.size w wa := by rw [hwa]; exact b_alloc _ _
  have hza : wa.heap.size = w.heap.size + 1 := by rw [hwa, size_alloc_]
  have HT : Hid (TBlk 29 wa w.heap.size #[.int .i64 0, .slice none 0 0, .slice none 0 0, .int .i64 0, .slice none 0 0]) := by rw [hwa]; exact TBlk.new _ _ _
  have HD := Lib.hid (h.under hba hg)
  have HBA := Lib.hid hba
  clear h hba
  go_enter Try.func58, Try.ntmps58
  go_wp2_with fail
  rw [← hwa]
  clear hwa
  refine (pick base g n c p A bs 4 wa HD.out (by omega)).mono ?_
  rintro e w1 ⟨r, rfl, ⟨-, hr⟩, hd1, hb1⟩
  obtain ⟨r0, r1⟩ := hr (by omega)
  obtain ⟨k0, rfl⟩ := Int.eq_ofNat_of_zero_le r0
  have hwr : IntKind.i64.wrap (1 + (k0 : Int)) = ((k0 + 1 : Nat) : Int) := by rw [IntKind.wrap_i64]; omega
  have HT1 := HT.out.butG hb1 (by omega)
  have HB1 := (below_butG HBA.out g).go hb1
  have hz1' := hb1.size
  clear hr
  have ho : (w1.alloc (.cells #[] 3)).ownsRow w1.heap.size 3 1 (.slice (some ⟨w1.heap.size, 0, none⟩) 0 0) 0 (([] : List Int).map (.int .i64)) := World.ownsRow_lit w1 #[] 0 (Nat.le_refl _) (by decide) rfl
  have hb0 : ButG g w.heap.size w (w1.alloc (.cells #[] 3)) := HB1.go (below_butG (b_alloc _ _) g)
  have hr0 : Rd (w1.alloc (.cells #[] 3)) base g A n c bs (p + 1) := hd1.under (b_alloc _ _) (by omega)
  have HT2 := Lib.hid (HT1.below_ (b_alloc w1 (.cells #[] 3)) HT1.lt)
  clear hd1 HT1 HB1 hb1 HT HD HBA
  go_wp2_with fail
  go_loopw [5, 6] (fun v i wr => ∃ (k q : Nat) (v' : Value) (xs : List Int), k ≤ k0 + 1 ∧ i = .int .i64 k ∧ v' = v ∧ Hid (xs.length = k) ∧ Hid (DrD xs) ∧ Hid (wr.ownsRow w1.heap.size 3 1 v' k (xs.map (.int .i64))) ∧ q ≤ p + 1 + 3 * k ∧ Rd wr base g A n c bs q ∧ ButG g w.heap.size w wr ∧ Hid (TBlk 29 wr w.heap.size #[.int .i64 0, .slice none 0 0, .slice none 0 0, .int .i64 0, .slice none 0 0]) ∧ w1.heap.size ≤ wr.heap.size) (fun _ i _ => (k0 + 1) - (intOf i).toNat)
  case atStart => exact ⟨0, p + 1, _, [], by omega, rfl, rfl, Lib.hid rfl, Lib.hid (fun _ h => by simp at h), ho, by omega, hr0, hb0, HT2, le_alloc _ _⟩
  case round =>
    obtain ⟨k, q, v, xs, hk, rfl, rfl, hl, hdm, hq, hqp, hr, hb, ht, hzr⟩ := hrel
    clear ho hb0 hr0 HT2
    rename World => wr
    by_cases hlt : k < k0 + 1
    · go_wp2_with fail
      refine (randomDomain base g n c q A bs wr hr (by omega)).mono ?_
      rintro e w2 ⟨x, q2, rfl, hx, hq2, hr2, hb2⟩
      have hq3 := own_butG hq.out hb2 (by have := hG.out; omega)
      have hb3 := hb.go hb2
      have ht3 := ht.out.butG hb2 (by have := hG.out; omega)
      have hs2 := hb2.size
      clear hq ht hr hb2
      go_wp2_with (at_builtin; refine wpList_append_own _ rfl _ _ 22 rfl w1.heap.size 3 i0 _ 1 8 Try.underlying22 hi0 hz0 hz1 hz2 rfl (by decide) v _ _ rfl (hq3.alloc _) ⟨w2.heap.size, 0, none⟩ 1 1 [.int .i64 x] rfl rfl (cell_one_new _ _ _) (by simp [Value.oneCell']) (by unfold maxLen; omega) (by omega) (by rw [size_alloc_]; omega) ?_; intro v1 w3 hown hgr _)
      have hr0 := hq3.lt
      have hbw : Below w1.heap.size w2 w3 := ((Below.refl _ _).alloc (by omega) _).grown hgr (by rw [size_alloc_]; omega) (fun g hg => (hr0 g hg).1)
      have hown2 : w3.ownsRow w1.heap.size 3 1 v1 (k + 1) ((xs ++ [x]).map (.int .i64)) := by simpa using hown
      clear hown hgr
      go_roundw
      case rel => exact ⟨k + 1, q2, v1, xs ++ [x], by omega, by go_num, rfl, Lib.hid (by rw [List.length_append, hl.out]; rfl), Lib.hid (hdm.out.snoc (by omega)), hown2, by omega, hr2.under hbw (by have := hG.out; omega), hb3.trans (below_butG (hbw.mono (by omega)) g), Lib.hid (ht3.below_ hbw (by omega)), by have := hbw.size; omega⟩
      case measure => simp [intOf]; omega
    · obtain rfl : k = k0 + 1 := by omega
      obtain ⟨B, d, rfl, -⟩ := IntR.of_own hq.out (by omega)
      go_wp2_with fail
      refine (pick base g n c q A bs 14 wr hr (by omega)).mono ?_
      rintro e w2 ⟨r2, rfl, -, hr2, hb2⟩
      have hq2 := own_butG hq.out hb2 (by have := hG.out; omega)
      have hb3 := hb.go hb2
      have ht3 := ht.out.butG hb2 (by have := hG.out; omega)
      have hs2 := hb2.size
      have hgl := hG.out
      clear hq ht hr hb2
      by_cases h0 : r2 = 0
      · subst h0
        obtain ⟨gd, rfl, hgd⟩ : ∃ gd : Nat, B = some ⟨gd, 0, none⟩ ∧ w1.heap.size ≤ gd := by
          rcases hq2.2 with ⟨_, h6⟩ | ⟨gd, cap, cur, hv, hgd, -⟩
          · omega
          · injection hv with e1 _ _
            exact ⟨gd, e1, hgd⟩
        have HQ2 := Lib.hid hq2
        clear hq2
        go_wp2_with fail
        refine (anyDomain base g n c (q + 1) A bs w2 hr2 (by omega)).mono ?_
        rintro e w3 ⟨x, q3, rfl, hx, hq3, hr3, hbq3⟩
        have hq4 := own_butG HQ2.out hbq3 (by omega)
        have hb4 := hb3.go hbq3
        have ht4 := ht3.butG hbq3 (by omega)
        have hs3 := hbq3.size
        have hco := hq4.cellAt 0 (by omega)
        obtain ⟨z, hz⟩ : ∃ z, xs[0]? = some z := ⟨_, List.getElem?_eq_getElem (by rw [hl.out]; omega)⟩
        rw [List.getElem?_map, hz] at hco
        simp only [Option.map_some] at hco
        have hfo := hq4.frozenAt 0
        have hst := (hq4.stored 0 (.int .i64 x)).1
        have hgR : gd ≠ w.heap.size := by omega
        have HT5 := Lib.hid (ht4.far (g := gd) (j := 0) (u := .int .i64 x) (by omega))
        have HB5 := Lib.hid (hb4.setHi (b := gd) (by omega) 0 (.int .i64 x))
        have HR5 := Lib.hid (hr3.set (b := gd) (by omega) 0 (.int .i64 x))
        have HO5 := Lib.hid (show OwnI 3 (w3.setCell ⟨gd, 0, none⟩ (.int .i64 x)) w1.heap.size (.slice (some ⟨gd, 0, none⟩) (k0 + 1) d) (xs.set 0 x) from ⟨by rw [List.length_set, hl.out, List.map_set]; exact hst, by rw [List.length_set, hl.out]; omega⟩)
        have hz5 : (w3.setCell ⟨gd, 0, none⟩ (.int .i64 x)).heap.size = w3.heap.size := by simp
        clear hq4 hb4 ht4 hst hr3 hbq3 HQ2 hr2 hz
        go_wp2_with fail
        obtain ⟨w5, hw5⟩ : ∃ w5, w3.setCell ⟨gd, 0, none⟩ (.int .i64 x) = w5 := ⟨_, rfl⟩
        rw [hw5] at HT5 HB5 HR5 HO5 hz5 ⊢
        clear hw5 hco hfo
        refine (anyConstraint base g n c q3 A bs (k0 + 1) w5 HR5.out (by omega) (by omega) (by omega)).mono ?_
        rintro e w6 ⟨vk, kc, q6, rfl, hoc, hsm, hq6, hr6, hb6⟩
        have hz6 := hb6.size
        have HT6 := HT5.out.butG hb6 (by omega)
        have HB6 := HB5.out.go hb6
        have HO6 := (HO5.out).butG hb6 (by omega)
        obtain ⟨vv', av', rv', rfl, k1, k2, k3⟩ := hoc
        obtain ⟨A1', c1', rfl, -⟩ := k1.read
        obtain ⟨A2', c2', rfl, -⟩ := k2.read
        obtain ⟨A3', c3', rfl, -⟩ := read2 k3
        have y0 := HT6.at_ 0 rfl
        have y1 := HT6.at_ 1 rfl
        have y2 := HT6.at_ 2 rfl
        have y3 := HT6.at_ 3 rfl
        have y4 := HT6.at_ 4 rfl
        have f0 := HT6.frozen 0
        have f1 := HT6.frozen 1
        have f2 := HT6.frozen 2
        have f3 := HT6.frozen 3
        have f4 := HT6.frozen 4
        obtain ⟨wf, hwf⟩ : ∃ wf, wf = (((((w6.setCell ⟨w.heap.size, 0, none⟩ (.int .i64 kc.kind)).setCell ⟨w.heap.size, 1, none⟩ (.slice A1' kc.vars.length c1')).setCell ⟨w.heap.size, 2, none⟩ (.slice A2' kc.args.length c2')).setCell ⟨w.heap.size, 3, none⟩ (.int .i64 kc.bound)).setCell ⟨w.heap.size, 4, none⟩ (.slice A3' kc.rows.length c3')) := ⟨_, rfl⟩
        have hF := Lib.hid (And.intro (OwnI.laid5 HO6 HT6 rfl hwf) (OwnCon.laid (OwnCon.base_ (show OwnCon w6 _ _ kc from ⟨_, _, _, rfl, k1, k2, k3⟩) (show w.heap.size ≤ _ by omega)) HT6 rfl hr6 hG.out (Nat.le_refl _) HB6 hwf))
        have HMID := Lib.hid (show ∃ mid, w.heap.size ≤ mid ∧ OwnCon wf mid (.agg #[.int .i64 kc.kind, .slice A1' kc.vars.length c1', .slice A2' kc.args.length c2', .int .i64 kc.bound, .slice A3' kc.rows.length c3']) kc ∧ ∀ g, (Value.slice (some ⟨gd, 0, none⟩) (k0 + 1) d).ownBlock = some g → g < mid from ⟨w5.heap.size, by omega, (OwnCon.laid0 (show OwnCon w6 w5.heap.size _ kc from ⟨_, _, _, rfl, k1, k2, k3⟩) HT6 rfl hwf).2, fun g hg => (own_lt HO5.out.1 hg).2⟩)
        have HWF := Lib.hid hwf
        clear hwf
        have HN := Lib.hid (And.intro hsm (hdm.out.set hx 0))
        clear k1 k2 k3 HT6 HB6 HO6 hr6 hb6 hsm
        go_wp2_with fail
        rw [← HWF.out]
        obtain ⟨hod, ⟨t0, t1, t2, t3, t4⟩, ho, hrd, hbf⟩ := hF.out
        refine bodyPost_ret (v := .tuple #[.agg #[.int .i64 kc.kind, .slice A1' kc.vars.length c1', .slice A2' kc.args.length c2', .int .i64 kc.bound, .slice A3' kc.rows.length c3'], .slice (some ⟨gd, 0, none⟩) (k0 + 1) d]) ?_ rfl ?_
        · simp [results, Try.results58, go_sem, t0, t1, t2, t3, t4]
        · exact ⟨_, _, _, _, _, rfl, HMID.out, HN.out.1, (OwnI.stays 3).base _ _ _ _ _ (show w.heap.size ≤ w1.heap.size by omega) hod, by have := (show (xs.set 0 x).length = k0 + 1 by rw [List.length_set, hl.out]); omega, by have := (show (xs.set 0 x).length = k0 + 1 by rw [List.length_set, hl.out]); omega, HN.out.2, by omega, hrd, hbf⟩
      have n0 : (r2 == 0) = false := by simpa using h0
      have HO5 := Lib.hid (show OwnI 3 w2 w1.heap.size (.slice B (k0 + 1) d) xs from ⟨by rw [hl.out]; exact hq2, by rw [hl.out]; omega⟩)
      have HT5 := Lib.hid ht3
      have HB5 := Lib.hid hb3
      have HR5 := Lib.hid hr2
      clear hq2 ht3 hb3 hr2
      go_wp2_with fail
      refine (anyConstraint base g n c (q + 1) A bs (k0 + 1) w2 HR5.out (by omega) (by omega) (by omega)).mono ?_
      rintro e w6 ⟨vk, kc, q6, rfl, hoc, hsm, hq6, hr6, hb6⟩
      have hz6 := hb6.size
      have HT6 := HT5.out.butG hb6 (by omega)
      have HB6 := HB5.out.go hb6
      have HO6 := (HO5.out).butG hb6 (by omega)
      obtain ⟨vv', av', rv', rfl, k1, k2, k3⟩ := hoc
      obtain ⟨A1', c1', rfl, -⟩ := k1.read
      obtain ⟨A2', c2', rfl, -⟩ := k2.read
      obtain ⟨A3', c3', rfl, -⟩ := read2 k3
      have y0 := HT6.at_ 0 rfl
      have y1 := HT6.at_ 1 rfl
      have y2 := HT6.at_ 2 rfl
      have y3 := HT6.at_ 3 rfl
      have y4 := HT6.at_ 4 rfl
      have f0 := HT6.frozen 0
      have f1 := HT6.frozen 1
      have f2 := HT6.frozen 2
      have f3 := HT6.frozen 3
      have f4 := HT6.frozen 4
      obtain ⟨wf, hwf⟩ : ∃ wf, wf = (((((w6.setCell ⟨w.heap.size, 0, none⟩ (.int .i64 kc.kind)).setCell ⟨w.heap.size, 1, none⟩ (.slice A1' kc.vars.length c1')).setCell ⟨w.heap.size, 2, none⟩ (.slice A2' kc.args.length c2')).setCell ⟨w.heap.size, 3, none⟩ (.int .i64 kc.bound)).setCell ⟨w.heap.size, 4, none⟩ (.slice A3' kc.rows.length c3')) := ⟨_, rfl⟩
      have hF := Lib.hid (And.intro (OwnI.laid5 HO6 HT6 rfl hwf) (OwnCon.laid (OwnCon.base_ (show OwnCon w6 _ _ kc from ⟨_, _, _, rfl, k1, k2, k3⟩) (show w.heap.size ≤ _ by omega)) HT6 rfl hr6 hG.out (Nat.le_refl _) HB6 hwf))
      have HMID := Lib.hid (show ∃ mid, w.heap.size ≤ mid ∧ OwnCon wf mid (.agg #[.int .i64 kc.kind, .slice A1' kc.vars.length c1', .slice A2' kc.args.length c2', .int .i64 kc.bound, .slice A3' kc.rows.length c3']) kc ∧ ∀ g, (Value.slice B (k0 + 1) d).ownBlock = some g → g < mid from ⟨w2.heap.size, by omega, (OwnCon.laid0 (show OwnCon w6 w2.heap.size _ kc from ⟨_, _, _, rfl, k1, k2, k3⟩) HT6 rfl hwf).2, fun g hg => (own_lt HO5.out.1 hg).2⟩)
      have HWF := Lib.hid hwf
      clear hwf
      have HN := Lib.hid (And.intro hsm (hdm.out))
      clear k1 k2 k3 HT6 HB6 HO6 hr6 hb6 hsm
      go_wp2_with fail
      rw [← HWF.out]
      obtain ⟨hod, ⟨t0, t1, t2, t3, t4⟩, ho, hrd, hbf⟩ := hF.out
      refine bodyPost_ret (v := .tuple #[.agg #[.int .i64 kc.kind, .slice A1' kc.vars.length c1', .slice A2' kc.args.length c2', .int .i64 kc.bound, .slice A3' kc.rows.length c3'], .slice B (k0 + 1) d]) ?_ rfl ?_
      · simp [results, Try.results58, go_sem, t0, t1, t2, t3, t4]
      · exact ⟨_, _, _, _, _, rfl, HMID.out, HN.out.1, (OwnI.stays 3).base _ _ _ _ _ (show w.heap.size ≤ w1.heap.size by omega) hod, by have := hl.out; omega, by have := hl.out; omega, HN.out.2, by omega, hrd, hbf⟩
end Go.Proofs.Ytfmdgdamelkelaa
