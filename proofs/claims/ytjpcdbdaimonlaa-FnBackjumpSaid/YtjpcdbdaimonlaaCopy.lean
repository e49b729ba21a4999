/- Copies that share no memory: what they hold, where, and that no two parts share a block. -/
import Derived.Test.YtjpcdbdaimonlaaGrow
import Derived.Test.YtjpcdbdaimonlaaHold
import Derived.Test.YtjpcdbdaimonlaaExt
import Derived.Test.YtjpcdbdaimonlaaCur
import Derived.Test.YtjpcdbdaimonlaaMarkS
namespace Go.Proofs.Ytjpcdbdaimonlaa
open Go.ChangeShapes Go.WideShapes Go.ChangeAt Go.RowKit
open Go.Shelf
set_option linter.unusedVariables false
set_option maxRecDepth 100000

/-- What an append takes: a slice whose cells are known, or a nil one of whatever capacity. -/
def Src0 (w : World) (size : Nat) (A : Option Addr) (m c : Nat) (news : List Value) : Prop :=
  (A = none ∧ m = 0 ∧ news = []) ∨ ∃ ad, A = some ad ∧ news.length = m * size ∧ ∀ j u, news[j]? = some u → w.cell? (ad.add j) = some u
theorem Src.to0 {w : World} {size m c : Nat} {A : Option Addr} {news : List Value} (h : Src w size A m c news) : Src0 w size A m c news := h.imp (fun h => ⟨h.1, h.2.1, h.2.2.2⟩) id
theorem run_append_none (P : Program) (w : World) (base : Nat) (t ty e : TypeId) (i : TypeInfo) (size c : Nat) (ht : P.underlying t = some (.slice e)) (hi : P.info? e = some i)
    (v : Value) (n : Nat) (xs : List Value) (hown : w.ownsRow base e size v n xs) :
    (Builtin.append_ #[t, t] ty #[v, .slice none 0 c]).run P w = .ok v w := by
  rcases hown.2 with ⟨rfl, rfl⟩ | ⟨g, cap, cur, rfl, _, _, hnc, _⟩
  · simp [Builtin.append_, run_underlying ht, sizeOf, typeInfo, hi, Builtin.lenOf, Builtin.firstCells]
  · simp [Builtin.append_, run_underlying ht, sizeOf, typeInfo, hi, Builtin.lenOf, Builtin.firstCells, hnc, storeCells]
theorem wpList_append_any0 {P : Program} {w : World} {o : Oper} {a : Act} {Q : Exit → Act → World → Prop} {ops : Array Oper} {rest : List Oper} (hgd : o.guard = none) (s x : Operand) (t : TypeId)
    (ho : o.op = .call { callee := .builtin .append, args := #[s, x], argTypes := #[t, t] })
    (base : Nat) (e : TypeId) (i : TypeInfo) (z : Value) (size bytes : Nat) (ht : P.underlying t = some (.slice e)) (hi : P.info? e = some i) (hz : i.zero = some z)
    (hsize : i.size = size) (hby : i.bytes = bytes) (hzs : z.cells.size = size) (hsz : 0 < size)
    (v : Value) (n : Nat) (xs : List Value) (hs : a.eval s = v) (hown : w.ownsRow base e size v n xs)
    (A : Option Addr) (m c : Nat) (news : List Value) (hx : a.eval x = .slice A m c) (hnews : Src0 w size A m c news) (h1 : ∀ u ∈ news, u.oneCell' = true)
    (h63 : n + m ≤ maxLen) (hbytes : (n + m) * bytes ≤ 140737488355328) (hbase : base ≤ w.heap.size)
    (h : ∀ v' w', w'.ownsRow base e size v' (n + m) (xs ++ news) → Below base w w' → w.grownBy w' v.ownBlock → (v ≠ .slice none 0 0 → v' ≠ .slice none 0 0) → wpList P ops Q rest (a.put o.dst v') w') :
    wpList P ops Q (o :: rest) a w := by
  rcases hnews with ⟨rfl, rfl, rfl⟩ | ⟨ad, e1, h2, h3⟩
  · refine wpList_plain hgd fun K hK => ?_
    have hrun := run_append_none P w base t o.type e i size c ht hi v n xs hown
    unfold Oper.wp
    simp [execOp, ho, resolve, invoke, builtin, hs, hx, hrun, Result.andThen]
    exact hK _ _ (h v w (by simpa using hown) (Below.refl _ _) (grown_refl _ _) (fun h => h))
  · exact wpList_append_any hgd s x t ho base e i z size bytes ht hi hz hsize hby hzs hsz v n xs hs hown A m c news hx (.inr ⟨ad, e1, h2, h3⟩) h1 h63 hbytes hbase h
theorem IntR.src0 {w : World} {B n c : Nat} {A : Option Addr} {xs : List Int} (h : IntR w B A n xs) : Src0 w 1 A n c (xs.map (.int .i64)) := by
  rcases Nat.eq_zero_or_pos n with h0 | h0
  · subst h0
    have : xs = [] := List.eq_nil_of_length_eq_zero h.len
    subst this
    cases A with
    | none => exact .inl ⟨rfl, rfl, rfl⟩
    | some ad => exact .inr ⟨ad, rfl, rfl, fun j u hj => by simp at hj⟩
  · exact (h.src (c := c) h0).to0
/-- The slice's block, with its length. -/
def sgOf (v : Value) (n : Nat) : List (Nat × Nat) := match v.ownBlock with | some b => [(b, n)] | none => []
/-- all sites of the segments. -/
def sgs (L : List (Nat × Nat)) : List (Nat × Nat) := L.flatMap fun p => seg p.1 p.2
/-- the segments' blocks lie from lo to below hi, no two of them are one. -/
def Fr (lo hi : Nat) (L : List (Nat × Nat)) : Prop := (L.map Prod.fst).Nodup ∧ ∀ p ∈ L, lo ≤ p.1 ∧ p.1 < hi
theorem Fr.nil (lo hi : Nat) : Fr lo hi [] := ⟨by simp, fun p h => by simp at h⟩
theorem Fr.append {lo m m' hi : Nat} {L M : List (Nat × Nat)} (h : Fr lo m L) (k : Fr m' hi M) (h1 : m ≤ m') (h2 : lo ≤ m') (h3 : m ≤ hi) : Fr lo hi (L ++ M) := by
  refine ⟨?_, fun p hp => ?_⟩
  · rw [List.map_append, List.nodup_append]
    refine ⟨h.1, k.1, fun a ha b hb e => ?_⟩
    obtain ⟨p, hp, rfl⟩ := List.mem_map.1 ha
    obtain ⟨q, hq, e2⟩ := List.mem_map.1 hb
    have := (h.2 p hp).2
    have := (k.2 q hq).1
    omega
  · rcases List.mem_append.1 hp with h' | h'
    · have := h.2 p h'; omega
    · have := k.2 p h'; omega
theorem Fr.swap {lo hi : Nat} {L M : List (Nat × Nat)} (h : Fr lo hi (L ++ M)) : Fr lo hi (M ++ L) := by
  refine ⟨?_, fun p hp => h.2 p (by rw [List.mem_append] at hp ⊢; exact hp.symm)⟩
  have := h.1
  rw [List.map_append] at this ⊢
  rw [List.nodup_append] at this ⊢
  exact ⟨this.2.1, this.1, fun a ha b hb e => this.2.2 b hb a ha e.symm⟩
theorem Fr.wide {lo hi lo' hi' : Nat} {L : List (Nat × Nat)} (h : Fr lo hi L) (h1 : lo' ≤ lo) (h2 : hi ≤ hi') : Fr lo' hi' L := ⟨h.1, fun p hp => by have := h.2 p hp; omega⟩
/-- A list of numbers of its own, with its segments. -/
def HIn (w : World) (base : Nat) (v : Value) (p : List Int × List (Nat × Nat)) : Prop := HoldR w base 3 1 v p.1.length (p.1.map (.int .i64)) ∧ p.1.length ≤ 1048576 ∧ p.2 = sgOf v p.1.length
section
variable {w w' : World} {base : Nat} {v : Value} {p : List Int × List (Nat × Nat)}
theorem HIn.below (h : HIn w base v p) (hb : Below w.heap.size w w') : HIn w' base v p := ⟨h.1.below hb, h.2⟩
theorem HIn.base_ {base' : Nat} (h : HIn w base v p) (hb : base' ≤ base) : HIn w base' v p := ⟨h.1.base_ hb, h.2⟩
theorem HIn.stays : Stays HIn := ⟨fun _ _ _ _ _ hb h => h.below hb, fun _ _ _ _ _ hb h => h.base_ hb⟩
theorem HIn.fr (h : HIn w base v p) : Fr base w.heap.size p.2 := by
  rw [h.2.2]
  unfold sgOf
  rcases h.1.2 with ⟨e, -⟩ | ⟨g, cap, cur, e, hg, hh, -⟩
  · rw [e]; exact Fr.nil _ _
  · rw [e]
    refine ⟨by simp [Value.ownBlock], fun q hq => ?_⟩
    simp [Value.ownBlock] at hq
    subst hq
    exact ⟨hg, lt_heap hh⟩
theorem HoldR.blockEq {w : World} {base n size : Nat} {e : TypeId} {v : Value} {xs : List Value} (h : HoldR w base e size v n xs) (hk : ∀ (g : Nat) cur, w.heap[g]? = some (.cells cur e (0, 0)) → v.ownBlock = some g → w'.heap[g]? = w.heap[g]?) : HoldR w' base e size v n xs :=
  ⟨h.1, h.2.imp id fun ⟨g, cap, cur, h1, h2, h3, r⟩ => ⟨g, cap, cur, h1, h2, (hk g cur h3 (by rw [h1]; rfl)).trans h3, r⟩⟩
theorem HIn.shuns {t : TypeId} (ht : t ≠ 3) : Shuns t HIn := by
  intro w base v p g j cs fr u hg h
  refine ⟨h.1.blockEq fun g' cur hh _ => Below.heap_setCell w ⟨g, j, none⟩ u g' ?_, h.2⟩
  rintro rfl
  rw [hg] at hh
  injection hh with hh
  injection hh with _ e2 _
  exact ht e2
theorem HIn.grown {e : TypeId} (he : 3 ≠ e) {base0 n size : Nat} {v0 : Value} {ys : List Value} (ho : w.ownsRow base0 e size v0 n ys) (hg : w.grownBy w' v0.ownBlock) (h : HIn w base v p) : HIn w' base v p := by
  refine ⟨h.1.blockEq fun g cur hh _ => hg.block g (lt_heap hh) (fun e1 => ?_), h.2⟩
  rcases ho.2 with ⟨e2, -⟩ | ⟨g2, cap, cur2, e2, -, hh2, -⟩
  · rw [e2] at e1; cases e1
  · rw [e2] at e1
    injection e1 with e1
    have e1' : g2 = g := e1.symm
    subst e1'
    rw [hh] at hh2
    injection hh2 with hh2
    injection hh2 with _ e3 _
    exact he e3
theorem HIn.read (h : HIn w base v p) : ∃ A c, v = .slice A p.1.length c ∧ IntR w w.heap.size A p.1.length p.1 ∧ p.1.length ≤ c := by
  obtain ⟨A, c, e, r⟩ := IntR.of_hold h.1 (by have := h.2.1; omega)
  exact ⟨A, c, e, r, by have := h.1; rw [e] at this; exact this.capLe⟩
theorem sgs_one {A : Option Addr} {n c : Nat} (g : Nat) (h : A = some ⟨g, 0, none⟩) : sgs (sgOf (.slice A n c) n) = seg g n := by subst h; simp [sgOf, Value.ownBlock, sgs]
theorem HIn.site {A : Option Addr} {n c : Nat} (h : HIn w base (.slice A n c) p) : SI base w A n (sgs p.2) := by
  rw [h.2.2]
  rcases h.1.2 with ⟨e, hn⟩ | ⟨g, cap, cur, e, hg, hh, hcap, -, ht⟩
  · injection e with e1 e2 e3
    subst e1 e2
    exact .inl ⟨rfl, by simp [sgOf, Value.ownBlock, sgs]⟩
  · injection e with e1 e2 e3
    rw [← e2, sgs_one g e1]
    refine .inr ⟨g, cur, _, e1, hg, hh, fun j hj => ?_, rfl⟩
    rw [e2, Nat.mul_one] at *
    have hx : p.1[j]? = some p.1[j] := List.getElem?_eq_getElem hj
    refine ⟨p.1[j], ?_⟩
    have := take_at ht hj
    rw [this, List.getElem?_map, hx]; rfl
end
/-- one more. -/
theorem OwnOf.snoc {α : Type} {e : TypeId} {In : World → Nat → Value → α → Prop} {w w2 : World} {base : Nat} {v1 : Value} {us : List Value} {u : Value} {xs : List α} {x : α} (hk : ∀ u x, In w base u x → In w2 base u x)
    (h1 : us.length = xs.length) (h4 : ∀ (i : Nat) u x, us[i]? = some u → xs[i]? = some x → In w base u x)
    (hx : In w base u x) (hl : xs.length + 1 ≤ 9223372036854775807) (hown : w2.ownsRow base e 1 v1 (xs.length + 1) (us ++ [u])) : OwnOf e In w2 base v1 (xs ++ [x]) := by
  refine ⟨us ++ [u], by simp [h1], by simpa using hown, by simpa using hl, fun i u' x' hu hx' => ?_⟩
  rcases Nat.lt_or_ge i us.length with hi | hi
  · rw [List.getElem?_append_left hi] at hu
    rw [List.getElem?_append_left (by omega)] at hx'
    exact hk _ _ (h4 i u' x' hu hx')
  · have hi2 : i = us.length := by
      rcases Nat.lt_or_ge i (us.length + 1) with h | h
      · omega
      · rw [List.getElem?_eq_none (by simp; omega)] at hu; cases hu
    subst hi2
    rw [List.getElem?_append_right (Nat.le_refl _), Nat.sub_self] at hu
    rw [h1, List.getElem?_append_right (Nat.le_refl _), Nat.sub_self] at hx'
    simp at hu hx'
    subst hu hx'
    exact hk _ _ hx
/-- A constraint with the segments of its copy. -/
structure CC where
  con : Con
  v : List (Nat × Nat)
  q : List (Nat × Nat)
  rs : List (List (Nat × Nat))
def CC.flat (x : CC) : List (Nat × Nat) := x.v ++ (x.q ++ x.rs.flatten)
def CC.site (x : CC) : List (Nat × Nat) × List (Nat × Nat) × List (List (Nat × Nat)) := (sgs x.v, sgs x.q, x.rs.map sgs)
abbrev HRs (w : World) (base : Nat) (v : Value) (rows : List (List Int × List (Nat × Nat))) : Prop := OwnOf 23 HIn w base v rows
def CCon (w : World) (base : Nat) (us : List Value) (x : CC) : Prop := ∃ vv av rv rows, us = [.int .i64 x.con.kind, vv, av, .int .i64 x.con.bound, rv] ∧ HIn w base vv (x.con.vars, x.v) ∧ HIn w base av (x.con.args, x.q) ∧ HRs w base rv rows ∧ rows.map Prod.fst = x.con.rows ∧ rows.map Prod.snd = x.rs ∧ rows.length ≤ 1048576
theorem HRs.stays : Stays HRs := OwnOf.stays HIn.stays
theorem HRs.shuns {t : TypeId} (h : t ≠ 3) (h2 : t ≠ 23) : Shuns t HRs := OwnOf.shuns h2 (HIn.shuns h)
theorem HRs.grown {w w' : World} {base base0 n size : Nat} {e : TypeId} {v0 v : Value} {ys : List Value} {rows : List (List Int × List (Nat × Nat))} (he : 3 ≠ e) (he2 : 23 ≠ e) (ho : w.ownsRow base0 e size v0 n ys) (hg : w.grownBy w' v0.ownBlock) (h : HRs w base v rows) : HRs w' base v rows := by
  obtain ⟨us, h1, h2, h3, h4⟩ := h
  exact ⟨us, h1, own_grown h2 hg (own_ne he2 h2 ho), h3, fun i u x hu hx => (h4 i u x hu hx).grown he ho hg⟩
theorem CCon.stays : StaysK CCon :=
  ⟨fun _ _ _ _ _ hb ⟨vv, av, rv, rows, e, h1, h2, h3, r⟩ => ⟨vv, av, rv, rows, e, h1.below hb, h2.below hb, HRs.stays.below _ _ _ _ _ hb h3, r⟩,
   fun _ _ _ _ _ hb ⟨vv, av, rv, rows, e, h1, h2, h3, r⟩ => ⟨vv, av, rv, rows, e, h1.base_ hb, h2.base_ hb, HRs.stays.base _ _ _ _ _ hb h3, r⟩⟩
theorem CCon.grows {e : TypeId} (he : 3 ≠ e) (he2 : 23 ≠ e) : Grows e CCon := fun w w' base base0 n size v ys us x ho hg ⟨vv, av, rv, rows, e1, h1, h2, h3, r⟩ =>
  ⟨vv, av, rv, rows, e1, h1.grown he ho hg, h2.grown he ho hg, h3.grown he he2 ho hg, r⟩
theorem CCon.shuns {t : TypeId} (h : t ≠ 3) (h2 : t ≠ 23) : ShunsK t CCon := fun w base us x g j cs fr u hg ⟨vv, av, rv, rows, e1, k1, k2, k3, r⟩ =>
  ⟨vv, av, rv, rows, e1, HIn.shuns h _ _ _ _ _ j _ _ u hg k1, HIn.shuns h _ _ _ _ _ j _ _ u hg k2, HRs.shuns h h2 _ _ _ _ _ j _ _ u hg k3, r⟩
abbrev CCons (w : World) (base : Nat) (v : Value) (xs : List CC) : Prop := OwnK 53 5 CCon w base v xs
/-- A copied model. -/
def CMod (w : World) (base : Nat) (us : List Value) (m : Mod) (D : List (Nat × Nat)) (xs : List CC) : Prop := ∃ dv cv, us = [dv, cv] ∧ HIn w base dv (m.doms, D) ∧ CCons w base cv xs ∧ xs.map CC.con = m.cons ∧ xs.length ≤ 1048576
def flatM (D : List (Nat × Nat)) (xs : List CC) : List (Nat × Nat) := D ++ xs.flatMap CC.flat
section
variable {w w' : World} {base : Nat} {us : List Value} {m : Mod} {D : List (Nat × Nat)} {xs : List CC}
theorem CMod.below (h : CMod w base us m D xs) (hb : Below w.heap.size w w') : CMod w' base us m D xs := by
  obtain ⟨dv, cv, e, h1, h2, r⟩ := h
  exact ⟨dv, cv, e, h1.below hb, (OwnK.stays CCon.stays).below _ _ _ _ _ hb h2, r⟩
theorem CMod.base_ {base' : Nat} (h : CMod w base us m D xs) (hb : base' ≤ base) : CMod w base' us m D xs := by
  obtain ⟨dv, cv, e, h1, h2, r⟩ := h
  exact ⟨dv, cv, e, h1.base_ hb, (OwnK.stays CCon.stays).base _ _ _ _ _ hb h2, r⟩
theorem SlR.mapped {α β : Type} {R : World → Nat → Value → β → Prop} {f : α → β} {B n : Nat} {A : Option Addr} {xs : List α} (h : SlR (fun w B u x => R w B u (f x)) w B A n xs) : SlR R w B A n (xs.map f) := by
  obtain ⟨h1, h2, h3⟩ := h
  refine ⟨by rw [List.length_map]; exact h1, h2, fun hn => ?_⟩
  obtain ⟨b, o, e, hb, hc⟩ := h3 hn
  refine ⟨b, o, e, hb, fun i x hx => ?_⟩
  rw [List.getElem?_map] at hx
  obtain ⟨y, hy, rfl⟩ := Option.map_eq_some_iff.1 hx
  exact hc i y hy
theorem SlK.mapped {α β : Type} {R : World → Nat → List Value → β → Prop} {f : α → β} {k B n : Nat} {A : Option Addr} {xs : List α} (h : SlK (fun w B u x => R w B u (f x)) k w B A n xs) : SlK R k w B A n (xs.map f) := by
  obtain ⟨h1, h2, h3⟩ := h
  refine ⟨by rw [List.length_map]; exact h1, h2, fun hn => ?_⟩
  obtain ⟨b, o, e, hb, hc⟩ := h3 hn
  refine ⟨b, o, e, hb, fun i x hx => ?_⟩
  rw [List.getElem?_map] at hx
  obtain ⟨y, hy, rfl⟩ := Option.map_eq_some_iff.1 hx
  exact hc i y hy
theorem HRs.read {v : Value} {rows : List (List Int × List (Nat × Nat))} (h : HRs w base v rows) : ∃ A c, v = .slice A rows.length c ∧ SlR (RowC IntC) w w.heap.size A rows.length (rows.map Prod.fst) := by
  obtain ⟨A, c, e, h1⟩ := OwnOf.read (R := fun w B u (p : List Int × List (Nat × Nat)) => RowC IntC w B u p.1) (fun w base v p hp => by
    obtain ⟨A, c, e, r, hc⟩ := HIn.read hp
    exact ⟨A, c, e, r⟩) h
  exact ⟨A, c, e, h1.mapped⟩
theorem CCon.read {x : CC} (h : CCon w base us x) : ConR w w.heap.size us x.con := by
  obtain ⟨vv, av, rv, rows, e, h1, h2, h3, h4, -⟩ := h
  obtain ⟨A1, c1, rfl, r1, k1⟩ := h1.read
  obtain ⟨A2, c2, rfl, r2, k2⟩ := h2.read
  obtain ⟨A3, c3, rfl, r3⟩ := HRs.read h3
  have hl : rows.length = x.con.rows.length := by rw [← h4, List.length_map]
  rw [h4, hl] at r3
  exact ⟨A1, A2, A3, c1, c2, c3, by rw [e, hl], r1, r2, r3, k1, k2⟩
theorem CMod.read (h : CMod w base us m D xs) : ModR w w.heap.size us m := by
  obtain ⟨dv, cv, e, h1, h2, h3, -⟩ := h
  obtain ⟨A1, c1, rfl, r1, k1⟩ := h1.read
  obtain ⟨A2, c2, rfl, r2, k2⟩ := OwnK.read (R := fun w B u (x : CC) => ConR w B u x.con) (fun _ _ _ _ h => CCon.read h) h2
  have hl : xs.length = m.cons.length := by rw [← h3, List.length_map]
  have r3 : ConsR w w.heap.size A2 xs.length (xs.map CC.con) := r2.mapped
  rw [h3, hl] at r3
  exact ⟨A1, A2, c1, c2, by rw [e, hl], r1, r3, k1, by omega⟩
end
/-- All blocks from base on are as they were. -/
def Apart (base : Nat) (w w' : World) : Prop := w.heap.size ≤ w'.heap.size ∧ ∀ g, base ≤ g → g < w.heap.size → w'.heap[g]? = w.heap[g]?
section
variable {w w' w'' : World} {base : Nat}
theorem Apart.refl (base : Nat) (w : World) : Apart base w w := ⟨Nat.le_refl _, fun _ _ _ => rfl⟩
theorem Apart.alloc (h : Apart base w w') (o : Obj) : Apart base w (w'.alloc o) := ⟨by rw [size_alloc_]; have := h.1; omega, fun g h1 h2 => (Below.heap_alloc w' o g (by have := h.1; omega)).trans (h.2 g h1 h2)⟩
theorem Apart.set (h : Apart base w w') {g : Nat} (hg : g < base) (j : Nat) (u : Value) : Apart base w (w'.setCell ⟨g, j, none⟩ u) := ⟨by have := h.1; simpa [World.setCell] using this, fun b h1 h2 => (Below.heap_setCell w' ⟨g, j, none⟩ u b (by simp; omega)).trans (h.2 b h1 h2)⟩
theorem own_apart {n size : Nat} {e : TypeId} {v : Value} {xs : List Value} (h : w.ownsRow base e size v n xs) (ha : Apart base w w') : w'.ownsRow base e size v n xs :=
  ⟨h.1, h.2.imp id fun ⟨g, cap, cur, h1, h2, h3, r⟩ => ⟨g, cap, cur, h1, h2, (ha.2 g h2 (lt_heap h3)).trans h3, r⟩⟩
theorem HIn.apart {v : Value} {p : List Int × List (Nat × Nat)} (h : HIn w base v p) (ha : Apart base w w') : HIn w' base v p := by
  refine ⟨h.1.blockEq fun g cur hh hv => ha.2 g ?_ (lt_heap hh), h.2⟩
  rcases h.1.2 with ⟨e, -⟩ | ⟨g2, cap, cur2, e, hg, -⟩
  · rw [e] at hv; cases hv
  · rw [e] at hv; injection hv with hv
    have : g2 = g := hv
    omega
theorem HRs.apart {v : Value} {rows : List (List Int × List (Nat × Nat))} (h : HRs w base v rows) (ha : Apart base w w') : HRs w' base v rows := by
  obtain ⟨us, h1, h2, h3, h4⟩ := h
  exact ⟨us, h1, own_apart h2 ha, h3, fun i u x hu hx => (h4 i u x hu hx).apart ha⟩
theorem CCon.apart {us : List Value} {x : CC} (h : CCon w base us x) (ha : Apart base w w') : CCon w' base us x := by
  obtain ⟨vv, av, rv, rows, e, h1, h2, h3, r⟩ := h
  exact ⟨vv, av, rv, rows, e, h1.apart ha, h2.apart ha, h3.apart ha, r⟩
theorem CCons.apart {v : Value} {xs : List CC} (h : CCons w base v xs) (ha : Apart base w w') : CCons w' base v xs := by
  obtain ⟨us, h1, h0, h2, h3, h4⟩ := h
  exact ⟨us, h1, h0, own_apart h2 ha, h3, fun i u x hu hx => (h4 i u x hu hx).apart ha⟩
theorem CMod.apart {us : List Value} {m : Mod} {D : List (Nat × Nat)} {xs : List CC} (h : CMod w base us m D xs) (ha : Apart base w w') : CMod w' base us m D xs := by
  obtain ⟨dv, cv, e, h1, h2, r⟩ := h
  exact ⟨dv, cv, e, h1.apart ha, h2.apart ha, r⟩
end
end Go.Proofs.Ytjpcdbdaimonlaa
