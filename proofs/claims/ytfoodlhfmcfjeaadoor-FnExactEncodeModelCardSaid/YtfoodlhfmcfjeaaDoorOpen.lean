/- The law's arguments: what the form's reading of an argument gives as facts on memory. No program in sight. -/
import Derived.Test.YtfoodlhfmcfjeaaDoorMem
import Derived.Deep.Slices
import Derived.Deep.Fields
import Derived.ChangeSame
import Derived.Carry
namespace Go.Proofs.YtfoodlhfmcfjeaaDoor
open Go.RowKit Go.ChangeShapes Go.WideShapes Go.Deep
set_option linter.unusedVariables false
set_option maxRecDepth 100000

/-- The slice at A holds n elements of k cells each (an argument of the law: any address). -/
def SlKA {α : Type} (R : World → Nat → List Value → α → Prop) (k : Nat) (w : World) (B : Nat) (A : Option Addr) (n : Nat) (xs : List α) : Prop :=
  xs.length = n ∧ n ≤ 9223372036854775807 ∧ (0 < n → ∃ ad, A = some ad ∧ ad.block < B ∧ ∀ i x, xs[i]? = some x → ∃ us, us.length = k ∧ (∀ j u, us[j]? = some u → w.cell? ((ad.add (i * k)).add j) = some u) ∧ R w B us x)
section
variable {α : Type} {R : World → Nat → List Value → α → Prop} {k : Nat} {w w' : World} {B B' n : Nat} {A : Option Addr} {xs : List α}
theorem SlKA.len (h : SlKA R k w B A n xs) : xs.length = n := h.1
theorem SlKA.le (h : SlKA R k w B A n xs) : n ≤ 9223372036854775807 := h.2.1
theorem SlKA.at_ {i : Nat} (h : SlKA R k w B A n xs) (hi : i < n) : ∃ ad x us, A = some ad ∧ ad.block < B ∧ xs[i]? = some x ∧ us.length = k ∧ (∀ j u, us[j]? = some u → w.cell? ((ad.add (i * k)).add j) = some u) ∧ R w B us x := by
  obtain ⟨hl, _, h2⟩ := h
  obtain ⟨ad, e, hb, hc⟩ := h2 (by omega)
  have hk' : i < xs.length := by omega
  obtain ⟨us, hu, hr⟩ := hc i _ (List.getElem?_eq_getElem hk')
  exact ⟨ad, _, us, e, hb, List.getElem?_eq_getElem hk', hu, hr⟩
theorem SlKA.keep (hR : KeepsK R) (h : SlKA R k w B A n xs) (hk : ∀ p : Addr, p.block < B → w'.cell? p = w.cell? p) : SlKA R k w' B A n xs :=
  ⟨h.1, h.2.1, fun hn => by
    obtain ⟨ad, e, hb, hc⟩ := h.2.2 hn
    refine ⟨ad, e, hb, fun i x hx => ?_⟩
    obtain ⟨us, hl, hu, hr⟩ := hc i x hx
    exact ⟨us, hl, fun j u hj => (hk _ (by rw [block_of_add, block_of_add]; exact hb)).trans (hu j u hj), hR _ _ _ _ _ hk hr⟩⟩
theorem SlKA.below (hR : KeepsK R) (h : SlKA R k w B A n xs) (hb : Below B w w') : SlKA R k w' B A n xs := h.keep hR fun _ hp => hb.cell hp
theorem SlKA.more (hR : WidensK R) (h : SlKA R k w B A n xs) (hB : B ≤ B') : SlKA R k w B' A n xs :=
  ⟨h.1, h.2.1, fun hn => by
    obtain ⟨ad, e, hb, hc⟩ := h.2.2 hn
    refine ⟨ad, e, by omega, fun i x hx => ?_⟩
    obtain ⟨us, hl, hu, hr⟩ := hc i x hx
    exact ⟨us, hl, hu, hR _ _ _ _ _ hB hr⟩⟩
theorem SlKA.on (hR : KeepsK R) (hW : WidensK R) (h : SlKA R k w w.heap.size A n xs) (hb : Below w.heap.size w w') : SlKA R k w' w'.heap.size A n xs :=
  (h.below hR hb).more hW hb.size
/-- elements of one cell. -/
theorem SlKA.one (h : SlKA R 1 w B A n xs) : SlA (fun w B u x => R w B [u] x) w B A n xs :=
  ⟨h.1, h.2.1, fun hn => by
    obtain ⟨ad, e, hb, hc⟩ := h.2.2 hn
    refine ⟨ad, e, hb, fun i x hx => ?_⟩
    obtain ⟨us, hl, hu, hr⟩ := hc i x hx
    match us, hl with
    | [u], _ =>
      have := hu 0 u rfl
      rw [add_of_add, Nat.mul_one, Nat.add_zero] at this
      exact ⟨u, this, hr⟩⟩
end
theorem SlA.map {α : Type} {R R' : World → Nat → Value → α → Prop} {w : World} {B n : Nat} {A : Option Addr} {xs : List α} (hR : ∀ u x, R w B u x → R' w B u x) (h : SlA R w B A n xs) : SlA R' w B A n xs :=
  ⟨h.1, h.2.1, fun hn => by
    obtain ⟨ad, e, hb, hc⟩ := h.2.2 hn
    refine ⟨ad, e, hb, fun k x hx => ?_⟩
    obtain ⟨u, hu, hr⟩ := hc k x hx
    exact ⟨u, hu, hR _ _ hr⟩⟩

/-- What the form's reading of cells of type t gives. -/
def Gives (P : Program) (t : TypeId) {α : Type} (R : World → Nat → List Value → α → Prop) : Prop :=
  ∀ (H : Type) (enc : TypeId × Value → H) (w : World) (base fuel : Nat) (cs : List Value) (x : DataW H × List MemPlace), DataW.trod enc P w base (fun _ => true) true fuel t cs = some x → ∃ y, R w w.heap.size cs y

theorem cell_lt {w : World} {p : Addr} {v : Value} (h : w.cell? p = some v) : p.block < w.heap.size := by
  rcases Nat.lt_or_ge p.block w.heap.size with h' | h'
  · exact h'
  · simp [World.cell?, Array.getElem?_eq_none h'] at h
theorem list_of {α : Type} (n : Nat) (Q : Nat → α → Prop) (h : ∀ i, i < n → ∃ y, Q i y) : ∃ l : List α, l.length = n ∧ ∀ i x, l[i]? = some x → Q i x := by
  induction n with
  | zero => exact ⟨[], rfl, fun i x hx => by simp at hx⟩
  | succ n ih =>
    obtain ⟨l, hl, hq⟩ := ih fun i hi => h i (by omega)
    obtain ⟨y, hy⟩ := h n (by omega)
    refine ⟨l ++ [y], by simp [hl], fun i x hx => ?_⟩
    rcases Nat.lt_or_ge i n with hi | hi
    · rw [List.getElem?_append_left (by omega)] at hx
      exact hq i x hx
    · rw [List.getElem?_append_right (by omega)] at hx
      have : i = n := by
        rcases Nat.lt_or_ge (i - l.length) 1 with h1 | h1
        · omega
        · rw [List.getElem?_eq_none (by simpa using h1)] at hx; cases hx
      subst this
      rw [hl, Nat.sub_self] at hx
      simp at hx
      rw [← hx]; exact hy
theorem gives_int {P : Program} {t : TypeId} (ht : P.underlying t = some (.int .i64)) : Gives P t (fun _ _ cs (y : Int) => cs = [.int .i64 y]) := by
  intro H enc w base fuel cs x h
  obtain ⟨n, hcs, _⟩ := DataW.trod_int ht h
  exact ⟨_, hcs⟩
theorem gives_bool {P : Program} {t : TypeId} (ht : P.underlying t = some .bool) : Gives P t (fun _ _ cs (y : Bool) => cs = [.bool y]) := by
  intro H enc w base fuel cs x h
  obtain ⟨n, hcs, _⟩ := DataW.trod_bool ht h
  exact ⟨_, hcs⟩
theorem gives_slice {P : Program} {t e : TypeId} {k : Nat} {α : Type} {R : World → Nat → List Value → α → Prop} (ht : P.underlying t = some (.slice e)) (hk : P.cellsOf e = k) (hk0 : 0 < k) (he : Gives P e R) :
    Gives P t (fun w B cs (y : List α) => ∃ A c, cs = [.slice A y.length c] ∧ SlKA R k w B A y.length y) := by
  intro H enc w base fuel cs x h
  rcases open_slice ht h with ⟨rfl, _⟩ | ⟨a, len, cap, m, n, D, Pl, rfl, hb, hl, hm, hmm, hx, hi⟩
  · exact ⟨[], none, 0, rfl, rfl, by simp, fun h => absurd h (by simp)⟩
  · obtain ⟨ys, hlen, hys⟩ := list_of len (fun i y => ∃ us, us.length = k ∧ (∀ j u, us[j]? = some u → w.cell? ((a.add (i * k)).add j) = some u) ∧ R w w.heap.size us y) fun i hil => by
      obtain ⟨cs', hc, ht'⟩ := hi i (by rw [hmm]; split <;> omega)
      obtain ⟨y, hy⟩ := he _ _ _ _ _ _ _ ht'
      rw [hk] at hc
      obtain ⟨_, hcl, hat⟩ := World.cells?_some hc
      refine ⟨y, cs', hcl, fun j u hj => ?_, hy⟩
      have hjk : j < k := by
        rcases Nat.lt_or_ge j k with h | h
        · exact h
        · rw [List.getElem?_eq_none (by omega)] at hj; cases hj
      rw [hat j hjk]; exact hj
    subst hlen
    refine ⟨ys, some a, cap, rfl, rfl, ?_, fun hn => ⟨a, rfl, ?_, hys⟩⟩
    · unfold maxLen at hm; omega
    · obtain ⟨us, h1, h2, _⟩ := hys 0 _ (List.getElem?_eq_getElem hn)
      have h3 : us[0]? = some (us[0]'(by omega)) := List.getElem?_eq_getElem (by omega)
      have := cell_lt (h2 0 _ h3)
      rw [block_of_add, block_of_add] at this
      exact this
section
variable {H : Type} {enc : TypeId × Value → H} {P : Program} {W : World} {base : Nat}
theorem open_sl {t e : TypeId} {k : Nat} {α : Type} {R : World → Nat → List Value → α → Prop} {v : Value} {d : DataW H} {p : List MemPlace} (ht : P.underlying t = some (.slice e)) (hk : P.cellsOf e = k) (hk0 : 0 < k) (he : Gives P e R)
    (hv : Value.okWide P W .any base t v) (h : DataW.Trod enc P W 0 (fun _ => true) true t v d p) : ∃ (A : Option Addr) (n c : Nat) (xs : List α), v = .slice A n c ∧ SlKA R k W W.heap.size A n xs := by
  obtain ⟨a0, len, cap, rfl⟩ := okWide_slice ht hv
  obtain ⟨fuel, hf⟩ := h
  obtain ⟨y, A, c, hcs, hs⟩ := gives_slice ht hk hk0 he _ _ _ _ _ _ _ hf
  simp [Value.cells] at hcs
  obtain ⟨rfl, rfl, rfl⟩ := hcs
  exact ⟨_, _, _, y, rfl, hs⟩
theorem open_intS {t e : TypeId} {v : Value} {d : DataW H} {p : List MemPlace} (ht : P.underlying t = some (.slice e)) (hi : P.underlying e = some (.int .i64)) (hk : P.cellsOf e = 1)
    (hv : Value.okWide P W .any base t v) (h : DataW.Trod enc P W 0 (fun _ => true) true t v d p) : ∃ (A : Option Addr) (n c : Nat) (xs : List Int), v = .slice A n c ∧ IntA W W.heap.size A n xs := by
  obtain ⟨A, n, c, xs, hv, hs⟩ := open_sl ht hk (by omega) (gives_int hi) hv h
  exact ⟨A, n, c, xs, hv, hs.one.map fun u x hx => by simpa [IntC] using hx⟩
end
theorem cells3 {w : World} {p : Addr} {a b c : Value} (h : ∀ j u, [a, b, c][j]? = some u → w.cell? (p.add j) = some u) :
    w.cell? p = some a ∧ w.cell? ⟨p.block, p.off + 1, none⟩ = some b ∧ w.cell? ⟨p.block, p.off + 2, none⟩ = some c :=
  ⟨by simpa [Addr.add] using h 0 _ rfl, by simpa [Addr.add] using h 1 _ rfl, by simpa [Addr.add] using h 2 _ rfl⟩
theorem trod_one {H : Type} {enc : TypeId × Value → H} {P : Program} {w : World} {base : Nat} {fs : Array Field} {cs : List Value} {xs : List (DataW H × List MemPlace)} {n i : Nat} {f : Field} (hi : fs[i]? = some f) (hone : P.cellsOf f.type = 1) (hl : f.offset < cs.length)
    (h : ∀ (i : Nat) (f : Field), fs[i]? = some f → DataW.trod enc P w base (fun _ => true) true n f.type ((cs.drop f.offset).take (P.cellsOf f.type)) = xs[i]?) (hx : i < xs.length) : DataW.trod enc P w base (fun _ => true) true n f.type [cs[f.offset]] = some xs[i] := by
  have := h i f hi
  rw [hone, List.drop_eq_getElem_cons hl] at this
  rw [← List.getElem?_eq_getElem hx, ← this]
  rfl
theorem gives_lit {P : Program} {t : TypeId} {f0 f1 f2 : Field} (ht : P.underlying t = some (.struct #[f0, f1, f2])) (hc : P.cellsOf t = 3) (o0 : f0.offset = 0) (o1 : f1.offset = 1) (o2 : f2.offset = 2)
    (c0 : P.cellsOf f0.type = 1) (c1 : P.cellsOf f1.type = 1) (c2 : P.cellsOf f2.type = 1)
    (t0 : P.underlying f0.type = some (.int .i64)) (t1 : P.underlying f1.type = some (.int .i64)) (t2 : P.underlying f2.type = some .bool) : Gives P t LitC := by
  intro H enc w base fuel cs x h
  obtain ⟨xs, n, _, _, hlen, hxl, hf⟩ := DataW.trod_struct ht h
  rw [hc] at hlen
  have hxl' : xs.length = 3 := hxl
  match cs, hlen with
  | [a, b, c], _ =>
    have e0 := trod_one (i := 0) (f := f0) rfl c0 (by rw [o0]; simp) hf (by omega)
    have e1 := trod_one (i := 1) (f := f1) rfl c1 (by rw [o1]; simp) hf (by omega)
    have e2 := trod_one (i := 2) (f := f2) rfl c2 (by rw [o2]; simp) hf (by omega)
    simp only [o0, o1, o2] at e0 e1 e2
    obtain ⟨v0, h0, _⟩ := DataW.trod_int t0 e0
    obtain ⟨v1, h1, _⟩ := DataW.trod_int t1 e1
    obtain ⟨v2, h2, _⟩ := DataW.trod_bool t2 e2
    refine ⟨⟨v0, v1, v2⟩, ?_⟩
    simp at h0 h1 h2
    subst h0 h1 h2
    rfl
theorem row_conv {α : Type} {R : World → Nat → List Value → α → Prop} {R' : World → Nat → Value → α → Prop} {w : World} {B : Nat} (hR : ∀ u x, R w B [u] x → R' w B u x) {u : Value} {r : List α} (h : ∃ A c, [u] = [Value.slice A r.length c] ∧ SlKA R 1 w B A r.length r) : RowA R' w B u r := by
  obtain ⟨A, c, e, hs⟩ := h
  injection e with e
  exact ⟨A, c, e, hs.one.map hR⟩
section
variable {H : Type} {enc : TypeId × Value → H} {P : Program} {W : World} {base : Nat}
theorem open_int3 {t3 t2 t1 t0 : TypeId} {v : Value} {d : DataW H} {p : List MemPlace} (h3 : P.underlying t3 = some (.slice t2)) (h2 : P.underlying t2 = some (.slice t1)) (h1 : P.underlying t1 = some (.slice t0)) (h0 : P.underlying t0 = some (.int .i64)) (k2 : P.cellsOf t2 = 1) (k1 : P.cellsOf t1 = 1) (k0 : P.cellsOf t0 = 1)
    (hv : Value.okWide P W .any base t3 v) (h : DataW.Trod enc P W 0 (fun _ => true) true t3 v d p) : ∃ (A : Option Addr) (n c : Nat) (xs : List (List (List Int))), v = .slice A n c ∧ SlA (RowA (RowA IntC)) W W.heap.size A n xs := by
  obtain ⟨A, n, c, xs, hv, hs⟩ := open_sl h3 k2 (by omega) (gives_slice h2 k1 (by omega) (gives_slice h1 k0 (by omega) (gives_int h0))) hv h
  exact ⟨A, n, c, xs, hv, hs.one.map fun u x hx => row_conv (fun u x hx => row_conv (fun u x hx => by simpa [IntC] using hx) hx) hx⟩
end
end Go.Proofs.YtfoodlhfmcfjeaaDoor
