/- Memory: a slice value that reads as a list, element by element; what is kept when the world grows. No program in sight. -/
import Derived.WalkKit
import Derived.Below
import Derived.Laws.OwnMore
import Derived.Deep.AppendLies
import Derived.Deep.Draws
import Derived.Test.YtcgkbamcmpodoaaPlain
namespace Go.Proofs.Ytcgkbamcmpodoaa
open Go.RowKit
set_option linter.unusedVariables false

theorem block_of_add (a : Addr) (n : Nat) : (a.add n).block = a.block := by unfold Addr.add; split <;> rfl
theorem add_of_add (a : Addr) (i j : Nat) : (a.add i).add j = a.add (i + j) := by
  unfold Addr.add
  by_cases hi : i = 0 <;> by_cases hj : j = 0 <;> simp [hi, hj, Nat.add_assoc]
theorem add_own (g i : Nat) : (⟨g, 0, none⟩ : Addr).add i = ⟨g, i, none⟩ := by
  unfold Addr.add
  by_cases hi : i = 0 <;> simp [hi]

/-- The slice at A holds the n elements xs, one cell each, below block B; R says how a cell reads as an element. (An argument of the law: any address.) -/
def SlA {α : Type} (R : World → Nat → Value → α → Prop) (w : World) (B : Nat) (A : Option Addr) (n : Nat) (xs : List α) : Prop :=
  xs.length = n ∧ n ≤ 9223372036854775807 ∧ (0 < n → ∃ ad, A = some ad ∧ ad.block < B ∧ ∀ k x, xs[k]? = some x → ∃ u, w.cell? (ad.add k) = some u ∧ R w B u x)
/-- The same at a plain address. -/
def SlR {α : Type} (R : World → Nat → Value → α → Prop) (w : World) (B : Nat) (A : Option Addr) (n : Nat) (xs : List α) : Prop :=
  xs.length = n ∧ n ≤ 9223372036854775807 ∧ (0 < n → ∃ b o, A = some ⟨b, o, none⟩ ∧ b < B ∧ ∀ k x, xs[k]? = some x → ∃ u, w.cell? ⟨b, o + k, none⟩ = some u ∧ R w B u x)
/-- R is kept while what lies below B stays. -/
def Keeps {α : Type} (R : World → Nat → Value → α → Prop) : Prop := ∀ w w' B u x, (∀ p : Addr, p.block < B → w'.cell? p = w.cell? p) → R w B u x → R w' B u x
/-- R stays true for a greater bound. -/
def Widens {α : Type} (R : World → Nat → Value → α → Prop) : Prop := ∀ w B B' u x, B ≤ B' → R w B u x → R w B' u x

section
variable {α : Type} {R : World → Nat → Value → α → Prop} {w w' : World} {B B' n : Nat} {A : Option Addr} {xs : List α}
theorem SlA.len (h : SlA R w B A n xs) : xs.length = n := h.1
theorem SlA.le (h : SlA R w B A n xs) : n ≤ 9223372036854775807 := h.2.1
theorem SlA.at_ {k : Nat} (h : SlA R w B A n xs) (hk : k < n) : ∃ ad x u, A = some ad ∧ ad.block < B ∧ xs[k]? = some x ∧ w.cell? (ad.add k) = some u ∧ R w B u x := by
  obtain ⟨hl, _, h2⟩ := h
  obtain ⟨ad, e, hb, hc⟩ := h2 (by omega)
  have hk' : k < xs.length := by omega
  obtain ⟨u, hu, hr⟩ := hc k _ (List.getElem?_eq_getElem hk')
  exact ⟨ad, _, u, e, hb, List.getElem?_eq_getElem hk', hu, hr⟩
theorem SlA.keep (hR : Keeps R) (h : SlA R w B A n xs) (hk : ∀ p : Addr, p.block < B → w'.cell? p = w.cell? p) : SlA R w' B A n xs :=
  ⟨h.1, h.2.1, fun hn => by
    obtain ⟨ad, e, hb, hc⟩ := h.2.2 hn
    refine ⟨ad, e, hb, fun k x hx => ?_⟩
    obtain ⟨u, hu, hr⟩ := hc k x hx
    exact ⟨u, (hk _ (by rw [block_of_add]; exact hb)).trans hu, hR _ _ _ _ _ hk hr⟩⟩
theorem SlA.below (hR : Keeps R) (h : SlA R w B A n xs) (hb : Below B w w') : SlA R w' B A n xs := h.keep hR fun _ hp => hb.cell hp
theorem SlA.more (hR : Widens R) (h : SlA R w B A n xs) (hB : B ≤ B') : SlA R w B' A n xs :=
  ⟨h.1, h.2.1, fun hn => by
    obtain ⟨ad, e, hb, hc⟩ := h.2.2 hn
    refine ⟨ad, e, by omega, fun k x hx => ?_⟩
    obtain ⟨u, hu, hr⟩ := hc k x hx
    exact ⟨u, hu, hR _ _ _ _ _ hB hr⟩⟩
theorem SlA.nil_ (w : World) (B : Nat) (A : Option Addr) : SlA R w B A 0 [] := ⟨rfl, by omega, fun h => absurd h (by omega)⟩
/-- One step on: below the old world's end everything is kept. -/
theorem SlA.on (hR : Keeps R) (hW : Widens R) (h : SlA R w w.heap.size A n xs) (hb : Below w.heap.size w w') : SlA R w' w'.heap.size A n xs :=
  (h.below hR hb).more hW hb.size
end
section
variable {α : Type} {R : World → Nat → Value → α → Prop} {w w' : World} {B B' n : Nat} {A : Option Addr} {xs : List α}
theorem SlR.len (h : SlR R w B A n xs) : xs.length = n := h.1
theorem SlR.le (h : SlR R w B A n xs) : n ≤ 9223372036854775807 := h.2.1
theorem SlR.at_ {k : Nat} (h : SlR R w B A n xs) (hk : k < n) : ∃ b o x u, A = some ⟨b, o, none⟩ ∧ b < B ∧ xs[k]? = some x ∧ w.cell? ⟨b, o + k, none⟩ = some u ∧ R w B u x := by
  obtain ⟨hl, _, h2⟩ := h
  obtain ⟨b, o, e, hb, hc⟩ := h2 (by omega)
  have hk' : k < xs.length := by omega
  obtain ⟨u, hu, hr⟩ := hc k _ (List.getElem?_eq_getElem hk')
  exact ⟨b, o, _, u, e, hb, List.getElem?_eq_getElem hk', hu, hr⟩
theorem SlR.keep (hR : Keeps R) (h : SlR R w B A n xs) (hk : ∀ p : Addr, p.block < B → w'.cell? p = w.cell? p) : SlR R w' B A n xs :=
  ⟨h.1, h.2.1, fun hn => by
    obtain ⟨b, o, e, hb, hc⟩ := h.2.2 hn
    refine ⟨b, o, e, hb, fun k x hx => ?_⟩
    obtain ⟨u, hu, hr⟩ := hc k x hx
    exact ⟨u, (hk _ (hb)).trans hu, hR _ _ _ _ _ hk hr⟩⟩
theorem SlR.below (hR : Keeps R) (h : SlR R w B A n xs) (hb : Below B w w') : SlR R w' B A n xs := h.keep hR fun _ hp => hb.cell hp
theorem SlR.more (hR : Widens R) (h : SlR R w B A n xs) (hB : B ≤ B') : SlR R w B' A n xs :=
  ⟨h.1, h.2.1, fun hn => by
    obtain ⟨b, o, e, hb, hc⟩ := h.2.2 hn
    refine ⟨b, o, e, by omega, fun k x hx => ?_⟩
    obtain ⟨u, hu, hr⟩ := hc k x hx
    exact ⟨u, hu, hR _ _ _ _ _ hB hr⟩⟩
theorem SlR.nil_ (w : World) (B : Nat) (A : Option Addr) : SlR R w B A 0 [] := ⟨rfl, by omega, fun h => absurd h (by omega)⟩
/-- One step on: below the old world's end everything is kept. -/
theorem SlR.on (hR : Keeps R) (hW : Widens R) (h : SlR R w w.heap.size A n xs) (hb : Below w.heap.size w w') : SlR R w' w'.heap.size A n xs :=
  (h.below hR hb).more hW hb.size
end
/-- A cell that is an int. -/
def IntC : World → Nat → Value → Int → Prop := fun _ _ u x => u = .int .i64 x
theorem IntC.keeps : Keeps IntC := fun _ _ _ _ _ _ h => h
theorem IntC.widens : Widens IntC := fun _ _ _ _ _ _ h => h
/-- A slice of ints. -/
abbrev IntR (w : World) (B : Nat) (A : Option Addr) (n : Nat) (xs : List Int) : Prop := SlR IntC w B A n xs
abbrev IntA (w : World) (B : Nat) (A : Option Addr) (n : Nat) (xs : List Int) : Prop := SlA IntC w B A n xs
/-- A cell that is a slice. -/
def RowA {α : Type} (R : World → Nat → Value → α → Prop) : World → Nat → Value → List α → Prop := fun w B u r => ∃ A c, u = .slice A r.length c ∧ SlA R w B A r.length r
theorem RowA.keeps {α : Type} {R : World → Nat → Value → α → Prop} (h : Keeps R) : Keeps (RowA R) := fun _ _ _ _ _ hk ⟨A, c, e, hs⟩ => ⟨A, c, e, hs.keep h hk⟩
theorem RowA.widens {α : Type} {R : World → Nat → Value → α → Prop} (h : Widens R) : Widens (RowA R) := fun _ _ _ _ _ hk ⟨A, c, e, hs⟩ => ⟨A, c, e, hs.more h hk⟩
def RowC {α : Type} (R : World → Nat → Value → α → Prop) : World → Nat → Value → List α → Prop := fun w B u r => ∃ A c, u = .slice A r.length c ∧ SlR R w B A r.length r
theorem RowC.keeps {α : Type} {R : World → Nat → Value → α → Prop} (h : Keeps R) : Keeps (RowC R) := fun _ _ _ _ _ hk ⟨A, c, e, hs⟩ => ⟨A, c, e, hs.keep h hk⟩
theorem RowC.widens {α : Type} {R : World → Nat → Value → α → Prop} (h : Widens R) : Widens (RowC R) := fun _ _ _ _ _ hk ⟨A, c, e, hs⟩ => ⟨A, c, e, hs.more h hk⟩
/-- A slice of slices of ints. -/
abbrev RowsR (w : World) (B : Nat) (A : Option Addr) (n : Nat) (xs : List (List Int)) : Prop := SlR (RowC IntC) w B A n xs
abbrev LayersR (w : World) (B : Nat) (A : Option Addr) (n : Nat) (xs : List (List (List Int))) : Prop := SlR (RowC (RowC IntC)) w B A n xs

section
variable {w w' : World} {B B' n : Nat} {A : Option Addr} {xs : List Int}
theorem IntR.at_ {k : Nat} (h : IntR w B A n xs) (hk : k < n) : ∃ b o x, A = some ⟨b, o, none⟩ ∧ b < B ∧ xs[k]? = some x ∧ w.cell? ⟨b, o + k, none⟩ = some (.int .i64 x) := by
  obtain ⟨b, o, x, u, e, hb, hx, hu, rfl⟩ := SlR.at_ h hk
  exact ⟨b, o, x, e, hb, hx, hu⟩
theorem IntA.at_ {k : Nat} (h : IntA w B A n xs) (hk : k < n) : ∃ ad x, A = some ad ∧ ad.block < B ∧ xs[k]? = some x ∧ w.cell? (ad.add k) = some (.int .i64 x) := by
  obtain ⟨ad, x, u, e, hb, hx, hu, rfl⟩ := SlA.at_ h hk
  exact ⟨ad, x, e, hb, hx, hu⟩
theorem IntR.on (h : IntR w w.heap.size A n xs) (hb : Below w.heap.size w w') : IntR w' w'.heap.size A n xs := SlR.on IntC.keeps IntC.widens h hb
theorem IntR.of_own {base : Nat} {e : TypeId} {v : Value} (h : w.ownsRow base e 1 v n (xs.map (.int .i64))) (hn : n ≤ 9223372036854775807) : ∃ A c, v = .slice A n c ∧ IntR w w.heap.size A n xs ∧ (∀ g, v.ownBlock = some g → base ≤ g) := by
  have hl : xs.length = n := by have := h.1; simpa using this
  refine (h.2).elim (fun h2 => ?_) (fun h2 => ?_)
  · obtain ⟨rfl, rfl⟩ := h2
    exact ⟨none, 0, rfl, ⟨hl, by omega, fun h => absurd h (by omega)⟩, fun g hg => by simp [Value.ownBlock] at hg⟩
  · obtain ⟨g, cap, cur, rfl, hg, hh, hcap, hmax, hsz, ht⟩ := h2
    refine ⟨some ⟨g, 0, none⟩, cap, rfl, ⟨hl, hn, fun hn0 => ?_⟩, fun g' hg' => ?_⟩
    · refine ⟨_, _, rfl, (h.lt g rfl).2, fun k x hx => ⟨_, ?_, rfl⟩⟩
      have := h.cells (g := g) rfl k _ (by rw [List.getElem?_map, hx]; rfl)
      rw [add_own] at this
      rw [Nat.zero_add]; exact this
    · simp [Value.ownBlock] at hg'; omega
end
/-- What the call owns lies untouched behind what only grows. -/
theorem own_below {w w' : World} {base n size : Nat} {e : TypeId} {v : Value} {xs : List Value} (h : w.ownsRow base e size v n xs) (hb : Below w.heap.size w w') : w'.ownsRow base e size v n xs := by
  obtain ⟨h1, h2⟩ := h
  refine ⟨h1, ?_⟩
  rcases h2 with h2 | ⟨g, cap, cur, hv, hg, hh, r⟩
  · exact .inl h2
  · have hlt : g < w.heap.size := by
      rcases Nat.lt_or_ge g w.heap.size with h | h
      · exact h
      · rw [Array.getElem?_eq_none h] at hh; cases hh
    exact .inr ⟨g, cap, cur, hv, hg, (hb.block g hlt).trans hh, r⟩
theorem own_base {w : World} {base base' n size : Nat} {e : TypeId} {v : Value} {xs : List Value} (h : w.ownsRow base e size v n xs) (hb : base' ≤ base) : w.ownsRow base' e size v n xs := by
  obtain ⟨h1, h2⟩ := h
  refine ⟨h1, ?_⟩
  rcases h2 with h2 | ⟨g, cap, cur, hv, hg, r⟩
  · exact .inl h2
  · exact .inr ⟨g, cap, cur, hv, by omega, r⟩

theorem bcell {W w1 : World} (hb : Below W.heap.size W w1) : (∀ b o, b < W.heap.size → w1.cell? ⟨b, o, none⟩ = W.cell? ⟨b, o, none⟩) ∧ (∀ b o, b < W.heap.size → w1.frozen? ⟨b, o, none⟩ = W.frozen? ⟨b, o, none⟩) :=
  ⟨fun b o h => hb.cell (p := ⟨b, o, none⟩) h, fun b o h => hb.frozen (p := ⟨b, o, none⟩) h⟩
/-- The bound of a Below may be lowered and the chain goes on. -/
theorem bgo {w w1 w2 : World} (h : Below w.heap.size w w1) (h2 : Below w1.heap.size w1 w2) : Below w.heap.size w w2 := h.trans (h2.mono h.size)
theorem size_alloc_ (w : World) (o : Obj) : (w.alloc o).heap.size = w.heap.size + 1 := by show (w.heap.push _).size = _; simp
theorem le_alloc (w : World) (o : Obj) : w.heap.size ≤ (w.alloc o).heap.size := by rw [size_alloc_]; omega
theorem b_alloc (w : World) (o : Obj) : Below w.heap.size w (w.alloc o) := (Below.refl _ _).alloc (Nat.le_refl _) o
theorem b_alloc2 (w : World) (o o2 : Obj) : Below w.heap.size w ((w.alloc o).alloc o2) := (b_alloc w o).alloc (le_alloc w o) o2
theorem below_drewN {B : Nat} {a w : World} (h : Below B a w) (n : Nat) : Below B a (w.drewN n) := ⟨h.os, h.tape, h.output, h.size, h.block⟩
theorem IntA.on {w w' : World} {n : Nat} {A : Option Addr} {xs : List Int} (h : IntA w w.heap.size A n xs) (hb : Below w.heap.size w w') : IntA w' w'.heap.size A n xs := SlA.on IntC.keeps IntC.widens h hb
end Go.Proofs.Ytcgkbamcmpodoaa
