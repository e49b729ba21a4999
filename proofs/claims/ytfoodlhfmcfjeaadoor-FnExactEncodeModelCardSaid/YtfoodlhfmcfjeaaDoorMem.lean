/- Memory: a slice value that reads as a list, element by element; what is kept when the world grows. No program in sight. -/
import Derived.WalkKit
import Derived.Below
import Derived.Laws.OwnMore
import Derived.Deep.AppendLies
import Derived.Deep.Draws
import Derived.Deep.Quiet
import Derived.BigQuiet
import Derived.Test.YtfoodlhfmcfjeaaDoorPlain
namespace Go.Proofs.YtfoodlhfmcfjeaaDoor
open Go.RowKit
set_option linter.unusedVariables false
set_option maxRecDepth 100000

theorem block_of_add (a : Addr) (n : Nat) : (a.add n).block = a.block := by unfold Addr.add; split <;> rfl
theorem add_of_add (a : Addr) (i j : Nat) : (a.add i).add j = a.add (i + j) := by
  unfold Addr.add
  by_cases hi : i = 0 <;> by_cases hj : j = 0 <;> simp [hi, hj, Nat.add_assoc]
theorem add_own (g i : Nat) : (⟨g, 0, none⟩ : Addr).add i = ⟨g, i, none⟩ := by
  unfold Addr.add
  by_cases hi : i = 0 <;> simp [hi]

/-- The slice at A holds the n elements xs, one cell each, below block B; R says how a cell reads as an element. (An argument of the law: any address.) -/
def SlA {α : Type} (R : World → Nat → Value → α → Prop) (w : World) (B : Nat) (A : Option Addr) (n : Nat) (xs : List α) : Prop :=
  xs.length = n ∧ n ≤ 9223372036854775807 ∧ (0 < n → ∃ ad, A = some ad ∧ ad.block < B ∧ ∀ k x, xs[k]? = some x → ∃ u, w.cell? (ad.add k) = some u ∧ R w B u x)
/-- The same at a plain address. -/
def SlR {α : Type} (R : World → Nat → Value → α → Prop) (w : World) (B : Nat) (A : Option Addr) (n : Nat) (xs : List α) : Prop :=
  xs.length = n ∧ n ≤ 9223372036854775807 ∧ (0 < n → ∃ b o, A = some ⟨b, o, none⟩ ∧ b < B ∧ ∀ k x, xs[k]? = some x → ∃ u, w.cell? ⟨b, o + k, none⟩ = some u ∧ R w B u x)
/-- R is kept while what lies below B stays. -/
def Keeps {α : Type} (R : World → Nat → Value → α → Prop) : Prop := ∀ w w' B u x, (∀ p : Addr, p.block < B → w'.cell? p = w.cell? p) → R w B u x → R w' B u x
/-- R stays true for a greater bound. -/
def Widens {α : Type} (R : World → Nat → Value → α → Prop) : Prop := ∀ w B B' u x, B ≤ B' → R w B u x → R w B' u x

section
variable {α : Type} {R : World → Nat → Value → α → Prop} {w w' : World} {B B' n : Nat} {A : Option Addr} {xs : List α}
theorem SlA.len (h : SlA R w B A n xs) : xs.length = n := h.1
theorem SlA.le (h : SlA R w B A n xs) : n ≤ 9223372036854775807 := h.2.1
theorem SlA.at_ {k : Nat} (h : SlA R w B A n xs) (hk : k < n) : ∃ ad x u, A = some ad ∧ ad.block < B ∧ xs[k]? = some x ∧ w.cell? (ad.add k) = some u ∧ R w B u x := by
  obtain ⟨hl, _, h2⟩ := h
  obtain ⟨ad, e, hb, hc⟩ := h2 (by omega)
  have hk' : k < xs.length := by omega
  obtain ⟨u, hu, hr⟩ := hc k _ (List.getElem?_eq_getElem hk')
  exact ⟨ad, _, u, e, hb, List.getElem?_eq_getElem hk', hu, hr⟩
theorem SlA.keep (hR : Keeps R) (h : SlA R w B A n xs) (hk : ∀ p : Addr, p.block < B → w'.cell? p = w.cell? p) : SlA R w' B A n xs :=
  ⟨h.1, h.2.1, fun hn => by
    obtain ⟨ad, e, hb, hc⟩ := h.2.2 hn
    refine ⟨ad, e, hb, fun k x hx => ?_⟩
    obtain ⟨u, hu, hr⟩ := hc k x hx
    exact ⟨u, (hk _ (by rw [block_of_add]; exact hb)).trans hu, hR _ _ _ _ _ hk hr⟩⟩
theorem SlA.below (hR : Keeps R) (h : SlA R w B A n xs) (hb : Below B w w') : SlA R w' B A n xs := h.keep hR fun _ hp => hb.cell hp
theorem SlA.more (hR : Widens R) (h : SlA R w B A n xs) (hB : B ≤ B') : SlA R w B' A n xs :=
  ⟨h.1, h.2.1, fun hn => by
    obtain ⟨ad, e, hb, hc⟩ := h.2.2 hn
    refine ⟨ad, e, by omega, fun k x hx => ?_⟩
    obtain ⟨u, hu, hr⟩ := hc k x hx
    exact ⟨u, hu, hR _ _ _ _ _ hB hr⟩⟩
theorem SlA.nil_ (w : World) (B : Nat) (A : Option Addr) : SlA R w B A 0 [] := ⟨rfl, by omega, fun h => absurd h (by omega)⟩
/-- One step on: below the old world's end everything is kept. -/
theorem SlA.on (hR : Keeps R) (hW : Widens R) (h : SlA R w w.heap.size A n xs) (hb : Below w.heap.size w w') : SlA R w' w'.heap.size A n xs :=
  (h.below hR hb).more hW hb.size
end
section
variable {α : Type} {R : World → Nat → Value → α → Prop} {w w' : World} {B B' n : Nat} {A : Option Addr} {xs : List α}
theorem SlR.len (h : SlR R w B A n xs) : xs.length = n := h.1
theorem SlR.le (h : SlR R w B A n xs) : n ≤ 9223372036854775807 := h.2.1
theorem SlR.at_ {k : Nat} (h : SlR R w B A n xs) (hk : k < n) : ∃ b o x u, A = some ⟨b, o, none⟩ ∧ b < B ∧ xs[k]? = some x ∧ w.cell? ⟨b, o + k, none⟩ = some u ∧ R w B u x := by
  obtain ⟨hl, _, h2⟩ := h
  obtain ⟨b, o, e, hb, hc⟩ := h2 (by omega)
  have hk' : k < xs.length := by omega
  obtain ⟨u, hu, hr⟩ := hc k _ (List.getElem?_eq_getElem hk')
  exact ⟨b, o, _, u, e, hb, List.getElem?_eq_getElem hk', hu, hr⟩
theorem SlR.keep (hR : Keeps R) (h : SlR R w B A n xs) (hk : ∀ p : Addr, p.block < B → w'.cell? p = w.cell? p) : SlR R w' B A n xs :=
  ⟨h.1, h.2.1, fun hn => by
    obtain ⟨b, o, e, hb, hc⟩ := h.2.2 hn
    refine ⟨b, o, e, hb, fun k x hx => ?_⟩
    obtain ⟨u, hu, hr⟩ := hc k x hx
    exact ⟨u, (hk _ (hb)).trans hu, hR _ _ _ _ _ hk hr⟩⟩
theorem SlR.below (hR : Keeps R) (h : SlR R w B A n xs) (hb : Below B w w') : SlR R w' B A n xs := h.keep hR fun _ hp => hb.cell hp
theorem SlR.more (hR : Widens R) (h : SlR R w B A n xs) (hB : B ≤ B') : SlR R w B' A n xs :=
  ⟨h.1, h.2.1, fun hn => by
    obtain ⟨b, o, e, hb, hc⟩ := h.2.2 hn
    refine ⟨b, o, e, by omega, fun k x hx => ?_⟩
    obtain ⟨u, hu, hr⟩ := hc k x hx
    exact ⟨u, hu, hR _ _ _ _ _ hB hr⟩⟩
theorem SlR.nil_ (w : World) (B : Nat) (A : Option Addr) : SlR R w B A 0 [] := ⟨rfl, by omega, fun h => absurd h (by omega)⟩
/-- One step on: below the old world's end everything is kept. -/
theorem SlR.on (hR : Keeps R) (hW : Widens R) (h : SlR R w w.heap.size A n xs) (hb : Below w.heap.size w w') : SlR R w' w'.heap.size A n xs :=
  (h.below hR hb).more hW hb.size
end
/-- A cell that is an int. -/
def IntC : World → Nat → Value → Int → Prop := fun _ _ u x => u = .int .i64 x
theorem IntC.keeps : Keeps IntC := fun _ _ _ _ _ _ h => h
theorem IntC.widens : Widens IntC := fun _ _ _ _ _ _ h => h
/-- A slice of ints. -/
abbrev IntR (w : World) (B : Nat) (A : Option Addr) (n : Nat) (xs : List Int) : Prop := SlR IntC w B A n xs
abbrev IntA (w : World) (B : Nat) (A : Option Addr) (n : Nat) (xs : List Int) : Prop := SlA IntC w B A n xs
/-- A cell that is a slice. -/
def RowA {α : Type} (R : World → Nat → Value → α → Prop) : World → Nat → Value → List α → Prop := fun w B u r => ∃ A c, u = .slice A r.length c ∧ SlA R w B A r.length r
theorem RowA.keeps {α : Type} {R : World → Nat → Value → α → Prop} (h : Keeps R) : Keeps (RowA R) := fun _ _ _ _ _ hk ⟨A, c, e, hs⟩ => ⟨A, c, e, hs.keep h hk⟩
theorem RowA.widens {α : Type} {R : World → Nat → Value → α → Prop} (h : Widens R) : Widens (RowA R) := fun _ _ _ _ _ hk ⟨A, c, e, hs⟩ => ⟨A, c, e, hs.more h hk⟩
def RowC {α : Type} (R : World → Nat → Value → α → Prop) : World → Nat → Value → List α → Prop := fun w B u r => ∃ A c, u = .slice A r.length c ∧ SlR R w B A r.length r
theorem RowC.keeps {α : Type} {R : World → Nat → Value → α → Prop} (h : Keeps R) : Keeps (RowC R) := fun _ _ _ _ _ hk ⟨A, c, e, hs⟩ => ⟨A, c, e, hs.keep h hk⟩
theorem RowC.widens {α : Type} {R : World → Nat → Value → α → Prop} (h : Widens R) : Widens (RowC R) := fun _ _ _ _ _ hk ⟨A, c, e, hs⟩ => ⟨A, c, e, hs.more h hk⟩
/-- A slice of slices of ints. -/
abbrev RowsR (w : World) (B : Nat) (A : Option Addr) (n : Nat) (xs : List (List Int)) : Prop := SlR (RowC IntC) w B A n xs
abbrev LayersR (w : World) (B : Nat) (A : Option Addr) (n : Nat) (xs : List (List (List Int))) : Prop := SlR (RowC (RowC IntC)) w B A n xs

section
variable {w w' : World} {B B' n : Nat} {A : Option Addr} {xs : List Int}
theorem IntR.at_ {k : Nat} (h : IntR w B A n xs) (hk : k < n) : ∃ b o x, A = some ⟨b, o, none⟩ ∧ b < B ∧ xs[k]? = some x ∧ w.cell? ⟨b, o + k, none⟩ = some (.int .i64 x) := by
  obtain ⟨b, o, x, u, e, hb, hx, hu, rfl⟩ := SlR.at_ h hk
  exact ⟨b, o, x, e, hb, hx, hu⟩
theorem IntA.at_ {k : Nat} (h : IntA w B A n xs) (hk : k < n) : ∃ ad x, A = some ad ∧ ad.block < B ∧ xs[k]? = some x ∧ w.cell? (ad.add k) = some (.int .i64 x) := by
  obtain ⟨ad, x, u, e, hb, hx, hu, rfl⟩ := SlA.at_ h hk
  exact ⟨ad, x, e, hb, hx, hu⟩
theorem IntR.on (h : IntR w w.heap.size A n xs) (hb : Below w.heap.size w w') : IntR w' w'.heap.size A n xs := SlR.on IntC.keeps IntC.widens h hb
theorem IntR.of_own {base : Nat} {e : TypeId} {v : Value} (h : w.ownsRow base e 1 v n (xs.map (.int .i64))) (hn : n ≤ 9223372036854775807) : ∃ A c, v = .slice A n c ∧ IntR w w.heap.size A n xs ∧ (∀ g, v.ownBlock = some g → base ≤ g) := by
  have hl : xs.length = n := by have := h.1; simpa using this
  refine (h.2).elim (fun h2 => ?_) (fun h2 => ?_)
  · obtain ⟨rfl, rfl⟩ := h2
    exact ⟨none, 0, rfl, ⟨hl, by omega, fun h => absurd h (by omega)⟩, fun g hg => by simp [Value.ownBlock] at hg⟩
  · obtain ⟨g, cap, cur, rfl, hg, hh, hcap, hmax, hsz, ht⟩ := h2
    refine ⟨some ⟨g, 0, none⟩, cap, rfl, ⟨hl, hn, fun hn0 => ?_⟩, fun g' hg' => ?_⟩
    · refine ⟨_, _, rfl, (h.lt g rfl).2, fun k x hx => ⟨_, ?_, rfl⟩⟩
      have := h.cells (g := g) rfl k _ (by rw [List.getElem?_map, hx]; rfl)
      rw [add_own] at this
      rw [Nat.zero_add]; exact this
    · simp [Value.ownBlock] at hg'; omega
end
/-- What the call owns lies untouched behind what only grows. -/
theorem own_below {w w' : World} {base n size : Nat} {e : TypeId} {v : Value} {xs : List Value} (h : w.ownsRow base e size v n xs) (hb : Below w.heap.size w w') : w'.ownsRow base e size v n xs := by
  obtain ⟨h1, h2⟩ := h
  refine ⟨h1, ?_⟩
  rcases h2 with h2 | ⟨g, cap, cur, hv, hg, hh, r⟩
  · exact .inl h2
  · have hlt : g < w.heap.size := by
      rcases Nat.lt_or_ge g w.heap.size with h | h
      · exact h
      · rw [Array.getElem?_eq_none h] at hh; cases hh
    exact .inr ⟨g, cap, cur, hv, hg, (hb.block g hlt).trans hh, r⟩
theorem own_base {w : World} {base base' n size : Nat} {e : TypeId} {v : Value} {xs : List Value} (h : w.ownsRow base e size v n xs) (hb : base' ≤ base) : w.ownsRow base' e size v n xs := by
  obtain ⟨h1, h2⟩ := h
  refine ⟨h1, ?_⟩
  rcases h2 with h2 | ⟨g, cap, cur, hv, hg, r⟩
  · exact .inl h2
  · exact .inr ⟨g, cap, cur, hv, by omega, r⟩

theorem bcell {W w1 : World} (hb : Below W.heap.size W w1) : (∀ b o, b < W.heap.size → w1.cell? ⟨b, o, none⟩ = W.cell? ⟨b, o, none⟩) ∧ (∀ b o, b < W.heap.size → w1.frozen? ⟨b, o, none⟩ = W.frozen? ⟨b, o, none⟩) :=
  ⟨fun b o h => hb.cell (p := ⟨b, o, none⟩) h, fun b o h => hb.frozen (p := ⟨b, o, none⟩) h⟩
/-- The bound of a Below may be lowered and the chain goes on. -/
theorem bgo {w w1 w2 : World} (h : Below w.heap.size w w1) (h2 : Below w1.heap.size w1 w2) : Below w.heap.size w w2 := h.trans (h2.mono h.size)
theorem size_alloc_ (w : World) (o : Obj) : (w.alloc o).heap.size = w.heap.size + 1 := by show (w.heap.push _).size = _; simp
theorem le_alloc (w : World) (o : Obj) : w.heap.size ≤ (w.alloc o).heap.size := by rw [size_alloc_]; omega
theorem b_alloc (w : World) (o : Obj) : Below w.heap.size w (w.alloc o) := (Below.refl _ _).alloc (Nat.le_refl _) o
theorem b_alloc2 (w : World) (o o2 : Obj) : Below w.heap.size w ((w.alloc o).alloc o2) := (b_alloc w o).alloc (le_alloc w o) o2
theorem b_alloc3 (w : World) (o o2 o3 : Obj) : Below w.heap.size w (((w.alloc o).alloc o2).alloc o3) := (b_alloc2 w o o2).alloc (Nat.le_trans (le_alloc w o) (le_alloc _ o2)) o3
theorem below_drewN {B : Nat} {a w : World} (h : Below B a w) (n : Nat) : Below B a (w.drewN n) := ⟨h.os, h.tape, h.output, h.size, h.block⟩
theorem IntA.on {w w' : World} {n : Nat} {A : Option Addr} {xs : List Int} (h : IntA w w.heap.size A n xs) (hb : Below w.heap.size w w') : IntA w' w'.heap.size A n xs := SlA.on IntC.keeps IntC.widens h hb

/-- A world in which all that lay in w lies untouched. -/
structure Later (w : World) where
  val : World
  below : Below w.heap.size w val
instance (w : World) : Nonempty (Later w) := ⟨⟨w, Below.refl _ _⟩⟩
/-- A region that draws its order, whose operations read and whose callees read and may lay blocks of their own: walked once, in the text's order. -/
theorem wp_region_later {P : Program} {id : Nat} {Q : Exit → Act → World → Prop} {a : Act} {w : World} {l : List Oper} (hm : P.follows .mixedOrders = true) (hB : Region.lexB .any l.toArray = true)
    (h : wpQuiet P l.toArray (fun w' => ∃ p : Later w, w' = p.val) (fun a' => ∀ w', (∃ p : Later w, w' = p.val) → Q .normal a' w') l a) : (Code.region id l.toArray true).wp P Q a w :=
  wp_region_quiet (C := fun w' => ∃ p : Later w, w' = p.val) hm hB ⟨⟨_, below_drewN (Below.refl _ _) 1⟩, rfl⟩ (by simpa using h)
theorem calls_later {P : Program} {f : FuncId} {args : Array Value} {w : World} {p : Later w} {v : Value} (h : Calls P f args p.val fun e w' => e = .returned v ∧ Below p.val.heap.size p.val w') :
    Calls P f args p.val fun e w'' => e = .returned v ∧ ∃ q : Later w, w'' = q.val := h.mono fun _ _ ⟨he, hb⟩ => ⟨he, ⟨⟨_, bgo p.below hb⟩, rfl⟩⟩
theorem calls_later_same {P : Program} {f : FuncId} {args : Array Value} {w : World} {p : Later w} {v : Value} (h : Calls P f args p.val fun e w' => e = .returned v ∧ p.val = w') :
    Calls P f args p.val fun e w'' => e = .returned v ∧ ∃ q : Later w, w'' = q.val := h.mono fun _ _ ⟨he, hb⟩ => ⟨he, ⟨p, hb.symm⟩⟩
theorem Later.cell {w : World} (p : Later w) {b o : Nat} {u : Value} (hb : b < w.heap.size) (h : w.cell? ⟨b, o, none⟩ = some u) : p.val.cell? ⟨b, o, none⟩ = some u := (p.below.cell hb).trans h
theorem Later.size {w : World} (p : Later w) : w.heap.size ≤ p.val.heap.size := p.below.size

/-- The slice at A holds n elements of k cells each, at a plain address. -/
def SlK {α : Type} (R : World → Nat → List Value → α → Prop) (k : Nat) (w : World) (B : Nat) (A : Option Addr) (n : Nat) (xs : List α) : Prop :=
  xs.length = n ∧ n ≤ 9223372036854775807 ∧ (0 < n → ∃ b o, A = some ⟨b, o, none⟩ ∧ b < B ∧ ∀ i x, xs[i]? = some x → ∃ us, us.length = k ∧ (∀ j u, us[j]? = some u → w.cell? ⟨b, o + i * k + j, none⟩ = some u) ∧ R w B us x)
def KeepsK {α : Type} (R : World → Nat → List Value → α → Prop) : Prop := ∀ w w' B us x, (∀ p : Addr, p.block < B → w'.cell? p = w.cell? p) → R w B us x → R w' B us x
def WidensK {α : Type} (R : World → Nat → List Value → α → Prop) : Prop := ∀ w B B' us x, B ≤ B' → R w B us x → R w B' us x
section
variable {α : Type} {R : World → Nat → List Value → α → Prop} {k : Nat} {w w' : World} {B B' n : Nat} {A : Option Addr} {xs : List α}
theorem SlK.len (h : SlK R k w B A n xs) : xs.length = n := h.1
theorem SlK.le (h : SlK R k w B A n xs) : n ≤ 9223372036854775807 := h.2.1
theorem SlK.at_ {i : Nat} (h : SlK R k w B A n xs) (hi : i < n) : ∃ b o x us, A = some ⟨b, o, none⟩ ∧ b < B ∧ xs[i]? = some x ∧ us.length = k ∧ (∀ j u, us[j]? = some u → w.cell? ⟨b, o + i * k + j, none⟩ = some u) ∧ R w B us x := by
  obtain ⟨hl, _, h2⟩ := h
  obtain ⟨b, o, e, hb, hc⟩ := h2 (by omega)
  have hk' : i < xs.length := by omega
  obtain ⟨us, hu, hr⟩ := hc i _ (List.getElem?_eq_getElem hk')
  exact ⟨b, o, _, us, e, hb, List.getElem?_eq_getElem hk', hu, hr⟩
theorem SlK.keep (hR : KeepsK R) (h : SlK R k w B A n xs) (hk : ∀ p : Addr, p.block < B → w'.cell? p = w.cell? p) : SlK R k w' B A n xs :=
  ⟨h.1, h.2.1, fun hn => by
    obtain ⟨b, o, e, hb, hc⟩ := h.2.2 hn
    refine ⟨b, o, e, hb, fun i x hx => ?_⟩
    obtain ⟨us, hl, hu, hr⟩ := hc i x hx
    exact ⟨us, hl, fun j u hj => (hk ⟨_, _, none⟩ hb).trans (hu j u hj), hR _ _ _ _ _ hk hr⟩⟩
theorem SlK.below (hR : KeepsK R) (h : SlK R k w B A n xs) (hb : Below B w w') : SlK R k w' B A n xs := h.keep hR fun _ hp => hb.cell hp
theorem SlK.more (hR : WidensK R) (h : SlK R k w B A n xs) (hB : B ≤ B') : SlK R k w B' A n xs :=
  ⟨h.1, h.2.1, fun hn => by
    obtain ⟨b, o, e, hb, hc⟩ := h.2.2 hn
    refine ⟨b, o, e, by omega, fun i x hx => ?_⟩
    obtain ⟨us, hl, hu, hr⟩ := hc i x hx
    exact ⟨us, hl, hu, hR _ _ _ _ _ hB hr⟩⟩
theorem SlK.on_ (hR : KeepsK R) (hW : WidensK R) (h : SlK R k w w.heap.size A n xs) (hb : Below w.heap.size w w') : SlK R k w' w'.heap.size A n xs :=
  (h.below hR hb).more hW hb.size
end

/-- A literal's three cells. -/
def LitC : World → Nat → List Value → Ltl → Prop := fun _ _ us l => us = [.int .i64 l.var, .int .i64 l.val, .bool l.neg]
theorem LitC.keeps : KeepsK LitC := fun _ _ _ _ _ _ h => h
theorem LitC.widens : WidensK LitC := fun _ _ _ _ _ _ h => h
abbrev LitR (w : World) (B : Nat) (A : Option Addr) (n : Nat) (xs : List Ltl) : Prop := SlK LitC 3 w B A n xs
theorem LitR.on {w w' : World} {n : Nat} {A : Option Addr} {xs : List Ltl} (h : LitR w w.heap.size A n xs) (hb : Below w.heap.size w w') : LitR w' w'.heap.size A n xs := SlK.on_ LitC.keeps LitC.widens h hb
theorem LitR.at_ {w : World} {B n i : Nat} {A : Option Addr} {xs : List Ltl} (h : LitR w B A n xs) (hi : i < n) : ∃ b o x, A = some ⟨b, o, none⟩ ∧ b < B ∧ xs[i]? = some x ∧
    w.cell? ⟨b, o + i * 3, none⟩ = some (.int .i64 x.var) ∧ w.cell? ⟨b, o + i * 3 + 1, none⟩ = some (.int .i64 x.val) ∧ w.cell? ⟨b, o + i * 3 + 2, none⟩ = some (.bool x.neg) := by
  obtain ⟨b, o, x, us, e, hb, hx, hl, hu, rfl⟩ := SlK.at_ h hi
  exact ⟨b, o, x, e, hb, hx, hu 0 _ rfl, hu 1 _ rfl, hu 2 _ rfl⟩
/-- One element of three cells of a row that is being filled: what its cells hold, and the row behind the three stores. -/
theorem fill3 {α : Type} {f : α → List Value} {w : World} {base g n c k : Nat} {e : TypeId} {z0 z1 z2 x0 x1 x2 : Value} {xs : List α} {x : α} (hf : ∀ y, (f y).length = 3) (hfx : f x = [x0, x1, x2]) (hl : xs.length = n) (hk : k < n) (hx : xs[k]? = some x)
    (ho : w.ownsRow base e 3 (.slice (some ⟨g, 0, none⟩) n c) n (fillK f [z0, z1, z2] xs n k)) :
    w.cell? ⟨g, k * 3, none⟩ = some z0 ∧ w.cell? ⟨g, k * 3 + 1, none⟩ = some z1 ∧ w.cell? ⟨g, k * 3 + 2, none⟩ = some z2 ∧
    w.frozen? ⟨g, k * 3, none⟩ = false ∧ w.frozen? ⟨g, k * 3 + 1, none⟩ = false ∧ w.frozen? ⟨g, k * 3 + 2, none⟩ = false ∧
    (((w.setCell ⟨g, k * 3, none⟩ x0).setCell ⟨g, k * 3 + 1, none⟩ x1).setCell ⟨g, k * 3 + 2, none⟩ x2).ownsRow base e 3 (.slice (some ⟨g, 0, none⟩) n c) n (fillK f [z0, z1, z2] xs n (k + 1)) := by
  obtain ⟨h1, h2⟩ := fillK_step f [z0, z1, z2] hk hx
  have hm : ((xs.take k).flatMap f).length = k * 3 := by rw [flatMap_len f 3 hf, List.length_take, Nat.min_eq_left (by omega)]
  rw [h1] at ho
  obtain ⟨a0, a1, a2⟩ := at3 _ z0 z1 z2 ((List.replicate (n - (k + 1)) [z0, z1, z2]).flatten) _ hm
  have b0 := ho.cellAt (k * 3) (by omega)
  have b1 := ho.cellAt (k * 3 + 1) (by omega)
  have b2 := ho.cellAt (k * 3 + 2) (by omega)
  rw [a0] at b0
  rw [a1] at b1
  rw [a2] at b2
  refine ⟨b0, b1, b2, ho.frozenAt _, ho.frozenAt _, ho.frozenAt _, ?_⟩
  have := (((ho.stored (k * 3) x0).1.stored (k * 3 + 1) x1).1.stored (k * 3 + 2) x2).1
  rw [set3 _ _ _ _ _ _ _ _ _ hm] at this
  rw [h2, hfx]
  exact this
theorem rep_list (l : List Value) (m : Nat) (hl : l.length = m) (hm : 0 < m) (n : Nat) : (List.range (n * m)).map (fun i => l[i % m]!) = (List.replicate n l).flatten := by
  induction n with
  | zero => simp
  | succ n ih =>
    rw [Nat.succ_mul, List.range_add, List.map_append, ih, List.replicate_succ', List.flatten_append, List.map_map]
    congr 1
    rw [List.flatten_singleton]
    refine List.ext_getElem? fun i => ?_
    rw [List.getElem?_map]
    rcases Nat.lt_or_ge i m with h | h
    · rw [List.getElem?_range h, Option.map_some, Function.comp_apply, Nat.mul_add_mod_self_right, Nat.mod_eq_of_lt h, List.getElem?_eq_getElem (by omega), List.getElem!_eq_getElem?_getD, List.getElem?_eq_getElem (by omega)]
      rfl
    · rw [List.getElem?_eq_none (by simpa using h), List.getElem?_eq_none (by omega)]
      rfl
theorem madeCells_rep (z : Array Value) (n m : Nat) (hz : z.size = m) (hm : 0 < m) : (madeCells z (n * m)).toList = (List.replicate n z.toList).flatten := by
  rw [← rep_list z.toList m (by simpa using hz) hm n]
  subst hz
  unfold madeCells
  rw [Array.toList_map, Array.toList_range]
  refine List.map_congr_left fun i _ => ?_
  rw [List.getElem!_eq_getElem?_getD, Array.getElem!_eq_getD, Array.getD_eq_getD_getElem?, Array.getElem?_toList]
theorem LitR.of_own {w : World} {n base : Nat} {e : TypeId} {v : Value} {xs : List Ltl} (hl : xs.length = n) (h : w.ownsRow base e 3 v n (xs.flatMap ltlCs)) (hn : n ≤ 9223372036854775807) : ∃ A c, v = .slice A n c ∧ LitR w w.heap.size A n xs := by
  refine (h.2).elim (fun h2 => ?_) (fun h2 => ?_)
  · obtain ⟨rfl, rfl⟩ := h2
    exact ⟨none, 0, rfl, ⟨hl, by omega, fun h => absurd h (by omega)⟩⟩
  · obtain ⟨g, cap, cur, rfl, hg, hh, hcap, hmax, hsz, ht⟩ := h2
    refine ⟨some ⟨g, 0, none⟩, cap, rfl, ⟨hl, hn, fun hn0 => ⟨_, _, rfl, (h.lt g rfl).2, fun i x hx => ⟨ltlCs x, rfl, fun j u hj => ?_, rfl⟩⟩⟩⟩
    have hi : i < xs.length := by
      rcases Nat.lt_or_ge i xs.length with h | h
      · exact h
      · rw [List.getElem?_eq_none h] at hx; cases hx
    have hj3 : j < 3 := by
      rcases Nat.lt_or_ge j 3 with h | h
      · exact h
      · rw [List.getElem?_eq_none (by simpa [ltlCs] using h)] at hj; cases hj
    have hc := h.cells (g := g) rfl (i * 3 + j) u (by rw [flatMap_at ltlCs 3 (fun _ => rfl) xs hx hj3]; exact hj)
    rw [add_own] at hc
    rw [Nat.zero_add]; exact hc

/-- A fresh slice whose elements (one cell each) are themselves fresh. -/
def OwnOf {α : Type} (e : TypeId) (In : World → Nat → Value → α → Prop) (w : World) (base : Nat) (v : Value) (xs : List α) : Prop :=
  ∃ us : List Value, us.length = xs.length ∧ w.ownsRow base e 1 v xs.length us ∧ xs.length ≤ 9223372036854775807 ∧ ∀ (i : Nat) u x, us[i]? = some u → xs[i]? = some x → In w base u x
def OwnI (e : TypeId) (w : World) (base : Nat) (v : Value) (r : List Int) : Prop := w.ownsRow base e 1 v r.length (r.map (.int .i64)) ∧ r.length ≤ 9223372036854775807
/-- What is owned stays so: when the world grows, for a lower base, and when a block of type t is written. -/
structure Stays {α : Type} (In : World → Nat → Value → α → Prop) : Prop where
  below : ∀ w w' base v x, Below w.heap.size w w' → In w base v x → In w' base v x
  base : ∀ w b b' v x, b' ≤ b → In w b v x → In w b' v x
def Shuns {α : Type} (t : TypeId) (In : World → Nat → Value → α → Prop) : Prop :=
  ∀ (w : World) base v x (g j : Nat) (cs : Array Value) fr (u : Value), w.heap[g]? = some (.cells cs t fr) → In w base v x → In (w.setCell ⟨g, j, none⟩ u) base v x
theorem own_shun {w : World} {base n size : Nat} {e t : TypeId} {v : Value} {xs : List Value} (hne : t ≠ e) {g : Nat} (j : Nat) {cs : Array Value} {fr : Nat × Nat} (u : Value) (hg : w.heap[g]? = some (.cells cs t fr)) (h : w.ownsRow base e size v n xs) : (w.setCell ⟨g, j, none⟩ u).ownsRow base e size v n xs := by
  obtain ⟨h1, h2⟩ := h
  refine ⟨h1, ?_⟩
  rcases h2 with h2 | ⟨g', cap, cur, hv, hb, hh, r⟩
  · exact .inl h2
  · refine .inr ⟨g', cap, cur, hv, hb, ?_, r⟩
    have hgg : g' ≠ g := by
      rintro rfl
      rw [hh] at hg
      injection hg with hg
      injection hg with _ ht
      exact hne ht.symm
    rw [Below.heap_setCell _ _ _ _ (by exact hgg)]
    exact hh
theorem OwnI.stays (e : TypeId) : Stays (OwnI e) := ⟨fun _ _ _ _ _ hb h => ⟨own_below h.1 hb, h.2⟩, fun _ _ _ _ _ hb h => ⟨own_base h.1 hb, h.2⟩⟩
theorem OwnI.shuns {e t : TypeId} (h : t ≠ e) : Shuns t (OwnI e) := fun _ _ _ _ _ j _ _ u hg ho => ⟨own_shun h j u hg ho.1, ho.2⟩
theorem OwnOf.stays {α : Type} {e : TypeId} {In : World → Nat → Value → α → Prop} (hI : Stays In) : Stays (OwnOf e In) :=
  ⟨fun _ _ _ _ _ hb ⟨us, h1, h2, h3, h4⟩ => ⟨us, h1, own_below h2 hb, h3, fun i u x hu hx => hI.below _ _ _ _ _ hb (h4 i u x hu hx)⟩,
   fun _ _ _ _ _ hb ⟨us, h1, h2, h3, h4⟩ => ⟨us, h1, own_base h2 hb, h3, fun i u x hu hx => hI.base _ _ _ _ _ hb (h4 i u x hu hx)⟩⟩
theorem OwnOf.shuns {α : Type} {e t : TypeId} {In : World → Nat → Value → α → Prop} (h : t ≠ e) (hI : Shuns t In) : Shuns t (OwnOf e In) :=
  fun _ _ _ _ _ j _ _ u hg ⟨us, h1, h2, h3, h4⟩ => ⟨us, h1, own_shun h j u hg h2, h3, fun i u' x hu hx => hI _ _ _ _ _ j _ _ u hg (h4 i u' x hu hx)⟩
theorem OwnI.read {e : TypeId} {w : World} {base : Nat} {v : Value} {r : List Int} (h : OwnI e w base v r) : RowC IntC w w.heap.size v r := by
  obtain ⟨A, c, hv, hr, _⟩ := IntR.of_own h.1 h.2
  exact ⟨A, c, hv, hr⟩
theorem OwnOf.read {α : Type} {e : TypeId} {In : World → Nat → Value → α → Prop} {R : World → Nat → Value → α → Prop} (hR : ∀ w base v x, In w base v x → R w w.heap.size v x) {w : World} {base : Nat} {v : Value} {xs : List α} (h : OwnOf e In w base v xs) : RowC R w w.heap.size v xs := by
  obtain ⟨us, h1, h2, h3, h4⟩ := h
  refine (h2.2).elim (fun h5 => ?_) (fun h5 => ?_)
  · obtain ⟨rfl, h6⟩ := h5
    refine ⟨none, 0, by rw [h6], rfl, h3, fun hn => absurd hn (by omega)⟩
  · obtain ⟨g, cap, cur, rfl, hg, hh, hcap, hmax, hsz, ht⟩ := h5
    refine ⟨some ⟨g, 0, none⟩, cap, rfl, rfl, h3, fun hn0 => ⟨_, _, rfl, (h2.lt g rfl).2, fun k x hx => ?_⟩⟩
    have hk : k < us.length := by
      rcases Nat.lt_or_ge k us.length with h | h
      · exact h
      · rw [List.getElem?_eq_none (by omega)] at hx; cases hx
    have hu : us[k]? = some us[k] := List.getElem?_eq_getElem hk
    have hc := h2.cells (g := g) rfl k _ hu
    rw [add_own] at hc
    exact ⟨us[k], by rw [Nat.zero_add]; exact hc, hR _ _ _ _ (h4 k _ _ hu hx)⟩
/-- A row of slices that is being filled. -/
theorem own_block {w : World} {base n size g c : Nat} {e : TypeId} {xs : List Value} (h : w.ownsRow base e size (.slice (some ⟨g, 0, none⟩) n c) n xs) : ∃ cur, w.heap[g]? = some (.cells cur e (0, 0)) := by
  rcases h.2 with ⟨h, _⟩ | ⟨g', cap, cur, hv, _, hh, _⟩
  · cases h
  · injection hv with e1 e2 e3
    injection e1 with e1
    injection e1 with e1
    subst e1
    exact ⟨cur, hh⟩
theorem fillU_at {us : List Value} {n k : Nat} {z : Value} (hl : us.length = k) (hk : k < n) : (us ++ List.replicate (n - k) z)[k]? = some z := by
  rw [List.getElem?_append_right (by omega), hl, Nat.sub_self, List.getElem?_replicate, if_pos (by omega)]
theorem fillU_set {us : List Value} {n k : Nat} {z u : Value} (hl : us.length = k) (hk : k < n) : (us ++ List.replicate (n - k) z).set k u = (us ++ [u]) ++ List.replicate (n - (k + 1)) z := by
  rw [List.set_append_right _ _ (by omega), hl, Nat.sub_self, show n - k = (n - (k + 1)) + 1 by omega, List.replicate_succ, List.set_cons_zero, List.append_assoc]
  rfl
/-- A block of cells of type t. -/
def TBlk (t : TypeId) (w : World) (b : Nat) (cs : Array Value) : Prop := w.heap[b]? = some (.cells cs t (0, 0))
section
variable {t : TypeId} {w w' : World} {b B : Nat} {cs : Array Value}
theorem TBlk.new (w : World) (cs : Array Value) (t : TypeId) : TBlk t (w.alloc (.cells cs t)) w.heap.size cs := heap_alloc_new w _
theorem TBlk.below_ (h : TBlk t w b cs) (hb : Below B w w') (hB : b < B) : TBlk t w' b cs := (hb.block b hB).trans h
theorem TBlk.at_ (h : TBlk t w b cs) (j : Nat) {u : Value} (hu : cs[j]? = some u) : w.cell? ⟨b, j, none⟩ = some u := by rw [cell_of_row w b _ _ _ _ h]; exact hu
theorem TBlk.frozen (h : TBlk t w b cs) (j : Nat) : w.frozen? ⟨b, j, none⟩ = false := frozen_of_row w b j _ _ h
theorem TBlk.far {g j : Nat} {u : Value} (h : TBlk t w b cs) (hg : b ≠ g) : TBlk t (w.setCell ⟨g, j, none⟩ u) b cs := (Below.heap_setCell w ⟨g, j, none⟩ u b hg).trans h
theorem TBlk.store (h : TBlk t w b cs) (j : Nat) (u : Value) : TBlk t (w.setCell ⟨b, j, none⟩ u) b (cs.setIfInBounds j u) := by unfold TBlk at h ⊢; simp [World.setCell, Array.getElem?_modify, h]
theorem TBlk.lt (h : TBlk t w b cs) : b < w.heap.size := (Array.getElem?_eq_some_iff.1 h).1
end
section
variable {t : TypeId} {w w' : World} {b B : Nat} {cs : Array Value}
theorem TBlk.drewN_ (h : TBlk t w b cs) (n : Nat) : TBlk t (w.drewN n) b cs := h
theorem TBlk.alloc_ (h : TBlk t w b cs) (o : Obj) : TBlk t (w.alloc o) b cs := h.below_ (b_alloc w o) h.lt
theorem TBlk.ne {t' : TypeId} {b' : Nat} {cs' : Array Value} (h : TBlk t w b cs) (h' : TBlk t' w b' cs') (hn : t ≠ t') : b ≠ b' := fun e => by
  subst e
  have h1 : w.heap[b]? = some (.cells cs t (0, 0)) := h
  have h2 : w.heap[b]? = some (.cells cs' t' (0, 0)) := h'
  rw [h1] at h2
  injection h2 with h2
  injection h2 with h3 h4 h5
  exact hn h4
end
end Go.Proofs.YtfoodlhfmcfjeaaDoor
