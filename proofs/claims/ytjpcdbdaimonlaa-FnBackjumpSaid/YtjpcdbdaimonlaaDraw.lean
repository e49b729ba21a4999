/- The reader of a law's code: what a draw gives. -/
import Derived.Test.YtjpcdbdaimonlaaDom
import Derived.Test.YtjpcdbdaimonlaaOpen
import Derived.BigQuiet
import Derived.Deep.QuietTactic
import Derived.OwnWalk
import Derived.Shelf.Abstract
import Derived.Outline
namespace Go.Proofs.Ytjpcdbdaimonlaa
open Go.ChangeShapes Go.WideShapes Go.ChangeAt Go.RowKit
open Go.Shelf
set_option linter.unusedVariables false
set_option maxRecDepth 100000

/-- A cell that is a byte. -/
def ByteC : World → Nat → Value → Int → Prop := fun _ _ u x => u = .int .u8 x ∧ 0 ≤ x ∧ x ≤ 255
theorem ByteC.keeps : Keeps ByteC := fun _ _ _ _ _ _ h => h
theorem ByteC.widens : Widens ByteC := fun _ _ _ _ _ _ h => h
abbrev ByteA (w : World) (B : Nat) (A : Option Addr) (n : Nat) (xs : List Int) : Prop := SlA ByteC w B A n xs
/-- A law's bytes. -/
def CodeA (w : World) (B : Nat) (A : Option Addr) (n c : Nat) (xs : List Int) : Prop := ByteA w B A n xs ∧ n ≤ c
theorem open_byteS {H : Type} {enc : TypeId × Value → H} {P : Program} {W : World} {base : Nat} {t e : TypeId} {v : Value} {d : DataW H} {p : List MemPlace} (ht : P.underlying t = some (.slice e)) (hi : P.underlying e = some (.int .u8)) (hk : P.cellsOf e = 1)
    (hv : Value.okWide P W .any base t v) (h : DataW.Trod enc P W 0 (fun _ => true) true t v d p) : ∃ (A : Option Addr) (n c : Nat) (xs : List Int), v = .slice A n c ∧ CodeA W W.heap.size A n c xs := by
  obtain ⟨a0, len, cap, rfl⟩ := okWide_slice ht hv
  obtain ⟨fuel, hf⟩ := h
  rcases Go.Deep.open_slice1 ht hk hf with ⟨hcs, _⟩ | ⟨a, len', cap', m, n, V, D, Pl, hcs, hb, hl, hm, hmm, hx, hi'⟩
  · simp [Value.cells] at hcs
    obtain ⟨rfl, rfl, rfl⟩ := hcs
    exact ⟨none, 0, 0, [], rfl, ⟨rfl, by simp, fun h => absurd h (by simp)⟩, by simp⟩
  · simp [Value.cells] at hcs
    obtain ⟨rfl, rfl, rfl⟩ := hcs
    have hV : ∀ i, i < len → ∃ x, V i = .int .u8 x ∧ 0 ≤ x ∧ x ≤ 255 := fun i hil => by
      obtain ⟨_, ht'⟩ := hi' i (by rw [hmm]; split <;> omega)
      obtain ⟨x, hx1, _, hwf⟩ := DataW.trod_int hi ht'
      simp at hx1
      simp [Lit.wf] at hwf
      exact ⟨x, hx1, hwf.1, hwf.2⟩
    obtain ⟨xs, hlen, hxs⟩ := list_of len (fun i y => V i = .int .u8 y ∧ 0 ≤ y ∧ y ≤ 255) hV
    refine ⟨some a, len, cap, xs, rfl, ⟨hlen, by unfold maxLen at hm; omega, fun hn => ⟨a, rfl, ?_, fun k x hkx => ?_⟩⟩, hl⟩
    · have := (hi' 0 (by rw [hmm]; split <;> omega)).1
      have h2 := cell_lt this
      rwa [block_of_add] at h2
    · have hkl : k < len := by
        rcases Nat.lt_or_ge k len with h | h
        · exact h
        · rw [List.getElem?_eq_none (by omega)] at hkx; cases hkx
      exact ⟨_, (hi' k (by rw [hmm]; split <;> omega)).1, hxs k x hkx⟩
/-- A reader in block g, at place p. -/
structure Rd (w : World) (base g : Nat) (A : Option Addr) (n c : Nat) (bs : List Int) (p : Nat) : Prop where
  block : w.heap[g]? = some (.cells #[.slice A n c, .int .i64 p] 55 (0, 0))
  base_le : base ≤ g
  bytes : ByteA w base A n bs
  small : n ≤ 2000
theorem Rd.cell0 {w : World} {base g n c p : Nat} {A : Option Addr} {bs : List Int} (h : Rd w base g A n c bs p) : w.cell? ⟨g, 0, none⟩ = some (.slice A n c) := by rw [cell_of_row w g 0 _ _ _ h.block]; rfl
theorem Rd.cell1 {w : World} {base g n c p : Nat} {A : Option Addr} {bs : List Int} (h : Rd w base g A n c bs p) : w.cell? ⟨g, 1, none⟩ = some (.int .i64 p) := by rw [cell_of_row w g 1 _ _ _ h.block]; rfl
theorem Rd.frozen {w : World} {base g n c p : Nat} {A : Option Addr} {bs : List Int} (h : Rd w base g A n c bs p) (j : Nat) : w.frozen? ⟨g, j, none⟩ = false := by simp [World.frozen?, h.block]
theorem Rd.next {w : World} {base g n c p : Nat} {A : Option Addr} {bs : List Int} (h : Rd w base g A n c bs p) : Rd (w.setCell ⟨g, 1, none⟩ (.int .i64 ((p : Int) + 1))) base g A n c bs (p + 1) := by
  refine ⟨?_, h.base_le, h.bytes.keep ByteC.keeps fun q hq => World.cell?_setCell_other w ⟨g, 1, none⟩ q _ (fun e => by subst e; have := h.base_le; simp at hq; omega), h.small⟩
  have hb := h.block
  simp [World.setCell, Array.getElem?_modify, hb]
theorem Rd.below {w w' : World} {base g n c p : Nat} {A : Option Addr} {bs : List Int} (h : Rd w base g A n c bs p) (hb : Below w.heap.size w w') (hw : base ≤ w.heap.size) : Rd w' base g A n c bs p := by
  have hg : g < w.heap.size := (Array.getElem?_eq_some_iff.1 h.block).1
  exact ⟨(hb.block g hg).trans h.block, h.base_le, h.bytes.below ByteC.keeps (hb.mono hw), h.small⟩
/-- Below block B the world w' is as w was, block g apart. -/
structure ButG (g B : Nat) (w w' : World) : Prop where
  os : w'.os = w.os
  tape : w'.tape = w.tape
  output : w'.output = w.output
  size : w.heap.size ≤ w'.heap.size
  block : ∀ k, k < B → k ≠ g → w'.heap[k]? = w.heap[k]?
theorem ButG.refl (g B : Nat) (w : World) : ButG g B w w := ⟨rfl, rfl, rfl, Nat.le_refl _, fun _ _ _ => rfl⟩
theorem ButG.trans {g B : Nat} {a b c : World} (h : ButG g B a b) (k : ButG g B b c) : ButG g B a c :=
  ⟨k.os.trans h.os, k.tape.trans h.tape, k.output.trans h.output, Nat.le_trans h.size k.size, fun i hi hg => (k.block i hi hg).trans (h.block i hi hg)⟩
theorem ButG.mono {g B B' : Nat} {w w' : World} (h : ButG g B w w') (hB : B' ≤ B) : ButG g B' w w' := ⟨h.os, h.tape, h.output, h.size, fun k hk => h.block k (Nat.lt_of_lt_of_le hk hB)⟩
theorem below_butG {B : Nat} {w w' : World} (h : Below B w w') (g : Nat) : ButG g B w w' := ⟨h.os, h.tape, h.output, h.size, fun k hk _ => h.block k hk⟩
theorem ButG.below {g B base : Nat} {w w' : World} (h : ButG g B w w') (h1 : base ≤ g) (h2 : base ≤ B) : Below base w w' := ⟨h.os, h.tape, h.output, h.size, fun k hk => h.block k (by omega) (by omega)⟩
theorem ButG.go {g : Nat} {w w1 w2 : World} (h : ButG g w.heap.size w w1) (k : ButG g w1.heap.size w1 w2) : ButG g w.heap.size w w2 := h.trans (k.mono h.size)
theorem ButG.drewN {g B : Nat} {a w : World} (h : ButG g B a w) (n : Nat) : ButG g B a (w.drewN n) := ⟨h.os, h.tape, h.output, h.size, h.block⟩
theorem ButG.set (g B j : Nat) (w : World) (u : Value) : ButG g B w (w.setCell ⟨g, j, none⟩ u) :=
  ⟨rfl, rfl, rfl, by simp, fun k _ hg => Below.heap_setCell w ⟨g, j, none⟩ u k hg⟩
theorem Rd.under {w w' : World} {base g n c p B : Nat} {A : Option Addr} {bs : List Int} (h : Rd w base g A n c bs p) (hb : Below B w w') (hg : g < B) : Rd w' base g A n c bs p :=
  ⟨(hb.block g hg).trans h.block, h.base_le, h.bytes.below ByteC.keeps (hb.mono (Nat.le_trans h.base_le (Nat.le_of_lt hg))), h.small⟩
/-- What pick(m) may give. -/
def PickR (m r : Int) : Prop := (m < 1 → r = 0) ∧ (1 ≤ m → 0 ≤ r ∧ r < m)
theorem tmod_pick {x m : Int} (h0 : 0 ≤ x) (hm : 1 ≤ m) : PickR m (x.tmod m) := by
  refine ⟨fun h => by omega, fun _ => ?_⟩
  rw [Int.tmod_eq_emod_of_nonneg h0]
  exact ⟨Int.emod_nonneg _ (by omega), Int.emod_lt_of_pos _ (by omega)⟩
/-- Small numbers, and exclusive or. -/
theorem xor_nonneg {a b : Int} (ha : 0 ≤ a) (ha1 : a < 4611686018427387904) (hb : 0 ≤ b) (hb1 : b < 4611686018427387904) : 0 ≤ bits .xor .i64 a b := by
  obtain ⟨a, rfl⟩ := Int.eq_ofNat_of_zero_le ha
  obtain ⟨b, rfl⟩ := Int.eq_ofNat_of_zero_le hb
  have h1 : a < 2^62 := by omega
  have h2 : b < 2^62 := by omega
  have h3 : a ^^^ b < 2^62 := Nat.xor_lt_two_pow h1 h2
  have e : bits .xor .i64 (a : Int) (b : Int) = IntKind.i64.wrap ((a ^^^ b : Nat) : Int) := by
    simp [Go.bits]
    rw [Nat.mod_eq_of_lt (show a < 2 ^ IntKind.i64.bits by show a < 2^64; omega), Nat.mod_eq_of_lt (show b < 2 ^ IntKind.i64.bits by show b < 2^64; omega)]
  rw [e]
  generalize a ^^^ b = c at h3
  show 0 ≤ IntKind.i64.wrap (c : Int)
  simp [IntKind.wrap, IntKind.bits]
  omega
theorem Rd.drewN {w : World} {base g n c p : Nat} {A : Option Addr} {bs : List Int} (h : Rd w base g A n c bs p) (k : Nat) : Rd (w.drewN k) base g A n c bs p :=
  ⟨h.block, h.base_le, h.bytes, h.small⟩
theorem pick (base g n c p : Nat) (A : Option Addr) (bs : List Int) (m : Int) (w : World) (h : Rd w base g A n c bs p) (hp : p ≤ 1048576) :
    Calls Try.prog 13 #[.pointer (some ⟨g, 0, none⟩), .int .i64 m] w fun e w' => ∃ r : Int, e = .returned (.int .i64 r) ∧ PickR m r ∧ Rd w' base g A n c bs (p + 1) ∧ ButG g w.heap.size w w' := by
  have hc0 := h.cell0
  have hc1 := h.cell1
  have hf1 := h.frozen 1
  have hn := h.small
  have hN := h.next
  have hB : ButG g w.heap.size w (w.setCell ⟨g, 1, none⟩ (.int .i64 ((p : Int) + 1))) := ButG.set _ _ _ _ _
  by_cases hm : m < 1
  · go_enter Try.func13, Try.ntmps13
    go_wp2_with fail
    go_ret
    exact ⟨0, rfl, ⟨fun _ => rfl, fun h => by omega⟩, hN, hB⟩
  · have hm1 : 1 ≤ m := by omega
    by_cases hn0 : n = 0
    · have hz : ((n : Int) == 0) = true := by simp; omega
      have HZ := Lib.hid hn0
      clear hn0
      go_enter Try.func13, Try.ntmps13
      go_wp2_with fail
      go_ret
      exact ⟨0, rfl, ⟨fun _ => rfl, fun _ => by omega⟩, hN, hB⟩
    · have hz : ((n : Int) == 0) = false := by simp; omega
      by_cases hpn : p < n
      · obtain ⟨ad, x, u, rfl, hab, hxk, hcx, rfl, hx0, hx1⟩ := SlA.at_ hN.bytes hpn
        clear hxk
        go_enter Try.func13, Try.ntmps13
        go_wp2_with fail
        go_ret
        refine ⟨_, rfl, ?_, hN, hB⟩
        first
          | exact tmod_pick hx0 hm1
          | exact ⟨fun h => by omega, fun _ => ⟨Int.emod_nonneg _ (by omega), Int.emod_lt_of_pos _ (by omega)⟩⟩
      · have hnp : 0 < n := by omega
        obtain ⟨ad, x, u, rfl, hab, hxk, hcx, rfl, hx0, hx1⟩ := SlA.at_ (k := p % n) hN.bytes (Nat.mod_lt _ hnp)
        obtain ⟨ad', y, u, e1, -, hyk, hcy, rfl, hy0, hy1⟩ := SlA.at_ (k := (p * 7 + 3) % n) hN.bytes (Nat.mod_lt _ hnp)
        injection e1 with e1
        subst e1
        clear hxk hyk
        have m0 : (0 : Int) ≤ (p : Int) % (n : Int) := Int.emod_nonneg _ (by omega)
        have m1 : (p : Int) % (n : Int) < (n : Int) := Int.emod_lt_of_pos _ (by omega)
        have m2 : (0 : Int) ≤ ((p : Int) * 7 + 3) % (n : Int) := Int.emod_nonneg _ (by omega)
        have m3 : ((p : Int) * 7 + 3) % (n : Int) < (n : Int) := Int.emod_lt_of_pos _ (by omega)
        have d0 : 0 ≤ (p : Int) / (n : Int) := Int.ediv_nonneg (by omega) (by omega)
        have d1 : (p : Int) / (n : Int) ≤ (p : Int) := Int.ediv_le_self _ (by omega)
        go_enter Try.func13, Try.ntmps13
        go_wp2_with fail
        go_quiet (fail)
        go_wp2_with fail
        go_ret
        refine ⟨_, rfl, tmod_pick (xor_nonneg (by omega) (by omega) ?_ ?_) hm1, hN.drewN _, hB.drewN _⟩
        · exact Int.ediv_nonneg (by omega) (by omega)
        · exact Int.lt_of_le_of_lt (Int.ediv_le_self _ (by omega)) (by omega)
theorem SlA.first {α : Type} {R : World → Nat → Value → α → Prop} {w : World} {B n : Nat} {A : Option Addr} {xs : List α} (h : SlA R w B A n xs) (k : Nat) (hk : k ≤ n) : SlA R w B A k (xs.take k) :=
  ⟨by rw [List.length_take, h.1]; omega, by have := h.2.1; omega, fun hk0 => by
    obtain ⟨ad, e, hb, hc⟩ := h.2.2 (by omega)
    refine ⟨ad, e, hb, fun i x hx => hc i x ?_⟩
    rw [List.getElem?_take] at hx
    split at hx
    · exact hx
    · cases hx⟩
theorem Rd.made {w : World} {n c : Nat} {A : Option Addr} {bs : List Int} (hb : ByteA w w.heap.size A n bs) (hn : n ≤ 2000) : Rd (w.alloc (.cells #[.slice A n c, .int .i64 0] 55)) w.heap.size w.heap.size A n c bs 0 :=
  ⟨by show (w.heap.push _)[w.heap.size]? = _; simp, Nat.le_refl _, hb.below ByteC.keeps (b_alloc _ _), hn⟩
theorem newReader (A : Option Addr) (n c : Nat) (bs : List Int) (w : World) (h : CodeA w w.heap.size A n c bs) :
    Calls Try.prog 11 #[.slice A n c] w fun e w' => ∃ g m c' bs', e = .returned (.pointer (some ⟨g, 0, none⟩)) ∧ Rd w' w.heap.size g A m c' bs' 0 ∧ Below w.heap.size w w' ∧ g < w'.heap.size := by
  obtain ⟨hb, hc⟩ := h
  by_cases hn : n ≤ 2000
  · have hd : decide ((2000 : Int) < (n : Int)) = false := decide_eq_false (by omega)
    go_enter Try.func11, Try.ntmps11
    go_wp2_with fail
    go_ret
    exact ⟨_, _, _, _, rfl, Rd.made hb hn, b_alloc _ _, by rw [size_alloc_]; omega⟩
  · have hd : decide ((2000 : Int) < (n : Int)) = true := decide_eq_true (by omega)
    have hc2 : (2000 : Int) ≤ (c : Int) := by omega
    go_enter Try.func11, Try.ntmps11
    go_wp2_with fail
    go_ret
    exact ⟨_, _, _, _, rfl, Rd.made (hb.first 2000 (by omega)) (Nat.le_refl _), b_alloc _ _, by rw [size_alloc_]; omega⟩
end Go.Proofs.Ytjpcdbdaimonlaa
