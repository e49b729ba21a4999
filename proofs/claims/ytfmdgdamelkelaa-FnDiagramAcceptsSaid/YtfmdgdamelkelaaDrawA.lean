/- Draws of single domains. -/
import Derived.Test.YtfmdgdamelkelaaDraw
import Derived.Test.YtfmdgdamelkelaaInts
namespace Go.Proofs.Ytfmdgdamelkelaa
open Go.ChangeShapes Go.WideShapes Go.ChangeAt Go.RowKit
open Go.Shelf
set_option linter.unusedVariables false
set_option maxRecDepth 100000

theorem one (base g n c p b m c2 : Nat) (A : Option Addr) (bs : List Int) (xs : List Int) (w : World) (h : Rd w base g A n c bs p) (hp : p ≤ 1048576) (hl : xs.length = m) (hm : 0 < m) (hm2 : m ≤ 1000) (hb : b ≠ g) (hbw : b < w.heap.size) (hc : ∀ i x, xs[i]? = some x → w.cell? ⟨b, i, none⟩ = some (.int .i64 x)) :
    Calls Try.prog 111 #[.pointer (some ⟨g, 0, none⟩), .slice (some ⟨b, 0, none⟩) m c2] w fun e w' => ∃ x : Int, e = .returned (.int .i64 x) ∧ x ∈ xs ∧ Rd w' base g A n c bs (p + 1) ∧ ButG g w.heap.size w w' := by
  have HP := Lib.hid (fun k : Int => pick base g n c p A bs k w h hp)
  have HC := Lib.hid hc
  clear h hc
  go_enter Try.func111, Try.ntmps111
  go_wp2_with fail
  refine (HP.out _).mono ?_
  rintro e w1 ⟨r, rfl, ⟨-, hr⟩, hr1, hb1⟩
  obtain ⟨r0, rm⟩ := hr (by omega)
  obtain ⟨i, rfl⟩ := Int.eq_ofNat_of_zero_le r0
  obtain ⟨x, hx⟩ : ∃ x, xs[i]? = some x := ⟨_, List.getElem?_eq_getElem (by omega)⟩
  have hcell : w1.cell? ⟨b, i, none⟩ = some (.int .i64 x) := (World.cell?_of_block (w := w) (a := ⟨b, i, none⟩) (hb1.block b hbw hb)).trans (HC.out i x hx)
  have him : i < m := by omega
  have HX := Lib.hid hx
  clear hx hr r0
  go_wp2_with fail
  go_ret
  exact ⟨x, rfl, List.mem_of_getElem? HX.out, hr1, hb1⟩
set_option maxHeartbeats 4000000 in
theorem randomDomain (base g n c p : Nat) (A : Option Addr) (bs : List Int) (w : World) (h : Rd w base g A n c bs p) (hp : p ≤ 1000000) :
    Calls Try.prog 95 #[.pointer (some ⟨g, 0, none⟩)] w fun e w' => ∃ (x : Int) (q : Nat), e = .returned (.int .i64 x) ∧ (0 ≤ x ∧ x ≤ 63) ∧ q ≤ p + 3 ∧ Rd w' base g A n c bs q ∧ ButG g w.heap.size w w' := by
  have H := Lib.hid h
  clear h
  go_enter Try.func95, Try.ntmps95
  go_wp2_with fail
  refine (pick base g n c p A bs 4 w H.out (by omega)).mono ?_
  rintro e w1 ⟨r, rfl, -, hr1, hb1⟩
  by_cases h0 : r = 0
  · subst h0
    go_wp2_with fail
    go_ret
    exact ⟨63, _, rfl, by omega, by omega, hr1, hb1⟩
  · have n0 : (r == 0) = false := by simpa using h0
    by_cases h1 : r = 1
    · subst h1
      go_wp2_with fail
      refine (pick base g n c (p + 1) A bs 3 _ hr1 (by omega)).mono ?_
      rintro e w2 ⟨lo, rfl, -, hr2, hb2⟩
      go_wp2_with fail
      refine (pick base g n c (p + 1 + 1) A bs 4 _ hr2 (by omega)).mono ?_
      rintro e w3 ⟨hi, rfl, ⟨-, hhi⟩, hr3, hb3⟩
      obtain ⟨hi0, hi1⟩ := hhi (by omega)
      clear hhi
      go_wp2_with fail
      refine (sDomainRange _ _ _).mono ?_
      rintro e w4 ⟨rfl, rfl⟩
      go_wp2_with fail
      go_ret
      exact ⟨_, _, rfl, drTo_63 _ _ 6 (by omega), by omega, hr3, (hb1.go hb2).go hb3⟩
    · have n1 : (r == 1) = false := by simpa using h1
      by_cases h2 : r = 2
      · subst h2
        go_wp2_with fail
        refine (pick base g n c (p + 1) A bs 6 _ hr1 (by omega)).mono ?_
        rintro e w2 ⟨k, rfl, ⟨-, hk⟩, hr2, hb2⟩
        obtain ⟨k0, k1⟩ := hk (by omega)
        obtain ⟨k, rfl⟩ := Int.eq_ofNat_of_zero_le k0
        have hk6 : k < 6 := by omega
        have hp2 := pow_le5 k hk6
        clear hk k0 k1
        go_wp2_with fail
        go_ret
        exact ⟨_, _, rfl, by omega, by omega, hr2, hb1.go hb2⟩
      · have n2 : (r == 2) = false := by simpa using h2
        go_wp2_with fail
        refine (pick base g n c (p + 1) A bs 63 _ hr1 (by omega)).mono ?_
        rintro e w2 ⟨k, rfl, ⟨-, hk⟩, hr2, hb2⟩
        obtain ⟨k0, k1⟩ := hk (by omega)
        clear hk
        go_wp2_with fail
        go_ret
        exact ⟨_, _, rfl, by omega, by omega, hr2, hb1.go hb2⟩
set_option maxHeartbeats 4000000 in
theorem anyDomain (base g n c p : Nat) (A : Option Addr) (bs : List Int) (w : World) (h : Rd w base g A n c bs p) (hp : p ≤ 900000) :
    Calls Try.prog 96 #[.pointer (some ⟨g, 0, none⟩)] w fun e w' => ∃ (x : Int) (q : Nat), e = .returned (.int .i64 x) ∧ (-1 ≤ x ∧ x ≤ 255) ∧ q ≤ p + 4 ∧ Rd w' base g A n c bs q ∧ ButG g w.heap.size w w' := by
  have hg : g < w.heap.size := (Array.getElem?_eq_some_iff.1 h.block).1
  have H := Lib.hid h
  clear h
  go_enter Try.func96, Try.ntmps96
  go_wp2_with fail
  refine (pick base g n c p A bs 10 w H.out (by omega)).mono ?_
  rintro e w1 ⟨r, rfl, -, hr1, hb1⟩
  have s1 := hb1.size
  by_cases h0 : r = 0
  · subst h0
    go_wp2_with fail
    have hN0 : (w1.alloc (.cells #[.int .i64 0, .int .i64 (-1), .int .i64 64, .int .i64 255] 3)).heap.size = w1.heap.size + 1 := size_alloc_ _ _
    have hc0 : ∀ i x, ([0, -1, 64, 255] : List Int)[i]? = some x → (w1.alloc (.cells #[.int .i64 0, .int .i64 (-1), .int .i64 64, .int .i64 255] 3)).cell? ⟨w1.heap.size, i, none⟩ = some (.int .i64 x) := fun i x hx => by
      rw [World.cell?_alloc_at _ _ _ _ rfl]
      match i, hx with
      | 0, hx => simp at hx; subst hx; rfl
      | 1, hx => simp at hx; subst hx; rfl
      | 2, hx => simp at hx; subst hx; rfl
      | 3, hx => simp at hx; subst hx; rfl
      | i + 4, hx => simp at hx
    refine (one base g n c (p + 1) w1.heap.size 4 4 A bs [0, -1, 64, 255] _ (hr1.under (b_alloc _ _) (by omega)) (by omega) rfl (by omega) (by omega) (by omega) (by omega) hc0).mono ?_
    rintro e w3 ⟨x1, rfl, hx1, hr3, hb3⟩
    have hb23 := hb1.go ((below_butG (b_alloc w1 (.cells #[.int .i64 0, .int .i64 (-1), .int .i64 64, .int .i64 255] 3)) g).go hb3)
    have hxb : -1 ≤ x1 ∧ x1 ≤ 255 := by
      simp at hx1
      omega
    clear hc0 hN0 hb3 hx1
    go_wp2_with fail
    go_ret
    exact ⟨x1, _, rfl, hxb, by omega, hr3, hb23⟩
  · have n0 : (r == 0) = false := by simpa using h0
    go_wp2_with fail
    refine (randomDomain base g n c (p + 1) A bs _ hr1 (by omega)).mono ?_
    rintro e w2 ⟨x, q, rfl, hx, hq, hr2, hb2⟩
    go_wp2_with fail
    go_ret
    exact ⟨x, q, rfl, by omega, by omega, hr2, hb1.go hb2⟩
end Go.Proofs.Ytfmdgdamelkelaa
