/- Draws of domains, and of the arguments of UnitPropagate. -/
import Derived.Test.YtldpcocnhpeadaaDrawC
namespace Go.Proofs.Ytldpcocnhpeadaa
open Go.ChangeShapes Go.WideShapes Go.ChangeAt Go.RowKit
open Go.Shelf
set_option linter.unusedVariables false
set_option maxRecDepth 100000

set_option maxHeartbeats 4000000 in
theorem randomDomain (base g n c p : Nat) (A : Option Addr) (bs : List Int) (w : World) (h : Rd w base g A n c bs p) (hp : p ≤ 1000000) :
    Calls Try.prog 112 #[.pointer (some ⟨g, 0, none⟩)] w fun e w' => ∃ (x : Int) (q : Nat), e = .returned (.int .i64 x) ∧ (0 ≤ x ∧ x ≤ 63) ∧ q ≤ p + 3 ∧ Rd w' base g A n c bs q ∧ ButG g w.heap.size w w' := by
  have H := Lib.hid h
  clear h
  go_enter Try.func112, Try.ntmps112
  go_wp2_with fail
  refine (pick base g n c p A bs 4 w H.out (by omega)).mono ?_
  rintro e w1 ⟨r, rfl, -, hr1, hb1⟩
  by_cases h0 : r = 0
  · subst h0
    go_wp2_with fail
    go_ret
    exact ⟨63, _, rfl, by omega, by omega, hr1, hb1⟩
  · have n0 : (r == 0) = false := by simpa using h0
    by_cases h1 : r = 1
    · subst h1
      go_wp2_with fail
      refine (pick base g n c (p + 1) A bs 3 _ hr1 (by omega)).mono ?_
      rintro e w2 ⟨lo, rfl, -, hr2, hb2⟩
      go_wp2_with fail
      refine (pick base g n c (p + 1 + 1) A bs 4 _ hr2 (by omega)).mono ?_
      rintro e w3 ⟨hi, rfl, ⟨-, hhi⟩, hr3, hb3⟩
      obtain ⟨hi0, hi1⟩ := hhi (by omega)
      clear hhi
      go_wp2_with fail
      refine (sDomainRange _ _ _).mono ?_
      rintro e w4 ⟨rfl, rfl⟩
      go_wp2_with fail
      go_ret
      exact ⟨_, _, rfl, drTo_63 _ _ 6 (by omega), by omega, hr3, (hb1.go hb2).go hb3⟩
    · have n1 : (r == 1) = false := by simpa using h1
      by_cases h2 : r = 2
      · subst h2
        go_wp2_with fail
        refine (pick base g n c (p + 1) A bs 6 _ hr1 (by omega)).mono ?_
        rintro e w2 ⟨k, rfl, ⟨-, hk⟩, hr2, hb2⟩
        obtain ⟨k0, k1⟩ := hk (by omega)
        obtain ⟨k, rfl⟩ := Int.eq_ofNat_of_zero_le k0
        have hk6 : k < 6 := by omega
        have hp2 := pow_le5 k hk6
        clear hk k0 k1
        go_wp2_with fail
        go_ret
        exact ⟨_, _, rfl, by omega, by omega, hr2, hb1.go hb2⟩
      · have n2 : (r == 2) = false := by simpa using h2
        go_wp2_with fail
        refine (pick base g n c (p + 1) A bs 63 _ hr1 (by omega)).mono ?_
        rintro e w2 ⟨k, rfl, ⟨-, hk⟩, hr2, hb2⟩
        obtain ⟨k0, k1⟩ := hk (by omega)
        clear hk
        go_wp2_with fail
        go_ret
        exact ⟨_, _, rfl, by omega, by omega, hr2, hb1.go hb2⟩
set_option maxHeartbeats 4000000 in
theorem anyDomain (base g n c p : Nat) (A : Option Addr) (bs : List Int) (w : World) (h : Rd w base g A n c bs p) (hp : p ≤ 900000) :
    Calls Try.prog 81 #[.pointer (some ⟨g, 0, none⟩)] w fun e w' => ∃ (x : Int) (q : Nat), e = .returned (.int .i64 x) ∧ (-1 ≤ x ∧ x ≤ 255) ∧ q ≤ p + 4 ∧ Rd w' base g A n c bs q ∧ ButG g w.heap.size w w' := by
  have hg : g < w.heap.size := (Array.getElem?_eq_some_iff.1 h.block).1
  have H := Lib.hid h
  clear h
  go_enter Try.func81, Try.ntmps81
  go_wp2_with fail
  refine (pick base g n c p A bs 10 w H.out (by omega)).mono ?_
  rintro e w1 ⟨r, rfl, -, hr1, hb1⟩
  have s1 := hb1.size
  by_cases h0 : r = 0
  · subst h0
    go_wp2_with fail
    have hN0 : (w1.alloc (.cells #[.int .i64 0, .int .i64 (-1), .int .i64 64, .int .i64 255] 3)).heap.size = w1.heap.size + 1 := size_alloc_ _ _
    have hc0 : ∀ i x, ([0, -1, 64, 255] : List Int)[i]? = some x → (w1.alloc (.cells #[.int .i64 0, .int .i64 (-1), .int .i64 64, .int .i64 255] 3)).cell? ⟨w1.heap.size, i, none⟩ = some (.int .i64 x) := fun i x hx => by
      rw [World.cell?_alloc_at _ _ _ _ rfl]
      match i, hx with
      | 0, hx => simp at hx; subst hx; rfl
      | 1, hx => simp at hx; subst hx; rfl
      | 2, hx => simp at hx; subst hx; rfl
      | 3, hx => simp at hx; subst hx; rfl
      | i + 4, hx => simp at hx
    refine (one base g n c (p + 1) w1.heap.size 4 4 A bs [0, -1, 64, 255] _ (hr1.under (b_alloc _ _) (by omega)) (by omega) rfl (by omega) (by omega) (by omega) (by omega) hc0).mono ?_
    rintro e w3 ⟨x1, rfl, hx1, hr3, hb3⟩
    have hb23 := hb1.go ((below_butG (b_alloc w1 (.cells #[.int .i64 0, .int .i64 (-1), .int .i64 64, .int .i64 255] 3)) g).go hb3)
    have hxb : -1 ≤ x1 ∧ x1 ≤ 255 := by
      simp at hx1
      omega
    clear hc0 hN0 hb3 hx1
    go_wp2_with fail
    go_ret
    exact ⟨x1, _, rfl, hxb, by omega, hr3, hb23⟩
  · have n0 : (r == 0) = false := by simpa using h0
    go_wp2_with fail
    refine (randomDomain base g n c (p + 1) A bs _ hr1 (by omega)).mono ?_
    rintro e w2 ⟨x, q, rfl, hx, hq, hr2, hb2⟩
    go_wp2_with fail
    go_ret
    exact ⟨x, q, rfl, by omega, by omega, hr2, hb1.go hb2⟩
set_option maxHeartbeats 4000000 in
theorem drawUnitPropagate (A : Option Addr) (n c : Nat) (bs : List Int) (w : World) (h : CodeA w w.heap.size A n c bs) :
    Calls Try.prog 36 #[.slice A n c] w fun e w' => ∃ (v1 v2 : Value) (xs : List Ltl) (ds : List Int), e = .returned (.tuple #[v1, v2]) ∧ (xs.length ≤ 4 ∧ 1 ≤ ds.length ∧ ds.length ≤ 4) ∧ w'.ownsRow w.heap.size 41 3 v1 xs.length (xs.flatMap ltlCs) ∧ w'.ownsRow w.heap.size 3 1 v2 ds.length (ds.map (.int .i64)) ∧ Below w.heap.size w w' := by
  obtain ⟨i0, hi0, hz0, hz1, hz2⟩ := info_parts info_int
  have HN := newReader A n c bs w h
  go_enter Try.func36, Try.ntmps36
  go_wp2_with fail
  refine HN.mono ?_
  rintro e w1 ⟨g, m, c', bs', rfl, hr, hb1, hg⟩
  go_wp2_with fail
  refine (pick _ g m c' 0 A bs' 4 w1 hr (by omega)).mono ?_
  rintro e w2 ⟨r, rfl, ⟨-, hr2⟩, hq2, hb2⟩
  obtain ⟨r0, r1⟩ := hr2 (by omega)
  obtain ⟨k, rfl⟩ := Int.eq_ofNat_of_zero_le r0
  have hk5 : k < 4 := by omega
  have s1 := hb1.size
  have s2 := hb2.size
  clear hr r0 r1 hr2 HN
  go_wp2_with fail
  obtain ⟨j, hj⟩ : ∃ j : Nat, j = 1 + k := ⟨_, rfl⟩
  have e1 : (1 + (k : Int)) = (j : Int) := by omega
  rw [e1]
  have hj1 : 1 ≤ j := by omega
  have hj4 : j ≤ 4 := by omega
  clear e1 hj hk5
  have ol : (w2.alloc (.cells #[] 3)).ownsRow w2.heap.size 3 1 (.slice (some ⟨w2.heap.size, 0, none⟩) 0 0) 0 (([] : List Int).map (.int .i64)) := World.ownsRow_lit w2 #[] 0 (Nat.le_refl _) (by decide) rfl
  have hb02 : ButG g w1.heap.size w1 (w2.alloc (.cells #[] 3)) := hb2.go (below_butG (b_alloc _ _) g)
  have hr02 := hq2.under (b_alloc w2 (.cells #[] 3)) (by omega)
  go_loopw [6, 7] (fun v i wr => ∃ (k q : Nat) (v' : Value) (ds : List Int), k ≤ j ∧ i = .int .i64 k ∧ v' = v ∧ Hid (ds.length = k) ∧ q ≤ 1 + 4 * k ∧ Hid (wr.ownsRow w2.heap.size 3 1 v' k (ds.map (.int .i64))) ∧ Rd wr w.heap.size g A m c' bs' q ∧ ButG g w1.heap.size w1 wr ∧ w2.heap.size ≤ wr.heap.size) (fun _ i _ => j - (intOf i).toNat)
  case atStart => exact ⟨0, 1, _, [], by omega, rfl, rfl, Lib.hid rfl, by omega, ol, hr02, hb02, le_alloc _ _⟩
  case round =>
    obtain ⟨k, q, v, ds, hk, rfl, rfl, hl, hqk, hq, hr, hb, hws⟩ := hrel
    clear ol hb02 hr02
    by_cases hlt : k < j
    · go_wp2_with fail
      refine (anyDomain _ g m c' q A bs' _ hr (by omega)).mono ?_
      rintro e w3 ⟨x, q2, rfl, -, hqq, hr3, hb3⟩
      have s3 := hb3.size
      have ho3 := own_butG hq.out hb3 (by omega)
      have hB3 := hb.trans (hb3.mono (B' := w1.heap.size) (by omega))
      clear hq hr
      go_wp2_with (at_builtin; refine wpList_append_any rfl _ _ 23 rfl w2.heap.size 3 i0 _ 1 8 Try.underlying23 hi0 hz0 hz1 hz2 rfl (by decide) v _ _ rfl (own_below ho3 (b_alloc _ _)) (some ⟨w3.heap.size, 0, none⟩) 1 1 [.int .i64 x] rfl (.inr ⟨_, rfl, rfl, cell_one_new _ _ _⟩) (by simp [Value.oneCell']) (by unfold maxLen; omega) (by omega) (by rw [size_alloc_]; omega) ?_; intro v7 w7 ho7 hb7 _ _)
      have hb8 : Below w2.heap.size w3 w7 := ((Below.refl _ _).alloc (by omega) _).trans hb7
      have ho8 : w7.ownsRow w2.heap.size 3 1 v7 (k + 1) ((ds ++ [x]).map (.int .i64)) := by simpa using ho7
      have hl8 : (ds ++ [x]).length = k + 1 := by rw [List.length_append, hl.out]; rfl
      have s7 := hb8.size
      clear ho7 hb7
      go_roundw
      case rel => exact ⟨k + 1, q2, v7, _, by omega, by go_num, rfl, hl8, by omega, ho8, hr3.under hb8 (by omega), hB3.trans (below_butG (hb8.mono (by omega)) g), by omega⟩
      case measure => simp [intOf]; omega
    · obtain rfl : k = j := by omega
      have s3 := hb.size
      go_wp2_with fail
      refine (anyClause _ g m c' q A bs' k _ hr (by omega) (by omega) (by omega)).mono ?_
      rintro e w4 ⟨v1, xs, q3, rfl, -, hx4, -, ho4, hr4, hb4⟩
      have s4 := hb4.size
      have od := own_base (base' := w.heap.size) (own_butG hq.out hb4 (by omega)) (by omega)
      have oc := own_base (base' := w.heap.size) ho4 (by omega)
      have hB : Below w.heap.size w w4 := hb1.trans ((hb.trans (hb4.mono (B' := w1.heap.size) (by omega))).below hr4.base_le s1)
      have OD := Lib.hid od
      have OC := Lib.hid oc
      clear od oc hq hr ho4 hr4
      go_wp2_with fail
      exact bodyPost_ret (v := .tuple #[v1, v]) (by simp [results, Try.results36, go_sem]) rfl ⟨v1, v, xs, ds, rfl, ⟨hx4, by have := hl.out; omega, by have := hl.out; omega⟩, OC.out, by rw [hl.out]; exact OD.out, hB⟩
end Go.Proofs.Ytldpcocnhpeadaa
