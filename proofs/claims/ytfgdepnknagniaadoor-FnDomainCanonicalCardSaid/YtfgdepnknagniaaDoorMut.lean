/- Strings that are drawn: of, mutate, DrawDecodeDomain. -/
import Derived.Test.YtfgdepnknagniaaDoorDrawA
import Derived.Test.YtfgdepnknagniaaDoorStrD
namespace Go.Proofs.YtfgdepnknagniaaDoor
open Go.ChangeShapes Go.WideShapes Go.ChangeAt Go.RowKit
open Go.Shelf
set_option linter.unusedVariables false
set_option maxRecDepth 100000

theorem ofStr (base g n c p b m c2 : Nat) (A : Option Addr) (ds : List Int) (xs : List ByteArray) (w : World) (h : Rd w base g A n c ds p) (hp : p ≤ 1048576) (hl : xs.length = m) (hm : 0 < m) (hm2 : m ≤ 1000) (hb : b ≠ g) (hbw : b < w.heap.size) (hc : ∀ i x, xs[i]? = some x → w.cell? ⟨b, i, none⟩ = some (.string x)) :
    Calls Tryd.prog 30 #[.pointer (some ⟨g, 0, none⟩), .slice (some ⟨b, 0, none⟩) m c2] w fun e w' => ∃ x : ByteArray, e = .returned (.string x) ∧ x ∈ xs ∧ Rd w' base g A n c ds (p + 1) ∧ ButG g w.heap.size w w' := by
  have HP := Lib.hid (fun k : Int => pick base g n c p A ds k w h hp)
  have HC := Lib.hid hc
  clear h hc
  go_enter Tryd.func30, Tryd.ntmps30
  go_wp2_with fail
  refine (HP.out _).mono ?_
  rintro e w1 ⟨r, rfl, ⟨-, hr⟩, hr1, hb1⟩
  obtain ⟨r0, rm⟩ := hr (by omega)
  obtain ⟨i, rfl⟩ := Int.eq_ofNat_of_zero_le r0
  obtain ⟨x, hx⟩ : ∃ x, xs[i]? = some x := ⟨_, List.getElem?_eq_getElem (by omega)⟩
  have hcell : w1.cell? ⟨b, i, none⟩ = some (.string x) := (World.cell?_of_block (w := w) (a := ⟨b, i, none⟩) (hb1.block b hbw hb)).trans (HC.out i x hx)
  have him : i < m := by omega
  have HX := Lib.hid hx
  clear hx hr r0
  go_wp2_with fail
  go_ret
  exact ⟨x, rfl, List.mem_of_getElem? HX.out, hr1, hb1⟩
set_option maxHeartbeats 2000000 in
theorem mutate (base g n c p : Nat) (A : Option Addr) (ds : List Int) (s : ByteArray) (w : World) (h : Rd w base g A n c ds p) (hp : p ≤ 900000) (hs : s.size ≤ 1000000) :
    Calls Tryd.prog 21 #[.pointer (some ⟨g, 0, none⟩), .string s] w fun e w' => ∃ (x : ByteArray) (q : Nat), e = .returned (.string x) ∧ Rd w' base g A n c ds q ∧ ButG g w.heap.size w w' := by
  have hg : g < w.heap.size := (Array.getElem?_eq_some_iff.1 h.block).1
  have H := Lib.hid h
  clear h
  go_enter Tryd.func21, Tryd.ntmps21
  go_wp2_with fail
  refine (pick base g n c p A ds _ w H.out (by omega)).mono ?_
  rintro e w1 ⟨k, rfl, ⟨-, hk⟩, hr1, hb1⟩
  obtain ⟨k0, k1⟩ := hk (by omega)
  obtain ⟨k, rfl⟩ := Int.eq_ofNat_of_zero_le k0
  have hks : k ≤ s.size := by omega
  clear hk k0 k1
  go_wp2_with fail
  refine (pick base g n c (p + 1) A ds 5 _ hr1 (by omega)).mono ?_
  rintro e w2 ⟨r, rfl, -, hr2, hb2⟩
  have hb12 := hb1.go hb2
  have s1 := hb12.size
  clear hb1 hb2 hr1
  by_cases h0 : r = 0
  · subst h0
    by_cases hlt : k < s.size
    · have hd1 : decide (k < s.size) = true := decide_eq_true hlt
      have hd2 : decide ((k : Int) < (s.size : Int)) = true := decide_eq_true (by omega)
      have hc0 : ∀ i x, ([⟨#[48] ⟩, ⟨#[49] ⟩, ⟨#[32] ⟩, ⟨#[45] ⟩, ⟨#[44] ⟩, ⟨#[10] ⟩, ⟨#[120] ⟩, ⟨#[61] ⟩] : List ByteArray)[i]? = some x → (w2.drew.alloc (.cells #[.string ⟨#[48] ⟩, .string ⟨#[49] ⟩, .string ⟨#[32] ⟩, .string ⟨#[45] ⟩, .string ⟨#[44] ⟩, .string ⟨#[10] ⟩, .string ⟨#[120] ⟩, .string ⟨#[61] ⟩] 9)).cell? ⟨w2.drew.heap.size, i, none⟩ = some (.string x) := fun i x hx => by
        rw [World.cell?_alloc_at _ _ _ _ rfl]
        match i, hx with
        | 0, hx => simp at hx; subst hx; rfl
        | 1, hx => simp at hx; subst hx; rfl
        | 2, hx => simp at hx; subst hx; rfl
        | 3, hx => simp at hx; subst hx; rfl
        | 4, hx => simp at hx; subst hx; rfl
        | 5, hx => simp at hx; subst hx; rfl
        | 6, hx => simp at hx; subst hx; rfl
        | 7, hx => simp at hx; subst hx; rfl
        | i + 8, hx => simp at hx
      have hN0 : (w2.drew.alloc (.cells #[.string ⟨#[48] ⟩, .string ⟨#[49] ⟩, .string ⟨#[32] ⟩, .string ⟨#[45] ⟩, .string ⟨#[44] ⟩, .string ⟨#[10] ⟩, .string ⟨#[120] ⟩, .string ⟨#[61] ⟩] 9)).heap.size = w2.heap.size + 1 := size_alloc_ _ _
      have hbA : Below w2.heap.size w2 (w2.drew.alloc (.cells #[.string ⟨#[48] ⟩, .string ⟨#[49] ⟩, .string ⟨#[32] ⟩, .string ⟨#[45] ⟩, .string ⟨#[44] ⟩, .string ⟨#[10] ⟩, .string ⟨#[120] ⟩, .string ⟨#[61] ⟩] 9)) := (below_drewN (Below.refl w2.heap.size w2) 1).trans (b_alloc w2.drew (.cells #[.string ⟨#[48] ⟩, .string ⟨#[49] ⟩, .string ⟨#[32] ⟩, .string ⟨#[45] ⟩, .string ⟨#[44] ⟩, .string ⟨#[10] ⟩, .string ⟨#[120] ⟩, .string ⟨#[61] ⟩] 9))
      have hr3 := hr2.under hbA (by exact Nat.lt_of_lt_of_le hg s1)
      have hb3 := below_butG hbA g
      have hE : Hid (∀ x ∈ ([⟨#[48] ⟩, ⟨#[49] ⟩, ⟨#[32] ⟩, ⟨#[45] ⟩, ⟨#[44] ⟩, ⟨#[10] ⟩, ⟨#[120] ⟩, ⟨#[61] ⟩] : List ByteArray), x.size ≤ 2) := Lib.hid (by decide)
      have HC := Lib.hid hc0
      clear hc0
      have hwk : IntKind.i64.wrap ((k : Int) + 1) = ((k + 1 : Nat) : Int) := by rw [IntWalk.i64_in _ (by omega)]; rfl
      have hk1 : 0 ≤ (k : Int) + 1 := by omega
      have hk2 : (k : Int) + 1 ≤ (s.size : Int) := by omega
      have hsa : (s.extract 0 k).size ≤ 1000000 := by simp only [ByteArray.size_extract]; omega
      have hsb : (s.extract (k + 1) s.size).size ≤ 1000000 := by simp only [ByteArray.size_extract]; omega
      go_wp2_with fail
      go_region_law (go_simp
                     go_at_call 30
                     refine (ofStr base g n c (p + 1 + 1) w2.heap.size 8 8 A ds [⟨#[48] ⟩, ⟨#[49] ⟩, ⟨#[32] ⟩, ⟨#[45] ⟩, ⟨#[44] ⟩, ⟨#[10] ⟩, ⟨#[120] ⟩, ⟨#[61] ⟩] _ hr3 (by omega) rfl (by omega) (by omega) (by omega) (by rw [hN0]; omega) HC.out).mono ?_
                     rintro e w3 ⟨x, rfl, hx, hr4, hb4⟩
                     have hx2 := hE.out x hx
                     have hq1 : ¬ (9223372036854775807 < (s.extract 0 k).size + x.size) := by omega
                     have hq3 : ¬ (9223372036854775807 < k + x.size) := by omega
                     have hq4 : ¬ (9223372036854775807 < k + x.size + (s.size - (k + 1))) := by omega
                     have hq2 : ¬ (9223372036854775807 < (s.extract 0 k ++ x).size + (s.extract (k + 1) s.size).size) := by rw [ByteArray.size_append]; omega)
      all_goals
        have hb5 := (hb12.go hb3).go hb4
        clear hN0 hr3 hb3 hb4 HC
        go_wp2_with fail
        go_ret
        exact ⟨_, _, rfl, hr4, hb5⟩
    · have hd1 : decide (k < s.size) = false := decide_eq_false hlt
      have hd2 : decide ((k : Int) < (s.size : Int)) = false := decide_eq_false (by omega)
      go_wp2_with fail
      go_ret
      exact ⟨_, _, rfl, hr2, hb12⟩
  · have n0 : (r == 0) = false := by simpa using h0
    by_cases h1 : r = 1
    · subst h1
      go_wp2_with fail
      go_ret
      exact ⟨_, _, rfl, hr2, hb12⟩
    · have n1 : (r == 1) = false := by simpa using h1
      by_cases h2 : r = 2
      · subst h2
        have hc0 : ∀ i x, ([⟨#[48] ⟩, ⟨#[32] ⟩, ⟨#[10] ⟩, ⟨#[44, 49] ⟩, ⟨#[120] ⟩] : List ByteArray)[i]? = some x → (w2.alloc (.cells #[.string ⟨#[48] ⟩, .string ⟨#[32] ⟩, .string ⟨#[10] ⟩, .string ⟨#[44, 49] ⟩, .string ⟨#[120] ⟩] 9)).cell? ⟨w2.heap.size, i, none⟩ = some (.string x) := fun i x hx => by
          rw [World.cell?_alloc_at _ _ _ _ rfl]
          match i, hx with
          | 0, hx => simp at hx; subst hx; rfl
          | 1, hx => simp at hx; subst hx; rfl
          | 2, hx => simp at hx; subst hx; rfl
          | 3, hx => simp at hx; subst hx; rfl
          | 4, hx => simp at hx; subst hx; rfl
          | i + 5, hx => simp at hx
        have hN0 : (w2.alloc (.cells #[.string ⟨#[48] ⟩, .string ⟨#[32] ⟩, .string ⟨#[10] ⟩, .string ⟨#[44, 49] ⟩, .string ⟨#[120] ⟩] 9)).heap.size = w2.heap.size + 1 := size_alloc_ _ _
        have hr3 := hr2.under (b_alloc w2 (.cells #[.string ⟨#[48] ⟩, .string ⟨#[32] ⟩, .string ⟨#[10] ⟩, .string ⟨#[44, 49] ⟩, .string ⟨#[120] ⟩] 9)) (by exact Nat.lt_of_lt_of_le hg s1)
        have hb3 := below_butG (b_alloc w2 (.cells #[.string ⟨#[48] ⟩, .string ⟨#[32] ⟩, .string ⟨#[10] ⟩, .string ⟨#[44, 49] ⟩, .string ⟨#[120] ⟩] 9)) g
        have hE : Hid (∀ x ∈ ([⟨#[48] ⟩, ⟨#[32] ⟩, ⟨#[10] ⟩, ⟨#[44, 49] ⟩, ⟨#[120] ⟩] : List ByteArray), x.size ≤ 2) := Lib.hid (by decide)
        have HC := Lib.hid hc0
        clear hc0
        go_wp2_with fail
        refine (ofStr base g n c (p + 1 + 1) w2.heap.size 5 5 A ds [⟨#[48] ⟩, ⟨#[32] ⟩, ⟨#[10] ⟩, ⟨#[44, 49] ⟩, ⟨#[120] ⟩] _ hr3 (by omega) rfl (by omega) (by omega) (by omega) (by rw [hN0]; omega) HC.out).mono ?_
        rintro e w3 ⟨x, rfl, hx, hr4, hb4⟩
        have hx2 := hE.out x hx
        have hb5 := (hb12.go hb3).go hb4
        clear hN0 hr3 hb3 hb4 HC
        go_wp2_with fail
        go_ret
        exact ⟨_, _, rfl, hr4, hb5⟩
      · have n2 : (r == 2) = false := by simpa using h2
        go_wp2_with fail
        go_ret
        exact ⟨_, _, rfl, hr2, hb12⟩
theorem drawDecodeDomain (A : Option Addr) (n c : Nat) (ds : List Int) (w : World) (h : CodeA w w.heap.size A n c ds) :
    Calls Tryd.prog 13 #[.slice A n c] w fun e w' => ∃ x : ByteArray, e = .returned (.string x) ∧ Below w.heap.size w w' := by
  have HN := newReader A n c ds w h
  go_enter Tryd.func13, Tryd.ntmps13
  go_wp2_with fail
  refine HN.mono ?_
  rintro e w1 ⟨g, m, c', bs', rfl, hr, hb1, hg⟩
  go_wp2_with fail
  refine (anyDomain _ g m c' 0 A bs' w1 hr (by omega)).mono ?_
  rintro e w2 ⟨x, q, rfl, hx, hq, hr2, hb2⟩
  go_wp2_with fail
  refine (sEncodeDomain _ _).mono ?_
  rintro e w3 ⟨rfl, hb3⟩
  have hgs : g < w2.heap.size := (Array.getElem?_eq_some_iff.1 hr2.block).1
  have hr3 := hr2.under hb3 hgs
  have hbg := hb2.go (below_butG hb3 g)
  have hes : (bs (encO x)).size ≤ 64 := by
    rw [bs_size]
    unfold encO
    split
    · rename_i hv
      have hb := inB_true hv
      have := (enc_len ⟨x.toNat, by omega⟩).1
      rwa [show ((⟨x.toNat, by omega⟩ : Fin 64).val : Int) = x by show ((x.toNat : Nat) : Int) = x; omega] at this
    · simp
  generalize bs (encO x) = s at *
  clear hr2 hb2 hb3
  go_wp2_with fail
  refine (pick _ g m c' q A bs' 2 w3 hr3 (by omega)).mono ?_
  rintro e w4 ⟨r, rfl, -, hr4, hb4⟩
  by_cases h0 : r = 0
  · subst h0
    go_wp2_with fail
    go_ret
    exact ⟨_, rfl, hb1.trans ((hbg.go hb4).below hr.base_le hb1.size)⟩
  · have n0 : (r == 0) = false := by simpa using h0
    go_wp2_with fail
    refine (mutate _ g m c' (q + 1) A bs' s w4 hr4 (by omega) (by omega)).mono ?_
    rintro e w5 ⟨y, q2, rfl, hr5, hb5⟩
    go_wp2_with fail
    go_ret
    exact ⟨_, rfl, hb1.trans (((hbg.go hb4).go hb5).below hr.base_le hb1.size)⟩
end Go.Proofs.YtfgdepnknagniaaDoor
