/- Marks and the looks at them, over sites. -/
import Derived.Test.YtcghhnajjmnkkaaSites
namespace Go.Proofs.Ytcghhnajjmnkkaa
open Go.ChangeShapes Go.WideShapes Go.ChangeAt Go.RowKit
open Go.Shelf
set_option linter.unusedVariables false
set_option maxRecDepth 100000

set_option maxHeartbeats 4000000 in
theorem markIntW (A : Option Addr) (n c lo : Nat) (k : Int) (S : List (Nat × Nat)) (w : World) (h : SI lo w A n S) (h0 : 0 ≤ k) (h1 : k + S.length ≤ 4611686018427387904) :
    Calls Try.prog 51 #[.slice A n c, .int .i64 k] w fun e w' => e = .returned (.int .i64 (k + S.length)) ∧ Wr lo w w' S k := by
  have hl := h.len
  rw [hl] at h1 ⊢
  have H := Lib.hid h
  have HL := Lib.hid hl
  clear h hl
  go_enter Try.func51, Try.ntmps51
  go_wp2_with fail
  go_loopw [1, 5] (fun t i wr => ∃ j : Nat, j ≤ n ∧ i = .int .i64 j ∧ t = .int .i64 (k + j) ∧ Hid (Wr lo w wr (S.take j) k)) (fun _ i _ => n - (intOf i).toNat)
  case atStart => exact ⟨0, by omega, rfl, by simp, Wr.refl _ _ _⟩
  case round =>
    obtain ⟨j, hj, rfl, rfl, hq⟩ := hrel
    by_cases hlt : j < n
    · rcases H.out.keep hq.out.keep with h | ⟨g, cs, t, rfl, hg1, hg3, hg4, hS⟩
      · omega
      obtain ⟨x, hx⟩ := hg4 j hlt
      have hc : wr.cell? ⟨g, j, none⟩ = some (.int .i64 x) := by rw [cell_of_row wr g j cs t _ hg3]; exact hx
      have hf := frozen_of_row wr g j cs t hg3
      have hs1 : S[j]? = some (g, j) := by rw [hS]; exact seg_at hlt
      have hK := Lib.hid (show Wr lo w (wr.setCell ⟨g, j, none⟩ (.int .i64 (k + j))) (S.take (j + 1)) k by
        rw [take_snoc hs1]
        exact hq.out.trans (Wr.store hg1 hg3 hx) (by rw [List.length_take, HL.out, Nat.min_eq_left (by omega)]))
      clear hg3 hg4 hx hS hs1
      have hadd : wrap64 (k + j + 1) = k + (j + 1 : Nat) := by rw [IntWalk.wrap64_in _ ⟨by omega, by omega⟩]; omega
      go_wp2_with fail
      go_roundw
      case rel => exact ⟨j + 1, by omega, by go_num, by simp; omega, hK⟩
      case measure => simp [intOf]; omega
    · obtain rfl : n = j := by omega
      have ht : S.take n = S := List.take_of_length_le (by rw [HL.out]; omega)
      rw [ht] at hq
      go_wp2_with fail
      go_ret
      exact ⟨rfl, hq.out⟩
set_option maxHeartbeats 4000000 in
theorem markIntSSW (A : Option Addr) (n c lo : Nat) (k : Int) (Ss : List (List (Nat × Nat))) (w : World) (h : SRows lo w A n Ss) (hn : n ≤ 1048576) (h0 : 0 ≤ k) (h1 : k + Ss.flatten.length ≤ 4611686018427387904) :
    Calls Try.prog 53 #[.slice A n c, .int .i64 k] w fun e w' => e = .returned (.int .i64 (k + Ss.flatten.length)) ∧ Wr lo w w' Ss.flatten k := by
  have H := Lib.hid h
  have HL := Lib.hid h.1
  have HB := Lib.hid (fun j => flat_le Ss j)
  clear h
  go_enter Try.func53, Try.ntmps53
  go_wp2_with fail
  go_loopw [1, 5] (fun t i wr => ∃ j : Nat, j ≤ n ∧ i = .int .i64 j ∧ t = .int .i64 (k + (Ss.take j).flatten.length) ∧ Hid (Wr lo w wr (Ss.take j).flatten k)) (fun _ i _ => n - (intOf i).toNat)
  case atStart => exact ⟨0, by omega, rfl, by simp, Wr.refl _ _ _⟩
  case round =>
    obtain ⟨j, hj, rfl, rfl, hq⟩ := hrel
    by_cases hlt : j < n
    · obtain ⟨-, h⟩ := H.out.keep hq.out.keep
      rcases h with h | ⟨g, cs, t, rfl, hg3, hg4⟩
      · omega
      obtain ⟨S, hS⟩ : ∃ S, Ss[j]? = some S := ⟨_, List.getElem?_eq_getElem (by rw [HL.out]; exact hlt)⟩
      obtain ⟨A', n', c', hx, hi'⟩ := hg4 j S hS
      have hc : wr.cell? ⟨g, j, none⟩ = some (.slice A' n' c') := by rw [cell_of_row wr g j cs t _ hg3]; exact hx
      have HI' := Lib.hid hi'
      have hfs := flat_snoc hS
      have hb1 := HB.out (j + 1)
      rw [hfs, List.length_append] at hb1
      have HFS := Lib.hid hfs
      obtain ⟨m, hm⟩ : ∃ m, (Ss.take j).flatten.length = m := ⟨_, rfl⟩
      rw [hm] at hb1 ⊢
      have HM := Lib.hid hm
      clear hg3 hg4 hx hi' hfs hm hS
      go_wp2_with fail
      refine (markIntW _ _ _ lo (k + m) S _ HI'.out (by omega) (by omega)).mono ?_
      rintro e w1 ⟨rfl, ht1⟩
      have hK := Lib.hid (show Wr lo w w1 (Ss.take (j + 1)).flatten k by rw [HFS.out]; exact hq.out.trans ht1 (by rw [HM.out]))
      have hmm : (Ss.take (j + 1)).flatten.length = m + S.length := by rw [HFS.out, List.length_append, HM.out]
      clear ht1 hc
      go_wp2_with fail
      go_roundw
      case rel => exact ⟨j + 1, by omega, by go_num, by rw [hmm]; simp; omega, hK⟩
      case measure => simp [intOf]; omega
    · obtain rfl : n = j := by omega
      have ht : Ss.take n = Ss := List.take_of_length_le (by rw [HL.out]; omega)
      rw [ht] at hq ⊢
      go_wp2_with fail
      go_ret
      exact ⟨rfl, hq.out⟩
set_option maxHeartbeats 4000000 in
theorem heldIntW (A : Option Addr) (n c lo : Nat) (k : Int) (S : List (Nat × Nat)) (w : World) (h : SI lo w A n S) (hh : Holds w S k) (h0 : 0 ≤ k) (h1 : k + S.length ≤ 4611686018427387904) :
    Calls Try.prog 54 #[.slice A n c, .int .i64 k] w fun e w' => e = .returned (.int .i64 (k + S.length)) ∧ Below w.heap.size w w' := by
  have hl := h.len
  rw [hl] at h1 ⊢
  have H := Lib.hid h
  have HH := Lib.hid hh
  clear h hl hh
  go_enter Try.func54, Try.ntmps54
  go_wp2_with fail
  go_loop [1, 5] (fun t i => ∃ j : Nat, j ≤ n ∧ i = .int .i64 j ∧ t = .int .i64 (k + j)) (fun _ i => n - (intOf i).toNat)
  case atStart => exact ⟨0, by omega, rfl, by simp⟩
  case round =>
    obtain ⟨j, hj, rfl, rfl⟩ := hrel
    by_cases hlt : j < n
    · rcases H.out with h | ⟨g, cs, t, rfl, hg1, hg3, hg4, hS⟩
      · omega
      have hc := HH.out j (g, j) (by rw [hS]; exact seg_at hlt)
      have hne : ((k + (j : Int)) != k + (j : Int)) = false := by simp
      have hadd : wrap64 (k + j + 1) = k + (j + 1 : Nat) := by rw [IntWalk.wrap64_in _ ⟨by omega, by omega⟩]; omega
      clear hg3 hg4 hS
      go_wp2_with fail
      go_round
      case rel => exact ⟨j + 1, by omega, by go_num, by simp; omega⟩
      case measure => simp [intOf]; omega
    · obtain rfl : n = j := by omega
      go_wp2_with fail
      go_ret
      exact ⟨rfl, Below.refl _ _⟩
set_option maxHeartbeats 8000000 in
theorem markConSW (A : Option Addr) (n c lo g : Nat) (k : Int) (ps : List (List (Nat × Nat) × List (Nat × Nat) × List (List (Nat × Nat)))) (w : World) (h : SCons lo w A n g ps) (h0 : 0 ≤ k) (h1 : k + (csites g 0 ps).length ≤ 4611686018427387904) :
    Calls Try.prog 52 #[.slice A n c, .int .i64 k] w fun e w' => e = .returned (.int .i64 (k + (csites g 0 ps).length)) ∧ Wr lo w w' (csites g 0 ps) k := by
  have H := Lib.hid h
  have HL := Lib.hid h.1
  have hn := h.2.1
  have HB := Lib.hid (fun j => csites_le g ps j)
  clear h
  go_enter Try.func52, Try.ntmps52
  go_wp2_with fail
  go_loopw [1, 5] (fun t i wr => ∃ j : Nat, j ≤ n ∧ i = .int .i64 j ∧ t = .int .i64 (k + (csites g 0 (ps.take j)).length) ∧ Hid (Wr lo w wr (csites g 0 (ps.take j)) k)) (fun _ i _ => n - (intOf i).toNat)
  case atStart => exact ⟨0, by omega, rfl, by simp [csites], Wr.refl _ _ _⟩
  case round =>
    obtain ⟨j, hj, rfl, rfl, hq⟩ := hrel
    by_cases hlt : j < n
    · obtain ⟨-, -, h⟩ := H.out.keep hq.out.keep
      rcases h with h | ⟨cs, t, rfl, hg1, hg3, hg4⟩
      · omega
      obtain ⟨p, hp⟩ : ∃ p, ps[j]? = some p := ⟨_, List.getElem?_eq_getElem (by rw [HL.out]; exact hlt)⟩
      obtain ⟨kk, va, nv, cv, aa, na, ca, b, ra, nr, cr, a0, a1, a2, a3, a4, hnr, a5⟩ := hg4 j p hp
      have hfs := csites_take g ps p 0 j hp
      rw [Nat.zero_add] at hfs
      have hb1 := HB.out (j + 1)
      obtain ⟨V, Q, Rs⟩ := p
      rw [hfs] at hb1
      simp only [csite, List.length_append, List.length_singleton] at hb1
      have HFS := Lib.hid hfs
      obtain ⟨m, hm⟩ : ∃ m, (csites g 0 (ps.take j)).length = m := ⟨_, rfl⟩
      rw [hm] at hb1 ⊢
      have HM := Lib.hid hm
      obtain ⟨k', hk'⟩ : ∃ k' : Int, k + m = k' := ⟨_, rfl⟩
      rw [hk']
      have HC := Lib.hid a5
      clear hfs hm hp
      have hc0 : wr.cell? ⟨g, j * 5, none⟩ = some (.int .i64 kk) := by rw [cell_of_row wr g _ cs t _ hg3]; exact a0
      have hf0 := frozen_of_row wr g (j * 5) cs t hg3
      have T1 := Wr.store (k := k') hg1 hg3 a0
      obtain ⟨cs1, hg31, s1, i1⟩ := T1.keep g cs t hg3
      obtain ⟨w1, hw1⟩ : ∃ w1, w1 = wr.setCell ⟨g, j * 5, none⟩ (.int .i64 k') := ⟨_, rfl⟩
      rw [← hw1] at T1 hg31
      have b1 := s1 _ _ _ _ a1
      have hc1 : w1.cell? ⟨g, j * 5 + 1, none⟩ = some (.slice va nv cv) := by rw [cell_of_row w1 g _ cs1 t _ hg31]; exact b1
      have hc1' : (wr.setCell ⟨g, j * 5, none⟩ (.int .i64 k')).cell? ⟨g, j * 5 + 1, none⟩ = some (.slice va nv cv) := by rw [← hw1]; exact hc1
      have hadd : wrap64 (k' + 1) = k' + 1 := IntWalk.wrap64_in _ ⟨by omega, by omega⟩
      have TA := Lib.hid T1
      have G1 := Lib.hid hg31
      have SS := Lib.hid (And.intro (s1 _ _ _ _ a2) (s1 _ _ _ _ a4))
      have I3 := Lib.hid (i1 _ _ a3)
      clear T1 hg31 s1 i1 b1 hg3 hg4 a0 a1 a2 a3 a4 a5 hc1
      go_wp2_with fail
      rw [← hw1]
      clear hw1 hc0 hf0 hc1'
      refine (markIntW va nv cv lo (k' + 1) V w1 (HC.out.keep TA.out.keep).1 (by omega) (by omega)).mono ?_
      rintro e w2 ⟨rfl, ht2⟩
      obtain ⟨cs2, hg32, s2, i2⟩ := ht2.keep g cs1 t G1.out
      have hc2 : w2.cell? ⟨g, j * 5 + 2, none⟩ = some (.slice aa na ca) := by rw [cell_of_row w2 g _ cs2 t _ hg32]; exact s2 _ _ _ _ SS.out.1
      have TB := Lib.hid (TA.out.trans ht2 (by simp))
      have G2 := Lib.hid hg32
      have S2 := Lib.hid (s2 _ _ _ _ SS.out.2)
      have I32 := Lib.hid (show ∃ y, cs2[j * 5 + 3]? = some (.int .i64 y) by obtain ⟨y, hy⟩ := I3.out; exact i2 _ _ hy)
      obtain ⟨nV, hnV⟩ : ∃ nV, V.length = nV := ⟨_, rfl⟩
      rw [hnV] at hb1 ⊢
      have HNV := Lib.hid hnV
      clear ht2 hg32 s2 i2 SS I3 G1 TA hnV
      go_wp2_with fail
      refine (markIntW aa na ca lo (k' + 1 + nV) Q w2 (HC.out.keep TB.out.keep).2.1 (by omega) (by omega)).mono ?_
      rintro e w3 ⟨rfl, ht3⟩
      obtain ⟨cs3, hg33, s3, i3⟩ := ht3.keep g cs2 t G2.out
      obtain ⟨b', hb'⟩ : ∃ y, cs3[j * 5 + 3]? = some (.int .i64 y) := by obtain ⟨y, hy⟩ := I32.out; exact i3 _ _ hy
      obtain ⟨nQ, hnQ⟩ : ∃ nQ, Q.length = nQ := ⟨_, rfl⟩
      rw [hnQ] at hb1 ⊢
      have HNQ := Lib.hid hnQ
      obtain ⟨k3, hk3⟩ : ∃ k3 : Int, k' + 1 + nV + nQ = k3 := ⟨_, rfl⟩
      rw [hk3]
      have hc3 : w3.cell? ⟨g, j * 5 + 3, none⟩ = some (.int .i64 b') := by rw [cell_of_row w3 g _ cs3 t _ hg33]; exact hb'
      have hf3 := frozen_of_row w3 g (j * 5 + 3) cs3 t hg33
      have T3 := Wr.store (k := k3) hg1 hg33 hb'
      obtain ⟨cs4, hg34, s4, -⟩ := T3.keep g cs3 t hg33
      have T4 := (TB.out.trans ht3 (by rw [List.length_append, HNV.out]; simp; omega)).trans T3 (by simp only [List.length_append, List.length_singleton, HNV.out, HNQ.out]; omega)
      obtain ⟨w4, hw4⟩ : ∃ w4, w4 = w3.setCell ⟨g, j * 5 + 3, none⟩ (.int .i64 k3) := ⟨_, rfl⟩
      rw [← hw4] at T4 hg34
      have hc4 : w4.cell? ⟨g, j * 5 + 4, none⟩ = some (.slice ra nr cr) := by rw [cell_of_row w4 g _ cs4 t _ hg34]; exact s4 _ _ _ _ (s3 _ _ _ _ S2.out)
      have hc4' : (w3.setCell ⟨g, j * 5 + 3, none⟩ (.int .i64 k3)).cell? ⟨g, j * 5 + 4, none⟩ = some (.slice ra nr cr) := by rw [← hw4]; exact hc4
      have hadd3 : wrap64 (k3 + 1) = k3 + 1 := IntWalk.wrap64_in _ ⟨by omega, by omega⟩
      have TC := Lib.hid T4
      clear ht3 hg33 s3 i3 hb' T3 T4 hg34 s4 G2 S2 I32 hc2 hc4 TB hnQ
      go_wp2_with fail
      rw [← hw4]
      clear hw4 hc3 hf3 hc4'
      refine (markIntSSW ra nr cr lo (k3 + 1) Rs w4 (HC.out.keep TC.out.keep).2.2 (by omega) (by omega) (by omega)).mono ?_
      rintro e w5 ⟨rfl, ht5⟩
      have hT := TC.out.trans ht5 (by simp only [List.length_append, List.length_singleton, HNV.out, HNQ.out]; omega)
      have hfl := HFS.out
      simp only [csite] at hfl
      have hK := Lib.hid (show Wr lo w w5 (csites g 0 (ps.take (j + 1))) k by
        rw [hfl]
        have := hq.out.trans hT (by rw [HM.out]; omega)
        simpa only [List.append_assoc] using this)
      have hmm : (csites g 0 (ps.take (j + 1))).length = m + (1 + (nV + (nQ + (1 + Rs.flatten.length)))) := by
        rw [hfl]; simp only [List.length_append, List.length_singleton, HM.out, HNV.out, HNQ.out]
      obtain ⟨nR, hnR⟩ : ∃ nR, Rs.flatten.length = nR := ⟨_, rfl⟩
      rw [hnR] at hmm ⊢
      clear ht5 hT TC hfl hnR
      go_wp2_with fail
      go_roundw
      case rel => exact ⟨j + 1, by omega, by go_num, by rw [hmm]; congr 1; omega, hK⟩
      case measure => simp [intOf]; omega
    · obtain rfl : n = j := by omega
      have ht : ps.take n = ps := List.take_of_length_le (by rw [HL.out]; omega)
      rw [ht] at hq ⊢
      go_wp2_with fail
      go_ret
      exact ⟨rfl, hq.out⟩
set_option maxHeartbeats 4000000 in
theorem markModelW (us : List Value) (lo : Nat) (k : Int) (S : List (Nat × Nat)) (w : World) (h : SMod lo w us S) (hlo : lo ≤ w.heap.size) (h0 : 0 ≤ k) (h1 : k + S.length ≤ 4611686018427387904) :
    Calls Try.prog 16 #[.agg us.toArray, .int .i64 k] w fun e w' => e = .returned (.int .i64 (k + S.length)) ∧ Wr lo w w' S k := by
  obtain ⟨da, nd, cd, ca, nc, cc, D, g, ps, rfl, g1, g2, rfl⟩ := h
  rw [List.length_append] at h1 ⊢
  obtain ⟨wa, hwa⟩ : ∃ wa, wa = w.alloc (.cells #[.slice da nd cd, .slice ca nc cc] 33) := ⟨_, rfl⟩
  have hb0 : Below w.heap.size w wa := by rw [hwa]; exact b_alloc _ _
  have ha : TBlk 33 wa w.heap.size #[.slice da nd cd, .slice ca nc cc] := by rw [hwa]; exact TBlk.new _ _ _
  have HA := Lib.hid ha
  have TA := Lib.hid (Wr.of_below (lo := lo) (k := k) hb0 hlo)
  have G3 := Lib.hid (g1.keep TA.out.keep)
  have G4 := Lib.hid (g2.keep TA.out.keep)
  have a0 : wa.cell? ⟨w.heap.size, 0, none⟩ = some (.slice da nd cd) := ha.at_ 0 rfl
  clear g1 g2 ha hb0
  go_enter Try.func16, Try.ntmps16
  go_wp2_with fail
  rw [← hwa]
  clear hwa
  refine (markIntW da nd cd lo k D wa G3.out h0 (by omega)).mono ?_
  rintro e w1 ⟨rfl, ht1⟩
  obtain ⟨cs1, b1, b2, -⟩ := ht1.keep _ _ _ HA.out
  have a1 : w1.cell? ⟨w.heap.size, 1, none⟩ = some (.slice ca nc cc) := by rw [cell_of_row w1 _ _ cs1 _ _ b1]; exact b2 1 _ _ _ rfl
  have TB := Lib.hid (TA.out.nil_left ht1)
  have G5 := Lib.hid (G4.out.keep ht1.keep)
  clear ht1 b1 b2 a0
  go_wp2_with fail
  refine (markConSW ca nc cc lo g _ ps w1 G5.out (by omega) (by omega)).mono ?_
  rintro e w2 ⟨rfl, ht2⟩
  have TC := Lib.hid (TB.out.trans ht2 rfl)
  clear ht2
  go_wp2_with fail
  go_ret
  exact ⟨by rw [show k + (D.length : Int) + ((csites g 0 ps).length : Int) = k + ((D.length + (csites g 0 ps).length : Nat) : Int) by omega]; rfl, TC.out⟩
set_option maxHeartbeats 4000000 in
theorem heldIntSSW (A : Option Addr) (n c lo : Nat) (k : Int) (Ss : List (List (Nat × Nat))) (w : World) (h : SRows lo w A n Ss) (hh : Holds w Ss.flatten k) (hn : n ≤ 1048576) (h0 : 0 ≤ k) (h1 : k + Ss.flatten.length ≤ 4611686018427387904) :
    Calls Try.prog 64 #[.slice A n c, .int .i64 k] w fun e w' => e = .returned (.int .i64 (k + Ss.flatten.length)) ∧ Below w.heap.size w w' := by
  have H := Lib.hid h
  have HL := Lib.hid h.1
  have HB := Lib.hid (fun j => flat_le Ss j)
  have HH := Lib.hid hh
  clear h hh
  go_enter Try.func64, Try.ntmps64
  go_wp2_with fail
  go_loopw [1, 5] (fun t i wr => ∃ j : Nat, j ≤ n ∧ i = .int .i64 j ∧ t = .int .i64 (k + (Ss.take j).flatten.length) ∧ Below w.heap.size w wr) (fun _ i _ => n - (intOf i).toNat)
  case atStart => exact ⟨0, by omega, rfl, by simp, Below.refl _ _⟩
  case round =>
    obtain ⟨j, hj, rfl, rfl, hq⟩ := hrel
    by_cases hlt : j < n
    · obtain ⟨-, h⟩ := H.out.keep (Keep.of_below hq)
      rcases h with h | ⟨g, cs, t, rfl, hg3, hg4⟩
      · omega
      obtain ⟨S, hS⟩ : ∃ S, Ss[j]? = some S := ⟨_, List.getElem?_eq_getElem (by rw [HL.out]; exact hlt)⟩
      obtain ⟨A', n', c', hx, hi'⟩ := hg4 j S hS
      have hc : wr.cell? ⟨g, j, none⟩ = some (.slice A' n' c') := by rw [cell_of_row wr g j cs t _ hg3]; exact hx
      have HI' := Lib.hid hi'
      have hfs := flat_snoc hS
      have hb1 := HB.out (j + 1)
      rw [hfs, List.length_append] at hb1
      have hhs : Holds wr S (k + (Ss.take j).flatten.length) := by
        have h2 := (HH.out.below hq H.out.lt)
        rw [← List.take_append_drop (j + 1) Ss, List.flatten_append, hfs, List.append_assoc] at h2
        exact h2.append.2.append.1
      have HHS := Lib.hid hhs
      have HFS := Lib.hid hfs
      obtain ⟨m, hm⟩ : ∃ m, (Ss.take j).flatten.length = m := ⟨_, rfl⟩
      rw [hm] at hb1 HHS ⊢
      have HM := Lib.hid hm
      clear hg3 hg4 hx hi' hfs hm hS hhs
      go_wp2_with fail
      refine (heldIntW _ _ _ lo (k + m) S _ HI'.out HHS.out (by omega) (by omega)).mono ?_
      rintro e w1 ⟨rfl, ht1⟩
      have hmm : (Ss.take (j + 1)).flatten.length = m + S.length := by rw [HFS.out, List.length_append, HM.out]
      have hb := hq.trans (ht1.mono hq.size)
      have hnn : decide (k + (m : Int) + (S.length : Int) < 0) = false := decide_eq_false (by omega)
      clear ht1 hc
      go_wp2_with fail
      go_roundw
      case rel => exact ⟨j + 1, by omega, by go_num, by rw [hmm]; simp; omega, hb⟩
      case measure => simp [intOf]; omega
    · obtain rfl : n = j := by omega
      have ht : Ss.take n = Ss := List.take_of_length_le (by rw [HL.out]; omega)
      rw [ht]
      go_wp2_with fail
      go_ret
      exact ⟨rfl, hq⟩
set_option maxHeartbeats 8000000 in
theorem heldConSW (A : Option Addr) (n c lo g : Nat) (k : Int) (ps : List (List (Nat × Nat) × List (Nat × Nat) × List (List (Nat × Nat)))) (w : World) (h : SCons lo w A n g ps) (hh : Holds w (csites g 0 ps) k) (hlt0 : ∀ s ∈ csites g 0 ps, s.1 < w.heap.size) (h0 : 0 ≤ k) (h1 : k + (csites g 0 ps).length ≤ 4611686018427387904) :
    Calls Try.prog 55 #[.slice A n c, .int .i64 k] w fun e w' => e = .returned (.int .i64 (k + (csites g 0 ps).length)) ∧ Below w.heap.size w w' := by
  have H := Lib.hid h
  have HL := Lib.hid h.1
  have hn := h.2.1
  have HB := Lib.hid (fun j => csites_le g ps j)
  have HH := Lib.hid hh
  have HT := Lib.hid hlt0
  clear h hh hlt0
  go_enter Try.func55, Try.ntmps55
  go_wp2_with fail
  go_loopw [1, 5] (fun t i wr => ∃ j : Nat, j ≤ n ∧ i = .int .i64 j ∧ t = .int .i64 (k + (csites g 0 (ps.take j)).length) ∧ Below w.heap.size w wr) (fun _ i _ => n - (intOf i).toNat)
  case atStart => exact ⟨0, by omega, rfl, by simp [csites], Below.refl _ _⟩
  case round =>
    obtain ⟨j, hj, rfl, rfl, hq⟩ := hrel
    by_cases hlt : j < n
    · obtain ⟨-, -, h⟩ := H.out.keep (Keep.of_below hq)
      rcases h with h | ⟨cs, t, rfl, hg1, hg3, hg4⟩
      · omega
      obtain ⟨p, hp⟩ : ∃ p, ps[j]? = some p := ⟨_, List.getElem?_eq_getElem (by rw [HL.out]; exact hlt)⟩
      obtain ⟨kk, va, nv, cv, aa, na, ca, b, ra, nr, cr, a0, a1, a2, a3, a4, hnr, a5⟩ := hg4 j p hp
      have hfs := csites_take g ps p 0 j hp
      rw [Nat.zero_add] at hfs
      have hb1 := HB.out (j + 1)
      obtain ⟨T, hT⟩ := csites_at g ps p j 0 hp
      have hol := HH.out.below hq HT.out
      rw [hT] at hol
      obtain ⟨V, Q, Rs⟩ := p
      have hol := hol.append.2.append.1
      rw [Nat.zero_add] at hol
      rw [hfs] at hb1
      simp only [csite, List.length_append, List.length_singleton] at hb1
      have HFS := Lib.hid hfs
      obtain ⟨m, hm⟩ : ∃ m, (csites g 0 (ps.take j)).length = m := ⟨_, rfl⟩
      rw [hm] at hb1 hol ⊢
      have HM := Lib.hid hm
      obtain ⟨k', hk'⟩ : ∃ k' : Int, k + m = k' := ⟨_, rfl⟩
      rw [hk'] at hol ⊢
      simp only [csite] at hol
      obtain ⟨l0, l1⟩ := hol.append
      obtain ⟨l1, l2⟩ := l1.append
      obtain ⟨l2, l3⟩ := l2.append
      obtain ⟨l3, l4⟩ := l3.append
      simp only [List.length_singleton] at l1 l2 l3 l4
      obtain ⟨nV, hnV⟩ : ∃ nV, V.length = nV := ⟨_, rfl⟩
      obtain ⟨nQ, hnQ⟩ : ∃ nQ, Q.length = nQ := ⟨_, rfl⟩
      rw [hnV, hnQ] at hb1
      rw [hnV] at l2 l3 l4
      rw [hnQ] at l3 l4
      rw [show k' + ((1 : Nat) : Int) = k' + 1 by omega] at l1 l2 l3 l4
      rw [show k' + 1 + (nV : Int) + (nQ : Int) + ((1 : Nat) : Int) = k' + 1 + nV + nQ + 1 by omega] at l4
      have HNV := Lib.hid hnV
      have HNQ := Lib.hid hnQ
      have HC := Lib.hid a5
      have hc0 : wr.cell? ⟨g, j * 5, none⟩ = some (.int .i64 k') := l0.one
      have hc1 : wr.cell? ⟨g, j * 5 + 1, none⟩ = some (.slice va nv cv) := by rw [cell_of_row wr g _ cs t _ hg3]; exact a1
      have hg5 := lt_heap hg3
      have C2 := Lib.hid (show wr.cell? ⟨g, j * 5 + 2, none⟩ = some (.slice aa na ca) by rw [cell_of_row wr g _ cs t _ hg3]; exact a2)
      have C3 := Lib.hid l3.one
      have C4 := Lib.hid (show wr.cell? ⟨g, j * 5 + 4, none⟩ = some (.slice ra nr cr) by rw [cell_of_row wr g _ cs t _ hg3]; exact a4)
      have L1 := Lib.hid l1
      have L2 := Lib.hid l2
      have L4 := Lib.hid l4
      have hadd : wrap64 (k' + 1) = k' + 1 := IntWalk.wrap64_in _ ⟨by omega, by omega⟩
      have hne : (k' != k') = false := by simp
      clear hfs hm hp hg3 hg4 a0 a1 a2 a3 a4 a5 l0 l1 l2 l3 l4 hol hT hnV hnQ
      go_wp2_with fail
      refine (heldIntW va nv cv lo (k' + 1) V wr HC.out.1 L1.out (by omega) (by rw [HNV.out]; omega)).mono ?_
      rintro e w2 ⟨rfl, ht2⟩
      rw [HNV.out]
      have hn1 : decide (k' + 1 + (nV : Int) < 0) = false := decide_eq_false (by omega)
      have hc2 := (ht2.cell (p := ⟨g, j * 5 + 2, none⟩) hg5).trans C2.out
      have LL2 := Lib.hid (L2.out.below ht2 HC.out.2.1.lt)
      have LL4 := Lib.hid (L4.out.below ht2 HC.out.2.2.lt)
      have HC2 := Lib.hid (HC.out.keep (Keep.of_below ht2))
      have hc3 := (ht2.cell (p := ⟨g, j * 5 + 3, none⟩) hg5).trans C3.out
      have C33 := Lib.hid hc3
      have CC4 := Lib.hid ((ht2.cell (p := ⟨g, j * 5 + 4, none⟩) hg5).trans C4.out)
      have z2 := ht2.size
      have B2 := Lib.hid (hq.trans (ht2.mono hq.size))
      clear C2 C4 C3 L2 L4 L1 hc0 hc1 hc3 HC
      go_wp2_with fail
      refine (heldIntW aa na ca lo (k' + 1 + nV) Q w2 HC2.out.2.1 LL2.out (by omega) (by rw [HNQ.out]; omega)).mono ?_
      rintro e w3 ⟨rfl, ht3⟩
      rw [HNQ.out]
      obtain ⟨k3, hk3⟩ : ∃ k3 : Int, k' + 1 + nV + nQ = k3 := ⟨_, rfl⟩
      have hc3 := (ht3.cell (p := ⟨g, j * 5 + 3, none⟩) (show g < _ by omega)).trans C33.out
      have L4 := Lib.hid (LL4.out.below ht3 HC2.out.2.2.lt)
      rw [hk3] at hc3 L4 ⊢
      have hn2 : decide (k3 < 0) = false := decide_eq_false (by omega)
      have hne3 : (k3 != k3) = false := by simp
      have hadd3 : wrap64 (k3 + 1) = k3 + 1 := IntWalk.wrap64_in _ ⟨by omega, by omega⟩
      have hc4 := (ht3.cell (p := ⟨g, j * 5 + 4, none⟩) (show g < _ by omega)).trans CC4.out
      have HC3 := Lib.hid (HC2.out.keep (Keep.of_below ht3))
      have z3 := ht3.size
      have B3 := Lib.hid (B2.out.trans (ht3.mono B2.out.size))
      clear CC4 LL2 LL4 HC2 hc2 ht2 ht3
      go_wp2_with fail
      refine (heldIntSSW ra nr cr lo (k3 + 1) Rs w3 HC3.out.2.2 L4.out hnr (by omega) (by omega)).mono ?_
      rintro e w5 ⟨rfl, ht5⟩
      have hmm : (csites g 0 (ps.take (j + 1))).length = m + (1 + (nV + (nQ + (1 + Rs.flatten.length)))) := by
        rw [HFS.out]; simp only [csite, List.length_append, List.length_singleton, HM.out, HNV.out, HNQ.out]
      have hn5 : decide (k3 + 1 + (Rs.flatten.length : Int) < 0) = false := decide_eq_false (by omega)
      have hb5 := B3.out.trans (ht5.mono B3.out.size)
      obtain ⟨nR, hnR⟩ : ∃ nR, Rs.flatten.length = nR := ⟨_, rfl⟩
      rw [hnR] at hmm hn5 ⊢
      clear ht5 B3 B2 hnR
      go_wp2_with fail
      go_roundw
      case rel => exact ⟨j + 1, by omega, by go_num, by rw [hmm]; congr 1; omega, hb5⟩
      case measure => simp [intOf]; omega
    · obtain rfl : n = j := by omega
      have ht : ps.take n = ps := List.take_of_length_le (by rw [HL.out]; omega)
      rw [ht]
      go_wp2_with fail
      go_ret
      exact ⟨rfl, hq⟩
set_option maxHeartbeats 4000000 in
theorem heldModelW (us : List Value) (lo : Nat) (k : Int) (S : List (Nat × Nat)) (w : World) (h : SMod lo w us S) (hh : Holds w S k) (hlt : ∀ s ∈ S, s.1 < w.heap.size) (h0 : 0 ≤ k) (h1 : k + S.length ≤ 4611686018427387904) :
    Calls Try.prog 18 #[.agg us.toArray, .int .i64 k] w fun e w' => e = .returned (.int .i64 (k + S.length)) ∧ Below w.heap.size w w' := by
  obtain ⟨da, nd, cd, ca, nc, cc, D, g, ps, rfl, g1, g2, rfl⟩ := h
  rw [List.length_append] at h1 ⊢
  obtain ⟨wa, hwa⟩ : ∃ wa, wa = w.alloc (.cells #[.slice da nd cd, .slice ca nc cc] 33) := ⟨_, rfl⟩
  have hb0 : Below w.heap.size w wa := by rw [hwa]; exact b_alloc _ _
  have hsz : wa.heap.size = w.heap.size + 1 := by rw [hwa, size_alloc_]
  have ha : TBlk 33 wa w.heap.size #[.slice da nd cd, .slice ca nc cc] := by rw [hwa]; exact TBlk.new _ _ _
  obtain ⟨hd, hcs⟩ := (hh.below hb0 hlt).append
  have G3 := Lib.hid (g1.keep (Keep.of_below hb0))
  have G4 := Lib.hid (g2.keep (Keep.of_below hb0))
  have HD := Lib.hid hd
  have HC := Lib.hid hcs
  have HT := Lib.hid (show ∀ s ∈ csites g 0 ps, s.1 < wa.heap.size from fun s hs => by have := hlt s (List.mem_append_right _ hs); omega)
  have a0 : wa.cell? ⟨w.heap.size, 0, none⟩ = some (.slice da nd cd) := ha.at_ 0 rfl
  have A1 := Lib.hid (ha.at_ 1 rfl)
  clear g1 g2 ha hh hd hcs hlt
  go_enter Try.func18, Try.ntmps18
  go_wp2_with fail
  rw [← hwa]
  clear hwa
  refine (heldIntW da nd cd lo k D wa G3.out HD.out h0 (by omega)).mono ?_
  rintro e w1 ⟨rfl, ht1⟩
  have a1 : w1.cell? ⟨w.heap.size, 1, none⟩ = some (.slice ca nc cc) := (ht1.cell (p := ⟨w.heap.size, 1, none⟩) (show w.heap.size < _ by omega)).trans A1.out
  have hn1 : decide (k + (D.length : Int) < 0) = false := decide_eq_false (by omega)
  have B1 := hb0.trans (ht1.mono (by omega))
  have z1 := ht1.size
  have HC1 := Lib.hid (HC.out.below ht1 HT.out)
  have G5 := Lib.hid (G4.out.keep (Keep.of_below ht1))
  clear ht1 hb0 a0 A1 HC G4 G3 HD
  go_wp2_with fail
  refine (heldConSW ca nc cc lo g _ ps w1 G5.out HC1.out (fun s hs => by have := HT.out s hs; omega) (by omega) (by omega)).mono ?_
  rintro e w2 ⟨rfl, ht2⟩
  have hn2 : decide (k + (D.length : Int) + ((csites g 0 ps).length : Int) < 0) = false := decide_eq_false (by omega)
  have B2 := B1.trans (ht2.mono B1.size)
  clear ht2 B1
  go_wp2_with fail
  go_ret
  exact ⟨by rw [show k + (D.length : Int) + ((csites g 0 ps).length : Int) = k + ((D.length + (csites g 0 ps).length : Nat) : Int) by omega]; rfl, B2⟩
end Go.Proofs.Ytcghhnajjmnkkaa
