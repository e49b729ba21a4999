/- DrawResolve, equalClauses. -/
import Derived.Test.YtjkgndedffildaaDrawC
import Derived.Test.YtjkgndedffildaaResI
import Derived.Test.YtjkgndedffildaaResQ
namespace Go.Proofs.Ytjkgndedffildaa
open Go.ChangeShapes Go.WideShapes Go.ChangeAt Go.RowKit
open Go.Shelf
set_option linter.unusedVariables false
set_option maxRecDepth 100000

theorem equalClauses (A B : Option Addr) (n m c d : Nat) (xs ys : List Ltl) (w : World) (hx : LitR w w.heap.size A n xs) (hy : LitR w w.heap.size B m ys) (he : xs = ys) :
    Calls Try.prog 14 #[.slice A n c, .slice B m d] w fun e w' => e = .returned (.bool true) ∧ Below w.heap.size w w' := by
  have hnm : n = m := by rw [← hx.len, ← hy.len, he]
  have hn := hx.le
  subst hnm
  subst he
  have HX := Lib.hid hx
  have HY := Lib.hid hy
  clear hx hy
  go_enter Try.func14, Try.ntmps14
  go_wp2_with fail
  go_loopw [5] (fun i wr => ∃ k : Nat, k ≤ n ∧ i = .int .i64 k ∧ Below w.heap.size w wr) (fun i _ => n - (intOf i).toNat)
  case atStart => exact ⟨0, by omega, rfl, Below.refl _ _⟩
  case round =>
    obtain ⟨k, hk, rfl, hb⟩ := hrel
    by_cases hlt : k < n
    · obtain ⟨ab, ao, x, rfl, hab, hxk, c0, c1, c2⟩ := LitR.at_ (HX.out.on hb) hlt
      obtain ⟨bb, bo, y, rfl, hbb, hyk, d0, d1, d2⟩ := LitR.at_ (HY.out.on hb) hlt
      rw [hxk] at hyk
      injection hyk with hyk
      subst hyk
      have heq := fun w => lit_neq x x w true (decide_eq_true rfl)
      have hgu := lit_guard
      clear hxk
      go_wp2_with fail
      go_quiet (fail)
      go_wp2_with fail
      go_roundw
      case rel => exact ⟨k + 1, by omega, by go_num, below_drewN hb _⟩
      case measure => simp [intOf]; omega
    · obtain rfl : k = n := by omega
      go_wp2_with fail
      go_ret
      exact ⟨rfl, hb⟩
theorem own_low {w : World} {B size n : Nat} {e : TypeId} {v : Value} {xs : List Value} (h : w.ownsRow (B + 1) e size v n xs) (j : Nat) (u : Value) : (w.setCell ⟨B, j, none⟩ u).ownsRow (B + 1) e size v n xs :=
  ⟨h.1, h.2.imp id fun ⟨g, cap, cur, h1, h2, h3, r⟩ => ⟨g, cap, cur, h1, h2, (Below.heap_setCell w ⟨B, j, none⟩ u g (by show g ≠ B; omega)).trans h3, r⟩⟩
set_option maxHeartbeats 4000000 in
theorem drawResolve (A : Option Addr) (n c : Nat) (bs : List Int) (w : World) (h : CodeA w w.heap.size A n c bs) :
    Calls Try.prog 13 #[.slice A n c] w fun e w' => ∃ (m : Nat) (v1 v2 : Value) (xs ys : List Ltl) (l : Ltl), e = .returned (.tuple #[.int .i64 m, v1, v2, .agg #[.int .i64 l.var, .int .i64 l.val, .bool l.neg]]) ∧ (1 ≤ m ∧ m ≤ 4 ∧ xs.length ≤ 5 ∧ ys.length ≤ 5) ∧ w'.ownsRow w.heap.size 30 3 v1 xs.length (xs.flatMap ltlCs) ∧ w'.ownsRow w.heap.size 30 3 v2 ys.length (ys.flatMap ltlCs) ∧ Below w.heap.size w w' := by
  obtain ⟨W0, hW0⟩ : ∃ W0, w.alloc (.cells #[.int .i64 0, .int .i64 0, .bool false] 30) = W0 := ⟨_, rfl⟩
  have hB0 : Below w.heap.size w W0 := by rw [← hW0]; exact b_alloc _ _
  have hT0 : TBlk 30 W0 w.heap.size #[.int .i64 0, .int .i64 0, .bool false] := by rw [← hW0]; exact TBlk.new _ _ _
  have hs0 : W0.heap.size = w.heap.size + 1 := by rw [← hW0, size_alloc_]
  have HN := newReader A n c bs W0 ⟨SlA.on ByteC.keeps ByteC.widens h.1 hB0, h.2⟩
  have HT0 := Lib.hid hT0
  go_enter Try.func13, Try.ntmps13
  go_wp2_with fail
  clear hW0 hT0 h
  refine HN.mono ?_
  rintro e w1 ⟨g, m, c', bs', rfl, hr, hb1, hg⟩
  have s1 := hb1.size
  go_wp2_with fail
  refine (pick _ g m c' 0 A bs' 4 w1 hr (by omega)).mono ?_
  rintro e w2 ⟨r, rfl, ⟨-, hr2⟩, hq2, hb2⟩
  obtain ⟨r0, r1⟩ := hr2 (by omega)
  obtain ⟨k, rfl⟩ := Int.eq_ofNat_of_zero_le r0
  have hk5 : k < 4 := by omega
  clear r0 r1 hr2
  go_wp2_with fail
  obtain ⟨j, hj⟩ : ∃ j : Nat, j = 1 + k := ⟨_, rfl⟩
  have e1 : (1 + (k : Int)) = (j : Int) := by omega
  rw [e1]
  have hj1 : 1 ≤ j := by omega
  have hj4 : j ≤ 4 := by omega
  clear e1 hj hk5
  refine (anyClause _ g m c' 1 A bs' j w2 hq2 (by omega) (by omega) (by omega)).mono ?_
  rintro e w3 ⟨v1, xs, q, rfl, hn1, hx4, hq, ho1, hq3, hb3⟩
  have s2 := hb2.size
  have s3 := hb3.size
  go_wp2_with fail
  refine (anyClause _ g m c' q A bs' j w3 hq3 (by omega) (by omega) (by omega)).mono ?_
  rintro e w4 ⟨v2, ys, q2, rfl, hn2, hy4, hqq, ho2, hq4, hb4⟩
  have s4 := hb4.size
  have oo1 := own_butG ho1 hb4 (by omega)
  go_wp2_with fail
  refine (pick _ g m c' q2 A bs' j w4 hq4 (by omega)).mono ?_
  rintro e w5 ⟨rv, rfl, ⟨-, hrv⟩, hq5, hb5⟩
  have s5 := hb5.size
  go_wp2_with fail
  refine (pick _ g m c' (q2 + 1) A bs' 4 w5 hq5 (by omega)).mono ?_
  rintro e w6 ⟨rx, rfl, -, hq6, hb6⟩
  have s6 := hb6.size
  obtain ⟨l, hl⟩ : ∃ l : Ltl, l = ⟨rv, rx, false⟩ := ⟨_, rfl⟩
  have e1 : rv = l.var := by rw [hl]
  have e2 : rx = l.val := by rw [hl]
  have e3 : false = l.neg := by rw [hl]
  have HNG := Lib.hid e3
  subst e1 e2
  have ox := own_butG (own_butG oo1 hb5 (by omega)) hb6 (by omega)
  have oy := own_butG (own_butG ho2 hb5 (by omega)) hb6 (by omega)
  have hgb : w.heap.size + 1 ≤ g := by have := hr.base_le; omega
  have hT6 := ((((((HT0.out.below_ hb1 (by omega)).below_ (hb2.below (base := w.heap.size + 1) hgb (by omega)) (by omega)).below_ (hb3.below (base := w.heap.size + 1) hgb (by omega)) (by omega)).below_ (hb4.below (base := w.heap.size + 1) hgb (by omega)) (by omega)).below_ (hb5.below (base := w.heap.size + 1) hgb (by omega)) (by omega)).below_ (hb6.below (base := w.heap.size + 1) hgb (by omega)) (by omega))
  have hB6 : Below w.heap.size w w6 := hB0.trans ((hb1.mono (by omega)).trans (((((hb2.go hb3).go hb4).go hb5).go hb6).below (base := w.heap.size) (by omega) (by omega)))
  have HT6 := Lib.hid hT6
  have OX6 := Lib.hid ox
  have OY6 := Lib.hid oy
  have HN1 := Lib.hid hn1
  have HN2 := Lib.hid hn2
  have HQ6 := Lib.hid hq6
  clear oo1 ho1 ho2 hb1 hb2 hb3 hb4 hb5 hb6 hrv hl hT6 ox oy hn1 hn2 hq2 hq3 hq4 hq5 hq6 hr HT0 e3 HN hB0
  go_wp2_with fail
  obtain ⟨W7, hW7⟩ : ∃ W7, w6.alloc (.cells #[.int .i64 l.var, .int .i64 l.val, .bool false] 30) = W7 := ⟨_, rfl⟩
  have hB67 : Below w6.heap.size w6 W7 := by rw [← hW7]; exact b_alloc _ _
  have hU7 : TBlk 30 W7 w6.heap.size #[.int .i64 l.var, .int .i64 l.val, .bool false] := by rw [← hW7]; exact TBlk.new _ _ _
  have hs7 : W7.heap.size = w6.heap.size + 1 := by rw [← hW7, size_alloc_]
  rw [hW7]
  clear hW7
  refine (pick _ g m c' (q2 + 1 + 1) A bs' 4 W7 (HQ6.out.under hB67 (by omega)) (by omega)).mono ?_
  rintro e w8 ⟨r8, rfl, -, hq8, hb8⟩
  have s8 := hb8.size
  have hB78 : Below (w.heap.size + 1) W7 w8 := hb8.below hgb (by omega)
  have hU8 : TBlk 30 w8 w6.heap.size #[.int .i64 l.var, .int .i64 l.val, .bool false] := (hb8.block _ (by omega) (by omega)).trans hU7
  have hT8 : TBlk 30 w8 w.heap.size #[.int .i64 0, .int .i64 0, .bool false] := (HT6.out.below_ hB67 (by omega)).below_ hB78 (by omega)
  have ox8 := own_butG (own_below OX6.out hB67) hb8 (by omega)
  have oy8 := own_butG (own_below OY6.out hB67) hb8 (by omega)
  have hB8 : Below w.heap.size w w8 := (hB6.trans (hB67.mono (by omega))).trans (hB78.mono (by omega))
  have u0 := hU8.at_ 0 rfl
  have u1 := hU8.at_ 1 rfl
  have u2 := hU8.at_ 2 rfl
  simp only [List.getElem_toArray, List.getElem_cons_zero, List.getElem_cons_succ] at u0 u1 u2
  have OX8 := Lib.hid ox8
  have OY8 := Lib.hid oy8
  have HT8 := Lib.hid hT8
  have HU8 := Lib.hid hU8
  clear hq8 hb8 hB78 hU8 hT8 hU7 ox8 oy8 hB67 HQ6 OX6 OY6 HT6
  by_cases h0 : 0 < r8
  · have hd : decide (0 < r8) = true := decide_eq_true h0
    go_wp2_with fail
    have hal := b_alloc w8 (.cells #[.int .i64 l.var, .int .i64 l.val, .bool false] 30)
    have hz8 : (w8.alloc (.cells #[.int .i64 l.var, .int .i64 l.val, .bool false] 30)).heap.size = w8.heap.size + 1 := size_alloc_ _ _
    refine (mergeClauses _ w8.heap.size _ 1 _ _ xs [l] _ (own_below OX8.out hal) rfl (by have := World.ownsRow_lit (size := 3) (e := 30) w8 #[.int .i64 l.var, .int .i64 l.val, .bool false] 1 (Nat.le_refl _) (by decide) rfl; simpa [ltlCs, ← HNG.out] using this) rfl (by omega)).mono ?_
    rintro e w9 ⟨v9, rfl, -, ho9, hb9⟩
    have hml := (mergeL_len xs [l]).2
    have hb89 := bgo hal hb9
    have s9 := hb89.size
    have hU9 := HU8.out.below_ hb89 (by omega)
    have hT9 := HT8.out.below_ hb89 (by omega)
    have oy9 := own_below OY8.out hb89
    have ox9 := own_base (base' := w.heap.size + 1) ho9 (by omega)
    have hB9 := bgo hB8 hb89
    have t0 := hU9.at_ 0 rfl
    have t1 := hU9.at_ 1 rfl
    have t2 := hU9.at_ 2 rfl
    simp only [List.getElem_toArray, List.getElem_cons_zero, List.getElem_cons_succ] at t0 t1 t2
    have OX9 := Lib.hid ox9
    have OY9 := Lib.hid oy9
    have HT9 := Lib.hid hT9
    have HU9 := Lib.hid hU9
    clear u0 u1 u2 ho9 hb9 hb89 hal hU9 hT9 oy9 ox9 OX8 OY8 HT8 HU8
    go_wp2_with fail
    have hal := b_alloc w9 (.cells #[.int .i64 l.var, .int .i64 l.val, .bool true] 30)
    have hz9 : (w9.alloc (.cells #[.int .i64 l.var, .int .i64 l.val, .bool true] 30)).heap.size = w9.heap.size + 1 := size_alloc_ _ _
    refine (mergeClauses _ w9.heap.size _ 1 _ _ ys [⟨l.var, l.val, true⟩] _ (own_below OY9.out hal) rfl (by have := World.ownsRow_lit (size := 3) (e := 30) w9 #[.int .i64 l.var, .int .i64 l.val, .bool true] 1 (Nat.le_refl _) (by decide) rfl; simpa [ltlCs] using this) rfl (by omega)).mono ?_
    rintro e w10 ⟨v10, rfl, -, ho10, hb10⟩
    have hml2 := (mergeL_len ys [⟨l.var, l.val, true⟩]).2
    have hb910 := bgo hal hb10
    have s10 := hb910.size
    have OX10 := Lib.hid (own_below OX9.out hb910)
    have OY10 := Lib.hid (own_base (base' := w.heap.size + 1) ho10 (by omega))
    have HT10 := Lib.hid (HT9.out.below_ hb910 (by omega))
    have hU10 := HU9.out.below_ hb910 (by omega)
    have hB10 := bgo hB9 hb910
    have p0 := hU10.at_ 0 rfl
    have p1 := hU10.at_ 1 rfl
    have p2 := hU10.at_ 2 rfl
    simp only [List.getElem_toArray, List.getElem_cons_zero, List.getElem_cons_succ] at p0 p1 p2
    clear t0 t1 t2 ho10 hb10 hb910 hal hU10 OX9 OY9 HT9 HU9
    have f0 := HT10.out.frozen 0
    have f1 := HT10.out.frozen 1
    have f2 := HT10.out.frozen 2
    have d0 := HT10.out.at_ 0 rfl
    have d1 := HT10.out.at_ 1 rfl
    have d2 := HT10.out.at_ 2 rfl
    simp only [List.getElem_toArray, List.getElem_cons_zero, List.getElem_cons_succ] at d0 d1 d2
    go_wp2_with fail
    go_still_tail 7, (by kernel_rfl)
    go_wp2_with fail
    have hTF : TBlk 30 (((w10.setCell ⟨w.heap.size, 0, none⟩ (.int .i64 l.var)).setCell ⟨w.heap.size, 1, none⟩ (.int .i64 l.val)).setCell ⟨w.heap.size, 2, none⟩ (.bool false)).drew w.heap.size #[.int .i64 l.var, .int .i64 l.val, .bool false] := (((HT10.out.store 0 (.int .i64 l.var)).store 1 (.int .i64 l.val)).store 2 (.bool false)).drewN_ 1
    have a0 : (((w10.setCell ⟨w.heap.size, 0, none⟩ (.int .i64 l.var)).setCell ⟨w.heap.size, 1, none⟩ (.int .i64 l.val)).setCell ⟨w.heap.size, 2, none⟩ (.bool false)).drew.cell? ⟨w.heap.size, 0, none⟩ = some (.int .i64 l.var) := hTF.at_ 0 rfl
    have a1 : (((w10.setCell ⟨w.heap.size, 0, none⟩ (.int .i64 l.var)).setCell ⟨w.heap.size, 1, none⟩ (.int .i64 l.val)).setCell ⟨w.heap.size, 2, none⟩ (.bool false)).drew.cell? ⟨w.heap.size, 1, none⟩ = some (.int .i64 l.val) := hTF.at_ 1 rfl
    have a2 : (((w10.setCell ⟨w.heap.size, 0, none⟩ (.int .i64 l.var)).setCell ⟨w.heap.size, 1, none⟩ (.int .i64 l.val)).setCell ⟨w.heap.size, 2, none⟩ (.bool false)).drew.cell? ⟨w.heap.size, 2, none⟩ = some (.bool false) := hTF.at_ 2 rfl
    have hoX : Hid (World.ownsRow ((((w10.setCell ⟨w.heap.size, 0, none⟩ (.int .i64 l.var)).setCell ⟨w.heap.size, 1, none⟩ (.int .i64 l.val)).setCell ⟨w.heap.size, 2, none⟩ (.bool false)).drew) (w.heap.size + 1) 30 3 v9 (mergeL xs [l]).length ((mergeL xs [l]).flatMap ltlCs)) := Lib.hid (own_low (own_low (own_low OX10.out 0 (.int .i64 l.var)) 1 (.int .i64 l.val)) 2 (.bool false))
    have hoY : Hid (World.ownsRow ((((w10.setCell ⟨w.heap.size, 0, none⟩ (.int .i64 l.var)).setCell ⟨w.heap.size, 1, none⟩ (.int .i64 l.val)).setCell ⟨w.heap.size, 2, none⟩ (.bool false)).drew) (w.heap.size + 1) 30 3 v10 (mergeL ys [⟨l.var, l.val, true⟩]).length ((mergeL ys [⟨l.var, l.val, true⟩]).flatMap ltlCs)) := Lib.hid (own_low (own_low (own_low OY10.out 0 (.int .i64 l.var)) 1 (.int .i64 l.val)) 2 (.bool false))
    have hBF : Below w.heap.size w (((w10.setCell ⟨w.heap.size, 0, none⟩ (.int .i64 l.var)).setCell ⟨w.heap.size, 1, none⟩ (.int .i64 l.val)).setCell ⟨w.heap.size, 2, none⟩ (.bool false)).drew := below_drewN (((hB10.setCell (p := ⟨w.heap.size, 0, none⟩) (Nat.le_refl _) (.int .i64 l.var)).setCell (p := ⟨w.heap.size, 1, none⟩) (Nat.le_refl _) (.int .i64 l.val)).setCell (p := ⟨w.heap.size, 2, none⟩) (Nat.le_refl _) (.bool false)) 1
    clear d0 d1 d2 f0 f1 f2 hTF
    generalize (((w10.setCell ⟨w.heap.size, 0, none⟩ (.int .i64 l.var)).setCell ⟨w.heap.size, 1, none⟩ (.int .i64 l.val)).setCell ⟨w.heap.size, 2, none⟩ (.bool false)).drew = WF at a0 a1 a2 hoX hoY hBF ⊢
    refine bodyPost_ret (v := .tuple #[.int .i64 j, v9, v10, .agg #[.int .i64 l.var, .int .i64 l.val, .bool false]]) ?_ rfl ⟨j, v9, v10, (mergeL xs [l]), (mergeL ys [⟨l.var, l.val, true⟩]), l, by rw [← HNG.out], ⟨hj1, hj4, by simp at hml; omega, by simp at hml2; omega⟩, own_base hoX.out (by omega), own_base hoY.out (by omega), hBF⟩
    simp [results, Try.results13, go_sem, asAddr, loadVar, a0, a1, a2]
  · have hd : decide (0 < r8) = false := decide_eq_false h0
    have OX8' := Lib.hid (own_base (base' := w.heap.size + 1) OX8.out (by omega))
    have OY8' := Lib.hid (own_base (base' := w.heap.size + 1) OY8.out (by omega))
    have f0 := HT8.out.frozen 0
    have f1 := HT8.out.frozen 1
    have f2 := HT8.out.frozen 2
    have d0 := HT8.out.at_ 0 rfl
    have d1 := HT8.out.at_ 1 rfl
    have d2 := HT8.out.at_ 2 rfl
    simp only [List.getElem_toArray, List.getElem_cons_zero, List.getElem_cons_succ] at d0 d1 d2
    go_wp2_with fail
    go_still_tail 7, (by kernel_rfl)
    go_wp2_with fail
    have hTF : TBlk 30 (((w8.setCell ⟨w.heap.size, 0, none⟩ (.int .i64 l.var)).setCell ⟨w.heap.size, 1, none⟩ (.int .i64 l.val)).setCell ⟨w.heap.size, 2, none⟩ (.bool false)).drew w.heap.size #[.int .i64 l.var, .int .i64 l.val, .bool false] := (((HT8.out.store 0 (.int .i64 l.var)).store 1 (.int .i64 l.val)).store 2 (.bool false)).drewN_ 1
    have a0 : (((w8.setCell ⟨w.heap.size, 0, none⟩ (.int .i64 l.var)).setCell ⟨w.heap.size, 1, none⟩ (.int .i64 l.val)).setCell ⟨w.heap.size, 2, none⟩ (.bool false)).drew.cell? ⟨w.heap.size, 0, none⟩ = some (.int .i64 l.var) := hTF.at_ 0 rfl
    have a1 : (((w8.setCell ⟨w.heap.size, 0, none⟩ (.int .i64 l.var)).setCell ⟨w.heap.size, 1, none⟩ (.int .i64 l.val)).setCell ⟨w.heap.size, 2, none⟩ (.bool false)).drew.cell? ⟨w.heap.size, 1, none⟩ = some (.int .i64 l.val) := hTF.at_ 1 rfl
    have a2 : (((w8.setCell ⟨w.heap.size, 0, none⟩ (.int .i64 l.var)).setCell ⟨w.heap.size, 1, none⟩ (.int .i64 l.val)).setCell ⟨w.heap.size, 2, none⟩ (.bool false)).drew.cell? ⟨w.heap.size, 2, none⟩ = some (.bool false) := hTF.at_ 2 rfl
    have hoX : Hid (World.ownsRow ((((w8.setCell ⟨w.heap.size, 0, none⟩ (.int .i64 l.var)).setCell ⟨w.heap.size, 1, none⟩ (.int .i64 l.val)).setCell ⟨w.heap.size, 2, none⟩ (.bool false)).drew) (w.heap.size + 1) 30 3 v1 (xs).length ((xs).flatMap ltlCs)) := Lib.hid (own_low (own_low (own_low OX8'.out 0 (.int .i64 l.var)) 1 (.int .i64 l.val)) 2 (.bool false))
    have hoY : Hid (World.ownsRow ((((w8.setCell ⟨w.heap.size, 0, none⟩ (.int .i64 l.var)).setCell ⟨w.heap.size, 1, none⟩ (.int .i64 l.val)).setCell ⟨w.heap.size, 2, none⟩ (.bool false)).drew) (w.heap.size + 1) 30 3 v2 (ys).length ((ys).flatMap ltlCs)) := Lib.hid (own_low (own_low (own_low OY8'.out 0 (.int .i64 l.var)) 1 (.int .i64 l.val)) 2 (.bool false))
    have hBF : Below w.heap.size w (((w8.setCell ⟨w.heap.size, 0, none⟩ (.int .i64 l.var)).setCell ⟨w.heap.size, 1, none⟩ (.int .i64 l.val)).setCell ⟨w.heap.size, 2, none⟩ (.bool false)).drew := below_drewN (((hB8.setCell (p := ⟨w.heap.size, 0, none⟩) (Nat.le_refl _) (.int .i64 l.var)).setCell (p := ⟨w.heap.size, 1, none⟩) (Nat.le_refl _) (.int .i64 l.val)).setCell (p := ⟨w.heap.size, 2, none⟩) (Nat.le_refl _) (.bool false)) 1
    clear d0 d1 d2 f0 f1 f2 hTF
    generalize (((w8.setCell ⟨w.heap.size, 0, none⟩ (.int .i64 l.var)).setCell ⟨w.heap.size, 1, none⟩ (.int .i64 l.val)).setCell ⟨w.heap.size, 2, none⟩ (.bool false)).drew = WF at a0 a1 a2 hoX hoY hBF ⊢
    refine bodyPost_ret (v := .tuple #[.int .i64 j, v1, v2, .agg #[.int .i64 l.var, .int .i64 l.val, .bool false]]) ?_ rfl ⟨j, v1, v2, xs, ys, l, by rw [← HNG.out], ⟨hj1, hj4, by omega, by omega⟩, own_base hoX.out (by omega), own_base hoY.out (by omega), hBF⟩
    simp [results, Try.results13, go_sem, asAddr, loadVar, a0, a1, a2]
end Go.Proofs.Ytjkgndedffildaa
