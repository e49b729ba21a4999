/- Compact and Concat at literals, sorted. -/
import Derived.Test.YtjkgndedffildaaResL
import Derived.Shelf.SlSortCmp.NoneTotal
namespace Go.Proofs.Ytjkgndedffildaa
open Go.ChangeShapes Go.WideShapes Go.ChangeAt Go.RowKit
open Go.Shelf
set_option linter.unusedVariables false
set_option maxRecDepth 100000

theorem dd_keep {xs : List Ltl} {k : Nat} (h : ddTo xs k = xs.take k) {x y : Ltl} (hx : xs[k]? = some x) (hy : xs[k - 1]? = some y) (hne : x ≠ y) : ddTo xs (k + 1) = xs.take (k + 1) := by
  rw [ddTo_new hx (fun hc => hne (by have := hc.2; rw [hy] at this; injection this with e; exact e.symm)), h, List.take_add_one, hx]; rfl
set_option maxHeartbeats 4000000 in
theorem compactLit (base g n c : Nat) (xs : List Ltl) (w : World) (h : HoldR w base 30 3 (.slice (some ⟨g, 0, none⟩) n c) n (xs.flatMap ltlCs)) (hl : xs.length = n) (hn : n ≤ 1000) :
    Calls Try.prog 47 #[.slice (some ⟨g, 0, none⟩) n c] w fun e w' => e = .returned (.slice (some ⟨g, 0, none⟩) (ddTo xs n).length c) ∧ HoldR w' base 30 3 (.slice (some ⟨g, 0, none⟩) (ddTo xs n).length c) (ddTo xs n).length ((ddTo xs n).flatMap ltlCs) ∧ w.grownBy w' (some g) := by
  obtain ⟨hL, hbg, hnc, hcm⟩ := LBk.of_hold h hl
  have hcm2 : c ≤ 9223372036854775807 := hcm
  have HXL := Lib.hid hl
  have HL := Lib.hid hL
  have HH := Lib.hid h
  have hgl := hL.lt
  clear hl h hL
  by_cases hn2 : n < 2
  · have hd : ddTo xs n = xs := by
      have hl := HXL.out
      rcases Nat.lt_or_ge n 1 with h0 | h0
      · obtain rfl : n = 0 := by omega
        rw [List.eq_nil_of_length_eq_zero hl]; rfl
      · obtain rfl : n = 1 := by omega
        match xs, hl with
        | [x], _ => rfl
    have HD := Lib.hid hd
    have hdn : decide ((n : Int) < 2) = true := decide_eq_true (by omega)
    clear hd
    go_enter Try.func47, Try.ntmps47
    go_wp2_with fail
    go_ret
    rw [HD.out, HXL.out]
    exact ⟨rfl, HH.out, gro_below g (Below.refl _ _)⟩
  have hdn : decide ((n : Int) < 2) = false := decide_eq_false (by omega)
  go_enter Try.func47, Try.ntmps47
  go_wp2_with fail
  clear hdn
  go_loopw [3] (fun t3 wr => ∃ k : Nat, 1 ≤ k ∧ k ≤ n ∧ t3 = .int .i64 k ∧ Hid (ddTo xs k = xs.take k) ∧ Hid (Below w.heap.size w wr)) (fun t3 _ => n - (intOf t3).toNat)
  case atStart =>
    refine ⟨1, by omega, by omega, rfl, Lib.hid ?_, Below.refl _ _⟩
    obtain ⟨x, hx⟩ : ∃ x, xs[0]? = some x := ⟨_, List.getElem?_eq_getElem (by have := HXL.out; omega)⟩
    rw [ddTo_new hx (fun hc => by omega), List.take_add_one, hx]; rfl
  case round =>
    obtain ⟨k, hk1, hkn, rfl, hdd, hb⟩ := hrel
    by_cases hlt : k < n
    · obtain ⟨x, hx⟩ : ∃ x, xs[k]? = some x := ⟨_, List.getElem?_eq_getElem (by have := HXL.out; omega)⟩
      obtain ⟨y, hy⟩ : ∃ y, xs[k - 1]? = some y := ⟨_, List.getElem?_eq_getElem (by have := HXL.out; omega)⟩
      have hLr := HL.out.heap (hb.out.block _ hgl)
      obtain ⟨c0, c1, c2⟩ := hLr.cells hx
      obtain ⟨d0, d1, d2⟩ := hLr.cells hy
      have hgu := lit_guard
      have hkk : wrap64 ((k : Int) - 1) = ((k - 1 : Nat) : Int) := by unfold wrap64; omega
      by_cases hxy : x = y
      · have heq := fun w => lit_eql x y w true (decide_eq_true hxy)
        have HQ := Lib.hid (And.intro hx (And.intro hy hxy))
        have HLr := Lib.hid hLr
        clear hx hy hxy hLr
        go_wp2_with fail
        go_quiet (fail)
        have hb1 := Lib.hid (below_drewN hb.out nq)
        have hL1 : LBk (wr.drewN nq) g n xs := HLr.out
        generalize wr.drewN nq = W1 at hb1 hL1 ⊢
        clear heq c0 c1 c2 d0 d1 d2 hb HLr
        have hck : ¬ (c = k) := by omega
        have hkc : k ≤ c := by omega
        go_wp2_with fail
        go_loopw [3, 5] (fun t3 t5 wr => ∃ (i j : Nat) (ys : List Ltl), i < k + j ∧ 1 ≤ j ∧ k + j ≤ n ∧ t3 = .int .i64 i ∧ t5 = .int .i64 j ∧ Hid (LBk wr g n ys) ∧ Hid (ys.take i = ddTo xs (k + j)) ∧ Hid (∀ q, k + j ≤ q + 1 → ys[q]? = xs[q]?) ∧ Hid (w.grownBy wr (some g))) (fun _ t5 _ => n - (intOf t5).toNat)
        case atStart =>
          refine ⟨k, 1, xs, by omega, by omega, by omega, rfl, rfl, hL1, Lib.hid ?_, Lib.hid fun q _ => rfl, gro_below g hb1.out⟩
          rw [ddTo_same HQ.out.1 (by omega) (by rw [HQ.out.2.1, HQ.out.2.2]), hdd.out]
        case round =>
          obtain ⟨i, j, ys, hij, hj1, hjn, rfl, rfl, hLB, htk, hdr, hgr⟩ := hrel
          clear hL1 hb1
          have hgu := lit_guard
          by_cases hlt2 : k + j < n
          · obtain ⟨x, hx⟩ : ∃ x, xs[k + j]? = some x := ⟨_, List.getElem?_eq_getElem (by have := HXL.out; omega)⟩
            obtain ⟨y, hy⟩ : ∃ y, xs[k + j - 1]? = some y := ⟨_, List.getElem?_eq_getElem (by have := HXL.out; omega)⟩
            have hyx : ys[k + j]? = some x := by rw [hdr.out _ (by omega)]; exact hx
            have hyy : ys[k + j - 1]? = some y := by rw [hdr.out _ (by omega)]; exact hy
            obtain ⟨c0, c1, c2⟩ := hLB.out.cells hyx
            obtain ⟨d0, d1, d2⟩ := hLB.out.cells hyy
            rw [Nat.add_mul] at c0 c1 c2
            rw [show k + j - 1 = k + (j - 1) by omega, Nat.add_mul] at d0 d1 d2
            have hjj : wrap64 ((j : Int) - 1) = ((j - 1 : Nat) : Int) := by unfold wrap64; omega
            have hjl : decide ((j : Int) < ((n - k : Nat) : Int)) = true := decide_eq_true (by omega)
            have HJ := Lib.hid (And.intro hx (And.intro hy (And.intro hyx hyy)))
            have hgl2 := hLB.out.lt
            clear hx hy hyx hyy
            by_cases hxy : x = y
            · have heq := fun w => lit_neq x y w true (decide_eq_true hxy)
              have HE := Lib.hid hxy
              clear hxy
              go_wp2_with fail
              go_quiet (fail)
              go_wp2_with fail
              go_roundw
              case rel => exact ⟨i, j + 1, ys, by omega, by omega, by omega, rfl, by go_num, hLB.out.heap rfl, Lib.hid (by rw [htk.out, ← Nat.add_assoc, ddTo_same HJ.out.1 (by omega) (by rw [HJ.out.2.1, HE.out])]), Lib.hid fun q hq => hdr.out q (by omega), gro_trans hgr.out (gro_below g (below_drewN (Below.refl _ _) nq))⟩
              case measure => simp [intOf]; omega
            · have heq := fun w => lit_neq x y w false (decide_eq_false hxy)
              have HE := Lib.hid hxy
              clear hxy
              go_wp2_with fail
              go_quiet (fail)
              have hLq : LBk (wr.drewN nq) g n ys := hLB.out.heap rfl
              have hgq := gro_trans hgr.out (gro_below g (below_drewN (Below.refl wr.heap.size wr) nq))
              have e0 : (wr.drewN nq).cell? ⟨g, k * 3 + j * 3, none⟩ = some (.int .i64 x.var) := c0
              have e1 : (wr.drewN nq).cell? ⟨g, k * 3 + j * 3 + 1, none⟩ = some (.int .i64 x.val) := c1
              have e2 : (wr.drewN nq).cell? ⟨g, k * 3 + j * 3 + 2, none⟩ = some (.bool x.neg) := c2
              generalize wr.drewN nq = W2 at hLq hgq e0 e1 e2 ⊢
              obtain ⟨z, hz⟩ : ∃ z, ys[i]? = some z := ⟨_, List.getElem?_eq_getElem (by have := hLq.choose_spec.2.1; omega)⟩
              obtain ⟨f0, f1, f2⟩ := hLq.cells hz
              have g0 := hLq.frozen (i * 3)
              have g1 := hLq.frozen (i * 3 + 1)
              have g2 := hLq.frozen (i * 3 + 2)
              have hLN := Lib.hid (hLq.put i x)
              have hgN := Lib.hid (gro_trans (gro_trans (gro_trans hgq (gro_set W2 g (i * 3) (.int .i64 x.var))) (gro_set _ g (i * 3 + 1) (.int .i64 x.val))) (gro_set _ g (i * 3 + 2) (.bool x.neg)))
              have htN : Hid ((ys.set i x).take (i + 1) = ddTo xs (k + (j + 1))) := Lib.hid (by
                rw [← Nat.add_assoc, ddTo_new HJ.out.1 (fun hc => HE.out (by have := hc.2; rw [HJ.out.2.1] at this; injection this with e; exact e.symm)), ← htk.out, List.take_add_one, List.getElem?_set_self (List.getElem?_eq_some_iff.1 hz).1, List.take_set_of_le (Nat.le_refl _)]; rfl)
              have hdN : Hid (∀ q, k + (j + 1) ≤ q + 1 → (ys.set i x)[q]? = xs[q]?) := Lib.hid fun q hq => by rw [List.getElem?_set_ne (by omega)]; exact hdr.out q (by omega)
              clear hLq hgq hz c0 c1 c2 d0 d1 d2 heq hLB htk hdr hgr
              go_wp2_with fail
              go_roundw
              case rel => exact ⟨i + 1, j + 1, ys.set i x, by omega, by omega, by omega, by go_num, by go_num, hLN.out, htN.out, hdN.out, hgN.out⟩
              case measure => simp [intOf]; omega
          · have hjl : decide ((j : Int) < ((n - k : Nat) : Int)) = false := decide_eq_false (by omega)
            have hzv : ∀ w, (zeroValue 30).run Try.prog w = .ok (.agg #[.int .i64 0, .int .i64 0, .bool false]) w := fun w => by
              obtain ⟨i0, hi0, hz0, -, -⟩ := info_parts info_lit
              simp [zeroValue, typeInfo, hi0, hz0]
            obtain ⟨W5, hcl, hL5, hg5⟩ := hLB.out.clear (m := i) (by omega) 26 30 _ Try.underlying26 hzv rfl (by intro u hu; simp [Value.cells] at hu; rcases hu with rfl | rfl <;> rfl) (c - i)
            have hci : ¬ (c = i) := by omega
            have hic : i ≤ c := by omega
            have hLN := Lib.hid hL5
            have hgN := Lib.hid (gro_trans hgr.out hg5)
            have hfin : Hid (ys.take i = ddTo xs n) := Lib.hid (by rw [htk.out, show k + j = n by omega])
            have hlen : Hid (i = (ddTo xs n).length) := Lib.hid (by rw [← hfin.out, List.length_take]; have := hLB.out.choose_spec.2.1; omega)
            clear hL5 hg5 hzv
            go_wp2_with fail
            go_ret
            have := hLN.out.hold hbg (by omega) hcm
            rw [hfin.out] at this
            rw [← hlen.out]
            exact ⟨rfl, this, hgN.out⟩
      · have heq := fun w => lit_eql x y w false (decide_eq_false hxy)
        have HN := Lib.hid (dd_keep hdd.out hx hy hxy)
        clear hx hy hxy hLr
        go_wp2_with fail
        go_quiet (fail)
        go_wp2_with fail
        go_roundw
        case rel => exact ⟨k + 1, by omega, by omega, by go_num, HN.out, below_drewN hb.out _⟩
        case measure => simp [intOf]; omega
    · obtain rfl : k = n := by omega
      have hd : ddTo xs k = xs := by rw [hdd.out, List.take_of_length_le (by have := HXL.out; omega)]
      have HD := Lib.hid hd
      clear hd
      go_wp2_with fail
      go_ret
      rw [HD.out, HXL.out]
      exact ⟨rfl, HoldR.below HH.out hb.out, gro_below g hb.out⟩
theorem growLit0 (w : World) : Calls Try.prog 48 #[.slice none 0 0, .int .i64 ((0 : Nat) : Int)] w fun e w' => e = .returned (.slice none 0 0) ∧ w' = w :=
  Go.Proofs.Any8.slices_Grow_room Try.growLit none 0 0 0 w (by omega) (by omega) (by omega) (by omega)
theorem growLitN (n : Nat) (h0 : 0 < n) (hn : n ≤ 1000) (w : World) : Calls Try.prog 48 #[.slice none 0 0, .int .i64 (n : Int)] w fun e w' => ∃ v, e = .returned v ∧ w'.ownsRow w.heap.size 30 3 v 0 [] ∧ Below w.heap.size w w' := by
  obtain ⟨i0, hi0, hz0, hz1, hz2⟩ := info_parts info_lit
  have h := Go.Proofs.Any8.slices_Grow_grow Try.growLit i0 _ hi0 hz0 (by rw [hz1]; omega) none 0 0 n [] w (by omega) (by omega) (by rw [hz2]; omega) (by omega) (by rw [Nat.zero_mul]; rfl) (fun _ => rfl) (fun a h => by cases h)
  change Calls Try.prog 48 _ _ _ at h
  refine h.mono ?_
  rintro e w' ⟨rfl, rfl⟩
  refine ⟨_, rfl, ⟨by simp, .inr ⟨w.heap.size, _, _, rfl, Nat.le_refl _, heap_alloc_new w.drew _, Nat.zero_le _, grownCap_le_maxLen _ _ _ _ (by unfold maxLen; omega), ?_, by simp⟩⟩, (below_drewN (Below.refl _ _) 1).trans (b_alloc w.drew _)⟩
  have hG := grownCap_ge w n 0 (Try.growLit_ren.t 25)
  show (_ : Array Value).size = _
  simp [Builtin.zeroCells, Value.cells]
  omega
theorem growLit (t : Int) (n : Nat) (ht : t = (n : Int)) (hn : n ≤ 1000) (w : World) : Calls Try.prog 48 #[.slice none 0 0, .int .i64 t] w fun e w' => ∃ v, e = .returned v ∧ w'.ownsRow w.heap.size 30 3 v 0 [] ∧ Below w.heap.size w w' := by
  subst ht
  rcases Nat.eq_zero_or_pos n with rfl | h0
  · refine (growLit0 w).mono ?_
    rintro e w' ⟨rfl, rfl⟩
    exact ⟨_, rfl, ⟨by simp, .inl ⟨rfl, rfl⟩⟩, Below.refl _ _⟩
  · exact growLitN n h0 hn w
set_option maxHeartbeats 4000000 in
theorem concatLit (b1 b2 gv n m : Nat) (v u : Value) (xs ys : List Ltl) (w : World) (hgv : gv < w.heap.size) (c0 : w.cell? ⟨gv, 0, none⟩ = some v) (c1 : w.cell? ⟨gv, 1, none⟩ = some u)
    (hx : HoldR w b1 30 3 v n (xs.flatMap ltlCs)) (hlx : xs.length = n) (hy : HoldR w b2 30 3 u m (ys.flatMap ltlCs)) (hly : ys.length = m) (hnm : n + m ≤ 1000) :
    Calls Try.prog 26 #[.slice (some ⟨gv, 0, none⟩) 2 2] w fun e w' => ∃ v', e = .returned v' ∧ w'.ownsRow w.heap.size 30 3 v' (n + m) ((xs ++ ys).flatMap ltlCs) ∧ Below w.heap.size w w' := by
  obtain ⟨i0, hi0, hz0, hz1, hz2⟩ := info_parts info_lit
  obtain ⟨A, c, rfl⟩ := hx.form
  obtain ⟨B, d, rfl⟩ := hy.form
  have HX := Lib.hid hx
  have HY := Lib.hid hy
  have HC := Lib.hid (And.intro c0 c1)
  clear hx hy
  go_enter Try.func26, Try.ntmps26
  go_wp2_with fail
  go_loop [3, 11] (fun t3 t11 => ∃ k : Nat, k ≤ 2 ∧ t11 = .int .i64 k ∧ t3 = .int .i64 ((if k = 0 then 0 else if k = 1 then n else n + m : Nat) : Int)) (fun _ t11 => 2 - (intOf t11).toNat)
  case atStart => exact ⟨0, by omega, rfl, rfl⟩
  case round =>
    obtain ⟨k, hk, rfl, rfl⟩ := hrel
    by_cases h0 : k = 0
    · subst h0
      have e1 : wrap64 (((0 : Nat) : Int) + (n : Int)) = (n : Int) := by unfold wrap64; omega
      go_wp2_with fail
      exact ⟨⟨1, by omega, rfl, rfl⟩, by simp [intOf]⟩
    · by_cases h1 : k = 1
      · subst h1
        go_wp2_with fail
        exact ⟨⟨2, by omega, rfl, rfl⟩, by simp [intOf]⟩
      · obtain rfl : k = 2 := by omega
        go_wp2_with fail
        refine (growLit _ (n + m) (by omega) hnm w).mono ?_
        rintro e W1 ⟨v1, rfl, ho1, hb1⟩
        have HB1 := Lib.hid hb1
        have HO1 := Lib.hid ho1
        clear hb1 ho1 c0 c1
        go_wp2_with fail
        go_loopw [6, 27] (fun t6 t27 wr => ∃ (k : Nat) (v5 : Value), k ≤ 2 ∧ t27 = .int .i64 k ∧ v5 = t6 ∧ Hid (wr.ownsRow w.heap.size 30 3 v5 (if k = 0 then 0 else if k = 1 then n else n + m) ((if k = 0 then [] else if k = 1 then xs else xs ++ ys).flatMap ltlCs)) ∧ Hid (Below w.heap.size w wr)) (fun _ t27 _ => 2 - (intOf t27).toNat)
        case atStart => exact ⟨0, _, by omega, rfl, rfl, HO1, HB1⟩
        case round =>
          obtain ⟨k, v5, hk, rfl, rfl, ho, hb⟩ := hrel
          clear HO1 HB1
          by_cases h0 : k = 0
          · subst h0
            have e0 := (hb.out.cell (p := ⟨gv, 0, none⟩) hgv).trans HC.out.1
            have hs := (HX.out.below hb.out).src
            have ho' : wr.ownsRow w.heap.size 30 3 v5 0 [] := ho.out
            have hsz := hb.out.size
            go_wp2_with (at_builtin; go_loud (refine wpList_append_any rfl _ _ 26 rfl w.heap.size 30 i0 _ 3 24 Try.underlying26 hi0 hz0 hz1 hz2 rfl (by decide) v5 _ _ rfl ho' _ _ _ _ rfl hs (lits_one xs) (by unfold maxLen; omega) (by omega) (by omega) ?_; intro v6 w6 hown hbw hgr _))
            exact ⟨⟨1, v6, by omega, rfl, rfl, Lib.hid (by simpa using hown), hb.out.trans hbw⟩, by simp [intOf]⟩
          · by_cases h1 : k = 1
            · subst h1
              have e0 := (hb.out.cell (p := ⟨gv, 1, none⟩) hgv).trans HC.out.2
              have hs := (HY.out.below hb.out).src
              have ho' : wr.ownsRow w.heap.size 30 3 v5 n (xs.flatMap ltlCs) := ho.out
              have hsz := hb.out.size
              go_wp2_with (at_builtin; go_loud (refine wpList_append_any rfl _ _ 26 rfl w.heap.size 30 i0 _ 3 24 Try.underlying26 hi0 hz0 hz1 hz2 rfl (by decide) v5 _ _ rfl ho' _ _ _ _ rfl hs (lits_one ys) (by unfold maxLen; omega) (by omega) (by omega) ?_; intro v6 w6 hown hbw hgr _))
              exact ⟨⟨2, v6, by omega, rfl, rfl, Lib.hid (by simpa using hown), hb.out.trans hbw⟩, by simp [intOf]⟩
            · obtain rfl : k = 2 := by omega
              go_wp2_with fail
              go_ret
              exact ⟨_, rfl, ho.out, hb.out⟩
theorem isorted (b0 n : Nat) (v : Value) (xs : List Ltl) (w : World) (h : HoldR w b0 30 3 v n (xs.flatMap ltlCs)) (hl : xs.length = n) (hn : n ≤ 1000) :
    Calls Try.prog 25 #[v] w fun e w' => ∃ (v' : Value) (ys : List Ltl), e = .returned v' ∧ ys.Perm xs ∧ ys.Pairwise (fun x y => ltlLess y x = false) ∧ HoldR w' w.heap.size 30 3 v' (ddTo ys n).length ((ddTo ys n).flatMap ltlCs) ∧ Below w.heap.size w w' := by
  obtain ⟨A, c, rfl⟩ := h.form
  have HH := Lib.hid h
  have HL := Lib.hid hl
  clear h hl
  go_enter Try.func25, Try.ntmps25
  go_wp2_with fail
  refine (cloneLit _ _ _ _ _ HH.out (by omega)).mono ?_
  rintro e w1 ⟨v1, rfl, h1, hb1⟩
  rcases id h1.2 with ⟨rfl, rfl⟩ | ⟨g, cap, cur, rfl, -⟩
  · go_wp2_with fail
    have hcon := Go.Proofs.AnyF.slices_SortFunc_none Try.sortLit none 0 (.func (.func 35) #[] #[]) w1
    change Calls Try.prog 45 _ _ _ at hcon
    refine hcon.mono ?_
    rintro e w2 ⟨rfl, hw2⟩
    have hb2 : Below w1.heap.size w1 w2 := by
      first
        | (subst hw2; exact Below.refl _ _)
        | (obtain ⟨q, rfl⟩ := hw2; exact below_drewN (Below.refl _ _) q)
    have hx : xs = [] := List.eq_nil_of_length_eq_zero HL.out
    subst hx
    have hdn : decide ((0 : Int) < 2) = true := rfl
    clear hw2
    have hcc : Calls Try.prog 47 #[.slice none 0 0] w2 fun e w' => e = .returned (.slice none 0 0) ∧ w2 = w' := by
      go_enter Try.func47, Try.ntmps47
      go_wp2_with fail
      go_ret
      exact ⟨rfl, rfl⟩
    go_wp2_with fail
    refine hcc.mono ?_
    rintro e w3 ⟨rfl, rfl⟩
    go_wp2_with fail
    refine (clipLit none 0 0 0 [] _ (HoldR.nil _ _ _ _)).mono ?_
    rintro e w4 ⟨rfl, rfl⟩
    go_wp2_with fail
    go_ret
    exact ⟨_, [], rfl, List.Perm.refl _, List.Pairwise.nil, HoldR.nil _ _ _ _, bgo hb1 hb2⟩
  · obtain ⟨-, hbg, -, -⟩ := LBk.of_hold h1 HL.out
    have hgl := (LBk.of_hold h1 HL.out).1.lt
    go_wp2_with fail
    refine (sortLits _ _ _ _ xs _ h1 HL.out hn).mono ?_
    rintro e w2 ⟨rfl, ys, hp, hs, h2, hg2⟩
    have hyl : ys.length = n := by rw [hp.length_eq]; exact HL.out
    go_wp2_with fail
    refine (compactLit _ _ _ _ ys _ h2 hyl hn).mono ?_
    rintro e w3 ⟨rfl, h3, hg3⟩
    go_wp2_with fail
    refine (clipLit _ _ _ _ _ _ h3).mono ?_
    rintro e w4 ⟨rfl, rfl⟩
    go_wp2_with fail
    go_ret
    exact ⟨_, ys, rfl, hp, hs, h3.clip, hb1.trans (gro_down (gro_trans hg2 hg3) hbg hb1.size)⟩
end Go.Proofs.Ytjkgndedffildaa
