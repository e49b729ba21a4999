/- spec's Resolve. -/
import Derived.Test.YtjkgndedffildaaMergeC
import Derived.Test.YtjkgndedffildaaSubs
import Derived.Test.YtjkgndedffildaaResP
namespace Go.Proofs.Ytjkgndedffildaa
open Go.ChangeShapes Go.WideShapes Go.ChangeAt Go.RowKit
open Go.Shelf
set_option linter.unusedVariables false
set_option maxRecDepth 100000

theorem exF_take {xs : List Ltl} {l x : Ltl} {k : Nat} (hx : xs[k]? = some x) : exF (xs.take (k + 1)) l = if x = l then exF (xs.take k) l else exF (xs.take k) l ++ [x] := by
  unfold exF
  rw [List.take_add_one, hx, List.filter_append]
  by_cases h : x = l <;> simp [h]
set_option maxHeartbeats 2000000 in
theorem swithout (A : Option Addr) (n c : Nat) (xs : List Ltl) (l : Ltl) (w : World) (h : LitR w w.heap.size A n xs) (hn : n ≤ 1000) :
    Calls Try.prog 19 #[.slice A n c, .agg #[.int .i64 l.var, .int .i64 l.val, .bool l.neg]] w fun e w' => ∃ v, e = .returned v ∧ w'.ownsRow w.heap.size 30 3 v (exF xs l).length ((exF xs l).flatMap ltlCs) ∧ Below w.heap.size w w' := by
  obtain ⟨i0, hi0, hz0, hz1, hz2⟩ := info_parts info_lit
  have hl := Lib.hid h.len
  obtain ⟨W1, hW1⟩ : ∃ W1, W1 = w.alloc (.cells #[.int .i64 l.var, .int .i64 l.val, .bool l.neg] 30) := ⟨_, rfl⟩
  have hB1 : Below w.heap.size w W1 := by rw [hW1]; exact b_alloc _ _
  have hT1 : TBlk 30 W1 w.heap.size #[.int .i64 l.var, .int .i64 l.val, .bool l.neg] := by rw [hW1]; exact TBlk.new _ _ _
  have hs1 : W1.heap.size = w.heap.size + 1 := by rw [hW1, size_alloc_]
  have HH := Lib.hid h
  have ol : (W1.alloc (.cells #[] 30)).ownsRow W1.heap.size 30 3 (.slice (some ⟨W1.heap.size, 0, none⟩) 0 0) 0 [] := World.ownsRow_lit W1 #[] 0 (Nat.le_refl _) (by decide) rfl
  rw [hs1] at ol
  clear h
  go_enter Try.func19, Try.ntmps19
  go_wp2_with fail
  rw [← hW1]
  clear hW1
  go_wp2_with fail
  go_loopw [5, 6] (fun t5 t6 wr => ∃ (k : Nat) (v5 : Value), k ≤ n ∧ t6 = .int .i64 k ∧ v5 = t5 ∧ Hid (wr.ownsRow (w.heap.size + 1) 30 3 v5 (exF (xs.take k) l).length ((exF (xs.take k) l).flatMap ltlCs)) ∧ Hid (TBlk 30 wr w.heap.size #[.int .i64 l.var, .int .i64 l.val, .bool l.neg]) ∧ Hid (Below w.heap.size w wr)) (fun _ t6 _ => n - (intOf t6).toNat)
  case atStart => exact ⟨0, _, by omega, rfl, rfl, Lib.hid (by simpa [exF] using ol), hT1.alloc_ _, hB1.trans ((b_alloc _ _).mono hB1.size)⟩
  case round =>
    obtain ⟨k, v5, hk, rfl, rfl, ho, hT, hb⟩ := hrel
    clear ol hT1
    by_cases hlt : k < n
    · obtain ⟨ab, ao, x, rfl, hab, hxk, hc0, hc1, hc2⟩ := LitR.at_ (HH.out.on hb.out) hlt
      have q0 := hT.out.at_ 0 rfl
      have q1 := hT.out.at_ 1 rfl
      have q2 := hT.out.at_ 2 rfl
      simp only [List.getElem_toArray, List.getElem_cons_zero, List.getElem_cons_succ] at q0 q1 q2
      have hE := Lib.hid (exF_take (l := l) hxk)
      have hlen := exF_len (xs.take k) l
      obtain ⟨A5, c5, rfl⟩ := own_form ho.out
      rw [List.length_take] at hlen
      clear hxk
      by_cases hxl : x = l
      · have heq := fun w => lit_neq x l w true (decide_eq_true hxl)
        have hgu := lit_guard
        have HE := Lib.hid hxl
        clear hxl
        go_wp2_with fail
        go_quiet (fail)
        go_wp2_with fail
        go_roundw
        case rel => exact ⟨k + 1, _, by omega, by go_num, rfl, by rw [hE.out, if_pos HE.out]; exact ho, hT, below_drewN hb.out _⟩
        case measure => simp [intOf]; omega
      · have heq := fun w => lit_neq x l w false (decide_eq_false hxl)
        have hgu := lit_guard
        have HE := Lib.hid hxl
        clear hxl
        go_wp2_with fail
        go_quiet (fail)
        have ho9 : Hid ((wr.drewN nq).ownsRow (w.heap.size + 1) 30 3 (.slice A5 (exF (xs.take k) l).length c5) (exF (xs.take k) l).length ((exF (xs.take k) l).flatMap ltlCs)) := ho
        have hT9 : Hid (TBlk 30 (wr.drewN nq) w.heap.size #[.int .i64 l.var, .int .i64 l.val, .bool l.neg]) := hT
        have hb9 := Lib.hid (below_drewN hb.out nq)
        have c0 : (wr.drewN nq).cell? ⟨ab, ao + k * 3, none⟩ = some (.int .i64 x.var) := hc0
        have c1 : (wr.drewN nq).cell? ⟨ab, ao + k * 3 + 1, none⟩ = some (.int .i64 x.val) := hc1
        have c2 : (wr.drewN nq).cell? ⟨ab, ao + k * 3 + 2, none⟩ = some (.bool x.neg) := hc2
        generalize wr.drewN nq = W9 at ho9 hT9 hb9 c0 c1 c2 ⊢
        clear ho hT hb hc0 hc1 hc2 q0 q1 q2 heq hgu
        go_wp2_with (at_builtin; go_loud (refine wpList_append_any rfl _ _ 26 rfl (w.heap.size + 1) 30 i0 _ 3 24 Try.underlying26 hi0 hz0 hz1 hz2 rfl (by decide) (.slice A5 (exF (xs.take k) l).length c5) _ _ rfl (own_below ho9.out (b_alloc W9 _)) _ 1 _ (ltlCs x) rfl (.inr ⟨_, rfl, rfl, fun j u hj => by rw [add_own, World.cell?_alloc_at _ _ _ _ rfl]; rw [← Array.getElem?_toList]; exact hj⟩) (by simpa using lits_one [x]) (by unfold maxLen; omega) (by omega) (by rw [size_alloc_]; have := hb9.out.size; have := hT9.out.lt; omega) ?_; intro v1 w1 hown hbw hgr _))
        have hb1 := hb9.out.trans (((b_alloc W9 (.cells #[.int .i64 x.var, .int .i64 x.val, .bool x.neg] 30)).mono hb9.out.size).trans (hbw.mono (by omega)))
        have hown2 : w1.ownsRow (w.heap.size + 1) 30 3 v1 (exF (xs.take (k + 1)) l).length ((exF (xs.take (k + 1)) l).flatMap ltlCs) := by
          rw [hE.out, if_neg HE.out]; simpa using hown
        go_roundw
        case rel => exact ⟨k + 1, v1, by omega, by go_num, rfl, hown2, (hT9.out.alloc_ _).below_ hbw (by omega), hb1⟩
        case measure => simp [intOf]; omega
    · obtain rfl : k = n := by omega
      go_wp2_with fail
      go_ret
      refine ⟨_, rfl, ?_, hb.out⟩
      have := own_base ho.out (Nat.le_succ _)
      rwa [List.take_of_length_le (by have := hl.out; omega)] at this
set_option maxHeartbeats 4000000 in
theorem sResolve (A B : Option Addr) (k : Int) (n m c d : Nat) (xs ys : List Ltl) (l : Ltl) (w : World) (h : LitR w w.heap.size A n xs) (hy : LitR w w.heap.size B m ys) :
    Calls Try.prog 6 #[.int .i64 k, .slice A n c, .slice B m d, .agg #[.int .i64 l.var, .int .i64 l.val, .bool l.neg]] w fun e w' => ∃ v, e = .returned (.tuple #[v, .bool (rsB k xs ys l)]) ∧ w'.ownsRow w.heap.size 30 3 v (rsF k xs ys l).length ((rsF k xs ys l).flatMap ltlCs) ∧ Below w.heap.size w w' := by
  have HX := Lib.hid h
  have HY := Lib.hid hy
  have hlx := Lib.hid h.len
  have hly := Lib.hid hy.len
  obtain ⟨W1, hW1⟩ : ∃ W1, W1 = w.alloc (.cells #[.int .i64 l.var, .int .i64 l.val, .bool l.neg] 30) := ⟨_, rfl⟩
  have hB1 : Below w.heap.size w W1 := by rw [hW1]; exact b_alloc _ _
  have hT1 : TBlk 30 W1 w.heap.size #[.int .i64 l.var, .int .i64 l.val, .bool l.neg] := by rw [hW1]; exact TBlk.new _ _ _
  have hs1 : W1.heap.size = w.heap.size + 1 := by rw [hW1, size_alloc_]
  have q0 := hT1.at_ 0 rfl
  have q1 := hT1.at_ 1 rfl
  have q2 := hT1.at_ 2 rfl
  simp only [List.getElem_toArray, List.getElem_cons_zero, List.getElem_cons_succ] at q0 q1 q2
  clear h hy
  go_enter Try.func6, Try.ntmps6
  go_wp2_with fail
  rw [← hW1]
  clear hW1
  go_wp2_with fail
  obtain ⟨W2, hW2⟩ : ∃ W2, W1.alloc (.cells #[.int .i64 l.var, .int .i64 l.val, .bool !l.neg] 30) = W2 := ⟨_, rfl⟩
  have hB2 : Below w.heap.size w W2 := hB1.trans (by rw [← hW2]; exact (b_alloc _ _).mono hB1.size)
  have hT2 : TBlk 30 W2 w.heap.size #[.int .i64 l.var, .int .i64 l.val, .bool l.neg] := by rw [← hW2]; exact hT1.alloc_ _
  have hU2 : TBlk 30 W2 (w.heap.size + 1) #[.int .i64 l.var, .int .i64 l.val, .bool !l.neg] := by rw [← hW2, ← hs1]; exact TBlk.new _ _ _
  have HC : Hid (∀ w', Below W2.heap.size W2 w' → w'.cell? ⟨w.heap.size, 0, none⟩ = some (.int .i64 l.var) ∧ w'.cell? ⟨w.heap.size, 1, none⟩ = some (.int .i64 l.val) ∧ w'.cell? ⟨w.heap.size, 2, none⟩ = some (.bool l.neg) ∧ w'.cell? ⟨w.heap.size + 1, 0, none⟩ = some (.int .i64 l.var) ∧ w'.cell? ⟨w.heap.size + 1, 1, none⟩ = some (.int .i64 l.val) ∧ w'.cell? ⟨w.heap.size + 1, 2, none⟩ = some (.bool !l.neg)) := Lib.hid fun w' hb => by
    have k1 := hT2.below_ hb hT2.lt
    have k2 := hU2.below_ hb hU2.lt
    exact ⟨k1.at_ 0 rfl, k1.at_ 1 rfl, k1.at_ 2 rfl, k2.at_ 0 rfl, k2.at_ 1 rfl, k2.at_ 2 rfl⟩
  rw [hW2]
  clear hW2 hT1 hT2 hU2 q0 q1 q2 hB1 hs1
  have hno : rsB k xs ys l = false → Hid (rsF k xs ys l = []) := fun h => Lib.hid (by unfold rsF; rw [h]; rfl)
  have HNO := Lib.hid hno
  clear hno
  refine (sValidClause _ _ _ _ _ _ (HX.out.on hB2)).mono ?_
  rintro e W3 ⟨rfl, hB3⟩
  cases h1 : vcF xs k
  · have hr : rsB k xs ys l = false := by unfold rsB rsOk; rw [h1]; rfl
    have HR := Lib.hid hr
    have HE := HNO.out hr
    clear h1 hr
    go_wp2_with fail
    refine bodyPost_ret (v := .tuple #[.slice none 0 0, .bool false]) ?_ rfl ?_
    · simp [results, Try.results6, go_sem]
    rw [HR.out, HE.out]
    exact ⟨_, rfl, ⟨by simp, .inl ⟨rfl, rfl⟩⟩, bgo hB2 hB3⟩
  have H1 := Lib.hid h1
  have hn12 : n ≤ 12 := by have := vcF_len h1; have := hlx.out; omega
  clear h1
  go_wp2_with fail
  refine (sValidClause _ _ _ _ _ _ (HY.out.on (bgo hB2 hB3))).mono ?_
  rintro e W4 ⟨rfl, hB4⟩
  have hB34 := bgo hB3 hB4
  have hB24 := bgo hB2 hB34
  cases h2 : vcF ys k
  · have hr : rsB k xs ys l = false := by unfold rsB rsOk; rw [h2]; simp
    have HR := Lib.hid hr
    have HE := HNO.out hr
    clear h2 hr
    go_wp2_with fail
    refine bodyPost_ret (v := .tuple #[.slice none 0 0, .bool false]) ?_ rfl ?_
    · simp [results, Try.results6, go_sem]
    rw [HR.out, HE.out]
    exact ⟨_, rfl, ⟨by simp, .inl ⟨rfl, rfl⟩⟩, hB24⟩
  have H2 := Lib.hid h2
  have hm12 : m ≤ 12 := by have := vcF_len h2; have := hly.out; omega
  obtain ⟨c1, c2, c3, -, -, -⟩ := HC.out W4 hB34
  clear h2 hB3 hB4
  go_wp2_with fail
  clear c1 c2 c3
  refine (swithout _ _ _ _ l _ (HX.out.on hB24) (by omega)).mono ?_
  rintro e W5 ⟨v5, rfl, ho5, hB5⟩
  obtain ⟨A5, d5, rfl⟩ := own_form ho5
  have hB35 := bgo hB34 hB5
  have hB25 := bgo hB24 hB5
  have hbe : (((exF xs l).length : Int) == (n : Int)) = !decide (l ∈ xs) := by
    rw [← exF_same, ← hlx.out]
    by_cases hq : (exF xs l).length = xs.length
    · rw [decide_eq_true hq]; simp [hq]
    · rw [decide_eq_false hq]; simp; omega
  clear ho5 hB34 hB24 hB5
  by_cases hm1 : l ∈ xs
  · rw [decide_eq_true hm1] at hbe
    obtain ⟨-, -, -, c1, c2, c3⟩ := HC.out W5 hB35
    have HM1 := Lib.hid hm1
    clear hm1
    go_wp2_with fail
    clear c1 c2 c3 hbe
    refine (swithout _ _ _ _ (negL l) _ (HY.out.on hB25) (by omega)).mono ?_
    rintro e W6 ⟨v6, rfl, ho6, hB6⟩
    obtain ⟨A6, d6, rfl⟩ := own_form ho6
    have hB36 := bgo hB35 hB6
    have hB26 := bgo hB25 hB6
    have hbe : (((exF ys (negL l)).length : Int) == (m : Int)) = !decide (negL l ∈ ys) := by
      rw [← exF_same, ← hly.out]
      by_cases hq : (exF ys (negL l)).length = ys.length
      · rw [decide_eq_true hq]; simp [hq]
      · rw [decide_eq_false hq]; simp; omega
    clear ho6 hB35 hB25 hB6
    by_cases hm2 : negL l ∈ ys
    · rw [decide_eq_true hm2] at hbe
      have hok : rsOk k xs ys l = true := by unfold rsOk; rw [H1.out, H2.out, decide_eq_true HM1.out, decide_eq_true hm2]; rfl
      have HOK := Lib.hid hok
      clear hm2 hok
      go_wp2_with fail
      have hbd := bgo hB36 (below_drewN (Below.refl _ _) 1)
      have hbw := bgo hB26 (below_drewN (Below.refl _ _) 1)
      have hS0 := HC.out W6.drew hbd
      have HX7 := Lib.hid (HX.out.on hbw)
      have hl1 : Hid ((exF xs l).length + (exF ys (negL l)).length ≤ 24) := Lib.hid (by have := exF_len xs l; have := exF_len ys (negL l); have := hlx.out; have := hly.out; omega)
      go_region_held3 (fun w' => w'.cell? ⟨w.heap.size, 0, none⟩ = some (.int .i64 l.var) ∧ w'.cell? ⟨w.heap.size, 1, none⟩ = some (.int .i64 l.val) ∧ w'.cell? ⟨w.heap.size, 2, none⟩ = some (.bool l.neg) ∧ w'.cell? ⟨w.heap.size + 1, 0, none⟩ = some (.int .i64 l.var) ∧ w'.cell? ⟨w.heap.size + 1, 1, none⟩ = some (.int .i64 l.val) ∧ w'.cell? ⟨w.heap.size + 1, 2, none⟩ = some (.bool !l.neg))
        (first | with_reducible exact hS0 | with_reducible exact HC.out _ hb9 | with_reducible exact HC.out _ hb8 | with_reducible exact HC.out _ hb7)
        (first
          | (go_at_call 19
             have hq7 := hbw7
             clear hq7
             refine (swithout _ _ _ _ (negL l) _ (HY.out.on hbw7) (by omega)).mono ?_
             rintro e W8 ⟨v8, rfl, ho8, hBq⟩
             obtain ⟨A8, d8, rfl⟩ := own_form ho8
             have ho7' := own_below ho7 hBq
             have hb8 := bgo hb7 hBq
             have hbw8 := bgo hbw7 hBq
             clear hBq)
          | (go_at_call 19
             refine (swithout _ _ _ _ l _ HX7.out (by omega)).mono ?_
             rintro e W7 ⟨v7, rfl, ho7, hBq⟩
             obtain ⟨A7, d7, rfl⟩ := own_form ho7
             have hb7 := bgo hbd hBq
             have hbw7 := bgo hbw hBq
             clear hBq)
          | (go_at_call 20
             refine (mergeClauses _ _ _ _ _ _ _ _ _ ho7' rfl ho8 rfl (by have := hl1.out; omega)).mono ?_
             rintro e W9 ⟨v9, rfl, -, ho9, hBq⟩
             obtain ⟨A9, d9, rfl⟩ := own_form ho9
             have ho9' := own_base ho9 hbw8.size
             have hb9 := bgo hb8 hBq
             have hbw9 := bgo hbw8 hBq
             clear hBq))
      clear ho7 ho7' ho8 ho9 hb9 hb8 hb7 hbd hbw hbw7 hbw8 hS0
      have hmm : mergeL (exF xs l) (exF ys (negL l)) = rsM xs ys l := rfl
      rw [hmm] at ho9' ⊢
      clear hmm
      by_cases hlen : (rsM xs ys l).length ≤ 12
      · have hr : rsB k xs ys l = true := by unfold rsB; rw [HOK.out, decide_eq_true hlen]; rfl
        have hF : rsF k xs ys l = rsM xs ys l := by unfold rsF; rw [hr]; rfl
        have HR := Lib.hid hr
        have HF := Lib.hid hF
        have hdl : decide ((12 : Int) < ((rsM xs ys l).length : Int)) = false := decide_eq_false (by omega)
        clear hr hF
        go_wp2_with fail
        refine bodyPost_ret (v := .tuple #[.slice A9 (rsM xs ys l).length d9, .bool true]) ?_ rfl ?_
        · simp [results, Try.results6, go_sem]
        rw [HR.out, HF.out]
        exact ⟨_, rfl, ho9', hbw9⟩
      · have hr : rsB k xs ys l = false := by unfold rsB; rw [decide_eq_false hlen]; simp
        have HR := Lib.hid hr
        have HE := HNO.out hr
        have hdl : decide ((12 : Int) < ((rsM xs ys l).length : Int)) = true := decide_eq_true (by omega)
        clear hr
        go_wp2_with fail
        refine bodyPost_ret (v := .tuple #[.slice none 0 0, .bool false]) ?_ rfl ?_
        · simp [results, Try.results6, go_sem]
        rw [HR.out, HE.out]
        exact ⟨_, rfl, ⟨by simp, .inl ⟨rfl, rfl⟩⟩, hbw9⟩
    · rw [decide_eq_false hm2] at hbe
      have hr : rsB k xs ys l = false := by unfold rsB rsOk; rw [decide_eq_false hm2]; simp
      have HR := Lib.hid hr
      have HE := HNO.out hr
      clear hm2 hr
      go_wp2_with fail
      refine bodyPost_ret (v := .tuple #[.slice none 0 0, .bool false]) ?_ rfl ?_
      · simp [results, Try.results6, go_sem]
      rw [HR.out, HE.out]
      exact ⟨_, rfl, ⟨by simp, .inl ⟨rfl, rfl⟩⟩, hB26⟩
  · rw [decide_eq_false hm1] at hbe
    have hr : rsB k xs ys l = false := by unfold rsB rsOk; rw [decide_eq_false hm1]; simp
    have HR := Lib.hid hr
    have HE := HNO.out hr
    clear hm1 hr
    go_wp2_with fail
    refine bodyPost_ret (v := .tuple #[.slice none 0 0, .bool false]) ?_ rfl ?_
    · simp [results, Try.results6, go_sem]
    rw [HR.out, HE.out]
    exact ⟨_, rfl, ⟨by simp, .inl ⟨rfl, rfl⟩⟩, hB25⟩
end Go.Proofs.Ytjkgndedffildaa
