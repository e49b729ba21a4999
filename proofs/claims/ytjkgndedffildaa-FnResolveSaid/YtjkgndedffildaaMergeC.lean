/- The union of two clauses, as the reference makes it. -/
import Derived.Test.YtjkgndedffildaaLits
import Derived.Test.YtjkgndedffildaaApp
import Derived.Test.YtjkgndedffildaaLitEq
import Derived.Deep.RegionHeld3
namespace Go.Proofs.Ytjkgndedffildaa
open Go.ChangeShapes Go.WideShapes Go.ChangeAt Go.RowKit
open Go.Shelf
set_option linter.unusedVariables false
set_option maxRecDepth 100000

theorem lits_one (xs : List Ltl) : ∀ u ∈ xs.flatMap ltlCs, u.oneCell' = true := by
  intro u hu
  obtain ⟨x, _, hx⟩ := List.mem_flatMap.1 hu
  simp [ltlCs] at hx
  rcases hx with rfl | rfl | rfl <;> rfl
theorem lits_len (xs : List Ltl) : (xs.flatMap ltlCs).length = xs.length * 3 := flatMap_len ltlCs 3 (fun _ => rfl) xs
theorem lits_take (xs : List Ltl) (k : Nat) : (xs.flatMap ltlCs).take (k * 3) = (xs.take k).flatMap ltlCs := by
  induction xs generalizing k with
  | nil => simp
  | cons x xs ih =>
    cases k with
    | zero => simp
    | succ k =>
      rw [List.flatMap_cons, List.take_succ_cons, List.flatMap_cons, ← ih k, List.take_append]
      have : (ltlCs x).length = 3 := rfl
      rw [this, List.take_of_length_le (by rw [this]; omega)]
      congr 2
      omega
theorem lits_drop (xs : List Ltl) (k : Nat) : (xs.flatMap ltlCs).drop (k * 3) = (xs.drop k).flatMap ltlCs := by
  induction xs generalizing k with
  | nil => simp
  | cons x xs ih =>
    cases k with
    | zero => simp
    | succ k =>
      rw [List.flatMap_cons, List.drop_succ_cons, ← ih k, List.drop_append]
      have : (ltlCs x).length = 3 := rfl
      rw [this, List.drop_of_length_le (by rw [this]; omega), List.nil_append]
      congr 1
      omega
/-- What a reader sees of an owned clause. -/
theorem own_lit {w : World} {base n i g c : Nat} {e : TypeId} {xs : List Ltl} {x : Ltl} (h : w.ownsRow base e 3 (.slice (some ⟨g, 0, none⟩) n c) n (xs.flatMap ltlCs)) (hx : xs[i]? = some x) :
    w.cell? ⟨g, i * 3, none⟩ = some (.int .i64 x.var) ∧ w.cell? ⟨g, i * 3 + 1, none⟩ = some (.int .i64 x.val) ∧ w.cell? ⟨g, i * 3 + 2, none⟩ = some (.bool x.neg) := by
  have hc := h.cells (g := g) rfl
  have at_ := fun (j : Nat) (u : Value) (hj : j < 3) (hu : (ltlCs x)[j]? = some u) => hc (i * 3 + j) u (by rw [flatMap_at ltlCs 3 (fun _ => rfl) xs hx hj]; exact hu)
  have a0 := at_ 0 _ (by omega) rfl
  have a1 := at_ 1 _ (by omega) rfl
  have a2 := at_ 2 _ (by omega) rfl
  rw [add_own] at a0 a1 a2
  exact ⟨a0, a1, a2⟩
theorem own_form {w : World} {base size n : Nat} {e : TypeId} {v : Value} {xs : List Value} (h : w.ownsRow base e size v n xs) : ∃ A c, v = .slice A n c := by
  rcases h.2 with ⟨h1, h2⟩ | ⟨g, cap, cur, h1, _⟩
  · exact ⟨none, 0, by rw [h1, h2]⟩
  · exact ⟨_, _, h1⟩
theorem own_some {w : World} {base size n : Nat} {e : TypeId} {v : Value} {xs : List Value} (h : w.ownsRow base e size v n xs) (hv : v ≠ .slice none 0 0) : ∃ g c, v = .slice (some ⟨g, 0, none⟩) n c ∧ base ≤ g ∧ g < w.heap.size ∧ n ≤ c ∧ c ≤ 9223372036854775807 := by
  rcases h.2 with ⟨h1, _⟩ | ⟨g, cap, cur, h1, h2, h3, h4, h5, _⟩
  · exact absurd h1 hv
  · exact ⟨g, cap, h1, h2, (Array.getElem?_eq_some_iff.1 h3).1, h4, by unfold maxLen at h5; omega⟩
/-- the tail of an owned row as an append's source. -/
theorem src_drop {w : World} {base size n k g c c' : Nat} {e : TypeId} {xs : List Value} (h : w.ownsRow base e size (.slice (some ⟨g, 0, none⟩) n c) n xs) (hk : k ≤ n) : Src w size (some ⟨g, k * size, none⟩) (n - k) c' (xs.drop (k * size)) := by
  refine .inr ⟨_, rfl, ?_, fun j u hj => ?_⟩
  · rw [List.length_drop, h.1, Nat.sub_mul]
  · have := h.cells (g := g) rfl (k * size + j) u (by rw [← hj, List.getElem?_drop])
    rw [add_own] at this
    have e : (⟨g, k * size, none⟩ : Addr).add j = ⟨g, k * size + j, none⟩ := by unfold Addr.add; split <;> simp_all
    rw [e]; exact this
theorem src_take {w : World} {base size n k g c c' : Nat} {e : TypeId} {xs : List Value} (h : w.ownsRow base e size (.slice (some ⟨g, 0, none⟩) n c) n xs) (hk : k ≤ n) : Src w size (some ⟨g, 0, none⟩) k c' (xs.take (k * size)) := by
  refine .inr ⟨_, rfl, ?_, fun j u hj => ?_⟩
  · rw [List.length_take, h.1, Nat.min_eq_left (Nat.mul_le_mul_right _ hk)]
  · refine h.cells (g := g) rfl j u ?_
    rw [← hj, List.getElem?_take]
    split
    · rfl
    · rw [List.getElem?_take, if_neg (by assumption)] at hj; cases hj
set_option maxHeartbeats 4000000 in
theorem mergeClauses (b1 b2 n m : Nat) (v u : Value) (xs ys : List Ltl) (w : World) (hx : w.ownsRow b1 30 3 v n (xs.flatMap ltlCs)) (hlx : xs.length = n) (hy : w.ownsRow b2 30 3 u m (ys.flatMap ltlCs)) (hly : ys.length = m) (hnm : n + m ≤ 1000) :
    Calls Try.prog 20 #[v, u] w fun e w' => ∃ v', e = .returned v' ∧ v' ≠ .slice none 0 0 ∧ w'.ownsRow w.heap.size 30 3 v' (mergeL xs ys).length ((mergeL xs ys).flatMap ltlCs) ∧ Below w.heap.size w w' := by
  obtain ⟨i0, hi0, hz0, hz1, hz2⟩ := info_parts info_lit
  obtain ⟨A, c, rfl⟩ : ∃ A c, v = .slice A n c := by
    rcases hx.2 with ⟨h1, h2⟩ | ⟨g, cap, cur, h1, _⟩
    · exact ⟨none, 0, by rw [h1, h2]⟩
    · exact ⟨_, _, h1⟩
  obtain ⟨B, d, rfl, ry⟩ := LitR.of_own hly hy (by omega)
  have oa := src_own (own_below hx (b_alloc w (.cells #[] 30)))
  have ol : (w.alloc (.cells #[] 30)).ownsRow w.heap.size 30 3 (.slice (some ⟨w.heap.size, 0, none⟩) 0 0) 0 [] := World.ownsRow_lit w #[] 0 (Nat.le_refl _) (by decide) rfl
  have hmlen := fun k => mergeL_len xs (ys.take k)
  go_enter Try.func20, Try.ntmps20
  go_wp2_with (at_builtin; refine wpList_append_any rfl _ _ 26 rfl w.heap.size 30 i0 _ 3 24 Try.underlying26 hi0 hz0 hz1 hz2 rfl (by decide) (.slice (some ⟨w.heap.size, 0, none⟩) 0 0) _ _ rfl ol _ _ _ _ rfl oa (lits_one xs) (by unfold maxLen; omega) (by omega) (by rw [size_alloc_]; omega) ?_; intro v1 w1 ho1 hb1 _ hnn1)
  have ho1' : w1.ownsRow w.heap.size 30 3 v1 xs.length (xs.flatMap ltlCs) := by rw [hlx]; simpa using ho1
  have hb1' : Below w.heap.size w w1 := (b_alloc _ _).trans hb1
  have hnn1' : v1 ≠ .slice none 0 0 := hnn1 (by simp)
  have HX := Lib.hid hlx
  have HY := Lib.hid hly
  clear ho1 hb1 hnn1 oa ol hx hy hlx hly
  go_wp2_with fail
  go_loopw [5, 6] (fun v i wr => ∃ (k : Nat) (v' : Value) (zs : List Ltl), k ≤ m ∧ i = .int .i64 k ∧ v' = v ∧ Hid (v' ≠ .slice none 0 0) ∧ Hid (zs = mergeL xs (ys.take k)) ∧ zs.length ≤ n + k ∧ Hid (wr.ownsRow w.heap.size 30 3 v' zs.length (zs.flatMap ltlCs)) ∧ Below w.heap.size w wr) (fun _ i _ => m - (intOf i).toNat)
  case atStart => exact ⟨0, _, xs, by omega, rfl, rfl, hnn1', Lib.hid rfl, by rw [HX.out]; omega, ho1', hb1'⟩
  case round =>
    rename World => wo
    obtain ⟨k, v, zs, hk, rfl, rfl, hnn, hzs, hzl, hq, hb⟩ := hrel
    clear ho1' hb1' hnn1'
    obtain ⟨g, cz, rfl, hg1, hg2, hcz, hcz2⟩ := own_some hq.out hnn.out
    clear hnn
    by_cases hlt : k < m
    · obtain ⟨bb, bo, y, rfl, hbb, hyk, hy0, hy1, hy2⟩ := LitR.at_ (ry.on hb) hlt
      have HYK := Lib.hid hyk
      clear hyk
      have hsz := hb.size
      go_wp2_with fail
      go_loopw [7] (fun j wr => ∃ jj : Nat, jj ≤ zs.length ∧ j = .int .i64 jj ∧ Hid (AllB (fun x => ltlLess x y) zs jj) ∧ Below wo.heap.size wo wr) (fun j _ => zs.length - (intOf j).toNat)
      case atStart => exact ⟨0, by omega, rfl, AllB.zero _ _, Below.refl _ _⟩
      case round =>
        obtain ⟨j, hj, rfl, hall, hbj⟩ := hrel
        have hq1 := own_below hq.out hbj
        have hszj := hbj.size
        have hy0' := (hbj.cell (p := ⟨bb, bo + k * 3, none⟩) hbb).trans hy0
        have hy1' := (hbj.cell (p := ⟨bb, bo + k * 3 + 1, none⟩) hbb).trans hy1
        have hy2' := (hbj.cell (p := ⟨bb, bo + k * 3 + 2, none⟩) hbb).trans hy2
        have r0 : ∀ p : Later wr, p.val.cell? ⟨bb, bo + k * 3, none⟩ = some (.int .i64 y.var) := fun p => p.cell (by omega) hy0'
        have r1 : ∀ p : Later wr, p.val.cell? ⟨bb, bo + k * 3 + 1, none⟩ = some (.int .i64 y.val) := fun p => p.cell (by omega) hy1'
        have r2 : ∀ p : Later wr, p.val.cell? ⟨bb, bo + k * 3 + 2, none⟩ = some (.bool y.neg) := fun p => p.cell (by omega) hy2'
        by_cases hjl : j < zs.length
        · have hdj : decide ((j : Int) < (zs.length : Int)) = true := by simp; omega
          obtain ⟨x, hx⟩ : ∃ x, zs[j]? = some x := ⟨_, List.getElem?_eq_getElem hjl⟩
          obtain ⟨x0, x1, x2⟩ := own_lit hq1 hx
          have q0 : ∀ p : Later wr, p.val.cell? ⟨g, j * 3, none⟩ = some (.int .i64 x.var) := fun p => p.cell (by omega) x0
          have q1 : ∀ p : Later wr, p.val.cell? ⟨g, j * 3 + 1, none⟩ = some (.int .i64 x.val) := fun p => p.cell (by omega) x1
          have q2 : ∀ p : Later wr, p.val.cell? ⟨g, j * 3 + 2, none⟩ = some (.bool x.neg) := fun p => p.cell (by omega) x2
          have HX := Lib.hid hx
          clear hx
          cases hl : ltlLess x y
          · have HL := Lib.hid hl
            clear hl
            go_wp2_with fail
            refine wp_region_later (by kernel_rfl) (by kernel_rfl) ?_
            repeat (go_big_quiet_step (first | (go_at_call 43; exact calls_later (literalLess_b _ _ _ _ HL.out))))
            refine wpQuiet_nil ?_
            intro w5 hw'
            obtain ⟨⟨w6, hb5⟩, hw''⟩ := hw'
            subst hw''
            go_wp2_with fail
            have hbj6 := bgo hbj hb5
            have hq6 := own_below hq.out hbj6
            have hx0' := (hb5.cell (p := ⟨g, j * 3, none⟩) (by show g < _; omega)).trans x0
            have hx1' := (hb5.cell (p := ⟨g, j * 3 + 1, none⟩) (by show g < _; omega)).trans x1
            have hx2' := (hb5.cell (p := ⟨g, j * 3 + 2, none⟩) (by show g < _; omega)).trans x2
            have hy0'' := (hb5.cell (p := ⟨bb, bo + k * 3, none⟩) (by show bb < _; omega)).trans hy0'
            have hy1'' := (hb5.cell (p := ⟨bb, bo + k * 3 + 1, none⟩) (by show bb < _; omega)).trans hy1'
            have hy2'' := (hb5.cell (p := ⟨bb, bo + k * 3 + 2, none⟩) (by show bb < _; omega)).trans hy2'
            clear q0 q1 q2 r0 r1 r2 x0 x1 x2 hy0' hy1' hy2' hq1 hb5 hy0 hy1 hy2
            by_cases hxy : x = y
            · subst hxy
              go_quiet (fail)
              go_wp2_with fail
              go_roundw
              case rel =>
                have hE : mergeL xs (ys.take (k + 1)) = zs := by
                  rw [mergeL_snoc HYK.out, ← hzs.out]
                  rw [insL_at hall.out hj (fun z hz => by rw [HX.out] at hz; injection hz with hz; rw [← hz]; exact HL.out), HX.out, if_pos rfl]
                exact ⟨k + 1, _, zs, by omega, by go_num, rfl, Lib.hid (by simp), hE.symm, by omega, hq6, below_drewN (hb.trans (hbj6.mono hsz)) _⟩
              case measure => simp [intOf]; omega
            · have heq := fun w => lit_eql x y w false (decide_eq_false hxy)
              have hgu := lit_guard
              have HNE := Lib.hid hxy
              clear hxy
              go_quiet (fail)
              have hq7 : (w5.drewN nq).ownsRow w.heap.size 30 3 (.slice (some ⟨g, 0, none⟩) zs.length cz) zs.length (zs.flatMap ltlCs) := hq6
              have hb7 := below_drewN (hb.trans (hbj6.mono hsz)) nq
              have z0 : (w5.drewN nq).cell? ⟨bb, bo + k * 3, none⟩ = some (.int .i64 y.var) := hy0''
              have z1 : (w5.drewN nq).cell? ⟨bb, bo + k * 3 + 1, none⟩ = some (.int .i64 y.val) := hy1''
              have z2 : (w5.drewN nq).cell? ⟨bb, bo + k * 3 + 2, none⟩ = some (.bool y.neg) := hy2''
              have hbbn : bb < (w5.drewN nq).heap.size := Nat.lt_of_lt_of_le hbb hbj6.size
              have hgn : g < (w5.drewN nq).heap.size := Nat.lt_of_lt_of_le hg2 hbj6.size
              generalize w5.drewN nq = w7 at hq7 hb7 z0 z1 z2 hbbn hgn ⊢
              have hI : insL zs y = zs.take j ++ y :: zs.drop j := by
                rw [insL_at hall.out hj (fun z hz => by rw [HX.out] at hz; injection hz with hz; rw [← hz]; exact HL.out), HX.out, if_neg (fun e => HNE.out (by injection e))]
              have HI := Lib.hid hI
              clear hI hy0'' hy1'' hy2'' hx0' hx1' hx2' hq6 hbj6 heq hgu hdj
              go_wp2_with fail
              have hcj : ¬ (cz = j) := by omega
              have hj0 : (0 : Int) ≤ (j : Int) := by omega
              have hj1 : (j : Int) ≤ (zs.length : Int) := by omega
              have hj2 : (zs.length : Int) ≤ (cz : Int) := by omega
              have hs7 := hb7.size
              have hlit : (w7.alloc (.cells #[.int .i64 y.var, .int .i64 y.val, .bool y.neg] 30)).drew.ownsRow w7.heap.size 30 3 (.slice (some ⟨w7.heap.size, 0, none⟩) 1 1) 1 [.int .i64 y.var, .int .i64 y.val, .bool y.neg] := World.ownsRow_lit w7 #[.int .i64 y.var, .int .i64 y.val, .bool y.neg] 1 (Nat.le_refl _) (by decide) rfl
              have hsrc := fun c' => src_drop (c' := c') (own_below hq7 (b_alloc w7 (.cells #[.int .i64 y.var, .int .i64 y.val, .bool y.neg] 30))).drew hj
              have hbbn2 : bb < w7.heap.size := hbbn
              have a0 : (w7.alloc (.cells #[.int .i64 y.var, .int .i64 y.val, .bool y.neg] 30)).drew.cell? ⟨bb, bo + k * 3, none⟩ = some (.int .i64 y.var) := (World.cell?_alloc_past _ _ _ hbbn).trans z0
              have a1 : (w7.alloc (.cells #[.int .i64 y.var, .int .i64 y.val, .bool y.neg] 30)).drew.cell? ⟨bb, bo + k * 3 + 1, none⟩ = some (.int .i64 y.val) := (World.cell?_alloc_past _ _ _ hbbn).trans z1
              have a2 : (w7.alloc (.cells #[.int .i64 y.var, .int .i64 y.val, .bool y.neg] 30)).drew.cell? ⟨bb, bo + k * 3 + 2, none⟩ = some (.bool y.neg) := (World.cell?_alloc_past _ _ _ hbbn).trans z2
              go_region_held3 (fun w' => w'.cell? ⟨bb, bo + k * 3, none⟩ = some (.int .i64 y.var) ∧ w'.cell? ⟨bb, bo + k * 3 + 1, none⟩ = some (.int .i64 y.val) ∧ w'.cell? ⟨bb, bo + k * 3 + 2, none⟩ = some (.bool y.neg)) (first | go_keep | exact ⟨(hb8.cell (p := ⟨bb, _, none⟩) hbbn2).trans a0, (hb8.cell (p := ⟨bb, _, none⟩) hbbn2).trans a1, (hb8.cell (p := ⟨bb, _, none⟩) hbbn2).trans a2⟩)
                ((refine step_append_any (by rfl) _ _ 26 (by rfl) w7.heap.size 30 i0 _ 3 24 Try.underlying26 hi0 hz0 hz1 hz2 rfl (by decide) (.slice (some ⟨w7.heap.size, 0, none⟩) 1 1) 1 _ (by rfl) hlit (some ⟨g, j * 3, none⟩) (zs.length - j) _ (by exact ⟨_, rfl, hsrc _⟩) (fun u hu => lits_one zs u (List.mem_of_mem_drop hu)) (by unfold maxLen; omega) (by omega) (by simp) ?_; intro v8 w8 ho8 hb8 _ hnn8))
              have hb78 : Below w7.heap.size w7 w8 := ((b_alloc w7 _).drew).trans hb8
              have hs8 := hb78.size
              have hq8 := own_below hq7 hb78
              obtain ⟨R, cr, rfl⟩ := own_form ho8
              clear hlit hsrc hb8
              have ol8 : (w8.alloc (.cells #[] 30)).ownsRow w8.heap.size 30 3 (.slice (some ⟨w8.heap.size, 0, none⟩) 0 0) 0 [] := World.ownsRow_lit w8 #[] 0 (Nat.le_refl _) (by decide) rfl
              have hs8t := fun c' => src_take (c' := c') (own_below hq8 (b_alloc w8 (.cells #[] 30))) hj
              have hl8 : (insL zs y).length = j + (1 + (zs.length - j)) := by rw [HI.out]; simp; omega
              have one8 : ∀ u ∈ ([.int .i64 y.var, .int .i64 y.val, .bool y.neg] ++ (zs.flatMap ltlCs).drop (j * 3)), u.oneCell' = true := fun u hu => by
                rcases List.mem_append.1 hu with h | h
                · simp at h
                  rcases h with rfl | rfl | rfl <;> rfl
                · exact lits_one zs u (List.mem_of_mem_drop h)
              have hfl : (insL zs y).flatMap ltlCs = [] ++ (zs.flatMap ltlCs).take (j * 3) ++ ([.int .i64 y.var, .int .i64 y.val, .bool y.neg] ++ (zs.flatMap ltlCs).drop (j * 3)) := by
                rw [HI.out, lits_take, lits_drop, List.flatMap_append, List.flatMap_cons]
                rfl
              have HFL := Lib.hid hfl
              clear hfl
              go_wp2_with (first
                | (at_builtin; refine wpList_append_any rfl _ _ 26 rfl w8.heap.size 30 i0 _ 3 24 Try.underlying26 hi0 hz0 hz1 hz2 rfl (by decide) (.slice (some ⟨w8.heap.size, 0, none⟩) 0 0) _ _ rfl ol8 _ _ _ _ rfl (hs8t _) (fun u hu => lits_one zs u (List.mem_of_mem_take hu)) (by unfold maxLen; omega) (by omega) (by simp) ?_; intro v9 w9 ho9 hb9 _ hnn9)
                | (at_builtin; refine wpList_append_any rfl _ _ 26 rfl w8.heap.size 30 i0 _ 3 24 Try.underlying26 hi0 hz0 hz1 hz2 rfl (by decide) v9 _ _ rfl ho9 _ _ _ _ rfl (src_own (own_below ho8 ((b_alloc w8 _).trans hb9))) one8 (by unfold maxLen; omega) (by omega) (by have := ((b_alloc w8 (.cells #[] 30)).trans hb9).size; omega) ?_; intro v10 w10 ho10 hb10 _ hnn10))
              have hbe : Below w.heap.size w w10 := hb7.trans ((hb78.mono hs7).trans ((((b_alloc w8 _).trans hb9).trans hb10).mono (by omega)))
              go_roundw
              case rel =>
                refine ⟨k + 1, v10, insL zs y, by omega, by go_num, rfl, hnn10 (hnn9 (by simp)), ?_, by omega, ?_, hbe⟩
                · exact Lib.hid (by rw [mergeL_snoc HYK.out, ← hzs.out])
                · refine Lib.hid (own_base (base := w8.heap.size) ?_ (by omega))
                  rw [HFL.out, hl8]
                  simpa using ho10
              case measure => simp [intOf]; omega
          · have HL := Lib.hid hl
            clear hl
            go_wp2_with fail
            refine wp_region_later (by kernel_rfl) (by kernel_rfl) ?_
            repeat (go_big_quiet_step (first | (go_at_call 43; exact calls_later (literalLess_b _ _ _ _ HL.out))))
            refine wpQuiet_nil ?_
            intro w5 hw'
            obtain ⟨⟨w6, hb5⟩, hw''⟩ := hw'
            subst hw''
            go_wp2_with fail
            go_roundw
            case rel => exact ⟨j + 1, by omega, by go_num, AllB.succ hall.out HX.out HL.out, bgo hbj hb5⟩
            case measure => simp [intOf]; omega
        · have hdj : decide ((j : Int) < (zs.length : Int)) = false := by simp; omega
          go_wp2_with fail
          refine wp_region_later (by kernel_rfl) (by kernel_rfl) ?_
          repeat (go_big_quiet_step (fail))
          refine wpQuiet_nil ?_
          intro w5 hw'
          obtain ⟨⟨w6, hb5⟩, hw''⟩ := hw'
          subst hw''
          go_wp2_with fail
          have hbj6 := bgo hbj hb5
          have hq6 := own_below hq.out hbj6
          have hy0'' := (hb5.cell (p := ⟨bb, bo + k * 3, none⟩) (by show bb < _; omega)).trans hy0'
          have hy1'' := (hb5.cell (p := ⟨bb, bo + k * 3 + 1, none⟩) (by show bb < _; omega)).trans hy1'
          have hy2'' := (hb5.cell (p := ⟨bb, bo + k * 3 + 2, none⟩) (by show bb < _; omega)).trans hy2'
          clear r0 r1 r2 hy0' hy1' hy2' hq1 hb5 hy0 hy1 hy2
          have hnone : zs[j]? = none := List.getElem?_eq_none (by omega)
          have HN := Lib.hid hnone
          clear hnone
          go_quiet (fail)
          have hq7 : (w5.drewN nq).ownsRow w.heap.size 30 3 (.slice (some ⟨g, 0, none⟩) zs.length cz) zs.length (zs.flatMap ltlCs) := hq6
          have hb7 := below_drewN (hb.trans (hbj6.mono hsz)) nq
          have z0 : (w5.drewN nq).cell? ⟨bb, bo + k * 3, none⟩ = some (.int .i64 y.var) := hy0''
          have z1 : (w5.drewN nq).cell? ⟨bb, bo + k * 3 + 1, none⟩ = some (.int .i64 y.val) := hy1''
          have z2 : (w5.drewN nq).cell? ⟨bb, bo + k * 3 + 2, none⟩ = some (.bool y.neg) := hy2''
          have hbbn : bb < (w5.drewN nq).heap.size := Nat.lt_of_lt_of_le hbb hbj6.size
          have hgn : g < (w5.drewN nq).heap.size := Nat.lt_of_lt_of_le hg2 hbj6.size
          obtain rfl : j = zs.length := by omega
          generalize w5.drewN nq = w7 at hq7 hb7 z0 z1 z2 hbbn hgn ⊢
          have hI : insL zs y = zs ++ [y] := by
            rw [insL_at hall.out hj (fun z hz => by rw [HN.out] at hz; cases hz), HN.out, if_neg (fun e => by cases e), List.take_of_length_le (by omega), List.drop_of_length_le (by omega)]
          have HI := Lib.hid hI
          clear hI hy0'' hy1'' hy2'' hq6 hbj6
          go_wp2_with fail
          by_cases hcj : cz = zs.length
          · subst hcj
            have hj0 : (0 : Int) ≤ (zs.length : Int) := by omega
            have hj1 : (zs.length : Int) ≤ (zs.length : Int) := by omega
            have hj2 : (zs.length : Int) ≤ (zs.length : Int) := by omega
            have hs7 := hb7.size
            have hlit : (w7.alloc (.cells #[.int .i64 y.var, .int .i64 y.val, .bool y.neg] 30)).drew.ownsRow w7.heap.size 30 3 (.slice (some ⟨w7.heap.size, 0, none⟩) 1 1) 1 [.int .i64 y.var, .int .i64 y.val, .bool y.neg] := World.ownsRow_lit w7 #[.int .i64 y.var, .int .i64 y.val, .bool y.neg] 1 (Nat.le_refl _) (by decide) rfl
            have hsrc := fun c' => (Or.inr ⟨_, rfl, rfl, fun i u hi => by cases hi⟩ : Src (w7.alloc (.cells #[.int .i64 y.var, .int .i64 y.val, .bool y.neg] 30)).drew 3 (some ⟨g, 0, none⟩) 0 c' [])
            have hbbn2 : bb < w7.heap.size := hbbn
            have a0 : (w7.alloc (.cells #[.int .i64 y.var, .int .i64 y.val, .bool y.neg] 30)).drew.cell? ⟨bb, bo + k * 3, none⟩ = some (.int .i64 y.var) := (World.cell?_alloc_past _ _ _ hbbn).trans z0
            have a1 : (w7.alloc (.cells #[.int .i64 y.var, .int .i64 y.val, .bool y.neg] 30)).drew.cell? ⟨bb, bo + k * 3 + 1, none⟩ = some (.int .i64 y.val) := (World.cell?_alloc_past _ _ _ hbbn).trans z1
            have a2 : (w7.alloc (.cells #[.int .i64 y.var, .int .i64 y.val, .bool y.neg] 30)).drew.cell? ⟨bb, bo + k * 3 + 2, none⟩ = some (.bool y.neg) := (World.cell?_alloc_past _ _ _ hbbn).trans z2
            go_region_held3 (fun w' => w'.cell? ⟨bb, bo + k * 3, none⟩ = some (.int .i64 y.var) ∧ w'.cell? ⟨bb, bo + k * 3 + 1, none⟩ = some (.int .i64 y.val) ∧ w'.cell? ⟨bb, bo + k * 3 + 2, none⟩ = some (.bool y.neg)) (first | go_keep | exact ⟨(hb8.cell (p := ⟨bb, _, none⟩) hbbn2).trans a0, (hb8.cell (p := ⟨bb, _, none⟩) hbbn2).trans a1, (hb8.cell (p := ⟨bb, _, none⟩) hbbn2).trans a2⟩)
              ((refine step_append_any (by rfl) _ _ 26 (by rfl) w7.heap.size 30 i0 _ 3 24 Try.underlying26 hi0 hz0 hz1 hz2 rfl (by decide) (.slice (some ⟨w7.heap.size, 0, none⟩) 1 1) 1 _ (by rfl) hlit (some ⟨g, 0, none⟩) 0 _ (by exact ⟨_, rfl, hsrc _⟩) (fun u hu => by cases hu) (by unfold maxLen; omega) (by omega) (by simp) ?_; intro v8 w8 ho8 hb8 _ hnn8))
            have hb78 : Below w7.heap.size w7 w8 := ((b_alloc w7 _).drew).trans hb8
            have hs8 := hb78.size
            have hq8 := own_below hq7 hb78
            obtain ⟨R, cr, rfl⟩ := own_form ho8
            clear hlit hsrc hb8
            have ol8 : (w8.alloc (.cells #[] 30)).ownsRow w8.heap.size 30 3 (.slice (some ⟨w8.heap.size, 0, none⟩) 0 0) 0 [] := World.ownsRow_lit w8 #[] 0 (Nat.le_refl _) (by decide) rfl
            have hs8t := fun c' => src_take (c' := c') (own_below hq8 (b_alloc w8 (.cells #[] 30))) hj
            have hl8 : (insL zs y).length = zs.length + (1 + 0) := by rw [HI.out]; simp
            have one8 : ∀ u ∈ (([.int .i64 y.var, .int .i64 y.val, .bool y.neg] : List Value) ++ []), u.oneCell' = true := fun u hu => by
              rcases List.mem_append.1 hu with h | h
              · simp at h
                rcases h with rfl | rfl | rfl <;> rfl
              · cases h
            have hfl : (insL zs y).flatMap ltlCs = [] ++ (zs.flatMap ltlCs).take (zs.length * 3) ++ ([.int .i64 y.var, .int .i64 y.val, .bool y.neg] ++ []) := by
              rw [HI.out, List.take_of_length_le (by rw [lits_len]; omega), List.flatMap_append]
              rfl
            have HFL := Lib.hid hfl
            clear hfl
            go_wp2_with (first
              | (at_builtin; refine wpList_append_any rfl _ _ 26 rfl w8.heap.size 30 i0 _ 3 24 Try.underlying26 hi0 hz0 hz1 hz2 rfl (by decide) (.slice (some ⟨w8.heap.size, 0, none⟩) 0 0) _ _ rfl ol8 _ _ _ _ rfl (hs8t _) (fun u hu => lits_one zs u (List.mem_of_mem_take hu)) (by unfold maxLen; omega) (by omega) (by simp) ?_; intro v9 w9 ho9 hb9 _ hnn9)
              | (at_builtin; refine wpList_append_any rfl _ _ 26 rfl w8.heap.size 30 i0 _ 3 24 Try.underlying26 hi0 hz0 hz1 hz2 rfl (by decide) v9 _ _ rfl ho9 _ _ _ _ rfl (src_own (own_below ho8 ((b_alloc w8 _).trans hb9))) one8 (by unfold maxLen; omega) (by omega) (by have := ((b_alloc w8 (.cells #[] 30)).trans hb9).size; omega) ?_; intro v10 w10 ho10 hb10 _ hnn10))
            have hbe : Below w.heap.size w w10 := hb7.trans ((hb78.mono hs7).trans ((((b_alloc w8 _).trans hb9).trans hb10).mono (by omega)))
            go_roundw
            case rel =>
              refine ⟨k + 1, v10, insL zs y, by omega, by go_num, rfl, hnn10 (hnn9 (by simp)), ?_, by omega, ?_, hbe⟩
              · exact Lib.hid (by rw [mergeL_snoc HYK.out, ← hzs.out])
              · refine Lib.hid (own_base (base := w8.heap.size) ?_ (by omega))
                rw [HFL.out, hl8]
                simpa using ho10
            case measure => simp [intOf]; omega
          · have hcj' : ¬ (cz = zs.length) := hcj
            have hj0 : (0 : Int) ≤ (zs.length : Int) := by omega
            have hj1 : (zs.length : Int) ≤ (zs.length : Int) := by omega
            have hj2 : (zs.length : Int) ≤ (cz : Int) := by omega
            have hs7 := hb7.size
            have hlit : (w7.alloc (.cells #[.int .i64 y.var, .int .i64 y.val, .bool y.neg] 30)).drew.ownsRow w7.heap.size 30 3 (.slice (some ⟨w7.heap.size, 0, none⟩) 1 1) 1 [.int .i64 y.var, .int .i64 y.val, .bool y.neg] := World.ownsRow_lit w7 #[.int .i64 y.var, .int .i64 y.val, .bool y.neg] 1 (Nat.le_refl _) (by decide) rfl
            have hsrc := fun c' => (Or.inr ⟨_, rfl, rfl, fun i u hi => by cases hi⟩ : Src (w7.alloc (.cells #[.int .i64 y.var, .int .i64 y.val, .bool y.neg] 30)).drew 3 (some ⟨g, zs.length * 3, none⟩) 0 c' [])
            have hbbn2 : bb < w7.heap.size := hbbn
            have a0 : (w7.alloc (.cells #[.int .i64 y.var, .int .i64 y.val, .bool y.neg] 30)).drew.cell? ⟨bb, bo + k * 3, none⟩ = some (.int .i64 y.var) := (World.cell?_alloc_past _ _ _ hbbn).trans z0
            have a1 : (w7.alloc (.cells #[.int .i64 y.var, .int .i64 y.val, .bool y.neg] 30)).drew.cell? ⟨bb, bo + k * 3 + 1, none⟩ = some (.int .i64 y.val) := (World.cell?_alloc_past _ _ _ hbbn).trans z1
            have a2 : (w7.alloc (.cells #[.int .i64 y.var, .int .i64 y.val, .bool y.neg] 30)).drew.cell? ⟨bb, bo + k * 3 + 2, none⟩ = some (.bool y.neg) := (World.cell?_alloc_past _ _ _ hbbn).trans z2
            go_region_held3 (fun w' => w'.cell? ⟨bb, bo + k * 3, none⟩ = some (.int .i64 y.var) ∧ w'.cell? ⟨bb, bo + k * 3 + 1, none⟩ = some (.int .i64 y.val) ∧ w'.cell? ⟨bb, bo + k * 3 + 2, none⟩ = some (.bool y.neg)) (first | go_keep | exact ⟨(hb8.cell (p := ⟨bb, _, none⟩) hbbn2).trans a0, (hb8.cell (p := ⟨bb, _, none⟩) hbbn2).trans a1, (hb8.cell (p := ⟨bb, _, none⟩) hbbn2).trans a2⟩)
              ((refine step_append_any (by rfl) _ _ 26 (by rfl) w7.heap.size 30 i0 _ 3 24 Try.underlying26 hi0 hz0 hz1 hz2 rfl (by decide) (.slice (some ⟨w7.heap.size, 0, none⟩) 1 1) 1 _ (by rfl) hlit (some ⟨g, zs.length * 3, none⟩) 0 _ (by exact ⟨_, rfl, hsrc _⟩) (fun u hu => by cases hu) (by unfold maxLen; omega) (by omega) (by simp) ?_; intro v8 w8 ho8 hb8 _ hnn8))
            have hb78 : Below w7.heap.size w7 w8 := ((b_alloc w7 _).drew).trans hb8
            have hs8 := hb78.size
            have hq8 := own_below hq7 hb78
            obtain ⟨R, cr, rfl⟩ := own_form ho8
            clear hlit hsrc hb8
            have ol8 : (w8.alloc (.cells #[] 30)).ownsRow w8.heap.size 30 3 (.slice (some ⟨w8.heap.size, 0, none⟩) 0 0) 0 [] := World.ownsRow_lit w8 #[] 0 (Nat.le_refl _) (by decide) rfl
            have hs8t := fun c' => src_take (c' := c') (own_below hq8 (b_alloc w8 (.cells #[] 30))) hj
            have hl8 : (insL zs y).length = zs.length + (1 + 0) := by rw [HI.out]; simp
            have one8 : ∀ u ∈ (([.int .i64 y.var, .int .i64 y.val, .bool y.neg] : List Value) ++ []), u.oneCell' = true := fun u hu => by
              rcases List.mem_append.1 hu with h | h
              · simp at h
                rcases h with rfl | rfl | rfl <;> rfl
              · cases h
            have hfl : (insL zs y).flatMap ltlCs = [] ++ (zs.flatMap ltlCs).take (zs.length * 3) ++ ([.int .i64 y.var, .int .i64 y.val, .bool y.neg] ++ []) := by
              rw [HI.out, List.take_of_length_le (by rw [lits_len]; omega), List.flatMap_append]
              rfl
            have HFL := Lib.hid hfl
            clear hfl
            go_wp2_with (first
              | (at_builtin; refine wpList_append_any rfl _ _ 26 rfl w8.heap.size 30 i0 _ 3 24 Try.underlying26 hi0 hz0 hz1 hz2 rfl (by decide) (.slice (some ⟨w8.heap.size, 0, none⟩) 0 0) _ _ rfl ol8 _ _ _ _ rfl (hs8t _) (fun u hu => lits_one zs u (List.mem_of_mem_take hu)) (by unfold maxLen; omega) (by omega) (by simp) ?_; intro v9 w9 ho9 hb9 _ hnn9)
              | (at_builtin; refine wpList_append_any rfl _ _ 26 rfl w8.heap.size 30 i0 _ 3 24 Try.underlying26 hi0 hz0 hz1 hz2 rfl (by decide) v9 _ _ rfl ho9 _ _ _ _ rfl (src_own (own_below ho8 ((b_alloc w8 _).trans hb9))) one8 (by unfold maxLen; omega) (by omega) (by have := ((b_alloc w8 (.cells #[] 30)).trans hb9).size; omega) ?_; intro v10 w10 ho10 hb10 _ hnn10))
            have hbe : Below w.heap.size w w10 := hb7.trans ((hb78.mono hs7).trans ((((b_alloc w8 _).trans hb9).trans hb10).mono (by omega)))
            go_roundw
            case rel =>
              refine ⟨k + 1, v10, insL zs y, by omega, by go_num, rfl, hnn10 (hnn9 (by simp)), ?_, by omega, ?_, hbe⟩
              · exact Lib.hid (by rw [mergeL_snoc HYK.out, ← hzs.out])
              · refine Lib.hid (own_base (base := w8.heap.size) ?_ (by omega))
                rw [HFL.out, hl8]
                simpa using ho10
            case measure => simp [intOf]; omega
    · obtain rfl : k = m := by omega
      go_wp2_with fail
      go_ret
      refine ⟨_, rfl, by simp, ?_, hb⟩
      have e : zs = mergeL xs ys := by rw [hzs.out, List.take_of_length_le (by rw [HY.out]; omega)]
      rw [← e]
      exact hq.out
end Go.Proofs.Ytjkgndedffildaa
