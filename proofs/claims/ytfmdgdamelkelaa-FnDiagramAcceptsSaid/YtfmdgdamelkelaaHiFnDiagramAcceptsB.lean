/- Texts laid into one: DrawH MarkCF MarkD DgW DgX. -/
import Derived.Test.YtfmdgdamelkelaaHiFnDiagramAcceptsA
import Derived.Test.YtfmdgdamelkelaaTouchF
import Derived.Deep.Cut
/- What is drawn for Filter: a constraint and domains. -/
namespace Go.Proofs.Ytfmdgdamelkelaa
open Go.ChangeShapes Go.WideShapes Go.ChangeAt Go.RowKit
open Go.Shelf
set_option linter.unusedVariables false
set_option linter.unusedSimpArgs false
set_option maxRecDepth 100000

theorem OwnI.laid5 {w : World} {B R : Nat} {v : Value} {xs : List Int} {x0 x1 x2 x3 x4 : Value} {zs : Array Value} (h : OwnI 3 w B v xs) (hr : TBlk 29 w R zs) (hz : zs.size = 5) {wf : World}
    (hf : wf = ((((w.setCell ⟨R, 0, none⟩ x0).setCell ⟨R, 1, none⟩ x1).setCell ⟨R, 2, none⟩ x2).setCell ⟨R, 3, none⟩ x3).setCell ⟨R, 4, none⟩ x4) : OwnI 3 wf B v xs := by
  have t1 := hr.store 0 x0
  have s1 := OwnI.shuns (t := 29) (by decide) _ _ _ _ _ 0 _ _ x0 hr h
  have t2 := t1.store 1 x1
  have s2 := OwnI.shuns (t := 29) (by decide) _ _ _ _ _ 1 _ _ x1 t1 s1
  have t3 := t2.store 2 x2
  have s3 := OwnI.shuns (t := 29) (by decide) _ _ _ _ _ 2 _ _ x2 t2 s2
  have t4 := t3.store 3 x3
  have s4 := OwnI.shuns (t := 29) (by decide) _ _ _ _ _ 3 _ _ x3 t3 s3
  subst hf
  exact OwnI.shuns (t := 29) (by decide) _ _ _ _ _ 4 _ _ x4 t4 s4
/-- drawn domains. -/
def DrD (xs : List Int) : Prop := ∀ x ∈ xs, -1 ≤ x ∧ x ≤ 255
theorem DrD.snoc {x : Int} {xs : List Int} (h : DrD xs) (hx : -1 ≤ x ∧ x ≤ 255) : DrD (xs ++ [x]) := fun y hy => by
  rcases List.mem_append.1 hy with h1 | h1
  · exact h y h1
  · rw [List.mem_singleton.1 h1]; exact hx
theorem DrD.set {x : Int} {xs : List Int} (h : DrD xs) (hx : -1 ≤ x ∧ x ≤ 255) (k : Nat) : DrD (xs.set k x) := fun y hy => by
  rcases List.mem_or_eq_of_mem_set hy with h1 | h1
  · exact h y h1
  · rw [h1]; exact hx
set_option maxHeartbeats 16000000 in
theorem constraintAndDomains (base g n c p : Nat) (A : Option Addr) (bs : List Int) (w : World) (h : Rd w base g A n c bs p) (hp : p ≤ 700000) :
    Calls Try.prog 58 #[.pointer (some ⟨g, 0, none⟩)] w fun e w' => ∃ (vk vd : Value) (k : Con) (ds : List Int) (q : Nat), e = .returned (.tuple #[vk, vd]) ∧ OwnCon w' w.heap.size vk k ∧ SmD k ∧ OwnI 3 w' w.heap.size vd ds ∧ 1 ≤ ds.length ∧ ds.length ≤ 4 ∧ DrD ds ∧ q ≤ p + 300 ∧ Rd w' base g A n c bs q ∧ ButG g w.heap.size w w' := by
  obtain ⟨i0, hi0, hz0, hz1, hz2⟩ := info_parts info_int
  have hg : g < w.heap.size := (Array.getElem?_eq_some_iff.1 h.block).1
  have hG := Lib.hid hg
  obtain ⟨wa, hwa⟩ : ∃ wa, wa = w.alloc (.cells #[.int .i64 0, .slice none 0 0, .slice none 0 0, .int .i64 0, .slice none 0 0] 29) := ⟨_, rfl⟩
  have hba : Below w.heap.size w wa := by rw [hwa]; exact b_alloc _ _
  have hza : wa.heap.size = w.heap.size + 1 := by rw [hwa, size_alloc_]
  have HT : Hid (TBlk 29 wa w.heap.size #[.int .i64 0, .slice none 0 0, .slice none 0 0, .int .i64 0, .slice none 0 0]) := by rw [hwa]; exact TBlk.new _ _ _
  have HD := Lib.hid (h.under hba hg)
  have HBA := Lib.hid hba
  clear h hba
  go_enter Try.func58, Try.ntmps58
  go_wp2_with fail
  rw [← hwa]
  clear hwa
  refine (pick base g n c p A bs 4 wa HD.out (by omega)).mono ?_
  rintro e w1 ⟨r, rfl, ⟨-, hr⟩, hd1, hb1⟩
  obtain ⟨r0, r1⟩ := hr (by omega)
  obtain ⟨k0, rfl⟩ := Int.eq_ofNat_of_zero_le r0
  have hwr : IntKind.i64.wrap (1 + (k0 : Int)) = ((k0 + 1 : Nat) : Int) := by rw [IntKind.wrap_i64]; omega
  have HT1 := HT.out.butG hb1 (by omega)
  have HB1 := (below_butG HBA.out g).go hb1
  have hz1' := hb1.size
  clear hr
  have ho : (w1.alloc (.cells #[] 3)).ownsRow w1.heap.size 3 1 (.slice (some ⟨w1.heap.size, 0, none⟩) 0 0) 0 (([] : List Int).map (.int .i64)) := World.ownsRow_lit w1 #[] 0 (Nat.le_refl _) (by decide) rfl
  have hb0 : ButG g w.heap.size w (w1.alloc (.cells #[] 3)) := HB1.go (below_butG (b_alloc _ _) g)
  have hr0 : Rd (w1.alloc (.cells #[] 3)) base g A n c bs (p + 1) := hd1.under (b_alloc _ _) (by omega)
  have HT2 := Lib.hid (HT1.below_ (b_alloc w1 (.cells #[] 3)) HT1.lt)
  clear hd1 HT1 HB1 hb1 HT HD HBA
  go_wp2_with fail
  go_loopw [5, 6] (fun v i wr => ∃ (k q : Nat) (v' : Value) (xs : List Int), k ≤ k0 + 1 ∧ i = .int .i64 k ∧ v' = v ∧ Hid (xs.length = k) ∧ Hid (DrD xs) ∧ Hid (wr.ownsRow w1.heap.size 3 1 v' k (xs.map (.int .i64))) ∧ q ≤ p + 1 + 3 * k ∧ Rd wr base g A n c bs q ∧ ButG g w.heap.size w wr ∧ Hid (TBlk 29 wr w.heap.size #[.int .i64 0, .slice none 0 0, .slice none 0 0, .int .i64 0, .slice none 0 0]) ∧ w1.heap.size ≤ wr.heap.size) (fun _ i _ => (k0 + 1) - (intOf i).toNat)
  case atStart => exact ⟨0, p + 1, _, [], by omega, rfl, rfl, Lib.hid rfl, Lib.hid (fun _ h => by simp at h), ho, by omega, hr0, hb0, HT2, le_alloc _ _⟩
  case round =>
    obtain ⟨k, q, v, xs, hk, rfl, rfl, hl, hdm, hq, hqp, hr, hb, ht, hzr⟩ := hrel
    clear ho hb0 hr0 HT2
    rename World => wr
    by_cases hlt : k < k0 + 1
    · go_wp2_with fail
      refine (randomDomain base g n c q A bs wr hr (by omega)).mono ?_
      rintro e w2 ⟨x, q2, rfl, hx, hq2, hr2, hb2⟩
      have hq3 := own_butG hq.out hb2 (by have := hG.out; omega)
      have hb3 := hb.go hb2
      have ht3 := ht.out.butG hb2 (by have := hG.out; omega)
      have hs2 := hb2.size
      clear hq ht hr hb2
      go_wp2_with (at_builtin; refine wpList_append_own _ rfl _ _ 22 rfl w1.heap.size 3 i0 _ 1 8 Try.underlying22 hi0 hz0 hz1 hz2 rfl (by decide) v _ _ rfl (hq3.alloc _) ⟨w2.heap.size, 0, none⟩ 1 1 [.int .i64 x] rfl rfl (cell_one_new _ _ _) (by simp [Value.oneCell']) (by unfold maxLen; omega) (by omega) (by rw [size_alloc_]; omega) ?_; intro v1 w3 hown hgr _)
      have hr0 := hq3.lt
      have hbw : Below w1.heap.size w2 w3 := ((Below.refl _ _).alloc (by omega) _).grown hgr (by rw [size_alloc_]; omega) (fun g hg => (hr0 g hg).1)
      have hown2 : w3.ownsRow w1.heap.size 3 1 v1 (k + 1) ((xs ++ [x]).map (.int .i64)) := by simpa using hown
      clear hown hgr
      go_roundw
      case rel => exact ⟨k + 1, q2, v1, xs ++ [x], by omega, by go_num, rfl, Lib.hid (by rw [List.length_append, hl.out]; rfl), Lib.hid (hdm.out.snoc (by omega)), hown2, by omega, hr2.under hbw (by have := hG.out; omega), hb3.trans (below_butG (hbw.mono (by omega)) g), Lib.hid (ht3.below_ hbw (by omega)), by have := hbw.size; omega⟩
      case measure => simp [intOf]; omega
    · obtain rfl : k = k0 + 1 := by omega
      obtain ⟨B, d, rfl, -⟩ := IntR.of_own hq.out (by omega)
      go_wp2_with fail
      refine (pick base g n c q A bs 14 wr hr (by omega)).mono ?_
      rintro e w2 ⟨r2, rfl, -, hr2, hb2⟩
      have hq2 := own_butG hq.out hb2 (by have := hG.out; omega)
      have hb3 := hb.go hb2
      have ht3 := ht.out.butG hb2 (by have := hG.out; omega)
      have hs2 := hb2.size
      have hgl := hG.out
      clear hq ht hr hb2
      by_cases h0 : r2 = 0
      · subst h0
        obtain ⟨gd, rfl, hgd⟩ : ∃ gd : Nat, B = some ⟨gd, 0, none⟩ ∧ w1.heap.size ≤ gd := by
          rcases hq2.2 with ⟨_, h6⟩ | ⟨gd, cap, cur, hv, hgd, -⟩
          · omega
          · injection hv with e1 _ _
            exact ⟨gd, e1, hgd⟩
        have HQ2 := Lib.hid hq2
        clear hq2
        go_wp2_with fail
        refine (anyDomain base g n c (q + 1) A bs w2 hr2 (by omega)).mono ?_
        rintro e w3 ⟨x, q3, rfl, hx, hq3, hr3, hbq3⟩
        have hq4 := own_butG HQ2.out hbq3 (by omega)
        have hb4 := hb3.go hbq3
        have ht4 := ht3.butG hbq3 (by omega)
        have hs3 := hbq3.size
        have hco := hq4.cellAt 0 (by omega)
        obtain ⟨z, hz⟩ : ∃ z, xs[0]? = some z := ⟨_, List.getElem?_eq_getElem (by rw [hl.out]; omega)⟩
        rw [List.getElem?_map, hz] at hco
        simp only [Option.map_some] at hco
        have hfo := hq4.frozenAt 0
        have hst := (hq4.stored 0 (.int .i64 x)).1
        have hgR : gd ≠ w.heap.size := by omega
        have HT5 := Lib.hid (ht4.far (g := gd) (j := 0) (u := .int .i64 x) (by omega))
        have HB5 := Lib.hid (hb4.setHi (b := gd) (by omega) 0 (.int .i64 x))
        have HR5 := Lib.hid (hr3.set (b := gd) (by omega) 0 (.int .i64 x))
        have HO5 := Lib.hid (show OwnI 3 (w3.setCell ⟨gd, 0, none⟩ (.int .i64 x)) w1.heap.size (.slice (some ⟨gd, 0, none⟩) (k0 + 1) d) (xs.set 0 x) from ⟨by rw [List.length_set, hl.out, List.map_set]; exact hst, by rw [List.length_set, hl.out]; omega⟩)
        have hz5 : (w3.setCell ⟨gd, 0, none⟩ (.int .i64 x)).heap.size = w3.heap.size := by simp
        clear hq4 hb4 ht4 hst hr3 hbq3 HQ2 hr2 hz
        go_wp2_with fail
        obtain ⟨w5, hw5⟩ : ∃ w5, w3.setCell ⟨gd, 0, none⟩ (.int .i64 x) = w5 := ⟨_, rfl⟩
        rw [hw5] at HT5 HB5 HR5 HO5 hz5 ⊢
        clear hw5 hco hfo
        refine (anyConstraint base g n c q3 A bs (k0 + 1) w5 HR5.out (by omega) (by omega) (by omega)).mono ?_
        rintro e w6 ⟨vk, kc, q6, rfl, hoc, hsm, hq6, hr6, hb6⟩
        have hz6 := hb6.size
        have HT6 := HT5.out.butG hb6 (by omega)
        have HB6 := HB5.out.go hb6
        have HO6 := (HO5.out).butG hb6 (by omega)
        obtain ⟨vv', av', rv', rfl, k1, k2, k3⟩ := hoc
        obtain ⟨A1', c1', rfl, -⟩ := k1.read
        obtain ⟨A2', c2', rfl, -⟩ := k2.read
        obtain ⟨A3', c3', rfl, -⟩ := read2 k3
        have y0 := HT6.at_ 0 rfl
        have y1 := HT6.at_ 1 rfl
        have y2 := HT6.at_ 2 rfl
        have y3 := HT6.at_ 3 rfl
        have y4 := HT6.at_ 4 rfl
        have f0 := HT6.frozen 0
        have f1 := HT6.frozen 1
        have f2 := HT6.frozen 2
        have f3 := HT6.frozen 3
        have f4 := HT6.frozen 4
        obtain ⟨wf, hwf⟩ : ∃ wf, wf = (((((w6.setCell ⟨w.heap.size, 0, none⟩ (.int .i64 kc.kind)).setCell ⟨w.heap.size, 1, none⟩ (.slice A1' kc.vars.length c1')).setCell ⟨w.heap.size, 2, none⟩ (.slice A2' kc.args.length c2')).setCell ⟨w.heap.size, 3, none⟩ (.int .i64 kc.bound)).setCell ⟨w.heap.size, 4, none⟩ (.slice A3' kc.rows.length c3')) := ⟨_, rfl⟩
        have hF := Lib.hid (And.intro (OwnI.laid5 HO6 HT6 rfl hwf) (OwnCon.laid (OwnCon.base_ (show OwnCon w6 _ _ kc from ⟨_, _, _, rfl, k1, k2, k3⟩) (show w.heap.size ≤ _ by omega)) HT6 rfl hr6 hG.out (Nat.le_refl _) HB6 hwf))
        have HWF := Lib.hid hwf
        clear hwf
        have HN := Lib.hid (And.intro hsm (hdm.out.set hx 0))
        clear k1 k2 k3 HT6 HB6 HO6 hr6 hb6 hsm
        go_wp2_with fail
        rw [← HWF.out]
        obtain ⟨hod, ⟨t0, t1, t2, t3, t4⟩, ho, hrd, hbf⟩ := hF.out
        refine bodyPost_ret (v := .tuple #[.agg #[.int .i64 kc.kind, .slice A1' kc.vars.length c1', .slice A2' kc.args.length c2', .int .i64 kc.bound, .slice A3' kc.rows.length c3'], .slice (some ⟨gd, 0, none⟩) (k0 + 1) d]) ?_ rfl ?_
        · simp [results, Try.results58, go_sem, t0, t1, t2, t3, t4]
        · exact ⟨_, _, _, _, _, rfl, ho, HN.out.1, (OwnI.stays 3).base _ _ _ _ _ (show w.heap.size ≤ w1.heap.size by omega) hod, by have := (show (xs.set 0 x).length = k0 + 1 by rw [List.length_set, hl.out]); omega, by have := (show (xs.set 0 x).length = k0 + 1 by rw [List.length_set, hl.out]); omega, HN.out.2, by omega, hrd, hbf⟩
      have n0 : (r2 == 0) = false := by simpa using h0
      have HO5 := Lib.hid (show OwnI 3 w2 w1.heap.size (.slice B (k0 + 1) d) xs from ⟨by rw [hl.out]; exact hq2, by rw [hl.out]; omega⟩)
      have HT5 := Lib.hid ht3
      have HB5 := Lib.hid hb3
      have HR5 := Lib.hid hr2
      clear hq2 ht3 hb3 hr2
      go_wp2_with fail
      refine (anyConstraint base g n c (q + 1) A bs (k0 + 1) w2 HR5.out (by omega) (by omega) (by omega)).mono ?_
      rintro e w6 ⟨vk, kc, q6, rfl, hoc, hsm, hq6, hr6, hb6⟩
      have hz6 := hb6.size
      have HT6 := HT5.out.butG hb6 (by omega)
      have HB6 := HB5.out.go hb6
      have HO6 := (HO5.out).butG hb6 (by omega)
      obtain ⟨vv', av', rv', rfl, k1, k2, k3⟩ := hoc
      obtain ⟨A1', c1', rfl, -⟩ := k1.read
      obtain ⟨A2', c2', rfl, -⟩ := k2.read
      obtain ⟨A3', c3', rfl, -⟩ := read2 k3
      have y0 := HT6.at_ 0 rfl
      have y1 := HT6.at_ 1 rfl
      have y2 := HT6.at_ 2 rfl
      have y3 := HT6.at_ 3 rfl
      have y4 := HT6.at_ 4 rfl
      have f0 := HT6.frozen 0
      have f1 := HT6.frozen 1
      have f2 := HT6.frozen 2
      have f3 := HT6.frozen 3
      have f4 := HT6.frozen 4
      obtain ⟨wf, hwf⟩ : ∃ wf, wf = (((((w6.setCell ⟨w.heap.size, 0, none⟩ (.int .i64 kc.kind)).setCell ⟨w.heap.size, 1, none⟩ (.slice A1' kc.vars.length c1')).setCell ⟨w.heap.size, 2, none⟩ (.slice A2' kc.args.length c2')).setCell ⟨w.heap.size, 3, none⟩ (.int .i64 kc.bound)).setCell ⟨w.heap.size, 4, none⟩ (.slice A3' kc.rows.length c3')) := ⟨_, rfl⟩
      have hF := Lib.hid (And.intro (OwnI.laid5 HO6 HT6 rfl hwf) (OwnCon.laid (OwnCon.base_ (show OwnCon w6 _ _ kc from ⟨_, _, _, rfl, k1, k2, k3⟩) (show w.heap.size ≤ _ by omega)) HT6 rfl hr6 hG.out (Nat.le_refl _) HB6 hwf))
      have HWF := Lib.hid hwf
      clear hwf
      have HN := Lib.hid (And.intro hsm (hdm.out))
      clear k1 k2 k3 HT6 HB6 HO6 hr6 hb6 hsm
      go_wp2_with fail
      rw [← HWF.out]
      obtain ⟨hod, ⟨t0, t1, t2, t3, t4⟩, ho, hrd, hbf⟩ := hF.out
      refine bodyPost_ret (v := .tuple #[.agg #[.int .i64 kc.kind, .slice A1' kc.vars.length c1', .slice A2' kc.args.length c2', .int .i64 kc.bound, .slice A3' kc.rows.length c3'], .slice B (k0 + 1) d]) ?_ rfl ?_
      · simp [results, Try.results58, go_sem, t0, t1, t2, t3, t4]
      · exact ⟨_, _, _, _, _, rfl, ho, HN.out.1, (OwnI.stays 3).base _ _ _ _ _ (show w.heap.size ≤ w1.heap.size by omega) hod, by have := hl.out; omega, by have := hl.out; omega, HN.out.2, by omega, hrd, hbf⟩
end Go.Proofs.Ytfmdgdamelkelaa
/- The marks of a constraint that came in; cuts of a walk behind a region. -/
namespace Go.Proofs.Ytfmdgdamelkelaa
open Go.ChangeShapes Go.WideShapes Go.ChangeAt Go.RowKit
open Go.Shelf
set_option linter.unusedVariables false
set_option maxRecDepth 100000
/-- A constraint whose blocks lie from lo to below hi. -/
def HConV (w : World) (lo hi : Nat) (us : List Value) : Prop := ∃ kk va nv cv aa na ca b ra nr cr, us = [.int .i64 kk, .slice va nv cv, .slice aa na ca, .int .i64 b, .slice ra nr cr] ∧ HCon w lo hi va aa ra nv na nr
theorem HConV.keep {w w' : World} {lo hi : Nat} {us : List Value} (h : HConV w lo hi us) (k : Keep w w') : HConV w' lo hi us := by
  obtain ⟨kk, va, nv, cv, aa, na, ca, b, ra, nr, cr, e, h1⟩ := h
  exact ⟨kk, va, nv, cv, aa, na, ca, b, ra, nr, cr, e, h1.keep k⟩
theorem HConV.of_own {w : World} {base : Nat} {us : List Value} {c : Con} (h : OwnCon w base (.agg us.toArray) c) (hs : SmCon c) : HConV w base w.heap.size us := by
  obtain ⟨vv, av, rv, he, o1, o2, o3⟩ := h
  injection he with he
  have he2 : us = [.int .i64 c.kind, vv, av, .int .i64 c.bound, rv] := by simpa using congrArg Array.toList he
  obtain ⟨A1, c1, hv1, -⟩ := o1.read
  obtain ⟨A2, c2, hv2, -⟩ := o2.read
  obtain ⟨A3, c3, hv3, -⟩ := read2 o3
  rw [hv1] at o1 he2
  rw [hv2] at o2 he2
  rw [hv3] at o3 he2
  exact ⟨_, _, _, _, _, _, _, _, _, _, _, he2, hs.1, hs.2.1, hs.2.2.1, HI.of_own o1, HI.of_own o2, HRows.of_own o3 hs.2.2.2⟩
set_option maxHeartbeats 4000000 in
theorem markConT (us : List Value) (lo hi : Nat) (k : Int) (w : World) (h : HConV w lo hi us) (hlo : lo ≤ w.heap.size) (h0 : 0 ≤ k) (h1 : k ≤ 4611684918000000000) :
    Calls Try.prog 17 #[.agg us.toArray, .int .i64 k] w fun e w' => ∃ k' : Int, e = .returned (.int .i64 k') ∧ k ≤ k' ∧ k' ≤ k + 1099513724928 ∧ Touch lo hi w w' ∧ Keep w w' := by
  obtain ⟨kk, va, nv, cv, aa, na, ca, b, ra, nr, cr, rfl, s1, s2, s3, g1, g2, g3⟩ := h
  obtain ⟨wa, hwa⟩ : ∃ wa, wa = w.alloc (.cells #[.int .i64 kk, .slice va nv cv, .slice aa na ca, .int .i64 b, .slice ra nr cr] 29) := ⟨_, rfl⟩
  have hb0 : Below w.heap.size w wa := by rw [hwa]; exact b_alloc _ _
  have hsz : wa.heap.size = w.heap.size + 1 := by rw [hwa, size_alloc_]
  have ha : TBlk 29 wa w.heap.size #[.int .i64 kk, .slice va nv cv, .slice aa na ca, .int .i64 b, .slice ra nr cr] := by rw [hwa]; exact TBlk.new _ _ _
  have HA := Lib.hid ha
  have TA := Lib.hid (Touch.of_below (lo := lo) (hi := hi) hb0 hlo)
  have KA := Lib.hid (Keep.of_below hb0)
  have G1 := Lib.hid (g1.keep KA.out)
  have G2 := Lib.hid (g2.keep KA.out)
  have G3 := Lib.hid (g3.keep KA.out)
  have a1 : wa.cell? ⟨w.heap.size, 1, none⟩ = some (.slice va nv cv) := ha.at_ 1 rfl
  clear g1 g2 g3 ha hb0
  go_enter Try.func17, Try.ntmps17
  go_wp2_with fail
  rw [← hwa]
  clear hwa
  refine (markIntT va nv cv lo hi k wa G1.out (by omega) s1 h0 (by omega)).mono ?_
  rintro e w1 ⟨k1, rfl, p1, p2, ht1, hq1⟩
  obtain ⟨cs1, b1, b2, -⟩ := hq1 _ _ _ HA.out
  have a2 : w1.cell? ⟨w.heap.size, 2, none⟩ = some (.slice aa na ca) := by rw [cell_of_row w1 _ _ cs1 _ _ b1]; exact b2 2 _ _ _ rfl
  have z1 := ht1.1.size
  have S4 := Lib.hid (b2 4 _ _ _ rfl)
  have B1 := Lib.hid b1
  have TB := Lib.hid (TA.out.trans ht1)
  have KB := Lib.hid (KA.out.trans hq1)
  have G5 := Lib.hid (G2.out.keep hq1)
  have G6 := Lib.hid (G3.out.keep hq1)
  clear ht1 hq1 b1 b2 a1
  go_wp2_with fail
  refine (markIntT aa na ca lo hi k1 w1 G5.out (by omega) s2 (by omega) (by omega)).mono ?_
  rintro e w2 ⟨k2, rfl, p3, p4, ht2, hq2⟩
  obtain ⟨cs2, b3, b4, -⟩ := hq2 _ _ _ B1.out
  have a4 : w2.cell? ⟨w.heap.size, 4, none⟩ = some (.slice ra nr cr) := by rw [cell_of_row w2 _ _ cs2 _ _ b3]; exact b4 4 _ _ _ S4.out
  have z2 := ht2.1.size
  have TC := Lib.hid (TB.out.trans ht2)
  have KC := Lib.hid (KB.out.trans hq2)
  have G7 := Lib.hid (G6.out.keep hq2)
  clear ht2 hq2 b3 b4 a2
  go_wp2_with fail
  refine (markIntSST ra nr cr lo hi k2 w2 G7.out (by omega) s3 (by omega) (by omega)).mono ?_
  rintro e w3 ⟨k3, rfl, p5, p6, ht3, hq3⟩
  have TD := Lib.hid (TC.out.trans ht3)
  have KD := Lib.hid (KC.out.trans hq3)
  clear ht3 hq3
  go_wp2_with fail
  go_ret
  exact ⟨k3, rfl, by omega, by omega, TD.out, KD.out⟩
end Go.Proofs.Ytfmdgdamelkelaa
/- (printed by gmarkd.py) Which number cells a value holds, in the order in which they are marked; what marking leaves. No program in sight. -/
namespace Go.Proofs.Ytfmdgdamelkelaa
open Go.ChangeShapes Go.WideShapes Go.ChangeAt Go.RowKit
open Go.Shelf
set_option linter.unusedVariables false
set_option maxRecDepth 100000
attribute [local go_sem] Oper.semAt_some

/-- the cells of S hold k, k + 1, ..; every other cell is as it was. -/
structure Wr (lo : Nat) (w w' : World) (S : List (Nat × Nat)) (k : Int) : Prop where
  below : Below lo w w'
  keep : Keep w w'
  old : ∀ (b j : Nat), b < w.heap.size → (b, j) ∉ S → w'.cell? ⟨b, j, none⟩ = w.cell? ⟨b, j, none⟩
  set : S.Nodup → ∀ (i : Nat) s, S[i]? = some s → w'.cell? ⟨s.1, s.2, none⟩ = some (.int .i64 (k + i))
  lt : ∀ s ∈ S, s.1 < w'.heap.size
/-- the cells of S hold k, k + 1, .. -/
def Holds (w : World) (S : List (Nat × Nat)) (k : Int) : Prop := ∀ (i : Nat) s, S[i]? = some s → w.cell? ⟨s.1, s.2, none⟩ = some (.int .i64 (k + i))
section
variable {lo : Nat} {w w1 w2 w' : World} {S T : List (Nat × Nat)} {k : Int}
theorem Wr.refl (lo : Nat) (w : World) (k : Int) : Wr lo w w [] k := ⟨Below.refl _ _, Keep.refl _, fun _ _ _ _ => rfl, fun _ i s h => by simp at h, fun s h => by simp at h⟩
theorem Wr.of_below (hb : Below w.heap.size w w') (hl : lo ≤ w.heap.size) : Wr lo w w' [] k := ⟨hb.mono hl, Keep.of_below hb, fun b j hs _ => hb.cell (p := ⟨b, j, none⟩) hs, fun _ i s h => by simp at h, fun s h => by simp at h⟩
theorem Wr.trans {k2 : Int} (h : Wr lo w w1 S k) (g : Wr lo w1 w2 T k2) (hk : k2 = k + S.length) : Wr lo w w2 (S ++ T) k := by
  subst hk
  have hS := h.lt
  refine ⟨h.below.trans g.below, h.keep.trans g.keep, fun b j hb hn => ?_, fun hnd i s hi => ?_, fun s hs => (List.mem_append.1 hs).elim (fun h1 => Nat.lt_of_lt_of_le (h.lt s h1) g.below.size) (g.lt s)⟩
  · rw [List.mem_append, not_or] at hn
    exact (g.old b j (Nat.lt_of_lt_of_le hb h.below.size) hn.2).trans (h.old b j hb hn.1)
  · obtain ⟨n1, n2, n3⟩ := List.nodup_append.1 hnd
    rcases Nat.lt_or_ge i S.length with hl | hl
    · rw [List.getElem?_append_left hl] at hi
      have hm := List.mem_of_getElem? hi
      have := g.old s.1 s.2 (hS s hm) (fun hc => n3 s hm _ hc rfl)
      exact this.trans (h.set n1 i s hi)
    · rw [List.getElem?_append_right hl] at hi
      have := g.set n2 _ s hi
      rw [this]
      congr 2
      omega
theorem Wr.store {g j : Nat} {cs : Array Value} {t : TypeId} {x : Int} (hl : lo ≤ g) (hg : w.heap[g]? = some (.cells cs t (0, 0))) (hj : cs[j]? = some (.int .i64 x)) : Wr lo w (w.setCell ⟨g, j, none⟩ (.int .i64 k)) [(g, j)] k := by
  have hc : w.cell? ⟨g, j, none⟩ = some (.int .i64 x) := by rw [cell_of_row w g j cs t _ hg]; exact hj
  refine ⟨(Below.refl _ _).setCell (by simpa using hl) _, Keep.store hg hj, fun b j' hb hn => ?_, fun _ i s hi => ?_, fun s hs => by simp at hs; subst hs; simpa using lt_heap hg⟩
  · refine World.cell?_setCell_other _ _ _ _ (fun e => hn ?_)
    injection e with e1 e2
    rw [← e1, ← e2]; simp
  · match i, hi with
    | 0, hi =>
      simp at hi
      subst hi
      rw [World.cell?_setCell_same _ _ _ hc]
      simp
    | i + 1, hi => simp at hi
theorem Wr.nil_left (h : Wr lo w w1 [] k) (g : Wr lo w1 w2 T k) : Wr lo w w2 T k := by
  have := h.trans g (by simp)
  simpa using this
theorem Wr.nil_right {k2 : Int} (h : Wr lo w w1 S k) (g : Wr lo w1 w2 [] k2) : Wr lo w w2 S k :=
  ⟨h.below.trans g.below, h.keep.trans g.keep, fun b j hb hn => (g.old b j (Nat.lt_of_lt_of_le hb h.below.size) (by simp)).trans (h.old b j hb hn), fun hnd i s hi => (g.old s.1 s.2 (h.lt s (List.mem_of_getElem? hi)) (by simp)).trans (h.set hnd i s hi), fun s hs => Nat.lt_of_lt_of_le (h.lt s hs) g.below.size⟩
theorem Holds.of_wr (h : Wr lo w w' S k) (hn : S.Nodup) : Holds w' S k := h.set hn
theorem Holds.append (h : Holds w (S ++ T) k) : Holds w S k ∧ Holds w T (k + S.length) := by
  refine ⟨fun i s hi => h i s ?_, fun i s hi => ?_⟩
  · rw [List.getElem?_append_left (by
      rcases Nat.lt_or_ge i S.length with hl | hl
      · exact hl
      · rw [List.getElem?_eq_none hl] at hi; cases hi)]; exact hi
  · have := h (S.length + i) s (by rw [List.getElem?_append_right (by omega)]; rw [show S.length + i - S.length = i by omega]; exact hi)
    rw [this]
    congr 2
    omega
theorem Holds.below (h : Holds w S k) (hb : Below w.heap.size w w') (hS : ∀ s ∈ S, s.1 < w.heap.size) : Holds w' S k := fun i s hi => (hb.cell (p := ⟨s.1, s.2, none⟩) (hS s (List.mem_of_getElem? hi))).trans (h i s hi)
end
section
variable {lo n : Nat} {w w' : World} {A : Option Addr}
/-- the first n cells of block g. -/
def seg (g n : Nat) : List (Nat × Nat) := (List.range n).map fun j => (g, j)
theorem seg_len (g n : Nat) : (seg g n).length = n := by simp [seg]
theorem seg_at {g n j : Nat} (h : j < n) : (seg g n)[j]? = some (g, j) := by simp [seg, h]
theorem seg_take {g n j : Nat} (h : j ≤ n) : (seg g n).take j = seg g j := by
  unfold seg
  rw [← List.map_take, List.take_range, Nat.min_eq_left h]
theorem seg_succ (g j : Nat) : seg g (j + 1) = seg g j ++ [(g, j)] := by simp [seg, List.range_succ]
theorem take_snoc {α : Type} {S : List α} {j : Nat} {s : α} (h : S[j]? = some s) : S.take (j + 1) = S.take j ++ [s] := by rw [List.take_add_one, h]; rfl
theorem flat_snoc {α : Type} {Ss : List (List α)} {j : Nat} {S : List α} (h : Ss[j]? = some S) : (Ss.take (j + 1)).flatten = (Ss.take j).flatten ++ S := by rw [take_snoc h]; simp
theorem flat_le {α : Type} (Ss : List (List α)) (j : Nat) : (Ss.take j).flatten.length ≤ Ss.flatten.length := by
  have := congrArg (fun l => l.flatten.length) (List.take_append_drop j Ss)
  simp only [List.flatten_append, List.length_append] at this
  omega
/-- numbers, at S. -/
def SI (lo : Nat) (w : World) (A : Option Addr) (n : Nat) (S : List (Nat × Nat)) : Prop := (n = 0 ∧ S = []) ∨ ∃ (g : Nat) (cs : Array Value) (t : TypeId), A = some ⟨g, 0, none⟩ ∧ lo ≤ g ∧ w.heap[g]? = some (.cells cs t (0, 0)) ∧ (∀ j, j < n → ∃ x, cs[j]? = some (.int .i64 x)) ∧ S = seg g n
theorem SI.keep {S : List (Nat × Nat)} (h : SI lo w A n S) (k : Keep w w') : SI lo w' A n S := by
  rcases h with h | ⟨g, cs, t, e, h1, h3, h4, h5⟩
  · exact .inl h
  · obtain ⟨c1, k1, k2, k3⟩ := k g cs t h3
    refine .inr ⟨g, c1, t, e, h1, k1, fun j hj => ?_, h5⟩
    obtain ⟨x, hx⟩ := h4 j hj
    exact k3 j x hx
theorem SI.len {S : List (Nat × Nat)} (h : SI lo w A n S) : S.length = n := by
  rcases h with ⟨h1, h2⟩ | ⟨g, cs, t, e, h1, h3, h4, h5⟩
  · rw [h1, h2]; rfl
  · rw [h5, seg_len]
theorem SI.lt {S : List (Nat × Nat)} (h : SI lo w A n S) : ∀ s ∈ S, s.1 < w.heap.size := by
  rcases h with ⟨h1, h2⟩ | ⟨g, cs, t, e, h1, h3, h4, h5⟩
  · rw [h2]; simp
  · intro s hs
    rw [h5] at hs
    unfold seg at hs
    obtain ⟨j, -, rfl⟩ := List.mem_map.1 hs
    exact lt_heap h3
/-- rows of numbers, at Ss. -/
def SRows (lo : Nat) (w : World) (A : Option Addr) (n : Nat) (Ss : List (List (Nat × Nat))) : Prop := Ss.length = n ∧ (n = 0 ∨ ∃ (g : Nat) (cs : Array Value) (t : TypeId), A = some ⟨g, 0, none⟩ ∧ w.heap[g]? = some (.cells cs t (0, 0)) ∧ ∀ (j : Nat) S, Ss[j]? = some S → ∃ A' n' c', cs[j]? = some (.slice A' n' c') ∧ SI lo w A' n' S)
theorem SRows.keep {Ss : List (List (Nat × Nat))} (h : SRows lo w A n Ss) (k : Keep w w') : SRows lo w' A n Ss := by
  obtain ⟨hl, h⟩ := h
  refine ⟨hl, h.imp id ?_⟩
  rintro ⟨g, cs, t, e, h3, h4⟩
  obtain ⟨c1, k1, k2, k3⟩ := k g cs t h3
  refine ⟨g, c1, t, e, k1, fun j S hj => ?_⟩
  obtain ⟨A', n', c', a1, a3⟩ := h4 j S hj
  exact ⟨A', n', c', k2 j _ _ _ a1, a3.keep k⟩
theorem SRows.lt {Ss : List (List (Nat × Nat))} (h : SRows lo w A n Ss) : ∀ s ∈ Ss.flatten, s.1 < w.heap.size := by
  obtain ⟨hl, h⟩ := h
  intro s hs
  obtain ⟨S, hS, hs⟩ := List.mem_flatten.1 hs
  obtain ⟨j, hj⟩ := List.mem_iff_getElem?.1 hS
  rcases h with h | ⟨g, cs, t, e, h3, h4⟩
  · rw [List.length_eq_zero_iff.1 (hl.trans h)] at hS; simp at hS
  · obtain ⟨A', n', c', a1, a3⟩ := h4 j S hj
    exact a3.lt s hs
/-- layers of rows of numbers, at Sss. -/
def SLays (lo : Nat) (w : World) (A : Option Addr) (n : Nat) (Sss : List (List (List (Nat × Nat)))) : Prop := Sss.length = n ∧ (n = 0 ∨ ∃ (g : Nat) (cs : Array Value) (t : TypeId), A = some ⟨g, 0, none⟩ ∧ w.heap[g]? = some (.cells cs t (0, 0)) ∧ ∀ (j : Nat) Ss, Sss[j]? = some Ss → ∃ A' n' c', cs[j]? = some (.slice A' n' c') ∧ n' ≤ 1048576 ∧ SRows lo w A' n' Ss)
theorem SLays.keep {Sss : List (List (List (Nat × Nat)))} (h : SLays lo w A n Sss) (k : Keep w w') : SLays lo w' A n Sss := by
  obtain ⟨hl, h⟩ := h
  refine ⟨hl, h.imp id ?_⟩
  rintro ⟨g, cs, t, e, h3, h4⟩
  obtain ⟨c1, k1, k2, k3⟩ := k g cs t h3
  refine ⟨g, c1, t, e, k1, fun j S hj => ?_⟩
  obtain ⟨A', n', c', a1, a2, a3⟩ := h4 j S hj
  exact ⟨A', n', c', k2 j _ _ _ a1, a2, a3.keep k⟩
theorem SLays.lt {Sss : List (List (List (Nat × Nat)))} (h : SLays lo w A n Sss) : ∀ s ∈ (Sss.map List.flatten).flatten, s.1 < w.heap.size := by
  obtain ⟨hl, h⟩ := h
  intro s hs
  obtain ⟨S, hS, hs⟩ := List.mem_flatten.1 hs
  obtain ⟨T, hT, rfl⟩ := List.mem_map.1 hS
  obtain ⟨j, hj⟩ := List.mem_iff_getElem?.1 hT
  rcases h with h | ⟨g, cs, t, e, h3, h4⟩
  · rw [List.length_eq_zero_iff.1 (hl.trans h)] at hT; simp at hT
  · obtain ⟨A', n', c', a1, a2, a3⟩ := h4 j T hj
    exact a3.lt s hs
end
set_option maxHeartbeats 4000000 in
theorem markIntW (A : Option Addr) (n c lo : Nat) (k : Int) (S : List (Nat × Nat)) (w : World) (h : SI lo w A n S) (h0 : 0 ≤ k) (h1 : k + S.length ≤ 4611686018427387904) :
    Calls Try.prog 18 #[.slice A n c, .int .i64 k] w fun e w' => e = .returned (.int .i64 (k + S.length)) ∧ Wr lo w w' S k := by
  have hl := h.len
  rw [hl] at h1 ⊢
  have H := Lib.hid h
  have HL := Lib.hid hl
  clear h hl
  go_enter Try.func18, Try.ntmps18
  go_wp2_with fail
  go_loopw [1, 5] (fun t i wr => ∃ j : Nat, j ≤ n ∧ i = .int .i64 j ∧ t = .int .i64 (k + j) ∧ Hid (Wr lo w wr (S.take j) k)) (fun _ i _ => n - (intOf i).toNat)
  case atStart => exact ⟨0, by omega, rfl, by simp, Wr.refl _ _ _⟩
  case round =>
    obtain ⟨j, hj, rfl, rfl, hq⟩ := hrel
    by_cases hlt : j < n
    · rcases H.out.keep hq.out.keep with h | ⟨g, cs, t, rfl, hg1, hg3, hg4, hS⟩
      · omega
      obtain ⟨x, hx⟩ := hg4 j hlt
      have hc : wr.cell? ⟨g, j, none⟩ = some (.int .i64 x) := by rw [cell_of_row wr g j cs t _ hg3]; exact hx
      have hf := frozen_of_row wr g j cs t hg3
      have hs1 : S[j]? = some (g, j) := by rw [hS]; exact seg_at hlt
      have hK := Lib.hid (show Wr lo w (wr.setCell ⟨g, j, none⟩ (.int .i64 (k + j))) (S.take (j + 1)) k by
        rw [take_snoc hs1]
        exact hq.out.trans (Wr.store hg1 hg3 hx) (by rw [List.length_take, HL.out, Nat.min_eq_left (by omega)]))
      clear hg3 hg4 hx hS hs1
      have hadd : wrap64 (k + j + 1) = k + (j + 1 : Nat) := by rw [IntWalk.wrap64_in _ ⟨by omega, by omega⟩]; omega
      go_wp2_with fail
      go_roundw
      case rel => exact ⟨j + 1, by omega, by go_num, by simp; omega, hK⟩
      case measure => simp [intOf]; omega
    · obtain rfl : n = j := by omega
      have ht : S.take n = S := List.take_of_length_le (by rw [HL.out]; omega)
      rw [ht] at hq
      go_wp2_with fail
      go_ret
      exact ⟨rfl, hq.out⟩
set_option maxHeartbeats 4000000 in
theorem markIntSSW (A : Option Addr) (n c lo : Nat) (k : Int) (Ss : List (List (Nat × Nat))) (w : World) (h : SRows lo w A n Ss) (hn : n ≤ 1048576) (h0 : 0 ≤ k) (h1 : k + Ss.flatten.length ≤ 4611686018427387904) :
    Calls Try.prog 56 #[.slice A n c, .int .i64 k] w fun e w' => e = .returned (.int .i64 (k + Ss.flatten.length)) ∧ Wr lo w w' Ss.flatten k := by
  have H := Lib.hid h
  have HL := Lib.hid h.1
  have HB := Lib.hid (fun j => flat_le Ss j)
  clear h
  go_enter Try.func56, Try.ntmps56
  go_wp2_with fail
  go_loopw [1, 5] (fun t i wr => ∃ j : Nat, j ≤ n ∧ i = .int .i64 j ∧ t = .int .i64 (k + (Ss.take j).flatten.length) ∧ Hid (Wr lo w wr (Ss.take j).flatten k)) (fun _ i _ => n - (intOf i).toNat)
  case atStart => exact ⟨0, by omega, rfl, by simp, Wr.refl _ _ _⟩
  case round =>
    obtain ⟨j, hj, rfl, rfl, hq⟩ := hrel
    by_cases hlt : j < n
    · obtain ⟨-, h⟩ := H.out.keep hq.out.keep
      rcases h with h | ⟨g, cs, t, rfl, hg3, hg4⟩
      · omega
      obtain ⟨S, hS⟩ : ∃ S, Ss[j]? = some S := ⟨_, List.getElem?_eq_getElem (by rw [HL.out]; exact hlt)⟩
      obtain ⟨A', n', c', hx, hi'⟩ := hg4 j S hS
      have hc : wr.cell? ⟨g, j, none⟩ = some (.slice A' n' c') := by rw [cell_of_row wr g j cs t _ hg3]; exact hx
      have HI' := Lib.hid hi'
      have hfs := flat_snoc hS
      have hb1 := HB.out (j + 1)
      rw [hfs, List.length_append] at hb1
      have HFS := Lib.hid hfs
      obtain ⟨m, hm⟩ : ∃ m, (Ss.take j).flatten.length = m := ⟨_, rfl⟩
      rw [hm] at hb1 ⊢
      have HM := Lib.hid hm
      clear hg3 hg4 hx hi' hfs hm hS
      go_wp2_with fail
      refine (markIntW _ _ _ lo (k + m) S _ HI'.out (by omega) (by omega)).mono ?_
      rintro e w1 ⟨rfl, ht1⟩
      have hK := Lib.hid (show Wr lo w w1 (Ss.take (j + 1)).flatten k by rw [HFS.out]; exact hq.out.trans ht1 (by rw [HM.out]))
      have hmm : (Ss.take (j + 1)).flatten.length = m + S.length := by rw [HFS.out, List.length_append, HM.out]
      clear ht1 hc
      go_wp2_with fail
      go_roundw
      case rel => exact ⟨j + 1, by omega, by go_num, by rw [hmm]; simp; omega, hK⟩
      case measure => simp [intOf]; omega
    · obtain rfl : n = j := by omega
      have ht : Ss.take n = Ss := List.take_of_length_le (by rw [HL.out]; omega)
      rw [ht] at hq ⊢
      go_wp2_with fail
      go_ret
      exact ⟨rfl, hq.out⟩
set_option maxHeartbeats 4000000 in
theorem heldIntW (A : Option Addr) (n c lo : Nat) (k : Int) (S : List (Nat × Nat)) (w : World) (h : SI lo w A n S) (hh : Holds w S k) (h0 : 0 ≤ k) (h1 : k + S.length ≤ 4611686018427387904) :
    Calls Try.prog 42 #[.slice A n c, .int .i64 k] w fun e w' => e = .returned (.int .i64 (k + S.length)) ∧ Below w.heap.size w w' := by
  have hl := h.len
  rw [hl] at h1 ⊢
  have H := Lib.hid h
  have HH := Lib.hid hh
  clear h hl hh
  go_enter Try.func42, Try.ntmps42
  go_wp2_with fail
  go_loop [1, 5] (fun t i => ∃ j : Nat, j ≤ n ∧ i = .int .i64 j ∧ t = .int .i64 (k + j)) (fun _ i => n - (intOf i).toNat)
  case atStart => exact ⟨0, by omega, rfl, by simp⟩
  case round =>
    obtain ⟨j, hj, rfl, rfl⟩ := hrel
    by_cases hlt : j < n
    · rcases H.out with h | ⟨g, cs, t, rfl, hg1, hg3, hg4, hS⟩
      · omega
      have hc := HH.out j (g, j) (by rw [hS]; exact seg_at hlt)
      have hne : ((k + (j : Int)) != k + (j : Int)) = false := by simp
      have hadd : wrap64 (k + j + 1) = k + (j + 1 : Nat) := by rw [IntWalk.wrap64_in _ ⟨by omega, by omega⟩]; omega
      clear hg3 hg4 hS
      go_wp2_with fail
      go_round
      case rel => exact ⟨j + 1, by omega, by go_num, by simp; omega⟩
      case measure => simp [intOf]; omega
    · obtain rfl : n = j := by omega
      go_wp2_with fail
      go_ret
      exact ⟨rfl, Below.refl _ _⟩
set_option maxHeartbeats 4000000 in
theorem heldIntSSW (A : Option Addr) (n c lo : Nat) (k : Int) (Ss : List (List (Nat × Nat))) (w : World) (h : SRows lo w A n Ss) (hh : Holds w Ss.flatten k) (hn : n ≤ 1048576) (h0 : 0 ≤ k) (h1 : k + Ss.flatten.length ≤ 4611686018427387904) :
    Calls Try.prog 57 #[.slice A n c, .int .i64 k] w fun e w' => e = .returned (.int .i64 (k + Ss.flatten.length)) ∧ Below w.heap.size w w' := by
  have H := Lib.hid h
  have HL := Lib.hid h.1
  have HB := Lib.hid (fun j => flat_le Ss j)
  have HH := Lib.hid hh
  clear h hh
  go_enter Try.func57, Try.ntmps57
  go_wp2_with fail
  go_loopw [1, 5] (fun t i wr => ∃ j : Nat, j ≤ n ∧ i = .int .i64 j ∧ t = .int .i64 (k + (Ss.take j).flatten.length) ∧ Below w.heap.size w wr) (fun _ i _ => n - (intOf i).toNat)
  case atStart => exact ⟨0, by omega, rfl, by simp, Below.refl _ _⟩
  case round =>
    obtain ⟨j, hj, rfl, rfl, hq⟩ := hrel
    by_cases hlt : j < n
    · obtain ⟨-, h⟩ := H.out.keep (Keep.of_below hq)
      rcases h with h | ⟨g, cs, t, rfl, hg3, hg4⟩
      · omega
      obtain ⟨S, hS⟩ : ∃ S, Ss[j]? = some S := ⟨_, List.getElem?_eq_getElem (by rw [HL.out]; exact hlt)⟩
      obtain ⟨A', n', c', hx, hi'⟩ := hg4 j S hS
      have hc : wr.cell? ⟨g, j, none⟩ = some (.slice A' n' c') := by rw [cell_of_row wr g j cs t _ hg3]; exact hx
      have HI' := Lib.hid hi'
      have hfs := flat_snoc hS
      have hb1 := HB.out (j + 1)
      rw [hfs, List.length_append] at hb1
      have hhs : Holds wr S (k + (Ss.take j).flatten.length) := by
        have h2 := (HH.out.below hq H.out.lt)
        rw [← List.take_append_drop (j + 1) Ss, List.flatten_append, hfs, List.append_assoc] at h2
        exact h2.append.2.append.1
      have HHS := Lib.hid hhs
      have HFS := Lib.hid hfs
      obtain ⟨m, hm⟩ : ∃ m, (Ss.take j).flatten.length = m := ⟨_, rfl⟩
      rw [hm] at hb1 HHS ⊢
      have HM := Lib.hid hm
      clear hg3 hg4 hx hi' hfs hm hS hhs
      go_wp2_with fail
      refine (heldIntW _ _ _ lo (k + m) S _ HI'.out HHS.out (by omega) (by omega)).mono ?_
      rintro e w1 ⟨rfl, ht1⟩
      have hmm : (Ss.take (j + 1)).flatten.length = m + S.length := by rw [HFS.out, List.length_append, HM.out]
      have hb := hq.trans (ht1.mono hq.size)
      have hnn : decide (k + (m : Int) + (S.length : Int) < 0) = false := decide_eq_false (by omega)
      clear ht1 hc
      go_wp2_with fail
      go_roundw
      case rel => exact ⟨j + 1, by omega, by go_num, by rw [hmm]; simp; omega, hb⟩
      case measure => simp [intOf]; omega
    · obtain rfl : n = j := by omega
      have ht : Ss.take n = Ss := List.take_of_length_le (by rw [HL.out]; omega)
      rw [ht]
      go_wp2_with fail
      go_ret
      exact ⟨rfl, hq⟩
set_option maxHeartbeats 4000000 in
theorem markIntSSSW (A : Option Addr) (n c lo : Nat) (k : Int) (Sss : List (List (List (Nat × Nat)))) (Ss : List (List (Nat × Nat))) (hSe : Sss.map List.flatten = Ss) (w : World) (h : SLays lo w A n Sss) (hn : n ≤ 1048576) (h0 : 0 ≤ k) (h1 : k + Ss.flatten.length ≤ 4611686018427387904) :
    Calls Try.prog 19 #[.slice A n c, .int .i64 k] w fun e w' => e = .returned (.int .i64 (k + Ss.flatten.length)) ∧ Wr lo w w' Ss.flatten k := by
  have H := Lib.hid h
  have HSE := Lib.hid hSe
  have HL := Lib.hid h.1
  have HB := Lib.hid (fun j => flat_le Ss j)
  clear h hSe
  go_enter Try.func19, Try.ntmps19
  go_wp2_with fail
  go_loopw [1, 5] (fun t i wr => ∃ j : Nat, j ≤ n ∧ i = .int .i64 j ∧ t = .int .i64 (k + (Ss.take j).flatten.length) ∧ Hid (Wr lo w wr (Ss.take j).flatten k)) (fun _ i _ => n - (intOf i).toNat)
  case atStart => exact ⟨0, by omega, rfl, by simp, Wr.refl _ _ _⟩
  case round =>
    obtain ⟨j, hj, rfl, rfl, hq⟩ := hrel
    by_cases hlt : j < n
    · obtain ⟨-, h⟩ := H.out.keep hq.out.keep
      rcases h with h | ⟨g, cs, t, rfl, hg3, hg4⟩
      · omega
      obtain ⟨T, hT⟩ : ∃ T, Sss[j]? = some T := ⟨_, List.getElem?_eq_getElem (by rw [HL.out]; exact hlt)⟩
      obtain ⟨S, hS⟩ : ∃ S, Ss[j]? = some S := ⟨T.flatten, by rw [← HSE.out, List.getElem?_map, hT]; rfl⟩
      have hST : S = T.flatten := by rw [← HSE.out, List.getElem?_map, hT] at hS; simpa using hS.symm
      subst hST
      obtain ⟨A', n', c', hx, hn3, hi'⟩ := hg4 j T hT
      have hc : wr.cell? ⟨g, j, none⟩ = some (.slice A' n' c') := by rw [cell_of_row wr g j cs t _ hg3]; exact hx
      have HI' := Lib.hid hi'
      have hfs := flat_snoc hS
      have hb1 := HB.out (j + 1)
      rw [hfs, List.length_append] at hb1
      have HFS := Lib.hid hfs
      obtain ⟨m, hm⟩ : ∃ m, (Ss.take j).flatten.length = m := ⟨_, rfl⟩
      rw [hm] at hb1 ⊢
      have HM := Lib.hid hm
      clear hg3 hg4 hx hi' hfs hm hS
      go_wp2_with fail
      refine (markIntSSW _ _ _ lo (k + m) T _ HI'.out hn3 (by omega) (by omega)).mono ?_
      rintro e w1 ⟨rfl, ht1⟩
      have hK := Lib.hid (show Wr lo w w1 (Ss.take (j + 1)).flatten k by rw [HFS.out]; exact hq.out.trans ht1 (by rw [HM.out]))
      have hmm : (Ss.take (j + 1)).flatten.length = m + T.flatten.length := by rw [HFS.out, List.length_append, HM.out]
      clear ht1 hc
      go_wp2_with fail
      go_roundw
      case rel => exact ⟨j + 1, by omega, by go_num, by rw [hmm]; simp; omega, hK⟩
      case measure => simp [intOf]; omega
    · obtain rfl : n = j := by omega
      have ht : Ss.take n = Ss := List.take_of_length_le (by rw [← HSE.out, List.length_map, HL.out]; omega)
      rw [ht] at hq ⊢
      go_wp2_with fail
      go_ret
      exact ⟨rfl, hq.out⟩
set_option maxHeartbeats 4000000 in
theorem heldIntSSSW (A : Option Addr) (n c lo : Nat) (k : Int) (Sss : List (List (List (Nat × Nat)))) (Ss : List (List (Nat × Nat))) (hSe : Sss.map List.flatten = Ss) (w : World) (h : SLays lo w A n Sss) (hh : Holds w Ss.flatten k) (hn : n ≤ 1048576) (h0 : 0 ≤ k) (h1 : k + Ss.flatten.length ≤ 4611686018427387904) :
    Calls Try.prog 20 #[.slice A n c, .int .i64 k] w fun e w' => e = .returned (.int .i64 (k + Ss.flatten.length)) ∧ Below w.heap.size w w' := by
  have H := Lib.hid h
  have HSE := Lib.hid hSe
  have HL := Lib.hid h.1
  have HB := Lib.hid (fun j => flat_le Ss j)
  have HH := Lib.hid hh
  clear h hh hSe
  go_enter Try.func20, Try.ntmps20
  go_wp2_with fail
  go_loopw [1, 5] (fun t i wr => ∃ j : Nat, j ≤ n ∧ i = .int .i64 j ∧ t = .int .i64 (k + (Ss.take j).flatten.length) ∧ Below w.heap.size w wr) (fun _ i _ => n - (intOf i).toNat)
  case atStart => exact ⟨0, by omega, rfl, by simp, Below.refl _ _⟩
  case round =>
    obtain ⟨j, hj, rfl, rfl, hq⟩ := hrel
    by_cases hlt : j < n
    · obtain ⟨-, h⟩ := H.out.keep (Keep.of_below hq)
      rcases h with h | ⟨g, cs, t, rfl, hg3, hg4⟩
      · omega
      obtain ⟨T, hT⟩ : ∃ T, Sss[j]? = some T := ⟨_, List.getElem?_eq_getElem (by rw [HL.out]; exact hlt)⟩
      obtain ⟨S, hS⟩ : ∃ S, Ss[j]? = some S := ⟨T.flatten, by rw [← HSE.out, List.getElem?_map, hT]; rfl⟩
      have hST : S = T.flatten := by rw [← HSE.out, List.getElem?_map, hT] at hS; simpa using hS.symm
      subst hST
      obtain ⟨A', n', c', hx, hn3, hi'⟩ := hg4 j T hT
      have hc : wr.cell? ⟨g, j, none⟩ = some (.slice A' n' c') := by rw [cell_of_row wr g j cs t _ hg3]; exact hx
      have HI' := Lib.hid hi'
      have hfs := flat_snoc hS
      have hb1 := HB.out (j + 1)
      rw [hfs, List.length_append] at hb1
      have hhs : Holds wr T.flatten (k + (Ss.take j).flatten.length) := by
        have h2 := (HH.out.below hq (by rw [← HSE.out]; exact H.out.lt))
        rw [← List.take_append_drop (j + 1) Ss, List.flatten_append, hfs, List.append_assoc] at h2
        exact h2.append.2.append.1
      have HHS := Lib.hid hhs
      have HFS := Lib.hid hfs
      obtain ⟨m, hm⟩ : ∃ m, (Ss.take j).flatten.length = m := ⟨_, rfl⟩
      rw [hm] at hb1 HHS ⊢
      have HM := Lib.hid hm
      clear hg3 hg4 hx hi' hfs hm hS hhs
      go_wp2_with fail
      refine (heldIntSSW _ _ _ lo (k + m) T _ HI'.out HHS.out hn3 (by omega) (by omega)).mono ?_
      rintro e w1 ⟨rfl, ht1⟩
      have hmm : (Ss.take (j + 1)).flatten.length = m + T.flatten.length := by rw [HFS.out, List.length_append, HM.out]
      have hb := hq.trans (ht1.mono hq.size)
      have hnn : decide (k + (m : Int) + (T.flatten.length : Int) < 0) = false := decide_eq_false (by omega)
      clear ht1 hc
      go_wp2_with fail
      go_roundw
      case rel => exact ⟨j + 1, by omega, by go_num, by rw [hmm]; simp; omega, hb⟩
      case measure => simp [intOf]; omega
    · obtain rfl : n = j := by omega
      have ht : Ss.take n = Ss := List.take_of_length_le (by rw [← HSE.out, List.length_map, HL.out]; omega)
      rw [ht]
      go_wp2_with fail
      go_ret
      exact ⟨rfl, hq⟩
end Go.Proofs.Ytfmdgdamelkelaa
/- spec's anyDiagram and the draws of diagrams. -/
namespace Go.Proofs.Ytfmdgdamelkelaa
open Go.ChangeShapes Go.WideShapes Go.ChangeAt Go.RowKit
open Go.Shelf
set_option linter.unusedVariables false
set_option maxRecDepth 100000
attribute [local go_sem] Oper.semAt_some

theorem OwnD.butG {w w' : World} {base g : Nat} {v : Value} {d : List (List (List Int))} (h : OwnD w base v d) (hb : ButG g w.heap.size w w') (hg : g < base) : OwnD w' base v d := by
  obtain ⟨us, h1, h2, h3, h4⟩ := h
  exact ⟨us, h1, own_butG h2 hb hg, h3, fun i u x hu hx => OwnRows.butG (h4 i u x hu hx) hb hg⟩
theorem OwnD.lays {w : World} {base : Nat} {v : Value} {d : List (List (List Int))} (h : OwnD w base v d) : RowC (RowC (RowC IntC)) w w.heap.size v d := OwnOf.read (fun w base v x hx => OwnOf.read (fun w base v x hx => hx.read) hx) h
theorem own_some {w : World} {B n m c : Nat} {e : TypeId} {A : Option Addr} {xs : List Value} (h : w.ownsRow B e 1 (.slice A n c) m xs) (hm : 0 < m) : ∃ (g : Nat) (cur : Array Value), A = some ⟨g, 0, none⟩ ∧ n = m ∧ TBlk e w g cur ∧ B ≤ g ∧ ∀ (j : Nat) u, xs[j]? = some u → cur[j]? = some u := by
  rcases own_heap h with ⟨-, h0⟩ | ⟨g, cur, e1, e2, hg, hgw, hh, hc⟩
  · omega
  · refine ⟨g, cur, e1, e2, hh, hg, fun j u hu => ?_⟩
    have hj : j < xs.length := (List.getElem?_eq_some_iff.1 hu).1
    rw [hc j (by have := h.1; omega)]
    exact hu
/-- the way to one row. -/
theorem OwnD.site {w : World} {B n c i k : Nat} {A : Option Addr} {d : List (List (List Int))} {es : List (List Int)} {x : List Int} (h : OwnD w B (.slice A n c) d) (hi : d[i]? = some es) (hk : es[k]? = some x) (hx : 0 < x.length) :
    ∃ (b1 b2 gD c2 c3 : Nat) (c1' c2' c3' : Array Value), A = some ⟨b1, 0, none⟩ ∧ TBlk 23 w b1 c1' ∧ TBlk 22 w b2 c2' ∧ TBlk 3 w gD c3' ∧ B ≤ b1 ∧ B ≤ b2 ∧ B ≤ gD ∧ c1'[i]? = some (.slice (some ⟨b2, 0, none⟩) es.length c2) ∧ c2'[k]? = some (.slice (some ⟨gD, 0, none⟩) x.length c3) ∧ ∀ j, j < x.length → ∃ z, c3'[j]? = some (.int .i64 z) := by
  have hil := (List.getElem?_eq_some_iff.1 hi).1
  have hkl := (List.getElem?_eq_some_iff.1 hk).1
  obtain ⟨us, h1, h2, h3, h4⟩ := h
  obtain ⟨b1, c1', rfl, -, t1, g1, f1⟩ := own_some h2 (by omega)
  have hu : us[i]? = some us[i] := List.getElem?_eq_getElem (by omega)
  have q1 := f1 i _ hu
  have k1 := h4 i _ _ hu hi
  obtain ⟨A2, c2, e2⟩ := (OwnOf.read (fun w base v x hx => hx.read) k1 : RowC (RowC IntC) w w.heap.size us[i] es)
  obtain ⟨rs, r1, r2, r3, r4⟩ := k1
  rw [e2.1] at r2 q1
  obtain ⟨b2, c2', rfl, -, t2, g2, f2⟩ := own_some r2 (by omega)
  have hr : rs[k]? = some rs[k] := List.getElem?_eq_getElem (by omega)
  have q2 := f2 k _ hr
  have k2 := r4 k _ _ hr hk
  obtain ⟨A3, c3, e3⟩ := k2.read
  have k3 := k2.1
  rw [e3.1] at k3 q2
  obtain ⟨gD, c3', rfl, -, t3, g3, f3⟩ := own_some k3 hx
  exact ⟨b1, b2, gD, c2, c3, c1', c2', c3', rfl, t1, t2, t3, g1, g2, g3, q1, q2, fun j hj => ⟨x[j], f3 j _ (by rw [List.getElem?_map, List.getElem?_eq_getElem hj]; rfl)⟩⟩
set_option maxHeartbeats 16000000 in
theorem anyDiagram (base g n c p : Nat) (A : Option Addr) (bs : List Int) (w : World) (h : Rd w base g A n c bs p) (hp : p ≤ 700000) :
    Calls Try.prog 68 #[.pointer (some ⟨g, 0, none⟩)] w fun e w' => ∃ (v : Value) (d : List (List (List Int))) (q : Nat), e = .returned v ∧ OwnD w' w.heap.size v d ∧ DgSh d ∧ q ≤ p + 400 ∧ Rd w' base g A n c bs q ∧ ButG g w.heap.size w w' := by
  obtain ⟨i0, hi0, hz0, hz1, hz2⟩ := info_parts info_int
  have hg : g < w.heap.size := (Array.getElem?_eq_some_iff.1 h.block).1
  have hG := Lib.hid hg
  have HC := Lib.hid (constraintAndDomains base g n c p A bs w h hp)
  clear h
  go_enter Try.func68, Try.ntmps68
  go_wp2_with fail
  refine HC.out.mono ?_
  rintro e w6 ⟨vk, vd, kc, ds, q, rfl, hoc, hsm, hod, hd1, hd4, hdr, hq, hr6, hb6⟩
  have hz6 := hb6.size
  obtain ⟨vv', av', rv', rfl, k1, k2, k3⟩ := hoc
  obtain ⟨A1', c1', rfl, -⟩ := k1.read
  obtain ⟨A2', c2', rfl, -⟩ := k2.read
  obtain ⟨A3', c3', rfl, -⟩ := read2 k3
  obtain ⟨Ad, cd, rfl, -⟩ := hod.read
  obtain ⟨wf, hwf⟩ : ∃ wf, wf = w6.alloc (.cells #[.int .i64 kc.kind, .slice A1' kc.vars.length c1', .slice A2' kc.args.length c2', .int .i64 kc.bound, .slice A3' kc.rows.length c3'] 29) := ⟨_, rfl⟩
  have hal : Below w6.heap.size w6 wf := by rw [hwf]; exact b_alloc _ _
  have hT : CBlk wf w6.heap.size (.int .i64 kc.kind) (.slice A1' kc.vars.length c1') (.slice A2' kc.args.length c2') (.int .i64 kc.bound) (.slice A3' kc.rows.length c3') := by rw [hwf]; exact CBlk.new w6 _ _ _ _ _
  obtain ⟨a0, a1, a2, a3, a4⟩ := hT.cells
  have hoC : OwnCon wf w.heap.size (.agg #[.int .i64 kc.kind, .slice A1' kc.vars.length c1', .slice A2' kc.args.length c2', .int .i64 kc.bound, .slice A3' kc.rows.length c3']) kc := OwnCon.below ⟨_, _, _, rfl, k1, k2, k3⟩ hal
  obtain ⟨us, eus, hCR⟩ := hoC.read
  obtain rfl : us = [.int .i64 kc.kind, .slice A1' kc.vars.length c1', .slice A2' kc.args.length c2', .int .i64 kc.bound, .slice A3' kc.rows.length c3'] := by
    injection eus with eus
    exact (congrArg Array.toList eus).symm
  obtain ⟨Ad', cd', ed, hIR⟩ := ((OwnI.stays 3).below _ _ _ _ _ hal hod).read
  injection ed with e1 e2 e3
  subst e1 e3
  have HBD := Lib.hid (sBuildDiagram _ kc Ad ds.length cd ds wf hCR hIR)
  have HB6 := Lib.hid (hb6.go (below_butG hal g))
  have HR6 := Lib.hid (hr6.under hal (by omega))
  have hzf := hal.size
  clear k1 k2 k3 hsm hod hdr hoC hal hb6 hr6 HC hT hCR hIR eus
  go_upto_region 2 with (fail)
  rw [← hwf]
  clear hwf
  go_wp2_with fail
  refine HBD.out.mono ?_
  rintro e w7 ⟨v, rfl, hD, hb7⟩
  clear HBD a0 a1 a2 a3 a4
  have hz7 := hb7.size
  obtain ⟨gss, hA, -⟩ := hD
  have hDO : OwnD w7 w.heap.size v (bdgF kc ds) := (OwnOf.stays (OwnOf.stays (OwnI.stays 3))).base _ _ _ _ _ (show w.heap.size ≤ wf.heap.size by omega) hA.read
  have hDS := bdg_sh kc ds
  obtain ⟨d, hd⟩ : ∃ d, bdgF kc ds = d := ⟨_, rfl⟩
  rw [hd] at hDO hDS
  clear hd hA gss
  have HDO := Lib.hid hDO
  have HDS := Lib.hid hDS
  have HB7 := Lib.hid (HB6.out.go (below_butG hb7 g))
  have HR7 := Lib.hid (HR6.out.under hb7 (by omega))
  obtain ⟨Av, cv, rfl, hLR⟩ := OwnOf.read (fun w base v x hx => OwnOf.read (fun w base v x hx => hx.read) hx) hDO
  have hd4' := hDS.1
  clear hDO hDS hb7 HB6 HR6
  by_cases hdl : 0 < d.length
  · go_wp2_with fail
    refine (pick base g n c q A bs _ w7 HR7.out (by omega)).mono ?_
    rintro e w8 ⟨r, rfl, ⟨-, hr⟩, hd8, hb8⟩
    obtain ⟨r0, r1⟩ := hr (by omega)
    obtain ⟨i, rfl⟩ := Int.eq_ofNat_of_zero_le r0
    have HDO8 := Lib.hid (HDO.out.butG hb8 hG.out)
    have HB8 := Lib.hid (HB7.out.go hb8)
    have HR8 := Lib.hid hd8
    obtain ⟨Av', cv', ev, hL8⟩ := HDO8.out.lays
    injection ev with e1 e2 e3
    subst e1 e3
    obtain ⟨b1, o1, es, u1, rfl, hb1, hes, hc1, A1, c1, rfl, hL1⟩ := SlR.at_ hL8 (show i < d.length by omega)
    have hes3 := HDS.out.2 es (List.mem_of_getElem? hes)
    have HES := Lib.hid hes
    have he1 := hes3.1
    clear hr hd8 hb8 hL8 hes hL1 HDO HB7 HR7 hLR
    go_wp2_with fail
    refine (pick base g n c (q + 1) A bs _ w8 HR8.out (by omega)).mono ?_
    rintro e w9 ⟨r, rfl, ⟨-, hr⟩, hd9, hb9⟩
    obtain ⟨r0, r1⟩ := hr (by omega)
    obtain ⟨k, rfl⟩ := Int.eq_ofNat_of_zero_le r0
    have HDO9 := Lib.hid (HDO8.out.butG hb9 hG.out)
    have HB9 := Lib.hid (HB8.out.go hb9)
    have HR9 := Lib.hid hd9
    clear hr hd9 hb9 HDO8 HB8 HR8 hc1
    go_wp2_with fail
    refine (pick base g n c (q + 1 + 1) A bs 4 w9 HR9.out (by omega)).mono ?_
    rintro e w10 ⟨r, rfl, -, hd10, hb10⟩
    have HDO10 := Lib.hid (HDO9.out.butG hb10 hG.out)
    have HB10 := Lib.hid (HB9.out.go hb10)
    have HR10 := Lib.hid hd10
    clear hd10 hb10 HDO9 HB9 HR9
    by_cases h0 : r = 0
    · subst h0
      obtain ⟨x, hx⟩ : ∃ x, es[k]? = some x := ⟨_, List.getElem?_eq_getElem (by omega)⟩
      have hx6 := hes3.2.2 x (List.mem_of_getElem? hx)
      obtain ⟨e1, e2, gD, c2, c3, q1, q2, q3, eA, t1, t2, t3, g1, g2, g3, f1, f2, f3⟩ := HDO10.out.site HES.out hx (by omega)
      rw [hx6] at f2 f3
      injection eA with eA
      injection eA with eA1 eA2
      subst eA1 eA2
      have hgl := hG.out
      have hz10 := HB10.out.size
      have hne1 : b1 ≠ gD := t1.ne t3 (by decide)
      have hne2 : e2 ≠ gD := t2.ne t3 (by decide)
      have HT := Lib.hid (And.intro t1 (And.intro t2 t3))
      have HF3 := Lib.hid f3
      have hS : ∀ w', ButG g w10.heap.size w10 w' → w'.cell? ⟨b1, i, none⟩ = some (.slice (some ⟨e2, 0, none⟩) es.length c2) ∧ w'.cell? ⟨e2, k, none⟩ = some (.slice (some ⟨gD, 0, none⟩) 6 c3) := fun w' h => ⟨(HT.out.1.butG h (by omega)).at_ i f1, (HT.out.2.1.butG h (by omega)).at_ k f2⟩
      have HS := Lib.hid hS
      have KEY := Lib.hid (fun (W7 : World) (j : Nat) (y : Int) (hj : j < 6) (hB : ButG g w10.heap.size w10 W7) =>
        (show (∃ z, W7.cell? ⟨gD, j, none⟩ = some (.int .i64 z)) ∧ W7.frozen? ⟨gD, j, none⟩ = false ∧ ((W7.setCell ⟨gD, j, none⟩ (.int .i64 y)).cell? ⟨b1, i, none⟩ = some (.slice (some ⟨e2, 0, none⟩) es.length c2) ∧ (W7.setCell ⟨gD, j, none⟩ (.int .i64 y)).cell? ⟨e2, k, none⟩ = some (.slice (some ⟨gD, 0, none⟩) 6 c3)) from by
          have hb7 := HT.out.2.2.butG hB (by omega)
          obtain ⟨z, hz⟩ := HF3.out j hj
          exact ⟨⟨z, hb7.at_ j hz⟩, hb7.frozen j, ((HT.out.1.butG hB (by omega)).far (g := gD) (j := j) (u := .int .i64 y) hne1).at_ i f1, ((HT.out.2.1.butG hB (by omega)).far (g := gD) (j := j) (u := .int .i64 y) hne2).at_ k f2⟩))
      have hbd : ButG g w10.heap.size w10 w10.drew := below_butG (below_drewN (Below.refl _ _) 1) g
      have hS0 := HS.out _ hbd
      have hrd : Rd w10.drew base g A n c bs (q + 1 + 1 + 1) := HR10.out.drewN 1
      have hzd : w10.drew.heap.size = w10.heap.size := rfl
      have hik : i < d.length := by omega
      have hikz : (i : Int) < (d.length : Int) := by omega
      have hkz : (k : Int) < (es.length : Int) := by omega
      clear hS f1 f2 f3 t1 t2 t3 hx
      go_wp2_with fail
      go_region_held3 (fun w' => w'.cell? ⟨b1, i, none⟩ = some (.slice (some ⟨e2, 0, none⟩) es.length c2) ∧ w'.cell? ⟨e2, k, none⟩ = some (.slice (some ⟨gD, 0, none⟩) 6 c3))
        (first | with_reducible exact hS0 | with_reducible assumption)
        (first
          | (go_at_call 61
             refine (pick base g n c (q + 1 + 1 + 1) A bs 6 w10.drew hrd (by omega)).mono ?_
             rintro e W7 ⟨r1, rfl, ⟨-, hr⟩, hd7, hb7⟩
             have hB7 := hbd.go hb7
             have hS7 := HS.out _ hB7
             obtain ⟨r10, r11⟩ := hr (by omega)
             obtain ⟨j, rfl⟩ := Int.eq_ofNat_of_zero_le r10
             have hjn : j < 6 := by omega
             obtain ⟨⟨z7, hz7⟩, hf7, hS8⟩ := KEY.out W7 j (-1) hjn hB7
             clear hr r10))
      all_goals
        have hBk := HT.out.2.2.butG hB7 (show gD ≠ g by omega)
        obtain ⟨d', od, sd⟩ := OwnD.any (j := j) (-1) hBk (HDO10.out.butG hB7 hgl) HDS.out
        have BZ := (HB10.out.go hB7).setHi (b := gD) g3 j (.int .i64 (-1))
        have DZ := hd7.set (b := gD) (by omega) j (.int .i64 (-1))
        have HALL := Lib.hid (And.intro od (And.intro sd (And.intro BZ DZ)))
        obtain ⟨wz, hwz⟩ : ∃ wz, W7.setCell ⟨gD, j, none⟩ (.int .i64 (-1)) = wz := ⟨_, rfl⟩
        rw [hwz] at HALL ⊢
        clear hwz od sd BZ DZ hBk hd7 hB7 hS7 hS8 hz7 hf7 hS0
        go_wp2_with fail
        go_ret
        exact ⟨_, d', q + 1 + 1 + 1 + 1, rfl, HALL.out.1, HALL.out.2.1, by omega, HALL.out.2.2.2, HALL.out.2.2.1⟩
    · by_cases h1 : r = 1
      · subst h1
        obtain ⟨x, hx⟩ : ∃ x, es[k]? = some x := ⟨_, List.getElem?_eq_getElem (by omega)⟩
        have hx6 := hes3.2.2 x (List.mem_of_getElem? hx)
        obtain ⟨e1, e2, gD, c2, c3, q1, q2, q3, eA, t1, t2, t3, g1, g2, g3, f1, f2, f3⟩ := HDO10.out.site HES.out hx (by omega)
        rw [hx6] at f2 f3
        injection eA with eA
        injection eA with eA1 eA2
        subst eA1 eA2
        have hgl := hG.out
        have hz10 := HB10.out.size
        have hne1 : b1 ≠ gD := t1.ne t3 (by decide)
        have hne2 : e2 ≠ gD := t2.ne t3 (by decide)
        have HT := Lib.hid (And.intro t1 (And.intro t2 t3))
        have HF3 := Lib.hid f3
        have hS : ∀ w', ButG g w10.heap.size w10 w' → w'.cell? ⟨b1, i, none⟩ = some (.slice (some ⟨e2, 0, none⟩) es.length c2) ∧ w'.cell? ⟨e2, k, none⟩ = some (.slice (some ⟨gD, 0, none⟩) 6 c3) := fun w' h => ⟨(HT.out.1.butG h (by omega)).at_ i f1, (HT.out.2.1.butG h (by omega)).at_ k f2⟩
        have HS := Lib.hid hS
        have KEY := Lib.hid (fun (W7 : World) (j : Nat) (y : Int) (hj : j < 6) (hB : ButG g w10.heap.size w10 W7) =>
          (show (∃ z, W7.cell? ⟨gD, j, none⟩ = some (.int .i64 z)) ∧ W7.frozen? ⟨gD, j, none⟩ = false ∧ ((W7.setCell ⟨gD, j, none⟩ (.int .i64 y)).cell? ⟨b1, i, none⟩ = some (.slice (some ⟨e2, 0, none⟩) es.length c2) ∧ (W7.setCell ⟨gD, j, none⟩ (.int .i64 y)).cell? ⟨e2, k, none⟩ = some (.slice (some ⟨gD, 0, none⟩) 6 c3)) from by
            have hb7 := HT.out.2.2.butG hB (by omega)
            obtain ⟨z, hz⟩ := HF3.out j hj
            exact ⟨⟨z, hb7.at_ j hz⟩, hb7.frozen j, ((HT.out.1.butG hB (by omega)).far (g := gD) (j := j) (u := .int .i64 y) hne1).at_ i f1, ((HT.out.2.1.butG hB (by omega)).far (g := gD) (j := j) (u := .int .i64 y) hne2).at_ k f2⟩))
        have hbd : ButG g w10.heap.size w10 w10.drew := below_butG (below_drewN (Below.refl _ _) 1) g
        have hS0 := HS.out _ hbd
        have hrd : Rd w10.drew base g A n c bs (q + 1 + 1 + 1) := HR10.out.drewN 1
        have hzd : w10.drew.heap.size = w10.heap.size := rfl
        have hik : i < d.length := by omega
        have hikz : (i : Int) < (d.length : Int) := by omega
        have hkz : (k : Int) < (es.length : Int) := by omega
        clear hS f1 f2 f3 t1 t2 t3 hx
        have hbA : ButG g w10.heap.size w10 (w10.drew.alloc (.cells #[.int .i64 0, .int .i64 7, .int .i64 (-2)] 3)) := hbd.go (below_butG (b_alloc _ _) g)
        have hSA := HS.out _ hbA
        have hrA : Rd (w10.drew.alloc (.cells #[.int .i64 0, .int .i64 7, .int .i64 (-2)] 3)) base g A n c bs (q + 1 + 1 + 1) := hrd.under (b_alloc _ _) (by omega)
        have hTL : TBlk 3 (w10.drew.alloc (.cells #[.int .i64 0, .int .i64 7, .int .i64 (-2)] 3)) w10.heap.size (ints [0, 7, -2]) := TBlk.new _ _ _
        go_wp2_with fail
        go_region_held3 (fun w' => w'.cell? ⟨b1, i, none⟩ = some (.slice (some ⟨e2, 0, none⟩) es.length c2) ∧ w'.cell? ⟨e2, k, none⟩ = some (.slice (some ⟨gD, 0, none⟩) 6 c3))
          (first | with_reducible exact hS0 | with_reducible exact hSA | with_reducible assumption | exact hSA)
          (first
            | (go_at_call 61
               first
                 | (refine (pick base g n c (q + 1 + 1 + 1) A bs 6 w10.drew hrd (by omega)).mono ?_
                    rintro e W6 ⟨r1, rfl, ⟨-, hr⟩, hd6, hb6⟩
                    have hB6 := hbd.go hb6
                    have hS6 := HS.out _ hB6
                    have hBL : ButG g w10.heap.size w10 (W6.alloc (.cells #[.int .i64 0, .int .i64 7, .int .i64 (-2)] 3)) := hB6.go (below_butG (b_alloc _ _) g)
                    have hSL := HS.out _ hBL
                    have hzW := hB6.size
                    have hdL : Rd (W6.alloc (.cells #[.int .i64 0, .int .i64 7, .int .i64 (-2)] 3)) base g A n c bs (q + 1 + 1 + 1 + 1) := hd6.under (b_alloc _ _) (by omega)
                    have hTl : TBlk 3 (W6.alloc (.cells #[.int .i64 0, .int .i64 7, .int .i64 (-2)] 3)) W6.heap.size (ints [0, 7, -2]) := TBlk.new _ _ _
                    obtain ⟨r10, r11⟩ := hr (by omega)
                    obtain ⟨j, rfl⟩ := Int.eq_ofNat_of_zero_le r10
                    have hjn : j < 6 := by omega
                    clear hr r10)
                 | (refine (pick base g n c (q + 1 + 1 + 1) A bs 6 (w10.drew.alloc (.cells #[.int .i64 0, .int .i64 7, .int .i64 (-2)] 3)) hrA (by omega)).mono ?_
                    rintro e W6 ⟨r1, rfl, ⟨-, hr⟩, hd6, hb6⟩
                    have hB6 := hbA.go hb6
                    have hS6 := HS.out _ hB6
                    have hzW := hB6.size
                    have hTl := hTL.butG hb6 (show w10.heap.size ≠ g by omega)
                    obtain ⟨r10, r11⟩ := hr (by omega)
                    obtain ⟨j, rfl⟩ := Int.eq_ofNat_of_zero_le r10
                    have hjn : j < 6 := by omega
                    clear hr r10))
            | (go_at_call 111
               first
                 | (refine (one base g n c (q + 1 + 1 + 1 + 1) W6.heap.size 3 3 A bs [0, 7, -2] (W6.alloc (.cells #[.int .i64 0, .int .i64 7, .int .i64 (-2)] 3)) hdL (by omega) rfl (by omega) (by omega) (by omega) hTl.lt (fun i x hx => hTl.at_ i (ints_at hx))).mono ?_
                    rintro e W7 ⟨y1, rfl, -, hd7, hb7⟩
                    have hB7 := hBL.go hb7
                    have hS7 := HS.out _ hB7
                    obtain ⟨⟨z7, hz7⟩, hf7, hS8⟩ := KEY.out W7 j y1 hjn hB7)
                 | (refine (one base g n c (q + 1 + 1 + 1 + 1) w10.heap.size 3 3 A bs [0, 7, -2] W6 hd6 (by omega) rfl (by omega) (by omega) (by omega) hTl.lt (fun i x hx => hTl.at_ i (ints_at hx))).mono ?_
                    rintro e W7 ⟨y1, rfl, -, hd7, hb7⟩
                    have hB7 := hB6.go hb7
                    have hS7 := HS.out _ hB7
                    obtain ⟨⟨z7, hz7⟩, hf7, hS8⟩ := KEY.out W7 j y1 hjn hB7)))
        all_goals
          have hBk := HT.out.2.2.butG hB7 (show gD ≠ g by omega)
          obtain ⟨d', od, sd⟩ := OwnD.any (j := j) (y1) hBk (HDO10.out.butG hB7 hgl) HDS.out
          have BZ := (HB10.out.go hB7).setHi (b := gD) g3 j (.int .i64 (y1))
          have DZ := hd7.set (b := gD) (by omega) j (.int .i64 (y1))
          have HALL := Lib.hid (And.intro od (And.intro sd (And.intro BZ DZ)))
          obtain ⟨wz, hwz⟩ : ∃ wz, W7.setCell ⟨gD, j, none⟩ (.int .i64 (y1)) = wz := ⟨_, rfl⟩
          rw [hwz] at HALL ⊢
          clear hwz od sd BZ DZ hBk hd7 hB7 hS7 hS8 hz7 hf7 hS0
          go_wp2_with fail
          go_ret
          exact ⟨_, d', q + 1 + 1 + 1 + 1 + 1, rfl, HALL.out.1, HALL.out.2.1, by omega, HALL.out.2.2.2, HALL.out.2.2.1⟩
      · have t0 : (r == 0) = false := by simpa using h0
        have t1 : (r == 1) = false := by simpa using h1
        go_wp2_with fail
        go_ret
        exact ⟨_, d, q + 1 + 1 + 1, rfl, HDO10.out, HDS.out, by omega, HR10.out, HB10.out⟩
  · go_wp2_with fail
    go_ret
    exact ⟨_, d, q, rfl, HDO.out, HDS.out, by omega, HR7.out, HB7.out⟩
end Go.Proofs.Ytfmdgdamelkelaa
/- spec's draws of diagrams: DrawDiagramCount, DrawDiagramAccepts. -/
namespace Go.Proofs.Ytfmdgdamelkelaa
open Go.ChangeShapes Go.WideShapes Go.ChangeAt Go.RowKit
open Go.Shelf
set_option linter.unusedVariables false
set_option maxRecDepth 100000
attribute [local go_sem] Oper.semAt_some

theorem drawDiagramCount (A : Option Addr) (n c : Nat) (bs : List Int) (w : World) (h : CodeA w w.heap.size A n c bs) :
    Calls Try.prog 37 #[.slice A n c] w fun e w' => ∃ (v : Value) (d : List (List (List Int))), e = .returned v ∧ OwnD w' w.heap.size v d ∧ DgSh d ∧ Below w.heap.size w w' := by
  have HN := newReader A n c bs w h
  clear h
  go_enter Try.func37, Try.ntmps37
  go_wp2_with fail
  refine HN.mono ?_
  rintro e w1 ⟨g, m, c', bs', rfl, hr, hb1, hg⟩
  have hbase := hr.base_le
  have hz1 := hb1.size
  go_wp2_with fail
  refine (anyDiagram _ g m c' 0 A bs' w1 hr (by omega)).mono ?_
  rintro e w2 ⟨v, d, q, rfl, ho, hs, hq, hr2, hb2⟩
  go_wp2_with fail
  go_ret
  have hb12 := hb2.below hbase hb1.size
  have hb := hb1.trans (hb12.mono (by omega))
  exact ⟨v, d, rfl, (OwnOf.stays (OwnOf.stays (OwnI.stays 3))).base _ _ _ _ _ (show w.heap.size ≤ w1.heap.size by omega) ho, hs, hb⟩
theorem drawDiagramAccepts (A : Option Addr) (n c : Nat) (bs : List Int) (w : World) (h : CodeA w w.heap.size A n c bs) :
    Calls Try.prog 30 #[.slice A n c] w fun e w' => ∃ (v vx : Value) (d : List (List (List Int))) (xs : List Int), e = .returned (.tuple #[v, vx]) ∧ OwnD w' w.heap.size v d ∧ DgSh d ∧ xs.length = d.length ∧ InM 6 xs ∧ OwnI 3 w' w.heap.size vx xs ∧ Below w.heap.size w w' := by
  have HN := newReader A n c bs w h
  clear h
  go_enter Try.func30, Try.ntmps30
  go_wp2_with fail
  refine HN.mono ?_
  rintro e w1 ⟨g, m, c', bs', rfl, hr, hb1, hg⟩
  have hbase := hr.base_le
  have hz1 := hb1.size
  go_wp2_with fail
  refine (anyDiagram _ g m c' 0 A bs' w1 hr (by omega)).mono ?_
  rintro e w2 ⟨v, d, q, rfl, ho, hs, hq, hr2, hb2⟩
  obtain ⟨Av, cv, rfl, -⟩ := ho.lays
  have hs4 := hs.1
  have HO := Lib.hid ho
  have HS := Lib.hid hs
  have HB := Lib.hid hb2
  have hz2 := hb2.size
  clear ho hs hb2
  go_wp2_with fail
  refine (randomRow _ g m c' q A bs' d.length w2 hr2 (by omega) (by omega)).mono ?_
  rintro e w3 ⟨vx, xs, rfl, hvn, hxl, hxm, hxo, hr3, hb3⟩
  have hO3 := HO.out.butG hb3 hg
  have hB3 := HB.out.go hb3
  have hb12 := hB3.below hbase hb1.size
  have hb := hb1.trans (hb12.mono (by omega))
  have hox : OwnI 3 w3 w2.heap.size vx xs := ⟨by rw [hxl]; exact hxo, by omega⟩
  obtain ⟨Ax, cx, rfl, -⟩ := hox.read
  clear hxo hr3 hb3 hvn
  go_wp2_with fail
  refine bodyPost_ret (v := .tuple #[.slice Av d.length cv, .slice Ax d.length cx]) (by simp [results, Try.results30, go_sem]) rfl ?_
  exact ⟨_, _, d, xs, by rw [← hxl], (OwnOf.stays (OwnOf.stays (OwnI.stays 3))).base _ _ _ _ _ (show w.heap.size ≤ w1.heap.size by omega) hO3, HS.out, hxl, hxm, (OwnI.stays 3).base _ _ _ _ _ (show w.heap.size ≤ w2.heap.size by omega) hox, hb⟩
end Go.Proofs.Ytfmdgdamelkelaa
