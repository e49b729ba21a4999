/- What is drawn for Filter: a constraint and domains. -/
import Derived.Test.YtejfnkbdmlijbaaDrawG
namespace Go.Proofs.Ytejfnkbdmlijbaa
open Go.ChangeShapes Go.WideShapes Go.ChangeAt Go.RowKit
open Go.Shelf
set_option linter.unusedVariables false
set_option linter.unusedSimpArgs false
set_option maxRecDepth 100000

theorem OwnI.laid5 {w : World} {B R : Nat} {v : Value} {xs : List Int} {x0 x1 x2 x3 x4 : Value} {zs : Array Value} (h : OwnI 3 w B v xs) (hr : TBlk 35 w R zs) (hz : zs.size = 5) {wf : World}
    (hf : wf = ((((w.setCell ⟨R, 0, none⟩ x0).setCell ⟨R, 1, none⟩ x1).setCell ⟨R, 2, none⟩ x2).setCell ⟨R, 3, none⟩ x3).setCell ⟨R, 4, none⟩ x4) : OwnI 3 wf B v xs := by
  have t1 := hr.store 0 x0
  have s1 := OwnI.shuns (t := 35) (by decide) _ _ _ _ _ 0 _ _ x0 hr h
  have t2 := t1.store 1 x1
  have s2 := OwnI.shuns (t := 35) (by decide) _ _ _ _ _ 1 _ _ x1 t1 s1
  have t3 := t2.store 2 x2
  have s3 := OwnI.shuns (t := 35) (by decide) _ _ _ _ _ 2 _ _ x2 t2 s2
  have t4 := t3.store 3 x3
  have s4 := OwnI.shuns (t := 35) (by decide) _ _ _ _ _ 3 _ _ x3 t3 s3
  subst hf
  exact OwnI.shuns (t := 35) (by decide) _ _ _ _ _ 4 _ _ x4 t4 s4
/-- drawn domains. -/
def DrD (xs : List Int) : Prop := ∀ x ∈ xs, -1 ≤ x ∧ x ≤ 255
theorem DrD.snoc {x : Int} {xs : List Int} (h : DrD xs) (hx : -1 ≤ x ∧ x ≤ 255) : DrD (xs ++ [x]) := fun y hy => by
  rcases List.mem_append.1 hy with h1 | h1
  · exact h y h1
  · rw [List.mem_singleton.1 h1]; exact hx
theorem DrD.set {x : Int} {xs : List Int} (h : DrD xs) (hx : -1 ≤ x ∧ x ≤ 255) (k : Nat) : DrD (xs.set k x) := fun y hy => by
  rcases List.mem_or_eq_of_mem_set hy with h1 | h1
  · exact h y h1
  · rw [h1]; exact hx
set_option maxHeartbeats 16000000 in
theorem constraintAndDomains (base g n c p : Nat) (A : Option Addr) (bs : List Int) (w : World) (h : Rd w base g A n c bs p) (hp : p ≤ 700000) :
    Calls Try.prog 60 #[.pointer (some ⟨g, 0, none⟩)] w fun e w' => ∃ (vk vd : Value) (k : Con) (ds : List Int) (q : Nat), e = .returned (.tuple #[vk, vd]) ∧ OwnCon w' w.heap.size vk k ∧ SmD k ∧ OwnI 3 w' w.heap.size vd ds ∧ 1 ≤ ds.length ∧ ds.length ≤ 4 ∧ DrD ds ∧ q ≤ p + 300 ∧ Rd w' base g A n c bs q ∧ ButG g w.heap.size w w' := by
  obtain ⟨i0, hi0, hz0, hz1, hz2⟩ := info_parts info_int
  have hg : g < w.heap.size := (Array.getElem?_eq_some_iff.1 h.block).1
  have hG := Lib.hid hg
  obtain ⟨wa, hwa⟩ : ∃ wa, wa = w.alloc (.cells #[.int .i64 0, .slice none 0 0, .slice none 0 0, .int .i64 0, .slice none 0 0] 35) := ⟨_, rfl⟩
  have hba : Below w.heap.size w wa := by rw [hwa]; exact b_alloc _ _
  have hza : wa.heap.size = w.heap.size + 1 := by rw [hwa, size_alloc_]
  have HT : Hid (TBlk 35 wa w.heap.size #[.int .i64 0, .slice none 0 0, .slice none 0 0, .int .i64 0, .slice none 0 0]) := by rw [hwa]; exact TBlk.new _ _ _
  have HD := Lib.hid (h.under hba hg)
  have HBA := Lib.hid hba
  clear h hba
  go_enter Try.func60, Try.ntmps60
  go_wp2_with fail
  rw [← hwa]
  clear hwa
  refine (pick base g n c p A bs 4 wa HD.out (by omega)).mono ?_
  rintro e w1 ⟨r, rfl, ⟨-, hr⟩, hd1, hb1⟩
  obtain ⟨r0, r1⟩ := hr (by omega)
  obtain ⟨k0, rfl⟩ := Int.eq_ofNat_of_zero_le r0
  have hwr : IntKind.i64.wrap (1 + (k0 : Int)) = ((k0 + 1 : Nat) : Int) := by rw [IntKind.wrap_i64]; omega
  have HT1 := HT.out.butG hb1 (by omega)
  have HB1 := (below_butG HBA.out g).go hb1
  have hz1' := hb1.size
  clear hr
  have ho : (w1.alloc (.cells #[] 3)).ownsRow w1.heap.size 3 1 (.slice (some ⟨w1.heap.size, 0, none⟩) 0 0) 0 (([] : List Int).map (.int .i64)) := World.ownsRow_lit w1 #[] 0 (Nat.le_refl _) (by decide) rfl
  have hb0 : ButG g w.heap.size w (w1.alloc (.cells #[] 3)) := HB1.go (below_butG (b_alloc _ _) g)
  have hr0 : Rd (w1.alloc (.cells #[] 3)) base g A n c bs (p + 1) := hd1.under (b_alloc _ _) (by omega)
  have HT2 := Lib.hid (HT1.below_ (b_alloc w1 (.cells #[] 3)) HT1.lt)
  clear hd1 HT1 HB1 hb1 HT HD HBA
  go_wp2_with fail
  go_loopw [5, 6] (fun v i wr => ∃ (k q : Nat) (v' : Value) (xs : List Int), k ≤ k0 + 1 ∧ i = .int .i64 k ∧ v' = v ∧ Hid (xs.length = k) ∧ Hid (DrD xs) ∧ Hid (wr.ownsRow w1.heap.size 3 1 v' k (xs.map (.int .i64))) ∧ q ≤ p + 1 + 3 * k ∧ Rd wr base g A n c bs q ∧ ButG g w.heap.size w wr ∧ Hid (TBlk 35 wr w.heap.size #[.int .i64 0, .slice none 0 0, .slice none 0 0, .int .i64 0, .slice none 0 0]) ∧ w1.heap.size ≤ wr.heap.size) (fun _ i _ => (k0 + 1) - (intOf i).toNat)
  case atStart => exact ⟨0, p + 1, _, [], by omega, rfl, rfl, Lib.hid rfl, Lib.hid (fun _ h => by simp at h), ho, by omega, hr0, hb0, HT2, le_alloc _ _⟩
  case round =>
    obtain ⟨k, q, v, xs, hk, rfl, rfl, hl, hdm, hq, hqp, hr, hb, ht, hzr⟩ := hrel
    clear ho hb0 hr0 HT2
    rename World => wr
    by_cases hlt : k < k0 + 1
    · go_wp2_with fail
      refine (randomDomain base g n c q A bs wr hr (by omega)).mono ?_
      rintro e w2 ⟨x, q2, rfl, hx, hq2, hr2, hb2⟩
      have hq3 := own_butG hq.out hb2 (by have := hG.out; omega)
      have hb3 := hb.go hb2
      have ht3 := ht.out.butG hb2 (by have := hG.out; omega)
      have hs2 := hb2.size
      clear hq ht hr hb2
      go_wp2_with (at_builtin; refine wpList_append_own _ rfl _ _ 23 rfl w1.heap.size 3 i0 _ 1 8 Try.underlying23 hi0 hz0 hz1 hz2 rfl (by decide) v _ _ rfl (hq3.alloc _) ⟨w2.heap.size, 0, none⟩ 1 1 [.int .i64 x] rfl rfl (cell_one_new _ _ _) (by simp [Value.oneCell']) (by unfold maxLen; omega) (by omega) (by rw [size_alloc_]; omega) ?_; intro v1 w3 hown hgr _)
      have hr0 := hq3.lt
      have hbw : Below w1.heap.size w2 w3 := ((Below.refl _ _).alloc (by omega) _).grown hgr (by rw [size_alloc_]; omega) (fun g hg => (hr0 g hg).1)
      have hown2 : w3.ownsRow w1.heap.size 3 1 v1 (k + 1) ((xs ++ [x]).map (.int .i64)) := by simpa using hown
      clear hown hgr
      go_roundw
      case rel => exact ⟨k + 1, q2, v1, xs ++ [x], by omega, by go_num, rfl, Lib.hid (by rw [List.length_append, hl.out]; rfl), Lib.hid (hdm.out.snoc (by omega)), hown2, by omega, hr2.under hbw (by have := hG.out; omega), hb3.trans (below_butG (hbw.mono (by omega)) g), Lib.hid (ht3.below_ hbw (by omega)), by have := hbw.size; omega⟩
      case measure => simp [intOf]; omega
    · obtain rfl : k = k0 + 1 := by omega
      obtain ⟨B, d, rfl, -⟩ := IntR.of_own hq.out (by omega)
      go_wp2_with fail
      refine (pick base g n c q A bs 14 wr hr (by omega)).mono ?_
      rintro e w2 ⟨r2, rfl, -, hr2, hb2⟩
      have hq2 := own_butG hq.out hb2 (by have := hG.out; omega)
      have hb3 := hb.go hb2
      have ht3 := ht.out.butG hb2 (by have := hG.out; omega)
      have hs2 := hb2.size
      have hgl := hG.out
      clear hq ht hr hb2
      by_cases h0 : r2 = 0
      · subst h0
        obtain ⟨gd, rfl, hgd⟩ : ∃ gd : Nat, B = some ⟨gd, 0, none⟩ ∧ w1.heap.size ≤ gd := by
          rcases hq2.2 with ⟨_, h6⟩ | ⟨gd, cap, cur, hv, hgd, -⟩
          · omega
          · injection hv with e1 _ _
            exact ⟨gd, e1, hgd⟩
        have HQ2 := Lib.hid hq2
        clear hq2
        go_wp2_with fail
        refine (anyDomain base g n c (q + 1) A bs w2 hr2 (by omega)).mono ?_
        rintro e w3 ⟨x, q3, rfl, hx, hq3, hr3, hbq3⟩
        have hq4 := own_butG HQ2.out hbq3 (by omega)
        have hb4 := hb3.go hbq3
        have ht4 := ht3.butG hbq3 (by omega)
        have hs3 := hbq3.size
        have hco := hq4.cellAt 0 (by omega)
        obtain ⟨z, hz⟩ : ∃ z, xs[0]? = some z := ⟨_, List.getElem?_eq_getElem (by rw [hl.out]; omega)⟩
        rw [List.getElem?_map, hz] at hco
        simp only [Option.map_some] at hco
        have hfo := hq4.frozenAt 0
        have hst := (hq4.stored 0 (.int .i64 x)).1
        have hgR : gd ≠ w.heap.size := by omega
        have HT5 := Lib.hid (ht4.far (g := gd) (j := 0) (u := .int .i64 x) (by omega))
        have HB5 := Lib.hid (hb4.setHi (b := gd) (by omega) 0 (.int .i64 x))
        have HR5 := Lib.hid (hr3.set (b := gd) (by omega) 0 (.int .i64 x))
        have HO5 := Lib.hid (show OwnI 3 (w3.setCell ⟨gd, 0, none⟩ (.int .i64 x)) w1.heap.size (.slice (some ⟨gd, 0, none⟩) (k0 + 1) d) (xs.set 0 x) from ⟨by rw [List.length_set, hl.out, List.map_set]; exact hst, by rw [List.length_set, hl.out]; omega⟩)
        have hz5 : (w3.setCell ⟨gd, 0, none⟩ (.int .i64 x)).heap.size = w3.heap.size := by simp
        clear hq4 hb4 ht4 hst hr3 hbq3 HQ2 hr2 hz
        go_wp2_with fail
        obtain ⟨w5, hw5⟩ : ∃ w5, w3.setCell ⟨gd, 0, none⟩ (.int .i64 x) = w5 := ⟨_, rfl⟩
        rw [hw5] at HT5 HB5 HR5 HO5 hz5 ⊢
        clear hw5 hco hfo
        refine (anyConstraint base g n c q3 A bs (k0 + 1) w5 HR5.out (by omega) (by omega) (by omega)).mono ?_
        rintro e w6 ⟨vk, kc, q6, rfl, hoc, hsm, hq6, hr6, hb6⟩
        have hz6 := hb6.size
        have HT6 := HT5.out.butG hb6 (by omega)
        have HB6 := HB5.out.go hb6
        have HO6 := (HO5.out).butG hb6 (by omega)
        obtain ⟨vv', av', rv', rfl, k1, k2, k3⟩ := hoc
        obtain ⟨A1', c1', rfl, -⟩ := k1.read
        obtain ⟨A2', c2', rfl, -⟩ := k2.read
        obtain ⟨A3', c3', rfl, -⟩ := read2 k3
        have y0 := HT6.at_ 0 rfl
        have y1 := HT6.at_ 1 rfl
        have y2 := HT6.at_ 2 rfl
        have y3 := HT6.at_ 3 rfl
        have y4 := HT6.at_ 4 rfl
        have f0 := HT6.frozen 0
        have f1 := HT6.frozen 1
        have f2 := HT6.frozen 2
        have f3 := HT6.frozen 3
        have f4 := HT6.frozen 4
        obtain ⟨wf, hwf⟩ : ∃ wf, wf = (((((w6.setCell ⟨w.heap.size, 0, none⟩ (.int .i64 kc.kind)).setCell ⟨w.heap.size, 1, none⟩ (.slice A1' kc.vars.length c1')).setCell ⟨w.heap.size, 2, none⟩ (.slice A2' kc.args.length c2')).setCell ⟨w.heap.size, 3, none⟩ (.int .i64 kc.bound)).setCell ⟨w.heap.size, 4, none⟩ (.slice A3' kc.rows.length c3')) := ⟨_, rfl⟩
        have hF := Lib.hid (And.intro (OwnI.laid5 HO6 HT6 rfl hwf) (OwnCon.laid (OwnCon.base_ (show OwnCon w6 _ _ kc from ⟨_, _, _, rfl, k1, k2, k3⟩) (show w.heap.size ≤ _ by omega)) HT6 rfl hr6 hG.out (Nat.le_refl _) HB6 hwf))
        have HWF := Lib.hid hwf
        clear hwf
        have HN := Lib.hid (And.intro hsm (hdm.out.set hx 0))
        clear k1 k2 k3 HT6 HB6 HO6 hr6 hb6 hsm
        go_wp2_with fail
        rw [← HWF.out]
        obtain ⟨hod, ⟨t0, t1, t2, t3, t4⟩, ho, hrd, hbf⟩ := hF.out
        refine bodyPost_ret (v := .tuple #[.agg #[.int .i64 kc.kind, .slice A1' kc.vars.length c1', .slice A2' kc.args.length c2', .int .i64 kc.bound, .slice A3' kc.rows.length c3'], .slice (some ⟨gd, 0, none⟩) (k0 + 1) d]) ?_ rfl ?_
        · simp [results, Try.results60, go_sem, t0, t1, t2, t3, t4]
        · exact ⟨_, _, _, _, _, rfl, ho, HN.out.1, (OwnI.stays 3).base _ _ _ _ _ (show w.heap.size ≤ w1.heap.size by omega) hod, by have := (show (xs.set 0 x).length = k0 + 1 by rw [List.length_set, hl.out]); omega, by have := (show (xs.set 0 x).length = k0 + 1 by rw [List.length_set, hl.out]); omega, HN.out.2, by omega, hrd, hbf⟩
      have n0 : (r2 == 0) = false := by simpa using h0
      have HO5 := Lib.hid (show OwnI 3 w2 w1.heap.size (.slice B (k0 + 1) d) xs from ⟨by rw [hl.out]; exact hq2, by rw [hl.out]; omega⟩)
      have HT5 := Lib.hid ht3
      have HB5 := Lib.hid hb3
      have HR5 := Lib.hid hr2
      clear hq2 ht3 hb3 hr2
      go_wp2_with fail
      refine (anyConstraint base g n c (q + 1) A bs (k0 + 1) w2 HR5.out (by omega) (by omega) (by omega)).mono ?_
      rintro e w6 ⟨vk, kc, q6, rfl, hoc, hsm, hq6, hr6, hb6⟩
      have hz6 := hb6.size
      have HT6 := HT5.out.butG hb6 (by omega)
      have HB6 := HB5.out.go hb6
      have HO6 := (HO5.out).butG hb6 (by omega)
      obtain ⟨vv', av', rv', rfl, k1, k2, k3⟩ := hoc
      obtain ⟨A1', c1', rfl, -⟩ := k1.read
      obtain ⟨A2', c2', rfl, -⟩ := k2.read
      obtain ⟨A3', c3', rfl, -⟩ := read2 k3
      have y0 := HT6.at_ 0 rfl
      have y1 := HT6.at_ 1 rfl
      have y2 := HT6.at_ 2 rfl
      have y3 := HT6.at_ 3 rfl
      have y4 := HT6.at_ 4 rfl
      have f0 := HT6.frozen 0
      have f1 := HT6.frozen 1
      have f2 := HT6.frozen 2
      have f3 := HT6.frozen 3
      have f4 := HT6.frozen 4
      obtain ⟨wf, hwf⟩ : ∃ wf, wf = (((((w6.setCell ⟨w.heap.size, 0, none⟩ (.int .i64 kc.kind)).setCell ⟨w.heap.size, 1, none⟩ (.slice A1' kc.vars.length c1')).setCell ⟨w.heap.size, 2, none⟩ (.slice A2' kc.args.length c2')).setCell ⟨w.heap.size, 3, none⟩ (.int .i64 kc.bound)).setCell ⟨w.heap.size, 4, none⟩ (.slice A3' kc.rows.length c3')) := ⟨_, rfl⟩
      have hF := Lib.hid (And.intro (OwnI.laid5 HO6 HT6 rfl hwf) (OwnCon.laid (OwnCon.base_ (show OwnCon w6 _ _ kc from ⟨_, _, _, rfl, k1, k2, k3⟩) (show w.heap.size ≤ _ by omega)) HT6 rfl hr6 hG.out (Nat.le_refl _) HB6 hwf))
      have HWF := Lib.hid hwf
      clear hwf
      have HN := Lib.hid (And.intro hsm (hdm.out))
      clear k1 k2 k3 HT6 HB6 HO6 hr6 hb6 hsm
      go_wp2_with fail
      rw [← HWF.out]
      obtain ⟨hod, ⟨t0, t1, t2, t3, t4⟩, ho, hrd, hbf⟩ := hF.out
      refine bodyPost_ret (v := .tuple #[.agg #[.int .i64 kc.kind, .slice A1' kc.vars.length c1', .slice A2' kc.args.length c2', .int .i64 kc.bound, .slice A3' kc.rows.length c3'], .slice B (k0 + 1) d]) ?_ rfl ?_
      · simp [results, Try.results60, go_sem, t0, t1, t2, t3, t4]
      · exact ⟨_, _, _, _, _, rfl, ho, HN.out.1, (OwnI.stays 3).base _ _ _ _ _ (show w.heap.size ≤ w1.heap.size by omega) hod, by have := hl.out; omega, by have := hl.out; omega, HN.out.2, by omega, hrd, hbf⟩
set_option maxHeartbeats 8000000 in
theorem drawFilter (A : Option Addr) (n c : Nat) (bs : List Int) (w : World) (h : CodeA w w.heap.size A n c bs) :
    Calls Try.prog 21 #[.slice A n c] w fun e w' => ∃ (vk vd : Value) (k : Con) (ds : List Int), e = .returned (.tuple #[vk, vd]) ∧ OwnCon w' w.heap.size vk k ∧ SmD k ∧ OwnI 3 w' w.heap.size vd ds ∧ 1 ≤ ds.length ∧ ds.length ≤ 4 ∧ DrD ds ∧ Below w.heap.size w w' := by
  obtain ⟨wa, hwa⟩ : ∃ wa, wa = w.alloc (.cells #[.int .i64 0, .slice none 0 0, .slice none 0 0, .int .i64 0, .slice none 0 0] 35) := ⟨_, rfl⟩
  have hba : Below w.heap.size w wa := by rw [hwa]; exact b_alloc _ _
  have hza : wa.heap.size = w.heap.size + 1 := by rw [hwa, size_alloc_]
  have HT : Hid (TBlk 35 wa w.heap.size #[.int .i64 0, .slice none 0 0, .slice none 0 0, .int .i64 0, .slice none 0 0]) := by rw [hwa]; exact TBlk.new _ _ _
  have HN := newReader A n c bs wa ⟨SlA.on ByteC.keeps ByteC.widens h.1 hba, h.2⟩
  have HBA := Lib.hid hba
  clear h hba
  go_enter Try.func21, Try.ntmps21
  go_wp2_with fail
  rw [← hwa]
  clear hwa
  refine HN.mono ?_
  rintro e w1 ⟨g, m, c', bs', rfl, hr, hb1, hg⟩
  have hbase := hr.base_le
  have HT1 := Lib.hid (HT.out.below_ hb1 HT.out.lt)
  have hz1 := hb1.size
  go_wp2_with fail
  refine (constraintAndDomains _ g m c' 0 A bs' w1 hr (by omega)).mono ?_
  rintro e w6 ⟨vk, vd, kc, ds, q, rfl, hoc, hsm, hod, hd1, hd4, hdr, hq, hr6, hb6⟩
  have hb16 := hb6.below hbase hb1.size
  have HB6 := (bgo HBA.out hb1).trans (hb16.mono (by omega))
  have HT6 := HT1.out.butG hb6 (by omega)
  have hz6 := hb6.size
  obtain ⟨vv', av', rv', rfl, k1, k2, k3⟩ := hoc
  obtain ⟨A1', c1', rfl, -⟩ := k1.read
  obtain ⟨A2', c2', rfl, -⟩ := k2.read
  obtain ⟨A3', c3', rfl, -⟩ := read2 k3
  obtain ⟨Ad, cd, rfl, -⟩ := hod.read
  have y0 := HT6.at_ 0 rfl
  have y1 := HT6.at_ 1 rfl
  have y2 := HT6.at_ 2 rfl
  have y3 := HT6.at_ 3 rfl
  have y4 := HT6.at_ 4 rfl
  have f0 := HT6.frozen 0
  have f1 := HT6.frozen 1
  have f2 := HT6.frozen 2
  have f3 := HT6.frozen 3
  have f4 := HT6.frozen 4
  obtain ⟨wf, hwf⟩ : ∃ wf, wf = (((((w6.setCell ⟨w.heap.size, 0, none⟩ (.int .i64 kc.kind)).setCell ⟨w.heap.size, 1, none⟩ (.slice A1' kc.vars.length c1')).setCell ⟨w.heap.size, 2, none⟩ (.slice A2' kc.args.length c2')).setCell ⟨w.heap.size, 3, none⟩ (.int .i64 kc.bound)).setCell ⟨w.heap.size, 4, none⟩ (.slice A3' kc.rows.length c3')) := ⟨_, rfl⟩
  have hF := Lib.hid (And.intro ((OwnI.stays 3).base _ _ _ _ _ (show w.heap.size ≤ w1.heap.size by omega) (OwnI.laid5 hod HT6 rfl hwf)) (And.intro (OwnCon.laid0 (OwnCon.base_ (show OwnCon w6 _ _ kc from ⟨_, _, _, rfl, k1, k2, k3⟩) (show w.heap.size ≤ _ by omega)) HT6 rfl hwf) (below_laid HB6 (Nat.le_refl _) hwf)))
  have HWF := Lib.hid hwf
  clear hwf
  have HN := Lib.hid (And.intro hsm hdr)
  clear k1 k2 k3 HT6 HB6 hr6 hb6 hsm hod hdr hb16
  go_wp2_with fail
  rw [← HWF.out]
  obtain ⟨hod, ⟨ht5, ho⟩, hbf⟩ := hF.out
  have t0 := ht5.at_ 0 rfl
  have t1 := ht5.at_ 1 rfl
  have t2 := ht5.at_ 2 rfl
  have t3 := ht5.at_ 3 rfl
  have t4 := ht5.at_ 4 rfl
  refine bodyPost_ret (v := .tuple #[.agg #[.int .i64 kc.kind, .slice A1' kc.vars.length c1', .slice A2' kc.args.length c2', .int .i64 kc.bound, .slice A3' kc.rows.length c3'], .slice Ad ds.length cd]) ?_ rfl ?_
  · simp [results, Try.results21, go_sem, t0, t1, t2, t3, t4]
  · exact ⟨_, _, _, _, rfl, ho, HN.out.1, hod, hd1, hd4, HN.out.2, hbf⟩
end Go.Proofs.Ytejfnkbdmlijbaa
