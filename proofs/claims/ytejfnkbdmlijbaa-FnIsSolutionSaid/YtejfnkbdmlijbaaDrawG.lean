/- anyConstraint: a drawn constraint that may be damaged. -/
import Derived.Test.YtejfnkbdmlijbaaDrawF
namespace Go.Proofs.Ytejfnkbdmlijbaa
open Go.ChangeShapes Go.WideShapes Go.ChangeAt Go.RowKit
open Go.Shelf
set_option linter.unusedVariables false
set_option maxRecDepth 100000

theorem OwnCon.shunT {w : World} {B R j : Nat} {v u : Value} {k : Con} {zs : Array Value} (h : OwnCon w B v k) (hr : TBlk 35 w R zs) : OwnCon (w.setCell ⟨R, j, none⟩ u) B v k := by
  obtain ⟨vv, av, rv, e, h1, h2, h3⟩ := h
  exact ⟨vv, av, rv, e, OwnI.shuns (t := 35) (by decide) _ _ _ _ _ j _ _ u hr h1, OwnI.shuns (t := 35) (by decide) _ _ _ _ _ j _ _ u hr h2, OwnOf.shuns (t := 35) (by decide) (OwnI.shuns (by decide)) _ _ _ _ _ j _ _ u hr h3⟩
theorem OwnCon.laid0 {w : World} {B R : Nat} {k : Con} {x0 x1 x2 x3 x4 : Value} {zs : Array Value}
    (h : OwnCon w B (.agg #[x0, x1, x2, x3, x4]) k) (hr : TBlk 35 w R zs) (hz : zs.size = 5) {wf : World}
    (hf : wf = ((((w.setCell ⟨R, 0, none⟩ x0).setCell ⟨R, 1, none⟩ x1).setCell ⟨R, 2, none⟩ x2).setCell ⟨R, 3, none⟩ x3).setCell ⟨R, 4, none⟩ x4) :
    TBlk 35 wf R #[x0, x1, x2, x3, x4] ∧ OwnCon wf B (.agg #[x0, x1, x2, x3, x4]) k := by
  obtain ⟨z0, z1, z2, z3, z4, rfl⟩ : ∃ z0 z1 z2 z3 z4, zs = #[z0, z1, z2, z3, z4] := by
    rcases zs with ⟨l⟩
    match l, hz with
    | [z0, z1, z2, z3, z4], _ => exact ⟨_, _, _, _, _, rfl⟩
  have t1 := hr.store 0 x0
  have s1 := h.shunT (j := 0) (u := x0) hr
  have t2 := t1.store 1 x1
  have s2 := s1.shunT (j := 1) (u := x1) t1
  have t3 := t2.store 2 x2
  have s3 := s2.shunT (j := 2) (u := x2) t2
  have t4 := t3.store 3 x3
  have s4 := s3.shunT (j := 3) (u := x3) t3
  have t5 := t4.store 4 x4
  have s5 := s4.shunT (j := 4) (u := x4) t4
  subst hf
  exact ⟨t5, s5⟩
theorem below_laid {w w0 : World} {B R : Nat} {x0 x1 x2 x3 x4 : Value} (h : Below B w0 w) (hR : B ≤ R) {wf : World}
    (hf : wf = ((((w.setCell ⟨R, 0, none⟩ x0).setCell ⟨R, 1, none⟩ x1).setCell ⟨R, 2, none⟩ x2).setCell ⟨R, 3, none⟩ x3).setCell ⟨R, 4, none⟩ x4) : Below B w0 wf := by
  subst hf
  exact ((((h.setCell (p := ⟨R, 0, none⟩) hR _).setCell (p := ⟨R, 1, none⟩) hR _).setCell (p := ⟨R, 2, none⟩) hR _).setCell (p := ⟨R, 3, none⟩) hR _).setCell (p := ⟨R, 4, none⟩) hR _
/-- A constraint laid into the box of the result. -/
theorem OwnCon.laid {w w0 : World} {B B0 R g base n c p : Nat} {A : Option Addr} {bs : List Int} {k : Con} {x0 x1 x2 x3 x4 : Value} {zs : Array Value}
    (h : OwnCon w B (.agg #[x0, x1, x2, x3, x4]) k) (hr : TBlk 35 w R zs) (hz : zs.size = 5) (hd : Rd w base g A n c bs p) (hg : g < R) (hR : B0 ≤ R) (hb : ButG g B0 w0 w) {wf : World}
    (hf : wf = ((((w.setCell ⟨R, 0, none⟩ x0).setCell ⟨R, 1, none⟩ x1).setCell ⟨R, 2, none⟩ x2).setCell ⟨R, 3, none⟩ x3).setCell ⟨R, 4, none⟩ x4) :
    (wf.cell? ⟨R, 0, none⟩ = some x0 ∧ wf.cell? ⟨R, 1, none⟩ = some x1 ∧ wf.cell? ⟨R, 2, none⟩ = some x2 ∧ wf.cell? ⟨R, 3, none⟩ = some x3 ∧ wf.cell? ⟨R, 4, none⟩ = some x4) ∧
    OwnCon wf B (.agg #[x0, x1, x2, x3, x4]) k ∧ Rd wf base g A n c bs p ∧ ButG g B0 w0 wf := by
  obtain ⟨z0, z1, z2, z3, z4, rfl⟩ : ∃ z0 z1 z2 z3 z4, zs = #[z0, z1, z2, z3, z4] := by
    rcases zs with ⟨l⟩
    match l, hz with
    | [z0, z1, z2, z3, z4], _ => exact ⟨_, _, _, _, _, rfl⟩
  have t1 := hr.store 0 x0
  have s1 := h.shunT (j := 0) (u := x0) hr
  have t2 := t1.store 1 x1
  have s2 := s1.shunT (j := 1) (u := x1) t1
  have t3 := t2.store 2 x2
  have s3 := s2.shunT (j := 2) (u := x2) t2
  have t4 := t3.store 3 x3
  have s4 := s3.shunT (j := 3) (u := x3) t3
  have t5 := t4.store 4 x4
  have s5 := s4.shunT (j := 4) (u := x4) t4
  subst hf
  refine ⟨⟨t5.at_ 0 rfl, t5.at_ 1 rfl, t5.at_ 2 rfl, t5.at_ 3 rfl, t5.at_ 4 rfl⟩, s5, ?_, ?_⟩
  · exact ((((hd.set hg 0 _).set hg 1 _).set hg 2 _).set hg 3 _).set hg 4 _
  · exact ((((hb.setHi hR 0 _).setHi hR 1 _).setHi hR 2 _).setHi hR 3 _).setHi hR 4 _
/-- small, with a margin. -/
def SmD (c : Con) : Prop := c.vars.length ≤ 9 ∧ c.args.length ≤ 9 ∧ c.rows.length ≤ 8 ∧ RowsLe 8 c.rows
theorem SmC.d {c : Con} (h : SmC c) : SmD c := ⟨by have := h.1; omega, by have := h.2.1; omega, h.2.2.1, h.2.2.2⟩
theorem SmC.near {c d : Con} (h : SmC c) (k : NearC c d) : SmD d := ⟨by have := h.1; have := k.1; omega, by have := h.2.1; have := k.2.1; omega, by rw [k.2.2]; exact h.2.2.1, by rw [k.2.2]; exact h.2.2.2⟩
theorem SmD.con {c : Con} (h : SmD c) : SmCon c := ⟨by have := h.1; unfold Sm1; omega, by have := h.2.1; unfold Sm1; omega, by have := h.2.2.1; omega, fun x hx => by have := h.2.2.2 x hx; unfold Sm1; omega⟩
set_option maxHeartbeats 16000000 in
theorem anyConstraint (base g n c p : Nat) (A : Option Addr) (bs : List Int) (m : Nat) (w : World) (h : Rd w base g A n c bs p) (hp : p ≤ 800000) (hm1 : 1 ≤ m) (hm4 : m ≤ 4) :
    Calls Try.prog 51 #[.pointer (some ⟨g, 0, none⟩), .int .i64 m] w fun e w' => ∃ (v : Value) (k : Con) (q : Nat), e = .returned v ∧ OwnCon w' w.heap.size v k ∧ SmD k ∧ q ≤ p + 210 ∧ Rd w' base g A n c bs q ∧ ButG g w.heap.size w w' := by
  have hg : g < w.heap.size := (Array.getElem?_eq_some_iff.1 h.block).1
  obtain ⟨wa, hwa⟩ : ∃ wa, wa = w.alloc (.cells #[.int .i64 0, .slice none 0 0, .slice none 0 0, .int .i64 0, .slice none 0 0] 35) := ⟨_, rfl⟩
  have hba : Below w.heap.size w wa := by rw [hwa]; exact b_alloc _ _
  have hza : wa.heap.size = w.heap.size + 1 := by rw [hwa, size_alloc_]
  have HT : Hid (TBlk 35 wa w.heap.size #[.int .i64 0, .slice none 0 0, .slice none 0 0, .int .i64 0, .slice none 0 0]) := by rw [hwa]; exact TBlk.new _ _ _
  have HD := Lib.hid (h.under hba hg)
  have HBA := Lib.hid hba
  clear h hba
  go_enter Try.func51, Try.ntmps51
  go_wp2_with fail
  rw [← hwa]
  clear hwa
  refine (randomConstraint base g n c p A bs m wa HD.out (by omega) hm1 hm4).mono ?_
  rintro e w1 ⟨v, k, q, rfl, ho, hk1, hsm, hq, hr1, hb1⟩
  have HT1 := Lib.hid (HT.out.butG hb1 (by omega))
  have HB1 := Lib.hid ((below_butG HBA.out g).go hb1)
  have hz1 := hb1.size
  obtain ⟨vv, av, rv, rfl, o1, o2, o3⟩ := ho
  obtain ⟨A1, c1, rfl, -⟩ := o1.read
  obtain ⟨A2, c2, rfl, -⟩ := o2.read
  obtain ⟨A3, c3, rfl, -⟩ := read2 o3
  obtain ⟨nv, hnv⟩ : ∃ nv, k.vars.length = nv := ⟨_, rfl⟩
  obtain ⟨na, hna⟩ : ∃ na, k.args.length = na := ⟨_, rfl⟩
  obtain ⟨nr, hnr⟩ : ∃ nr, k.rows.length = nr := ⟨_, rfl⟩
  rw [hnv] at o1 ⊢
  rw [hna] at o2 ⊢
  rw [hnr] at o3 ⊢
  have HSM := Lib.hid (And.intro hk1 hsm)
  obtain ⟨w4, hw4⟩ : ∃ w4, w1.alloc (.cells #[.int .i64 k.kind, .slice A1 nv c1, .slice A2 na c2, .int .i64 k.bound, .slice A3 nr c3] 35) = w4 := ⟨_, rfl⟩
  have hb4 : Below w1.heap.size w1 w4 := by rw [← hw4]; exact b_alloc _ _
  have hC4 : CS w4 w.heap.size w1.heap.size k (.slice A1 nv c1) (.slice A2 na c2) (.slice A3 nr c3) :=
    ⟨by rw [← hw4]; exact TBlk.new _ _ _, (OwnI.stays 3).base _ _ _ _ _ (show w.heap.size ≤ wa.heap.size by omega) ((OwnI.stays 3).below _ _ _ _ _ hb4 o1), (OwnI.stays 3).base _ _ _ _ _ (show w.heap.size ≤ wa.heap.size by omega) ((OwnI.stays 3).below _ _ _ _ _ hb4 o2), (OwnOf.stays (OwnI.stays 3)).base _ _ _ _ _ (show w.heap.size ≤ wa.heap.size by omega) ((OwnOf.stays (OwnI.stays 3)).below _ _ _ _ _ hb4 o3)⟩
  have HC4 := Lib.hid hC4
  have HT4 := Lib.hid (HT1.out.below_ hb4 (by omega))
  have HD4 := Lib.hid (hr1.under hb4 (by omega))
  have HB4 := Lib.hid (HB1.out.go (below_butG hb4 g))
  have hz4 := hb4.size
  clear o1 o2 o3 hk1 hsm hnv hna hnr hC4 hb4 hb1 hr1
  go_wp2_with fail
  refine (pick base g n c q A bs 10 w4 HD4.out (by omega)).mono ?_
  rintro e w5 ⟨r, rfl, -, hr5, hb5⟩
  have hgw : g < w.heap.size := hg
  have HC5 := HC4.out.butG hb5 hgw (by omega)
  have HT5 := Lib.hid (HT4.out.butG hb5 (by omega))
  have HB5 := Lib.hid (HB4.out.go hb5)
  have hz5 := hb5.size
  have z0 := HC5.blk.at_ 0 rfl
  have z1 := HC5.blk.at_ 1 rfl
  have z2 := HC5.blk.at_ 2 rfl
  have z3 := HC5.blk.at_ 3 rfl
  have z4 := HC5.blk.at_ 4 rfl
  have HCH := Lib.hid HC5
  clear HC5 hb5 HC4 HT4 HB4 HD4
  by_cases h0 : r = 0
  · subst h0
    go_wp2_with fail
    obtain ⟨hv1, hv2, hv3⟩ := And.intro HSM.out.1 (And.intro HSM.out.2.1 HSM.out.2.2.1)
    refine (damage base g n c (q + 1) w.heap.size A bs _ k w5 hr5 (by omega) HCH.out.own (by omega) hgw hv1 hv2 hv3).mono ?_
    rintro e w6 ⟨v', k', q', rfl, ho', hn', hq', hr6, hb6⟩
    have HT6 := HT5.out.butG hb6 (by omega)
    have HB6 := HB5.out.go hb6
    obtain ⟨vv', av', rv', rfl, k1, k2, k3⟩ := ho'
    obtain ⟨A1', c1', rfl, -⟩ := k1.read
    obtain ⟨A2', c2', rfl, -⟩ := k2.read
    obtain ⟨A3', c3', rfl, -⟩ := read2 k3
    have y0 := HT6.at_ 0 rfl
    have y1 := HT6.at_ 1 rfl
    have y2 := HT6.at_ 2 rfl
    have y3 := HT6.at_ 3 rfl
    have y4 := HT6.at_ 4 rfl
    have f0 := HT6.frozen 0
    have f1 := HT6.frozen 1
    have f2 := HT6.frozen 2
    have f3 := HT6.frozen 3
    have f4 := HT6.frozen 4
    have hF := Lib.hid (OwnCon.laid (show OwnCon w6 w.heap.size _ k' from ⟨_, _, _, rfl, k1, k2, k3⟩) HT6 rfl hr6 hgw (Nat.le_refl _) HB6 rfl)
    have HN := Lib.hid (HSM.out.2.near hn')
    clear k1 k2 k3 HT6 HB6 hr6 hb6 hr5 z0 z1 z2 z3 z4 hn' hv1 hv2 hv3
    go_wp2_with fail
    generalize (((((w6.setCell ⟨w.heap.size, 0, none⟩ (.int .i64 k'.kind)).setCell ⟨w.heap.size, 1, none⟩ (.slice A1' k'.vars.length c1')).setCell ⟨w.heap.size, 2, none⟩ (.slice A2' k'.args.length c2')).setCell ⟨w.heap.size, 3, none⟩ (.int .i64 k'.bound)).setCell ⟨w.heap.size, 4, none⟩ (.slice A3' k'.rows.length c3')) = wf at hF ⊢
    obtain ⟨⟨t0, t1, t2, t3, t4⟩, ho, hrd, hbf⟩ := hF.out
    refine bodyPost_ret (v := .agg #[.int .i64 k'.kind, .slice A1' k'.vars.length c1', .slice A2' k'.args.length c2', .int .i64 k'.bound, .slice A3' k'.rows.length c3']) ?_ rfl ?_
    · simp [results, Try.results51, go_sem, t0, t1, t2, t3, t4]
    · exact ⟨_, _, _, rfl, ho, HN.out, by omega, hrd, hbf⟩
  have n0 : (r == 0) = false := by simpa using h0
  have y0 := HT5.out.at_ 0 rfl
  have y1 := HT5.out.at_ 1 rfl
  have y2 := HT5.out.at_ 2 rfl
  have y3 := HT5.out.at_ 3 rfl
  have y4 := HT5.out.at_ 4 rfl
  have f0 := HT5.out.frozen 0
  have f1 := HT5.out.frozen 1
  have f2 := HT5.out.frozen 2
  have f3 := HT5.out.frozen 3
  have f4 := HT5.out.frozen 4
  have hF := Lib.hid (OwnCon.laid HCH.out.own HT5.out rfl hr5 hgw (Nat.le_refl _) HB5.out rfl)
  have HN := Lib.hid HSM.out.2.d
  clear hr5
  go_wp2_with fail
  generalize (((((w5.setCell ⟨w.heap.size, 0, none⟩ (.int .i64 k.kind)).setCell ⟨w.heap.size, 1, none⟩ (.slice A1 nv c1)).setCell ⟨w.heap.size, 2, none⟩ (.slice A2 na c2)).setCell ⟨w.heap.size, 3, none⟩ (.int .i64 k.bound)).setCell ⟨w.heap.size, 4, none⟩ (.slice A3 nr c3)) = wf at hF ⊢
  obtain ⟨⟨t0, t1, t2, t3, t4⟩, ho, hrd, hbf⟩ := hF.out
  refine bodyPost_ret (v := .agg #[.int .i64 k.kind, .slice A1 nv c1, .slice A2 na c2, .int .i64 k.bound, .slice A3 nr c3]) ?_ rfl ?_
  · simp [results, Try.results51, go_sem, t0, t1, t2, t3, t4]
  · exact ⟨_, _, _, rfl, ho, HN.out, by omega, hrd, hbf⟩
end Go.Proofs.Ytejfnkbdmlijbaa
