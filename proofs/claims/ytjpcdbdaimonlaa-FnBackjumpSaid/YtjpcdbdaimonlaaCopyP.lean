/- The reference's copies of constraints and models. -/
import Derived.Test.YtjpcdbdaimonlaaCopyM
namespace Go.Proofs.Ytjpcdbdaimonlaa
open Go.ChangeShapes Go.WideShapes Go.ChangeAt Go.RowKit
open Go.Shelf
set_option linter.unusedVariables false
set_option maxRecDepth 100000

section
variable {w w' : World} {base : Nat}
theorem OwnI.apart {e : TypeId} {v : Value} {xs : List Int} (h : OwnI e w base v xs) (ha : Apart base w w') : OwnI e w' base v xs := ⟨own_apart h.1 ha, h.2⟩
theorem OwnRows.apart {e e0 : TypeId} {v : Value} {xs : List (List Int)} (h : OwnOf e (OwnI e0) w base v xs) (ha : Apart base w w') : OwnOf e (OwnI e0) w' base v xs := by
  obtain ⟨us, h1, h2, h3, h4⟩ := h
  exact ⟨us, h1, own_apart h2 ha, h3, fun i u x hu hx => (h4 i u x hu hx).apart ha⟩
theorem OwnConU.apart {us : List Value} {c : Con} (h : OwnConU w base us c) (ha : Apart base w w') : OwnConU w' base us c := by
  obtain ⟨vv, av, rv, e, h1, h2, h3⟩ := h
  exact ⟨vv, av, rv, e, h1.apart ha, h2.apart ha, OwnRows.apart h3 ha⟩
theorem OwnCons.apart {v : Value} {xs : List Con} (h : OwnCons w base v xs) (ha : Apart base w w') : OwnCons w' base v xs := by
  obtain ⟨us, h1, h0, h2, h3, h4⟩ := h
  exact ⟨us, h1, h0, own_apart h2 ha, h3, fun i u x hu hx => (h4 i u x hu hx).apart ha⟩
theorem OwnMod.apart {v : Value} {m : Mod} (h : OwnMod w base v m) (ha : Apart base w w') : OwnMod w' base v m := by
  obtain ⟨dv, cv, e, h1, h2⟩ := h
  exact ⟨dv, cv, e, h1.apart ha, OwnCons.apart h2 ha⟩
end
/-- five stores into a box of a constraint. -/
theorem OwnI.set5 {w : World} {base g : Nat} {v x0 x1 x2 x3 x4 : Value} {xs : List Int} {cs : Array Value} (h : OwnI 3 w base v xs) (hb : TBlk 53 w g cs) :
    OwnI 3 (((((w.setCell ⟨g, 0, none⟩ x0).setCell ⟨g, 1, none⟩ x1).setCell ⟨g, 2, none⟩ x2).setCell ⟨g, 3, none⟩ x3).setCell ⟨g, 4, none⟩ x4) base v xs := by
  have k := @OwnI.shuns 3 53 (by decide)
  exact k _ _ _ _ _ 4 _ _ _ ((((hb.store 0 x0).store 1 x1).store 2 x2).store 3 x3) (k _ _ _ _ _ 3 _ _ _ (((hb.store 0 x0).store 1 x1).store 2 x2) (k _ _ _ _ _ 2 _ _ _ ((hb.store 0 x0).store 1 x1) (k _ _ _ _ _ 1 _ _ _ (hb.store 0 x0) (k _ _ _ _ _ 0 _ _ _ hb h))))
set_option maxHeartbeats 8000000 in
theorem scopyCon (us : List Value) (c : Con) (w : World) (h : ConR w w.heap.size us c) (hs : SmCon c) :
    Calls Try.prog 51 #[.agg us.toArray] w fun e w' => ∃ vs : List Value, e = .returned (.agg vs.toArray) ∧ OwnConU w' w.heap.size vs c ∧ Below w.heap.size w w' := by
  obtain ⟨i1, hi1, hy0, hy1, hy2⟩ := info_parts (P := Try.prog) (e := 23) (z := .slice none 0 0) (size := 1) (bytes := 24) (by kernel_rfl)
  obtain ⟨va, aa, ra, cv, ca, cr, rfl, g1, g2, g3, -, -⟩ := h
  obtain ⟨s1, s2, s3, s4⟩ := hs
  obtain ⟨nv, hnv⟩ : ∃ nv, c.vars.length = nv := ⟨_, rfl⟩
  obtain ⟨na, hna⟩ : ∃ na, c.args.length = na := ⟨_, rfl⟩
  obtain ⟨nr, hnr⟩ : ∃ nr, c.rows.length = nr := ⟨_, rfl⟩
  rw [hnv] at g1
  rw [hna] at g2
  rw [hnr] at g3 s3
  have t1 : nv ≤ 1048576 := by rw [← hnv]; exact s1
  have t2 : na ≤ 1048576 := by rw [← hna]; exact s2
  rw [hnv, hna, hnr]
  obtain ⟨wa, hwa⟩ : ∃ wa, wa = w.alloc (.cells #[.int .i64 c.kind, .slice va nv cv, .slice aa na ca, .int .i64 c.bound, .slice ra nr cr] 53) := ⟨_, rfl⟩
  obtain ⟨wb, hwb⟩ : ∃ wb, wb = wa.alloc (.cells #[.int .i64 0, .slice none 0 0, .slice none 0 0, .int .i64 0, .slice none 0 0] 53) := ⟨_, rfl⟩
  have hb0 : Below w.heap.size w wa := by rw [hwa]; exact b_alloc _ _
  have hsa : wa.heap.size = w.heap.size + 1 := by rw [hwa, size_alloc_]
  have hb1 : Below wa.heap.size wa wb := by rw [hwb]; exact b_alloc _ _
  have hsb : wb.heap.size = w.heap.size + 1 + 1 := by rw [hwb, size_alloc_, hsa]
  have ha : TBlk 53 wa w.heap.size #[.int .i64 c.kind, .slice va nv cv, .slice aa na ca, .int .i64 c.bound, .slice ra nr cr] := by rw [hwa]; exact TBlk.new _ _ _
  have HA := Lib.hid (ha.below_ hb1 (by omega))
  have HR : Hid (TBlk 53 wb (w.heap.size + 1) #[.int .i64 0, .slice none 0 0, .slice none 0 0, .int .i64 0, .slice none 0 0]) := by rw [hwb, ← hsa]; exact TBlk.new _ _ _
  have hb01 := bgo hb0 hb1
  have G1 := Lib.hid (IntR.on g1 hb01)
  have G2 := Lib.hid (IntR.on g2 hb01)
  have G3 := Lib.hid (SlR.on (RowC.keeps IntC.keeps) (RowC.widens IntC.widens) g3 hb01)
  have S4 := Lib.hid s4
  have HNV := Lib.hid hnv
  have HNA := Lib.hid hna
  have HNR := Lib.hid hnr
  have hS : ∀ w', Below wb.heap.size wb w' → (w'.cell? ⟨w.heap.size, 0, none⟩ = some (.int .i64 c.kind) ∧ w'.cell? ⟨w.heap.size, 1, none⟩ = some (.slice va nv cv) ∧ w'.cell? ⟨w.heap.size, 2, none⟩ = some (.slice aa na ca) ∧ w'.cell? ⟨w.heap.size, 3, none⟩ = some (.int .i64 c.bound)) := by
    intro w' h
    have k := HA.out.below_ h (by omega)
    exact ⟨k.at_ 0 rfl, k.at_ 1 rfl, k.at_ 2 rfl, k.at_ 3 rfl⟩
  have hbd : Below wb.heap.size wb wb.drew := below_drewN (Below.refl _ _) 1
  have hS0 := hS _ hbd
  clear g1 g2 g3 s1 s2 s4 hnv hna hnr ha hb0 hb1
  go_enter Try.func51, Try.ntmps51
  go_wp2_with fail
  rw [← hwa, ← hwb]
  clear hwa hwb
  have HSB := Lib.hid hsb
  clear hsb hsa
  rename_i K hK
  have HX := Lib.hid (TBlk.new wb #[.int .i64 0, .slice none 0 0, .slice none 0 0, .int .i64 0, .slice none 0 0] 53)
  have KEY : ∀ (W : World) (A8 A9 : Option Addr) (c8 c9 g3 : Nat), OwnI 3 W wb.heap.size (.slice A8 c.vars.length c8) c.vars → OwnI 3 W wb.heap.size (.slice A9 c.args.length c9) c.args → TBlk 53 W g3 #[.int .i64 c.kind, .slice A8 c.vars.length c8, .slice A9 c.args.length c9, .int .i64 c.bound, .slice none 0 0] → wb.heap.size ≤ g3 → Below wb.heap.size wb W → K { tmps := #[.agg #[.int .i64 c.kind, .slice va nv cv, .slice aa na ca, .int .i64 c.bound, .slice ra nr cr], .pointer (some ⟨w.heap.size, 0, none⟩), .pointer (some ⟨w.heap.size + 1, 0, none⟩), .pointer (some ⟨g3, 0, none⟩), undef, .pointer (some ⟨w.heap.size, 0, none⟩), .int .i64 c.kind, .pointer (some ⟨w.heap.size, 1, none⟩), .slice va nv cv, .slice A8 c.vars.length c8, .pointer (some ⟨w.heap.size, 2, none⟩), .slice aa na ca, .slice A9 c.args.length c9, .pointer (some ⟨w.heap.size, 3, none⟩), .int .i64 c.bound, .agg #[.int .i64 c.kind, .slice A8 c.vars.length c8, .slice A9 c.args.length c9, .int .i64 c.bound, .slice none 0 0], undef, undef, undef, undef, undef, undef, undef, undef, undef, undef, undef, undef, undef, undef, undef, undef, undef, undef, undef], defers := [] } W := by
    intro W A8 A9 c8 c9 g3 h8 h9 hT hg3 hbW
    refine hK _ _ ?_
    have HT := Lib.hid hT
    have H8 := Lib.hid h8
    have H9 := Lib.hid h9
    have hA4 : Hid (∀ w', Below wb.heap.size wb w' → w'.cell? ⟨w.heap.size, 4, none⟩ = some (.slice ra nr cr)) := fun w' h => (HA.out.below_ h (by have := HSB.out; omega)).at_ 4 rfl
    clear hT h8 h9 hS hS0
    go_wp2_with fail
    go_loopw [4] (fun i wr => ∃ (k : Nat) (rv : Value), k ≤ nr ∧ i = .int .i64 k ∧ Hid (TBlk 53 wr g3 #[.int .i64 c.kind, .slice A8 c.vars.length c8, .slice A9 c.args.length c9, .int .i64 c.bound, rv]) ∧ Hid (OwnOf 23 (OwnI 3) wr wb.heap.size rv (c.rows.take k)) ∧ Hid (OwnI 3 wr wb.heap.size (.slice A8 c.vars.length c8) c.vars) ∧ Hid (OwnI 3 wr wb.heap.size (.slice A9 c.args.length c9) c.args) ∧ Below wb.heap.size wb wr) (fun i _ => nr - (intOf i).toNat)
    case atStart => exact ⟨0, _, by omega, rfl, HT, OwnRows.nil0 _ _, H8, H9, hbW⟩
    case round =>
      obtain ⟨k, rv, hk, rfl, ht, hq, k8, k9, hb⟩ := hrel
      have hzr := hb.size
      clear H8 H9 hbW HT
      have a4 := hA4.out _ hb
      by_cases hlt : k < nr
      · obtain ⟨ab, ao, row, u, rfl, hab, hxk, hcu, hrw⟩ := SlR.at_ (SlR.below (RowC.keeps IntC.keeps) G3.out hb) hlt
        obtain ⟨A2, d2, rfl, hri⟩ := hrw
        have hr1 := S4.out row (List.mem_of_getElem? hxk)
        have HX := Lib.hid (take_snoc hxk)
        have hlk : (c.rows.take k).length = k := by have := (List.getElem?_eq_some_iff.1 hxk).1; rw [List.length_take]; omega
        have HLK := Lib.hid hlk
        have hbd3 : Below wr.heap.size wr wr.drew := Below.drew_ (Below.refl _ _)
        have HRI := Lib.hid (IntR.on (hri.more IntC.widens hzr) hbd3)
        have hcu' : wr.drew.cell? ⟨ab, ao + k, none⟩ = some (.slice A2 row.length d2) := hcu
        have a4' : wr.drew.cell? ⟨w.heap.size, 4, none⟩ = some (.slice (some ⟨ab, ao, none⟩) nr cr) := a4
        have d5 : wr.drew.cell? ⟨g3, 4, none⟩ = some rv := ht.out.at_ 4 rfl
        clear hxk hri hlk
        go_wp2_with fail
        go_region_law (first
          | (refine step_append_any (by rfl) _ _ 27 (by rfl) wb.heap.size 23 i1 _ 1 24 Try.underlying27 hi1 hy0 hy1 hy2 rfl (by omega) rv k us (by rfl) ho6.out (some ⟨W6.heap.size, 0, none⟩) 1 [.slice A6 row.length d6] (by exact ⟨_, rfl, .inr ⟨_, rfl, rfl, cell_one_new _ _ _⟩⟩) (by simp [Value.oneCell']) (by unfold maxLen; omega) (by omega) (by rw [size_alloc_]; omega) ?_
             intro v1 W7 hown hbw hgr _
             obtain ⟨A7, c7, rfl⟩ := (HoldR.of_own hown).form
             have T7 : TBlk 53 W7 g3 #[.int .i64 c.kind, .slice A8 c.vars.length c8, .slice A9 c.args.length c9, .int .i64 c.bound, rv] := (hgr.block g3 T6.out.lt (own_blk (show (53 : TypeId) ≠ 23 by decide) ho6.out T6.out)).trans T6.out
             have d7 := T7.at_ 4 rfl
             have f7 := T7.frozen 4)
          | (go_simp
             go_at_call 35
             refine (scopy0 A2 row.length d2 row _ HRI.out hr1).mono ?_
             rintro e W6 ⟨v6, rfl, h6, hB6⟩
             obtain ⟨A6, d6, rfl⟩ := h6.form
             have b6 := bgo hbd3 hB6
             have d6a := (ht.out.below_ b6 ht.out.lt).at_ 4 rfl
             have d6b := fun o => ((ht.out.below_ b6 ht.out.lt).below_ (b_alloc W6 o) (by have := (ht.out.below_ b6 ht.out.lt).lt; exact this)).at_ 4 rfl
             obtain ⟨us, u1, u2, u3, u4⟩ := (OwnOf.stays (OwnI.stays 3)).below _ _ _ _ _ (b_alloc W6 (.cells #[.slice A6 row.length d6] 23)) ((OwnOf.stays (OwnI.stays 3)).below _ _ _ _ _ b6 hq.out)
             have HU := Lib.hid (And.intro u1 (And.intro u2 u4))
             rw [HLK.out] at u2
             have ho6 := Lib.hid u2
             have H6 := Lib.hid ((OwnI.stays 3).below _ _ _ _ _ (b_alloc W6 (.cells #[.slice A6 row.length d6] 23)) ((OwnI.stays 3).base _ _ _ _ _ (Nat.le_trans hzr hbd3.size) h6))
             have T6 := Lib.hid ((ht.out.below_ b6 ht.out.lt).below_ (b_alloc W6 (.cells #[.slice A6 row.length d6] 23)) (by have := (ht.out.below_ b6 ht.out.lt).lt; exact this))
             have zz6 : wb.heap.size ≤ W6.heap.size := Nat.le_trans hzr b6.size
             clear u1 u2 u3 u4 h6))
        all_goals
          have K1 := Lib.hid (T7.store 4 (.slice A7 (k + 1) c7))
          have K2 : Hid (OwnOf 23 (OwnI 3) (W7.setCell ⟨g3, 4, none⟩ (.slice A7 (k + 1) c7)) wb.heap.size (.slice A7 (k + 1) c7) (c.rows.take (k + 1))) := by
            show OwnOf _ _ _ _ _ _
            rw [HX.out]
            exact OwnOf.shuns (show (53 : TypeId) ≠ 23 by decide) (OwnI.shuns (show (53 : TypeId) ≠ 3 by decide)) _ _ _ _ _ 4 _ _ _ T7
              (OwnRows.snoc (show (3 : TypeId) ≠ 23 by decide) HU.out.1 HU.out.2.1 HU.out.2.2 H6.out (by rw [HLK.out]; omega) (by rw [HLK.out]; exact hown) hgr)
          have K3 := Lib.hid (OwnI.shuns (show (53 : TypeId) ≠ 3 by decide) _ _ _ _ _ 4 _ _ (.slice A7 (k + 1) c7) T7 (OwnI.grown (show (3 : TypeId) ≠ 23 by decide) ho6.out hgr ((OwnI.stays 3).below _ _ _ _ _ (b_alloc W6 (.cells #[.slice A6 row.length d6] 23)) ((OwnI.stays 3).below _ _ _ _ _ b6 k8.out))))
          have K4 := Lib.hid (OwnI.shuns (show (53 : TypeId) ≠ 3 by decide) _ _ _ _ _ 4 _ _ (.slice A7 (k + 1) c7) T7 (OwnI.grown (show (3 : TypeId) ≠ 23 by decide) ho6.out hgr ((OwnI.stays 3).below _ _ _ _ _ (b_alloc W6 (.cells #[.slice A6 row.length d6] 23)) ((OwnI.stays 3).below _ _ _ _ _ b6 k9.out))))
          have K5 : Below wb.heap.size wb (W7.setCell ⟨g3, 4, none⟩ (.slice A7 (k + 1) c7)) := (((hb.trans (b6.mono hzr)).trans ((b_alloc W6 (.cells #[.slice A6 row.length d6] 23)).mono zz6)).trans hbw).setCell hg3 _
          clear T7 d7 f7 hown hbw hgr
          go_wp2_with fail
          go_roundw
          case rel => exact ⟨k + 1, _, by omega, by go_num, K1, K2, K3, K4, K5⟩
          case measure => simp [intOf]; omega
      · obtain rfl : k = nr := by omega
        have hl7 : (c.rows.take k).length = k := by rw [← HNR.out, List.take_length]
        obtain ⟨A7, c7, hrv⟩ := hq.out.form
        rw [hl7] at hrv
        subst hrv
        have HL7 := Lib.hid hl7
        clear hl7
        have a0 := ht.out.at_ 0 rfl
        have a1 := ht.out.at_ 1 rfl
        have a2 := ht.out.at_ 2 rfl
        have a3 := ht.out.at_ 3 rfl
        have a5 := ht.out.at_ 4 rfl
        have hq0 := HR.out.below_ hb (by have := HSB.out; omega)
        have q0 := hq0.at_ 0 rfl
        have q1 := hq0.at_ 1 rfl
        have q2 := hq0.at_ 2 rfl
        have q3 := hq0.at_ 3 rfl
        have q4 := hq0.at_ 4 rfl
        have f0 := hq0.frozen 0
        have f1 := hq0.frozen 1
        have f2 := hq0.frozen 2
        have f3 := hq0.frozen 3
        have f4 := hq0.frozen 4
        go_wp2_with fail
        obtain ⟨WF, hWF⟩ : ∃ WF, WF = ((((wr.setCell ⟨w.heap.size + 1, 0, none⟩ (.int .i64 c.kind)).setCell ⟨w.heap.size + 1, 1, none⟩ (.slice A8 c.vars.length c8)).setCell ⟨w.heap.size + 1, 2, none⟩ (.slice A9 c.args.length c9)).setCell ⟨w.heap.size + 1, 3, none⟩ (.int .i64 c.bound)).setCell ⟨w.heap.size + 1, 4, none⟩ (.slice A7 k c7) := ⟨_, rfl⟩
        have hqf : TBlk 53 WF (w.heap.size + 1) #[.int .i64 c.kind, .slice A8 c.vars.length c8, .slice A9 c.args.length c9, .int .i64 c.bound, .slice A7 k c7] := by
          rw [hWF]
          exact ((((hq0.store 0 _).store 1 _).store 2 _).store 3 _).store 4 _
        have hap : Apart wb.heap.size wr WF := by
          rw [hWF]
          have := HSB.out
          exact (((((Apart.refl _ _).set (by omega) 0 _).set (by omega) 1 _).set (by omega) 2 _).set (by omega) 3 _).set (by omega) 4 _
        have hbf : Below w.heap.size w WF := by
          rw [hWF]
          refine (hb01.trans (hb.mono (by have := HSB.out; omega))).trans ?_
          repeat' (first | exact Below.refl _ _ | refine Below.setCell ?_ (by simp) _)
        have hfin : OwnConU WF w.heap.size [.int .i64 c.kind, .slice A8 c.vars.length c8, .slice A9 c.args.length c9, .int .i64 c.bound, .slice A7 k c7] c := by
          refine OwnConU.stays.base _ _ _ _ _ (show w.heap.size ≤ wb.heap.size by have := HSB.out; omega) ?_
          refine OwnConU.apart ⟨_, _, _, rfl, k8.out, k9.out, ?_⟩ hap
          have h7 := hq.out
          rw [show c.rows.take k = c.rows by rw [← HNR.out, List.take_length]] at h7
          exact h7
        have FIN := Lib.hid (And.intro hfin hbf)
        rw [← hWF]
        have r0 := hqf.at_ 0 rfl
        have r1 := hqf.at_ 1 rfl
        have r2 := hqf.at_ 2 rfl
        have r3 := hqf.at_ 3 rfl
        have r4 := hqf.at_ 4 rfl
        clear hfin hbf hap hqf hq0 hWF
        go_wp2_with fail
        exact bodyPost_ret (v := .agg #[.int .i64 c.kind, .slice A8 c.vars.length c8, .slice A9 c.args.length c9, .int .i64 c.bound, .slice A7 k c7]) (by simp [results, Try.results51, go_sem, r0, r1, r2, r3, r4]) rfl (by first | exact ⟨_, rfl, FIN.out.1, FIN.out.2⟩)
  go_region_held3 (fun w' => w'.cell? ⟨w.heap.size, 0, none⟩ = some (.int .i64 c.kind) ∧ w'.cell? ⟨w.heap.size, 1, none⟩ = some (.slice va nv cv) ∧ w'.cell? ⟨w.heap.size, 2, none⟩ = some (.slice aa na ca) ∧ w'.cell? ⟨w.heap.size, 3, none⟩ = some (.int .i64 c.bound))
    (first | with_reducible exact hS0 | (with_reducible refine hS _ ?_; (repeat' (first | with_reducible assumption | with_reducible exact Below.refl _ _ | with_reducible refine Below.drew_ ?_ | with_reducible refine Below.setCell ?_ (by first | (simp; done) | (simp; omega)) _ | with_reducible refine Below.alloc0 ?_ _))))
    (first
      | (go_at_call 35
         refine (scopy0 va nv cv c.vars _ (IntR.on G1.out (by (repeat' (first | with_reducible assumption | with_reducible exact Below.refl _ _ | with_reducible refine Below.drew_ ?_ | with_reducible refine Below.setCell ?_ (by first | (simp; done) | (simp; omega)) _ | with_reducible refine Below.alloc0 ?_ _)))) t1).mono ?_
         rintro e W8 ⟨v8, rfl, h8, hB8⟩
         obtain ⟨A8, c8, rfl⟩ := h8.form
         have hb8 := bgo (show Below wb.heap.size wb _ by (repeat' (first | with_reducible assumption | with_reducible exact Below.refl _ _ | with_reducible refine Below.drew_ ?_ | with_reducible refine Below.setCell ?_ (by first | (simp; done) | (simp; omega)) _ | with_reducible refine Below.alloc0 ?_ _))) hB8
         have z8 := hb8.size
         first
           | (have qa := TBlk.below_ (show TBlk 53 (wb.alloc (.cells #[.int .i64 0, .slice none 0 0, .slice none 0 0, .int .i64 0, .slice none 0 0] 53)).drew wb.heap.size #[.int .i64 0, .slice none 0 0, .slice none 0 0, .int .i64 0, .slice none 0 0] from HX.out) hB8 HX.out.lt)
           | skip)
      | (go_at_call 35
         refine (scopy0 aa na ca c.args _ (IntR.on G2.out (by (repeat' (first | with_reducible assumption | with_reducible exact Below.refl _ _ | with_reducible refine Below.drew_ ?_ | with_reducible refine Below.setCell ?_ (by first | (simp; done) | (simp; omega)) _ | with_reducible refine Below.alloc0 ?_ _)))) t2).mono ?_
         rintro e W9 ⟨v9, rfl, h9, hB9⟩
         obtain ⟨A9, c9, rfl⟩ := h9.form
         have hb9 := bgo (show Below wb.heap.size wb _ by (repeat' (first | with_reducible assumption | with_reducible exact Below.refl _ _ | with_reducible refine Below.drew_ ?_ | with_reducible refine Below.setCell ?_ (by first | (simp; done) | (simp; omega)) _ | with_reducible refine Below.alloc0 ?_ _))) hB9
         have z9 := hb9.size
         first
           | (have qb := qa.below_ hB9 qa.lt
              have qb0 := qb.at_ 0 rfl
              have qb1 := qb.at_ 1 rfl
              have qb2 := qb.at_ 2 rfl
              have qb3 := qb.at_ 3 rfl
              have qb4 := qb.at_ 4 rfl
              have qf := fun j => qb.frozen j)
           | (have qb := (TBlk.new W8 #[.int .i64 0, .slice none 0 0, .slice none 0 0, .int .i64 0, .slice none 0 0] 53).below_ hB9 (TBlk.new _ _ _).lt
              have qb0 := qb.at_ 0 rfl
              have qb1 := qb.at_ 1 rfl
              have qb2 := qb.at_ 2 rfl
              have qb3 := qb.at_ 3 rfl
              have qb4 := qb.at_ 4 rfl
              have qf := fun j => qb.frozen j)
           | skip))
  · refine KEY _ A8 A9 c8 c9 W9.heap.size ?_ ?_ (TBlk.new _ _ _) (by omega) (by (repeat' (first | with_reducible assumption | with_reducible exact Below.refl _ _ | with_reducible refine Below.drew_ ?_ | with_reducible refine Below.setCell ?_ (by first | (simp; done) | (simp; omega)) _ | with_reducible refine Below.alloc0 ?_ _)))
    · exact (OwnI.stays 3).below _ _ _ _ _ (b_alloc _ _) ((OwnI.stays 3).below _ _ _ _ _ hB9 ((OwnI.stays 3).base _ _ _ _ _ (show Below wb.heap.size wb _ by (repeat' (first | with_reducible assumption | with_reducible exact Below.refl _ _ | with_reducible refine Below.drew_ ?_ | with_reducible refine Below.setCell ?_ (by first | (simp; done) | (simp; omega)) _ | with_reducible refine Below.alloc0 ?_ _))).size h8))
    · exact (OwnI.stays 3).below _ _ _ _ _ (b_alloc _ _) ((OwnI.stays 3).base _ _ _ _ _ (show Below wb.heap.size wb _ by (repeat' (first | with_reducible assumption | with_reducible exact Below.refl _ _ | with_reducible refine Below.drew_ ?_ | with_reducible refine Below.setCell ?_ (by first | (simp; done) | (simp; omega)) _ | with_reducible refine Below.alloc0 ?_ _))).size h9)
  · refine KEY _ A8 A9 c8 c9 W8.heap.size ?_ ?_ (((((qb.store 0 _).store 1 _).store 2 _).store 3 _).store 4 _) (by omega) (by (repeat' (first | with_reducible assumption | with_reducible exact Below.refl _ _ | with_reducible refine Below.drew_ ?_ | with_reducible refine Below.setCell ?_ (by first | (simp; done) | (simp; omega)) _ | with_reducible refine Below.alloc0 ?_ _)))
    · have o1 := (OwnI.stays 3).below _ _ _ _ _ hB9 ((OwnI.stays 3).below _ _ _ _ _ (b_alloc W8 (.cells #[.int .i64 0, .slice none 0 0, .slice none 0 0, .int .i64 0, .slice none 0 0] 53)) ((OwnI.stays 3).base _ _ _ _ _ (show Below wb.heap.size wb _ by (repeat' (first | with_reducible assumption | with_reducible exact Below.refl _ _ | with_reducible refine Below.drew_ ?_ | with_reducible refine Below.setCell ?_ (by first | (simp; done) | (simp; omega)) _ | with_reducible refine Below.alloc0 ?_ _))).size h8))
      exact OwnI.set5 o1 qb
    · exact OwnI.set5 ((OwnI.stays 3).base _ _ _ _ _ (show Below wb.heap.size wb _ by (repeat' (first | with_reducible assumption | with_reducible exact Below.refl _ _ | with_reducible refine Below.drew_ ?_ | with_reducible refine Below.setCell ?_ (by first | (simp; done) | (simp; omega)) _ | with_reducible refine Below.alloc0 ?_ _))).size h9) qb
  · refine KEY _ A8 A9 c8 c9 wb.heap.size ?_ ?_ (((((qb.store 0 _).store 1 _).store 2 _).store 3 _).store 4 _) (by omega) (by (repeat' (first | with_reducible assumption | with_reducible exact Below.refl _ _ | with_reducible refine Below.drew_ ?_ | with_reducible refine Below.setCell ?_ (by first | (simp; done) | (simp; omega)) _ | with_reducible refine Below.alloc0 ?_ _)))
    · exact OwnI.set5 ((OwnI.stays 3).below _ _ _ _ _ hB9 ((OwnI.stays 3).base _ _ _ _ _ (show Below wb.heap.size wb _ by (repeat' (first | with_reducible assumption | with_reducible exact Below.refl _ _ | with_reducible refine Below.drew_ ?_ | with_reducible refine Below.setCell ?_ (by first | (simp; done) | (simp; omega)) _ | with_reducible refine Below.alloc0 ?_ _))).size h8)) qb
    · exact OwnI.set5 ((OwnI.stays 3).base _ _ _ _ _ (show Below wb.heap.size wb _ by (repeat' (first | with_reducible assumption | with_reducible exact Below.refl _ _ | with_reducible refine Below.drew_ ?_ | with_reducible refine Below.setCell ?_ (by first | (simp; done) | (simp; omega)) _ | with_reducible refine Below.alloc0 ?_ _))).size h9) qb
end Go.Proofs.Ytjpcdbdaimonlaa
