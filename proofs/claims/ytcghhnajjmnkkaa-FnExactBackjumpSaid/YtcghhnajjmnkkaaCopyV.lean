/- The reference's copy of a store. -/
import Derived.Test.YtcghhnajjmnkkaaCopyT
namespace Go.Proofs.Ytcghhnajjmnkkaa
open Go.ChangeShapes Go.WideShapes Go.ChangeAt Go.RowKit
open Go.Shelf
set_option linter.unusedVariables false
set_option linter.unusedSimpArgs false
set_option maxRecDepth 100000

set_option maxHeartbeats 8000000 in
theorem scopySto (us : List Value) (s : Sto) (w : World) (h : StoR w w.heap.size us s) (hs : SmSto s) :
    Calls Try.prog 61 #[.agg us.toArray] w fun e w' => ∃ vs : List Value, e = .returned (.agg vs.toArray) ∧ OwnSto w' w.heap.size (.agg vs.toArray) s ∧ Below w.heap.size w w' := by
  obtain ⟨u, v, la, lc, rfl, hm, hl, -⟩ := h
  obtain ⟨s1, s2, s3⟩ := hs
  obtain ⟨da, nd, cd, ca, nc, cc, e2⟩ : ∃ (da : Option Addr) (nd cd : Nat) (ca : Option Addr) (nc cc : Nat), [u, v] = [.slice da nd cd, .slice ca nc cc] := by
    obtain ⟨da, ca, nd, cd, nc, cc, e⟩ := hm.two
    exact ⟨da, nd, cd, ca, nc, cc, e⟩
  simp only [List.cons.injEq, and_true] at e2
  obtain ⟨rfl, rfl⟩ := e2
  obtain ⟨i1, hi1, hy0, hy1, hy2⟩ := info_parts (P := Try.prog) (e := 22) (z := .slice none 0 0) (size := 1) (bytes := 24) (by kernel_rfl)
  obtain ⟨nl, hnl⟩ : ∃ nl, s.levels.length = nl := ⟨_, rfl⟩
  rw [hnl] at hl s2
  rw [hnl]
  obtain ⟨wa, hwa⟩ : ∃ wa, wa = w.alloc (.cells #[.slice da nd cd, .slice ca nc cc, .slice la nl lc] 50) := ⟨_, rfl⟩
  obtain ⟨wb, hwb⟩ : ∃ wb, wb = wa.alloc (.cells #[.slice none 0 0, .slice none 0 0, .slice none 0 0] 50) := ⟨_, rfl⟩
  have hb0 : Below w.heap.size w wa := by rw [hwa]; exact b_alloc _ _
  have hsa : wa.heap.size = w.heap.size + 1 := by rw [hwa, size_alloc_]
  have hb1 : Below wa.heap.size wa wb := by rw [hwb]; exact b_alloc _ _
  have hsb : wb.heap.size = w.heap.size + 1 + 1 := by rw [hwb, size_alloc_, hsa]
  have ha : TBlk 50 wa w.heap.size #[.slice da nd cd, .slice ca nc cc, .slice la nl lc] := by rw [hwa]; exact TBlk.new _ _ _
  have HA := Lib.hid (ha.below_ hb1 (by omega))
  have HR : Hid (TBlk 50 wb (w.heap.size + 1) #[.slice none 0 0, .slice none 0 0, .slice none 0 0]) := by rw [hwb, ← hsa]; exact TBlk.new _ _ _
  have hb01 := bgo hb0 hb1
  have G1 := Lib.hid (ModR.widens _ _ _ _ _ hb01.size (ModR.keeps _ _ _ _ _ (fun p hp => hb01.cell hp) hm))
  have G3 := Lib.hid (SlR.on (RowC.keeps IntC.keeps) (RowC.widens IntC.widens) hl hb01)
  have S4 := Lib.hid s3
  have SM := Lib.hid s1
  have HNL := Lib.hid hnl
  have hA2 : Hid (∀ w', Below wb.heap.size wb w' → w'.cell? ⟨w.heap.size, 2, none⟩ = some (.slice la nl lc)) := fun w' h => (HA.out.below_ h (by omega)).at_ 2 rfl
  have a0 : wb.cell? ⟨w.heap.size, 0, none⟩ = some (.slice da nd cd) := HA.out.at_ 0 rfl
  have a1 : wb.cell? ⟨w.heap.size, 1, none⟩ = some (.slice ca nc cc) := HA.out.at_ 1 rfl
  clear hm hl s1 s3 hnl ha hb0 hb1
  go_enter Try.func61, Try.ntmps61
  go_wp2_with fail
  rw [← hwa, ← hwb]
  clear hwa hwb
  have HSB := Lib.hid hsb
  clear hsb hsa
  go_wp2_with fail
  refine (scopyMod _ s.model _ G1.out SM.out).mono ?_
  rintro e W8 ⟨rs8, rfl, h8, hB8⟩
  obtain ⟨A, n, c, B, kk, d, rfl, -⟩ := OwnModL.shape h8
  have HM8 := Lib.hid h8
  obtain ⟨g3, hg⟩ : ∃ g3, g3 = W8.heap.size := ⟨_, rfl⟩
  have z8 := hB8.size
  clear a0 a1
  go_wp2_with fail
  obtain ⟨W, hW⟩ : ∃ W, W = W8.alloc (.cells #[.slice A n c, .slice B kk d, .slice none 0 0] 50) := ⟨_, rfl⟩
  have HT : Hid (TBlk 50 W g3 #[.slice A n c, .slice B kk d, .slice none 0 0]) := by rw [hW, hg]; exact TBlk.new _ _ _
  have hbW : Below W8.heap.size W8 W := by rw [hW]; exact b_alloc _ _
  have hg3 : W8.heap.size ≤ g3 := by rw [hg]; exact Nat.le_refl _
  rw [← hW, ← hg]
  clear hW hg h8
  go_wp2_with fail
  go_loopw [4] (fun i wr => ∃ (k : Nat) (rv : Value), k ≤ nl ∧ i = .int .i64 k ∧ Hid (TBlk 50 wr g3 #[.slice A n c, .slice B kk d, rv]) ∧ Hid (OwnOf 22 (OwnI 3) wr W8.heap.size rv (s.levels.take k)) ∧ Below W8.heap.size W8 wr) (fun i _ => nl - (intOf i).toNat)
  case atStart => exact ⟨0, _, by omega, rfl, HT, OwnRows.nil0 _ _, hbW⟩
  case round =>
    obtain ⟨k, rv, hk, rfl, ht, hq, hb8⟩ := hrel
    have hz8 := hb8.size
    have hb : Below wb.heap.size wb wr := hB8.trans (hb8.mono z8)
    have hzr := hb.size
    clear hbW HT
    have a4 := hA2.out _ hb
    by_cases hlt : k < nl
    · obtain ⟨ab, ao, row, u, rfl, hab, hxk, hcu, hrw⟩ := SlR.at_ (SlR.below (RowC.keeps IntC.keeps) G3.out hb) hlt
      obtain ⟨A2, d2, rfl, hri⟩ := hrw
      have hr1 := S4.out row (List.mem_of_getElem? hxk)
      have HX := Lib.hid (take_snoc hxk)
      have hlk : (s.levels.take k).length = k := by have := (List.getElem?_eq_some_iff.1 hxk).1; rw [List.length_take]; omega
      have HLK := Lib.hid hlk
      have hbd3 : Below wr.heap.size wr wr.drew := Below.drew_ (Below.refl _ _)
      have HRI := Lib.hid (IntR.on (hri.more IntC.widens hzr) hbd3)
      have hcu' : wr.drew.cell? ⟨ab, ao + k, none⟩ = some (.slice A2 row.length d2) := hcu
      have a4' : wr.drew.cell? ⟨w.heap.size, 2, none⟩ = some (.slice (some ⟨ab, ao, none⟩) nl lc) := a4
      have d5 : wr.drew.cell? ⟨g3, 2, none⟩ = some rv := ht.out.at_ 2 rfl
      clear hxk hri hlk
      go_wp2_with fail
      go_region_law (first
        | (refine step_append_any (by rfl) _ _ 26 (by rfl) W8.heap.size 22 i1 _ 1 24 Try.underlying26 hi1 hy0 hy1 hy2 rfl (by omega) rv k us (by rfl) ho6.out (some ⟨W6.heap.size, 0, none⟩) 1 [.slice A6 row.length d6] (by exact ⟨_, rfl, .inr ⟨_, rfl, rfl, cell_one_new _ _ _⟩⟩) (by simp [Value.oneCell']) (by unfold maxLen; omega) (by omega) (by rw [size_alloc_]; omega) ?_
           intro v1 W7 hown hbw hgr _
           obtain ⟨A7, c7, rfl⟩ := (HoldR.of_own hown).form
           have T7 : TBlk 50 W7 g3 #[.slice A n c, .slice B kk d, rv] := (hgr.block g3 T6.out.lt (own_blk (show (50 : TypeId) ≠ 22 by decide) ho6.out T6.out)).trans T6.out
           have d7 := T7.at_ 2 rfl
           have f7 := T7.frozen 2)
        | (go_simp
           go_at_call 79
           refine (scopy0 A2 row.length d2 row _ HRI.out hr1).mono ?_
           rintro e W6 ⟨v6, rfl, h6, hB6⟩
           obtain ⟨A6, d6, rfl⟩ := h6.form
           have b6 := bgo hbd3 hB6
           have d6a := (ht.out.below_ b6 ht.out.lt).at_ 2 rfl
           have d6b := fun o => ((ht.out.below_ b6 ht.out.lt).on (b_alloc W6 o)).at_ 2 rfl
           obtain ⟨us, u1, u2, u3, u4⟩ := (OwnOf.stays (OwnI.stays 3)).below _ _ _ _ _ (b_alloc W6 (.cells #[.slice A6 row.length d6] 22)) ((OwnOf.stays (OwnI.stays 3)).below _ _ _ _ _ b6 hq.out)
           have HU := Lib.hid (And.intro u1 (And.intro u2 u4))
           rw [HLK.out] at u2
           have ho6 := Lib.hid u2
           have H6 := Lib.hid ((OwnI.stays 3).below _ _ _ _ _ (b_alloc W6 (.cells #[.slice A6 row.length d6] 22)) ((OwnI.stays 3).base _ _ _ _ _ (Nat.le_trans hz8 hbd3.size) h6))
           have T6 := Lib.hid ((ht.out.below_ b6 ht.out.lt).on (b_alloc W6 (.cells #[.slice A6 row.length d6] 22)))
           have zz6 : W8.heap.size ≤ W6.heap.size := Nat.le_trans hz8 b6.size
           clear u1 u2 u3 u4 h6))
      all_goals
        have K1 := Lib.hid (T7.store 2 (.slice A7 (k + 1) c7))
        have K2 : Hid (OwnOf 22 (OwnI 3) (W7.setCell ⟨g3, 2, none⟩ (.slice A7 (k + 1) c7)) W8.heap.size (.slice A7 (k + 1) c7) (s.levels.take (k + 1))) := by
          show OwnOf _ _ _ _ _ _
          rw [HX.out]
          exact OwnOf.shuns (show (50 : TypeId) ≠ 22 by decide) (OwnI.shuns (show (50 : TypeId) ≠ 3 by decide)) _ _ _ _ _ 2 _ _ _ T7
            (OwnRows.snoc (show (3 : TypeId) ≠ 22 by decide) HU.out.1 HU.out.2.1 HU.out.2.2 H6.out (by rw [HLK.out]; omega) (by rw [HLK.out]; exact hown) hgr)
        have K5 : Below W8.heap.size W8 (W7.setCell ⟨g3, 2, none⟩ (.slice A7 (k + 1) c7)) := (((hb8.trans (b6.mono hz8)).trans ((b_alloc W6 (.cells #[.slice A6 row.length d6] 22)).mono zz6)).trans hbw).setCell hg3 _
        clear T7 d7 f7 hown hbw hgr
        go_wp2_with fail
        go_roundw
        case rel => exact ⟨k + 1, _, by omega, by go_num, K1, K2, K5⟩
        case measure => simp [intOf]; omega
    · obtain rfl : k = nl := by omega
      have htk : s.levels.take k = s.levels := by rw [← HNL.out, List.take_length]
      rw [htk] at hq
      obtain ⟨us, -, hu2, -⟩ := id hq.out
      obtain ⟨A7, c7, hrv⟩ := hq.out.form
      rw [HNL.out] at hrv
      subst hrv
      have hcap := own_cap hu2
      have b0 := ht.out.at_ 0 rfl
      have b1 := ht.out.at_ 1 rfl
      have b2 := ht.out.at_ 2 rfl
      have hq0 := HR.out.below_ hb (by have := HSB.out; omega)
      have p0 := hq0.at_ 0 rfl
      have p1 := hq0.at_ 1 rfl
      have p2 := hq0.at_ 2 rfl
      have f0 := hq0.frozen 0
      have f1 := hq0.frozen 1
      have f2 := hq0.frozen 2
      clear htk hu2
      go_wp2_with fail
      obtain ⟨WF, hWF⟩ : ∃ WF, WF = ((wr.setCell ⟨w.heap.size + 1, 0, none⟩ (.slice A n c)).setCell ⟨w.heap.size + 1, 1, none⟩ (.slice B kk d)).setCell ⟨w.heap.size + 1, 2, none⟩ (.slice A7 k c7) := ⟨_, rfl⟩
      have hqf : TBlk 50 WF (w.heap.size + 1) #[.slice A n c, .slice B kk d, .slice A7 k c7] := by
        rw [hWF]
        exact ((hq0.store 0 _).store 1 _).store 2 _
      have hzw : w.heap.size + 1 < W8.heap.size := by have := HSB.out; omega
      have hap : Apart W8.heap.size wr WF := by
        rw [hWF]
        exact (((Apart.refl _ _).set hzw 0 _).set hzw 1 _).set hzw 2 _
      have hap0 : Apart wb.heap.size wr WF := by
        rw [hWF]
        have := HSB.out
        exact (((Apart.refl _ _).set (by omega) 0 _).set (by omega) 1 _).set (by omega) 2 _
      have hbf : Below w.heap.size w WF := by
        rw [hWF]
        refine (hb01.trans (hb.mono (by have := HSB.out; omega))).trans ?_
        repeat' (first | exact Below.refl _ _ | refine Below.setCell ?_ (by simp) _)
      have hfin : OwnSto WF w.heap.size (.agg #[.slice A n c, .slice B kk d, .slice A7 k c7]) s :=
        ⟨_, _, _, rfl, OwnMod.base_ (OwnMod.apart (OwnMod.below HM8.out hb8) hap0) (by have := HSB.out; omega), (OwnOf.stays (OwnI.stays 3)).base _ _ _ _ _ (by omega) (OwnRows.apart hq.out hap)⟩
      have FIN := Lib.hid (And.intro hfin hbf)
      rw [← hWF]
      have r0 := hqf.at_ 0 rfl
      have r1 := hqf.at_ 1 rfl
      have r2 := hqf.at_ 2 rfl
      clear hfin hbf hap hqf hq0 hWF
      go_wp2_with fail
      exact bodyPost_ret (v := .agg #[.slice A n c, .slice B kk d, .slice A7 k c7]) (by simp [results, Try.results61, go_sem, r0, r1, r2]) rfl ⟨[.slice A n c, .slice B kk d, .slice A7 k c7], rfl, FIN.out.1, FIN.out.2⟩
end Go.Proofs.Ytcghhnajjmnkkaa
