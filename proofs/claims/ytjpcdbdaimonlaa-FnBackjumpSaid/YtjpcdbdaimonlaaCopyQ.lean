/- The reference's copies of models. -/
import Derived.Test.YtjpcdbdaimonlaaCopyP
namespace Go.Proofs.Ytjpcdbdaimonlaa
open Go.ChangeShapes Go.WideShapes Go.ChangeAt Go.RowKit
open Go.Shelf
set_option linter.unusedVariables false
set_option maxRecDepth 100000

theorem erase_same {α : Type} {xs : List α} {k : Nat} (h : k < xs.length) : (xs.take (k + 1)).eraseIdx k = (xs.take k).eraseIdx k := by
  have e := take_snoc (List.getElem?_eq_getElem h)
  have hl : (xs.take k).length = k := by rw [List.length_take]; omega
  have e2 : (xs.take k).eraseIdx k = xs.take k := List.eraseIdx_of_length_le (by omega)
  rw [e, List.eraseIdx_append_of_length_le (by omega), hl, Nat.sub_self, e2]
  simp
theorem erase_other {α : Type} {xs : List α} {k i : Nat} {x : α} (h : xs[k]? = some x) (hi : k ≠ i) : (xs.take (k + 1)).eraseIdx i = (xs.take k).eraseIdx i ++ [x] := by
  have hk := (List.getElem?_eq_some_iff.1 h).1
  have hl : (xs.take k).length = k := by rw [List.length_take]; omega
  rw [take_snoc h]
  rcases Nat.lt_or_ge i k with hlt | hge
  · rw [List.eraseIdx_append_of_lt_length (by omega)]
  · rw [List.eraseIdx_of_length_le (by rw [List.length_append, hl]; simp; omega), List.eraseIdx_of_length_le (by omega)]
set_option maxHeartbeats 8000000 in
theorem scopyMod (us : List Value) (m : Mod) (w : World) (h : ModR w w.heap.size us m) (hs : SmMod m) :
    Calls Try.prog 34 #[.agg us.toArray] w fun e w' => ∃ vs : List Value, e = .returned (.agg vs.toArray) ∧ OwnMod w' w.heap.size (.agg vs.toArray) m ∧ Below w.heap.size w w' := by
  obtain ⟨da, ca, cd, cc, rfl, g1, g2, -, -⟩ := h
  obtain ⟨s1, s2, s3⟩ := hs
  obtain ⟨i1, hi1, hy0, hy1, hy2⟩ := info_parts (P := Try.prog) (e := 53) (z := .agg #[.int .i64 0, .slice none 0 0, .slice none 0 0, .int .i64 0, .slice none 0 0]) (size := 5) (bytes := 88) (by kernel_rfl)
  obtain ⟨nd, hnd⟩ : ∃ nd, m.doms.length = nd := ⟨_, rfl⟩
  obtain ⟨nc, hnc⟩ : ∃ nc, m.cons.length = nc := ⟨_, rfl⟩
  rw [hnd] at g1
  rw [hnc] at g2 s2
  have t1 : nd ≤ 1048576 := by rw [← hnd]; exact s1
  rw [hnd, hnc]
  obtain ⟨wa, hwa⟩ : ∃ wa, wa = w.alloc (.cells #[.slice da nd cd, .slice ca nc cc] 26) := ⟨_, rfl⟩
  obtain ⟨wb, hwb⟩ : ∃ wb, wb = wa.alloc (.cells #[.slice none 0 0, .slice none 0 0] 26) := ⟨_, rfl⟩
  have hb0 : Below w.heap.size w wa := by rw [hwa]; exact b_alloc _ _
  have hsa : wa.heap.size = w.heap.size + 1 := by rw [hwa, size_alloc_]
  have hb1 : Below wa.heap.size wa wb := by rw [hwb]; exact b_alloc _ _
  have hsb : wb.heap.size = w.heap.size + 1 + 1 := by rw [hwb, size_alloc_, hsa]
  have ha : TBlk 26 wa w.heap.size #[.slice da nd cd, .slice ca nc cc] := by rw [hwa]; exact TBlk.new _ _ _
  have HA := Lib.hid (ha.below_ hb1 (by omega))
  have HR : Hid (TBlk 26 wb (w.heap.size + 1) #[.slice none 0 0, .slice none 0 0]) := by rw [hwb, ← hsa]; exact TBlk.new _ _ _
  have hb01 := bgo hb0 hb1
  have G1 := Lib.hid (IntR.on g1 hb01)
  have G2 := Lib.hid (SlK.on_ ConR.keeps ConR.widens g2 hb01)
  have S3 := Lib.hid s3
  have HND := Lib.hid hnd
  have HNC := Lib.hid hnc
  have hA1 : Hid (∀ w', Below wb.heap.size wb w' → w'.cell? ⟨w.heap.size, 1, none⟩ = some (.slice ca nc cc)) := fun w' h => (HA.out.below_ h (by omega)).at_ 1 rfl
  have a0 : wb.cell? ⟨w.heap.size, 0, none⟩ = some (.slice da nd cd) := HA.out.at_ 0 rfl
  clear g1 g2 s1 s3 hnd hnc ha hb0 hb1
  go_enter Try.func34, Try.ntmps34
  go_wp2_with fail
  rw [← hwa, ← hwb]
  clear hwa hwb
  have HSB := Lib.hid hsb
  clear hsb hsa
  go_wp2_with fail
  refine (scopy0 da nd cd m.doms _ G1.out t1).mono ?_
  rintro e W8 ⟨v8, rfl, h8, hB8⟩
  obtain ⟨A8, c8, rfl⟩ := h8.form
  obtain ⟨g3, hg⟩ : ∃ g3, g3 = W8.heap.size := ⟨_, rfl⟩
  have hz8 := hB8.size
  clear a0
  go_wp2_with fail
  obtain ⟨W, hW⟩ : ∃ W, W = W8.alloc (.cells #[.slice A8 m.doms.length c8, .slice none 0 0] 26) := ⟨_, rfl⟩
  have HT : Hid (TBlk 26 W g3 #[.slice A8 m.doms.length c8, .slice none 0 0]) := by rw [hW, hg]; exact TBlk.new _ _ _
  have hbW : Below wb.heap.size wb W := by rw [hW]; exact bgo hB8 (b_alloc _ _)
  have H8 : Hid (OwnI 3 W wb.heap.size (.slice A8 m.doms.length c8) m.doms) := by rw [hW]; exact (OwnI.stays 3).below _ _ _ _ _ (b_alloc _ _) h8
  have hg3 : wb.heap.size ≤ g3 := by rw [hg]; exact hz8
  rw [← hW, ← hg]
  clear hW hg h8 hB8 hz8
  go_wp2_with fail
  go_loopw [4] (fun i wr => ∃ (k q : Nat) (cv : Value), k ≤ nc ∧ i = .int .i64 k ∧ Hid (TBlk 26 wr g3 #[.slice A8 m.doms.length c8, cv]) ∧ Hid (OwnCons wr wb.heap.size cv ((m.cons.take k).eraseIdx m.cons.length)) ∧ Hid (((m.cons.take k).eraseIdx m.cons.length).length = q) ∧ Hid (OwnI 3 wr wb.heap.size (.slice A8 m.doms.length c8) m.doms) ∧ Below wb.heap.size wb wr) (fun i _ => nc - (intOf i).toNat)
  case atStart => exact ⟨0, 0, _, by omega, rfl, HT, OwnCons.nil0 _ _, rfl, H8, hbW⟩
  case round =>
    obtain ⟨k, q, cv, hk, rfl, ht, hq, hln, k8, hb⟩ := hrel
    have hzr := hb.size
    clear H8 hbW HT
    have a4 := hA1.out _ hb
    by_cases hlt : k < nc
    · obtain ⟨ab, ao, x, us, rfl, hab, hxk, hul, hcx, hc⟩ := SlK.at_ (SlK.below ConR.keeps G2.out hb) hlt
      have hqk : q ≤ k := by
        have h1 : q ≤ (m.cons.take k).length := by rw [← hln.out]; exact List.length_eraseIdx_le _ _
        rw [List.length_take] at h1
        omega
      have HC0 := Lib.hid (show ConR wr.drew wr.drew.heap.size us x from ConR.widens _ _ _ _ _ hzr (ConR.keeps _ wr.drew _ _ _ (fun p hp => rfl) hc))
      have hbd3 : Below wr.heap.size wr wr.drew := Below.drew_ (Below.refl _ _)
      obtain ⟨va, aa, ra, cv1, ca1, cr1, rfl, -⟩ := hc
      have c0 : wr.drew.cell? ⟨ab, ao + k * 5, none⟩ = some (.int .i64 x.kind) := hcx 0 _ rfl
      have c1 : wr.drew.cell? ⟨ab, ao + k * 5 + 1, none⟩ = some (.slice va x.vars.length cv1) := hcx 1 _ rfl
      have c2 : wr.drew.cell? ⟨ab, ao + k * 5 + 2, none⟩ = some (.slice aa x.args.length ca1) := hcx 2 _ rfl
      have c3 : wr.drew.cell? ⟨ab, ao + k * 5 + 3, none⟩ = some (.int .i64 x.bound) := hcx 3 _ rfl
      have c4 : wr.drew.cell? ⟨ab, ao + k * 5 + 4, none⟩ = some (.slice ra x.rows.length cr1) := hcx 4 _ rfl
      have a4' : wr.drew.cell? ⟨w.heap.size, 1, none⟩ = some (.slice (some ⟨ab, ao, none⟩) nc cc) := a4
      have d5 : wr.drew.cell? ⟨g3, 1, none⟩ = some cv := ht.out.at_ 1 rfl
      have HX := Lib.hid (erase_other (i := m.cons.length) hxk (by have := (List.getElem?_eq_some_iff.1 hxk).1; omega))
      have HXM := Lib.hid (S3.out x (List.mem_of_getElem? hxk))
      clear hxk hcx
      go_wp2_with fail
      go_region_law (first
        | (refine step_append_any (by rfl) _ _ 24 (by rfl) wb.heap.size 53 i1 _ 5 88 Try.underlying24 hi1 hy0 hy1 hy2 rfl (by omega) cv q uss.flatten (by rfl) ho6.out (some ⟨W6.heap.size, 0, none⟩) 1 [.int .i64 x.kind, .slice va2 x.vars.length cv2, .slice aa2 x.args.length ca2, .int .i64 x.bound, .slice ra2 x.rows.length cr2] (by exact ⟨_, rfl, .inr ⟨_, rfl, rfl, HS6.out⟩⟩) (by simp [Value.oneCell']) (by unfold maxLen; omega) (by omega) (by rw [size_alloc_]; omega) ?_
           intro v1 W7 hown hbw hgr _
           obtain ⟨A7, c7, rfl⟩ := (HoldR.of_own hown).form
           have T7 : TBlk 26 W7 g3 #[.slice A8 m.doms.length c8, cv] := (hgr.block g3 T6.out.lt (own_blk (show (26 : TypeId) ≠ 53 by decide) ho6.out T6.out)).trans T6.out
           have d7 := T7.at_ 1 rfl
           have f7 := T7.frozen 1)
        | (go_simp
           go_at_call 51
           refine (scopyCon _ x wr.drew HC0.out HXM.out).mono ?_
           rintro e W6 ⟨vs, rfl, hX, hB6⟩
           obtain ⟨va2, aa2, ra2, cv2, ca2, cr2, rfl, -⟩ := OwnConU.read hX
           have b6 := bgo hbd3 hB6
           have d6a := (ht.out.below_ b6 ht.out.lt).at_ 1 rfl
           have d6b := fun o => ((ht.out.below_ b6 ht.out.lt).below_ (b_alloc W6 o) (by have := (ht.out.below_ b6 ht.out.lt).lt; exact this)).at_ 1 rfl
           obtain ⟨uss, u1, u0, u2, u3, u4⟩ := (OwnK.stays OwnConU.stays).below _ _ _ _ _ (b_alloc W6 (.cells #[.int .i64 x.kind, .slice va2 x.vars.length cv2, .slice aa2 x.args.length ca2, .int .i64 x.bound, .slice ra2 x.rows.length cr2] 53)) ((OwnK.stays OwnConU.stays).below _ _ _ _ _ b6 hq.out)
           have HU := Lib.hid (And.intro u1 (And.intro u0 (And.intro u2 u4)))
           rw [hln.out] at u2
           have ho6 := Lib.hid u2
           have HC6 := Lib.hid (OwnConU.stays.below _ _ _ _ _ (b_alloc W6 (.cells #[.int .i64 x.kind, .slice va2 x.vars.length cv2, .slice aa2 x.args.length ca2, .int .i64 x.bound, .slice ra2 x.rows.length cr2] 53)) (OwnConU.stays.base _ _ _ _ _ (Nat.le_trans hzr hbd3.size) hX))
           have T6 := Lib.hid ((ht.out.below_ b6 ht.out.lt).below_ (b_alloc W6 (.cells #[.int .i64 x.kind, .slice va2 x.vars.length cv2, .slice aa2 x.args.length ca2, .int .i64 x.bound, .slice ra2 x.rows.length cr2] 53)) (by have := (ht.out.below_ b6 ht.out.lt).lt; exact this))
           have HS6 : Hid (∀ j u, [.int .i64 x.kind, .slice va2 x.vars.length cv2, .slice aa2 x.args.length ca2, .int .i64 x.bound, .slice ra2 x.rows.length cr2][j]? = some u → (W6.alloc (.cells #[.int .i64 x.kind, .slice va2 x.vars.length cv2, .slice aa2 x.args.length ca2, .int .i64 x.bound, .slice ra2 x.rows.length cr2] 53)).cell? ((⟨W6.heap.size, 0, none⟩ : Addr).add j) = some u) := by
             intro j u hu
             rw [add_own]
             exact (TBlk.new W6 _ 53).at_ j (by simpa using hu)
           have zz6 : wb.heap.size ≤ W6.heap.size := Nat.le_trans hzr b6.size
           clear u1 u0 u2 u3 u4 hX))
      all_goals
        have K1 := Lib.hid (T7.store 1 (.slice A7 (q + 1) c7))
        have K2 : Hid (OwnCons (W7.setCell ⟨g3, 1, none⟩ (.slice A7 (q + 1) c7)) wb.heap.size (.slice A7 (q + 1) c7) ((m.cons.take (k + 1)).eraseIdx m.cons.length)) := by
          show OwnCons _ _ _ _
          rw [HX.out]
          exact OwnK.shuns (show (26 : TypeId) ≠ 53 by decide) OwnConU.shunsM _ _ _ _ _ 1 _ _ (.slice A7 (q + 1) c7) T7
            (OwnK.snoc (OwnConU.grows (show (3 : TypeId) ≠ 53 by decide) (show (23 : TypeId) ≠ 53 by decide)) HU.out.1 HU.out.2.1 HU.out.2.2.1 HU.out.2.2.2 HC6.out rfl (by rw [hln.out]; omega) (by rw [hln.out]; exact hown) hgr)
        have K3 := Lib.hid (OwnI.shuns (show (26 : TypeId) ≠ 3 by decide) _ _ _ _ _ 1 _ _ (.slice A7 (q + 1) c7) T7 (OwnI.grown (show (3 : TypeId) ≠ 53 by decide) ho6.out hgr ((OwnI.stays 3).below _ _ _ _ _ (b_alloc W6 (.cells #[.int .i64 x.kind, .slice va2 x.vars.length cv2, .slice aa2 x.args.length ca2, .int .i64 x.bound, .slice ra2 x.rows.length cr2] 53)) ((OwnI.stays 3).below _ _ _ _ _ b6 k8.out))))
        have K5 : Below wb.heap.size wb (W7.setCell ⟨g3, 1, none⟩ (.slice A7 (q + 1) c7)) := (((hb.trans (b6.mono hzr)).trans ((b_alloc W6 (.cells #[.int .i64 x.kind, .slice va2 x.vars.length cv2, .slice aa2 x.args.length ca2, .int .i64 x.bound, .slice ra2 x.rows.length cr2] 53)).mono zz6)).trans hbw).setCell hg3 _
        have K6 : Hid (((m.cons.take (k + 1)).eraseIdx m.cons.length).length = q + 1) := by
          show _ = _
          rw [HX.out, List.length_append, hln.out]; rfl
        clear T7 d7 f7 hown hbw hgr
        go_wp2_with fail
        go_roundw
        case rel => exact ⟨k + 1, q + 1, _, by omega, by go_num, K1, K2, K6, K3, K5⟩
        case measure => simp [intOf]; omega
    · obtain rfl : k = nc := by omega
      have htk : m.cons.take k = m.cons := by rw [← HNC.out, List.take_length]
      rw [htk] at hq hln
      obtain ⟨A9, c9, hrv⟩ := hq.out.form
      rw [hln.out] at hrv
      subst hrv
      have b0 := ht.out.at_ 0 rfl
      have b1 := ht.out.at_ 1 rfl
      have hq0 := HR.out.below_ hb (by have := HSB.out; omega)
      have q0 := hq0.at_ 0 rfl
      have q1 := hq0.at_ 1 rfl
      have f0 := hq0.frozen 0
      have f1 := hq0.frozen 1
      clear htk
      go_wp2_with fail
      obtain ⟨WF, hWF⟩ : ∃ WF, WF = (wr.setCell ⟨w.heap.size + 1, 0, none⟩ (.slice A8 m.doms.length c8)).setCell ⟨w.heap.size + 1, 1, none⟩ (.slice A9 q c9) := ⟨_, rfl⟩
      have hqf : TBlk 26 WF (w.heap.size + 1) #[.slice A8 m.doms.length c8, .slice A9 q c9] := by
        rw [hWF]
        exact (hq0.store 0 _).store 1 _
      have hap : Apart wb.heap.size wr WF := by
        rw [hWF]
        have := HSB.out
        exact ((Apart.refl _ _).set (by omega) 0 _).set (by omega) 1 _
      have hbf : Below w.heap.size w WF := by
        rw [hWF]
        refine (hb01.trans (hb.mono (by have := HSB.out; omega))).trans ?_
        repeat' (first | exact Below.refl _ _ | refine Below.setCell ?_ (by simp) _)
      have hfin : OwnMod WF w.heap.size (.agg #[.slice A8 m.doms.length c8, .slice A9 q c9]) m := by
        have hbase : w.heap.size ≤ wb.heap.size := by have := HSB.out; omega
        refine ⟨_, _, rfl, (OwnI.stays 3).base _ _ _ _ _ hbase (OwnI.apart k8.out hap), (OwnK.stays OwnConU.stays).base _ _ _ _ _ hbase (OwnCons.apart ?_ hap)⟩
        exact (by have h7 := hq.out; rw [List.eraseIdx_of_length_le (Nat.le_refl _)] at h7; exact h7)
      have FIN := Lib.hid (And.intro hfin hbf)
      rw [← hWF]
      have r0 := hqf.at_ 0 rfl
      have r1 := hqf.at_ 1 rfl
      clear hfin hbf hap hqf hq0 hWF
      go_wp2_with fail
      exact bodyPost_ret (v := .agg #[.slice A8 m.doms.length c8, .slice A9 q c9]) (by simp [results, Try.results34, go_sem, r0, r1]) rfl ⟨[.slice A8 m.doms.length c8, .slice A9 q c9], rfl, FIN.out.1, FIN.out.2⟩
end Go.Proofs.Ytjpcdbdaimonlaa
