/- The reference's WithConstraint and WithoutConstraint. -/
import Derived.Test.YtejfnkbdmlijbaaCopyQ
import Derived.Test.YtejfnkbdmlijbaaVmod
namespace Go.Proofs.Ytejfnkbdmlijbaa
open Go.ChangeShapes Go.WideShapes Go.ChangeAt Go.RowKit
open Go.Shelf
set_option linter.unusedVariables false
set_option maxRecDepth 100000

def addC (m : Mod) (c : Con) : Mod := ⟨m.doms, m.cons ++ [c]⟩
def withM (m : Mod) (c : Con) : Mod := if vmodF (addC m c) then addC m c else ⟨[], []⟩
def outOk (m : Mod) (i : Int) : Bool := vmodF m && inB i 0 ((m.cons.length : Int) - 1)
def outM (m : Mod) (i : Int) : Mod := if outOk m i then ⟨m.doms, m.cons.eraseIdx i.toNat⟩ else ⟨[], []⟩
theorem OwnMod.zero (w : World) (B : Nat) : OwnMod w B (.agg #[.slice none 0 0, .slice none 0 0]) ⟨[], []⟩ := ⟨_, _, rfl, ⟨World.ownsRow_nil _ _ _ _, by simp⟩, OwnCons.nil0 _ _⟩
set_option maxHeartbeats 8000000 in
theorem sWith (us vs : List Value) (m : Mod) (x : Con) (w : World) (hm : ModR w w.heap.size us m) (hc : ConR w w.heap.size vs x) (sm : SmMod m) (sc : SmCon x) :
    Calls Try.prog 16 #[.agg us.toArray, .agg vs.toArray] w fun e w' => ∃ rs : List Value, e = .returned (.tuple #[.agg rs.toArray, .bool (vmodF (addC m x))]) ∧ OwnMod w' w.heap.size (.agg rs.toArray) (withM m x) ∧ Below w.heap.size w w' := by
  obtain ⟨i1, hi1, hy0, hy1, hy2⟩ := info_parts (P := Try.prog) (e := 35) (z := .agg #[.int .i64 0, .slice none 0 0, .slice none 0 0, .int .i64 0, .slice none 0 0]) (size := 5) (bytes := 88) (by kernel_rfl)
  have HM := Lib.hid hm
  have HC := Lib.hid hc
  have SM := Lib.hid sm
  have SC := Lib.hid sc
  have s2 : m.cons.length ≤ 1048576 := sm.2.1
  clear sm sc
  obtain ⟨da, ca, cd, cc, rfl, -⟩ := hm
  obtain ⟨va, aa, ra, cv1, ca1, cr1, rfl, -⟩ := hc
  obtain ⟨wa, hwa⟩ : ∃ wa, wa = w.alloc (.cells #[.slice da m.doms.length cd, .slice ca m.cons.length cc] 26) := ⟨_, rfl⟩
  obtain ⟨wc, hwc⟩ : ∃ wc, wc = wa.alloc (.cells #[.int .i64 x.kind, .slice va x.vars.length cv1, .slice aa x.args.length ca1, .int .i64 x.bound, .slice ra x.rows.length cr1] 35) := ⟨_, rfl⟩
  obtain ⟨wb, hwb⟩ : ∃ wb, wb = wc.alloc (.cells #[.slice none 0 0, .slice none 0 0] 26) := ⟨_, rfl⟩
  have hsa : wa.heap.size = w.heap.size + 1 := by rw [hwa, size_alloc_]
  have hsc : wc.heap.size = w.heap.size + 1 + 1 := by rw [hwc, size_alloc_, hsa]
  have hsb : wb.heap.size = w.heap.size + 1 + 1 + 1 := by rw [hwb, size_alloc_, hsc]
  have hb0 : Below w.heap.size w wa := by rw [hwa]; exact b_alloc _ _
  have hbc : Below wa.heap.size wa wc := by rw [hwc]; exact b_alloc _ _
  have hb1 : Below wc.heap.size wc wb := by rw [hwb]; exact b_alloc _ _
  have hb01 := bgo (bgo hb0 hbc) hb1
  have HA : Hid (TBlk 26 wb w.heap.size #[.slice da m.doms.length cd, .slice ca m.cons.length cc]) := (TBlk.below_ (by rw [hwa]; exact TBlk.new _ _ _) hbc (by omega)).below_ hb1 (by omega)
  have HC3 : Hid (TBlk 35 wb (w.heap.size + 1) #[.int .i64 x.kind, .slice va x.vars.length cv1, .slice aa x.args.length ca1, .int .i64 x.bound, .slice ra x.rows.length cr1]) := TBlk.below_ (w := wc) (by rw [hwc, ← hsa]; exact TBlk.new _ _ _) hb1 (by omega)
  have HR : Hid (TBlk 26 wb (w.heap.size + 1 + 1) #[.slice none 0 0, .slice none 0 0]) := by rw [hwb, ← hsc]; exact TBlk.new _ _ _
  have GM := Lib.hid (ModR.widens _ _ _ _ _ hb01.size (ModR.keeps _ _ _ _ _ (fun p hp => hb01.cell hp) HM.out))
  have GC := Lib.hid (ConR.widens _ _ _ _ _ hb01.size (ConR.keeps _ _ _ _ _ (fun p hp => hb01.cell hp) HC.out))
  have a0 : wb.cell? ⟨w.heap.size, 0, none⟩ = some (.slice da m.doms.length cd) := HA.out.at_ 0 rfl
  have a1 : wb.cell? ⟨w.heap.size, 1, none⟩ = some (.slice ca m.cons.length cc) := HA.out.at_ 1 rfl
  clear hb0 hbc hb1
  go_enter Try.func16, Try.ntmps16
  go_wp2_with fail
  rw [← hwa, ← hwc, ← hwb]
  clear hwa hwc hwb
  have HSB := Lib.hid hsb
  clear hsb hsa hsc
  go_wp2_with fail
  refine (scopyMod _ m _ GM.out SM.out).mono ?_
  rintro e W8 ⟨rs8, rfl, h8, hB8⟩
  have h8' := h8
  obtain ⟨dv8, cv8, e8, k1, k2⟩ := h8'
  obtain ⟨A8, c8, rfl⟩ := k1.form
  obtain ⟨A9, c9, rfl⟩ := k2.form
  obtain rfl : rs8 = [.slice A8 m.doms.length c8, .slice A9 m.cons.length c9] := by
    injection e8 with e8
    exact List.toArray_inj e8
  clear e8 h8
  obtain ⟨g3, hg⟩ : ∃ g3, g3 = W8.heap.size := ⟨_, rfl⟩
  have hz8 := hB8.size
  clear a0 a1
  go_wp2_with fail
  obtain ⟨wr, hW⟩ : ∃ W, W = W8.alloc (.cells #[.slice A8 m.doms.length c8, .slice A9 m.cons.length c9] 26) := ⟨_, rfl⟩
  have ht : Hid (TBlk 26 wr g3 #[.slice A8 m.doms.length c8, .slice A9 m.cons.length c9]) := by rw [hW, hg]; exact TBlk.new _ _ _
  have hb : Below wb.heap.size wb wr := by rw [hW]; exact bgo hB8 (b_alloc _ _)
  have k8 : Hid (OwnI 3 wr wb.heap.size (.slice A8 m.doms.length c8) m.doms) := by rw [hW]; exact (OwnI.stays 3).below _ _ _ _ _ (b_alloc _ _) k1
  have hq : Hid (OwnCons wr wb.heap.size (.slice A9 m.cons.length c9) m.cons) := by rw [hW]; exact (OwnK.stays OwnConU.stays).below _ _ _ _ _ (b_alloc _ _) k2
  have hg3 : wb.heap.size ≤ g3 := by rw [hg]; exact hz8
  rw [← hW, ← hg]
  clear hW hg k1 k2 hB8 hz8
  have hzr := hb.size
  have hbd3 : Below wr.heap.size wr wr.drew := Below.drew_ (Below.refl _ _)
  have hbr : Below wb.heap.size wb wr.drew := hb.trans (hbd3.mono hzr)
  have HC0 := Lib.hid (show ConR wr.drew wr.drew.heap.size _ x from ConR.widens _ _ _ _ _ hzr (ConR.keeps _ wr.drew _ _ _ (fun p hp => hbr.cell hp) GC.out))
  have hc3 := HC3.out.below_ hbr (by have := HSB.out; omega)
  have c0 := hc3.at_ 0 rfl
  have c1 := hc3.at_ 1 rfl
  have c2 := hc3.at_ 2 rfl
  have c3 := hc3.at_ 3 rfl
  have c4 := hc3.at_ 4 rfl
  have d5 : wr.drew.cell? ⟨g3, 1, none⟩ = some (.slice A9 m.cons.length c9) := ht.out.at_ 1 rfl
  clear hc3
  go_wp2_with fail
  go_region_law (first
    | (refine step_append_any (by rfl) _ _ 24 (by rfl) wb.heap.size 35 i1 _ 5 88 Try.underlying24 hi1 hy0 hy1 hy2 rfl (by omega) (.slice A9 m.cons.length c9) m.cons.length uss.flatten (by rfl) ho6.out (some ⟨W6.heap.size, 0, none⟩) 1 [.int .i64 x.kind, .slice va2 x.vars.length cv2, .slice aa2 x.args.length ca2, .int .i64 x.bound, .slice ra2 x.rows.length cr2] (by exact ⟨_, rfl, .inr ⟨_, rfl, rfl, HS6.out⟩⟩) (by simp [Value.oneCell']) (by unfold maxLen; omega) (by omega) (by rw [size_alloc_]; omega) ?_
       intro v1 W7 hown hbw hgr _
       obtain ⟨A7, c7, rfl⟩ := (HoldR.of_own hown).form
       have T7 : TBlk 26 W7 g3 #[.slice A8 m.doms.length c8, .slice A9 m.cons.length c9] := (hgr.block g3 T6.out.lt (own_blk (show (26 : TypeId) ≠ 35 by decide) ho6.out T6.out)).trans T6.out
       have d7 := T7.at_ 1 rfl
       have f7 := T7.frozen 1)
    | (go_simp
       go_at_call 53
       refine (scopyCon _ x wr.drew HC0.out SC.out).mono ?_
       rintro e W6 ⟨vs6, rfl, hX, hB6⟩
       obtain ⟨va2, aa2, ra2, cv2, ca2, cr2, rfl, -⟩ := OwnConU.read hX
       have b6 := bgo hbd3 hB6
       have d6a := (ht.out.below_ b6 ht.out.lt).at_ 1 rfl
       have d6b := fun o => ((ht.out.below_ b6 ht.out.lt).below_ (b_alloc W6 o) (by have := (ht.out.below_ b6 ht.out.lt).lt; exact this)).at_ 1 rfl
       obtain ⟨uss, u1, u0, u2, u3, u4⟩ := (OwnK.stays OwnConU.stays).below _ _ _ _ _ (b_alloc W6 (.cells #[.int .i64 x.kind, .slice va2 x.vars.length cv2, .slice aa2 x.args.length ca2, .int .i64 x.bound, .slice ra2 x.rows.length cr2] 35)) ((OwnK.stays OwnConU.stays).below _ _ _ _ _ b6 hq.out)
       have HU := Lib.hid (And.intro u1 (And.intro u0 (And.intro u2 u4)))
       have ho6 := Lib.hid u2
       have HC6 := Lib.hid (OwnConU.stays.below _ _ _ _ _ (b_alloc W6 (.cells #[.int .i64 x.kind, .slice va2 x.vars.length cv2, .slice aa2 x.args.length ca2, .int .i64 x.bound, .slice ra2 x.rows.length cr2] 35)) (OwnConU.stays.base _ _ _ _ _ (Nat.le_trans hzr hbd3.size) hX))
       have T6 := Lib.hid ((ht.out.below_ b6 ht.out.lt).below_ (b_alloc W6 (.cells #[.int .i64 x.kind, .slice va2 x.vars.length cv2, .slice aa2 x.args.length ca2, .int .i64 x.bound, .slice ra2 x.rows.length cr2] 35)) (by have := (ht.out.below_ b6 ht.out.lt).lt; exact this))
       have HS6 : Hid (∀ j u, [.int .i64 x.kind, .slice va2 x.vars.length cv2, .slice aa2 x.args.length ca2, .int .i64 x.bound, .slice ra2 x.rows.length cr2][j]? = some u → (W6.alloc (.cells #[.int .i64 x.kind, .slice va2 x.vars.length cv2, .slice aa2 x.args.length ca2, .int .i64 x.bound, .slice ra2 x.rows.length cr2] 35)).cell? ((⟨W6.heap.size, 0, none⟩ : Addr).add j) = some u) := by
         intro j u hu
         rw [add_own]
         exact (TBlk.new W6 _ 35).at_ j (by simpa using hu)
       have zz6 : wb.heap.size ≤ W6.heap.size := Nat.le_trans hzr b6.size
       clear u1 u0 u2 u3 u4 hX))
  all_goals
    have K1 := Lib.hid (T7.store 1 (.slice A7 (m.cons.length + 1) c7))
    have K2 : OwnCons (W7.setCell ⟨g3, 1, none⟩ (.slice A7 (m.cons.length + 1) c7)) wb.heap.size (.slice A7 (m.cons.length + 1) c7) (m.cons ++ [x]) :=
      OwnK.shuns (show (26 : TypeId) ≠ 35 by decide) OwnConU.shunsM _ _ _ _ _ 1 _ _ (.slice A7 (m.cons.length + 1) c7) T7
        (OwnK.snoc (OwnConU.grows (show (3 : TypeId) ≠ 35 by decide) (show (23 : TypeId) ≠ 35 by decide)) HU.out.1 HU.out.2.1 HU.out.2.2.1 HU.out.2.2.2 HC6.out rfl (by omega) hown hgr)
    have K3 := (OwnI.shuns (show (26 : TypeId) ≠ 3 by decide) _ _ _ _ _ 1 _ _ (.slice A7 (m.cons.length + 1) c7) T7 (OwnI.grown (show (3 : TypeId) ≠ 35 by decide) ho6.out hgr ((OwnI.stays 3).below _ _ _ _ _ (b_alloc W6 (.cells #[.int .i64 x.kind, .slice va2 x.vars.length cv2, .slice aa2 x.args.length ca2, .int .i64 x.bound, .slice ra2 x.rows.length cr2] 35)) ((OwnI.stays 3).below _ _ _ _ _ b6 k8.out))))
    have K5 : Below wb.heap.size wb (W7.setCell ⟨g3, 1, none⟩ (.slice A7 (m.cons.length + 1) c7)) := (((hb.trans (b6.mono hzr)).trans ((b_alloc W6 (.cells #[.int .i64 x.kind, .slice va2 x.vars.length cv2, .slice aa2 x.args.length ca2, .int .i64 x.bound, .slice ra2 x.rows.length cr2] 35)).mono zz6)).trans hbw).setCell hg3 _
    have hlm : (m.cons ++ [x]).length = m.cons.length + 1 := by rw [List.length_append]; rfl
    have KM : Hid (OwnMod (W7.setCell ⟨g3, 1, none⟩ (.slice A7 (m.cons.length + 1) c7)) wb.heap.size (.agg #[.slice A8 m.doms.length c8, .slice A7 (m.cons.length + 1) c7]) (addC m x)) := ⟨_, _, rfl, K3, K2⟩
    obtain ⟨WN, hWN⟩ : ∃ WN, WN = W7.setCell ⟨g3, 1, none⟩ (.slice A7 (m.cons.length + 1) c7) := ⟨_, rfl⟩
    rw [← hWN] at K1 K5 KM ⊢
    have m0 := K1.out.at_ 0 rfl
    have m1 := K1.out.at_ 1 rfl
    clear hWN T7 d7 f7 hown hbw hgr K2 K3 d6a d6b c0 c1 c2 c3 c4 d5
    simp only [Array.setIfInBounds] at m0 m1
    go_wp2_with fail
    obtain ⟨rsN, eN, hN⟩ := OwnMod.read KM.out
    obtain rfl : rsN = [.slice A8 m.doms.length c8, .slice A7 (m.cons.length + 1) c7] := by
      injection eN with eN
      exact (List.toArray_inj eN).symm
    refine (svalidModel _ (addC m x) _ hN).mono ?_
    rintro e W9 ⟨rfl, hb9⟩
    have K9 := Lib.hid (K1.out.below_ hb9 K1.out.lt)
    have m0 := K9.out.at_ 0 rfl
    have m1 := K9.out.at_ 1 rfl
    simp only [Array.setIfInBounds] at m0 m1
    have KM9 := Lib.hid (KM.out.below hb9)
    have b9 := bgo K5 hb9
    have hr := HR.out.below_ b9 (by have := HSB.out; omega)
    have q0 := hr.at_ 0 rfl
    have q1 := hr.at_ 1 rfl
    have f0 := hr.frozen 0
    have f1 := hr.frozen 1
    clear hN eN
    cases tv : vmodF (addC m x)
    · have HE := Lib.hid (show withM m x = ⟨[], []⟩ by unfold withM; rw [tv]; rfl)
      have TV := Lib.hid tv
      clear tv
      go_wp2_with fail
      obtain ⟨WF, hWF⟩ : ∃ WF, WF = (W9.setCell ⟨w.heap.size + 1 + 1, 0, none⟩ (.slice none 0 0)).setCell ⟨w.heap.size + 1 + 1, 1, none⟩ (.slice none 0 0) := ⟨_, rfl⟩
      have hqf : TBlk 26 WF (w.heap.size + 1 + 1) #[.slice none 0 0, .slice none 0 0] := by
        rw [hWF]
        exact (hr.store 0 _).store 1 _
      have hbf : Below w.heap.size w WF := by
        rw [hWF]
        refine (hb01.trans (b9.mono (by have := HSB.out; omega))).trans ?_
        repeat' (first | exact Below.refl _ _ | refine Below.setCell ?_ (by first | (simp; done) | (simp; omega)) _)
      rw [← hWF]
      have r0 := hqf.at_ 0 rfl
      have r1 := hqf.at_ 1 rfl
      clear hWF hqf hr
      go_wp2_with fail
      exact bodyPost_ret (v := .tuple #[.agg #[.slice none 0 0, .slice none 0 0], .bool false]) (by simp [results, Try.results16, go_sem, r0, r1]) rfl ⟨[.slice none 0 0, .slice none 0 0], by rw [TV.out], by rw [HE.out]; exact OwnMod.zero _ _, hbf⟩
    · have HE := Lib.hid (show withM m x = addC m x by unfold withM; rw [tv]; rfl)
      have TV := Lib.hid tv
      clear tv
      go_wp2_with fail
      obtain ⟨WF, hWF⟩ : ∃ WF, WF = (W9.setCell ⟨w.heap.size + 1 + 1, 0, none⟩ (.slice A8 m.doms.length c8)).setCell ⟨w.heap.size + 1 + 1, 1, none⟩ (.slice A7 (m.cons.length + 1) c7) := ⟨_, rfl⟩
      have hqf : TBlk 26 WF (w.heap.size + 1 + 1) #[.slice A8 m.doms.length c8, .slice A7 (m.cons.length + 1) c7] := by
        rw [hWF]
        exact (hr.store 0 _).store 1 _
      have hap : Apart wb.heap.size W9 WF := by
        rw [hWF]
        have := HSB.out
        exact ((Apart.refl _ _).set (by omega) 0 _).set (by omega) 1 _
      have hbf : Below w.heap.size w WF := by
        rw [hWF]
        refine (hb01.trans (b9.mono (by have := HSB.out; omega))).trans ?_
        repeat' (first | exact Below.refl _ _ | refine Below.setCell ?_ (by first | (simp; done) | (simp; omega)) _)
      have FIN := Lib.hid (And.intro (OwnMod.base_ (KM9.out.apart hap) (show w.heap.size ≤ wb.heap.size by have := HSB.out; omega)) hbf)
      rw [← hWF]
      have r0 := hqf.at_ 0 rfl
      have r1 := hqf.at_ 1 rfl
      clear hWF hqf hr hap hbf
      go_wp2_with fail
      exact bodyPost_ret (v := .tuple #[.agg #[.slice A8 m.doms.length c8, .slice A7 (m.cons.length + 1) c7], .bool true]) (by simp [results, Try.results16, go_sem, r0, r1]) rfl ⟨[.slice A8 m.doms.length c8, .slice A7 (m.cons.length + 1) c7], by rw [TV.out], by rw [HE.out]; exact FIN.out.1, FIN.out.2⟩
end Go.Proofs.Ytejfnkbdmlijbaa
