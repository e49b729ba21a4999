/- The program's copy of a model. -/
import Derived.Test.YtjpcdbdaimonlaaCopyI
import Derived.Deep.RegionLaw
namespace Go.Proofs.Ytjpcdbdaimonlaa
open Go.ChangeShapes Go.WideShapes Go.ChangeAt Go.RowKit
open Go.Shelf
set_option linter.unusedVariables false
set_option maxRecDepth 100000

/-- What 'make' lays, in whatever world. -/
theorem make_cells {P : Program} (t e : TypeId) (i : TypeInfo) (z : Value) (size : Nat) (ht : P.underlying t = some (.slice e)) (hi : P.info? e = some i) (hz : i.zero = some z) (hs : i.size = size) (n : Nat) (hb : i.bytes * n ≤ 281474976710656) (h63 : n ≤ maxLen) :
    ∃ Z, (∀ W : World, Sem.run P (Instr.makeSlice t (.int .i64 0) (.int .i64 (n : Int))) W = .ok (.slice (some ⟨W.heap.size, 0, none⟩) 0 n) (W.alloc (.cells Z e))) ∧ ∀ W : World, (W.alloc (.cells Z e)).ownsRow W.heap.size e size (.slice (some ⟨W.heap.size, 0, none⟩) 0 n) 0 [] := by
  have h1 : ∀ W : World, Sem.run P (Instr.makeSlice t (.int .i64 0) (.int .i64 (n : Int))) W = .ok (.slice (some ⟨W.heap.size, 0, none⟩) 0 n) (W.alloc (.cells (madeCells z.cells (n * i.size)) e)) := fun W => by
    have h := run_make (P := P) W t e i z ht hi hz .i64 .i64 0 (n : Int) (Int.le_refl _) (Int.natCast_nonneg _) (by rw [← Int.natCast_mul]; exact Int.ofNat_le.2 hb) (by unfold maxLen at h63; omega)
    simpa using h
  refine ⟨_, h1, fun W => ?_⟩
  obtain ⟨w', hr, ho, -⟩ := run_make_own (P := P) W W.heap.size t e i z size ht hi hz hs .i64 .i64 n hb h63 (Nat.le_refl _)
  have hr' := hr.symm.trans (h1 W)
  injection hr' with _ e2
  rw [← e2]
  exact ho
/-- A box, and a block beside it. -/
theorem box_two {Z : Array Value} {e t : TypeId} (u0 u1 : Value) (W : World) :
    (((W.alloc (.cells Z e)).alloc (.cells #[u0, u1] t)).cell? ⟨W.heap.size + 1, 0, none⟩ = some u0 ∧ ((W.alloc (.cells Z e)).alloc (.cells #[u0, u1] t)).cell? ⟨W.heap.size + 1, 1, none⟩ = some u1 ∧ ∀ j, ((W.alloc (.cells Z e)).alloc (.cells #[u0, u1] t)).frozen? ⟨W.heap.size + 1, j, none⟩ = false) ∧
    (((W.alloc (.cells #[u0, u1] t)).alloc (.cells Z e)).cell? ⟨W.heap.size, 0, none⟩ = some u0 ∧ ((W.alloc (.cells #[u0, u1] t)).alloc (.cells Z e)).cell? ⟨W.heap.size, 1, none⟩ = some u1 ∧ ∀ j, ((W.alloc (.cells #[u0, u1] t)).alloc (.cells Z e)).frozen? ⟨W.heap.size, j, none⟩ = false) := by
  have h1 : TBlk t ((W.alloc (.cells Z e)).alloc (.cells #[u0, u1] t)) (W.heap.size + 1) #[u0, u1] := by
    have := TBlk.new (W.alloc (.cells Z e)) #[u0, u1] t
    rw [size_alloc_] at this
    exact this
  have h2 : TBlk t ((W.alloc (.cells #[u0, u1] t)).alloc (.cells Z e)) W.heap.size #[u0, u1] := (TBlk.new W #[u0, u1] t).below_ (b_alloc _ _) (by rw [size_alloc_]; omega)
  exact ⟨⟨h1.at_ 0 rfl, h1.at_ 1 rfl, fun j => h1.frozen j⟩, h2.at_ 0 rfl, h2.at_ 1 rfl, fun j => h2.frozen j⟩
theorem box_blk {Z : Array Value} {e t : TypeId} (u0 u1 : Value) (W : World) :
    TBlk t ((W.alloc (.cells Z e)).alloc (.cells #[u0, u1] t)).drew (W.heap.size + 1) #[u0, u1] ∧ TBlk t ((W.alloc (.cells #[u0, u1] t)).alloc (.cells Z e)).drew W.heap.size #[u0, u1] ∧ TBlk t (W.alloc (.cells #[u0, u1] t)).drew W.heap.size #[u0, u1] := by
  have h1 : TBlk t ((W.alloc (.cells Z e)).alloc (.cells #[u0, u1] t)) (W.heap.size + 1) #[u0, u1] := by
    have := TBlk.new (W.alloc (.cells Z e)) #[u0, u1] t
    rw [size_alloc_] at this
    exact this
  have h2 : TBlk t ((W.alloc (.cells #[u0, u1] t)).alloc (.cells Z e)) W.heap.size #[u0, u1] := (TBlk.new W #[u0, u1] t).below_ (b_alloc _ _) (by rw [size_alloc_]; omega)
  exact ⟨h1, h2, TBlk.new W #[u0, u1] t⟩
set_option maxHeartbeats 8000000 in
theorem imodCopied (us : List Value) (m : Mod) (w : World) (h : ModR w w.heap.size us m) (hs : SmMod m) :
    Calls Try.prog 30 #[.agg us.toArray] w fun e w' => ∃ (vs : List Value) (D : List (Nat × Nat)) (xs : List CC), e = .returned (.agg vs.toArray) ∧ CMod w' w.heap.size vs m D xs ∧ Fr w.heap.size w'.heap.size (flatM D xs) ∧ Below w.heap.size w w' := by
  obtain ⟨da, ca, cd, cc, rfl, g1, g2, -, -⟩ := h
  obtain ⟨s1, s2, s3⟩ := hs
  obtain ⟨i1, hi1, hy0, hy1, hy2⟩ := info_parts (P := Try.prog) (e := 53) (z := .agg #[.int .i64 0, .slice none 0 0, .slice none 0 0, .int .i64 0, .slice none 0 0]) (size := 5) (bytes := 88) (by kernel_rfl)
  obtain ⟨nd, hnd⟩ : ∃ nd, m.doms.length = nd := ⟨_, rfl⟩
  obtain ⟨nc, hnc⟩ : ∃ nc, m.cons.length = nc := ⟨_, rfl⟩
  rw [hnd] at g1
  rw [hnc] at g2 s2
  have t1 : nd ≤ 1048576 := by rw [← hnd]; exact s1
  rw [hnd, hnc]
  obtain ⟨Z, hmk, hZ⟩ := make_cells (P := Try.prog) 24 53 i1 _ 5 Try.underlying24 hi1 hy0 hy1 nc (by rw [hy2]; omega) (by unfold maxLen; omega)
  have HZ := Lib.hid hZ
  clear hZ
  obtain ⟨wa, hwa⟩ : ∃ wa, wa = w.alloc (.cells #[.slice da nd cd, .slice ca nc cc] 26) := ⟨_, rfl⟩
  obtain ⟨wb, hwb⟩ : ∃ wb, wb = wa.alloc (.cells #[.slice none 0 0, .slice none 0 0] 26) := ⟨_, rfl⟩
  have hb0 : Below w.heap.size w wa := by rw [hwa]; exact b_alloc _ _
  have hsa : wa.heap.size = w.heap.size + 1 := by rw [hwa, size_alloc_]
  have hb1 : Below wa.heap.size wa wb := by rw [hwb]; exact b_alloc _ _
  have hsb : wb.heap.size = w.heap.size + 1 + 1 := by rw [hwb, size_alloc_, hsa]
  have ha : TBlk 26 wa w.heap.size #[.slice da nd cd, .slice ca nc cc] := by rw [hwa]; exact TBlk.new _ _ _
  have HA := Lib.hid (ha.below_ hb1 (by omega))
  have HR : Hid (TBlk 26 wb (w.heap.size + 1) #[.slice none 0 0, .slice none 0 0]) := by rw [hwb, ← hsa]; exact TBlk.new _ _ _
  have hb01 := bgo hb0 hb1
  have G1 := Lib.hid (IntR.on g1 hb01)
  have G2 := Lib.hid (SlK.on_ ConR.keeps ConR.widens g2 hb01)
  have S3 := Lib.hid s3
  have HND := Lib.hid hnd
  have HNC := Lib.hid hnc
  have hS : ∀ w', Below wb.heap.size wb w' → (w'.cell? ⟨w.heap.size, 0, none⟩ = some (.slice da nd cd) ∧ w'.cell? ⟨w.heap.size, 1, none⟩ = some (.slice ca nc cc)) := by
    intro w' h
    have k := HA.out.below_ h (by omega)
    exact ⟨k.at_ 0 rfl, k.at_ 1 rfl⟩
  have hbd : Below wb.heap.size wb wb.drew := below_drewN (Below.refl _ _) 1
  have hS0 := hS _ hbd
  clear g1 g2 s1 s3 hnd hnc ha hb0 hb1
  go_enter Try.func30, Try.ntmps30
  go_wp2_with fail
  rw [← hwa, ← hwb]
  clear hwa hwb
  have HSB := Lib.hid hsb
  clear hsb hsa
  rename_i K hK
  have HX := Lib.hid (box_blk (Z := Z) (e := 53) (t := 26) (.slice none 0 0) (.slice none 0 0) wb)
  have q0 := fun W => (box_two (Z := Z) (e := 53) (t := 26) (.slice none 0 0) (.slice none 0 0) W).1.1
  have q1 := fun W => (box_two (Z := Z) (e := 53) (t := 26) (.slice none 0 0) (.slice none 0 0) W).1.2.1
  have q2 := fun W => (box_two (Z := Z) (e := 53) (t := 26) (.slice none 0 0) (.slice none 0 0) W).1.2.2
  have q3 := fun W => (box_two (Z := Z) (e := 53) (t := 26) (.slice none 0 0) (.slice none 0 0) W).2.1
  have q4 := fun W => (box_two (Z := Z) (e := 53) (t := 26) (.slice none 0 0) (.slice none 0 0) W).2.2.1
  have q5 := fun W => (box_two (Z := Z) (e := 53) (t := 26) (.slice none 0 0) (.slice none 0 0) W).2.2.2
  have KEY : ∀ (W : World) (A8 : Option Addr) (c8 gs g3 : Nat) (D : List (Nat × Nat)), HIn W wb.heap.size (.slice A8 m.doms.length c8) (m.doms, D) → W.ownsRow wb.heap.size 53 5 (.slice (some ⟨gs, 0, none⟩) 0 nc) 0 [] → TBlk 26 W g3 #[.slice A8 m.doms.length c8, .slice (some ⟨gs, 0, none⟩) 0 nc] → wb.heap.size ≤ g3 → Below wb.heap.size wb W → K { tmps := #[.agg #[.slice da nd cd, .slice ca nc cc], .pointer (some ⟨w.heap.size, 0, none⟩), .pointer (some ⟨w.heap.size + 1, 0, none⟩), .pointer (some ⟨g3, 0, none⟩), undef, undef, .pointer (some ⟨w.heap.size, 0, none⟩), .slice da nd cd, .slice A8 m.doms.length c8, .pointer (some ⟨w.heap.size, 1, none⟩), .slice ca nc cc, .int .i64 nc, .slice (some ⟨gs, 0, none⟩) 0 nc, .agg #[.slice A8 m.doms.length c8, .slice (some ⟨gs, 0, none⟩) 0 nc], undef, undef, undef, undef, undef, undef, undef, undef, undef, undef, undef, undef, undef, undef, undef, undef], defers := [] } W := by
    intro W A8 c8 gs g3 D hD hO hT hg3 hbW
    refine hK _ _ ?_
    have HT := Lib.hid hT
    have HD := Lib.hid hD
    have HO := Lib.hid (show CCons W wb.heap.size (.slice (some ⟨gs, 0, none⟩) 0 nc) [] from ⟨[], rfl, fun u hu => by simp at hu, hO, by simp, fun i u x hu => by simp at hu⟩)
    have HF := Lib.hid (hD.fr)
    have hcl := hD.read
    have zW := hbW.size
    clear hT hD hO
    have a1 := (hS _ hbW).2
    go_wp2_with fail
    go_loopw [17] (fun i wr => ∃ (k : Nat) (cv : Value) (xs : List CC), k ≤ nc ∧ i = .int .i64 k ∧ Hid (TBlk 26 wr g3 #[.slice A8 m.doms.length c8, cv]) ∧ Hid (CCons wr wb.heap.size cv xs) ∧ Hid (xs.map CC.con = m.cons.take k) ∧ Hid (xs.length = k) ∧ Hid (HIn wr wb.heap.size (.slice A8 m.doms.length c8) (m.doms, D)) ∧ Hid (Fr wb.heap.size wr.heap.size (flatM D xs)) ∧ Below wb.heap.size wb wr) (fun i _ => nc - (intOf i).toNat)
    case atStart => exact ⟨0, _, [], by omega, rfl, HT, HO, rfl, rfl, HD, by show Fr _ _ (D ++ []); rw [List.append_nil]; exact HF.out, hbW⟩
    case round =>
      obtain ⟨k, cv, xs, hk, rfl, ht, hq, hfs, hln, hdd, hfr, hb⟩ := hrel
      have hzr := hb.size
      clear a1
      by_cases hlt : k < nc
      · obtain ⟨ab, ao, x, us, rfl, hab, hxk, hul, hcx, hc⟩ := SlK.at_ (SlK.below ConR.keeps G2.out hb) hlt
        have HC0 := Lib.hid hc
        obtain ⟨va, aa, ra, cv1, ca1, cr1, rfl, -⟩ := hc
        have c0 := hcx 0 _ rfl
        have c1 := hcx 1 _ rfl
        have c2 := hcx 2 _ rfl
        have c3 := hcx 3 _ rfl
        have c4 := hcx 4 _ rfl
        simp only [Nat.add_zero] at c0
        go_wp2_with fail
        obtain ⟨W5, hW5⟩ : ∃ W5, W5 = wr.alloc (.cells #[.int .i64 x.kind, .slice va x.vars.length cv1, .slice aa x.args.length ca1, .int .i64 x.bound, .slice ra x.rows.length cr1] 53) := ⟨_, rfl⟩
        have b5 : Below wr.heap.size wr W5.drew := by rw [hW5]; exact Below.drew_ (b_alloc _ _)
        have z5 : W5.heap.size = wr.heap.size + 1 := by rw [hW5, size_alloc_]
        have T5 : Hid (TBlk 53 W5.drew wr.heap.size #[.int .i64 x.kind, .slice va x.vars.length cv1, .slice aa x.args.length ca1, .int .i64 x.bound, .slice ra x.rows.length cr1]) := by rw [hW5]; exact TBlk.new wr _ _
        have e0 := T5.out.at_ 0 rfl
        have e1 := T5.out.at_ 1 rfl
        have e2 := T5.out.at_ 2 rfl
        have e3 := T5.out.at_ 3 rfl
        have e4 := T5.out.at_ 4 rfl
        have M5 := Lib.hid (ht.out.below_ b5 ht.out.lt)
        have d5 := M5.out.at_ 1 rfl
        rw [← hW5]
        clear hW5 c0 c1 c2 c3 c4
        have HX := Lib.hid (take_snoc hxk)
        have HXM := Lib.hid (S3.out x (List.mem_of_getElem? hxk))
        clear hxk hcx
        go_wp2_with fail
        go_region_law (first
          | (refine step_append_any (by rfl) _ _ 24 (by rfl) wb.heap.size 53 i1 _ 5 88 Try.underlying24 hi1 hy0 hy1 hy2 rfl (by omega) cv k uss.flatten (by rfl) ho6.out (some ⟨W6.heap.size, 0, none⟩) 1 [.int .i64 X.con.kind, .slice va2 X.con.vars.length cv2, .slice aa2 X.con.args.length ca2, .int .i64 X.con.bound, .slice ra2 X.con.rows.length cr2] (by exact ⟨_, rfl, .inr ⟨_, rfl, rfl, HS6.out⟩⟩) (by simp [Value.oneCell']) (by unfold maxLen; omega) (by omega) (by rw [size_alloc_]; omega) ?_
             intro v1 W7 hown hbw hgr _
             obtain ⟨A7, c7, rfl⟩ := (HoldR.of_own hown).form
             have T7 : TBlk 26 W7 g3 #[.slice A8 m.doms.length c8, cv] := (hgr.block g3 T6.out.lt (own_blk (show (26 : TypeId) ≠ 53 by decide) ho6.out T6.out)).trans T6.out
             have d7 := T7.at_ 1 rfl
             have f7 := T7.frozen 1)
          | (go_simp
             go_at_call 46
             refine (iconCopied _ x _ (ConR.widens _ _ _ _ _ (Nat.le_trans hzr b5.size) (ConR.keeps _ _ _ _ _ (fun p hp => b5.cell (Nat.lt_of_lt_of_le hp hzr)) HC0.out)) HXM.out).mono ?_
             rintro e W6 ⟨vs, X, rfl, rfl, hX, hf6, hB6⟩
             obtain ⟨va2, aa2, ra2, cv2, ca2, cr2, rfl, -⟩ := hX.read
             have b6 := bgo b5 hB6
             have d6 := (ht.out.below_ b6 ht.out.lt).at_ 1 rfl
             have d6' := fun o => ((ht.out.below_ b6 ht.out.lt).below_ (b_alloc W6 o) (by have := (ht.out.below_ b6 ht.out.lt).lt; exact this)).at_ 1 rfl
             obtain ⟨uss, u1, u0, u2, u3, u4⟩ := (OwnK.stays CCon.stays).below _ _ _ _ _ (b_alloc W6 (.cells #[.int .i64 X.con.kind, .slice va2 X.con.vars.length cv2, .slice aa2 X.con.args.length ca2, .int .i64 X.con.bound, .slice ra2 X.con.rows.length cr2] 53)) ((OwnK.stays CCon.stays).below _ _ _ _ _ b6 hq.out)
             rw [hln.out] at u2
             have ho6 := Lib.hid u2
             have HU := Lib.hid (And.intro u1 (And.intro u0 u4))
             have HC6 := Lib.hid (CCon.stays.below _ _ _ _ _ (b_alloc W6 (.cells #[.int .i64 X.con.kind, .slice va2 X.con.vars.length cv2, .slice aa2 X.con.args.length ca2, .int .i64 X.con.bound, .slice ra2 X.con.rows.length cr2] 53)) (CCon.stays.base _ _ _ _ _ (Nat.le_trans hzr b5.size) hX))
             have HF6 := Lib.hid hf6
             have T6 := Lib.hid ((ht.out.below_ b6 ht.out.lt).below_ (b_alloc W6 (.cells #[.int .i64 X.con.kind, .slice va2 X.con.vars.length cv2, .slice aa2 X.con.args.length ca2, .int .i64 X.con.bound, .slice ra2 X.con.rows.length cr2] 53)) (by have := (ht.out.below_ b6 ht.out.lt).lt; exact this))
             have HS6 : Hid (∀ j u, [.int .i64 X.con.kind, .slice va2 X.con.vars.length cv2, .slice aa2 X.con.args.length ca2, .int .i64 X.con.bound, .slice ra2 X.con.rows.length cr2][j]? = some u → (W6.alloc (.cells #[.int .i64 X.con.kind, .slice va2 X.con.vars.length cv2, .slice aa2 X.con.args.length ca2, .int .i64 X.con.bound, .slice ra2 X.con.rows.length cr2] 53)).cell? ((⟨W6.heap.size, 0, none⟩ : Addr).add j) = some u) := by
               intro j u hu
               rw [add_own]
               exact (TBlk.new W6 _ 53).at_ j (by simpa using hu)
             have z6 := hB6.size
             have zz6 : wb.heap.size ≤ W6.heap.size := Nat.le_trans hzr b6.size
             clear u1 u0 u2 u3 u4 hX hf6))
        all_goals
          have hfz : (W7.setCell ⟨g3, 1, none⟩ (.slice A7 (k + 1) c7)).heap.size = W7.heap.size := by simp [World.setCell]
          have hz7 := hgr.size
          have hz6 : (W6.alloc (.cells #[.int .i64 X.con.kind, .slice va2 X.con.vars.length cv2, .slice aa2 X.con.args.length ca2, .int .i64 X.con.bound, .slice ra2 X.con.rows.length cr2] 53)).heap.size = W6.heap.size + 1 := size_alloc_ _ _
          have K1 := Lib.hid (T7.store 1 (.slice A7 (k + 1) c7))
          have K2 := Lib.hid (OwnK.shuns (show (26 : TypeId) ≠ 53 by decide) (CCon.shuns (show (26 : TypeId) ≠ 3 by decide) (show (26 : TypeId) ≠ 23 by decide)) _ _ _ _ _ 1 _ _ (.slice A7 (k + 1) c7) T7
            (OwnK.snoc (CCon.grows (show (3 : TypeId) ≠ 53 by decide) (show (23 : TypeId) ≠ 53 by decide)) HU.out.1 HU.out.2.1 (by rw [hln.out]; exact ho6.out) HU.out.2.2 HC6.out rfl (by rw [hln.out]; omega) (by rw [hln.out]; exact hown) hgr))
          have K3 := Lib.hid (HIn.shuns (show (26 : TypeId) ≠ 3 by decide) _ _ _ _ _ 1 _ _ (.slice A7 (k + 1) c7) T7 (HIn.grown (show (3 : TypeId) ≠ 53 by decide) ho6.out hgr ((hdd.out.below b6).below (b_alloc W6 (.cells #[.int .i64 X.con.kind, .slice va2 X.con.vars.length cv2, .slice aa2 X.con.args.length ca2, .int .i64 X.con.bound, .slice ra2 X.con.rows.length cr2] 53)))))
          have K4 : Hid (Fr wb.heap.size (W7.setCell ⟨g3, 1, none⟩ (.slice A7 (k + 1) c7)).heap.size (flatM D (xs ++ [X]))) := by
            have e1 : flatM D (xs ++ [X]) = flatM D xs ++ X.flat := by simp [flatM]
            show Fr _ _ _
            rw [e1, hfz]
            exact hfr.out.append (HF6.out.wide (Nat.le_refl _) (by omega)) b5.size (Nat.le_trans hzr b5.size) (by have := b6.size; omega)
          have K5 : Below wb.heap.size wb (W7.setCell ⟨g3, 1, none⟩ (.slice A7 (k + 1) c7)) := (((hb.trans (b6.mono hzr)).trans ((b_alloc W6 (.cells #[.int .i64 X.con.kind, .slice va2 X.con.vars.length cv2, .slice aa2 X.con.args.length ca2, .int .i64 X.con.bound, .slice ra2 X.con.rows.length cr2] 53)).mono zz6)).trans hbw).setCell hg3 _
          have K6 := Lib.hid (show (xs ++ [X]).map CC.con = m.cons.take (k + 1) by rw [HX.out, List.map_append, hfs.out]; rfl)
          clear T7 d7 f7 hown hbw hgr
          go_wp2_with fail
          go_roundw
          case rel => exact ⟨k + 1, _, xs ++ [X], by omega, by go_num, K1, K2, K6, Lib.hid (by rw [List.length_append, hln.out]; rfl), K3, K4, K5⟩
          case measure => simp [intOf]; omega
      · obtain rfl : k = nc := by omega
        have a0 := ht.out.at_ 0 rfl
        have a1 := ht.out.at_ 1 rfl
        have hq0 := HR.out.below_ hb (by have := HSB.out; omega)
        have q0 := hq0.at_ 0 rfl
        have q1 := hq0.at_ 1 rfl
        have q2 := hq0.frozen 0
        have q3 := hq0.frozen 1
        have hqx := hq.out
        obtain ⟨_, _, _, hqy, _⟩ := hqx
        obtain ⟨A9, c9, rfl⟩ := (HoldR.of_own hqy).form
        clear hqy
        go_wp2_with fail
        obtain ⟨WF, hWF⟩ : ∃ WF, WF = (wr.setCell ⟨w.heap.size + 1, 0, none⟩ (.slice A8 m.doms.length c8)).setCell ⟨w.heap.size + 1, 1, none⟩ (.slice A9 xs.length c9) := ⟨_, rfl⟩
        have hqf : TBlk 26 WF (w.heap.size + 1) #[.slice A8 m.doms.length c8, .slice A9 xs.length c9] := by
          rw [hWF]
          exact (hq0.store 0 _).store 1 _
        have r0 := hqf.at_ 0 rfl
        have r1 := hqf.at_ 1 rfl
        have hap : Apart wb.heap.size wr WF := by
          rw [hWF]
          exact ((Apart.refl _ _).set (by have := HSB.out; omega) 0 _).set (by have := HSB.out; omega) 1 _
        have hzf : WF.heap.size = wr.heap.size := by rw [hWF]; simp [World.setCell]
        have hbf : Below w.heap.size w WF := by
          rw [hWF]
          refine (hb01.trans (hb.mono (by have := HSB.out; omega))).trans ?_
          repeat' (first | exact Below.refl _ _ | refine Below.setCell ?_ (by simp) _)
        have hfin : CMod WF w.heap.size [.slice A8 m.doms.length c8, .slice A9 xs.length c9] m D xs := by
          refine CMod.base_ (CMod.apart ⟨_, _, rfl, hdd.out, hq.out, ?_, by have := hln.out; omega⟩ hap) (by have := HSB.out; omega)
          rw [hfs.out, ← HNC.out, List.take_length]
        have FIN := Lib.hid (And.intro hfin (And.intro (show Fr w.heap.size WF.heap.size (flatM D xs) from hfr.out.wide (by have := HSB.out; omega) (by omega)) hbf))
        rw [← hWF]
        clear hfin hbf hap hqf hq0 hWF hzf
        go_wp2_with fail
        exact bodyPost_ret (v := .agg #[.slice A8 m.doms.length c8, .slice A9 xs.length c9]) (by simp [results, Try.results30, go_sem, r0, r1]) rfl (by first | exact ⟨_, _, _, rfl, FIN.out.1, FIN.out.2.1, FIN.out.2.2⟩ | exact ⟨_, rfl, _, _, FIN.out.1, FIN.out.2.1, FIN.out.2.2⟩)
  go_region_held3 (fun w' => w'.cell? ⟨w.heap.size, 0, none⟩ = some (.slice da nd cd) ∧ w'.cell? ⟨w.heap.size, 1, none⟩ = some (.slice ca nc cc))
    (first | with_reducible exact hS0 | (with_reducible refine hS _ ?_; (repeat' (first | with_reducible assumption | with_reducible exact Below.refl _ _ | with_reducible refine Below.drew_ ?_ | with_reducible refine Below.setCell ?_ (by first | (simp; done) | (simp; omega)) _ | with_reducible refine Below.alloc0 ?_ _))))
    (first
      | (go_at_call 31
         refine (icopied0 da nd cd m.doms _ (IntR.on G1.out (by (repeat' (first | with_reducible assumption | with_reducible exact Below.refl _ _ | with_reducible refine Below.drew_ ?_ | with_reducible refine Below.setCell ?_ (by first | (simp; done) | (simp; omega)) _ | with_reducible refine Below.alloc0 ?_ _)))) t1).mono ?_
         rintro e W8 ⟨v8, D, rfl, h8, hB8⟩
         obtain ⟨A8, c8, rfl, -, -⟩ := h8.read
         have hb8 := bgo (show Below wb.heap.size wb _ by (repeat' (first | with_reducible assumption | with_reducible exact Below.refl _ _ | with_reducible refine Below.drew_ ?_ | with_reducible refine Below.setCell ?_ (by first | (simp; done) | (simp; omega)) _ | with_reducible refine Below.alloc0 ?_ _))) hB8
         have z8 := hb8.size
         first
           | (have qb := HX.out.1.below_ hB8 HX.out.1.lt
              have qb0 := qb.at_ 0 rfl
              have qb1 := qb.at_ 1 rfl
              have qb2 := fun j => qb.frozen j)
           | (have qb := HX.out.2.1.below_ hB8 HX.out.2.1.lt
              have qb0 := qb.at_ 0 rfl
              have qb1 := qb.at_ 1 rfl
              have qb2 := fun j => qb.frozen j)
           | (have qb := HX.out.2.2.below_ hB8 HX.out.2.2.lt
              have qb0 := qb.at_ 0 rfl
              have qb1 := qb.at_ 1 rfl
              have qb2 := fun j => qb.frozen j
              have qd := qb.below_ (b_alloc W8 (.cells Z 53)) qb.lt
              have qd0 := qd.at_ 0 rfl
              have qd1 := qd.at_ 1 rfl
              have qd2 := fun j => qd.frozen j)
           | skip))
  · refine KEY _ A8 c8 W8.heap.size (W8.heap.size + 1) D ?_ ?_ ?_ (by omega) (by (repeat' (first | with_reducible assumption | with_reducible exact Below.refl _ _ | with_reducible refine Below.drew_ ?_ | with_reducible refine Below.setCell ?_ (by first | (simp; done) | (simp; omega)) _ | with_reducible refine Below.alloc0 ?_ _)))
    · exact ((h8.base_ (show Below wb.heap.size wb _ by (repeat' (first | with_reducible assumption | with_reducible exact Below.refl _ _ | with_reducible refine Below.drew_ ?_ | with_reducible refine Below.setCell ?_ (by first | (simp; done) | (simp; omega)) _ | with_reducible refine Below.alloc0 ?_ _))).size).below (b_alloc _ _)).below (b_alloc _ _)
    · exact own_base (own_below (HZ.out W8) (b_alloc _ _)) (by omega)
    · have := TBlk.new (W8.alloc (.cells Z 53)) #[.slice A8 m.doms.length c8, .slice (some ⟨W8.heap.size, 0, none⟩) 0 nc] 26
      rw [size_alloc_] at this
      exact this
  · refine KEY _ A8 c8 (W8.heap.size + 1) W8.heap.size D ?_ ?_ ?_ (by omega) (by (repeat' (first | with_reducible assumption | with_reducible exact Below.refl _ _ | with_reducible refine Below.drew_ ?_ | with_reducible refine Below.setCell ?_ (by first | (simp; done) | (simp; omega)) _ | with_reducible refine Below.alloc0 ?_ _)))
    · exact ((h8.base_ (show Below wb.heap.size wb _ by (repeat' (first | with_reducible assumption | with_reducible exact Below.refl _ _ | with_reducible refine Below.drew_ ?_ | with_reducible refine Below.setCell ?_ (by first | (simp; done) | (simp; omega)) _ | with_reducible refine Below.alloc0 ?_ _))).size).below (b_alloc _ _)).below (b_alloc _ _)
    · have := HZ.out (W8.alloc (.cells #[.slice A8 m.doms.length c8, .slice (some ⟨W8.heap.size + 1, 0, none⟩) 0 nc] 26))
      rw [size_alloc_] at this
      exact own_base this (by omega)
    · exact (TBlk.new _ _ _).below_ (b_alloc _ _) (by rw [size_alloc_]; omega)
  · refine KEY _ A8 c8 wb.heap.size W8.heap.size D ?_ ?_ ?_ (by omega) (by (repeat' (first | with_reducible assumption | with_reducible exact Below.refl _ _ | with_reducible refine Below.drew_ ?_ | with_reducible refine Below.setCell ?_ (by first | (simp; done) | (simp; omega)) _ | with_reducible refine Below.alloc0 ?_ _)))
    · exact (h8.base_ (show Below wb.heap.size wb _ by (repeat' (first | with_reducible assumption | with_reducible exact Below.refl _ _ | with_reducible refine Below.drew_ ?_ | with_reducible refine Below.setCell ?_ (by first | (simp; done) | (simp; omega)) _ | with_reducible refine Below.alloc0 ?_ _))).size).below (b_alloc _ _)
    · exact own_below (own_below (show (wb.alloc (.cells Z 53)).drew.ownsRow wb.heap.size 53 5 (.slice (some ⟨wb.heap.size, 0, none⟩) 0 nc) 0 [] from HZ.out wb) hB8) (b_alloc _ _)
    · exact TBlk.new _ _ _
  · refine KEY _ A8 c8 wb.heap.size (wb.heap.size + 1) D ?_ ?_ ?_ (by omega) (by (repeat' (first | with_reducible assumption | with_reducible exact Below.refl _ _ | with_reducible refine Below.drew_ ?_ | with_reducible refine Below.setCell ?_ (by first | (simp; done) | (simp; omega)) _ | with_reducible refine Below.alloc0 ?_ _)))
    · refine HIn.base_ (HIn.apart h8 (((Apart.refl _ _).set HX.out.1.lt 0 _).set HX.out.1.lt 1 _)) (show Below wb.heap.size wb _ by (repeat' (first | with_reducible assumption | with_reducible exact Below.refl _ _ | with_reducible refine Below.drew_ ?_ | with_reducible refine Below.setCell ?_ (by first | (simp; done) | (simp; omega)) _ | with_reducible refine Below.alloc0 ?_ _))).size
    · have o1 := own_below (own_below (show (wb.alloc (.cells Z 53)).ownsRow wb.heap.size 53 5 (.slice (some ⟨wb.heap.size, 0, none⟩) 0 nc) 0 [] from HZ.out wb) (b_alloc _ (.cells #[.slice none 0 0, .slice none 0 0] 26)))  (show Below ((wb.alloc (.cells Z 53)).alloc (.cells #[.slice none 0 0, .slice none 0 0] 26)).heap.size _ W8 from ⟨hB8.os, hB8.tape, hB8.output, hB8.size, hB8.block⟩)
      exact own_shun (by decide) 1 _ (qb.store 0 _) (own_shun (by decide) 0 _ qb o1)
    · exact (qb.store 0 _).store 1 _
  · refine KEY _ A8 c8 W8.heap.size wb.heap.size D ?_ ?_ ?_ (by omega) (by (repeat' (first | with_reducible assumption | with_reducible exact Below.refl _ _ | with_reducible refine Below.drew_ ?_ | with_reducible refine Below.setCell ?_ (by first | (simp; done) | (simp; omega)) _ | with_reducible refine Below.alloc0 ?_ _)))
    · refine HIn.base_ (HIn.apart h8 ((((Apart.refl _ _).alloc _).set HX.out.2.2.lt 0 _).set HX.out.2.2.lt 1 _)) (show Below wb.heap.size wb _ by (repeat' (first | with_reducible assumption | with_reducible exact Below.refl _ _ | with_reducible refine Below.drew_ ?_ | with_reducible refine Below.setCell ?_ (by first | (simp; done) | (simp; omega)) _ | with_reducible refine Below.alloc0 ?_ _))).size
    · exact own_base (own_shun (by decide) 1 _ (qd.store 0 _) (own_shun (by decide) 0 _ qd (HZ.out W8))) (by omega)
    · exact (qd.store 0 _).store 1 _
  · refine KEY _ A8 c8 (wb.heap.size + 1) wb.heap.size D ?_ ?_ ?_ (by omega) (by (repeat' (first | with_reducible assumption | with_reducible exact Below.refl _ _ | with_reducible refine Below.drew_ ?_ | with_reducible refine Below.setCell ?_ (by first | (simp; done) | (simp; omega)) _ | with_reducible refine Below.alloc0 ?_ _)))
    · refine HIn.base_ (HIn.apart h8 (((Apart.refl _ _).set HX.out.2.1.lt 0 _).set HX.out.2.1.lt 1 _)) (show Below wb.heap.size wb _ by (repeat' (first | with_reducible assumption | with_reducible exact Below.refl _ _ | with_reducible refine Below.drew_ ?_ | with_reducible refine Below.setCell ?_ (by first | (simp; done) | (simp; omega)) _ | with_reducible refine Below.alloc0 ?_ _))).size
    · have o0 := HZ.out (wb.alloc (.cells #[.slice none 0 0, .slice none 0 0] 26))
      rw [size_alloc_] at o0
      have o1 := own_below o0 (show Below _ _ W8 from ⟨hB8.os, hB8.tape, hB8.output, hB8.size, hB8.block⟩)
      exact own_base (own_shun (by decide) 1 _ (qb.store 0 _) (own_shun (by decide) 0 _ qb o1)) (by omega)
    · exact (qb.store 0 _).store 1 _
end Go.Proofs.Ytjpcdbdaimonlaa
