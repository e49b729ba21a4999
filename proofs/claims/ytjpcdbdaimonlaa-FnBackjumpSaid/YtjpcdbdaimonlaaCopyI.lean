/- The program's copies of lists, constraints and models. -/
import Derived.Test.YtjpcdbdaimonlaaCopyS
namespace Go.Proofs.Ytjpcdbdaimonlaa
open Go.ChangeShapes Go.WideShapes Go.ChangeAt Go.RowKit
open Go.Shelf
set_option linter.unusedVariables false
set_option maxRecDepth 100000

set_option maxHeartbeats 4000000 in
theorem scopy0 (A : Option Addr) (n c : Nat) (xs : List Int) (w : World) (h : IntR w w.heap.size A n xs) (hn : n ≤ 1048576) :
    Calls Try.prog 35 #[.slice A n c] w fun e w' => ∃ v', e = .returned v' ∧ OwnI 3 w' w.heap.size v' xs ∧ Below w.heap.size w w' := by
  obtain ⟨i0, hi0, hz0, hz1, hz2⟩ := info_parts info_int
  have hl := Lib.hid h.len
  have ol : (w.alloc (.cells #[] 3)).ownsRow w.heap.size 3 1 (.slice (some ⟨w.heap.size, 0, none⟩) 0 0) 0 [] := World.ownsRow_lit w #[] 0 (Nat.le_refl _) (by decide) rfl
  have hs : Src0 (w.alloc (.cells #[] 3)) 1 A n c (xs.map (.int .i64)) := (IntR.on h (b_alloc w (.cells #[] 3))).src0
  clear h
  go_enter Try.func35, Try.ntmps35
  go_wp2_with (at_builtin; refine wpList_append_any0 rfl _ _ 23 rfl w.heap.size 3 i0 _ 1 8 Try.underlying23 hi0 hz0 hz1 hz2 rfl (by decide) (.slice (some ⟨w.heap.size, 0, none⟩) 0 0) _ _ rfl ol _ _ _ _ rfl hs (by simp [Value.oneCell']) (by unfold maxLen; omega) (by omega) (by rw [size_alloc_]; omega) ?_; intro v1 w1 ho1 hb1 _ hnn1)
  have ho2 : OwnI 3 w1 w.heap.size v1 xs := ⟨by rw [hl.out]; simpa using ho1, by rw [hl.out]; omega⟩
  go_ret
  exact ⟨v1, rfl, ho2, (b_alloc _ _).trans hb1⟩
set_option maxHeartbeats 4000000 in
theorem clone0 (A : Option Addr) (n c : Nat) (xs : List Int) (w : World) (h : IntR w w.heap.size A n xs) (hn : n ≤ 1048576) :
    Calls Try.prog 48 #[.slice A n c] w fun e w' => ∃ v', e = .returned v' ∧ HoldR w' w.heap.size 3 1 v' n (xs.map (.int .i64)) ∧ Below w.heap.size w w' := by
  obtain ⟨i0, hi0, hz0, hz1, hz2⟩ := info_parts info_int
  have hl := Lib.hid h.len
  have q22 : ∀ (w : World) (a : Option Addr) (n c n' c' : Nat), (binOp .eql 23 (.slice a n c) (.slice none n' c')).run Try.prog w = .ok (.bool a.isNone) w := fun w a n c n' c' => Lib.run_eql_slice_nil w _ _ a n c n' c' Try.underlying23
  have u22 : ∀ w, Sem.run Try.prog (underlying 23) w = .ok (TypeDesc.slice 3) w := run_underlying Try.underlying23
  cases A with
  | none =>
    have hn0 : n = 0 := by
      rcases Nat.eq_zero_or_pos n with h0 | h0
      · exact h0
      · obtain ⟨b, o, e, -⟩ := h.2.2 h0; cases e
    subst hn0
    have hx : xs = [] := List.eq_nil_of_length_eq_zero hl.out
    subst hx
    clear h
    go_enter Try.func48, Try.ntmps48
    go_wp2_with fail
    go_ret
    exact ⟨_, rfl, HoldR.nil _ _ _ _, Below.refl _ _⟩
  | some ad =>
    have ol : (w.alloc (.cells #[] 3)).ownsRow w.heap.size 3 1 (.slice (some ⟨w.heap.size, 0, none⟩) 0 0) 0 [] := World.ownsRow_lit w #[] 0 (Nat.le_refl _) (by decide) rfl
    have hs : Src0 (w.alloc (.cells #[] 3)) 1 (some ad) n c (xs.map (.int .i64)) := (IntR.on h (b_alloc w (.cells #[] 3))).src0
    clear h
    go_enter Try.func48, Try.ntmps48
    go_wp2_with (at_builtin; refine wpList_append_any0 rfl _ _ 23 rfl w.heap.size 3 i0 _ 1 8 Try.underlying23 hi0 hz0 hz1 hz2 rfl (by decide) (.slice (some ⟨w.heap.size, 0, none⟩) 0 0) _ _ rfl ol _ _ _ _ rfl hs (by simp [Value.oneCell']) (by unfold maxLen; omega) (by omega) (by rw [size_alloc_]; omega) ?_; intro v1 w1 ho1 hb1 _ hnn1)
    have ho2 := HoldR.of_own (show w1.ownsRow w.heap.size 3 1 v1 n (xs.map (.int .i64)) by simpa using ho1)
    go_ret
    exact ⟨v1, rfl, ho2, (b_alloc _ _).trans hb1⟩
set_option maxHeartbeats 4000000 in
theorem icopied0 (A : Option Addr) (n c : Nat) (xs : List Int) (w : World) (h : IntR w w.heap.size A n xs) (hn : n ≤ 1048576) :
    Calls Try.prog 31 #[.slice A n c] w fun e w' => ∃ (v' : Value) (L : List (Nat × Nat)), e = .returned v' ∧ HIn w' w.heap.size v' (xs, L) ∧ Below w.heap.size w w' := by
  have hl := Lib.hid h.len
  have H := Lib.hid h
  clear h
  go_enter Try.func31, Try.ntmps31
  go_wp2_with fail
  refine (clone0 _ _ _ xs _ H.out hn).mono ?_
  rintro e w1 ⟨v, rfl, hh, hb⟩
  obtain ⟨A1, c1, rfl⟩ := hh.form
  have HH := Lib.hid hh
  clear hh
  go_wp2_with fail
  refine (clipInt _ _ _ _ _ _ HH.out).mono ?_
  rintro e w2 ⟨rfl, rfl⟩
  go_wp2_with fail
  go_ret
  exact ⟨.slice A1 n n, sgOf (.slice A1 n n) xs.length, rfl, ⟨by show HoldR _ _ _ _ _ xs.length _; rw [hl.out]; exact HH.out.clip, by show xs.length ≤ _; rw [hl.out]; exact hn, rfl⟩, hb⟩
set_option maxHeartbeats 8000000 in
theorem iconCopied (us : List Value) (c : Con) (w : World) (h : ConR w w.heap.size us c) (hs : SmCon c) :
    Calls Try.prog 46 #[.agg us.toArray] w fun e w' => ∃ (vs : List Value) (x : CC), e = .returned (.agg vs.toArray) ∧ x.con = c ∧ CCon w' w.heap.size vs x ∧ Fr w.heap.size w'.heap.size x.flat ∧ Below w.heap.size w w' := by
  obtain ⟨i1, hi1, hy0, hy1, hy2⟩ := info_parts (P := Try.prog) (e := 23) (z := .slice none 0 0) (size := 1) (bytes := 24) (by kernel_rfl)
  obtain ⟨va, aa, ra, cv, ca, cr, rfl, g1, g2, g3, -, -⟩ := h
  obtain ⟨s1, s2, s3, s4⟩ := hs
  obtain ⟨nv, hnv⟩ : ∃ nv, c.vars.length = nv := ⟨_, rfl⟩
  obtain ⟨na, hna⟩ : ∃ na, c.args.length = na := ⟨_, rfl⟩
  obtain ⟨nr, hnr⟩ : ∃ nr, c.rows.length = nr := ⟨_, rfl⟩
  rw [hnv] at g1
  rw [hna] at g2
  rw [hnr] at g3 s3
  have t1 : nv ≤ 1048576 := by rw [← hnv]; exact s1
  have t2 : na ≤ 1048576 := by rw [← hna]; exact s2
  rw [hnv, hna, hnr]
  obtain ⟨wa, hwa⟩ : ∃ wa, wa = w.alloc (.cells #[.int .i64 c.kind, .slice va nv cv, .slice aa na ca, .int .i64 c.bound, .slice ra nr cr] 53) := ⟨_, rfl⟩
  obtain ⟨wb, hwb⟩ : ∃ wb, wb = wa.alloc (.cells #[.int .i64 0, .slice none 0 0, .slice none 0 0, .int .i64 0, .slice none 0 0] 53) := ⟨_, rfl⟩
  have hb0 : Below w.heap.size w wa := by rw [hwa]; exact b_alloc _ _
  have hsa : wa.heap.size = w.heap.size + 1 := by rw [hwa, size_alloc_]
  have hb1 : Below wa.heap.size wa wb := by rw [hwb]; exact b_alloc _ _
  have hsb : wb.heap.size = w.heap.size + 1 + 1 := by rw [hwb, size_alloc_, hsa]
  have ha : TBlk 53 wa w.heap.size #[.int .i64 c.kind, .slice va nv cv, .slice aa na ca, .int .i64 c.bound, .slice ra nr cr] := by rw [hwa]; exact TBlk.new _ _ _
  have HA := Lib.hid (ha.below_ hb1 (by omega))
  have HR : Hid (TBlk 53 wb (w.heap.size + 1) #[.int .i64 0, .slice none 0 0, .slice none 0 0, .int .i64 0, .slice none 0 0]) := by rw [hwb, ← hsa]; exact TBlk.new _ _ _
  have hb01 := bgo hb0 hb1
  have G1 := Lib.hid (IntR.on g1 hb01)
  have G2 := Lib.hid (IntR.on g2 hb01)
  have G3 := Lib.hid (SlR.on (RowC.keeps IntC.keeps) (RowC.widens IntC.widens) g3 hb01)
  have S4 := Lib.hid s4
  have HNV := Lib.hid hnv
  have HNA := Lib.hid hna
  have HNR := Lib.hid hnr
  have a4 : wb.cell? ⟨w.heap.size, 4, none⟩ = some (.slice ra nr cr) := HA.out.at_ 4 rfl
  clear g1 g2 g3 s1 s2 s4 hnv hna hnr ha hb0 hb1
  go_enter Try.func46, Try.ntmps46
  go_wp2_with (at_make; go_loud (refine wpList_make_own _ rfl (.const (.int .i64 0)) (.tmp 8) _ rfl ((w.alloc (.cells #[.int .i64 c.kind, .slice va nv cv, .slice aa na ca, .int .i64 c.bound, .slice ra nr cr] 53)).alloc (.cells #[.int .i64 0, .slice none 0 0, .slice none 0 0, .int .i64 0, .slice none 0 0] 53)).heap.size 23 i1 _ 1 Try.underlying27 hi1 hy0 hy1 .i64 .i64 _ nr rfl rfl rfl (by rw [hy2]; omega) (by unfold maxLen; omega) (Nat.le_refl _) ?_); go_loud (intro w1 ho hgr; rw [← hwa, ← hwb] at ho hgr; have a1 : w1.cell? ⟨w.heap.size, 4, none⟩ = some (.slice ra nr cr) := (HA.out.below_ ((Below.refl wb.heap.size wb).grown hgr (Nat.le_refl _) (by simp)) (by omega)).at_ 4 rfl))
  have hb1 : Below wb.heap.size wb w1 := (Below.refl _ _).grown hgr (Nat.le_refl _) (by simp)
  have HO := Lib.hid (show HRs w1 wb.heap.size (.slice (some ⟨wb.heap.size, 0, none⟩) 0 nr) [] from ⟨[], rfl, ho, by simp, fun i u x hu => by simp at hu⟩)
  clear hgr hwa hwb a1 a4 ho
  go_loopw [3, 13] (fun v i wr => ∃ (k : Nat) (v' : Value) (rows : List (List Int × List (Nat × Nat))), k ≤ nr ∧ i = .int .i64 k ∧ v' = v ∧ Hid (HRs wr wb.heap.size v' rows) ∧ Hid (rows.map Prod.fst = c.rows.take k) ∧ Hid (rows.length = k) ∧ Hid (Fr w.heap.size wr.heap.size (rows.map Prod.snd).flatten) ∧ Below wb.heap.size wb wr) (fun _ i _ => nr - (intOf i).toNat)
  case atStart => exact ⟨0, _, [], by omega, rfl, rfl, by rw [← hsb]; exact HO, rfl, rfl, Fr.nil _ _, hb1⟩
  case round =>
    obtain ⟨k, v, rows, hk, rfl, rfl, hq, hfs, hln, hfr, hb⟩ := hrel
    clear HO hb1
    have hzr := hb.size
    by_cases hlt : k < nr
    · obtain ⟨ab, ao, row, u, rfl, hab, hxk, hcu, hrw⟩ := SlR.at_ (SlR.on (RowC.keeps IntC.keeps) (RowC.widens IntC.widens) G3.out hb) hlt
      obtain ⟨A2, d2, rfl, hri⟩ := hrw
      have hr1 := S4.out row (List.mem_of_getElem? hxk)
      have HX := Lib.hid (take_snoc hxk)
      have HRI := Lib.hid hri
      clear hxk hri
      go_wp2_with fail
      refine (icopied0 _ _ _ row _ HRI.out hr1).mono ?_
      rintro e w2 ⟨v2, L2, rfl, hh2, hb2⟩
      have hz2 := hb2.size
      have hal : Below w2.heap.size w2 (w2.alloc (.cells #[v2] 23)) := b_alloc _ _
      have H2 := Lib.hid (HIn.below (HIn.base_ (base' := wb.heap.size) hh2 hzr) hal)
      have F2 := Lib.hid hh2.fr
      obtain ⟨A3, d3, rfl, -, -⟩ := hh2.read
      obtain ⟨us, u1, u2, u3, u4⟩ := HRs.stays.below _ _ _ _ _ hal (HRs.stays.below _ _ _ _ _ hb2 hq.out)
      rw [hln.out] at u2
      have U := Lib.hid (And.intro u1 u4)
      have hr0 := u2.lt
      clear hh2 u1 u4 u3
      go_wp2_with (at_builtin; refine wpList_append_any rfl _ _ 27 rfl wb.heap.size 23 i1 _ 1 24 Try.underlying27 hi1 hy0 hy1 hy2 rfl (by decide) v _ _ rfl u2 (some ⟨w2.heap.size, 0, none⟩) 1 1 [.slice A3 row.length d3] rfl (.inr ⟨_, rfl, rfl, cell_one_new _ _ _⟩) (by simp [Value.oneCell']) (by unfold maxLen; omega) (by omega) (by rw [size_alloc_]; omega) ?_; intro v1 w3 hown hbw hgr hnn)
      have hsn := OwnOf.snoc (In := HIn) (fun u x hx => HIn.grown (show (3 : TypeId) ≠ 23 by decide) u2 hgr hx) (by rw [U.out.1]) U.out.2 H2.out (by rw [hln.out]; omega) (by rw [hln.out]; exact hown)
      have HSN := Lib.hid hsn
      have hz3 := hbw.size
      have hal3 : (w2.alloc (.cells #[.slice A3 row.length d3] 23)).heap.size = w2.heap.size + 1 := size_alloc_ _ _
      have hz4 := hgr.size
      have hfr2 := Lib.hid (show Fr w.heap.size w3.heap.size ((rows ++ [(row, L2)]).map Prod.snd).flatten by
        simp only [List.map_append, List.map_cons, List.map_nil, List.flatten_append, List.flatten_cons, List.flatten_nil, List.append_nil]
        exact hfr.out.append (F2.out.wide (Nat.le_refl _) (by omega)) (Nat.le_refl _) (by omega) (by omega))
      have hfs2 := Lib.hid (show (rows ++ [(row, L2)]).map Prod.fst = c.rows.take (k + 1) by rw [HX.out, List.map_append, hfs.out]; rfl)
      have hb4 : Below wb.heap.size wb w3 := ((hb.trans (hb2.mono hzr)).trans (hal.mono (by omega))).trans hbw
      clear hsn hown hgr hbw
      go_roundw
      case rel => exact ⟨k + 1, v1, rows ++ [(row, L2)], by omega, by go_num, rfl, HSN, hfs2, Lib.hid (by rw [List.length_append, hln.out]; rfl), hfr2, hb4⟩
      case measure => simp [intOf]; omega
    · obtain rfl : nr = k := by omega
      have hS : ∀ w', Below (w.heap.size + 1) wb w' → (w'.cell? ⟨w.heap.size, 0, none⟩ = some (.int .i64 c.kind) ∧ w'.cell? ⟨w.heap.size, 1, none⟩ = some (.slice va nv cv) ∧ w'.cell? ⟨w.heap.size, 2, none⟩ = some (.slice aa na ca) ∧ w'.cell? ⟨w.heap.size, 3, none⟩ = some (.int .i64 c.bound)) := by
        intro w' h
        have k := HA.out.below_ h (by omega)
        exact ⟨k.at_ 0 rfl, k.at_ 1 rfl, k.at_ 2 rfl, k.at_ 3 rfl⟩
      have hbd : Below wr.heap.size wr wr.drew := below_drewN (Below.refl _ _) 1
      have hbd1 : Below (w.heap.size + 1) wb wr.drew := (hb.mono (by omega)).trans (hbd.mono (by omega))
      have hS0 := hS _ hbd1
      have GV := Lib.hid (IntR.on (IntR.on G1.out hb) hbd)
      obtain ⟨Ar, cr2, rfl, -⟩ := HRs.read hq.out
      go_wp2_with fail
      go_region_held3 (fun w' => w'.cell? ⟨w.heap.size, 0, none⟩ = some (.int .i64 c.kind) ∧ w'.cell? ⟨w.heap.size, 1, none⟩ = some (.slice va nv cv) ∧ w'.cell? ⟨w.heap.size, 2, none⟩ = some (.slice aa na ca) ∧ w'.cell? ⟨w.heap.size, 3, none⟩ = some (.int .i64 c.bound))
        (first | with_reducible exact hS0 | with_reducible exact hS _ hb8' | with_reducible exact hS _ hb9' | (with_reducible refine hS _ ?_; repeat' (first | with_reducible exact hb9' | with_reducible refine Below.setCell ?_ (by simp) _)))
        (first
          | (go_at_call 31
             refine (icopied0 va nv cv c.vars _ GV.out t1).mono ?_
             rintro e W8 ⟨v8, L8, rfl, h8, hBq⟩
             obtain ⟨A8, c8, rfl, -, -⟩ := h8.read
             have hb8 := bgo hbd hBq
             have hb8' : Below (w.heap.size + 1) wb W8 := hbd1.trans (hBq.mono (by have := hbd.size; omega))
             have z8 := hBq.size
             have H8 := Lib.hid h8
             clear hBq GV h8)
          | (go_at_call 31
             refine (icopied0 aa na ca c.args _ (IntR.on (IntR.on G2.out hb) hb8) t2).mono ?_
             rintro e W9 ⟨v9, L9, rfl, h9, hB9⟩
             obtain ⟨A9, c9, rfl, -, -⟩ := h9.read
             have hb9 := bgo hb8 hB9
             have hb9' : Below (w.heap.size + 1) wb W9 := hb8'.trans (hB9.mono (by have := hb8'.size; omega))
             have z9 := hB9.size
             have H9 := Lib.hid h9
             have HB9 := Lib.hid hB9
             have q9 := HR.out.below_ (hb.trans (hb9.mono hzr)) (by omega)
             have q0 := q9.at_ 0 rfl
             have q1 := q9.at_ 1 rfl
             have q2 := q9.at_ 2 rfl
             have q3 := q9.at_ 3 rfl
             have q4 := q9.at_ 4 rfl
             have f0 := q9.frozen 0
             have f1 := q9.frozen 1
             have f2 := q9.frozen 2
             have f3 := q9.frozen 3
             have f4 := q9.frozen 4
             clear h9 hB9 q9))
      rename_i hHeld
      clear hHeld q0 q1 q2 q3 q4 f0 f1 f2 f3 f4
      obtain ⟨WF, hWF⟩ : ∃ WF, WF = ((((W9.setCell ⟨w.heap.size + 1, 0, none⟩ (.int .i64 c.kind)).setCell ⟨w.heap.size + 1, 1, none⟩ (.slice A8 c.vars.length c8)).setCell ⟨w.heap.size + 1, 2, none⟩ (.slice A9 c.args.length c9)).setCell ⟨w.heap.size + 1, 3, none⟩ (.int .i64 c.bound)).setCell ⟨w.heap.size + 1, 4, none⟩ (.slice Ar rows.length cr2) := ⟨_, rfl⟩
      have hq9 := HR.out.below_ (hb.trans (hb9.mono hzr)) (by omega)
      have hqf : TBlk 53 WF (w.heap.size + 1) #[.int .i64 c.kind, .slice A8 c.vars.length c8, .slice A9 c.args.length c9, .int .i64 c.bound, .slice Ar rows.length cr2] := by
        rw [hWF]
        exact ((((hq9.store 0 _).store 1 _).store 2 _).store 3 _).store 4 _
      have q0 := hqf.at_ 0 rfl
      have q1 := hqf.at_ 1 rfl
      have q2 := hqf.at_ 2 rfl
      have q3 := hqf.at_ 3 rfl
      have q4 := hqf.at_ 4 rfl
      have z0 := hbd.size
      have hap : Apart wb.heap.size W9 WF := by
        rw [hWF]
        exact (((((Apart.refl _ _).set (by omega) 0 _).set (by omega) 1 _).set (by omega) 2 _).set (by omega) 3 _).set (by omega) 4 _
      have hzf : WF.heap.size = W9.heap.size := by rw [hWF]; simp [World.setCell]
      have hbf : Below w.heap.size w WF := by
        rw [hWF]
        refine (hb01.trans ((hb.mono (by omega)).trans (hb9.mono (by omega)))).trans ?_
        repeat' (first | exact Below.refl _ _ | refine Below.setCell ?_ (by simp) _)
      have hlr : rows.length = nr := hln.out
      have hlr2 : c.rows.length = nr := HNR.out
      have hfin : CCon WF w.heap.size [.int .i64 c.kind, .slice A8 c.vars.length c8, .slice A9 c.args.length c9, .int .i64 c.bound, .slice Ar rows.length cr2] ⟨c, L8, L9, rows.map Prod.snd⟩ := by
        refine CCon.stays.base _ _ _ _ _ (show w.heap.size ≤ wb.heap.size by omega) ?_
        refine ⟨_, _, _, rows, rfl, ?_, ?_, ?_, ?_, rfl, by omega⟩
        · exact HIn.apart (HIn.below (HIn.base_ H8.out (by omega)) HB9.out) hap
        · exact HIn.apart (HIn.base_ H9.out (by omega)) hap
        · exact HRs.apart (HRs.stays.below _ _ _ _ _ hb9 hq.out) hap
        · show rows.map Prod.fst = c.rows
          rw [hfs.out, ← HNR.out, List.take_length]
      have hfr3 : Fr w.heap.size WF.heap.size (L8 ++ (L9 ++ (rows.map Prod.snd).flatten)) := by
        have k8 := H8.out.fr
        have k9 := H9.out.fr
        have e1 : Fr w.heap.size W8.heap.size ((rows.map Prod.snd).flatten ++ L8) := hfr.out.append (k8.wide (Nat.le_refl _) (Nat.le_refl _)) (by omega) (by omega) (by omega)
        have e2 : Fr w.heap.size W9.heap.size (((rows.map Prod.snd).flatten ++ L8) ++ L9) := e1.append k9 (Nat.le_refl _) (by omega) (by omega)
        rw [hzf]
        have e3 := Fr.swap (L := (rows.map Prod.snd).flatten) (M := L8 ++ L9) (by rw [← List.append_assoc]; exact e2)
        rw [← List.append_assoc]
        exact e3
      have FIN := Lib.hid (And.intro hfin (And.intro hfr3 hbf))
      rw [← hWF]
      clear hfin hfr3 hbf hap hqf hq9 hWF hzf
      go_wp2_with fail
      exact bodyPost_ret (v := .agg #[.int .i64 c.kind, .slice A8 c.vars.length c8, .slice A9 c.args.length c9, .int .i64 c.bound, .slice Ar rows.length cr2]) (by simp [results, Try.results46, go_sem, q0, q1, q2, q3, q4]) rfl (by first | exact ⟨_, _, rfl, rfl, FIN.out.1, FIN.out.2.1, FIN.out.2.2⟩ | exact ⟨_, rfl, _, rfl, FIN.out.1, FIN.out.2.1, FIN.out.2.2⟩)
end Go.Proofs.Ytjpcdbdaimonlaa
