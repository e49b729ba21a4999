/- spec's randomConstraint once more: what it gives is valid. -/
import Derived.Test.YtjpcdbdaimonlaaDrawR
import Derived.Test.YtjpcdbdaimonlaaVcP
import Derived.Deep.RegionLaw
namespace Go.Proofs.Ytjpcdbdaimonlaa
open Go.ChangeShapes Go.WideShapes Go.ChangeAt Go.RowKit
open Go.Shelf
set_option linter.unusedVariables false
set_option maxRecDepth 100000
set_option maxHeartbeats 16000000 in
theorem randomConstraintV (base g n c p : Nat) (A : Option Addr) (bs : List Int) (m : Nat) (w : World) (h : Rd w base g A n c bs p) (hp : p ≤ 900000) (hm1 : 1 ≤ m) (hm4 : m ≤ 4) :
    Calls Try.prog 43 #[.pointer (some ⟨g, 0, none⟩), .int .i64 m] w fun e w' => ∃ (v : Value) (k : Con) (q : Nat), e = .returned v ∧ OwnCon w' w.heap.size v k ∧ 1 ≤ k.vars.length ∧ SmC k ∧ vconF k (m : Int) = true ∧ q ≤ p + 200 ∧ Rd w' base g A n c bs q ∧ ButG g w.heap.size w w' := by
  obtain ⟨i0, hi0, hz0, hz1, hz2⟩ := info_parts info_int
  obtain ⟨i1, hi1, hy0, hy1, hy2⟩ := info_parts (P := Try.prog) (e := 23) (z := .slice none 0 0) (size := 1) (bytes := 24) (by kernel_rfl)
  have hg : g < w.heap.size := (Array.getElem?_eq_some_iff.1 h.block).1
  obtain ⟨wa, hwa⟩ : ∃ wa, wa = w.alloc (.cells #[.int .i64 0, .slice none 0 0, .slice none 0 0, .int .i64 0, .slice none 0 0] 53) := ⟨_, rfl⟩
  have hba : Below w.heap.size w wa := by rw [hwa]; exact b_alloc _ _
  have hza : wa.heap.size = w.heap.size + 1 := by rw [hwa, size_alloc_]
  have HTA : Hid (TBlk 53 wa w.heap.size #[.int .i64 0, .slice none 0 0, .slice none 0 0, .int .i64 0, .slice none 0 0]) := by rw [hwa]; exact TBlk.new _ _ _
  have hra : Rd wa base g A n c bs p := h.below hba (Nat.le_trans h.base_le (Nat.le_of_lt hg))
  clear h
  go_enter Try.func43, Try.ntmps43
  go_wp2_with fail
  rw [← hwa]
  clear hwa
  refine (pick base g n c p A bs m _ hra (by omega)).mono ?_
  rintro e w1 ⟨r1, rfl, ⟨-, hr1⟩, hd1, hb1⟩
  obtain ⟨p0, p1⟩ := hr1 (by omega)
  clear hr1
  obtain ⟨k0, hk0⟩ : ∃ k0 : Nat, 1 + r1 = (k0 : Int) := ⟨(1 + r1).toNat, by omega⟩
  go_wp2_with fail
  refine (pick base g n c (p + 1) A bs 9 _ hd1 (by omega)).mono ?_
  rintro e w2 ⟨r2, rfl, ⟨-, hr2⟩, hd2, hb2⟩
  obtain ⟨p2, p3⟩ := hr2 (by omega)
  clear hr2
  obtain ⟨kd, hkd⟩ : ∃ kd : Int, 1 + r2 = kd := ⟨_, rfl⟩
  go_wp2_with fail
  have hb012 := (below_butG hba g).go (hb1.go hb2)
  have hz012 := hb012.size
  refine (someVarsV base g n c (p + 1 + 1) A bs m k0 _ hd2 (by omega) hm4 (by omega)).mono ?_
  rintro e w3 ⟨vv, ys, rfl, hly, hyn, hyr, hov, hd3, hb3⟩
  have HGV := Lib.hid (show GoodV m ys from ⟨hyn, hyr⟩)
  clear hyn hyr
  obtain ⟨A3, d3, rfl, -⟩ := hov.read
  have hyl : 1 ≤ ys.length ∧ ys.length ≤ 4 ∧ ys.length ≤ m := by omega
  obtain ⟨n3, hn3⟩ : ∃ n3, n3 = ys.length := ⟨_, rfl⟩
  rw [← hn3] at hov hyl
  have HN3 := Lib.hid hn3
  rw [← hn3]
  clear hn3 hly
  have hz3 := hb3.size
  have hgw3 : g < w3.heap.size := by omega
  have hwb : w.heap.size < w3.heap.size := by have := hb1.size; have := hb2.size; omega
  have HOV := Lib.hid ((OwnI.stays 3).base _ _ w.heap.size _ _ (by omega) hov)
  have HT3 : Hid (TBlk 53 w3 w.heap.size #[.int .i64 0, .slice none 0 0, .slice none 0 0, .int .i64 0, .slice none 0 0]) := ((HTA.out.butG hb1 (by omega)).butG hb2 (by omega)).butG hb3 (by omega)
  have HD3 := Lib.hid hd3
  have HB3 := Lib.hid (hb012.go hb3)
  clear hov hba hra hb1 hb2 hb3 hd1 hd2 hd3 hb012 HTA
  -- BRANCHES
  rcases (show kd = 1 ∨ kd = 2 ∨ kd = 3 ∨ kd = 4 ∨ kd = 5 ∨ kd = 6 ∨ kd = 7 ∨ kd = 8 ∨ kd = 9 by omega) with hk | hk | hk | hk | hk | hk | hk | hk | hk
  · subst hk
    cases t1 : decide ((m : Int) < 2)
    · skip
      obtain ⟨wz, hwz⟩ : ∃ wz, w3.alloc (.cells #[.int .i64 0, .slice none 0 0, .slice none 0 0, .int .i64 0, .slice none 0 0] 53) = wz := ⟨_, rfl⟩
      have hbz : Below w3.heap.size w3 wz := by rw [← hwz]; exact b_alloc _ _
      have hzz : wz.heap.size = w3.heap.size + 1 := by rw [← hwz, size_alloc_]
      have hTz : TBlk 53 wz w3.heap.size #[.int .i64 0, .slice none 0 0, .slice none 0 0, .int .i64 0, .slice none 0 0] := by rw [← hwz]; exact TBlk.new _ _ _
      have hCz : CS wz w.heap.size w3.heap.size ⟨0, [], [], 0, []⟩ (.slice none 0 0) (.slice none 0 0) (.slice none 0 0) := ⟨hTz, (OwnI.stays 3).below _ _ _ _ _ hbz (OwnI.nil _ _), OwnI.nil _ _, OwnRows.nil _ _⟩
      have x0 : wz.cell? ⟨w3.heap.size, 0, none⟩ = some (.int .i64 0) := hTz.at_ 0 rfl
      have e0 := hTz.frozen 0
      have x1 : wz.cell? ⟨w3.heap.size, 1, none⟩ = some (.slice none 0 0) := hTz.at_ 1 rfl
      have e1 := hTz.frozen 1
      have x2 : wz.cell? ⟨w3.heap.size, 2, none⟩ = some (.slice none 0 0) := hTz.at_ 2 rfl
      have e2 := hTz.frozen 2
      have x3 : wz.cell? ⟨w3.heap.size, 3, none⟩ = some (.int .i64 0) := hTz.at_ 3 rfl
      have e3 := hTz.frozen 3
      have x4 : wz.cell? ⟨w3.heap.size, 4, none⟩ = some (.slice none 0 0) := hTz.at_ 4 rfl
      have e4 := hTz.frozen 4
      obtain ⟨w4, hw4⟩ : ∃ w4, (((((wz.setCell ⟨w3.heap.size, 0, none⟩ (.int .i64 1)).setCell ⟨w3.heap.size, 1, none⟩ (.slice A3 n3 d3)).setCell ⟨w3.heap.size, 2, none⟩ (.slice none 0 0)).setCell ⟨w3.heap.size, 3, none⟩ (.int .i64 0)).setCell ⟨w3.heap.size, 4, none⟩ (.slice none 0 0)) = w4 := ⟨_, rfl⟩
      have hov := (OwnI.stays 3).below _ _ _ _ _ hbz HOV.out
      have s1 := hCz.kind 1
      have s2 := s1.setV (OwnI.shuns (t := 53) (by decide) _ _ _ _ _ 0 _ _ _ hTz hov)
      have s3 := s2.setA (OwnI.nil _ _)
      have s4 := s3.bound 0
      have s5 := s4.setR (OwnRows.nil _ _)
      have hC : CS w4 w.heap.size w3.heap.size ⟨1, ys, [], 0, []⟩ (.slice A3 n3 d3) (.slice none 0 0) (.slice none 0 0) := by rw [← hw4]; exact s5
      have hbw : Below w3.heap.size w3 w4 := by rw [← hw4]; exact (((((hbz.setCell (Nat.le_refl _) _).setCell (Nat.le_refl _) _).setCell (Nat.le_refl _) _).setCell (Nat.le_refl _) _).setCell (Nat.le_refl _) _)
      have hz4 : w4.heap.size = w3.heap.size + 1 := by rw [← hw4]; simp [hzz]
      have hT : TBlk 53 w4 w.heap.size #[.int .i64 0, .slice none 0 0, .slice none 0 0, .int .i64 0, .slice none 0 0] := HT3.out.below_ hbw (by omega)
      have hd : Rd w4 base g A n c bs (p + 1 + 1 + m) := HD3.out.under hbw (by omega)
      have hbt : ButG g w.heap.size w w4 := HB3.out.go (below_butG hbw g)
      clear hbz hTz hCz s1 s2 s3 s4 s5 hov hbw
      have z0 : w4.cell? ⟨w3.heap.size, 0, none⟩ = some (.int .i64 1) := hC.blk.at_ 0 rfl
      have z1 : w4.cell? ⟨w3.heap.size, 1, none⟩ = some (.slice A3 n3 d3) := hC.blk.at_ 1 rfl
      have z2 : w4.cell? ⟨w3.heap.size, 2, none⟩ = some (.slice none 0 0) := hC.blk.at_ 2 rfl
      have z3 : w4.cell? ⟨w3.heap.size, 3, none⟩ = some (.int .i64 0) := hC.blk.at_ 3 rfl
      have z4 : w4.cell? ⟨w3.heap.size, 4, none⟩ = some (.slice none 0 0) := hC.blk.at_ 4 rfl
      go_wp2_with fail
      clear hwz hw4 x0 x1 x2 x3 x4 e0 e1 e2 e3 e4 z0 z1 z2 z3 z4
      have htx := Lib.hid hC.blk
      have hvv := Lib.hid hC.vars
      have HT := Lib.hid hT
      have HVB := Lib.hid (show ∀ b, (Value.slice A3 n3 d3).ownBlock = some b → b < w4.heap.size from fun b hb => (hC.vars.1.lt b hb).2)
      have hz4a : w3.heap.size < w4.heap.size := by omega
      clear hC hT hz4
      go_loopw [7] (fun i wr => ∃ (j q : Nat) (al : List Int) (A2 : Option Addr) (d2 : Nat), j ≤ n3 ∧ i = .int .i64 j ∧ Hid (al.length = j) ∧ Hid (∀ x ∈ al, -3 ≤ x ∧ x ≤ 3) ∧ Hid (TBlk 53 wr w3.heap.size #[.int .i64 1, .slice A3 n3 d3, .slice A2 j d2, .int .i64 0, .slice none 0 0]) ∧ Hid (OwnI 3 wr w4.heap.size (.slice A2 j d2) al) ∧ Hid (OwnI 3 wr w.heap.size (.slice A3 n3 d3) ys) ∧ Hid (TBlk 53 wr w.heap.size #[.int .i64 0, .slice none 0 0, .slice none 0 0, .int .i64 0, .slice none 0 0]) ∧ q ≤ p + 6 + 2 * j ∧ Rd wr base g A n c bs q ∧ ButG g w.heap.size w wr ∧ w4.heap.size ≤ wr.heap.size) (fun i _ => n3 - (intOf i).toNat)
      case atStart => exact ⟨0, _, [], none, 0, by omega, rfl, Lib.hid rfl, Lib.hid (fun x hx => by simp at hx), htx, Lib.hid (OwnI.nil _ _), hvv, HT, by omega, hd, hbt, Nat.le_refl _⟩
      case round =>
        obtain ⟨j, q, al, A2, d2, hj, rfl, hl, hab, htx2, hal2, hvv2, hT2, hq, hd2, hbt2, hxw⟩ := hrel
        clear htx hvv HT hd hbt
        rename World => wr
        have hzb := hbt2.size
        have hxw2 : w3.heap.size < wr.heap.size := by omega
        by_cases hlt : j < n3
        · have a2 : wr.cell? ⟨w3.heap.size, 2, none⟩ = some (.slice A2 j d2) := htx2.out.at_ 2 rfl
          have hal : Below wr.drew.heap.size wr.drew (wr.drew.alloc (.cells #[.int .i64 1, .int .i64 1, .int .i64 (-1), .int .i64 2, .int .i64 (-3), .int .i64 0] 3)) := b_alloc _ _
          have hbx : Below wr.heap.size wr (wr.drew.alloc (.cells #[.int .i64 1, .int .i64 1, .int .i64 (-1), .int .i64 2, .int .i64 (-3), .int .i64 0] 3)) := (below_drewN (Below.refl _ _) 1 : Below wr.heap.size wr wr.drew).trans hal
          have ha2 : (wr.drew.alloc (.cells #[.int .i64 1, .int .i64 1, .int .i64 (-1), .int .i64 2, .int .i64 (-3), .int .i64 0] 3)).cell? ⟨w3.heap.size, 2, none⟩ = some (.slice A2 j d2) := (hbx.cell (p := ⟨w3.heap.size, 2, none⟩) hxw2).trans a2
          have hc0 : ∀ i x, ([1, 1, -1, 2, -3, 0] : List Int)[i]? = some x → (wr.drew.alloc (.cells #[.int .i64 1, .int .i64 1, .int .i64 (-1), .int .i64 2, .int .i64 (-3), .int .i64 0] 3)).cell? ⟨wr.heap.size, i, none⟩ = some (.int .i64 x) := fun i x hx => by
            show (wr.drew.alloc (.cells #[.int .i64 1, .int .i64 1, .int .i64 (-1), .int .i64 2, .int .i64 (-3), .int .i64 0] 3)).cell? ⟨wr.drew.heap.size, i, none⟩ = _
            rw [World.cell?_alloc_at _ _ _ _ rfl]
            match i, hx with
            | 0, hx => simp at hx; subst hx; rfl
            | 1, hx => simp at hx; subst hx; rfl
            | 2, hx => simp at hx; subst hx; rfl
            | 3, hx => simp at hx; subst hx; rfl
            | 4, hx => simp at hx; subst hx; rfl
            | 5, hx => simp at hx; subst hx; rfl
            | i + 6, hx => simp at hx
          have hN6 : (wr.drew.alloc (.cells #[.int .i64 1, .int .i64 1, .int .i64 (-1), .int .i64 2, .int .i64 (-3), .int .i64 0] 3)).heap.size = wr.heap.size + 1 := size_alloc_ _ _
          have hdx := hd2.under hbx (by omega)
          go_wp2_with fail
          go_region_law (first
            | (refine step_append_any (by rfl) _ _ 23 (by rfl) w4.heap.size 3 i0 _ 1 8 Try.underlying23 hi0 hz0 hz1 hz2 rfl (by omega) (.slice A2 j d2) j (al.map (.int .i64)) (by rfl) ho5 (some ⟨w5.heap.size, 0, none⟩) 1 [.int .i64 x] (by exact ⟨_, rfl, .inr ⟨_, rfl, rfl, cell_one_new _ _ _⟩⟩) (by simp [Value.oneCell']) (by unfold maxLen; omega) (by omega) (by rw [size_alloc_]; omega) ?_
               intro v1 w6 hown hbw hgr _
               obtain ⟨A6, d6, rfl, -⟩ := IntR.of_own (xs := al ++ [x]) (by simpa using hown) (by omega)
               have hbw2 : Below w5.heap.size w5 (w5.alloc (.cells #[.int .i64 x] 3)) := b_alloc _ _
               have t6 := ((((htx2.out.below_ hbx hxw2).butG hb5 (by omega)).below_ hbw2 (by omega)).below_ hbw (by omega))
               have a6 : w6.cell? ⟨w3.heap.size, 2, none⟩ = some (.slice A2 j d2) := t6.at_ 2 rfl
               have f6 := t6.frozen 2
               have ov6 := OwnI.under ((OwnI.stays 3).below _ _ _ _ _ hbw2 (((OwnI.stays 3).below _ _ _ _ _ hbx hvv2.out).butG hb5 hg)) hbw HVB.out
               have tB6 := ((((hT2.out.below_ hbx (by omega)).butG hb5 (by omega)).below_ hbw2 (by omega)).below_ hbw (by omega))
               have r6 := (hd5.under hbw2 (by omega)).under hbw (by omega)
               have bt6 := (((hbt2.go (below_butG hbx g)).go hb5).go (below_butG hbw2 g)).trans (below_butG (hbw.mono (by omega)) g)
               have hO6 : OwnI 3 w6 w4.heap.size (.slice A6 (j + 1) d6) (al ++ [x]) := ⟨by simpa [hl.out] using hown, by rw [List.length_append, hl.out]; simp; omega⟩)
            | (go_simp
               go_at_call 29
               refine (oneK base g n c q wr.heap.size 6 6 A bs [1, 1, -1, 2, -3, 0] _ hdx (by omega) rfl (by omega) (by omega) (by omega) (by rw [hN6]; omega) hc0).mono ?_
               rintro e w5 ⟨x, rfl, hxm, hd5, hb5⟩
               have HXR := Lib.hid (show -3 ≤ x ∧ x ≤ 3 by simp at hxm; omega)
               clear hxm
               have hz5 := hb5.size
               rw [hN6] at hz5
               have ho5 : (w5.alloc (.cells #[.int .i64 x] 3)).ownsRow w4.heap.size 3 1 (.slice A2 j d2) j (al.map (.int .i64)) := by
                 have := own_below (own_butG (own_below hal2.out.1 hbx) hb5 (by omega)) (b_alloc w5 (.cells #[.int .i64 x] 3))
                 rw [hl.out] at this; exact this
               have a5 : w5.cell? ⟨w3.heap.size, 2, none⟩ = some (.slice A2 j d2) := ((htx2.out.below_ hbx hxw2).butG hb5 (by omega)).at_ 2 rfl
               have a5' : (w5.alloc (.cells #[.int .i64 x] 3)).cell? ⟨w3.heap.size, 2, none⟩ = some (.slice A2 j d2) := (((htx2.out.below_ hbx hxw2).butG hb5 (by omega)).below_ (b_alloc w5 (.cells #[.int .i64 x] 3)) (by omega)).at_ 2 rfl))
          all_goals
            have hv6 := hown
            have z6 := hbw.size
            have z7 := hbw2.size
            have T6 := Lib.hid t6
            have V6 := Lib.hid ov6
            have B6 := Lib.hid tB6
            have O6 := Lib.hid hO6
            clear t6 ov6 tB6 hO6 hown hv6 hgr hbw ho5
            go_wp2_with fail
            go_roundw
            case rel =>
              refine ⟨j + 1, q + 1, al ++ [x], A6, d6, by omega, by go_num, Lib.hid (by rw [List.length_append, hl.out]; rfl), Lib.hid (fun y hy => by
                rcases List.mem_append.1 hy with h | h
                · exact hab.out y h
                · rw [List.mem_singleton.1 h]; exact HXR.out), Lib.hid (T6.out.store 2 _), Lib.hid (O6.out.shunC T6.out), Lib.hid (V6.out.shunC T6.out), Lib.hid (B6.out.far (by omega)), by omega, r6.set (by omega) 2 _, bt6.setHi (by omega) 2 _, by simp; omega⟩
            case measure => simp [intOf]; omega
        · have hjn := Lib.hid (show j = n3 by omega)
          have hC : CS wr w.heap.size w3.heap.size ⟨1, ys, al, 0, []⟩ (.slice A3 n3 d3) (.slice A2 j d2) (.slice none 0 0) := ⟨htx2.out, hvv2.out, (OwnI.stays 3).base _ _ _ _ _ (by omega) hal2.out, OwnRows.nil _ _⟩
          have hT := hT2.out
          have hd := hd2
          have hbt := hbt2
          clear hd2 hbt2 htx2 hal2 hvv2 hT2
          have z0 : wr.cell? ⟨w3.heap.size, 0, none⟩ = some (.int .i64 1) := hC.blk.at_ 0 rfl
          have z1 : wr.cell? ⟨w3.heap.size, 1, none⟩ = some (.slice A3 n3 d3) := hC.blk.at_ 1 rfl
          have z2 : wr.cell? ⟨w3.heap.size, 2, none⟩ = some (.slice A2 j d2) := hC.blk.at_ 2 rfl
          have z3 : wr.cell? ⟨w3.heap.size, 3, none⟩ = some (.int .i64 0) := hC.blk.at_ 3 rfl
          have z4 : wr.cell? ⟨w3.heap.size, 4, none⟩ = some (.slice none 0 0) := hC.blk.at_ 4 rfl
          go_wp2_with fail
          clear z0 z1 z2 z3 z4
          refine (pick base g n c (q) A bs 14 _ hd (by omega)).mono ?_
          rintro e w7 ⟨r, rfl, ⟨-, hr⟩, hdn, hbn⟩
          obtain ⟨lr, ur⟩ := hr (by omega)
          clear hr hd
          have hd := hdn
          clear hdn
          have hszw7 := hbn.size
          have hCn : CS w7 w.heap.size w3.heap.size ⟨1, ys, al, 0, []⟩ (.slice A3 n3 d3) (.slice A2 j d2) (.slice none 0 0) := hC.butG hbn hg (by omega)
          replace hT := hT.butG hbn (by omega)
          replace hbt := hbt.go hbn
          clear hC hbn
          have hC := hCn
          clear hCn
          obtain ⟨bd, hbd⟩ : ∃ bd, r - 4 = bd := ⟨_, rfl⟩
          have st3 : w7.cell? ⟨w3.heap.size, 3, none⟩ = some (.int .i64 0) := hC.blk.at_ 3 rfl
          have sf3 := hC.blk.frozen 3
          obtain ⟨w8, hw8⟩ : ∃ w8, w7.setCell ⟨w3.heap.size, 3, none⟩ (.int .i64 bd) = w8 := ⟨_, rfl⟩
          have hzsw8 : w8.heap.size = w7.heap.size := by rw [← hw8]; simp
          have hCn : CS w8 w.heap.size w3.heap.size ⟨1, ys, al, bd, []⟩ (.slice A3 n3 d3) (.slice A2 j d2) (.slice none 0 0) := by rw [← hw8]; exact hC.bound bd
          have hTn : TBlk 53 w8 w.heap.size #[.int .i64 0, .slice none 0 0, .slice none 0 0, .int .i64 0, .slice none 0 0] := by rw [← hw8]; exact hT.far (by omega)
          have hdn : Rd w8 base g A n c bs (q + 1) := by rw [← hw8]; exact hd.set (by omega) 3 _
          have hbn : ButG g w.heap.size w w8 := by rw [← hw8]; exact hbt.setHi (by omega) 3 _
          clear hC hT hd hbt
          have hC := hCn
          have hT := hTn
          have hd := hdn
          have hbt := hbn
          clear hCn hTn hdn hbn
          have z0 : w8.cell? ⟨w3.heap.size, 0, none⟩ = some (.int .i64 1) := hC.blk.at_ 0 rfl
          have z1 : w8.cell? ⟨w3.heap.size, 1, none⟩ = some (.slice A3 n3 d3) := hC.blk.at_ 1 rfl
          have z2 : w8.cell? ⟨w3.heap.size, 2, none⟩ = some (.slice A2 j d2) := hC.blk.at_ 2 rfl
          have z3 : w8.cell? ⟨w3.heap.size, 3, none⟩ = some (.int .i64 bd) := hC.blk.at_ 3 rfl
          have z4 : w8.cell? ⟨w3.heap.size, 4, none⟩ = some (.slice none 0 0) := hC.blk.at_ 4 rfl
          have y0 : w8.cell? ⟨w.heap.size, 0, none⟩ = some (.int .i64 0) := hT.at_ 0 rfl
          have g0 := hT.frozen 0
          have y1 : w8.cell? ⟨w.heap.size, 1, none⟩ = some (.slice none 0 0) := hT.at_ 1 rfl
          have g1 := hT.frozen 1
          have y2 : w8.cell? ⟨w.heap.size, 2, none⟩ = some (.slice none 0 0) := hT.at_ 2 rfl
          have g2 := hT.frozen 2
          have y3 : w8.cell? ⟨w.heap.size, 3, none⟩ = some (.int .i64 0) := hT.at_ 3 rfl
          have g3 := hT.frozen 3
          have y4 : w8.cell? ⟨w.heap.size, 4, none⟩ = some (.slice none 0 0) := hT.at_ 4 rfl
          have g4 := hT.frozen 4
          have hF := Lib.hid (CS.finish hC hT rfl (by omega) hd hg hbt rfl)
          clear hC hT hbt
          have HVC := Lib.hid (show vconF ⟨1, ys, al, bd, []⟩ (m : Int) = true from vcon_of HGV.out (by show 1 ≤ ys.length; rw [← HN3.out]; exact hyl.1) (by show ys.length ≤ m; rw [← HN3.out]; exact hyl.2.2) hm4 (fit_1 (by rw [hl.out, hjn.out, HN3.out]) (fun x hx => by have := hab.out x hx; omega) (by omega)))
          go_wp2_with fail
          have hvc := HVC.out
          generalize (((((w8.setCell ⟨w.heap.size, 0, none⟩ (.int .i64 1)).setCell ⟨w.heap.size, 1, none⟩ (.slice A3 n3 d3)).setCell ⟨w.heap.size, 2, none⟩ (.slice A2 j d2)).setCell ⟨w.heap.size, 3, none⟩ (.int .i64 bd)).setCell ⟨w.heap.size, 4, none⟩ (.slice none 0 0)) = wf at hF ⊢
          obtain ⟨⟨t0, t1, t2, t3, t4⟩, ho, hrd, hbf⟩ := hF.out
          have hyv : 1 ≤ ys.length := by rw [← HN3.out]; exact hyl.1
          have hqq : (q + 1 : Nat) ≤ p + 200 := by omega
          first | exact bodyPost_ret (v := .agg #[.int .i64 1, .slice A3 n3 d3, .slice A2 j d2, .int .i64 bd, .slice none 0 0]) (by simp [results, Try.results43, go_sem, t0, t1, t2, t3, t4]) rfl ⟨_, _, _, rfl, ho, hyv, ⟨by show ys.length ≤ 8; rw [← HN3.out]; omega, by show al.length ≤ 8; rw [hl.out]; omega, by show (0 : Nat) ≤ 8; omega, fun x hx => by simp at hx⟩, hvc, hqq, hrd, hbf⟩ | exact bodyPost_ret (v := .agg #[.int .i64 1, .slice A3 n3 d3, .slice A2 j d2, .int .i64 bd, .slice none 0 0]) (by simp [results, Try.results43, go_sem, t0, t1, t2, t3, t4]) rfl ⟨_, rfl, _, ho, hyv, ⟨by show ys.length ≤ 8; rw [← HN3.out]; omega, by show al.length ≤ 8; rw [hl.out]; omega, by show (0 : Nat) ≤ 8; omega, fun x hx => by simp at hx⟩, hvc, _, hqq, hrd, hbf⟩
    · skip
      obtain ⟨wz, hwz⟩ : ∃ wz, w3.alloc (.cells #[.int .i64 0, .slice none 0 0, .slice none 0 0, .int .i64 0, .slice none 0 0] 53) = wz := ⟨_, rfl⟩
      have hbz : Below w3.heap.size w3 wz := by rw [← hwz]; exact b_alloc _ _
      have hzz : wz.heap.size = w3.heap.size + 1 := by rw [← hwz, size_alloc_]
      have hTz : TBlk 53 wz w3.heap.size #[.int .i64 0, .slice none 0 0, .slice none 0 0, .int .i64 0, .slice none 0 0] := by rw [← hwz]; exact TBlk.new _ _ _
      have hCz : CS wz w.heap.size w3.heap.size ⟨0, [], [], 0, []⟩ (.slice none 0 0) (.slice none 0 0) (.slice none 0 0) := ⟨hTz, (OwnI.stays 3).below _ _ _ _ _ hbz (OwnI.nil _ _), OwnI.nil _ _, OwnRows.nil _ _⟩
      have x0 : wz.cell? ⟨w3.heap.size, 0, none⟩ = some (.int .i64 0) := hTz.at_ 0 rfl
      have e0 := hTz.frozen 0
      have x1 : wz.cell? ⟨w3.heap.size, 1, none⟩ = some (.slice none 0 0) := hTz.at_ 1 rfl
      have e1 := hTz.frozen 1
      have x2 : wz.cell? ⟨w3.heap.size, 2, none⟩ = some (.slice none 0 0) := hTz.at_ 2 rfl
      have e2 := hTz.frozen 2
      have x3 : wz.cell? ⟨w3.heap.size, 3, none⟩ = some (.int .i64 0) := hTz.at_ 3 rfl
      have e3 := hTz.frozen 3
      have x4 : wz.cell? ⟨w3.heap.size, 4, none⟩ = some (.slice none 0 0) := hTz.at_ 4 rfl
      have e4 := hTz.frozen 4
      obtain ⟨w4, hw4⟩ : ∃ w4, (((((wz.setCell ⟨w3.heap.size, 0, none⟩ (.int .i64 1)).setCell ⟨w3.heap.size, 1, none⟩ (.slice A3 n3 d3)).setCell ⟨w3.heap.size, 2, none⟩ (.slice none 0 0)).setCell ⟨w3.heap.size, 3, none⟩ (.int .i64 0)).setCell ⟨w3.heap.size, 4, none⟩ (.slice none 0 0)) = w4 := ⟨_, rfl⟩
      have hov := (OwnI.stays 3).below _ _ _ _ _ hbz HOV.out
      have s1 := hCz.kind 1
      have s2 := s1.setV (OwnI.shuns (t := 53) (by decide) _ _ _ _ _ 0 _ _ _ hTz hov)
      have s3 := s2.setA (OwnI.nil _ _)
      have s4 := s3.bound 0
      have s5 := s4.setR (OwnRows.nil _ _)
      have hC : CS w4 w.heap.size w3.heap.size ⟨1, ys, [], 0, []⟩ (.slice A3 n3 d3) (.slice none 0 0) (.slice none 0 0) := by rw [← hw4]; exact s5
      have hbw : Below w3.heap.size w3 w4 := by rw [← hw4]; exact (((((hbz.setCell (Nat.le_refl _) _).setCell (Nat.le_refl _) _).setCell (Nat.le_refl _) _).setCell (Nat.le_refl _) _).setCell (Nat.le_refl _) _)
      have hz4 : w4.heap.size = w3.heap.size + 1 := by rw [← hw4]; simp [hzz]
      have hT : TBlk 53 w4 w.heap.size #[.int .i64 0, .slice none 0 0, .slice none 0 0, .int .i64 0, .slice none 0 0] := HT3.out.below_ hbw (by omega)
      have hd : Rd w4 base g A n c bs (p + 1 + 1 + m) := HD3.out.under hbw (by omega)
      have hbt : ButG g w.heap.size w w4 := HB3.out.go (below_butG hbw g)
      clear hbz hTz hCz s1 s2 s3 s4 s5 hov hbw
      have z0 : w4.cell? ⟨w3.heap.size, 0, none⟩ = some (.int .i64 1) := hC.blk.at_ 0 rfl
      have z1 : w4.cell? ⟨w3.heap.size, 1, none⟩ = some (.slice A3 n3 d3) := hC.blk.at_ 1 rfl
      have z2 : w4.cell? ⟨w3.heap.size, 2, none⟩ = some (.slice none 0 0) := hC.blk.at_ 2 rfl
      have z3 : w4.cell? ⟨w3.heap.size, 3, none⟩ = some (.int .i64 0) := hC.blk.at_ 3 rfl
      have z4 : w4.cell? ⟨w3.heap.size, 4, none⟩ = some (.slice none 0 0) := hC.blk.at_ 4 rfl
      go_wp2_with fail
      clear hwz hw4 x0 x1 x2 x3 x4 e0 e1 e2 e3 e4 z0 z1 z2 z3 z4
      have htx := Lib.hid hC.blk
      have hvv := Lib.hid hC.vars
      have HT := Lib.hid hT
      have HVB := Lib.hid (show ∀ b, (Value.slice A3 n3 d3).ownBlock = some b → b < w4.heap.size from fun b hb => (hC.vars.1.lt b hb).2)
      have hz4a : w3.heap.size < w4.heap.size := by omega
      clear hC hT hz4
      go_loopw [7] (fun i wr => ∃ (j q : Nat) (al : List Int) (A2 : Option Addr) (d2 : Nat), j ≤ n3 ∧ i = .int .i64 j ∧ Hid (al.length = j) ∧ Hid (∀ x ∈ al, -3 ≤ x ∧ x ≤ 3) ∧ Hid (TBlk 53 wr w3.heap.size #[.int .i64 1, .slice A3 n3 d3, .slice A2 j d2, .int .i64 0, .slice none 0 0]) ∧ Hid (OwnI 3 wr w4.heap.size (.slice A2 j d2) al) ∧ Hid (OwnI 3 wr w.heap.size (.slice A3 n3 d3) ys) ∧ Hid (TBlk 53 wr w.heap.size #[.int .i64 0, .slice none 0 0, .slice none 0 0, .int .i64 0, .slice none 0 0]) ∧ q ≤ p + 6 + 2 * j ∧ Rd wr base g A n c bs q ∧ ButG g w.heap.size w wr ∧ w4.heap.size ≤ wr.heap.size) (fun i _ => n3 - (intOf i).toNat)
      case atStart => exact ⟨0, _, [], none, 0, by omega, rfl, Lib.hid rfl, Lib.hid (fun x hx => by simp at hx), htx, Lib.hid (OwnI.nil _ _), hvv, HT, by omega, hd, hbt, Nat.le_refl _⟩
      case round =>
        obtain ⟨j, q, al, A2, d2, hj, rfl, hl, hab, htx2, hal2, hvv2, hT2, hq, hd2, hbt2, hxw⟩ := hrel
        clear htx hvv HT hd hbt
        rename World => wr
        have hzb := hbt2.size
        have hxw2 : w3.heap.size < wr.heap.size := by omega
        by_cases hlt : j < n3
        · have a2 : wr.cell? ⟨w3.heap.size, 2, none⟩ = some (.slice A2 j d2) := htx2.out.at_ 2 rfl
          have hal : Below wr.drew.heap.size wr.drew (wr.drew.alloc (.cells #[.int .i64 1, .int .i64 1, .int .i64 (-1), .int .i64 2, .int .i64 (-3), .int .i64 0] 3)) := b_alloc _ _
          have hbx : Below wr.heap.size wr (wr.drew.alloc (.cells #[.int .i64 1, .int .i64 1, .int .i64 (-1), .int .i64 2, .int .i64 (-3), .int .i64 0] 3)) := (below_drewN (Below.refl _ _) 1 : Below wr.heap.size wr wr.drew).trans hal
          have ha2 : (wr.drew.alloc (.cells #[.int .i64 1, .int .i64 1, .int .i64 (-1), .int .i64 2, .int .i64 (-3), .int .i64 0] 3)).cell? ⟨w3.heap.size, 2, none⟩ = some (.slice A2 j d2) := (hbx.cell (p := ⟨w3.heap.size, 2, none⟩) hxw2).trans a2
          have hc0 : ∀ i x, ([1, 1, -1, 2, -3, 0] : List Int)[i]? = some x → (wr.drew.alloc (.cells #[.int .i64 1, .int .i64 1, .int .i64 (-1), .int .i64 2, .int .i64 (-3), .int .i64 0] 3)).cell? ⟨wr.heap.size, i, none⟩ = some (.int .i64 x) := fun i x hx => by
            show (wr.drew.alloc (.cells #[.int .i64 1, .int .i64 1, .int .i64 (-1), .int .i64 2, .int .i64 (-3), .int .i64 0] 3)).cell? ⟨wr.drew.heap.size, i, none⟩ = _
            rw [World.cell?_alloc_at _ _ _ _ rfl]
            match i, hx with
            | 0, hx => simp at hx; subst hx; rfl
            | 1, hx => simp at hx; subst hx; rfl
            | 2, hx => simp at hx; subst hx; rfl
            | 3, hx => simp at hx; subst hx; rfl
            | 4, hx => simp at hx; subst hx; rfl
            | 5, hx => simp at hx; subst hx; rfl
            | i + 6, hx => simp at hx
          have hN6 : (wr.drew.alloc (.cells #[.int .i64 1, .int .i64 1, .int .i64 (-1), .int .i64 2, .int .i64 (-3), .int .i64 0] 3)).heap.size = wr.heap.size + 1 := size_alloc_ _ _
          have hdx := hd2.under hbx (by omega)
          go_wp2_with fail
          go_region_law (first
            | (refine step_append_any (by rfl) _ _ 23 (by rfl) w4.heap.size 3 i0 _ 1 8 Try.underlying23 hi0 hz0 hz1 hz2 rfl (by omega) (.slice A2 j d2) j (al.map (.int .i64)) (by rfl) ho5 (some ⟨w5.heap.size, 0, none⟩) 1 [.int .i64 x] (by exact ⟨_, rfl, .inr ⟨_, rfl, rfl, cell_one_new _ _ _⟩⟩) (by simp [Value.oneCell']) (by unfold maxLen; omega) (by omega) (by rw [size_alloc_]; omega) ?_
               intro v1 w6 hown hbw hgr _
               obtain ⟨A6, d6, rfl, -⟩ := IntR.of_own (xs := al ++ [x]) (by simpa using hown) (by omega)
               have hbw2 : Below w5.heap.size w5 (w5.alloc (.cells #[.int .i64 x] 3)) := b_alloc _ _
               have t6 := ((((htx2.out.below_ hbx hxw2).butG hb5 (by omega)).below_ hbw2 (by omega)).below_ hbw (by omega))
               have a6 : w6.cell? ⟨w3.heap.size, 2, none⟩ = some (.slice A2 j d2) := t6.at_ 2 rfl
               have f6 := t6.frozen 2
               have ov6 := OwnI.under ((OwnI.stays 3).below _ _ _ _ _ hbw2 (((OwnI.stays 3).below _ _ _ _ _ hbx hvv2.out).butG hb5 hg)) hbw HVB.out
               have tB6 := ((((hT2.out.below_ hbx (by omega)).butG hb5 (by omega)).below_ hbw2 (by omega)).below_ hbw (by omega))
               have r6 := (hd5.under hbw2 (by omega)).under hbw (by omega)
               have bt6 := (((hbt2.go (below_butG hbx g)).go hb5).go (below_butG hbw2 g)).trans (below_butG (hbw.mono (by omega)) g)
               have hO6 : OwnI 3 w6 w4.heap.size (.slice A6 (j + 1) d6) (al ++ [x]) := ⟨by simpa [hl.out] using hown, by rw [List.length_append, hl.out]; simp; omega⟩)
            | (go_simp
               go_at_call 29
               refine (oneK base g n c q wr.heap.size 6 6 A bs [1, 1, -1, 2, -3, 0] _ hdx (by omega) rfl (by omega) (by omega) (by omega) (by rw [hN6]; omega) hc0).mono ?_
               rintro e w5 ⟨x, rfl, hxm, hd5, hb5⟩
               have HXR := Lib.hid (show -3 ≤ x ∧ x ≤ 3 by simp at hxm; omega)
               clear hxm
               have hz5 := hb5.size
               rw [hN6] at hz5
               have ho5 : (w5.alloc (.cells #[.int .i64 x] 3)).ownsRow w4.heap.size 3 1 (.slice A2 j d2) j (al.map (.int .i64)) := by
                 have := own_below (own_butG (own_below hal2.out.1 hbx) hb5 (by omega)) (b_alloc w5 (.cells #[.int .i64 x] 3))
                 rw [hl.out] at this; exact this
               have a5 : w5.cell? ⟨w3.heap.size, 2, none⟩ = some (.slice A2 j d2) := ((htx2.out.below_ hbx hxw2).butG hb5 (by omega)).at_ 2 rfl
               have a5' : (w5.alloc (.cells #[.int .i64 x] 3)).cell? ⟨w3.heap.size, 2, none⟩ = some (.slice A2 j d2) := (((htx2.out.below_ hbx hxw2).butG hb5 (by omega)).below_ (b_alloc w5 (.cells #[.int .i64 x] 3)) (by omega)).at_ 2 rfl))
          all_goals
            have hv6 := hown
            have z6 := hbw.size
            have z7 := hbw2.size
            have T6 := Lib.hid t6
            have V6 := Lib.hid ov6
            have B6 := Lib.hid tB6
            have O6 := Lib.hid hO6
            clear t6 ov6 tB6 hO6 hown hv6 hgr hbw ho5
            go_wp2_with fail
            go_roundw
            case rel =>
              refine ⟨j + 1, q + 1, al ++ [x], A6, d6, by omega, by go_num, Lib.hid (by rw [List.length_append, hl.out]; rfl), Lib.hid (fun y hy => by
                rcases List.mem_append.1 hy with h | h
                · exact hab.out y h
                · rw [List.mem_singleton.1 h]; exact HXR.out), Lib.hid (T6.out.store 2 _), Lib.hid (O6.out.shunC T6.out), Lib.hid (V6.out.shunC T6.out), Lib.hid (B6.out.far (by omega)), by omega, r6.set (by omega) 2 _, bt6.setHi (by omega) 2 _, by simp; omega⟩
            case measure => simp [intOf]; omega
        · have hjn := Lib.hid (show j = n3 by omega)
          have hC : CS wr w.heap.size w3.heap.size ⟨1, ys, al, 0, []⟩ (.slice A3 n3 d3) (.slice A2 j d2) (.slice none 0 0) := ⟨htx2.out, hvv2.out, (OwnI.stays 3).base _ _ _ _ _ (by omega) hal2.out, OwnRows.nil _ _⟩
          have hT := hT2.out
          have hd := hd2
          have hbt := hbt2
          clear hd2 hbt2 htx2 hal2 hvv2 hT2
          have z0 : wr.cell? ⟨w3.heap.size, 0, none⟩ = some (.int .i64 1) := hC.blk.at_ 0 rfl
          have z1 : wr.cell? ⟨w3.heap.size, 1, none⟩ = some (.slice A3 n3 d3) := hC.blk.at_ 1 rfl
          have z2 : wr.cell? ⟨w3.heap.size, 2, none⟩ = some (.slice A2 j d2) := hC.blk.at_ 2 rfl
          have z3 : wr.cell? ⟨w3.heap.size, 3, none⟩ = some (.int .i64 0) := hC.blk.at_ 3 rfl
          have z4 : wr.cell? ⟨w3.heap.size, 4, none⟩ = some (.slice none 0 0) := hC.blk.at_ 4 rfl
          go_wp2_with fail
          clear z0 z1 z2 z3 z4
          refine (pick base g n c (q) A bs 14 _ hd (by omega)).mono ?_
          rintro e w7 ⟨r, rfl, ⟨-, hr⟩, hdn, hbn⟩
          obtain ⟨lr, ur⟩ := hr (by omega)
          clear hr hd
          have hd := hdn
          clear hdn
          have hszw7 := hbn.size
          have hCn : CS w7 w.heap.size w3.heap.size ⟨1, ys, al, 0, []⟩ (.slice A3 n3 d3) (.slice A2 j d2) (.slice none 0 0) := hC.butG hbn hg (by omega)
          replace hT := hT.butG hbn (by omega)
          replace hbt := hbt.go hbn
          clear hC hbn
          have hC := hCn
          clear hCn
          obtain ⟨bd, hbd⟩ : ∃ bd, r - 4 = bd := ⟨_, rfl⟩
          have st3 : w7.cell? ⟨w3.heap.size, 3, none⟩ = some (.int .i64 0) := hC.blk.at_ 3 rfl
          have sf3 := hC.blk.frozen 3
          obtain ⟨w8, hw8⟩ : ∃ w8, w7.setCell ⟨w3.heap.size, 3, none⟩ (.int .i64 bd) = w8 := ⟨_, rfl⟩
          have hzsw8 : w8.heap.size = w7.heap.size := by rw [← hw8]; simp
          have hCn : CS w8 w.heap.size w3.heap.size ⟨1, ys, al, bd, []⟩ (.slice A3 n3 d3) (.slice A2 j d2) (.slice none 0 0) := by rw [← hw8]; exact hC.bound bd
          have hTn : TBlk 53 w8 w.heap.size #[.int .i64 0, .slice none 0 0, .slice none 0 0, .int .i64 0, .slice none 0 0] := by rw [← hw8]; exact hT.far (by omega)
          have hdn : Rd w8 base g A n c bs (q + 1) := by rw [← hw8]; exact hd.set (by omega) 3 _
          have hbn : ButG g w.heap.size w w8 := by rw [← hw8]; exact hbt.setHi (by omega) 3 _
          clear hC hT hd hbt
          have hC := hCn
          have hT := hTn
          have hd := hdn
          have hbt := hbn
          clear hCn hTn hdn hbn
          have z0 : w8.cell? ⟨w3.heap.size, 0, none⟩ = some (.int .i64 1) := hC.blk.at_ 0 rfl
          have z1 : w8.cell? ⟨w3.heap.size, 1, none⟩ = some (.slice A3 n3 d3) := hC.blk.at_ 1 rfl
          have z2 : w8.cell? ⟨w3.heap.size, 2, none⟩ = some (.slice A2 j d2) := hC.blk.at_ 2 rfl
          have z3 : w8.cell? ⟨w3.heap.size, 3, none⟩ = some (.int .i64 bd) := hC.blk.at_ 3 rfl
          have z4 : w8.cell? ⟨w3.heap.size, 4, none⟩ = some (.slice none 0 0) := hC.blk.at_ 4 rfl
          have y0 : w8.cell? ⟨w.heap.size, 0, none⟩ = some (.int .i64 0) := hT.at_ 0 rfl
          have g0 := hT.frozen 0
          have y1 : w8.cell? ⟨w.heap.size, 1, none⟩ = some (.slice none 0 0) := hT.at_ 1 rfl
          have g1 := hT.frozen 1
          have y2 : w8.cell? ⟨w.heap.size, 2, none⟩ = some (.slice none 0 0) := hT.at_ 2 rfl
          have g2 := hT.frozen 2
          have y3 : w8.cell? ⟨w.heap.size, 3, none⟩ = some (.int .i64 0) := hT.at_ 3 rfl
          have g3 := hT.frozen 3
          have y4 : w8.cell? ⟨w.heap.size, 4, none⟩ = some (.slice none 0 0) := hT.at_ 4 rfl
          have g4 := hT.frozen 4
          have hF := Lib.hid (CS.finish hC hT rfl (by omega) hd hg hbt rfl)
          clear hC hT hbt
          have HVC := Lib.hid (show vconF ⟨1, ys, al, bd, []⟩ (m : Int) = true from vcon_of HGV.out (by show 1 ≤ ys.length; rw [← HN3.out]; exact hyl.1) (by show ys.length ≤ m; rw [← HN3.out]; exact hyl.2.2) hm4 (fit_1 (by rw [hl.out, hjn.out, HN3.out]) (fun x hx => by have := hab.out x hx; omega) (by omega)))
          go_wp2_with fail
          have hvc := HVC.out
          generalize (((((w8.setCell ⟨w.heap.size, 0, none⟩ (.int .i64 1)).setCell ⟨w.heap.size, 1, none⟩ (.slice A3 n3 d3)).setCell ⟨w.heap.size, 2, none⟩ (.slice A2 j d2)).setCell ⟨w.heap.size, 3, none⟩ (.int .i64 bd)).setCell ⟨w.heap.size, 4, none⟩ (.slice none 0 0)) = wf at hF ⊢
          obtain ⟨⟨t0, t1, t2, t3, t4⟩, ho, hrd, hbf⟩ := hF.out
          have hyv : 1 ≤ ys.length := by rw [← HN3.out]; exact hyl.1
          have hqq : (q + 1 : Nat) ≤ p + 200 := by omega
          first | exact bodyPost_ret (v := .agg #[.int .i64 1, .slice A3 n3 d3, .slice A2 j d2, .int .i64 bd, .slice none 0 0]) (by simp [results, Try.results43, go_sem, t0, t1, t2, t3, t4]) rfl ⟨_, _, _, rfl, ho, hyv, ⟨by show ys.length ≤ 8; rw [← HN3.out]; omega, by show al.length ≤ 8; rw [hl.out]; omega, by show (0 : Nat) ≤ 8; omega, fun x hx => by simp at hx⟩, hvc, hqq, hrd, hbf⟩ | exact bodyPost_ret (v := .agg #[.int .i64 1, .slice A3 n3 d3, .slice A2 j d2, .int .i64 bd, .slice none 0 0]) (by simp [results, Try.results43, go_sem, t0, t1, t2, t3, t4]) rfl ⟨_, rfl, _, ho, hyv, ⟨by show ys.length ≤ 8; rw [← HN3.out]; omega, by show al.length ≤ 8; rw [hl.out]; omega, by show (0 : Nat) ≤ 8; omega, fun x hx => by simp at hx⟩, hvc, _, hqq, hrd, hbf⟩
  · subst hk
    cases t1 : decide ((m : Int) < 2)
    · have hm2 := of_decide_eq_false t1
      obtain ⟨wz, hwz⟩ : ∃ wz, w3.alloc (.cells #[.int .i64 0, .slice none 0 0, .slice none 0 0, .int .i64 0, .slice none 0 0] 53) = wz := ⟨_, rfl⟩
      have hbz : Below w3.heap.size w3 wz := by rw [← hwz]; exact b_alloc _ _
      have hzz : wz.heap.size = w3.heap.size + 1 := by rw [← hwz, size_alloc_]
      have hTz : TBlk 53 wz w3.heap.size #[.int .i64 0, .slice none 0 0, .slice none 0 0, .int .i64 0, .slice none 0 0] := by rw [← hwz]; exact TBlk.new _ _ _
      have hCz : CS wz w.heap.size w3.heap.size ⟨0, [], [], 0, []⟩ (.slice none 0 0) (.slice none 0 0) (.slice none 0 0) := ⟨hTz, (OwnI.stays 3).below _ _ _ _ _ hbz (OwnI.nil _ _), OwnI.nil _ _, OwnRows.nil _ _⟩
      have x0 : wz.cell? ⟨w3.heap.size, 0, none⟩ = some (.int .i64 0) := hTz.at_ 0 rfl
      have e0 := hTz.frozen 0
      have x1 : wz.cell? ⟨w3.heap.size, 1, none⟩ = some (.slice none 0 0) := hTz.at_ 1 rfl
      have e1 := hTz.frozen 1
      have x2 : wz.cell? ⟨w3.heap.size, 2, none⟩ = some (.slice none 0 0) := hTz.at_ 2 rfl
      have e2 := hTz.frozen 2
      have x3 : wz.cell? ⟨w3.heap.size, 3, none⟩ = some (.int .i64 0) := hTz.at_ 3 rfl
      have e3 := hTz.frozen 3
      have x4 : wz.cell? ⟨w3.heap.size, 4, none⟩ = some (.slice none 0 0) := hTz.at_ 4 rfl
      have e4 := hTz.frozen 4
      obtain ⟨w4, hw4⟩ : ∃ w4, (((((wz.setCell ⟨w3.heap.size, 0, none⟩ (.int .i64 2)).setCell ⟨w3.heap.size, 1, none⟩ (.slice A3 n3 d3)).setCell ⟨w3.heap.size, 2, none⟩ (.slice none 0 0)).setCell ⟨w3.heap.size, 3, none⟩ (.int .i64 0)).setCell ⟨w3.heap.size, 4, none⟩ (.slice none 0 0)) = w4 := ⟨_, rfl⟩
      have hov := (OwnI.stays 3).below _ _ _ _ _ hbz HOV.out
      have s1 := hCz.kind 2
      have s2 := s1.setV (OwnI.shuns (t := 53) (by decide) _ _ _ _ _ 0 _ _ _ hTz hov)
      have s3 := s2.setA (OwnI.nil _ _)
      have s4 := s3.bound 0
      have s5 := s4.setR (OwnRows.nil _ _)
      have hC : CS w4 w.heap.size w3.heap.size ⟨2, ys, [], 0, []⟩ (.slice A3 n3 d3) (.slice none 0 0) (.slice none 0 0) := by rw [← hw4]; exact s5
      have hbw : Below w3.heap.size w3 w4 := by rw [← hw4]; exact (((((hbz.setCell (Nat.le_refl _) _).setCell (Nat.le_refl _) _).setCell (Nat.le_refl _) _).setCell (Nat.le_refl _) _).setCell (Nat.le_refl _) _)
      have hz4 : w4.heap.size = w3.heap.size + 1 := by rw [← hw4]; simp [hzz]
      have hT : TBlk 53 w4 w.heap.size #[.int .i64 0, .slice none 0 0, .slice none 0 0, .int .i64 0, .slice none 0 0] := HT3.out.below_ hbw (by omega)
      have hd : Rd w4 base g A n c bs (p + 1 + 1 + m) := HD3.out.under hbw (by omega)
      have hbt : ButG g w.heap.size w w4 := HB3.out.go (below_butG hbw g)
      clear hbz hTz hCz s1 s2 s3 s4 s5 hov hbw
      have z0 : w4.cell? ⟨w3.heap.size, 0, none⟩ = some (.int .i64 2) := hC.blk.at_ 0 rfl
      have z1 : w4.cell? ⟨w3.heap.size, 1, none⟩ = some (.slice A3 n3 d3) := hC.blk.at_ 1 rfl
      have z2 : w4.cell? ⟨w3.heap.size, 2, none⟩ = some (.slice none 0 0) := hC.blk.at_ 2 rfl
      have z3 : w4.cell? ⟨w3.heap.size, 3, none⟩ = some (.int .i64 0) := hC.blk.at_ 3 rfl
      have z4 : w4.cell? ⟨w3.heap.size, 4, none⟩ = some (.slice none 0 0) := hC.blk.at_ 4 rfl
      go_wp2_with fail
      clear hwz hw4 x0 x1 x2 x3 x4 e0 e1 e2 e3 e4 z0 z1 z2 z3 z4
      refine (someVarsV base g n c (p + 1 + 1 + m) A bs m 2 _ hd (by omega) hm4 (by omega)).mono ?_
      rintro e w5 ⟨v, yv, rfl, hl2, hyn2, hyr2, hov, hdn, hbn⟩
      clear hd
      have hd := hdn
      clear hdn
      replace hov := (OwnI.stays 3).base _ _ w.heap.size _ _ (by omega) hov
      have hszw5 := hbn.size
      have hCn : CS w5 w.heap.size w3.heap.size ⟨2, ys, [], 0, []⟩ (.slice A3 n3 d3) (.slice none 0 0) (.slice none 0 0) := hC.butG hbn hg (by omega)
      replace hT := hT.butG hbn (by omega)
      replace hbt := hbt.go hbn
      clear hC hbn
      have hC := hCn
      clear hCn
      have HG2 := Lib.hid (show GoodV m yv from ⟨hyn2, hyr2⟩)
      clear hyn2 hyr2
      obtain ⟨A2, d2, rfl, -⟩ := hov.read
      obtain ⟨n2, hn2⟩ : ∃ n2, n2 = yv.length := ⟨_, rfl⟩
      have HN2 := Lib.hid hn2
      rw [← hn2] at hl2 hov
      rw [← hn2]
      clear hn2
      have hl22 : 1 ≤ n2 ∧ n2 ≤ 2 := by omega
      have HE2 := Lib.hid (show n2 = 2 by omega)
      clear hl2
      have st1 : w5.cell? ⟨w3.heap.size, 1, none⟩ = some (.slice A3 n3 d3) := hC.blk.at_ 1 rfl
      have sf1 := hC.blk.frozen 1
      obtain ⟨w6, hw6⟩ : ∃ w6, w5.setCell ⟨w3.heap.size, 1, none⟩ (.slice A2 n2 d2) = w6 := ⟨_, rfl⟩
      have hzsw6 : w6.heap.size = w5.heap.size := by rw [← hw6]; simp
      have hCn : CS w6 w.heap.size w3.heap.size ⟨2, yv, [], 0, []⟩ (.slice A2 n2 d2) (.slice none 0 0) (.slice none 0 0) := by rw [← hw6]; exact hC.setV hov
      have hTn : TBlk 53 w6 w.heap.size #[.int .i64 0, .slice none 0 0, .slice none 0 0, .int .i64 0, .slice none 0 0] := by rw [← hw6]; exact hT.far (by omega)
      have hdn : Rd w6 base g A n c bs (p + 1 + 1 + m + m) := by rw [← hw6]; exact hd.set (by omega) 1 _
      have hbn : ButG g w.heap.size w w6 := by rw [← hw6]; exact hbt.setHi (by omega) 1 _
      clear hC hT hd hbt
      have hC := hCn
      have hT := hTn
      have hd := hdn
      have hbt := hbn
      clear hCn hTn hdn hbn
      go_wp2_with fail
      clear st1 sf1 hw6 hov
      refine (pick base g n c (p + 1 + 1 + m + m) A bs 5 _ hd (by omega)).mono ?_
      rintro e w7 ⟨r, rfl, ⟨-, hr⟩, hdn, hbn⟩
      obtain ⟨lr, ur⟩ := hr (by omega)
      clear hr hd
      have hd := hdn
      clear hdn
      have hszw7 := hbn.size
      have hCn : CS w7 w.heap.size w3.heap.size ⟨2, yv, [], 0, []⟩ (.slice A2 n2 d2) (.slice none 0 0) (.slice none 0 0) := hC.butG hbn hg (by omega)
      replace hT := hT.butG hbn (by omega)
      replace hbt := hbt.go hbn
      clear hC hbn
      have hC := hCn
      clear hCn
      obtain ⟨bd, hbd⟩ : ∃ bd, r - 2 = bd := ⟨_, rfl⟩
      obtain ⟨w8, hw8⟩ : ∃ w8, w7.alloc (.cells #[.int .i64 bd] 3) = w8 := ⟨_, rfl⟩
      have hbn : Below w7.heap.size w7 w8 := by rw [← hw8]; exact b_alloc _ _
      have hzsw8 : w8.heap.size = w7.heap.size + 1 := by rw [← hw8, size_alloc_]
      have hov : OwnI 3 w8 w.heap.size (.slice (some ⟨w7.heap.size, 0, none⟩) 1 1) [bd] := by rw [← hw8]; exact ⟨own_base (World.ownsRow_lit w7 #[.int .i64 bd] 1 (Nat.le_refl _) (by decide) rfl) (by omega), by simp⟩
      have hCn : CS w8 w.heap.size w3.heap.size ⟨2, yv, [], 0, []⟩ (.slice A2 n2 d2) (.slice none 0 0) (.slice none 0 0) := hC.below hbn
      replace hT := hT.below_ hbn (by omega)
      replace hbt := hbt.go (below_butG hbn g)
      replace hd := hd.under hbn (by omega)
      clear hC hbn
      have hC := hCn
      clear hCn
      have st2 : w8.cell? ⟨w3.heap.size, 2, none⟩ = some (.slice none 0 0) := hC.blk.at_ 2 rfl
      have sf2 := hC.blk.frozen 2
      obtain ⟨w9, hw9⟩ : ∃ w9, w8.setCell ⟨w3.heap.size, 2, none⟩ (.slice (some ⟨w7.heap.size, 0, none⟩) 1 1) = w9 := ⟨_, rfl⟩
      have hzsw9 : w9.heap.size = w8.heap.size := by rw [← hw9]; simp
      have hCn : CS w9 w.heap.size w3.heap.size ⟨2, yv, [bd], 0, []⟩ (.slice A2 n2 d2) (.slice (some ⟨w7.heap.size, 0, none⟩) 1 1) (.slice none 0 0) := by rw [← hw9]; exact hC.setA hov
      have hTn : TBlk 53 w9 w.heap.size #[.int .i64 0, .slice none 0 0, .slice none 0 0, .int .i64 0, .slice none 0 0] := by rw [← hw9]; exact hT.far (by omega)
      have hdn : Rd w9 base g A n c bs (p + 1 + 1 + m + m + 1) := by rw [← hw9]; exact hd.set (by omega) 2 _
      have hbn : ButG g w.heap.size w w9 := by rw [← hw9]; exact hbt.setHi (by omega) 2 _
      clear hC hT hd hbt
      have hC := hCn
      have hT := hTn
      have hd := hdn
      have hbt := hbn
      clear hCn hTn hdn hbn
      have z0 : w9.cell? ⟨w3.heap.size, 0, none⟩ = some (.int .i64 2) := hC.blk.at_ 0 rfl
      have z1 : w9.cell? ⟨w3.heap.size, 1, none⟩ = some (.slice A2 n2 d2) := hC.blk.at_ 1 rfl
      have z2 : w9.cell? ⟨w3.heap.size, 2, none⟩ = some (.slice (some ⟨w7.heap.size, 0, none⟩) 1 1) := hC.blk.at_ 2 rfl
      have z3 : w9.cell? ⟨w3.heap.size, 3, none⟩ = some (.int .i64 0) := hC.blk.at_ 3 rfl
      have z4 : w9.cell? ⟨w3.heap.size, 4, none⟩ = some (.slice none 0 0) := hC.blk.at_ 4 rfl
      have y0 : w9.cell? ⟨w.heap.size, 0, none⟩ = some (.int .i64 0) := hT.at_ 0 rfl
      have g0 := hT.frozen 0
      have y1 : w9.cell? ⟨w.heap.size, 1, none⟩ = some (.slice none 0 0) := hT.at_ 1 rfl
      have g1 := hT.frozen 1
      have y2 : w9.cell? ⟨w.heap.size, 2, none⟩ = some (.slice none 0 0) := hT.at_ 2 rfl
      have g2 := hT.frozen 2
      have y3 : w9.cell? ⟨w.heap.size, 3, none⟩ = some (.int .i64 0) := hT.at_ 3 rfl
      have g3 := hT.frozen 3
      have y4 : w9.cell? ⟨w.heap.size, 4, none⟩ = some (.slice none 0 0) := hT.at_ 4 rfl
      have g4 := hT.frozen 4
      have hF := Lib.hid (CS.finish hC hT rfl (by omega) hd hg hbt rfl)
      clear hC hT hbt
      have HVC := Lib.hid (show vconF ⟨2, yv, [bd], 0, []⟩ (m : Int) = true from vcon_of HG2.out (by show 1 ≤ yv.length; rw [← HN2.out]; omega) (by show yv.length ≤ m; rw [← HN2.out]; have := HE2.out; omega) hm4 (fit_2 (by rw [← HN2.out]; exact HE2.out) (by omega)))
      go_wp2_with fail
      have hvc := HVC.out
      generalize (((((w9.setCell ⟨w.heap.size, 0, none⟩ (.int .i64 2)).setCell ⟨w.heap.size, 1, none⟩ (.slice A2 n2 d2)).setCell ⟨w.heap.size, 2, none⟩ (.slice (some ⟨w7.heap.size, 0, none⟩) 1 1)).setCell ⟨w.heap.size, 3, none⟩ (.int .i64 0)).setCell ⟨w.heap.size, 4, none⟩ (.slice none 0 0)) = wf at hF ⊢
      obtain ⟨⟨t0, t1, t2, t3, t4⟩, ho, hrd, hbf⟩ := hF.out
      have hyv : 1 ≤ yv.length := by rw [← HN2.out]; omega
      have hqq : (p + 1 + 1 + m + m + 1 : Nat) ≤ p + 200 := by omega
      first | exact bodyPost_ret (v := .agg #[.int .i64 2, .slice A2 n2 d2, .slice (some ⟨w7.heap.size, 0, none⟩) 1 1, .int .i64 0, .slice none 0 0]) (by simp [results, Try.results43, go_sem, t0, t1, t2, t3, t4]) rfl ⟨_, _, _, rfl, ho, hyv, ⟨by show yv.length ≤ 8; rw [← HN2.out]; omega, by show (1 : Nat) ≤ 8; omega, by show (0 : Nat) ≤ 8; omega, fun x hx => by simp at hx⟩, hvc, hqq, hrd, hbf⟩ | exact bodyPost_ret (v := .agg #[.int .i64 2, .slice A2 n2 d2, .slice (some ⟨w7.heap.size, 0, none⟩) 1 1, .int .i64 0, .slice none 0 0]) (by simp [results, Try.results43, go_sem, t0, t1, t2, t3, t4]) rfl ⟨_, rfl, _, ho, hyv, ⟨by show yv.length ≤ 8; rw [← HN2.out]; omega, by show (1 : Nat) ≤ 8; omega, by show (0 : Nat) ≤ 8; omega, fun x hx => by simp at hx⟩, hvc, _, hqq, hrd, hbf⟩
    · have hm2 := of_decide_eq_true t1
      obtain ⟨wz, hwz⟩ : ∃ wz, w3.alloc (.cells #[.int .i64 0, .slice none 0 0, .slice none 0 0, .int .i64 0, .slice none 0 0] 53) = wz := ⟨_, rfl⟩
      have hbz : Below w3.heap.size w3 wz := by rw [← hwz]; exact b_alloc _ _
      have hzz : wz.heap.size = w3.heap.size + 1 := by rw [← hwz, size_alloc_]
      have hTz : TBlk 53 wz w3.heap.size #[.int .i64 0, .slice none 0 0, .slice none 0 0, .int .i64 0, .slice none 0 0] := by rw [← hwz]; exact TBlk.new _ _ _
      have hCz : CS wz w.heap.size w3.heap.size ⟨0, [], [], 0, []⟩ (.slice none 0 0) (.slice none 0 0) (.slice none 0 0) := ⟨hTz, (OwnI.stays 3).below _ _ _ _ _ hbz (OwnI.nil _ _), OwnI.nil _ _, OwnRows.nil _ _⟩
      have x0 : wz.cell? ⟨w3.heap.size, 0, none⟩ = some (.int .i64 0) := hTz.at_ 0 rfl
      have e0 := hTz.frozen 0
      have x1 : wz.cell? ⟨w3.heap.size, 1, none⟩ = some (.slice none 0 0) := hTz.at_ 1 rfl
      have e1 := hTz.frozen 1
      have x2 : wz.cell? ⟨w3.heap.size, 2, none⟩ = some (.slice none 0 0) := hTz.at_ 2 rfl
      have e2 := hTz.frozen 2
      have x3 : wz.cell? ⟨w3.heap.size, 3, none⟩ = some (.int .i64 0) := hTz.at_ 3 rfl
      have e3 := hTz.frozen 3
      have x4 : wz.cell? ⟨w3.heap.size, 4, none⟩ = some (.slice none 0 0) := hTz.at_ 4 rfl
      have e4 := hTz.frozen 4
      obtain ⟨w4, hw4⟩ : ∃ w4, ((((((wz.setCell ⟨w3.heap.size, 0, none⟩ (.int .i64 2)).setCell ⟨w3.heap.size, 1, none⟩ (.slice A3 n3 d3)).setCell ⟨w3.heap.size, 2, none⟩ (.slice none 0 0)).setCell ⟨w3.heap.size, 3, none⟩ (.int .i64 0)).setCell ⟨w3.heap.size, 4, none⟩ (.slice none 0 0)).setCell ⟨w3.heap.size, 0, none⟩ (.int .i64 5)) = w4 := ⟨_, rfl⟩
      have hov := (OwnI.stays 3).below _ _ _ _ _ hbz HOV.out
      have s1 := hCz.kind 2
      have s2 := s1.setV (OwnI.shuns (t := 53) (by decide) _ _ _ _ _ 0 _ _ _ hTz hov)
      have s3 := s2.setA (OwnI.nil _ _)
      have s4 := s3.bound 0
      have s5 := s4.setR (OwnRows.nil _ _)
      have hC : CS w4 w.heap.size w3.heap.size ⟨5, ys, [], 0, []⟩ (.slice A3 n3 d3) (.slice none 0 0) (.slice none 0 0) := by rw [← hw4]; exact s5.kind 5
      have hbw : Below w3.heap.size w3 w4 := by rw [← hw4]; exact ((((((hbz.setCell (Nat.le_refl _) _).setCell (Nat.le_refl _) _).setCell (Nat.le_refl _) _).setCell (Nat.le_refl _) _).setCell (Nat.le_refl _) _).setCell (Nat.le_refl _) _)
      have hz4 : w4.heap.size = w3.heap.size + 1 := by rw [← hw4]; simp [hzz]
      have hT : TBlk 53 w4 w.heap.size #[.int .i64 0, .slice none 0 0, .slice none 0 0, .int .i64 0, .slice none 0 0] := HT3.out.below_ hbw (by omega)
      have hd : Rd w4 base g A n c bs (p + 1 + 1 + m) := HD3.out.under hbw (by omega)
      have hbt : ButG g w.heap.size w w4 := HB3.out.go (below_butG hbw g)
      clear hbz hTz hCz s1 s2 s3 s4 s5 hov hbw
      have z0 : w4.cell? ⟨w3.heap.size, 0, none⟩ = some (.int .i64 5) := hC.blk.at_ 0 rfl
      have z1 : w4.cell? ⟨w3.heap.size, 1, none⟩ = some (.slice A3 n3 d3) := hC.blk.at_ 1 rfl
      have z2 : w4.cell? ⟨w3.heap.size, 2, none⟩ = some (.slice none 0 0) := hC.blk.at_ 2 rfl
      have z3 : w4.cell? ⟨w3.heap.size, 3, none⟩ = some (.int .i64 0) := hC.blk.at_ 3 rfl
      have z4 : w4.cell? ⟨w3.heap.size, 4, none⟩ = some (.slice none 0 0) := hC.blk.at_ 4 rfl
      go_wp2_with fail
      clear hwz hw4 x0 x1 x2 x3 x4 e0 e1 e2 e3 e4 z0 z1 z2 z3 z4
      refine (pick base g n c (p + 1 + 1 + m) A bs 6 _ hd (by omega)).mono ?_
      rintro e w5 ⟨r, rfl, ⟨-, hr⟩, hdn, hbn⟩
      obtain ⟨lr, ur⟩ := hr (by omega)
      clear hr hd
      have hd := hdn
      clear hdn
      have hszw5 := hbn.size
      have hCn : CS w5 w.heap.size w3.heap.size ⟨5, ys, [], 0, []⟩ (.slice A3 n3 d3) (.slice none 0 0) (.slice none 0 0) := hC.butG hbn hg (by omega)
      replace hT := hT.butG hbn (by omega)
      replace hbt := hbt.go hbn
      clear hC hbn
      have hC := hCn
      clear hCn
      obtain ⟨k1, hk1⟩ : ∃ k1 : Nat, 1 + r = (k1 : Int) := ⟨(1 + r).toNat, by omega⟩
      have hk16 : 1 ≤ k1 ∧ k1 ≤ 6 := by omega
      go_wp2_with fail
      have htx := Lib.hid hC.blk
      have hvv := Lib.hid hC.vars
      have HT := Lib.hid hT
      have HVB := Lib.hid (show ∀ b, (Value.slice A3 n3 d3).ownBlock = some b → b < w5.heap.size from fun b hb => (hC.vars.1.lt b hb).2)
      have hz4a : w3.heap.size < w5.heap.size := by omega
      clear hC hT hz4
      go_loopw [8] (fun i wr => ∃ (j e q : Nat) (rs : List (List Int)) (A2 : Option Addr) (d2 : Nat), j + e = k1 ∧ i = .int .i64 e ∧ Hid (rs.length = j) ∧ Hid (RowsLe 4 rs) ∧ Hid (∀ r ∈ rs, r.length = ys.length ∧ ∀ x ∈ r, 0 ≤ x ∧ x ≤ 5) ∧ Hid (TBlk 53 wr w3.heap.size #[.int .i64 5, .slice A3 n3 d3, .slice none 0 0, .int .i64 0, .slice A2 j d2]) ∧ Hid (OwnOf 23 (OwnI 3) wr w5.heap.size (.slice A2 j d2) rs) ∧ Hid (OwnI 3 wr w.heap.size (.slice A3 n3 d3) ys) ∧ Hid (TBlk 53 wr w.heap.size #[.int .i64 0, .slice none 0 0, .slice none 0 0, .int .i64 0, .slice none 0 0]) ∧ q ≤ p + 7 + 4 * j ∧ Rd wr base g A n c bs q ∧ ButG g w.heap.size w wr ∧ w5.heap.size ≤ wr.heap.size) (fun i _ => (intOf i).toNat)
      case atStart => exact ⟨0, k1, _, [], none, 0, by omega, rfl, Lib.hid rfl, Lib.hid (fun x hx => by simp at hx), Lib.hid (fun x hx => by simp at hx), htx, Lib.hid (OwnRows.nil _ _), hvv, HT, by omega, hd, hbt, Nat.le_refl _⟩
      case round =>
        obtain ⟨j, ee, q, rs, A2, d2, hj, rfl, hl, hle, hrr, htx2, hal2, hvv2, hT2, hq, hd2, hbt2, hxw⟩ := hrel
        clear htx hvv HT hd hbt
        rename World => wr
        have hzb := hbt2.size
        have hxw2 : w3.heap.size < wr.heap.size := by omega
        by_cases hlt : 0 < ee
        · obtain ⟨e1, rfl⟩ : ∃ e1, ee = e1 + 1 := ⟨ee - 1, by omega⟩
          have t5 : decide ((0 : Int) < ((e1 + 1 : Nat) : Int)) = true := decide_eq_true (by omega)
          have a4 : wr.cell? ⟨w3.heap.size, 4, none⟩ = some (.slice A2 j d2) := htx2.out.at_ 4 rfl
          have hbx : Below wr.heap.size wr wr.drew := below_drewN (Below.refl _ _) 1
          have ha4 : wr.drew.cell? ⟨w3.heap.size, 4, none⟩ = some (.slice A2 j d2) := (hbx.cell (p := ⟨w3.heap.size, 4, none⟩) hxw2).trans a4
          have hdx := hd2.under hbx (by omega)
          have hN6 : wr.drew.heap.size = wr.heap.size := rfl
          obtain ⟨us, u1, u2, u3, u4⟩ := hal2.out
          rw [hl.out] at u2 u3
          have U1 := Lib.hid u1
          have U2 := Lib.hid u2
          have U4 := Lib.hid u4
          clear u1 u2 u4
          go_wp2_with fail
          go_region_law (first
            | (refine step_append_any (by rfl) _ _ 27 (by rfl) w5.heap.size 23 i1 _ 1 24 Try.underlying27 hi1 hy0 hy1 hy2 rfl (by omega) (.slice A2 j d2) j us (by rfl) ho5 (some ⟨wc.heap.size, 0, none⟩) 1 [.slice A6 n3 d6] (by exact ⟨_, rfl, .inr ⟨_, rfl, rfl, cell_one_new _ _ _⟩⟩) (by simp [Value.oneCell']) (by unfold maxLen; omega) (by omega) (by rw [size_alloc_]; omega) ?_
               intro v1 we hown hbw hgr _
               have hbw2 : Below wc.heap.size wc (wc.alloc (.cells #[.slice A6 n3 d6] 23)) := b_alloc _ _
               have hrows := OwnRows.snoc (show (3 : TypeId) ≠ 23 by decide) U1.out (by rw [hl.out]; exact ho5) (fun i u x hu hx => (OwnI.stays 3).below _ _ _ _ _ hbw2 (((OwnI.stays 3).below _ _ _ _ _ hbx (U4.out i u x hu hx)).butG hb5 (by omega))) ((OwnI.stays 3).below _ _ _ _ _ hbw2 HROW.out) (by rw [hl.out]; omega) (by rw [hl.out]; exact hown) hgr
               obtain ⟨A7, d7, rfl, -⟩ := read2 hrows
               have hr7 : (rs ++ [y6]).length = j + 1 := by rw [List.length_append, hl.out]; rfl
               rw [hr7] at hrows ⊢
               have t6 := ((((htx2.out.below_ hbx hxw2).butG hb5 (by omega)).below_ hbw2 (by omega)).below_ hbw (by omega))
               have a6 : we.cell? ⟨w3.heap.size, 4, none⟩ = some (.slice A2 j d2) := t6.at_ 4 rfl
               have f6 := t6.frozen 4
               have ov6 := OwnI.under ((OwnI.stays 3).below _ _ _ _ _ hbw2 (((OwnI.stays 3).below _ _ _ _ _ hbx hvv2.out).butG hb5 hg)) hbw HVB.out
               have tB6 := ((((hT2.out.below_ hbx (by omega)).butG hb5 (by omega)).below_ hbw2 (by omega)).below_ hbw (by omega))
               have r6 := (hd5.under hbw2 (by omega)).under hbw (by omega)
               have bt6 := (((hbt2.go (below_butG hbx g)).go hb5).go (below_butG hbw2 g)).trans (below_butG (hbw.mono (by omega)) g))
            | (go_simp
               go_at_call 62
               refine (randomRow base g n c q A bs n3 _ hdx (by omega) (by omega)).mono ?_
               rintro e wc ⟨v, y6, rfl, -, hl6, hm6, hov, hd5, hb5⟩
               have HM6 := Lib.hid (show y6.length = ys.length ∧ ∀ x ∈ y6, 0 ≤ x ∧ x ≤ 5 from ⟨by rw [hl6, HN3.out], fun x hx => by have := hm6 x hx; omega⟩)
               clear hm6
               have hz5 := hb5.size
               rw [hN6] at hz5
               have hrow : OwnI 3 wc w5.heap.size v y6 := ⟨by rw [hl6]; exact own_base hov (by omega), by omega⟩
               obtain ⟨A6, d6, rfl, -⟩ := hrow.read
               rw [hl6]
               rw [hl6] at hrow
               have HROW := Lib.hid hrow
               clear hrow hov
               have ho5 : (wc.alloc (.cells #[.slice A6 n3 d6] 23)).ownsRow w5.heap.size 23 1 (.slice A2 j d2) j us := own_below (own_butG (own_below U2.out hbx) hb5 (by omega)) (b_alloc wc (.cells #[.slice A6 n3 d6] 23))
               have a5 : wc.cell? ⟨w3.heap.size, 4, none⟩ = some (.slice A2 j d2) := ((htx2.out.below_ hbx hxw2).butG hb5 (by omega)).at_ 4 rfl
               have a5' : (wc.alloc (.cells #[.slice A6 n3 d6] 23)).cell? ⟨w3.heap.size, 4, none⟩ = some (.slice A2 j d2) := (((htx2.out.below_ hbx hxw2).butG hb5 (by omega)).below_ (b_alloc wc (.cells #[.slice A6 n3 d6] 23)) (by omega)).at_ 4 rfl))
          all_goals
            have z6 := hbw.size
            have z7 := hbw2.size
            have T6 := Lib.hid t6
            have V6 := Lib.hid ov6
            have B6 := Lib.hid tB6
            have O6 := Lib.hid hrows
            clear t6 ov6 tB6 hrows hown hgr hbw ho5
            go_wp2_with fail
            go_roundw
            case rel =>
              refine ⟨j + 1, e1, q + n3, rs ++ [y6], A7, d7, by omega, by go_num, Lib.hid hr7, Lib.hid (fun x hx => ?_), Lib.hid (fun z hz => by
                rcases List.mem_append.1 hz with h | h
                · exact hrr.out z h
                · rw [List.mem_singleton.1 h]; exact HM6.out), Lib.hid (T6.out.store 4 _), Lib.hid (OwnOf.shuns (t := 53) (by decide) (OwnI.shuns (by decide)) _ _ _ _ _ 4 _ _ _ T6.out O6.out), Lib.hid (V6.out.shunC T6.out), Lib.hid (B6.out.far (by omega)), by omega, r6.set (by omega) 4 _, bt6.setHi (by omega) 4 _, by simp; omega⟩
              rcases List.mem_append.1 hx with h | h
              · exact hle.out x h
              · rw [List.mem_singleton.1 h]; omega
            case measure => simp [intOf]
        · obtain rfl : ee = 0 := by omega
          obtain rfl : j = k1 := by omega
          have t5 : decide ((0 : Int) < ((0 : Nat) : Int)) = false := by decide
          have hC : CS wr w.heap.size w3.heap.size ⟨5, ys, [], 0, rs⟩ (.slice A3 n3 d3) (.slice none 0 0) (.slice A2 j d2) := ⟨htx2.out, hvv2.out, OwnI.nil _ _, (OwnOf.stays (OwnI.stays 3)).base _ _ _ _ _ (by omega) hal2.out⟩
          have hT := hT2.out
          have hd := hd2
          have hbt := hbt2
          clear hd2 hbt2 htx2 hal2 hvv2 hT2
          have z0 : wr.cell? ⟨w3.heap.size, 0, none⟩ = some (.int .i64 5) := hC.blk.at_ 0 rfl
          have z1 : wr.cell? ⟨w3.heap.size, 1, none⟩ = some (.slice A3 n3 d3) := hC.blk.at_ 1 rfl
          have z2 : wr.cell? ⟨w3.heap.size, 2, none⟩ = some (.slice none 0 0) := hC.blk.at_ 2 rfl
          have z3 : wr.cell? ⟨w3.heap.size, 3, none⟩ = some (.int .i64 0) := hC.blk.at_ 3 rfl
          have z4 : wr.cell? ⟨w3.heap.size, 4, none⟩ = some (.slice A2 j d2) := hC.blk.at_ 4 rfl
          have y0 : wr.cell? ⟨w.heap.size, 0, none⟩ = some (.int .i64 0) := hT.at_ 0 rfl
          have g0 := hT.frozen 0
          have y1 : wr.cell? ⟨w.heap.size, 1, none⟩ = some (.slice none 0 0) := hT.at_ 1 rfl
          have g1 := hT.frozen 1
          have y2 : wr.cell? ⟨w.heap.size, 2, none⟩ = some (.slice none 0 0) := hT.at_ 2 rfl
          have g2 := hT.frozen 2
          have y3 : wr.cell? ⟨w.heap.size, 3, none⟩ = some (.int .i64 0) := hT.at_ 3 rfl
          have g3 := hT.frozen 3
          have y4 : wr.cell? ⟨w.heap.size, 4, none⟩ = some (.slice none 0 0) := hT.at_ 4 rfl
          have g4 := hT.frozen 4
          have hF := Lib.hid (CS.finish hC hT rfl (by omega) hd hg hbt rfl)
          clear hC hT hbt
          have HVC := Lib.hid (show vconF ⟨5, ys, [], 0, rs⟩ (m : Int) = true from vcon_of HGV.out (by show 1 ≤ ys.length; rw [← HN3.out]; exact hyl.1) (by show ys.length ≤ m; rw [← HN3.out]; exact hyl.2.2) hm4 (fit_5 (by rw [hl.out]; omega) hrr.out))
          go_wp2_with fail
          have hvc := HVC.out
          generalize (((((wr.setCell ⟨w.heap.size, 0, none⟩ (.int .i64 5)).setCell ⟨w.heap.size, 1, none⟩ (.slice A3 n3 d3)).setCell ⟨w.heap.size, 2, none⟩ (.slice none 0 0)).setCell ⟨w.heap.size, 3, none⟩ (.int .i64 0)).setCell ⟨w.heap.size, 4, none⟩ (.slice A2 j d2)) = wf at hF ⊢
          obtain ⟨⟨t0, t1, t2, t3, t4⟩, ho, hrd, hbf⟩ := hF.out
          have hyv : 1 ≤ ys.length := by rw [← HN3.out]; exact hyl.1
          have hqq : (q : Nat) ≤ p + 200 := by omega
          first | exact bodyPost_ret (v := .agg #[.int .i64 5, .slice A3 n3 d3, .slice none 0 0, .int .i64 0, .slice A2 j d2]) (by simp [results, Try.results43, go_sem, t0, t1, t2, t3, t4]) rfl ⟨_, _, _, rfl, ho, hyv, ⟨by show ys.length ≤ 8; rw [← HN3.out]; omega, by show (0 : Nat) ≤ 8; omega, by show rs.length ≤ 8; rw [hl.out]; omega, fun x hx => Nat.le_trans (hle.out x hx) (by omega)⟩, hvc, hqq, hrd, hbf⟩ | exact bodyPost_ret (v := .agg #[.int .i64 5, .slice A3 n3 d3, .slice none 0 0, .int .i64 0, .slice A2 j d2]) (by simp [results, Try.results43, go_sem, t0, t1, t2, t3, t4]) rfl ⟨_, rfl, _, ho, hyv, ⟨by show ys.length ≤ 8; rw [← HN3.out]; omega, by show (0 : Nat) ≤ 8; omega, by show rs.length ≤ 8; rw [hl.out]; omega, fun x hx => Nat.le_trans (hle.out x hx) (by omega)⟩, hvc, _, hqq, hrd, hbf⟩
  · subst hk
    cases t1 : decide ((m : Int) < 2)
    · skip
      obtain ⟨wz, hwz⟩ : ∃ wz, w3.alloc (.cells #[.int .i64 0, .slice none 0 0, .slice none 0 0, .int .i64 0, .slice none 0 0] 53) = wz := ⟨_, rfl⟩
      have hbz : Below w3.heap.size w3 wz := by rw [← hwz]; exact b_alloc _ _
      have hzz : wz.heap.size = w3.heap.size + 1 := by rw [← hwz, size_alloc_]
      have hTz : TBlk 53 wz w3.heap.size #[.int .i64 0, .slice none 0 0, .slice none 0 0, .int .i64 0, .slice none 0 0] := by rw [← hwz]; exact TBlk.new _ _ _
      have hCz : CS wz w.heap.size w3.heap.size ⟨0, [], [], 0, []⟩ (.slice none 0 0) (.slice none 0 0) (.slice none 0 0) := ⟨hTz, (OwnI.stays 3).below _ _ _ _ _ hbz (OwnI.nil _ _), OwnI.nil _ _, OwnRows.nil _ _⟩
      have x0 : wz.cell? ⟨w3.heap.size, 0, none⟩ = some (.int .i64 0) := hTz.at_ 0 rfl
      have e0 := hTz.frozen 0
      have x1 : wz.cell? ⟨w3.heap.size, 1, none⟩ = some (.slice none 0 0) := hTz.at_ 1 rfl
      have e1 := hTz.frozen 1
      have x2 : wz.cell? ⟨w3.heap.size, 2, none⟩ = some (.slice none 0 0) := hTz.at_ 2 rfl
      have e2 := hTz.frozen 2
      have x3 : wz.cell? ⟨w3.heap.size, 3, none⟩ = some (.int .i64 0) := hTz.at_ 3 rfl
      have e3 := hTz.frozen 3
      have x4 : wz.cell? ⟨w3.heap.size, 4, none⟩ = some (.slice none 0 0) := hTz.at_ 4 rfl
      have e4 := hTz.frozen 4
      obtain ⟨w4, hw4⟩ : ∃ w4, (((((wz.setCell ⟨w3.heap.size, 0, none⟩ (.int .i64 3)).setCell ⟨w3.heap.size, 1, none⟩ (.slice A3 n3 d3)).setCell ⟨w3.heap.size, 2, none⟩ (.slice none 0 0)).setCell ⟨w3.heap.size, 3, none⟩ (.int .i64 0)).setCell ⟨w3.heap.size, 4, none⟩ (.slice none 0 0)) = w4 := ⟨_, rfl⟩
      have hov := (OwnI.stays 3).below _ _ _ _ _ hbz HOV.out
      have s1 := hCz.kind 3
      have s2 := s1.setV (OwnI.shuns (t := 53) (by decide) _ _ _ _ _ 0 _ _ _ hTz hov)
      have s3 := s2.setA (OwnI.nil _ _)
      have s4 := s3.bound 0
      have s5 := s4.setR (OwnRows.nil _ _)
      have hC : CS w4 w.heap.size w3.heap.size ⟨3, ys, [], 0, []⟩ (.slice A3 n3 d3) (.slice none 0 0) (.slice none 0 0) := by rw [← hw4]; exact s5
      have hbw : Below w3.heap.size w3 w4 := by rw [← hw4]; exact (((((hbz.setCell (Nat.le_refl _) _).setCell (Nat.le_refl _) _).setCell (Nat.le_refl _) _).setCell (Nat.le_refl _) _).setCell (Nat.le_refl _) _)
      have hz4 : w4.heap.size = w3.heap.size + 1 := by rw [← hw4]; simp [hzz]
      have hT : TBlk 53 w4 w.heap.size #[.int .i64 0, .slice none 0 0, .slice none 0 0, .int .i64 0, .slice none 0 0] := HT3.out.below_ hbw (by omega)
      have hd : Rd w4 base g A n c bs (p + 1 + 1 + m) := HD3.out.under hbw (by omega)
      have hbt : ButG g w.heap.size w w4 := HB3.out.go (below_butG hbw g)
      clear hbz hTz hCz s1 s2 s3 s4 s5 hov hbw
      have z0 : w4.cell? ⟨w3.heap.size, 0, none⟩ = some (.int .i64 3) := hC.blk.at_ 0 rfl
      have z1 : w4.cell? ⟨w3.heap.size, 1, none⟩ = some (.slice A3 n3 d3) := hC.blk.at_ 1 rfl
      have z2 : w4.cell? ⟨w3.heap.size, 2, none⟩ = some (.slice none 0 0) := hC.blk.at_ 2 rfl
      have z3 : w4.cell? ⟨w3.heap.size, 3, none⟩ = some (.int .i64 0) := hC.blk.at_ 3 rfl
      have z4 : w4.cell? ⟨w3.heap.size, 4, none⟩ = some (.slice none 0 0) := hC.blk.at_ 4 rfl
      have y0 : w4.cell? ⟨w.heap.size, 0, none⟩ = some (.int .i64 0) := hT.at_ 0 rfl
      have g0 := hT.frozen 0
      have y1 : w4.cell? ⟨w.heap.size, 1, none⟩ = some (.slice none 0 0) := hT.at_ 1 rfl
      have g1 := hT.frozen 1
      have y2 : w4.cell? ⟨w.heap.size, 2, none⟩ = some (.slice none 0 0) := hT.at_ 2 rfl
      have g2 := hT.frozen 2
      have y3 : w4.cell? ⟨w.heap.size, 3, none⟩ = some (.int .i64 0) := hT.at_ 3 rfl
      have g3 := hT.frozen 3
      have y4 : w4.cell? ⟨w.heap.size, 4, none⟩ = some (.slice none 0 0) := hT.at_ 4 rfl
      have g4 := hT.frozen 4
      have hF := Lib.hid (CS.finish hC hT rfl (by omega) hd hg hbt rfl)
      clear hC hT hbt
      have HVC := Lib.hid (show vconF ⟨3, ys, [], 0, []⟩ (m : Int) = true from vcon_of HGV.out (by show 1 ≤ ys.length; rw [← HN3.out]; exact hyl.1) (by show ys.length ≤ m; rw [← HN3.out]; exact hyl.2.2) hm4 (fit_3))
      go_wp2_with fail
      have hvc := HVC.out
      generalize (((((w4.setCell ⟨w.heap.size, 0, none⟩ (.int .i64 3)).setCell ⟨w.heap.size, 1, none⟩ (.slice A3 n3 d3)).setCell ⟨w.heap.size, 2, none⟩ (.slice none 0 0)).setCell ⟨w.heap.size, 3, none⟩ (.int .i64 0)).setCell ⟨w.heap.size, 4, none⟩ (.slice none 0 0)) = wf at hF ⊢
      obtain ⟨⟨t0, t1, t2, t3, t4⟩, ho, hrd, hbf⟩ := hF.out
      have hyv : 1 ≤ ys.length := by rw [← HN3.out]; exact hyl.1
      have hqq : (p + 1 + 1 + m : Nat) ≤ p + 200 := by omega
      first | exact bodyPost_ret (v := .agg #[.int .i64 3, .slice A3 n3 d3, .slice none 0 0, .int .i64 0, .slice none 0 0]) (by simp [results, Try.results43, go_sem, t0, t1, t2, t3, t4]) rfl ⟨_, _, _, rfl, ho, hyv, ⟨by show ys.length ≤ 8; rw [← HN3.out]; omega, by show (0 : Nat) ≤ 8; omega, by show (0 : Nat) ≤ 8; omega, fun x hx => by simp at hx⟩, hvc, hqq, hrd, hbf⟩ | exact bodyPost_ret (v := .agg #[.int .i64 3, .slice A3 n3 d3, .slice none 0 0, .int .i64 0, .slice none 0 0]) (by simp [results, Try.results43, go_sem, t0, t1, t2, t3, t4]) rfl ⟨_, rfl, _, ho, hyv, ⟨by show ys.length ≤ 8; rw [← HN3.out]; omega, by show (0 : Nat) ≤ 8; omega, by show (0 : Nat) ≤ 8; omega, fun x hx => by simp at hx⟩, hvc, _, hqq, hrd, hbf⟩
    · skip
      obtain ⟨wz, hwz⟩ : ∃ wz, w3.alloc (.cells #[.int .i64 0, .slice none 0 0, .slice none 0 0, .int .i64 0, .slice none 0 0] 53) = wz := ⟨_, rfl⟩
      have hbz : Below w3.heap.size w3 wz := by rw [← hwz]; exact b_alloc _ _
      have hzz : wz.heap.size = w3.heap.size + 1 := by rw [← hwz, size_alloc_]
      have hTz : TBlk 53 wz w3.heap.size #[.int .i64 0, .slice none 0 0, .slice none 0 0, .int .i64 0, .slice none 0 0] := by rw [← hwz]; exact TBlk.new _ _ _
      have hCz : CS wz w.heap.size w3.heap.size ⟨0, [], [], 0, []⟩ (.slice none 0 0) (.slice none 0 0) (.slice none 0 0) := ⟨hTz, (OwnI.stays 3).below _ _ _ _ _ hbz (OwnI.nil _ _), OwnI.nil _ _, OwnRows.nil _ _⟩
      have x0 : wz.cell? ⟨w3.heap.size, 0, none⟩ = some (.int .i64 0) := hTz.at_ 0 rfl
      have e0 := hTz.frozen 0
      have x1 : wz.cell? ⟨w3.heap.size, 1, none⟩ = some (.slice none 0 0) := hTz.at_ 1 rfl
      have e1 := hTz.frozen 1
      have x2 : wz.cell? ⟨w3.heap.size, 2, none⟩ = some (.slice none 0 0) := hTz.at_ 2 rfl
      have e2 := hTz.frozen 2
      have x3 : wz.cell? ⟨w3.heap.size, 3, none⟩ = some (.int .i64 0) := hTz.at_ 3 rfl
      have e3 := hTz.frozen 3
      have x4 : wz.cell? ⟨w3.heap.size, 4, none⟩ = some (.slice none 0 0) := hTz.at_ 4 rfl
      have e4 := hTz.frozen 4
      obtain ⟨w4, hw4⟩ : ∃ w4, (((((wz.setCell ⟨w3.heap.size, 0, none⟩ (.int .i64 3)).setCell ⟨w3.heap.size, 1, none⟩ (.slice A3 n3 d3)).setCell ⟨w3.heap.size, 2, none⟩ (.slice none 0 0)).setCell ⟨w3.heap.size, 3, none⟩ (.int .i64 0)).setCell ⟨w3.heap.size, 4, none⟩ (.slice none 0 0)) = w4 := ⟨_, rfl⟩
      have hov := (OwnI.stays 3).below _ _ _ _ _ hbz HOV.out
      have s1 := hCz.kind 3
      have s2 := s1.setV (OwnI.shuns (t := 53) (by decide) _ _ _ _ _ 0 _ _ _ hTz hov)
      have s3 := s2.setA (OwnI.nil _ _)
      have s4 := s3.bound 0
      have s5 := s4.setR (OwnRows.nil _ _)
      have hC : CS w4 w.heap.size w3.heap.size ⟨3, ys, [], 0, []⟩ (.slice A3 n3 d3) (.slice none 0 0) (.slice none 0 0) := by rw [← hw4]; exact s5
      have hbw : Below w3.heap.size w3 w4 := by rw [← hw4]; exact (((((hbz.setCell (Nat.le_refl _) _).setCell (Nat.le_refl _) _).setCell (Nat.le_refl _) _).setCell (Nat.le_refl _) _).setCell (Nat.le_refl _) _)
      have hz4 : w4.heap.size = w3.heap.size + 1 := by rw [← hw4]; simp [hzz]
      have hT : TBlk 53 w4 w.heap.size #[.int .i64 0, .slice none 0 0, .slice none 0 0, .int .i64 0, .slice none 0 0] := HT3.out.below_ hbw (by omega)
      have hd : Rd w4 base g A n c bs (p + 1 + 1 + m) := HD3.out.under hbw (by omega)
      have hbt : ButG g w.heap.size w w4 := HB3.out.go (below_butG hbw g)
      clear hbz hTz hCz s1 s2 s3 s4 s5 hov hbw
      have z0 : w4.cell? ⟨w3.heap.size, 0, none⟩ = some (.int .i64 3) := hC.blk.at_ 0 rfl
      have z1 : w4.cell? ⟨w3.heap.size, 1, none⟩ = some (.slice A3 n3 d3) := hC.blk.at_ 1 rfl
      have z2 : w4.cell? ⟨w3.heap.size, 2, none⟩ = some (.slice none 0 0) := hC.blk.at_ 2 rfl
      have z3 : w4.cell? ⟨w3.heap.size, 3, none⟩ = some (.int .i64 0) := hC.blk.at_ 3 rfl
      have z4 : w4.cell? ⟨w3.heap.size, 4, none⟩ = some (.slice none 0 0) := hC.blk.at_ 4 rfl
      have y0 : w4.cell? ⟨w.heap.size, 0, none⟩ = some (.int .i64 0) := hT.at_ 0 rfl
      have g0 := hT.frozen 0
      have y1 : w4.cell? ⟨w.heap.size, 1, none⟩ = some (.slice none 0 0) := hT.at_ 1 rfl
      have g1 := hT.frozen 1
      have y2 : w4.cell? ⟨w.heap.size, 2, none⟩ = some (.slice none 0 0) := hT.at_ 2 rfl
      have g2 := hT.frozen 2
      have y3 : w4.cell? ⟨w.heap.size, 3, none⟩ = some (.int .i64 0) := hT.at_ 3 rfl
      have g3 := hT.frozen 3
      have y4 : w4.cell? ⟨w.heap.size, 4, none⟩ = some (.slice none 0 0) := hT.at_ 4 rfl
      have g4 := hT.frozen 4
      have hF := Lib.hid (CS.finish hC hT rfl (by omega) hd hg hbt rfl)
      clear hC hT hbt
      have HVC := Lib.hid (show vconF ⟨3, ys, [], 0, []⟩ (m : Int) = true from vcon_of HGV.out (by show 1 ≤ ys.length; rw [← HN3.out]; exact hyl.1) (by show ys.length ≤ m; rw [← HN3.out]; exact hyl.2.2) hm4 (fit_3))
      go_wp2_with fail
      have hvc := HVC.out
      generalize (((((w4.setCell ⟨w.heap.size, 0, none⟩ (.int .i64 3)).setCell ⟨w.heap.size, 1, none⟩ (.slice A3 n3 d3)).setCell ⟨w.heap.size, 2, none⟩ (.slice none 0 0)).setCell ⟨w.heap.size, 3, none⟩ (.int .i64 0)).setCell ⟨w.heap.size, 4, none⟩ (.slice none 0 0)) = wf at hF ⊢
      obtain ⟨⟨t0, t1, t2, t3, t4⟩, ho, hrd, hbf⟩ := hF.out
      have hyv : 1 ≤ ys.length := by rw [← HN3.out]; exact hyl.1
      have hqq : (p + 1 + 1 + m : Nat) ≤ p + 200 := by omega
      first | exact bodyPost_ret (v := .agg #[.int .i64 3, .slice A3 n3 d3, .slice none 0 0, .int .i64 0, .slice none 0 0]) (by simp [results, Try.results43, go_sem, t0, t1, t2, t3, t4]) rfl ⟨_, _, _, rfl, ho, hyv, ⟨by show ys.length ≤ 8; rw [← HN3.out]; omega, by show (0 : Nat) ≤ 8; omega, by show (0 : Nat) ≤ 8; omega, fun x hx => by simp at hx⟩, hvc, hqq, hrd, hbf⟩ | exact bodyPost_ret (v := .agg #[.int .i64 3, .slice A3 n3 d3, .slice none 0 0, .int .i64 0, .slice none 0 0]) (by simp [results, Try.results43, go_sem, t0, t1, t2, t3, t4]) rfl ⟨_, rfl, _, ho, hyv, ⟨by show ys.length ≤ 8; rw [← HN3.out]; omega, by show (0 : Nat) ≤ 8; omega, by show (0 : Nat) ≤ 8; omega, fun x hx => by simp at hx⟩, hvc, _, hqq, hrd, hbf⟩
  · subst hk
    cases t1 : decide ((m : Int) < 2)
    · have hm2 := of_decide_eq_false t1
      obtain ⟨wz, hwz⟩ : ∃ wz, w3.alloc (.cells #[.int .i64 0, .slice none 0 0, .slice none 0 0, .int .i64 0, .slice none 0 0] 53) = wz := ⟨_, rfl⟩
      have hbz : Below w3.heap.size w3 wz := by rw [← hwz]; exact b_alloc _ _
      have hzz : wz.heap.size = w3.heap.size + 1 := by rw [← hwz, size_alloc_]
      have hTz : TBlk 53 wz w3.heap.size #[.int .i64 0, .slice none 0 0, .slice none 0 0, .int .i64 0, .slice none 0 0] := by rw [← hwz]; exact TBlk.new _ _ _
      have hCz : CS wz w.heap.size w3.heap.size ⟨0, [], [], 0, []⟩ (.slice none 0 0) (.slice none 0 0) (.slice none 0 0) := ⟨hTz, (OwnI.stays 3).below _ _ _ _ _ hbz (OwnI.nil _ _), OwnI.nil _ _, OwnRows.nil _ _⟩
      have x0 : wz.cell? ⟨w3.heap.size, 0, none⟩ = some (.int .i64 0) := hTz.at_ 0 rfl
      have e0 := hTz.frozen 0
      have x1 : wz.cell? ⟨w3.heap.size, 1, none⟩ = some (.slice none 0 0) := hTz.at_ 1 rfl
      have e1 := hTz.frozen 1
      have x2 : wz.cell? ⟨w3.heap.size, 2, none⟩ = some (.slice none 0 0) := hTz.at_ 2 rfl
      have e2 := hTz.frozen 2
      have x3 : wz.cell? ⟨w3.heap.size, 3, none⟩ = some (.int .i64 0) := hTz.at_ 3 rfl
      have e3 := hTz.frozen 3
      have x4 : wz.cell? ⟨w3.heap.size, 4, none⟩ = some (.slice none 0 0) := hTz.at_ 4 rfl
      have e4 := hTz.frozen 4
      obtain ⟨w4, hw4⟩ : ∃ w4, (((((wz.setCell ⟨w3.heap.size, 0, none⟩ (.int .i64 4)).setCell ⟨w3.heap.size, 1, none⟩ (.slice A3 n3 d3)).setCell ⟨w3.heap.size, 2, none⟩ (.slice none 0 0)).setCell ⟨w3.heap.size, 3, none⟩ (.int .i64 0)).setCell ⟨w3.heap.size, 4, none⟩ (.slice none 0 0)) = w4 := ⟨_, rfl⟩
      have hov := (OwnI.stays 3).below _ _ _ _ _ hbz HOV.out
      have s1 := hCz.kind 4
      have s2 := s1.setV (OwnI.shuns (t := 53) (by decide) _ _ _ _ _ 0 _ _ _ hTz hov)
      have s3 := s2.setA (OwnI.nil _ _)
      have s4 := s3.bound 0
      have s5 := s4.setR (OwnRows.nil _ _)
      have hC : CS w4 w.heap.size w3.heap.size ⟨4, ys, [], 0, []⟩ (.slice A3 n3 d3) (.slice none 0 0) (.slice none 0 0) := by rw [← hw4]; exact s5
      have hbw : Below w3.heap.size w3 w4 := by rw [← hw4]; exact (((((hbz.setCell (Nat.le_refl _) _).setCell (Nat.le_refl _) _).setCell (Nat.le_refl _) _).setCell (Nat.le_refl _) _).setCell (Nat.le_refl _) _)
      have hz4 : w4.heap.size = w3.heap.size + 1 := by rw [← hw4]; simp [hzz]
      have hT : TBlk 53 w4 w.heap.size #[.int .i64 0, .slice none 0 0, .slice none 0 0, .int .i64 0, .slice none 0 0] := HT3.out.below_ hbw (by omega)
      have hd : Rd w4 base g A n c bs (p + 1 + 1 + m) := HD3.out.under hbw (by omega)
      have hbt : ButG g w.heap.size w w4 := HB3.out.go (below_butG hbw g)
      clear hbz hTz hCz s1 s2 s3 s4 s5 hov hbw
      have z0 : w4.cell? ⟨w3.heap.size, 0, none⟩ = some (.int .i64 4) := hC.blk.at_ 0 rfl
      have z1 : w4.cell? ⟨w3.heap.size, 1, none⟩ = some (.slice A3 n3 d3) := hC.blk.at_ 1 rfl
      have z2 : w4.cell? ⟨w3.heap.size, 2, none⟩ = some (.slice none 0 0) := hC.blk.at_ 2 rfl
      have z3 : w4.cell? ⟨w3.heap.size, 3, none⟩ = some (.int .i64 0) := hC.blk.at_ 3 rfl
      have z4 : w4.cell? ⟨w3.heap.size, 4, none⟩ = some (.slice none 0 0) := hC.blk.at_ 4 rfl
      go_wp2_with fail
      clear hwz hw4 x0 x1 x2 x3 x4 e0 e1 e2 e3 e4 z0 z1 z2 z3 z4
      refine (someVarsV base g n c (p + 1 + 1 + m) A bs m 2 _ hd (by omega) hm4 (by omega)).mono ?_
      rintro e w5 ⟨v, yv, rfl, hl2, hyn2, hyr2, hov, hdn, hbn⟩
      clear hd
      have hd := hdn
      clear hdn
      replace hov := (OwnI.stays 3).base _ _ w.heap.size _ _ (by omega) hov
      have hszw5 := hbn.size
      have hCn : CS w5 w.heap.size w3.heap.size ⟨4, ys, [], 0, []⟩ (.slice A3 n3 d3) (.slice none 0 0) (.slice none 0 0) := hC.butG hbn hg (by omega)
      replace hT := hT.butG hbn (by omega)
      replace hbt := hbt.go hbn
      clear hC hbn
      have hC := hCn
      clear hCn
      have HG2 := Lib.hid (show GoodV m yv from ⟨hyn2, hyr2⟩)
      clear hyn2 hyr2
      obtain ⟨A2, d2, rfl, -⟩ := hov.read
      obtain ⟨n2, hn2⟩ : ∃ n2, n2 = yv.length := ⟨_, rfl⟩
      have HN2 := Lib.hid hn2
      rw [← hn2] at hl2 hov
      rw [← hn2]
      clear hn2
      have hl22 : 1 ≤ n2 ∧ n2 ≤ 2 := by omega
      have HE2 := Lib.hid (show n2 = 2 by omega)
      clear hl2
      have st1 : w5.cell? ⟨w3.heap.size, 1, none⟩ = some (.slice A3 n3 d3) := hC.blk.at_ 1 rfl
      have sf1 := hC.blk.frozen 1
      obtain ⟨w6, hw6⟩ : ∃ w6, w5.setCell ⟨w3.heap.size, 1, none⟩ (.slice A2 n2 d2) = w6 := ⟨_, rfl⟩
      have hzsw6 : w6.heap.size = w5.heap.size := by rw [← hw6]; simp
      have hCn : CS w6 w.heap.size w3.heap.size ⟨4, yv, [], 0, []⟩ (.slice A2 n2 d2) (.slice none 0 0) (.slice none 0 0) := by rw [← hw6]; exact hC.setV hov
      have hTn : TBlk 53 w6 w.heap.size #[.int .i64 0, .slice none 0 0, .slice none 0 0, .int .i64 0, .slice none 0 0] := by rw [← hw6]; exact hT.far (by omega)
      have hdn : Rd w6 base g A n c bs (p + 1 + 1 + m + m) := by rw [← hw6]; exact hd.set (by omega) 1 _
      have hbn : ButG g w.heap.size w w6 := by rw [← hw6]; exact hbt.setHi (by omega) 1 _
      clear hC hT hd hbt
      have hC := hCn
      have hT := hTn
      have hd := hdn
      have hbt := hbn
      clear hCn hTn hdn hbn
      go_wp2_with fail
      clear st1 sf1 hw6 hov
      refine (pick base g n c (p + 1 + 1 + m + m) A bs 6 _ hd (by omega)).mono ?_
      rintro e w7 ⟨r, rfl, ⟨-, hr⟩, hdn, hbn⟩
      obtain ⟨lr, ur⟩ := hr (by omega)
      clear hr hd
      have hd := hdn
      clear hdn
      have hszw7 := hbn.size
      have hCn : CS w7 w.heap.size w3.heap.size ⟨4, yv, [], 0, []⟩ (.slice A2 n2 d2) (.slice none 0 0) (.slice none 0 0) := hC.butG hbn hg (by omega)
      replace hT := hT.butG hbn (by omega)
      replace hbt := hbt.go hbn
      clear hC hbn
      have hC := hCn
      clear hCn
      obtain ⟨k1, hk1⟩ : ∃ k1 : Nat, 1 + r = (k1 : Int) := ⟨(1 + r).toNat, by omega⟩
      go_wp2_with fail
      refine (randomRow base g n c (p + 1 + 1 + m + m + 1) A bs k1 _ hd (by omega) (by omega)).mono ?_
      rintro e w8 ⟨v, y6, rfl, -, hl6, hm6, hov, hdn, hbn⟩
      have HM6 := Lib.hid hm6
      clear hm6
      clear hd
      have hd := hdn
      clear hdn
      replace hov : OwnI 3 w8 w.heap.size v y6 := ⟨by rw [hl6]; exact own_base hov (by omega), by omega⟩
      obtain ⟨A6, d6, rfl, -⟩ := hov.read
      rw [hl6] at hov
      rw [hl6]
      have HL6 := Lib.hid hl6
      clear hl6
      have hszw8 := hbn.size
      have hCn : CS w8 w.heap.size w3.heap.size ⟨4, yv, [], 0, []⟩ (.slice A2 n2 d2) (.slice none 0 0) (.slice none 0 0) := hC.butG hbn hg (by omega)
      replace hT := hT.butG hbn (by omega)
      replace hbt := hbt.go hbn
      clear hC hbn
      have hC := hCn
      clear hCn
      have st2 : w8.cell? ⟨w3.heap.size, 2, none⟩ = some (.slice none 0 0) := hC.blk.at_ 2 rfl
      have sf2 := hC.blk.frozen 2
      obtain ⟨w9, hw9⟩ : ∃ w9, w8.setCell ⟨w3.heap.size, 2, none⟩ (.slice A6 k1 d6) = w9 := ⟨_, rfl⟩
      have hzsw9 : w9.heap.size = w8.heap.size := by rw [← hw9]; simp
      have hCn : CS w9 w.heap.size w3.heap.size ⟨4, yv, y6, 0, []⟩ (.slice A2 n2 d2) (.slice A6 k1 d6) (.slice none 0 0) := by rw [← hw9]; exact hC.setA hov
      have hTn : TBlk 53 w9 w.heap.size #[.int .i64 0, .slice none 0 0, .slice none 0 0, .int .i64 0, .slice none 0 0] := by rw [← hw9]; exact hT.far (by omega)
      have hdn : Rd w9 base g A n c bs (p + 1 + 1 + m + m + 1 + k1) := by rw [← hw9]; exact hd.set (by omega) 2 _
      have hbn : ButG g w.heap.size w w9 := by rw [← hw9]; exact hbt.setHi (by omega) 2 _
      clear hC hT hd hbt
      have hC := hCn
      have hT := hTn
      have hd := hdn
      have hbt := hbn
      clear hCn hTn hdn hbn
      have z0 : w9.cell? ⟨w3.heap.size, 0, none⟩ = some (.int .i64 4) := hC.blk.at_ 0 rfl
      have z1 : w9.cell? ⟨w3.heap.size, 1, none⟩ = some (.slice A2 n2 d2) := hC.blk.at_ 1 rfl
      have z2 : w9.cell? ⟨w3.heap.size, 2, none⟩ = some (.slice A6 k1 d6) := hC.blk.at_ 2 rfl
      have z3 : w9.cell? ⟨w3.heap.size, 3, none⟩ = some (.int .i64 0) := hC.blk.at_ 3 rfl
      have z4 : w9.cell? ⟨w3.heap.size, 4, none⟩ = some (.slice none 0 0) := hC.blk.at_ 4 rfl
      have y0 : w9.cell? ⟨w.heap.size, 0, none⟩ = some (.int .i64 0) := hT.at_ 0 rfl
      have g0 := hT.frozen 0
      have y1 : w9.cell? ⟨w.heap.size, 1, none⟩ = some (.slice none 0 0) := hT.at_ 1 rfl
      have g1 := hT.frozen 1
      have y2 : w9.cell? ⟨w.heap.size, 2, none⟩ = some (.slice none 0 0) := hT.at_ 2 rfl
      have g2 := hT.frozen 2
      have y3 : w9.cell? ⟨w.heap.size, 3, none⟩ = some (.int .i64 0) := hT.at_ 3 rfl
      have g3 := hT.frozen 3
      have y4 : w9.cell? ⟨w.heap.size, 4, none⟩ = some (.slice none 0 0) := hT.at_ 4 rfl
      have g4 := hT.frozen 4
      have hF := Lib.hid (CS.finish hC hT rfl (by omega) hd hg hbt rfl)
      clear hC hT hbt
      have HVC := Lib.hid (show vconF ⟨4, yv, y6, 0, []⟩ (m : Int) = true from vcon_of HG2.out (by show 1 ≤ yv.length; rw [← HN2.out]; omega) (by show yv.length ≤ m; rw [← HN2.out]; have := HE2.out; omega) hm4 (fit_4 (by rw [← HN2.out]; exact HE2.out) (by rw [HL6.out]; omega) (fun x hx => by have := HM6.out x hx; omega)))
      go_wp2_with fail
      have hvc := HVC.out
      generalize (((((w9.setCell ⟨w.heap.size, 0, none⟩ (.int .i64 4)).setCell ⟨w.heap.size, 1, none⟩ (.slice A2 n2 d2)).setCell ⟨w.heap.size, 2, none⟩ (.slice A6 k1 d6)).setCell ⟨w.heap.size, 3, none⟩ (.int .i64 0)).setCell ⟨w.heap.size, 4, none⟩ (.slice none 0 0)) = wf at hF ⊢
      obtain ⟨⟨t0, t1, t2, t3, t4⟩, ho, hrd, hbf⟩ := hF.out
      have hyv : 1 ≤ yv.length := by rw [← HN2.out]; omega
      have hqq : (p + 1 + 1 + m + m + 1 + k1 : Nat) ≤ p + 200 := by omega
      first | exact bodyPost_ret (v := .agg #[.int .i64 4, .slice A2 n2 d2, .slice A6 k1 d6, .int .i64 0, .slice none 0 0]) (by simp [results, Try.results43, go_sem, t0, t1, t2, t3, t4]) rfl ⟨_, _, _, rfl, ho, hyv, ⟨by show yv.length ≤ 8; rw [← HN2.out]; omega, by show y6.length ≤ 8; rw [HL6.out]; omega, by show (0 : Nat) ≤ 8; omega, fun x hx => by simp at hx⟩, hvc, hqq, hrd, hbf⟩ | exact bodyPost_ret (v := .agg #[.int .i64 4, .slice A2 n2 d2, .slice A6 k1 d6, .int .i64 0, .slice none 0 0]) (by simp [results, Try.results43, go_sem, t0, t1, t2, t3, t4]) rfl ⟨_, rfl, _, ho, hyv, ⟨by show yv.length ≤ 8; rw [← HN2.out]; omega, by show y6.length ≤ 8; rw [HL6.out]; omega, by show (0 : Nat) ≤ 8; omega, fun x hx => by simp at hx⟩, hvc, _, hqq, hrd, hbf⟩
    · have hm2 := of_decide_eq_true t1
      obtain ⟨wz, hwz⟩ : ∃ wz, w3.alloc (.cells #[.int .i64 0, .slice none 0 0, .slice none 0 0, .int .i64 0, .slice none 0 0] 53) = wz := ⟨_, rfl⟩
      have hbz : Below w3.heap.size w3 wz := by rw [← hwz]; exact b_alloc _ _
      have hzz : wz.heap.size = w3.heap.size + 1 := by rw [← hwz, size_alloc_]
      have hTz : TBlk 53 wz w3.heap.size #[.int .i64 0, .slice none 0 0, .slice none 0 0, .int .i64 0, .slice none 0 0] := by rw [← hwz]; exact TBlk.new _ _ _
      have hCz : CS wz w.heap.size w3.heap.size ⟨0, [], [], 0, []⟩ (.slice none 0 0) (.slice none 0 0) (.slice none 0 0) := ⟨hTz, (OwnI.stays 3).below _ _ _ _ _ hbz (OwnI.nil _ _), OwnI.nil _ _, OwnRows.nil _ _⟩
      have x0 : wz.cell? ⟨w3.heap.size, 0, none⟩ = some (.int .i64 0) := hTz.at_ 0 rfl
      have e0 := hTz.frozen 0
      have x1 : wz.cell? ⟨w3.heap.size, 1, none⟩ = some (.slice none 0 0) := hTz.at_ 1 rfl
      have e1 := hTz.frozen 1
      have x2 : wz.cell? ⟨w3.heap.size, 2, none⟩ = some (.slice none 0 0) := hTz.at_ 2 rfl
      have e2 := hTz.frozen 2
      have x3 : wz.cell? ⟨w3.heap.size, 3, none⟩ = some (.int .i64 0) := hTz.at_ 3 rfl
      have e3 := hTz.frozen 3
      have x4 : wz.cell? ⟨w3.heap.size, 4, none⟩ = some (.slice none 0 0) := hTz.at_ 4 rfl
      have e4 := hTz.frozen 4
      obtain ⟨w4, hw4⟩ : ∃ w4, ((((((wz.setCell ⟨w3.heap.size, 0, none⟩ (.int .i64 4)).setCell ⟨w3.heap.size, 1, none⟩ (.slice A3 n3 d3)).setCell ⟨w3.heap.size, 2, none⟩ (.slice none 0 0)).setCell ⟨w3.heap.size, 3, none⟩ (.int .i64 0)).setCell ⟨w3.heap.size, 4, none⟩ (.slice none 0 0)).setCell ⟨w3.heap.size, 0, none⟩ (.int .i64 5)) = w4 := ⟨_, rfl⟩
      have hov := (OwnI.stays 3).below _ _ _ _ _ hbz HOV.out
      have s1 := hCz.kind 4
      have s2 := s1.setV (OwnI.shuns (t := 53) (by decide) _ _ _ _ _ 0 _ _ _ hTz hov)
      have s3 := s2.setA (OwnI.nil _ _)
      have s4 := s3.bound 0
      have s5 := s4.setR (OwnRows.nil _ _)
      have hC : CS w4 w.heap.size w3.heap.size ⟨5, ys, [], 0, []⟩ (.slice A3 n3 d3) (.slice none 0 0) (.slice none 0 0) := by rw [← hw4]; exact s5.kind 5
      have hbw : Below w3.heap.size w3 w4 := by rw [← hw4]; exact ((((((hbz.setCell (Nat.le_refl _) _).setCell (Nat.le_refl _) _).setCell (Nat.le_refl _) _).setCell (Nat.le_refl _) _).setCell (Nat.le_refl _) _).setCell (Nat.le_refl _) _)
      have hz4 : w4.heap.size = w3.heap.size + 1 := by rw [← hw4]; simp [hzz]
      have hT : TBlk 53 w4 w.heap.size #[.int .i64 0, .slice none 0 0, .slice none 0 0, .int .i64 0, .slice none 0 0] := HT3.out.below_ hbw (by omega)
      have hd : Rd w4 base g A n c bs (p + 1 + 1 + m) := HD3.out.under hbw (by omega)
      have hbt : ButG g w.heap.size w w4 := HB3.out.go (below_butG hbw g)
      clear hbz hTz hCz s1 s2 s3 s4 s5 hov hbw
      have z0 : w4.cell? ⟨w3.heap.size, 0, none⟩ = some (.int .i64 5) := hC.blk.at_ 0 rfl
      have z1 : w4.cell? ⟨w3.heap.size, 1, none⟩ = some (.slice A3 n3 d3) := hC.blk.at_ 1 rfl
      have z2 : w4.cell? ⟨w3.heap.size, 2, none⟩ = some (.slice none 0 0) := hC.blk.at_ 2 rfl
      have z3 : w4.cell? ⟨w3.heap.size, 3, none⟩ = some (.int .i64 0) := hC.blk.at_ 3 rfl
      have z4 : w4.cell? ⟨w3.heap.size, 4, none⟩ = some (.slice none 0 0) := hC.blk.at_ 4 rfl
      go_wp2_with fail
      clear hwz hw4 x0 x1 x2 x3 x4 e0 e1 e2 e3 e4 z0 z1 z2 z3 z4
      refine (pick base g n c (p + 1 + 1 + m) A bs 6 _ hd (by omega)).mono ?_
      rintro e w5 ⟨r, rfl, ⟨-, hr⟩, hdn, hbn⟩
      obtain ⟨lr, ur⟩ := hr (by omega)
      clear hr hd
      have hd := hdn
      clear hdn
      have hszw5 := hbn.size
      have hCn : CS w5 w.heap.size w3.heap.size ⟨5, ys, [], 0, []⟩ (.slice A3 n3 d3) (.slice none 0 0) (.slice none 0 0) := hC.butG hbn hg (by omega)
      replace hT := hT.butG hbn (by omega)
      replace hbt := hbt.go hbn
      clear hC hbn
      have hC := hCn
      clear hCn
      obtain ⟨k1, hk1⟩ : ∃ k1 : Nat, 1 + r = (k1 : Int) := ⟨(1 + r).toNat, by omega⟩
      have hk16 : 1 ≤ k1 ∧ k1 ≤ 6 := by omega
      go_wp2_with fail
      have htx := Lib.hid hC.blk
      have hvv := Lib.hid hC.vars
      have HT := Lib.hid hT
      have HVB := Lib.hid (show ∀ b, (Value.slice A3 n3 d3).ownBlock = some b → b < w5.heap.size from fun b hb => (hC.vars.1.lt b hb).2)
      have hz4a : w3.heap.size < w5.heap.size := by omega
      clear hC hT hz4
      go_loopw [8] (fun i wr => ∃ (j e q : Nat) (rs : List (List Int)) (A2 : Option Addr) (d2 : Nat), j + e = k1 ∧ i = .int .i64 e ∧ Hid (rs.length = j) ∧ Hid (RowsLe 4 rs) ∧ Hid (∀ r ∈ rs, r.length = ys.length ∧ ∀ x ∈ r, 0 ≤ x ∧ x ≤ 5) ∧ Hid (TBlk 53 wr w3.heap.size #[.int .i64 5, .slice A3 n3 d3, .slice none 0 0, .int .i64 0, .slice A2 j d2]) ∧ Hid (OwnOf 23 (OwnI 3) wr w5.heap.size (.slice A2 j d2) rs) ∧ Hid (OwnI 3 wr w.heap.size (.slice A3 n3 d3) ys) ∧ Hid (TBlk 53 wr w.heap.size #[.int .i64 0, .slice none 0 0, .slice none 0 0, .int .i64 0, .slice none 0 0]) ∧ q ≤ p + 7 + 4 * j ∧ Rd wr base g A n c bs q ∧ ButG g w.heap.size w wr ∧ w5.heap.size ≤ wr.heap.size) (fun i _ => (intOf i).toNat)
      case atStart => exact ⟨0, k1, _, [], none, 0, by omega, rfl, Lib.hid rfl, Lib.hid (fun x hx => by simp at hx), Lib.hid (fun x hx => by simp at hx), htx, Lib.hid (OwnRows.nil _ _), hvv, HT, by omega, hd, hbt, Nat.le_refl _⟩
      case round =>
        obtain ⟨j, ee, q, rs, A2, d2, hj, rfl, hl, hle, hrr, htx2, hal2, hvv2, hT2, hq, hd2, hbt2, hxw⟩ := hrel
        clear htx hvv HT hd hbt
        rename World => wr
        have hzb := hbt2.size
        have hxw2 : w3.heap.size < wr.heap.size := by omega
        by_cases hlt : 0 < ee
        · obtain ⟨e1, rfl⟩ : ∃ e1, ee = e1 + 1 := ⟨ee - 1, by omega⟩
          have t5 : decide ((0 : Int) < ((e1 + 1 : Nat) : Int)) = true := decide_eq_true (by omega)
          have a4 : wr.cell? ⟨w3.heap.size, 4, none⟩ = some (.slice A2 j d2) := htx2.out.at_ 4 rfl
          have hbx : Below wr.heap.size wr wr.drew := below_drewN (Below.refl _ _) 1
          have ha4 : wr.drew.cell? ⟨w3.heap.size, 4, none⟩ = some (.slice A2 j d2) := (hbx.cell (p := ⟨w3.heap.size, 4, none⟩) hxw2).trans a4
          have hdx := hd2.under hbx (by omega)
          have hN6 : wr.drew.heap.size = wr.heap.size := rfl
          obtain ⟨us, u1, u2, u3, u4⟩ := hal2.out
          rw [hl.out] at u2 u3
          have U1 := Lib.hid u1
          have U2 := Lib.hid u2
          have U4 := Lib.hid u4
          clear u1 u2 u4
          go_wp2_with fail
          go_region_law (first
            | (refine step_append_any (by rfl) _ _ 27 (by rfl) w5.heap.size 23 i1 _ 1 24 Try.underlying27 hi1 hy0 hy1 hy2 rfl (by omega) (.slice A2 j d2) j us (by rfl) ho5 (some ⟨wc.heap.size, 0, none⟩) 1 [.slice A6 n3 d6] (by exact ⟨_, rfl, .inr ⟨_, rfl, rfl, cell_one_new _ _ _⟩⟩) (by simp [Value.oneCell']) (by unfold maxLen; omega) (by omega) (by rw [size_alloc_]; omega) ?_
               intro v1 we hown hbw hgr _
               have hbw2 : Below wc.heap.size wc (wc.alloc (.cells #[.slice A6 n3 d6] 23)) := b_alloc _ _
               have hrows := OwnRows.snoc (show (3 : TypeId) ≠ 23 by decide) U1.out (by rw [hl.out]; exact ho5) (fun i u x hu hx => (OwnI.stays 3).below _ _ _ _ _ hbw2 (((OwnI.stays 3).below _ _ _ _ _ hbx (U4.out i u x hu hx)).butG hb5 (by omega))) ((OwnI.stays 3).below _ _ _ _ _ hbw2 HROW.out) (by rw [hl.out]; omega) (by rw [hl.out]; exact hown) hgr
               obtain ⟨A7, d7, rfl, -⟩ := read2 hrows
               have hr7 : (rs ++ [y6]).length = j + 1 := by rw [List.length_append, hl.out]; rfl
               rw [hr7] at hrows ⊢
               have t6 := ((((htx2.out.below_ hbx hxw2).butG hb5 (by omega)).below_ hbw2 (by omega)).below_ hbw (by omega))
               have a6 : we.cell? ⟨w3.heap.size, 4, none⟩ = some (.slice A2 j d2) := t6.at_ 4 rfl
               have f6 := t6.frozen 4
               have ov6 := OwnI.under ((OwnI.stays 3).below _ _ _ _ _ hbw2 (((OwnI.stays 3).below _ _ _ _ _ hbx hvv2.out).butG hb5 hg)) hbw HVB.out
               have tB6 := ((((hT2.out.below_ hbx (by omega)).butG hb5 (by omega)).below_ hbw2 (by omega)).below_ hbw (by omega))
               have r6 := (hd5.under hbw2 (by omega)).under hbw (by omega)
               have bt6 := (((hbt2.go (below_butG hbx g)).go hb5).go (below_butG hbw2 g)).trans (below_butG (hbw.mono (by omega)) g))
            | (go_simp
               go_at_call 62
               refine (randomRow base g n c q A bs n3 _ hdx (by omega) (by omega)).mono ?_
               rintro e wc ⟨v, y6, rfl, -, hl6, hm6, hov, hd5, hb5⟩
               have HM6 := Lib.hid (show y6.length = ys.length ∧ ∀ x ∈ y6, 0 ≤ x ∧ x ≤ 5 from ⟨by rw [hl6, HN3.out], fun x hx => by have := hm6 x hx; omega⟩)
               clear hm6
               have hz5 := hb5.size
               rw [hN6] at hz5
               have hrow : OwnI 3 wc w5.heap.size v y6 := ⟨by rw [hl6]; exact own_base hov (by omega), by omega⟩
               obtain ⟨A6, d6, rfl, -⟩ := hrow.read
               rw [hl6]
               rw [hl6] at hrow
               have HROW := Lib.hid hrow
               clear hrow hov
               have ho5 : (wc.alloc (.cells #[.slice A6 n3 d6] 23)).ownsRow w5.heap.size 23 1 (.slice A2 j d2) j us := own_below (own_butG (own_below U2.out hbx) hb5 (by omega)) (b_alloc wc (.cells #[.slice A6 n3 d6] 23))
               have a5 : wc.cell? ⟨w3.heap.size, 4, none⟩ = some (.slice A2 j d2) := ((htx2.out.below_ hbx hxw2).butG hb5 (by omega)).at_ 4 rfl
               have a5' : (wc.alloc (.cells #[.slice A6 n3 d6] 23)).cell? ⟨w3.heap.size, 4, none⟩ = some (.slice A2 j d2) := (((htx2.out.below_ hbx hxw2).butG hb5 (by omega)).below_ (b_alloc wc (.cells #[.slice A6 n3 d6] 23)) (by omega)).at_ 4 rfl))
          all_goals
            have z6 := hbw.size
            have z7 := hbw2.size
            have T6 := Lib.hid t6
            have V6 := Lib.hid ov6
            have B6 := Lib.hid tB6
            have O6 := Lib.hid hrows
            clear t6 ov6 tB6 hrows hown hgr hbw ho5
            go_wp2_with fail
            go_roundw
            case rel =>
              refine ⟨j + 1, e1, q + n3, rs ++ [y6], A7, d7, by omega, by go_num, Lib.hid hr7, Lib.hid (fun x hx => ?_), Lib.hid (fun z hz => by
                rcases List.mem_append.1 hz with h | h
                · exact hrr.out z h
                · rw [List.mem_singleton.1 h]; exact HM6.out), Lib.hid (T6.out.store 4 _), Lib.hid (OwnOf.shuns (t := 53) (by decide) (OwnI.shuns (by decide)) _ _ _ _ _ 4 _ _ _ T6.out O6.out), Lib.hid (V6.out.shunC T6.out), Lib.hid (B6.out.far (by omega)), by omega, r6.set (by omega) 4 _, bt6.setHi (by omega) 4 _, by simp; omega⟩
              rcases List.mem_append.1 hx with h | h
              · exact hle.out x h
              · rw [List.mem_singleton.1 h]; omega
            case measure => simp [intOf]
        · obtain rfl : ee = 0 := by omega
          obtain rfl : j = k1 := by omega
          have t5 : decide ((0 : Int) < ((0 : Nat) : Int)) = false := by decide
          have hC : CS wr w.heap.size w3.heap.size ⟨5, ys, [], 0, rs⟩ (.slice A3 n3 d3) (.slice none 0 0) (.slice A2 j d2) := ⟨htx2.out, hvv2.out, OwnI.nil _ _, (OwnOf.stays (OwnI.stays 3)).base _ _ _ _ _ (by omega) hal2.out⟩
          have hT := hT2.out
          have hd := hd2
          have hbt := hbt2
          clear hd2 hbt2 htx2 hal2 hvv2 hT2
          have z0 : wr.cell? ⟨w3.heap.size, 0, none⟩ = some (.int .i64 5) := hC.blk.at_ 0 rfl
          have z1 : wr.cell? ⟨w3.heap.size, 1, none⟩ = some (.slice A3 n3 d3) := hC.blk.at_ 1 rfl
          have z2 : wr.cell? ⟨w3.heap.size, 2, none⟩ = some (.slice none 0 0) := hC.blk.at_ 2 rfl
          have z3 : wr.cell? ⟨w3.heap.size, 3, none⟩ = some (.int .i64 0) := hC.blk.at_ 3 rfl
          have z4 : wr.cell? ⟨w3.heap.size, 4, none⟩ = some (.slice A2 j d2) := hC.blk.at_ 4 rfl
          have y0 : wr.cell? ⟨w.heap.size, 0, none⟩ = some (.int .i64 0) := hT.at_ 0 rfl
          have g0 := hT.frozen 0
          have y1 : wr.cell? ⟨w.heap.size, 1, none⟩ = some (.slice none 0 0) := hT.at_ 1 rfl
          have g1 := hT.frozen 1
          have y2 : wr.cell? ⟨w.heap.size, 2, none⟩ = some (.slice none 0 0) := hT.at_ 2 rfl
          have g2 := hT.frozen 2
          have y3 : wr.cell? ⟨w.heap.size, 3, none⟩ = some (.int .i64 0) := hT.at_ 3 rfl
          have g3 := hT.frozen 3
          have y4 : wr.cell? ⟨w.heap.size, 4, none⟩ = some (.slice none 0 0) := hT.at_ 4 rfl
          have g4 := hT.frozen 4
          have hF := Lib.hid (CS.finish hC hT rfl (by omega) hd hg hbt rfl)
          clear hC hT hbt
          have HVC := Lib.hid (show vconF ⟨5, ys, [], 0, rs⟩ (m : Int) = true from vcon_of HGV.out (by show 1 ≤ ys.length; rw [← HN3.out]; exact hyl.1) (by show ys.length ≤ m; rw [← HN3.out]; exact hyl.2.2) hm4 (fit_5 (by rw [hl.out]; omega) hrr.out))
          go_wp2_with fail
          have hvc := HVC.out
          generalize (((((wr.setCell ⟨w.heap.size, 0, none⟩ (.int .i64 5)).setCell ⟨w.heap.size, 1, none⟩ (.slice A3 n3 d3)).setCell ⟨w.heap.size, 2, none⟩ (.slice none 0 0)).setCell ⟨w.heap.size, 3, none⟩ (.int .i64 0)).setCell ⟨w.heap.size, 4, none⟩ (.slice A2 j d2)) = wf at hF ⊢
          obtain ⟨⟨t0, t1, t2, t3, t4⟩, ho, hrd, hbf⟩ := hF.out
          have hyv : 1 ≤ ys.length := by rw [← HN3.out]; exact hyl.1
          have hqq : (q : Nat) ≤ p + 200 := by omega
          first | exact bodyPost_ret (v := .agg #[.int .i64 5, .slice A3 n3 d3, .slice none 0 0, .int .i64 0, .slice A2 j d2]) (by simp [results, Try.results43, go_sem, t0, t1, t2, t3, t4]) rfl ⟨_, _, _, rfl, ho, hyv, ⟨by show ys.length ≤ 8; rw [← HN3.out]; omega, by show (0 : Nat) ≤ 8; omega, by show rs.length ≤ 8; rw [hl.out]; omega, fun x hx => Nat.le_trans (hle.out x hx) (by omega)⟩, hvc, hqq, hrd, hbf⟩ | exact bodyPost_ret (v := .agg #[.int .i64 5, .slice A3 n3 d3, .slice none 0 0, .int .i64 0, .slice A2 j d2]) (by simp [results, Try.results43, go_sem, t0, t1, t2, t3, t4]) rfl ⟨_, rfl, _, ho, hyv, ⟨by show ys.length ≤ 8; rw [← HN3.out]; omega, by show (0 : Nat) ≤ 8; omega, by show rs.length ≤ 8; rw [hl.out]; omega, fun x hx => Nat.le_trans (hle.out x hx) (by omega)⟩, hvc, _, hqq, hrd, hbf⟩
  · subst hk
    cases t1 : decide ((m : Int) < 2)
    · skip
      obtain ⟨wz, hwz⟩ : ∃ wz, w3.alloc (.cells #[.int .i64 0, .slice none 0 0, .slice none 0 0, .int .i64 0, .slice none 0 0] 53) = wz := ⟨_, rfl⟩
      have hbz : Below w3.heap.size w3 wz := by rw [← hwz]; exact b_alloc _ _
      have hzz : wz.heap.size = w3.heap.size + 1 := by rw [← hwz, size_alloc_]
      have hTz : TBlk 53 wz w3.heap.size #[.int .i64 0, .slice none 0 0, .slice none 0 0, .int .i64 0, .slice none 0 0] := by rw [← hwz]; exact TBlk.new _ _ _
      have hCz : CS wz w.heap.size w3.heap.size ⟨0, [], [], 0, []⟩ (.slice none 0 0) (.slice none 0 0) (.slice none 0 0) := ⟨hTz, (OwnI.stays 3).below _ _ _ _ _ hbz (OwnI.nil _ _), OwnI.nil _ _, OwnRows.nil _ _⟩
      have x0 : wz.cell? ⟨w3.heap.size, 0, none⟩ = some (.int .i64 0) := hTz.at_ 0 rfl
      have e0 := hTz.frozen 0
      have x1 : wz.cell? ⟨w3.heap.size, 1, none⟩ = some (.slice none 0 0) := hTz.at_ 1 rfl
      have e1 := hTz.frozen 1
      have x2 : wz.cell? ⟨w3.heap.size, 2, none⟩ = some (.slice none 0 0) := hTz.at_ 2 rfl
      have e2 := hTz.frozen 2
      have x3 : wz.cell? ⟨w3.heap.size, 3, none⟩ = some (.int .i64 0) := hTz.at_ 3 rfl
      have e3 := hTz.frozen 3
      have x4 : wz.cell? ⟨w3.heap.size, 4, none⟩ = some (.slice none 0 0) := hTz.at_ 4 rfl
      have e4 := hTz.frozen 4
      obtain ⟨w4, hw4⟩ : ∃ w4, (((((wz.setCell ⟨w3.heap.size, 0, none⟩ (.int .i64 5)).setCell ⟨w3.heap.size, 1, none⟩ (.slice A3 n3 d3)).setCell ⟨w3.heap.size, 2, none⟩ (.slice none 0 0)).setCell ⟨w3.heap.size, 3, none⟩ (.int .i64 0)).setCell ⟨w3.heap.size, 4, none⟩ (.slice none 0 0)) = w4 := ⟨_, rfl⟩
      have hov := (OwnI.stays 3).below _ _ _ _ _ hbz HOV.out
      have s1 := hCz.kind 5
      have s2 := s1.setV (OwnI.shuns (t := 53) (by decide) _ _ _ _ _ 0 _ _ _ hTz hov)
      have s3 := s2.setA (OwnI.nil _ _)
      have s4 := s3.bound 0
      have s5 := s4.setR (OwnRows.nil _ _)
      have hC : CS w4 w.heap.size w3.heap.size ⟨5, ys, [], 0, []⟩ (.slice A3 n3 d3) (.slice none 0 0) (.slice none 0 0) := by rw [← hw4]; exact s5
      have hbw : Below w3.heap.size w3 w4 := by rw [← hw4]; exact (((((hbz.setCell (Nat.le_refl _) _).setCell (Nat.le_refl _) _).setCell (Nat.le_refl _) _).setCell (Nat.le_refl _) _).setCell (Nat.le_refl _) _)
      have hz4 : w4.heap.size = w3.heap.size + 1 := by rw [← hw4]; simp [hzz]
      have hT : TBlk 53 w4 w.heap.size #[.int .i64 0, .slice none 0 0, .slice none 0 0, .int .i64 0, .slice none 0 0] := HT3.out.below_ hbw (by omega)
      have hd : Rd w4 base g A n c bs (p + 1 + 1 + m) := HD3.out.under hbw (by omega)
      have hbt : ButG g w.heap.size w w4 := HB3.out.go (below_butG hbw g)
      clear hbz hTz hCz s1 s2 s3 s4 s5 hov hbw
      have z0 : w4.cell? ⟨w3.heap.size, 0, none⟩ = some (.int .i64 5) := hC.blk.at_ 0 rfl
      have z1 : w4.cell? ⟨w3.heap.size, 1, none⟩ = some (.slice A3 n3 d3) := hC.blk.at_ 1 rfl
      have z2 : w4.cell? ⟨w3.heap.size, 2, none⟩ = some (.slice none 0 0) := hC.blk.at_ 2 rfl
      have z3 : w4.cell? ⟨w3.heap.size, 3, none⟩ = some (.int .i64 0) := hC.blk.at_ 3 rfl
      have z4 : w4.cell? ⟨w3.heap.size, 4, none⟩ = some (.slice none 0 0) := hC.blk.at_ 4 rfl
      go_wp2_with fail
      clear hwz hw4 x0 x1 x2 x3 x4 e0 e1 e2 e3 e4 z0 z1 z2 z3 z4
      refine (pick base g n c (p + 1 + 1 + m) A bs 6 _ hd (by omega)).mono ?_
      rintro e w5 ⟨r, rfl, ⟨-, hr⟩, hdn, hbn⟩
      obtain ⟨lr, ur⟩ := hr (by omega)
      clear hr hd
      have hd := hdn
      clear hdn
      have hszw5 := hbn.size
      have hCn : CS w5 w.heap.size w3.heap.size ⟨5, ys, [], 0, []⟩ (.slice A3 n3 d3) (.slice none 0 0) (.slice none 0 0) := hC.butG hbn hg (by omega)
      replace hT := hT.butG hbn (by omega)
      replace hbt := hbt.go hbn
      clear hC hbn
      have hC := hCn
      clear hCn
      obtain ⟨k1, hk1⟩ : ∃ k1 : Nat, 1 + r = (k1 : Int) := ⟨(1 + r).toNat, by omega⟩
      have hk16 : 1 ≤ k1 ∧ k1 ≤ 6 := by omega
      go_wp2_with fail
      have htx := Lib.hid hC.blk
      have hvv := Lib.hid hC.vars
      have HT := Lib.hid hT
      have HVB := Lib.hid (show ∀ b, (Value.slice A3 n3 d3).ownBlock = some b → b < w5.heap.size from fun b hb => (hC.vars.1.lt b hb).2)
      have hz4a : w3.heap.size < w5.heap.size := by omega
      clear hC hT hz4
      go_loopw [8] (fun i wr => ∃ (j e q : Nat) (rs : List (List Int)) (A2 : Option Addr) (d2 : Nat), j + e = k1 ∧ i = .int .i64 e ∧ Hid (rs.length = j) ∧ Hid (RowsLe 4 rs) ∧ Hid (∀ r ∈ rs, r.length = ys.length ∧ ∀ x ∈ r, 0 ≤ x ∧ x ≤ 5) ∧ Hid (TBlk 53 wr w3.heap.size #[.int .i64 5, .slice A3 n3 d3, .slice none 0 0, .int .i64 0, .slice A2 j d2]) ∧ Hid (OwnOf 23 (OwnI 3) wr w5.heap.size (.slice A2 j d2) rs) ∧ Hid (OwnI 3 wr w.heap.size (.slice A3 n3 d3) ys) ∧ Hid (TBlk 53 wr w.heap.size #[.int .i64 0, .slice none 0 0, .slice none 0 0, .int .i64 0, .slice none 0 0]) ∧ q ≤ p + 7 + 4 * j ∧ Rd wr base g A n c bs q ∧ ButG g w.heap.size w wr ∧ w5.heap.size ≤ wr.heap.size) (fun i _ => (intOf i).toNat)
      case atStart => exact ⟨0, k1, _, [], none, 0, by omega, rfl, Lib.hid rfl, Lib.hid (fun x hx => by simp at hx), Lib.hid (fun x hx => by simp at hx), htx, Lib.hid (OwnRows.nil _ _), hvv, HT, by omega, hd, hbt, Nat.le_refl _⟩
      case round =>
        obtain ⟨j, ee, q, rs, A2, d2, hj, rfl, hl, hle, hrr, htx2, hal2, hvv2, hT2, hq, hd2, hbt2, hxw⟩ := hrel
        clear htx hvv HT hd hbt
        rename World => wr
        have hzb := hbt2.size
        have hxw2 : w3.heap.size < wr.heap.size := by omega
        by_cases hlt : 0 < ee
        · obtain ⟨e1, rfl⟩ : ∃ e1, ee = e1 + 1 := ⟨ee - 1, by omega⟩
          have t5 : decide ((0 : Int) < ((e1 + 1 : Nat) : Int)) = true := decide_eq_true (by omega)
          have a4 : wr.cell? ⟨w3.heap.size, 4, none⟩ = some (.slice A2 j d2) := htx2.out.at_ 4 rfl
          have hbx : Below wr.heap.size wr wr.drew := below_drewN (Below.refl _ _) 1
          have ha4 : wr.drew.cell? ⟨w3.heap.size, 4, none⟩ = some (.slice A2 j d2) := (hbx.cell (p := ⟨w3.heap.size, 4, none⟩) hxw2).trans a4
          have hdx := hd2.under hbx (by omega)
          have hN6 : wr.drew.heap.size = wr.heap.size := rfl
          obtain ⟨us, u1, u2, u3, u4⟩ := hal2.out
          rw [hl.out] at u2 u3
          have U1 := Lib.hid u1
          have U2 := Lib.hid u2
          have U4 := Lib.hid u4
          clear u1 u2 u4
          go_wp2_with fail
          go_region_law (first
            | (refine step_append_any (by rfl) _ _ 27 (by rfl) w5.heap.size 23 i1 _ 1 24 Try.underlying27 hi1 hy0 hy1 hy2 rfl (by omega) (.slice A2 j d2) j us (by rfl) ho5 (some ⟨wc.heap.size, 0, none⟩) 1 [.slice A6 n3 d6] (by exact ⟨_, rfl, .inr ⟨_, rfl, rfl, cell_one_new _ _ _⟩⟩) (by simp [Value.oneCell']) (by unfold maxLen; omega) (by omega) (by rw [size_alloc_]; omega) ?_
               intro v1 we hown hbw hgr _
               have hbw2 : Below wc.heap.size wc (wc.alloc (.cells #[.slice A6 n3 d6] 23)) := b_alloc _ _
               have hrows := OwnRows.snoc (show (3 : TypeId) ≠ 23 by decide) U1.out (by rw [hl.out]; exact ho5) (fun i u x hu hx => (OwnI.stays 3).below _ _ _ _ _ hbw2 (((OwnI.stays 3).below _ _ _ _ _ hbx (U4.out i u x hu hx)).butG hb5 (by omega))) ((OwnI.stays 3).below _ _ _ _ _ hbw2 HROW.out) (by rw [hl.out]; omega) (by rw [hl.out]; exact hown) hgr
               obtain ⟨A7, d7, rfl, -⟩ := read2 hrows
               have hr7 : (rs ++ [y6]).length = j + 1 := by rw [List.length_append, hl.out]; rfl
               rw [hr7] at hrows ⊢
               have t6 := ((((htx2.out.below_ hbx hxw2).butG hb5 (by omega)).below_ hbw2 (by omega)).below_ hbw (by omega))
               have a6 : we.cell? ⟨w3.heap.size, 4, none⟩ = some (.slice A2 j d2) := t6.at_ 4 rfl
               have f6 := t6.frozen 4
               have ov6 := OwnI.under ((OwnI.stays 3).below _ _ _ _ _ hbw2 (((OwnI.stays 3).below _ _ _ _ _ hbx hvv2.out).butG hb5 hg)) hbw HVB.out
               have tB6 := ((((hT2.out.below_ hbx (by omega)).butG hb5 (by omega)).below_ hbw2 (by omega)).below_ hbw (by omega))
               have r6 := (hd5.under hbw2 (by omega)).under hbw (by omega)
               have bt6 := (((hbt2.go (below_butG hbx g)).go hb5).go (below_butG hbw2 g)).trans (below_butG (hbw.mono (by omega)) g))
            | (go_simp
               go_at_call 62
               refine (randomRow base g n c q A bs n3 _ hdx (by omega) (by omega)).mono ?_
               rintro e wc ⟨v, y6, rfl, -, hl6, hm6, hov, hd5, hb5⟩
               have HM6 := Lib.hid (show y6.length = ys.length ∧ ∀ x ∈ y6, 0 ≤ x ∧ x ≤ 5 from ⟨by rw [hl6, HN3.out], fun x hx => by have := hm6 x hx; omega⟩)
               clear hm6
               have hz5 := hb5.size
               rw [hN6] at hz5
               have hrow : OwnI 3 wc w5.heap.size v y6 := ⟨by rw [hl6]; exact own_base hov (by omega), by omega⟩
               obtain ⟨A6, d6, rfl, -⟩ := hrow.read
               rw [hl6]
               rw [hl6] at hrow
               have HROW := Lib.hid hrow
               clear hrow hov
               have ho5 : (wc.alloc (.cells #[.slice A6 n3 d6] 23)).ownsRow w5.heap.size 23 1 (.slice A2 j d2) j us := own_below (own_butG (own_below U2.out hbx) hb5 (by omega)) (b_alloc wc (.cells #[.slice A6 n3 d6] 23))
               have a5 : wc.cell? ⟨w3.heap.size, 4, none⟩ = some (.slice A2 j d2) := ((htx2.out.below_ hbx hxw2).butG hb5 (by omega)).at_ 4 rfl
               have a5' : (wc.alloc (.cells #[.slice A6 n3 d6] 23)).cell? ⟨w3.heap.size, 4, none⟩ = some (.slice A2 j d2) := (((htx2.out.below_ hbx hxw2).butG hb5 (by omega)).below_ (b_alloc wc (.cells #[.slice A6 n3 d6] 23)) (by omega)).at_ 4 rfl))
          all_goals
            have z6 := hbw.size
            have z7 := hbw2.size
            have T6 := Lib.hid t6
            have V6 := Lib.hid ov6
            have B6 := Lib.hid tB6
            have O6 := Lib.hid hrows
            clear t6 ov6 tB6 hrows hown hgr hbw ho5
            go_wp2_with fail
            go_roundw
            case rel =>
              refine ⟨j + 1, e1, q + n3, rs ++ [y6], A7, d7, by omega, by go_num, Lib.hid hr7, Lib.hid (fun x hx => ?_), Lib.hid (fun z hz => by
                rcases List.mem_append.1 hz with h | h
                · exact hrr.out z h
                · rw [List.mem_singleton.1 h]; exact HM6.out), Lib.hid (T6.out.store 4 _), Lib.hid (OwnOf.shuns (t := 53) (by decide) (OwnI.shuns (by decide)) _ _ _ _ _ 4 _ _ _ T6.out O6.out), Lib.hid (V6.out.shunC T6.out), Lib.hid (B6.out.far (by omega)), by omega, r6.set (by omega) 4 _, bt6.setHi (by omega) 4 _, by simp; omega⟩
              rcases List.mem_append.1 hx with h | h
              · exact hle.out x h
              · rw [List.mem_singleton.1 h]; omega
            case measure => simp [intOf]
        · obtain rfl : ee = 0 := by omega
          obtain rfl : j = k1 := by omega
          have t5 : decide ((0 : Int) < ((0 : Nat) : Int)) = false := by decide
          have hC : CS wr w.heap.size w3.heap.size ⟨5, ys, [], 0, rs⟩ (.slice A3 n3 d3) (.slice none 0 0) (.slice A2 j d2) := ⟨htx2.out, hvv2.out, OwnI.nil _ _, (OwnOf.stays (OwnI.stays 3)).base _ _ _ _ _ (by omega) hal2.out⟩
          have hT := hT2.out
          have hd := hd2
          have hbt := hbt2
          clear hd2 hbt2 htx2 hal2 hvv2 hT2
          have z0 : wr.cell? ⟨w3.heap.size, 0, none⟩ = some (.int .i64 5) := hC.blk.at_ 0 rfl
          have z1 : wr.cell? ⟨w3.heap.size, 1, none⟩ = some (.slice A3 n3 d3) := hC.blk.at_ 1 rfl
          have z2 : wr.cell? ⟨w3.heap.size, 2, none⟩ = some (.slice none 0 0) := hC.blk.at_ 2 rfl
          have z3 : wr.cell? ⟨w3.heap.size, 3, none⟩ = some (.int .i64 0) := hC.blk.at_ 3 rfl
          have z4 : wr.cell? ⟨w3.heap.size, 4, none⟩ = some (.slice A2 j d2) := hC.blk.at_ 4 rfl
          have y0 : wr.cell? ⟨w.heap.size, 0, none⟩ = some (.int .i64 0) := hT.at_ 0 rfl
          have g0 := hT.frozen 0
          have y1 : wr.cell? ⟨w.heap.size, 1, none⟩ = some (.slice none 0 0) := hT.at_ 1 rfl
          have g1 := hT.frozen 1
          have y2 : wr.cell? ⟨w.heap.size, 2, none⟩ = some (.slice none 0 0) := hT.at_ 2 rfl
          have g2 := hT.frozen 2
          have y3 : wr.cell? ⟨w.heap.size, 3, none⟩ = some (.int .i64 0) := hT.at_ 3 rfl
          have g3 := hT.frozen 3
          have y4 : wr.cell? ⟨w.heap.size, 4, none⟩ = some (.slice none 0 0) := hT.at_ 4 rfl
          have g4 := hT.frozen 4
          have hF := Lib.hid (CS.finish hC hT rfl (by omega) hd hg hbt rfl)
          clear hC hT hbt
          have HVC := Lib.hid (show vconF ⟨5, ys, [], 0, rs⟩ (m : Int) = true from vcon_of HGV.out (by show 1 ≤ ys.length; rw [← HN3.out]; exact hyl.1) (by show ys.length ≤ m; rw [← HN3.out]; exact hyl.2.2) hm4 (fit_5 (by rw [hl.out]; omega) hrr.out))
          go_wp2_with fail
          have hvc := HVC.out
          generalize (((((wr.setCell ⟨w.heap.size, 0, none⟩ (.int .i64 5)).setCell ⟨w.heap.size, 1, none⟩ (.slice A3 n3 d3)).setCell ⟨w.heap.size, 2, none⟩ (.slice none 0 0)).setCell ⟨w.heap.size, 3, none⟩ (.int .i64 0)).setCell ⟨w.heap.size, 4, none⟩ (.slice A2 j d2)) = wf at hF ⊢
          obtain ⟨⟨t0, t1, t2, t3, t4⟩, ho, hrd, hbf⟩ := hF.out
          have hyv : 1 ≤ ys.length := by rw [← HN3.out]; exact hyl.1
          have hqq : (q : Nat) ≤ p + 200 := by omega
          first | exact bodyPost_ret (v := .agg #[.int .i64 5, .slice A3 n3 d3, .slice none 0 0, .int .i64 0, .slice A2 j d2]) (by simp [results, Try.results43, go_sem, t0, t1, t2, t3, t4]) rfl ⟨_, _, _, rfl, ho, hyv, ⟨by show ys.length ≤ 8; rw [← HN3.out]; omega, by show (0 : Nat) ≤ 8; omega, by show rs.length ≤ 8; rw [hl.out]; omega, fun x hx => Nat.le_trans (hle.out x hx) (by omega)⟩, hvc, hqq, hrd, hbf⟩ | exact bodyPost_ret (v := .agg #[.int .i64 5, .slice A3 n3 d3, .slice none 0 0, .int .i64 0, .slice A2 j d2]) (by simp [results, Try.results43, go_sem, t0, t1, t2, t3, t4]) rfl ⟨_, rfl, _, ho, hyv, ⟨by show ys.length ≤ 8; rw [← HN3.out]; omega, by show (0 : Nat) ≤ 8; omega, by show rs.length ≤ 8; rw [hl.out]; omega, fun x hx => Nat.le_trans (hle.out x hx) (by omega)⟩, hvc, _, hqq, hrd, hbf⟩
    · skip
      obtain ⟨wz, hwz⟩ : ∃ wz, w3.alloc (.cells #[.int .i64 0, .slice none 0 0, .slice none 0 0, .int .i64 0, .slice none 0 0] 53) = wz := ⟨_, rfl⟩
      have hbz : Below w3.heap.size w3 wz := by rw [← hwz]; exact b_alloc _ _
      have hzz : wz.heap.size = w3.heap.size + 1 := by rw [← hwz, size_alloc_]
      have hTz : TBlk 53 wz w3.heap.size #[.int .i64 0, .slice none 0 0, .slice none 0 0, .int .i64 0, .slice none 0 0] := by rw [← hwz]; exact TBlk.new _ _ _
      have hCz : CS wz w.heap.size w3.heap.size ⟨0, [], [], 0, []⟩ (.slice none 0 0) (.slice none 0 0) (.slice none 0 0) := ⟨hTz, (OwnI.stays 3).below _ _ _ _ _ hbz (OwnI.nil _ _), OwnI.nil _ _, OwnRows.nil _ _⟩
      have x0 : wz.cell? ⟨w3.heap.size, 0, none⟩ = some (.int .i64 0) := hTz.at_ 0 rfl
      have e0 := hTz.frozen 0
      have x1 : wz.cell? ⟨w3.heap.size, 1, none⟩ = some (.slice none 0 0) := hTz.at_ 1 rfl
      have e1 := hTz.frozen 1
      have x2 : wz.cell? ⟨w3.heap.size, 2, none⟩ = some (.slice none 0 0) := hTz.at_ 2 rfl
      have e2 := hTz.frozen 2
      have x3 : wz.cell? ⟨w3.heap.size, 3, none⟩ = some (.int .i64 0) := hTz.at_ 3 rfl
      have e3 := hTz.frozen 3
      have x4 : wz.cell? ⟨w3.heap.size, 4, none⟩ = some (.slice none 0 0) := hTz.at_ 4 rfl
      have e4 := hTz.frozen 4
      obtain ⟨w4, hw4⟩ : ∃ w4, (((((wz.setCell ⟨w3.heap.size, 0, none⟩ (.int .i64 5)).setCell ⟨w3.heap.size, 1, none⟩ (.slice A3 n3 d3)).setCell ⟨w3.heap.size, 2, none⟩ (.slice none 0 0)).setCell ⟨w3.heap.size, 3, none⟩ (.int .i64 0)).setCell ⟨w3.heap.size, 4, none⟩ (.slice none 0 0)) = w4 := ⟨_, rfl⟩
      have hov := (OwnI.stays 3).below _ _ _ _ _ hbz HOV.out
      have s1 := hCz.kind 5
      have s2 := s1.setV (OwnI.shuns (t := 53) (by decide) _ _ _ _ _ 0 _ _ _ hTz hov)
      have s3 := s2.setA (OwnI.nil _ _)
      have s4 := s3.bound 0
      have s5 := s4.setR (OwnRows.nil _ _)
      have hC : CS w4 w.heap.size w3.heap.size ⟨5, ys, [], 0, []⟩ (.slice A3 n3 d3) (.slice none 0 0) (.slice none 0 0) := by rw [← hw4]; exact s5
      have hbw : Below w3.heap.size w3 w4 := by rw [← hw4]; exact (((((hbz.setCell (Nat.le_refl _) _).setCell (Nat.le_refl _) _).setCell (Nat.le_refl _) _).setCell (Nat.le_refl _) _).setCell (Nat.le_refl _) _)
      have hz4 : w4.heap.size = w3.heap.size + 1 := by rw [← hw4]; simp [hzz]
      have hT : TBlk 53 w4 w.heap.size #[.int .i64 0, .slice none 0 0, .slice none 0 0, .int .i64 0, .slice none 0 0] := HT3.out.below_ hbw (by omega)
      have hd : Rd w4 base g A n c bs (p + 1 + 1 + m) := HD3.out.under hbw (by omega)
      have hbt : ButG g w.heap.size w w4 := HB3.out.go (below_butG hbw g)
      clear hbz hTz hCz s1 s2 s3 s4 s5 hov hbw
      have z0 : w4.cell? ⟨w3.heap.size, 0, none⟩ = some (.int .i64 5) := hC.blk.at_ 0 rfl
      have z1 : w4.cell? ⟨w3.heap.size, 1, none⟩ = some (.slice A3 n3 d3) := hC.blk.at_ 1 rfl
      have z2 : w4.cell? ⟨w3.heap.size, 2, none⟩ = some (.slice none 0 0) := hC.blk.at_ 2 rfl
      have z3 : w4.cell? ⟨w3.heap.size, 3, none⟩ = some (.int .i64 0) := hC.blk.at_ 3 rfl
      have z4 : w4.cell? ⟨w3.heap.size, 4, none⟩ = some (.slice none 0 0) := hC.blk.at_ 4 rfl
      go_wp2_with fail
      clear hwz hw4 x0 x1 x2 x3 x4 e0 e1 e2 e3 e4 z0 z1 z2 z3 z4
      refine (pick base g n c (p + 1 + 1 + m) A bs 6 _ hd (by omega)).mono ?_
      rintro e w5 ⟨r, rfl, ⟨-, hr⟩, hdn, hbn⟩
      obtain ⟨lr, ur⟩ := hr (by omega)
      clear hr hd
      have hd := hdn
      clear hdn
      have hszw5 := hbn.size
      have hCn : CS w5 w.heap.size w3.heap.size ⟨5, ys, [], 0, []⟩ (.slice A3 n3 d3) (.slice none 0 0) (.slice none 0 0) := hC.butG hbn hg (by omega)
      replace hT := hT.butG hbn (by omega)
      replace hbt := hbt.go hbn
      clear hC hbn
      have hC := hCn
      clear hCn
      obtain ⟨k1, hk1⟩ : ∃ k1 : Nat, 1 + r = (k1 : Int) := ⟨(1 + r).toNat, by omega⟩
      have hk16 : 1 ≤ k1 ∧ k1 ≤ 6 := by omega
      go_wp2_with fail
      have htx := Lib.hid hC.blk
      have hvv := Lib.hid hC.vars
      have HT := Lib.hid hT
      have HVB := Lib.hid (show ∀ b, (Value.slice A3 n3 d3).ownBlock = some b → b < w5.heap.size from fun b hb => (hC.vars.1.lt b hb).2)
      have hz4a : w3.heap.size < w5.heap.size := by omega
      clear hC hT hz4
      go_loopw [8] (fun i wr => ∃ (j e q : Nat) (rs : List (List Int)) (A2 : Option Addr) (d2 : Nat), j + e = k1 ∧ i = .int .i64 e ∧ Hid (rs.length = j) ∧ Hid (RowsLe 4 rs) ∧ Hid (∀ r ∈ rs, r.length = ys.length ∧ ∀ x ∈ r, 0 ≤ x ∧ x ≤ 5) ∧ Hid (TBlk 53 wr w3.heap.size #[.int .i64 5, .slice A3 n3 d3, .slice none 0 0, .int .i64 0, .slice A2 j d2]) ∧ Hid (OwnOf 23 (OwnI 3) wr w5.heap.size (.slice A2 j d2) rs) ∧ Hid (OwnI 3 wr w.heap.size (.slice A3 n3 d3) ys) ∧ Hid (TBlk 53 wr w.heap.size #[.int .i64 0, .slice none 0 0, .slice none 0 0, .int .i64 0, .slice none 0 0]) ∧ q ≤ p + 7 + 4 * j ∧ Rd wr base g A n c bs q ∧ ButG g w.heap.size w wr ∧ w5.heap.size ≤ wr.heap.size) (fun i _ => (intOf i).toNat)
      case atStart => exact ⟨0, k1, _, [], none, 0, by omega, rfl, Lib.hid rfl, Lib.hid (fun x hx => by simp at hx), Lib.hid (fun x hx => by simp at hx), htx, Lib.hid (OwnRows.nil _ _), hvv, HT, by omega, hd, hbt, Nat.le_refl _⟩
      case round =>
        obtain ⟨j, ee, q, rs, A2, d2, hj, rfl, hl, hle, hrr, htx2, hal2, hvv2, hT2, hq, hd2, hbt2, hxw⟩ := hrel
        clear htx hvv HT hd hbt
        rename World => wr
        have hzb := hbt2.size
        have hxw2 : w3.heap.size < wr.heap.size := by omega
        by_cases hlt : 0 < ee
        · obtain ⟨e1, rfl⟩ : ∃ e1, ee = e1 + 1 := ⟨ee - 1, by omega⟩
          have t5 : decide ((0 : Int) < ((e1 + 1 : Nat) : Int)) = true := decide_eq_true (by omega)
          have a4 : wr.cell? ⟨w3.heap.size, 4, none⟩ = some (.slice A2 j d2) := htx2.out.at_ 4 rfl
          have hbx : Below wr.heap.size wr wr.drew := below_drewN (Below.refl _ _) 1
          have ha4 : wr.drew.cell? ⟨w3.heap.size, 4, none⟩ = some (.slice A2 j d2) := (hbx.cell (p := ⟨w3.heap.size, 4, none⟩) hxw2).trans a4
          have hdx := hd2.under hbx (by omega)
          have hN6 : wr.drew.heap.size = wr.heap.size := rfl
          obtain ⟨us, u1, u2, u3, u4⟩ := hal2.out
          rw [hl.out] at u2 u3
          have U1 := Lib.hid u1
          have U2 := Lib.hid u2
          have U4 := Lib.hid u4
          clear u1 u2 u4
          go_wp2_with fail
          go_region_law (first
            | (refine step_append_any (by rfl) _ _ 27 (by rfl) w5.heap.size 23 i1 _ 1 24 Try.underlying27 hi1 hy0 hy1 hy2 rfl (by omega) (.slice A2 j d2) j us (by rfl) ho5 (some ⟨wc.heap.size, 0, none⟩) 1 [.slice A6 n3 d6] (by exact ⟨_, rfl, .inr ⟨_, rfl, rfl, cell_one_new _ _ _⟩⟩) (by simp [Value.oneCell']) (by unfold maxLen; omega) (by omega) (by rw [size_alloc_]; omega) ?_
               intro v1 we hown hbw hgr _
               have hbw2 : Below wc.heap.size wc (wc.alloc (.cells #[.slice A6 n3 d6] 23)) := b_alloc _ _
               have hrows := OwnRows.snoc (show (3 : TypeId) ≠ 23 by decide) U1.out (by rw [hl.out]; exact ho5) (fun i u x hu hx => (OwnI.stays 3).below _ _ _ _ _ hbw2 (((OwnI.stays 3).below _ _ _ _ _ hbx (U4.out i u x hu hx)).butG hb5 (by omega))) ((OwnI.stays 3).below _ _ _ _ _ hbw2 HROW.out) (by rw [hl.out]; omega) (by rw [hl.out]; exact hown) hgr
               obtain ⟨A7, d7, rfl, -⟩ := read2 hrows
               have hr7 : (rs ++ [y6]).length = j + 1 := by rw [List.length_append, hl.out]; rfl
               rw [hr7] at hrows ⊢
               have t6 := ((((htx2.out.below_ hbx hxw2).butG hb5 (by omega)).below_ hbw2 (by omega)).below_ hbw (by omega))
               have a6 : we.cell? ⟨w3.heap.size, 4, none⟩ = some (.slice A2 j d2) := t6.at_ 4 rfl
               have f6 := t6.frozen 4
               have ov6 := OwnI.under ((OwnI.stays 3).below _ _ _ _ _ hbw2 (((OwnI.stays 3).below _ _ _ _ _ hbx hvv2.out).butG hb5 hg)) hbw HVB.out
               have tB6 := ((((hT2.out.below_ hbx (by omega)).butG hb5 (by omega)).below_ hbw2 (by omega)).below_ hbw (by omega))
               have r6 := (hd5.under hbw2 (by omega)).under hbw (by omega)
               have bt6 := (((hbt2.go (below_butG hbx g)).go hb5).go (below_butG hbw2 g)).trans (below_butG (hbw.mono (by omega)) g))
            | (go_simp
               go_at_call 62
               refine (randomRow base g n c q A bs n3 _ hdx (by omega) (by omega)).mono ?_
               rintro e wc ⟨v, y6, rfl, -, hl6, hm6, hov, hd5, hb5⟩
               have HM6 := Lib.hid (show y6.length = ys.length ∧ ∀ x ∈ y6, 0 ≤ x ∧ x ≤ 5 from ⟨by rw [hl6, HN3.out], fun x hx => by have := hm6 x hx; omega⟩)
               clear hm6
               have hz5 := hb5.size
               rw [hN6] at hz5
               have hrow : OwnI 3 wc w5.heap.size v y6 := ⟨by rw [hl6]; exact own_base hov (by omega), by omega⟩
               obtain ⟨A6, d6, rfl, -⟩ := hrow.read
               rw [hl6]
               rw [hl6] at hrow
               have HROW := Lib.hid hrow
               clear hrow hov
               have ho5 : (wc.alloc (.cells #[.slice A6 n3 d6] 23)).ownsRow w5.heap.size 23 1 (.slice A2 j d2) j us := own_below (own_butG (own_below U2.out hbx) hb5 (by omega)) (b_alloc wc (.cells #[.slice A6 n3 d6] 23))
               have a5 : wc.cell? ⟨w3.heap.size, 4, none⟩ = some (.slice A2 j d2) := ((htx2.out.below_ hbx hxw2).butG hb5 (by omega)).at_ 4 rfl
               have a5' : (wc.alloc (.cells #[.slice A6 n3 d6] 23)).cell? ⟨w3.heap.size, 4, none⟩ = some (.slice A2 j d2) := (((htx2.out.below_ hbx hxw2).butG hb5 (by omega)).below_ (b_alloc wc (.cells #[.slice A6 n3 d6] 23)) (by omega)).at_ 4 rfl))
          all_goals
            have z6 := hbw.size
            have z7 := hbw2.size
            have T6 := Lib.hid t6
            have V6 := Lib.hid ov6
            have B6 := Lib.hid tB6
            have O6 := Lib.hid hrows
            clear t6 ov6 tB6 hrows hown hgr hbw ho5
            go_wp2_with fail
            go_roundw
            case rel =>
              refine ⟨j + 1, e1, q + n3, rs ++ [y6], A7, d7, by omega, by go_num, Lib.hid hr7, Lib.hid (fun x hx => ?_), Lib.hid (fun z hz => by
                rcases List.mem_append.1 hz with h | h
                · exact hrr.out z h
                · rw [List.mem_singleton.1 h]; exact HM6.out), Lib.hid (T6.out.store 4 _), Lib.hid (OwnOf.shuns (t := 53) (by decide) (OwnI.shuns (by decide)) _ _ _ _ _ 4 _ _ _ T6.out O6.out), Lib.hid (V6.out.shunC T6.out), Lib.hid (B6.out.far (by omega)), by omega, r6.set (by omega) 4 _, bt6.setHi (by omega) 4 _, by simp; omega⟩
              rcases List.mem_append.1 hx with h | h
              · exact hle.out x h
              · rw [List.mem_singleton.1 h]; omega
            case measure => simp [intOf]
        · obtain rfl : ee = 0 := by omega
          obtain rfl : j = k1 := by omega
          have t5 : decide ((0 : Int) < ((0 : Nat) : Int)) = false := by decide
          have hC : CS wr w.heap.size w3.heap.size ⟨5, ys, [], 0, rs⟩ (.slice A3 n3 d3) (.slice none 0 0) (.slice A2 j d2) := ⟨htx2.out, hvv2.out, OwnI.nil _ _, (OwnOf.stays (OwnI.stays 3)).base _ _ _ _ _ (by omega) hal2.out⟩
          have hT := hT2.out
          have hd := hd2
          have hbt := hbt2
          clear hd2 hbt2 htx2 hal2 hvv2 hT2
          have z0 : wr.cell? ⟨w3.heap.size, 0, none⟩ = some (.int .i64 5) := hC.blk.at_ 0 rfl
          have z1 : wr.cell? ⟨w3.heap.size, 1, none⟩ = some (.slice A3 n3 d3) := hC.blk.at_ 1 rfl
          have z2 : wr.cell? ⟨w3.heap.size, 2, none⟩ = some (.slice none 0 0) := hC.blk.at_ 2 rfl
          have z3 : wr.cell? ⟨w3.heap.size, 3, none⟩ = some (.int .i64 0) := hC.blk.at_ 3 rfl
          have z4 : wr.cell? ⟨w3.heap.size, 4, none⟩ = some (.slice A2 j d2) := hC.blk.at_ 4 rfl
          have y0 : wr.cell? ⟨w.heap.size, 0, none⟩ = some (.int .i64 0) := hT.at_ 0 rfl
          have g0 := hT.frozen 0
          have y1 : wr.cell? ⟨w.heap.size, 1, none⟩ = some (.slice none 0 0) := hT.at_ 1 rfl
          have g1 := hT.frozen 1
          have y2 : wr.cell? ⟨w.heap.size, 2, none⟩ = some (.slice none 0 0) := hT.at_ 2 rfl
          have g2 := hT.frozen 2
          have y3 : wr.cell? ⟨w.heap.size, 3, none⟩ = some (.int .i64 0) := hT.at_ 3 rfl
          have g3 := hT.frozen 3
          have y4 : wr.cell? ⟨w.heap.size, 4, none⟩ = some (.slice none 0 0) := hT.at_ 4 rfl
          have g4 := hT.frozen 4
          have hF := Lib.hid (CS.finish hC hT rfl (by omega) hd hg hbt rfl)
          clear hC hT hbt
          have HVC := Lib.hid (show vconF ⟨5, ys, [], 0, rs⟩ (m : Int) = true from vcon_of HGV.out (by show 1 ≤ ys.length; rw [← HN3.out]; exact hyl.1) (by show ys.length ≤ m; rw [← HN3.out]; exact hyl.2.2) hm4 (fit_5 (by rw [hl.out]; omega) hrr.out))
          go_wp2_with fail
          have hvc := HVC.out
          generalize (((((wr.setCell ⟨w.heap.size, 0, none⟩ (.int .i64 5)).setCell ⟨w.heap.size, 1, none⟩ (.slice A3 n3 d3)).setCell ⟨w.heap.size, 2, none⟩ (.slice none 0 0)).setCell ⟨w.heap.size, 3, none⟩ (.int .i64 0)).setCell ⟨w.heap.size, 4, none⟩ (.slice A2 j d2)) = wf at hF ⊢
          obtain ⟨⟨t0, t1, t2, t3, t4⟩, ho, hrd, hbf⟩ := hF.out
          have hyv : 1 ≤ ys.length := by rw [← HN3.out]; exact hyl.1
          have hqq : (q : Nat) ≤ p + 200 := by omega
          first | exact bodyPost_ret (v := .agg #[.int .i64 5, .slice A3 n3 d3, .slice none 0 0, .int .i64 0, .slice A2 j d2]) (by simp [results, Try.results43, go_sem, t0, t1, t2, t3, t4]) rfl ⟨_, _, _, rfl, ho, hyv, ⟨by show ys.length ≤ 8; rw [← HN3.out]; omega, by show (0 : Nat) ≤ 8; omega, by show rs.length ≤ 8; rw [hl.out]; omega, fun x hx => Nat.le_trans (hle.out x hx) (by omega)⟩, hvc, hqq, hrd, hbf⟩ | exact bodyPost_ret (v := .agg #[.int .i64 5, .slice A3 n3 d3, .slice none 0 0, .int .i64 0, .slice A2 j d2]) (by simp [results, Try.results43, go_sem, t0, t1, t2, t3, t4]) rfl ⟨_, rfl, _, ho, hyv, ⟨by show ys.length ≤ 8; rw [← HN3.out]; omega, by show (0 : Nat) ≤ 8; omega, by show rs.length ≤ 8; rw [hl.out]; omega, fun x hx => Nat.le_trans (hle.out x hx) (by omega)⟩, hvc, _, hqq, hrd, hbf⟩
  · subst hk
    cases t1 : decide ((m : Int) < 2)
    · skip
      obtain ⟨wz, hwz⟩ : ∃ wz, w3.alloc (.cells #[.int .i64 0, .slice none 0 0, .slice none 0 0, .int .i64 0, .slice none 0 0] 53) = wz := ⟨_, rfl⟩
      have hbz : Below w3.heap.size w3 wz := by rw [← hwz]; exact b_alloc _ _
      have hzz : wz.heap.size = w3.heap.size + 1 := by rw [← hwz, size_alloc_]
      have hTz : TBlk 53 wz w3.heap.size #[.int .i64 0, .slice none 0 0, .slice none 0 0, .int .i64 0, .slice none 0 0] := by rw [← hwz]; exact TBlk.new _ _ _
      have hCz : CS wz w.heap.size w3.heap.size ⟨0, [], [], 0, []⟩ (.slice none 0 0) (.slice none 0 0) (.slice none 0 0) := ⟨hTz, (OwnI.stays 3).below _ _ _ _ _ hbz (OwnI.nil _ _), OwnI.nil _ _, OwnRows.nil _ _⟩
      have x0 : wz.cell? ⟨w3.heap.size, 0, none⟩ = some (.int .i64 0) := hTz.at_ 0 rfl
      have e0 := hTz.frozen 0
      have x1 : wz.cell? ⟨w3.heap.size, 1, none⟩ = some (.slice none 0 0) := hTz.at_ 1 rfl
      have e1 := hTz.frozen 1
      have x2 : wz.cell? ⟨w3.heap.size, 2, none⟩ = some (.slice none 0 0) := hTz.at_ 2 rfl
      have e2 := hTz.frozen 2
      have x3 : wz.cell? ⟨w3.heap.size, 3, none⟩ = some (.int .i64 0) := hTz.at_ 3 rfl
      have e3 := hTz.frozen 3
      have x4 : wz.cell? ⟨w3.heap.size, 4, none⟩ = some (.slice none 0 0) := hTz.at_ 4 rfl
      have e4 := hTz.frozen 4
      obtain ⟨w4, hw4⟩ : ∃ w4, (((((wz.setCell ⟨w3.heap.size, 0, none⟩ (.int .i64 6)).setCell ⟨w3.heap.size, 1, none⟩ (.slice A3 n3 d3)).setCell ⟨w3.heap.size, 2, none⟩ (.slice none 0 0)).setCell ⟨w3.heap.size, 3, none⟩ (.int .i64 0)).setCell ⟨w3.heap.size, 4, none⟩ (.slice none 0 0)) = w4 := ⟨_, rfl⟩
      have hov := (OwnI.stays 3).below _ _ _ _ _ hbz HOV.out
      have s1 := hCz.kind 6
      have s2 := s1.setV (OwnI.shuns (t := 53) (by decide) _ _ _ _ _ 0 _ _ _ hTz hov)
      have s3 := s2.setA (OwnI.nil _ _)
      have s4 := s3.bound 0
      have s5 := s4.setR (OwnRows.nil _ _)
      have hC : CS w4 w.heap.size w3.heap.size ⟨6, ys, [], 0, []⟩ (.slice A3 n3 d3) (.slice none 0 0) (.slice none 0 0) := by rw [← hw4]; exact s5
      have hbw : Below w3.heap.size w3 w4 := by rw [← hw4]; exact (((((hbz.setCell (Nat.le_refl _) _).setCell (Nat.le_refl _) _).setCell (Nat.le_refl _) _).setCell (Nat.le_refl _) _).setCell (Nat.le_refl _) _)
      have hz4 : w4.heap.size = w3.heap.size + 1 := by rw [← hw4]; simp [hzz]
      have hT : TBlk 53 w4 w.heap.size #[.int .i64 0, .slice none 0 0, .slice none 0 0, .int .i64 0, .slice none 0 0] := HT3.out.below_ hbw (by omega)
      have hd : Rd w4 base g A n c bs (p + 1 + 1 + m) := HD3.out.under hbw (by omega)
      have hbt : ButG g w.heap.size w w4 := HB3.out.go (below_butG hbw g)
      clear hbz hTz hCz s1 s2 s3 s4 s5 hov hbw
      have z0 : w4.cell? ⟨w3.heap.size, 0, none⟩ = some (.int .i64 6) := hC.blk.at_ 0 rfl
      have z1 : w4.cell? ⟨w3.heap.size, 1, none⟩ = some (.slice A3 n3 d3) := hC.blk.at_ 1 rfl
      have z2 : w4.cell? ⟨w3.heap.size, 2, none⟩ = some (.slice none 0 0) := hC.blk.at_ 2 rfl
      have z3 : w4.cell? ⟨w3.heap.size, 3, none⟩ = some (.int .i64 0) := hC.blk.at_ 3 rfl
      have z4 : w4.cell? ⟨w3.heap.size, 4, none⟩ = some (.slice none 0 0) := hC.blk.at_ 4 rfl
      go_wp2_with fail
      clear hwz hw4 x0 x1 x2 x3 x4 e0 e1 e2 e3 e4 z0 z1 z2 z3 z4
      refine (pick base g n c (p + 1 + 1 + m) A bs 6 _ hd (by omega)).mono ?_
      rintro e w5 ⟨r, rfl, ⟨-, hr⟩, hdn, hbn⟩
      obtain ⟨lr, ur⟩ := hr (by omega)
      clear hr hd
      have hd := hdn
      clear hdn
      have hszw5 := hbn.size
      have hCn : CS w5 w.heap.size w3.heap.size ⟨6, ys, [], 0, []⟩ (.slice A3 n3 d3) (.slice none 0 0) (.slice none 0 0) := hC.butG hbn hg (by omega)
      replace hT := hT.butG hbn (by omega)
      replace hbt := hbt.go hbn
      clear hC hbn
      have hC := hCn
      clear hCn
      obtain ⟨w6, hw6⟩ : ∃ w6, w5.alloc (.cells #[.int .i64 r] 3) = w6 := ⟨_, rfl⟩
      have hbn : Below w5.heap.size w5 w6 := by rw [← hw6]; exact b_alloc _ _
      have hzsw6 : w6.heap.size = w5.heap.size + 1 := by rw [← hw6, size_alloc_]
      have hov : OwnI 3 w6 w.heap.size (.slice (some ⟨w5.heap.size, 0, none⟩) 1 1) [r] := by rw [← hw6]; exact ⟨own_base (World.ownsRow_lit w5 #[.int .i64 r] 1 (Nat.le_refl _) (by decide) rfl) (by omega), by simp⟩
      have hCn : CS w6 w.heap.size w3.heap.size ⟨6, ys, [], 0, []⟩ (.slice A3 n3 d3) (.slice none 0 0) (.slice none 0 0) := hC.below hbn
      replace hT := hT.below_ hbn (by omega)
      replace hbt := hbt.go (below_butG hbn g)
      replace hd := hd.under hbn (by omega)
      clear hC hbn
      have hC := hCn
      clear hCn
      have st2 : w6.cell? ⟨w3.heap.size, 2, none⟩ = some (.slice none 0 0) := hC.blk.at_ 2 rfl
      have sf2 := hC.blk.frozen 2
      obtain ⟨w7, hw7⟩ : ∃ w7, w6.setCell ⟨w3.heap.size, 2, none⟩ (.slice (some ⟨w5.heap.size, 0, none⟩) 1 1) = w7 := ⟨_, rfl⟩
      have hzsw7 : w7.heap.size = w6.heap.size := by rw [← hw7]; simp
      have hCn : CS w7 w.heap.size w3.heap.size ⟨6, ys, [r], 0, []⟩ (.slice A3 n3 d3) (.slice (some ⟨w5.heap.size, 0, none⟩) 1 1) (.slice none 0 0) := by rw [← hw7]; exact hC.setA hov
      have hTn : TBlk 53 w7 w.heap.size #[.int .i64 0, .slice none 0 0, .slice none 0 0, .int .i64 0, .slice none 0 0] := by rw [← hw7]; exact hT.far (by omega)
      have hdn : Rd w7 base g A n c bs (p + 1 + 1 + m + 1) := by rw [← hw7]; exact hd.set (by omega) 2 _
      have hbn : ButG g w.heap.size w w7 := by rw [← hw7]; exact hbt.setHi (by omega) 2 _
      clear hC hT hd hbt
      have hC := hCn
      have hT := hTn
      have hd := hdn
      have hbt := hbn
      clear hCn hTn hdn hbn
      go_wp2_with fail
      clear st2 sf2 hw6 hw7 hov
      refine (pick base g n c (p + 1 + 1 + m + 1) A bs 4 _ hd (by omega)).mono ?_
      rintro e w8 ⟨t, rfl, ⟨-, ht⟩, hdn, hbn⟩
      obtain ⟨lt, ut⟩ := ht (by omega)
      clear ht hd
      have hd := hdn
      clear hdn
      have hszw8 := hbn.size
      have hCn : CS w8 w.heap.size w3.heap.size ⟨6, ys, [r], 0, []⟩ (.slice A3 n3 d3) (.slice (some ⟨w5.heap.size, 0, none⟩) 1 1) (.slice none 0 0) := hC.butG hbn hg (by omega)
      replace hT := hT.butG hbn (by omega)
      replace hbt := hbt.go hbn
      clear hC hbn
      have hC := hCn
      clear hCn
      have st3 : w8.cell? ⟨w3.heap.size, 3, none⟩ = some (.int .i64 0) := hC.blk.at_ 3 rfl
      have sf3 := hC.blk.frozen 3
      obtain ⟨w9, hw9⟩ : ∃ w9, w8.setCell ⟨w3.heap.size, 3, none⟩ (.int .i64 t) = w9 := ⟨_, rfl⟩
      have hzsw9 : w9.heap.size = w8.heap.size := by rw [← hw9]; simp
      have hCn : CS w9 w.heap.size w3.heap.size ⟨6, ys, [r], t, []⟩ (.slice A3 n3 d3) (.slice (some ⟨w5.heap.size, 0, none⟩) 1 1) (.slice none 0 0) := by rw [← hw9]; exact hC.bound t
      have hTn : TBlk 53 w9 w.heap.size #[.int .i64 0, .slice none 0 0, .slice none 0 0, .int .i64 0, .slice none 0 0] := by rw [← hw9]; exact hT.far (by omega)
      have hdn : Rd w9 base g A n c bs (p + 1 + 1 + m + 1 + 1) := by rw [← hw9]; exact hd.set (by omega) 3 _
      have hbn : ButG g w.heap.size w w9 := by rw [← hw9]; exact hbt.setHi (by omega) 3 _
      clear hC hT hd hbt
      have hC := hCn
      have hT := hTn
      have hd := hdn
      have hbt := hbn
      clear hCn hTn hdn hbn
      have z0 : w9.cell? ⟨w3.heap.size, 0, none⟩ = some (.int .i64 6) := hC.blk.at_ 0 rfl
      have z1 : w9.cell? ⟨w3.heap.size, 1, none⟩ = some (.slice A3 n3 d3) := hC.blk.at_ 1 rfl
      have z2 : w9.cell? ⟨w3.heap.size, 2, none⟩ = some (.slice (some ⟨w5.heap.size, 0, none⟩) 1 1) := hC.blk.at_ 2 rfl
      have z3 : w9.cell? ⟨w3.heap.size, 3, none⟩ = some (.int .i64 t) := hC.blk.at_ 3 rfl
      have z4 : w9.cell? ⟨w3.heap.size, 4, none⟩ = some (.slice none 0 0) := hC.blk.at_ 4 rfl
      have y0 : w9.cell? ⟨w.heap.size, 0, none⟩ = some (.int .i64 0) := hT.at_ 0 rfl
      have g0 := hT.frozen 0
      have y1 : w9.cell? ⟨w.heap.size, 1, none⟩ = some (.slice none 0 0) := hT.at_ 1 rfl
      have g1 := hT.frozen 1
      have y2 : w9.cell? ⟨w.heap.size, 2, none⟩ = some (.slice none 0 0) := hT.at_ 2 rfl
      have g2 := hT.frozen 2
      have y3 : w9.cell? ⟨w.heap.size, 3, none⟩ = some (.int .i64 0) := hT.at_ 3 rfl
      have g3 := hT.frozen 3
      have y4 : w9.cell? ⟨w.heap.size, 4, none⟩ = some (.slice none 0 0) := hT.at_ 4 rfl
      have g4 := hT.frozen 4
      have hF := Lib.hid (CS.finish hC hT rfl (by omega) hd hg hbt rfl)
      clear hC hT hbt
      have HVC := Lib.hid (show vconF ⟨6, ys, [r], t, []⟩ (m : Int) = true from vcon_of HGV.out (by show 1 ≤ ys.length; rw [← HN3.out]; exact hyl.1) (by show ys.length ≤ m; rw [← HN3.out]; exact hyl.2.2) hm4 (fit_6 (by omega) (by omega)))
      go_wp2_with fail
      have hvc := HVC.out
      generalize (((((w9.setCell ⟨w.heap.size, 0, none⟩ (.int .i64 6)).setCell ⟨w.heap.size, 1, none⟩ (.slice A3 n3 d3)).setCell ⟨w.heap.size, 2, none⟩ (.slice (some ⟨w5.heap.size, 0, none⟩) 1 1)).setCell ⟨w.heap.size, 3, none⟩ (.int .i64 t)).setCell ⟨w.heap.size, 4, none⟩ (.slice none 0 0)) = wf at hF ⊢
      obtain ⟨⟨t0, t1, t2, t3, t4⟩, ho, hrd, hbf⟩ := hF.out
      have hyv : 1 ≤ ys.length := by rw [← HN3.out]; exact hyl.1
      have hqq : (p + 1 + 1 + m + 1 + 1 : Nat) ≤ p + 200 := by omega
      first | exact bodyPost_ret (v := .agg #[.int .i64 6, .slice A3 n3 d3, .slice (some ⟨w5.heap.size, 0, none⟩) 1 1, .int .i64 t, .slice none 0 0]) (by simp [results, Try.results43, go_sem, t0, t1, t2, t3, t4]) rfl ⟨_, _, _, rfl, ho, hyv, ⟨by show ys.length ≤ 8; rw [← HN3.out]; omega, by show (1 : Nat) ≤ 8; omega, by show (0 : Nat) ≤ 8; omega, fun x hx => by simp at hx⟩, hvc, hqq, hrd, hbf⟩ | exact bodyPost_ret (v := .agg #[.int .i64 6, .slice A3 n3 d3, .slice (some ⟨w5.heap.size, 0, none⟩) 1 1, .int .i64 t, .slice none 0 0]) (by simp [results, Try.results43, go_sem, t0, t1, t2, t3, t4]) rfl ⟨_, rfl, _, ho, hyv, ⟨by show ys.length ≤ 8; rw [← HN3.out]; omega, by show (1 : Nat) ≤ 8; omega, by show (0 : Nat) ≤ 8; omega, fun x hx => by simp at hx⟩, hvc, _, hqq, hrd, hbf⟩
    · skip
      obtain ⟨wz, hwz⟩ : ∃ wz, w3.alloc (.cells #[.int .i64 0, .slice none 0 0, .slice none 0 0, .int .i64 0, .slice none 0 0] 53) = wz := ⟨_, rfl⟩
      have hbz : Below w3.heap.size w3 wz := by rw [← hwz]; exact b_alloc _ _
      have hzz : wz.heap.size = w3.heap.size + 1 := by rw [← hwz, size_alloc_]
      have hTz : TBlk 53 wz w3.heap.size #[.int .i64 0, .slice none 0 0, .slice none 0 0, .int .i64 0, .slice none 0 0] := by rw [← hwz]; exact TBlk.new _ _ _
      have hCz : CS wz w.heap.size w3.heap.size ⟨0, [], [], 0, []⟩ (.slice none 0 0) (.slice none 0 0) (.slice none 0 0) := ⟨hTz, (OwnI.stays 3).below _ _ _ _ _ hbz (OwnI.nil _ _), OwnI.nil _ _, OwnRows.nil _ _⟩
      have x0 : wz.cell? ⟨w3.heap.size, 0, none⟩ = some (.int .i64 0) := hTz.at_ 0 rfl
      have e0 := hTz.frozen 0
      have x1 : wz.cell? ⟨w3.heap.size, 1, none⟩ = some (.slice none 0 0) := hTz.at_ 1 rfl
      have e1 := hTz.frozen 1
      have x2 : wz.cell? ⟨w3.heap.size, 2, none⟩ = some (.slice none 0 0) := hTz.at_ 2 rfl
      have e2 := hTz.frozen 2
      have x3 : wz.cell? ⟨w3.heap.size, 3, none⟩ = some (.int .i64 0) := hTz.at_ 3 rfl
      have e3 := hTz.frozen 3
      have x4 : wz.cell? ⟨w3.heap.size, 4, none⟩ = some (.slice none 0 0) := hTz.at_ 4 rfl
      have e4 := hTz.frozen 4
      obtain ⟨w4, hw4⟩ : ∃ w4, (((((wz.setCell ⟨w3.heap.size, 0, none⟩ (.int .i64 6)).setCell ⟨w3.heap.size, 1, none⟩ (.slice A3 n3 d3)).setCell ⟨w3.heap.size, 2, none⟩ (.slice none 0 0)).setCell ⟨w3.heap.size, 3, none⟩ (.int .i64 0)).setCell ⟨w3.heap.size, 4, none⟩ (.slice none 0 0)) = w4 := ⟨_, rfl⟩
      have hov := (OwnI.stays 3).below _ _ _ _ _ hbz HOV.out
      have s1 := hCz.kind 6
      have s2 := s1.setV (OwnI.shuns (t := 53) (by decide) _ _ _ _ _ 0 _ _ _ hTz hov)
      have s3 := s2.setA (OwnI.nil _ _)
      have s4 := s3.bound 0
      have s5 := s4.setR (OwnRows.nil _ _)
      have hC : CS w4 w.heap.size w3.heap.size ⟨6, ys, [], 0, []⟩ (.slice A3 n3 d3) (.slice none 0 0) (.slice none 0 0) := by rw [← hw4]; exact s5
      have hbw : Below w3.heap.size w3 w4 := by rw [← hw4]; exact (((((hbz.setCell (Nat.le_refl _) _).setCell (Nat.le_refl _) _).setCell (Nat.le_refl _) _).setCell (Nat.le_refl _) _).setCell (Nat.le_refl _) _)
      have hz4 : w4.heap.size = w3.heap.size + 1 := by rw [← hw4]; simp [hzz]
      have hT : TBlk 53 w4 w.heap.size #[.int .i64 0, .slice none 0 0, .slice none 0 0, .int .i64 0, .slice none 0 0] := HT3.out.below_ hbw (by omega)
      have hd : Rd w4 base g A n c bs (p + 1 + 1 + m) := HD3.out.under hbw (by omega)
      have hbt : ButG g w.heap.size w w4 := HB3.out.go (below_butG hbw g)
      clear hbz hTz hCz s1 s2 s3 s4 s5 hov hbw
      have z0 : w4.cell? ⟨w3.heap.size, 0, none⟩ = some (.int .i64 6) := hC.blk.at_ 0 rfl
      have z1 : w4.cell? ⟨w3.heap.size, 1, none⟩ = some (.slice A3 n3 d3) := hC.blk.at_ 1 rfl
      have z2 : w4.cell? ⟨w3.heap.size, 2, none⟩ = some (.slice none 0 0) := hC.blk.at_ 2 rfl
      have z3 : w4.cell? ⟨w3.heap.size, 3, none⟩ = some (.int .i64 0) := hC.blk.at_ 3 rfl
      have z4 : w4.cell? ⟨w3.heap.size, 4, none⟩ = some (.slice none 0 0) := hC.blk.at_ 4 rfl
      go_wp2_with fail
      clear hwz hw4 x0 x1 x2 x3 x4 e0 e1 e2 e3 e4 z0 z1 z2 z3 z4
      refine (pick base g n c (p + 1 + 1 + m) A bs 6 _ hd (by omega)).mono ?_
      rintro e w5 ⟨r, rfl, ⟨-, hr⟩, hdn, hbn⟩
      obtain ⟨lr, ur⟩ := hr (by omega)
      clear hr hd
      have hd := hdn
      clear hdn
      have hszw5 := hbn.size
      have hCn : CS w5 w.heap.size w3.heap.size ⟨6, ys, [], 0, []⟩ (.slice A3 n3 d3) (.slice none 0 0) (.slice none 0 0) := hC.butG hbn hg (by omega)
      replace hT := hT.butG hbn (by omega)
      replace hbt := hbt.go hbn
      clear hC hbn
      have hC := hCn
      clear hCn
      obtain ⟨w6, hw6⟩ : ∃ w6, w5.alloc (.cells #[.int .i64 r] 3) = w6 := ⟨_, rfl⟩
      have hbn : Below w5.heap.size w5 w6 := by rw [← hw6]; exact b_alloc _ _
      have hzsw6 : w6.heap.size = w5.heap.size + 1 := by rw [← hw6, size_alloc_]
      have hov : OwnI 3 w6 w.heap.size (.slice (some ⟨w5.heap.size, 0, none⟩) 1 1) [r] := by rw [← hw6]; exact ⟨own_base (World.ownsRow_lit w5 #[.int .i64 r] 1 (Nat.le_refl _) (by decide) rfl) (by omega), by simp⟩
      have hCn : CS w6 w.heap.size w3.heap.size ⟨6, ys, [], 0, []⟩ (.slice A3 n3 d3) (.slice none 0 0) (.slice none 0 0) := hC.below hbn
      replace hT := hT.below_ hbn (by omega)
      replace hbt := hbt.go (below_butG hbn g)
      replace hd := hd.under hbn (by omega)
      clear hC hbn
      have hC := hCn
      clear hCn
      have st2 : w6.cell? ⟨w3.heap.size, 2, none⟩ = some (.slice none 0 0) := hC.blk.at_ 2 rfl
      have sf2 := hC.blk.frozen 2
      obtain ⟨w7, hw7⟩ : ∃ w7, w6.setCell ⟨w3.heap.size, 2, none⟩ (.slice (some ⟨w5.heap.size, 0, none⟩) 1 1) = w7 := ⟨_, rfl⟩
      have hzsw7 : w7.heap.size = w6.heap.size := by rw [← hw7]; simp
      have hCn : CS w7 w.heap.size w3.heap.size ⟨6, ys, [r], 0, []⟩ (.slice A3 n3 d3) (.slice (some ⟨w5.heap.size, 0, none⟩) 1 1) (.slice none 0 0) := by rw [← hw7]; exact hC.setA hov
      have hTn : TBlk 53 w7 w.heap.size #[.int .i64 0, .slice none 0 0, .slice none 0 0, .int .i64 0, .slice none 0 0] := by rw [← hw7]; exact hT.far (by omega)
      have hdn : Rd w7 base g A n c bs (p + 1 + 1 + m + 1) := by rw [← hw7]; exact hd.set (by omega) 2 _
      have hbn : ButG g w.heap.size w w7 := by rw [← hw7]; exact hbt.setHi (by omega) 2 _
      clear hC hT hd hbt
      have hC := hCn
      have hT := hTn
      have hd := hdn
      have hbt := hbn
      clear hCn hTn hdn hbn
      go_wp2_with fail
      clear st2 sf2 hw6 hw7 hov
      refine (pick base g n c (p + 1 + 1 + m + 1) A bs 4 _ hd (by omega)).mono ?_
      rintro e w8 ⟨t, rfl, ⟨-, ht⟩, hdn, hbn⟩
      obtain ⟨lt, ut⟩ := ht (by omega)
      clear ht hd
      have hd := hdn
      clear hdn
      have hszw8 := hbn.size
      have hCn : CS w8 w.heap.size w3.heap.size ⟨6, ys, [r], 0, []⟩ (.slice A3 n3 d3) (.slice (some ⟨w5.heap.size, 0, none⟩) 1 1) (.slice none 0 0) := hC.butG hbn hg (by omega)
      replace hT := hT.butG hbn (by omega)
      replace hbt := hbt.go hbn
      clear hC hbn
      have hC := hCn
      clear hCn
      have st3 : w8.cell? ⟨w3.heap.size, 3, none⟩ = some (.int .i64 0) := hC.blk.at_ 3 rfl
      have sf3 := hC.blk.frozen 3
      obtain ⟨w9, hw9⟩ : ∃ w9, w8.setCell ⟨w3.heap.size, 3, none⟩ (.int .i64 t) = w9 := ⟨_, rfl⟩
      have hzsw9 : w9.heap.size = w8.heap.size := by rw [← hw9]; simp
      have hCn : CS w9 w.heap.size w3.heap.size ⟨6, ys, [r], t, []⟩ (.slice A3 n3 d3) (.slice (some ⟨w5.heap.size, 0, none⟩) 1 1) (.slice none 0 0) := by rw [← hw9]; exact hC.bound t
      have hTn : TBlk 53 w9 w.heap.size #[.int .i64 0, .slice none 0 0, .slice none 0 0, .int .i64 0, .slice none 0 0] := by rw [← hw9]; exact hT.far (by omega)
      have hdn : Rd w9 base g A n c bs (p + 1 + 1 + m + 1 + 1) := by rw [← hw9]; exact hd.set (by omega) 3 _
      have hbn : ButG g w.heap.size w w9 := by rw [← hw9]; exact hbt.setHi (by omega) 3 _
      clear hC hT hd hbt
      have hC := hCn
      have hT := hTn
      have hd := hdn
      have hbt := hbn
      clear hCn hTn hdn hbn
      have z0 : w9.cell? ⟨w3.heap.size, 0, none⟩ = some (.int .i64 6) := hC.blk.at_ 0 rfl
      have z1 : w9.cell? ⟨w3.heap.size, 1, none⟩ = some (.slice A3 n3 d3) := hC.blk.at_ 1 rfl
      have z2 : w9.cell? ⟨w3.heap.size, 2, none⟩ = some (.slice (some ⟨w5.heap.size, 0, none⟩) 1 1) := hC.blk.at_ 2 rfl
      have z3 : w9.cell? ⟨w3.heap.size, 3, none⟩ = some (.int .i64 t) := hC.blk.at_ 3 rfl
      have z4 : w9.cell? ⟨w3.heap.size, 4, none⟩ = some (.slice none 0 0) := hC.blk.at_ 4 rfl
      have y0 : w9.cell? ⟨w.heap.size, 0, none⟩ = some (.int .i64 0) := hT.at_ 0 rfl
      have g0 := hT.frozen 0
      have y1 : w9.cell? ⟨w.heap.size, 1, none⟩ = some (.slice none 0 0) := hT.at_ 1 rfl
      have g1 := hT.frozen 1
      have y2 : w9.cell? ⟨w.heap.size, 2, none⟩ = some (.slice none 0 0) := hT.at_ 2 rfl
      have g2 := hT.frozen 2
      have y3 : w9.cell? ⟨w.heap.size, 3, none⟩ = some (.int .i64 0) := hT.at_ 3 rfl
      have g3 := hT.frozen 3
      have y4 : w9.cell? ⟨w.heap.size, 4, none⟩ = some (.slice none 0 0) := hT.at_ 4 rfl
      have g4 := hT.frozen 4
      have hF := Lib.hid (CS.finish hC hT rfl (by omega) hd hg hbt rfl)
      clear hC hT hbt
      have HVC := Lib.hid (show vconF ⟨6, ys, [r], t, []⟩ (m : Int) = true from vcon_of HGV.out (by show 1 ≤ ys.length; rw [← HN3.out]; exact hyl.1) (by show ys.length ≤ m; rw [← HN3.out]; exact hyl.2.2) hm4 (fit_6 (by omega) (by omega)))
      go_wp2_with fail
      have hvc := HVC.out
      generalize (((((w9.setCell ⟨w.heap.size, 0, none⟩ (.int .i64 6)).setCell ⟨w.heap.size, 1, none⟩ (.slice A3 n3 d3)).setCell ⟨w.heap.size, 2, none⟩ (.slice (some ⟨w5.heap.size, 0, none⟩) 1 1)).setCell ⟨w.heap.size, 3, none⟩ (.int .i64 t)).setCell ⟨w.heap.size, 4, none⟩ (.slice none 0 0)) = wf at hF ⊢
      obtain ⟨⟨t0, t1, t2, t3, t4⟩, ho, hrd, hbf⟩ := hF.out
      have hyv : 1 ≤ ys.length := by rw [← HN3.out]; exact hyl.1
      have hqq : (p + 1 + 1 + m + 1 + 1 : Nat) ≤ p + 200 := by omega
      first | exact bodyPost_ret (v := .agg #[.int .i64 6, .slice A3 n3 d3, .slice (some ⟨w5.heap.size, 0, none⟩) 1 1, .int .i64 t, .slice none 0 0]) (by simp [results, Try.results43, go_sem, t0, t1, t2, t3, t4]) rfl ⟨_, _, _, rfl, ho, hyv, ⟨by show ys.length ≤ 8; rw [← HN3.out]; omega, by show (1 : Nat) ≤ 8; omega, by show (0 : Nat) ≤ 8; omega, fun x hx => by simp at hx⟩, hvc, hqq, hrd, hbf⟩ | exact bodyPost_ret (v := .agg #[.int .i64 6, .slice A3 n3 d3, .slice (some ⟨w5.heap.size, 0, none⟩) 1 1, .int .i64 t, .slice none 0 0]) (by simp [results, Try.results43, go_sem, t0, t1, t2, t3, t4]) rfl ⟨_, rfl, _, ho, hyv, ⟨by show ys.length ≤ 8; rw [← HN3.out]; omega, by show (1 : Nat) ≤ 8; omega, by show (0 : Nat) ≤ 8; omega, fun x hx => by simp at hx⟩, hvc, _, hqq, hrd, hbf⟩
  · subst hk
    cases t1 : decide ((m : Int) < 2)
    · skip
      obtain ⟨wz, hwz⟩ : ∃ wz, w3.alloc (.cells #[.int .i64 0, .slice none 0 0, .slice none 0 0, .int .i64 0, .slice none 0 0] 53) = wz := ⟨_, rfl⟩
      have hbz : Below w3.heap.size w3 wz := by rw [← hwz]; exact b_alloc _ _
      have hzz : wz.heap.size = w3.heap.size + 1 := by rw [← hwz, size_alloc_]
      have hTz : TBlk 53 wz w3.heap.size #[.int .i64 0, .slice none 0 0, .slice none 0 0, .int .i64 0, .slice none 0 0] := by rw [← hwz]; exact TBlk.new _ _ _
      have hCz : CS wz w.heap.size w3.heap.size ⟨0, [], [], 0, []⟩ (.slice none 0 0) (.slice none 0 0) (.slice none 0 0) := ⟨hTz, (OwnI.stays 3).below _ _ _ _ _ hbz (OwnI.nil _ _), OwnI.nil _ _, OwnRows.nil _ _⟩
      have x0 : wz.cell? ⟨w3.heap.size, 0, none⟩ = some (.int .i64 0) := hTz.at_ 0 rfl
      have e0 := hTz.frozen 0
      have x1 : wz.cell? ⟨w3.heap.size, 1, none⟩ = some (.slice none 0 0) := hTz.at_ 1 rfl
      have e1 := hTz.frozen 1
      have x2 : wz.cell? ⟨w3.heap.size, 2, none⟩ = some (.slice none 0 0) := hTz.at_ 2 rfl
      have e2 := hTz.frozen 2
      have x3 : wz.cell? ⟨w3.heap.size, 3, none⟩ = some (.int .i64 0) := hTz.at_ 3 rfl
      have e3 := hTz.frozen 3
      have x4 : wz.cell? ⟨w3.heap.size, 4, none⟩ = some (.slice none 0 0) := hTz.at_ 4 rfl
      have e4 := hTz.frozen 4
      obtain ⟨w4, hw4⟩ : ∃ w4, (((((wz.setCell ⟨w3.heap.size, 0, none⟩ (.int .i64 7)).setCell ⟨w3.heap.size, 1, none⟩ (.slice A3 n3 d3)).setCell ⟨w3.heap.size, 2, none⟩ (.slice none 0 0)).setCell ⟨w3.heap.size, 3, none⟩ (.int .i64 0)).setCell ⟨w3.heap.size, 4, none⟩ (.slice none 0 0)) = w4 := ⟨_, rfl⟩
      have hov := (OwnI.stays 3).below _ _ _ _ _ hbz HOV.out
      have s1 := hCz.kind 7
      have s2 := s1.setV (OwnI.shuns (t := 53) (by decide) _ _ _ _ _ 0 _ _ _ hTz hov)
      have s3 := s2.setA (OwnI.nil _ _)
      have s4 := s3.bound 0
      have s5 := s4.setR (OwnRows.nil _ _)
      have hC : CS w4 w.heap.size w3.heap.size ⟨7, ys, [], 0, []⟩ (.slice A3 n3 d3) (.slice none 0 0) (.slice none 0 0) := by rw [← hw4]; exact s5
      have hbw : Below w3.heap.size w3 w4 := by rw [← hw4]; exact (((((hbz.setCell (Nat.le_refl _) _).setCell (Nat.le_refl _) _).setCell (Nat.le_refl _) _).setCell (Nat.le_refl _) _).setCell (Nat.le_refl _) _)
      have hz4 : w4.heap.size = w3.heap.size + 1 := by rw [← hw4]; simp [hzz]
      have hT : TBlk 53 w4 w.heap.size #[.int .i64 0, .slice none 0 0, .slice none 0 0, .int .i64 0, .slice none 0 0] := HT3.out.below_ hbw (by omega)
      have hd : Rd w4 base g A n c bs (p + 1 + 1 + m) := HD3.out.under hbw (by omega)
      have hbt : ButG g w.heap.size w w4 := HB3.out.go (below_butG hbw g)
      clear hbz hTz hCz s1 s2 s3 s4 s5 hov hbw
      have z0 : w4.cell? ⟨w3.heap.size, 0, none⟩ = some (.int .i64 7) := hC.blk.at_ 0 rfl
      have z1 : w4.cell? ⟨w3.heap.size, 1, none⟩ = some (.slice A3 n3 d3) := hC.blk.at_ 1 rfl
      have z2 : w4.cell? ⟨w3.heap.size, 2, none⟩ = some (.slice none 0 0) := hC.blk.at_ 2 rfl
      have z3 : w4.cell? ⟨w3.heap.size, 3, none⟩ = some (.int .i64 0) := hC.blk.at_ 3 rfl
      have z4 : w4.cell? ⟨w3.heap.size, 4, none⟩ = some (.slice none 0 0) := hC.blk.at_ 4 rfl
      go_wp2_with fail
      clear hwz hw4 x0 x1 x2 x3 x4 e0 e1 e2 e3 e4 z0 z1 z2 z3 z4
      have htx := Lib.hid hC.blk
      have hvv := Lib.hid hC.vars
      have HT := Lib.hid hT
      have HVB := Lib.hid (show ∀ b, (Value.slice A3 n3 d3).ownBlock = some b → b < w4.heap.size from fun b hb => (hC.vars.1.lt b hb).2)
      have hz4a : w3.heap.size < w4.heap.size := by omega
      clear hC hT hz4
      go_loopw [9] (fun i wr => ∃ (j q : Nat) (al : List Int) (A2 : Option Addr) (d2 : Nat), j ≤ (2 * n3) ∧ i = .int .i64 j ∧ Hid (al.length = j) ∧ Hid (∀ x ∈ al, 0 ≤ x ∧ x ≤ 3) ∧ Hid (TBlk 53 wr w3.heap.size #[.int .i64 7, .slice A3 n3 d3, .slice A2 j d2, .int .i64 0, .slice none 0 0]) ∧ Hid (OwnI 3 wr w4.heap.size (.slice A2 j d2) al) ∧ Hid (OwnI 3 wr w.heap.size (.slice A3 n3 d3) ys) ∧ Hid (TBlk 53 wr w.heap.size #[.int .i64 0, .slice none 0 0, .slice none 0 0, .int .i64 0, .slice none 0 0]) ∧ q ≤ p + 6 + 2 * j ∧ Rd wr base g A n c bs q ∧ ButG g w.heap.size w wr ∧ w4.heap.size ≤ wr.heap.size) (fun i _ => (2 * n3) - (intOf i).toNat)
      case atStart => exact ⟨0, _, [], none, 0, by omega, rfl, Lib.hid rfl, Lib.hid (fun x hx => by simp at hx), htx, Lib.hid (OwnI.nil _ _), hvv, HT, by omega, hd, hbt, Nat.le_refl _⟩
      case round =>
        obtain ⟨j, q, al, A2, d2, hj, rfl, hl, hab, htx2, hal2, hvv2, hT2, hq, hd2, hbt2, hxw⟩ := hrel
        clear htx hvv HT hd hbt
        rename World => wr
        have hzb := hbt2.size
        have hxw2 : w3.heap.size < wr.heap.size := by omega
        by_cases hlt : j < (2 * n3)
        · have a2 : wr.cell? ⟨w3.heap.size, 2, none⟩ = some (.slice A2 j d2) := htx2.out.at_ 2 rfl
          have hbx : Below wr.heap.size wr wr.drew := below_drewN (Below.refl _ _) 1
          have ha2 : wr.drew.cell? ⟨w3.heap.size, 2, none⟩ = some (.slice A2 j d2) := (hbx.cell (p := ⟨w3.heap.size, 2, none⟩) hxw2).trans a2
          have hdx := hd2.under hbx (by omega)
          have hN6 : wr.drew.heap.size = wr.heap.size := rfl
          go_wp2_with fail
          go_region_law (first
            | (refine step_append_any (by rfl) _ _ 23 (by rfl) w4.heap.size 3 i0 _ 1 8 Try.underlying23 hi0 hz0 hz1 hz2 rfl (by omega) (.slice A2 j d2) j (al.map (.int .i64)) (by rfl) ho5 (some ⟨w5.heap.size, 0, none⟩) 1 [.int .i64 x] (by exact ⟨_, rfl, .inr ⟨_, rfl, rfl, cell_one_new _ _ _⟩⟩) (by simp [Value.oneCell']) (by unfold maxLen; omega) (by omega) (by rw [size_alloc_]; omega) ?_
               intro v1 w6 hown hbw hgr _
               obtain ⟨A6, d6, rfl, -⟩ := IntR.of_own (xs := al ++ [x]) (by simpa using hown) (by omega)
               have hbw2 : Below w5.heap.size w5 (w5.alloc (.cells #[.int .i64 x] 3)) := b_alloc _ _
               have t6 := ((((htx2.out.below_ hbx hxw2).butG hb5 (by omega)).below_ hbw2 (by omega)).below_ hbw (by omega))
               have a6 : w6.cell? ⟨w3.heap.size, 2, none⟩ = some (.slice A2 j d2) := t6.at_ 2 rfl
               have f6 := t6.frozen 2
               have ov6 := OwnI.under ((OwnI.stays 3).below _ _ _ _ _ hbw2 (((OwnI.stays 3).below _ _ _ _ _ hbx hvv2.out).butG hb5 hg)) hbw HVB.out
               have tB6 := ((((hT2.out.below_ hbx (by omega)).butG hb5 (by omega)).below_ hbw2 (by omega)).below_ hbw (by omega))
               have r6 := (hd5.under hbw2 (by omega)).under hbw (by omega)
               have bt6 := (((hbt2.go (below_butG hbx g)).go hb5).go (below_butG hbw2 g)).trans (below_butG (hbw.mono (by omega)) g)
               have hO6 : OwnI 3 w6 w4.heap.size (.slice A6 (j + 1) d6) (al ++ [x]) := ⟨by simpa [hl.out] using hown, by rw [List.length_append, hl.out]; simp; omega⟩)
            | (go_simp
               go_at_call 13
               refine (pick base g n c q A bs 4 _ hdx (by omega)).mono ?_
               rintro e w5 ⟨x, rfl, ⟨-, hxm⟩, hd5, hb5⟩
               have HXR := Lib.hid (show 0 ≤ x ∧ x ≤ 3 by have := hxm (by omega); omega)
               clear hxm
               have hz5 := hb5.size
               rw [hN6] at hz5
               have ho5 : (w5.alloc (.cells #[.int .i64 x] 3)).ownsRow w4.heap.size 3 1 (.slice A2 j d2) j (al.map (.int .i64)) := by
                 have := own_below (own_butG (own_below hal2.out.1 hbx) hb5 (by omega)) (b_alloc w5 (.cells #[.int .i64 x] 3))
                 rw [hl.out] at this; exact this
               have a5 : w5.cell? ⟨w3.heap.size, 2, none⟩ = some (.slice A2 j d2) := ((htx2.out.below_ hbx hxw2).butG hb5 (by omega)).at_ 2 rfl
               have a5' : (w5.alloc (.cells #[.int .i64 x] 3)).cell? ⟨w3.heap.size, 2, none⟩ = some (.slice A2 j d2) := (((htx2.out.below_ hbx hxw2).butG hb5 (by omega)).below_ (b_alloc w5 (.cells #[.int .i64 x] 3)) (by omega)).at_ 2 rfl))
          all_goals
            have hv6 := hown
            have z6 := hbw.size
            have z7 := hbw2.size
            have T6 := Lib.hid t6
            have V6 := Lib.hid ov6
            have B6 := Lib.hid tB6
            have O6 := Lib.hid hO6
            clear t6 ov6 tB6 hO6 hown hv6 hgr hbw ho5
            go_wp2_with fail
            go_roundw
            case rel =>
              refine ⟨j + 1, q + 1, al ++ [x], A6, d6, by omega, by go_num, Lib.hid (by rw [List.length_append, hl.out]; rfl), Lib.hid (fun y hy => by
                rcases List.mem_append.1 hy with h | h
                · exact hab.out y h
                · rw [List.mem_singleton.1 h]; exact HXR.out), Lib.hid (T6.out.store 2 _), Lib.hid (O6.out.shunC T6.out), Lib.hid (V6.out.shunC T6.out), Lib.hid (B6.out.far (by omega)), by omega, r6.set (by omega) 2 _, bt6.setHi (by omega) 2 _, by simp; omega⟩
            case measure => simp [intOf]; omega
        · have hjn := Lib.hid (show j = (2 * n3) by omega)
          have hC : CS wr w.heap.size w3.heap.size ⟨7, ys, al, 0, []⟩ (.slice A3 n3 d3) (.slice A2 j d2) (.slice none 0 0) := ⟨htx2.out, hvv2.out, (OwnI.stays 3).base _ _ _ _ _ (by omega) hal2.out, OwnRows.nil _ _⟩
          have hT := hT2.out
          have hd := hd2
          have hbt := hbt2
          clear hd2 hbt2 htx2 hal2 hvv2 hT2
          have z0 : wr.cell? ⟨w3.heap.size, 0, none⟩ = some (.int .i64 7) := hC.blk.at_ 0 rfl
          have z1 : wr.cell? ⟨w3.heap.size, 1, none⟩ = some (.slice A3 n3 d3) := hC.blk.at_ 1 rfl
          have z2 : wr.cell? ⟨w3.heap.size, 2, none⟩ = some (.slice A2 j d2) := hC.blk.at_ 2 rfl
          have z3 : wr.cell? ⟨w3.heap.size, 3, none⟩ = some (.int .i64 0) := hC.blk.at_ 3 rfl
          have z4 : wr.cell? ⟨w3.heap.size, 4, none⟩ = some (.slice none 0 0) := hC.blk.at_ 4 rfl
          go_wp2_with fail
          clear z0 z1 z2 z3 z4
          refine (pick base g n c (q) A bs 4 _ hd (by omega)).mono ?_
          rintro e w7 ⟨r, rfl, ⟨-, hr⟩, hdn, hbn⟩
          obtain ⟨lr, ur⟩ := hr (by omega)
          clear hr hd
          have hd := hdn
          clear hdn
          have hszw7 := hbn.size
          have hCn : CS w7 w.heap.size w3.heap.size ⟨7, ys, al, 0, []⟩ (.slice A3 n3 d3) (.slice A2 j d2) (.slice none 0 0) := hC.butG hbn hg (by omega)
          replace hT := hT.butG hbn (by omega)
          replace hbt := hbt.go hbn
          clear hC hbn
          have hC := hCn
          clear hCn
          obtain ⟨bd, hbd⟩ : ∃ bd, 1 + r = bd := ⟨_, rfl⟩
          have st3 : w7.cell? ⟨w3.heap.size, 3, none⟩ = some (.int .i64 0) := hC.blk.at_ 3 rfl
          have sf3 := hC.blk.frozen 3
          obtain ⟨w8, hw8⟩ : ∃ w8, w7.setCell ⟨w3.heap.size, 3, none⟩ (.int .i64 bd) = w8 := ⟨_, rfl⟩
          have hzsw8 : w8.heap.size = w7.heap.size := by rw [← hw8]; simp
          have hCn : CS w8 w.heap.size w3.heap.size ⟨7, ys, al, bd, []⟩ (.slice A3 n3 d3) (.slice A2 j d2) (.slice none 0 0) := by rw [← hw8]; exact hC.bound bd
          have hTn : TBlk 53 w8 w.heap.size #[.int .i64 0, .slice none 0 0, .slice none 0 0, .int .i64 0, .slice none 0 0] := by rw [← hw8]; exact hT.far (by omega)
          have hdn : Rd w8 base g A n c bs (q + 1) := by rw [← hw8]; exact hd.set (by omega) 3 _
          have hbn : ButG g w.heap.size w w8 := by rw [← hw8]; exact hbt.setHi (by omega) 3 _
          clear hC hT hd hbt
          have hC := hCn
          have hT := hTn
          have hd := hdn
          have hbt := hbn
          clear hCn hTn hdn hbn
          have z0 : w8.cell? ⟨w3.heap.size, 0, none⟩ = some (.int .i64 7) := hC.blk.at_ 0 rfl
          have z1 : w8.cell? ⟨w3.heap.size, 1, none⟩ = some (.slice A3 n3 d3) := hC.blk.at_ 1 rfl
          have z2 : w8.cell? ⟨w3.heap.size, 2, none⟩ = some (.slice A2 j d2) := hC.blk.at_ 2 rfl
          have z3 : w8.cell? ⟨w3.heap.size, 3, none⟩ = some (.int .i64 bd) := hC.blk.at_ 3 rfl
          have z4 : w8.cell? ⟨w3.heap.size, 4, none⟩ = some (.slice none 0 0) := hC.blk.at_ 4 rfl
          have y0 : w8.cell? ⟨w.heap.size, 0, none⟩ = some (.int .i64 0) := hT.at_ 0 rfl
          have g0 := hT.frozen 0
          have y1 : w8.cell? ⟨w.heap.size, 1, none⟩ = some (.slice none 0 0) := hT.at_ 1 rfl
          have g1 := hT.frozen 1
          have y2 : w8.cell? ⟨w.heap.size, 2, none⟩ = some (.slice none 0 0) := hT.at_ 2 rfl
          have g2 := hT.frozen 2
          have y3 : w8.cell? ⟨w.heap.size, 3, none⟩ = some (.int .i64 0) := hT.at_ 3 rfl
          have g3 := hT.frozen 3
          have y4 : w8.cell? ⟨w.heap.size, 4, none⟩ = some (.slice none 0 0) := hT.at_ 4 rfl
          have g4 := hT.frozen 4
          have hF := Lib.hid (CS.finish hC hT rfl (by omega) hd hg hbt rfl)
          clear hC hT hbt
          have HVC := Lib.hid (show vconF ⟨7, ys, al, bd, []⟩ (m : Int) = true from vcon_of HGV.out (by show 1 ≤ ys.length; rw [← HN3.out]; exact hyl.1) (by show ys.length ≤ m; rw [← HN3.out]; exact hyl.2.2) hm4 (fit_7 (by rw [hl.out, hjn.out, HN3.out]) (by rw [← HN3.out]; exact hyl.2.1) (fun x hx => by have := hab.out x hx; omega) (by omega)))
          go_wp2_with fail
          have hvc := HVC.out
          generalize (((((w8.setCell ⟨w.heap.size, 0, none⟩ (.int .i64 7)).setCell ⟨w.heap.size, 1, none⟩ (.slice A3 n3 d3)).setCell ⟨w.heap.size, 2, none⟩ (.slice A2 j d2)).setCell ⟨w.heap.size, 3, none⟩ (.int .i64 bd)).setCell ⟨w.heap.size, 4, none⟩ (.slice none 0 0)) = wf at hF ⊢
          obtain ⟨⟨t0, t1, t2, t3, t4⟩, ho, hrd, hbf⟩ := hF.out
          have hyv : 1 ≤ ys.length := by rw [← HN3.out]; exact hyl.1
          have hqq : (q + 1 : Nat) ≤ p + 200 := by omega
          first | exact bodyPost_ret (v := .agg #[.int .i64 7, .slice A3 n3 d3, .slice A2 j d2, .int .i64 bd, .slice none 0 0]) (by simp [results, Try.results43, go_sem, t0, t1, t2, t3, t4]) rfl ⟨_, _, _, rfl, ho, hyv, ⟨by show ys.length ≤ 8; rw [← HN3.out]; omega, by show al.length ≤ 8; rw [hl.out]; omega, by show (0 : Nat) ≤ 8; omega, fun x hx => by simp at hx⟩, hvc, hqq, hrd, hbf⟩ | exact bodyPost_ret (v := .agg #[.int .i64 7, .slice A3 n3 d3, .slice A2 j d2, .int .i64 bd, .slice none 0 0]) (by simp [results, Try.results43, go_sem, t0, t1, t2, t3, t4]) rfl ⟨_, rfl, _, ho, hyv, ⟨by show ys.length ≤ 8; rw [← HN3.out]; omega, by show al.length ≤ 8; rw [hl.out]; omega, by show (0 : Nat) ≤ 8; omega, fun x hx => by simp at hx⟩, hvc, _, hqq, hrd, hbf⟩
    · skip
      obtain ⟨wz, hwz⟩ : ∃ wz, w3.alloc (.cells #[.int .i64 0, .slice none 0 0, .slice none 0 0, .int .i64 0, .slice none 0 0] 53) = wz := ⟨_, rfl⟩
      have hbz : Below w3.heap.size w3 wz := by rw [← hwz]; exact b_alloc _ _
      have hzz : wz.heap.size = w3.heap.size + 1 := by rw [← hwz, size_alloc_]
      have hTz : TBlk 53 wz w3.heap.size #[.int .i64 0, .slice none 0 0, .slice none 0 0, .int .i64 0, .slice none 0 0] := by rw [← hwz]; exact TBlk.new _ _ _
      have hCz : CS wz w.heap.size w3.heap.size ⟨0, [], [], 0, []⟩ (.slice none 0 0) (.slice none 0 0) (.slice none 0 0) := ⟨hTz, (OwnI.stays 3).below _ _ _ _ _ hbz (OwnI.nil _ _), OwnI.nil _ _, OwnRows.nil _ _⟩
      have x0 : wz.cell? ⟨w3.heap.size, 0, none⟩ = some (.int .i64 0) := hTz.at_ 0 rfl
      have e0 := hTz.frozen 0
      have x1 : wz.cell? ⟨w3.heap.size, 1, none⟩ = some (.slice none 0 0) := hTz.at_ 1 rfl
      have e1 := hTz.frozen 1
      have x2 : wz.cell? ⟨w3.heap.size, 2, none⟩ = some (.slice none 0 0) := hTz.at_ 2 rfl
      have e2 := hTz.frozen 2
      have x3 : wz.cell? ⟨w3.heap.size, 3, none⟩ = some (.int .i64 0) := hTz.at_ 3 rfl
      have e3 := hTz.frozen 3
      have x4 : wz.cell? ⟨w3.heap.size, 4, none⟩ = some (.slice none 0 0) := hTz.at_ 4 rfl
      have e4 := hTz.frozen 4
      obtain ⟨w4, hw4⟩ : ∃ w4, (((((wz.setCell ⟨w3.heap.size, 0, none⟩ (.int .i64 7)).setCell ⟨w3.heap.size, 1, none⟩ (.slice A3 n3 d3)).setCell ⟨w3.heap.size, 2, none⟩ (.slice none 0 0)).setCell ⟨w3.heap.size, 3, none⟩ (.int .i64 0)).setCell ⟨w3.heap.size, 4, none⟩ (.slice none 0 0)) = w4 := ⟨_, rfl⟩
      have hov := (OwnI.stays 3).below _ _ _ _ _ hbz HOV.out
      have s1 := hCz.kind 7
      have s2 := s1.setV (OwnI.shuns (t := 53) (by decide) _ _ _ _ _ 0 _ _ _ hTz hov)
      have s3 := s2.setA (OwnI.nil _ _)
      have s4 := s3.bound 0
      have s5 := s4.setR (OwnRows.nil _ _)
      have hC : CS w4 w.heap.size w3.heap.size ⟨7, ys, [], 0, []⟩ (.slice A3 n3 d3) (.slice none 0 0) (.slice none 0 0) := by rw [← hw4]; exact s5
      have hbw : Below w3.heap.size w3 w4 := by rw [← hw4]; exact (((((hbz.setCell (Nat.le_refl _) _).setCell (Nat.le_refl _) _).setCell (Nat.le_refl _) _).setCell (Nat.le_refl _) _).setCell (Nat.le_refl _) _)
      have hz4 : w4.heap.size = w3.heap.size + 1 := by rw [← hw4]; simp [hzz]
      have hT : TBlk 53 w4 w.heap.size #[.int .i64 0, .slice none 0 0, .slice none 0 0, .int .i64 0, .slice none 0 0] := HT3.out.below_ hbw (by omega)
      have hd : Rd w4 base g A n c bs (p + 1 + 1 + m) := HD3.out.under hbw (by omega)
      have hbt : ButG g w.heap.size w w4 := HB3.out.go (below_butG hbw g)
      clear hbz hTz hCz s1 s2 s3 s4 s5 hov hbw
      have z0 : w4.cell? ⟨w3.heap.size, 0, none⟩ = some (.int .i64 7) := hC.blk.at_ 0 rfl
      have z1 : w4.cell? ⟨w3.heap.size, 1, none⟩ = some (.slice A3 n3 d3) := hC.blk.at_ 1 rfl
      have z2 : w4.cell? ⟨w3.heap.size, 2, none⟩ = some (.slice none 0 0) := hC.blk.at_ 2 rfl
      have z3 : w4.cell? ⟨w3.heap.size, 3, none⟩ = some (.int .i64 0) := hC.blk.at_ 3 rfl
      have z4 : w4.cell? ⟨w3.heap.size, 4, none⟩ = some (.slice none 0 0) := hC.blk.at_ 4 rfl
      go_wp2_with fail
      clear hwz hw4 x0 x1 x2 x3 x4 e0 e1 e2 e3 e4 z0 z1 z2 z3 z4
      have htx := Lib.hid hC.blk
      have hvv := Lib.hid hC.vars
      have HT := Lib.hid hT
      have HVB := Lib.hid (show ∀ b, (Value.slice A3 n3 d3).ownBlock = some b → b < w4.heap.size from fun b hb => (hC.vars.1.lt b hb).2)
      have hz4a : w3.heap.size < w4.heap.size := by omega
      clear hC hT hz4
      go_loopw [9] (fun i wr => ∃ (j q : Nat) (al : List Int) (A2 : Option Addr) (d2 : Nat), j ≤ (2 * n3) ∧ i = .int .i64 j ∧ Hid (al.length = j) ∧ Hid (∀ x ∈ al, 0 ≤ x ∧ x ≤ 3) ∧ Hid (TBlk 53 wr w3.heap.size #[.int .i64 7, .slice A3 n3 d3, .slice A2 j d2, .int .i64 0, .slice none 0 0]) ∧ Hid (OwnI 3 wr w4.heap.size (.slice A2 j d2) al) ∧ Hid (OwnI 3 wr w.heap.size (.slice A3 n3 d3) ys) ∧ Hid (TBlk 53 wr w.heap.size #[.int .i64 0, .slice none 0 0, .slice none 0 0, .int .i64 0, .slice none 0 0]) ∧ q ≤ p + 6 + 2 * j ∧ Rd wr base g A n c bs q ∧ ButG g w.heap.size w wr ∧ w4.heap.size ≤ wr.heap.size) (fun i _ => (2 * n3) - (intOf i).toNat)
      case atStart => exact ⟨0, _, [], none, 0, by omega, rfl, Lib.hid rfl, Lib.hid (fun x hx => by simp at hx), htx, Lib.hid (OwnI.nil _ _), hvv, HT, by omega, hd, hbt, Nat.le_refl _⟩
      case round =>
        obtain ⟨j, q, al, A2, d2, hj, rfl, hl, hab, htx2, hal2, hvv2, hT2, hq, hd2, hbt2, hxw⟩ := hrel
        clear htx hvv HT hd hbt
        rename World => wr
        have hzb := hbt2.size
        have hxw2 : w3.heap.size < wr.heap.size := by omega
        by_cases hlt : j < (2 * n3)
        · have a2 : wr.cell? ⟨w3.heap.size, 2, none⟩ = some (.slice A2 j d2) := htx2.out.at_ 2 rfl
          have hbx : Below wr.heap.size wr wr.drew := below_drewN (Below.refl _ _) 1
          have ha2 : wr.drew.cell? ⟨w3.heap.size, 2, none⟩ = some (.slice A2 j d2) := (hbx.cell (p := ⟨w3.heap.size, 2, none⟩) hxw2).trans a2
          have hdx := hd2.under hbx (by omega)
          have hN6 : wr.drew.heap.size = wr.heap.size := rfl
          go_wp2_with fail
          go_region_law (first
            | (refine step_append_any (by rfl) _ _ 23 (by rfl) w4.heap.size 3 i0 _ 1 8 Try.underlying23 hi0 hz0 hz1 hz2 rfl (by omega) (.slice A2 j d2) j (al.map (.int .i64)) (by rfl) ho5 (some ⟨w5.heap.size, 0, none⟩) 1 [.int .i64 x] (by exact ⟨_, rfl, .inr ⟨_, rfl, rfl, cell_one_new _ _ _⟩⟩) (by simp [Value.oneCell']) (by unfold maxLen; omega) (by omega) (by rw [size_alloc_]; omega) ?_
               intro v1 w6 hown hbw hgr _
               obtain ⟨A6, d6, rfl, -⟩ := IntR.of_own (xs := al ++ [x]) (by simpa using hown) (by omega)
               have hbw2 : Below w5.heap.size w5 (w5.alloc (.cells #[.int .i64 x] 3)) := b_alloc _ _
               have t6 := ((((htx2.out.below_ hbx hxw2).butG hb5 (by omega)).below_ hbw2 (by omega)).below_ hbw (by omega))
               have a6 : w6.cell? ⟨w3.heap.size, 2, none⟩ = some (.slice A2 j d2) := t6.at_ 2 rfl
               have f6 := t6.frozen 2
               have ov6 := OwnI.under ((OwnI.stays 3).below _ _ _ _ _ hbw2 (((OwnI.stays 3).below _ _ _ _ _ hbx hvv2.out).butG hb5 hg)) hbw HVB.out
               have tB6 := ((((hT2.out.below_ hbx (by omega)).butG hb5 (by omega)).below_ hbw2 (by omega)).below_ hbw (by omega))
               have r6 := (hd5.under hbw2 (by omega)).under hbw (by omega)
               have bt6 := (((hbt2.go (below_butG hbx g)).go hb5).go (below_butG hbw2 g)).trans (below_butG (hbw.mono (by omega)) g)
               have hO6 : OwnI 3 w6 w4.heap.size (.slice A6 (j + 1) d6) (al ++ [x]) := ⟨by simpa [hl.out] using hown, by rw [List.length_append, hl.out]; simp; omega⟩)
            | (go_simp
               go_at_call 13
               refine (pick base g n c q A bs 4 _ hdx (by omega)).mono ?_
               rintro e w5 ⟨x, rfl, ⟨-, hxm⟩, hd5, hb5⟩
               have HXR := Lib.hid (show 0 ≤ x ∧ x ≤ 3 by have := hxm (by omega); omega)
               clear hxm
               have hz5 := hb5.size
               rw [hN6] at hz5
               have ho5 : (w5.alloc (.cells #[.int .i64 x] 3)).ownsRow w4.heap.size 3 1 (.slice A2 j d2) j (al.map (.int .i64)) := by
                 have := own_below (own_butG (own_below hal2.out.1 hbx) hb5 (by omega)) (b_alloc w5 (.cells #[.int .i64 x] 3))
                 rw [hl.out] at this; exact this
               have a5 : w5.cell? ⟨w3.heap.size, 2, none⟩ = some (.slice A2 j d2) := ((htx2.out.below_ hbx hxw2).butG hb5 (by omega)).at_ 2 rfl
               have a5' : (w5.alloc (.cells #[.int .i64 x] 3)).cell? ⟨w3.heap.size, 2, none⟩ = some (.slice A2 j d2) := (((htx2.out.below_ hbx hxw2).butG hb5 (by omega)).below_ (b_alloc w5 (.cells #[.int .i64 x] 3)) (by omega)).at_ 2 rfl))
          all_goals
            have hv6 := hown
            have z6 := hbw.size
            have z7 := hbw2.size
            have T6 := Lib.hid t6
            have V6 := Lib.hid ov6
            have B6 := Lib.hid tB6
            have O6 := Lib.hid hO6
            clear t6 ov6 tB6 hO6 hown hv6 hgr hbw ho5
            go_wp2_with fail
            go_roundw
            case rel =>
              refine ⟨j + 1, q + 1, al ++ [x], A6, d6, by omega, by go_num, Lib.hid (by rw [List.length_append, hl.out]; rfl), Lib.hid (fun y hy => by
                rcases List.mem_append.1 hy with h | h
                · exact hab.out y h
                · rw [List.mem_singleton.1 h]; exact HXR.out), Lib.hid (T6.out.store 2 _), Lib.hid (O6.out.shunC T6.out), Lib.hid (V6.out.shunC T6.out), Lib.hid (B6.out.far (by omega)), by omega, r6.set (by omega) 2 _, bt6.setHi (by omega) 2 _, by simp; omega⟩
            case measure => simp [intOf]; omega
        · have hjn := Lib.hid (show j = (2 * n3) by omega)
          have hC : CS wr w.heap.size w3.heap.size ⟨7, ys, al, 0, []⟩ (.slice A3 n3 d3) (.slice A2 j d2) (.slice none 0 0) := ⟨htx2.out, hvv2.out, (OwnI.stays 3).base _ _ _ _ _ (by omega) hal2.out, OwnRows.nil _ _⟩
          have hT := hT2.out
          have hd := hd2
          have hbt := hbt2
          clear hd2 hbt2 htx2 hal2 hvv2 hT2
          have z0 : wr.cell? ⟨w3.heap.size, 0, none⟩ = some (.int .i64 7) := hC.blk.at_ 0 rfl
          have z1 : wr.cell? ⟨w3.heap.size, 1, none⟩ = some (.slice A3 n3 d3) := hC.blk.at_ 1 rfl
          have z2 : wr.cell? ⟨w3.heap.size, 2, none⟩ = some (.slice A2 j d2) := hC.blk.at_ 2 rfl
          have z3 : wr.cell? ⟨w3.heap.size, 3, none⟩ = some (.int .i64 0) := hC.blk.at_ 3 rfl
          have z4 : wr.cell? ⟨w3.heap.size, 4, none⟩ = some (.slice none 0 0) := hC.blk.at_ 4 rfl
          go_wp2_with fail
          clear z0 z1 z2 z3 z4
          refine (pick base g n c (q) A bs 4 _ hd (by omega)).mono ?_
          rintro e w7 ⟨r, rfl, ⟨-, hr⟩, hdn, hbn⟩
          obtain ⟨lr, ur⟩ := hr (by omega)
          clear hr hd
          have hd := hdn
          clear hdn
          have hszw7 := hbn.size
          have hCn : CS w7 w.heap.size w3.heap.size ⟨7, ys, al, 0, []⟩ (.slice A3 n3 d3) (.slice A2 j d2) (.slice none 0 0) := hC.butG hbn hg (by omega)
          replace hT := hT.butG hbn (by omega)
          replace hbt := hbt.go hbn
          clear hC hbn
          have hC := hCn
          clear hCn
          obtain ⟨bd, hbd⟩ : ∃ bd, 1 + r = bd := ⟨_, rfl⟩
          have st3 : w7.cell? ⟨w3.heap.size, 3, none⟩ = some (.int .i64 0) := hC.blk.at_ 3 rfl
          have sf3 := hC.blk.frozen 3
          obtain ⟨w8, hw8⟩ : ∃ w8, w7.setCell ⟨w3.heap.size, 3, none⟩ (.int .i64 bd) = w8 := ⟨_, rfl⟩
          have hzsw8 : w8.heap.size = w7.heap.size := by rw [← hw8]; simp
          have hCn : CS w8 w.heap.size w3.heap.size ⟨7, ys, al, bd, []⟩ (.slice A3 n3 d3) (.slice A2 j d2) (.slice none 0 0) := by rw [← hw8]; exact hC.bound bd
          have hTn : TBlk 53 w8 w.heap.size #[.int .i64 0, .slice none 0 0, .slice none 0 0, .int .i64 0, .slice none 0 0] := by rw [← hw8]; exact hT.far (by omega)
          have hdn : Rd w8 base g A n c bs (q + 1) := by rw [← hw8]; exact hd.set (by omega) 3 _
          have hbn : ButG g w.heap.size w w8 := by rw [← hw8]; exact hbt.setHi (by omega) 3 _
          clear hC hT hd hbt
          have hC := hCn
          have hT := hTn
          have hd := hdn
          have hbt := hbn
          clear hCn hTn hdn hbn
          have z0 : w8.cell? ⟨w3.heap.size, 0, none⟩ = some (.int .i64 7) := hC.blk.at_ 0 rfl
          have z1 : w8.cell? ⟨w3.heap.size, 1, none⟩ = some (.slice A3 n3 d3) := hC.blk.at_ 1 rfl
          have z2 : w8.cell? ⟨w3.heap.size, 2, none⟩ = some (.slice A2 j d2) := hC.blk.at_ 2 rfl
          have z3 : w8.cell? ⟨w3.heap.size, 3, none⟩ = some (.int .i64 bd) := hC.blk.at_ 3 rfl
          have z4 : w8.cell? ⟨w3.heap.size, 4, none⟩ = some (.slice none 0 0) := hC.blk.at_ 4 rfl
          have y0 : w8.cell? ⟨w.heap.size, 0, none⟩ = some (.int .i64 0) := hT.at_ 0 rfl
          have g0 := hT.frozen 0
          have y1 : w8.cell? ⟨w.heap.size, 1, none⟩ = some (.slice none 0 0) := hT.at_ 1 rfl
          have g1 := hT.frozen 1
          have y2 : w8.cell? ⟨w.heap.size, 2, none⟩ = some (.slice none 0 0) := hT.at_ 2 rfl
          have g2 := hT.frozen 2
          have y3 : w8.cell? ⟨w.heap.size, 3, none⟩ = some (.int .i64 0) := hT.at_ 3 rfl
          have g3 := hT.frozen 3
          have y4 : w8.cell? ⟨w.heap.size, 4, none⟩ = some (.slice none 0 0) := hT.at_ 4 rfl
          have g4 := hT.frozen 4
          have hF := Lib.hid (CS.finish hC hT rfl (by omega) hd hg hbt rfl)
          clear hC hT hbt
          have HVC := Lib.hid (show vconF ⟨7, ys, al, bd, []⟩ (m : Int) = true from vcon_of HGV.out (by show 1 ≤ ys.length; rw [← HN3.out]; exact hyl.1) (by show ys.length ≤ m; rw [← HN3.out]; exact hyl.2.2) hm4 (fit_7 (by rw [hl.out, hjn.out, HN3.out]) (by rw [← HN3.out]; exact hyl.2.1) (fun x hx => by have := hab.out x hx; omega) (by omega)))
          go_wp2_with fail
          have hvc := HVC.out
          generalize (((((w8.setCell ⟨w.heap.size, 0, none⟩ (.int .i64 7)).setCell ⟨w.heap.size, 1, none⟩ (.slice A3 n3 d3)).setCell ⟨w.heap.size, 2, none⟩ (.slice A2 j d2)).setCell ⟨w.heap.size, 3, none⟩ (.int .i64 bd)).setCell ⟨w.heap.size, 4, none⟩ (.slice none 0 0)) = wf at hF ⊢
          obtain ⟨⟨t0, t1, t2, t3, t4⟩, ho, hrd, hbf⟩ := hF.out
          have hyv : 1 ≤ ys.length := by rw [← HN3.out]; exact hyl.1
          have hqq : (q + 1 : Nat) ≤ p + 200 := by omega
          first | exact bodyPost_ret (v := .agg #[.int .i64 7, .slice A3 n3 d3, .slice A2 j d2, .int .i64 bd, .slice none 0 0]) (by simp [results, Try.results43, go_sem, t0, t1, t2, t3, t4]) rfl ⟨_, _, _, rfl, ho, hyv, ⟨by show ys.length ≤ 8; rw [← HN3.out]; omega, by show al.length ≤ 8; rw [hl.out]; omega, by show (0 : Nat) ≤ 8; omega, fun x hx => by simp at hx⟩, hvc, hqq, hrd, hbf⟩ | exact bodyPost_ret (v := .agg #[.int .i64 7, .slice A3 n3 d3, .slice A2 j d2, .int .i64 bd, .slice none 0 0]) (by simp [results, Try.results43, go_sem, t0, t1, t2, t3, t4]) rfl ⟨_, rfl, _, ho, hyv, ⟨by show ys.length ≤ 8; rw [← HN3.out]; omega, by show al.length ≤ 8; rw [hl.out]; omega, by show (0 : Nat) ≤ 8; omega, fun x hx => by simp at hx⟩, hvc, _, hqq, hrd, hbf⟩
  · subst hk
    cases t1 : decide ((m : Int) < 2)
    · skip
      obtain ⟨wz, hwz⟩ : ∃ wz, w3.alloc (.cells #[.int .i64 0, .slice none 0 0, .slice none 0 0, .int .i64 0, .slice none 0 0] 53) = wz := ⟨_, rfl⟩
      have hbz : Below w3.heap.size w3 wz := by rw [← hwz]; exact b_alloc _ _
      have hzz : wz.heap.size = w3.heap.size + 1 := by rw [← hwz, size_alloc_]
      have hTz : TBlk 53 wz w3.heap.size #[.int .i64 0, .slice none 0 0, .slice none 0 0, .int .i64 0, .slice none 0 0] := by rw [← hwz]; exact TBlk.new _ _ _
      have hCz : CS wz w.heap.size w3.heap.size ⟨0, [], [], 0, []⟩ (.slice none 0 0) (.slice none 0 0) (.slice none 0 0) := ⟨hTz, (OwnI.stays 3).below _ _ _ _ _ hbz (OwnI.nil _ _), OwnI.nil _ _, OwnRows.nil _ _⟩
      have x0 : wz.cell? ⟨w3.heap.size, 0, none⟩ = some (.int .i64 0) := hTz.at_ 0 rfl
      have e0 := hTz.frozen 0
      have x1 : wz.cell? ⟨w3.heap.size, 1, none⟩ = some (.slice none 0 0) := hTz.at_ 1 rfl
      have e1 := hTz.frozen 1
      have x2 : wz.cell? ⟨w3.heap.size, 2, none⟩ = some (.slice none 0 0) := hTz.at_ 2 rfl
      have e2 := hTz.frozen 2
      have x3 : wz.cell? ⟨w3.heap.size, 3, none⟩ = some (.int .i64 0) := hTz.at_ 3 rfl
      have e3 := hTz.frozen 3
      have x4 : wz.cell? ⟨w3.heap.size, 4, none⟩ = some (.slice none 0 0) := hTz.at_ 4 rfl
      have e4 := hTz.frozen 4
      obtain ⟨w4, hw4⟩ : ∃ w4, (((((wz.setCell ⟨w3.heap.size, 0, none⟩ (.int .i64 8)).setCell ⟨w3.heap.size, 1, none⟩ (.slice A3 n3 d3)).setCell ⟨w3.heap.size, 2, none⟩ (.slice none 0 0)).setCell ⟨w3.heap.size, 3, none⟩ (.int .i64 0)).setCell ⟨w3.heap.size, 4, none⟩ (.slice none 0 0)) = w4 := ⟨_, rfl⟩
      have hov := (OwnI.stays 3).below _ _ _ _ _ hbz HOV.out
      have s1 := hCz.kind 8
      have s2 := s1.setV (OwnI.shuns (t := 53) (by decide) _ _ _ _ _ 0 _ _ _ hTz hov)
      have s3 := s2.setA (OwnI.nil _ _)
      have s4 := s3.bound 0
      have s5 := s4.setR (OwnRows.nil _ _)
      have hC : CS w4 w.heap.size w3.heap.size ⟨8, ys, [], 0, []⟩ (.slice A3 n3 d3) (.slice none 0 0) (.slice none 0 0) := by rw [← hw4]; exact s5
      have hbw : Below w3.heap.size w3 w4 := by rw [← hw4]; exact (((((hbz.setCell (Nat.le_refl _) _).setCell (Nat.le_refl _) _).setCell (Nat.le_refl _) _).setCell (Nat.le_refl _) _).setCell (Nat.le_refl _) _)
      have hz4 : w4.heap.size = w3.heap.size + 1 := by rw [← hw4]; simp [hzz]
      have hT : TBlk 53 w4 w.heap.size #[.int .i64 0, .slice none 0 0, .slice none 0 0, .int .i64 0, .slice none 0 0] := HT3.out.below_ hbw (by omega)
      have hd : Rd w4 base g A n c bs (p + 1 + 1 + m) := HD3.out.under hbw (by omega)
      have hbt : ButG g w.heap.size w w4 := HB3.out.go (below_butG hbw g)
      clear hbz hTz hCz s1 s2 s3 s4 s5 hov hbw
      have z0 : w4.cell? ⟨w3.heap.size, 0, none⟩ = some (.int .i64 8) := hC.blk.at_ 0 rfl
      have z1 : w4.cell? ⟨w3.heap.size, 1, none⟩ = some (.slice A3 n3 d3) := hC.blk.at_ 1 rfl
      have z2 : w4.cell? ⟨w3.heap.size, 2, none⟩ = some (.slice none 0 0) := hC.blk.at_ 2 rfl
      have z3 : w4.cell? ⟨w3.heap.size, 3, none⟩ = some (.int .i64 0) := hC.blk.at_ 3 rfl
      have z4 : w4.cell? ⟨w3.heap.size, 4, none⟩ = some (.slice none 0 0) := hC.blk.at_ 4 rfl
      go_wp2_with fail
      clear hwz hw4 x0 x1 x2 x3 x4 e0 e1 e2 e3 e4 z0 z1 z2 z3 z4
      refine (pick base g n c (p + 1 + 1 + m) A bs 3 _ hd (by omega)).mono ?_
      rintro e w5 ⟨r, rfl, ⟨-, hr⟩, hdn, hbn⟩
      obtain ⟨lr, ur⟩ := hr (by omega)
      clear hr hd
      have hd := hdn
      clear hdn
      have hszw5 := hbn.size
      have hCn : CS w5 w.heap.size w3.heap.size ⟨8, ys, [], 0, []⟩ (.slice A3 n3 d3) (.slice none 0 0) (.slice none 0 0) := hC.butG hbn hg (by omega)
      replace hT := hT.butG hbn (by omega)
      replace hbt := hbt.go hbn
      clear hC hbn
      have hC := hCn
      clear hCn
      obtain ⟨k1, hk1⟩ : ∃ k1 : Nat, 1 + r = (k1 : Int) := ⟨(1 + r).toNat, by omega⟩
      go_wp2_with fail
      refine (randomAutomatonV base g n c (p + 1 + 1 + m + 1) A bs k1 _ hd (by omega) (by omega)).mono ?_
      rintro e w6 ⟨v, y8, rfl, hl8, hle8, hrb8, hor, hdn, hbn⟩
      clear hd
      have hd := hdn
      clear hdn
      replace hor := (OwnOf.stays (OwnI.stays 3)).base _ _ w.heap.size _ _ (by omega) hor
      have hszw6 := hbn.size
      have hCn : CS w6 w.heap.size w3.heap.size ⟨8, ys, [], 0, []⟩ (.slice A3 n3 d3) (.slice none 0 0) (.slice none 0 0) := hC.butG hbn hg (by omega)
      replace hT := hT.butG hbn (by omega)
      replace hbt := hbt.go hbn
      clear hC hbn
      have hC := hCn
      clear hCn
      obtain ⟨A8, d8, rfl, -⟩ := read2 hor
      rw [hl8] at hor
      rw [hl8]
      have HL8 := Lib.hid hl8
      have HLE := Lib.hid hle8
      have HRB8 := Lib.hid hrb8
      clear hl8 hle8 hrb8
      have st4 : w6.cell? ⟨w3.heap.size, 4, none⟩ = some (.slice none 0 0) := hC.blk.at_ 4 rfl
      have sf4 := hC.blk.frozen 4
      obtain ⟨w7, hw7⟩ : ∃ w7, w6.setCell ⟨w3.heap.size, 4, none⟩ (.slice A8 k1 d8) = w7 := ⟨_, rfl⟩
      have hzsw7 : w7.heap.size = w6.heap.size := by rw [← hw7]; simp
      have hCn : CS w7 w.heap.size w3.heap.size ⟨8, ys, [], 0, y8⟩ (.slice A3 n3 d3) (.slice none 0 0) (.slice A8 k1 d8) := by rw [← hw7]; exact hC.setR hor
      have hTn : TBlk 53 w7 w.heap.size #[.int .i64 0, .slice none 0 0, .slice none 0 0, .int .i64 0, .slice none 0 0] := by rw [← hw7]; exact hT.far (by omega)
      have hdn : Rd w7 base g A n c bs (p + 1 + 1 + m + 1 + 12 * k1) := by rw [← hw7]; exact hd.set (by omega) 4 _
      have hbn : ButG g w.heap.size w w7 := by rw [← hw7]; exact hbt.setHi (by omega) 4 _
      clear hC hT hd hbt
      have hC := hCn
      have hT := hTn
      have hd := hdn
      have hbt := hbn
      clear hCn hTn hdn hbn
      have hk8 : 1 ≤ k1 ∧ k1 ≤ 3 := by omega
      obtain ⟨bd, hbd⟩ : ∃ bd : Int, (k1 : Int) - 1 = bd := ⟨_, rfl⟩
      have z4 : w7.cell? ⟨w3.heap.size, 4, none⟩ = some (.slice A8 k1 d8) := hC.blk.at_ 4 rfl
      obtain ⟨w8, hw8⟩ : ∃ w8, w7.alloc (.cells #[.int .i64 bd] 3) = w8 := ⟨_, rfl⟩
      have hbn : Below w7.heap.size w7 w8 := by rw [← hw8]; exact b_alloc _ _
      have hzsw8 : w8.heap.size = w7.heap.size + 1 := by rw [← hw8, size_alloc_]
      have hov : OwnI 3 w8 w.heap.size (.slice (some ⟨w7.heap.size, 0, none⟩) 1 1) [bd] := by rw [← hw8]; exact ⟨own_base (World.ownsRow_lit w7 #[.int .i64 bd] 1 (Nat.le_refl _) (by decide) rfl) (by omega), by simp⟩
      have hCn : CS w8 w.heap.size w3.heap.size ⟨8, ys, [], 0, y8⟩ (.slice A3 n3 d3) (.slice none 0 0) (.slice A8 k1 d8) := hC.below hbn
      replace hT := hT.below_ hbn (by omega)
      replace hbt := hbt.go (below_butG hbn g)
      replace hd := hd.under hbn (by omega)
      clear hC hbn
      have hC := hCn
      clear hCn
      rw [hzsw7] at hov
      have st2 : w8.cell? ⟨w3.heap.size, 2, none⟩ = some (.slice none 0 0) := hC.blk.at_ 2 rfl
      have sf2 := hC.blk.frozen 2
      obtain ⟨w9, hw9⟩ : ∃ w9, w8.setCell ⟨w3.heap.size, 2, none⟩ (.slice (some ⟨w6.heap.size, 0, none⟩) 1 1) = w9 := ⟨_, rfl⟩
      have hzsw9 : w9.heap.size = w8.heap.size := by rw [← hw9]; simp
      have hCn : CS w9 w.heap.size w3.heap.size ⟨8, ys, [bd], 0, y8⟩ (.slice A3 n3 d3) (.slice (some ⟨w6.heap.size, 0, none⟩) 1 1) (.slice A8 k1 d8) := by rw [← hw9]; exact hC.setA hov
      have hTn : TBlk 53 w9 w.heap.size #[.int .i64 0, .slice none 0 0, .slice none 0 0, .int .i64 0, .slice none 0 0] := by rw [← hw9]; exact hT.far (by omega)
      have hdn : Rd w9 base g A n c bs (p + 1 + 1 + m + 1 + 12 * k1) := by rw [← hw9]; exact hd.set (by omega) 2 _
      have hbn : ButG g w.heap.size w w9 := by rw [← hw9]; exact hbt.setHi (by omega) 2 _
      clear hC hT hd hbt
      have hC := hCn
      have hT := hTn
      have hd := hdn
      have hbt := hbn
      clear hCn hTn hdn hbn
      have z0 : w9.cell? ⟨w3.heap.size, 0, none⟩ = some (.int .i64 8) := hC.blk.at_ 0 rfl
      have z1 : w9.cell? ⟨w3.heap.size, 1, none⟩ = some (.slice A3 n3 d3) := hC.blk.at_ 1 rfl
      have z2 : w9.cell? ⟨w3.heap.size, 2, none⟩ = some (.slice (some ⟨w6.heap.size, 0, none⟩) 1 1) := hC.blk.at_ 2 rfl
      have z3 : w9.cell? ⟨w3.heap.size, 3, none⟩ = some (.int .i64 0) := hC.blk.at_ 3 rfl
      have z4 : w9.cell? ⟨w3.heap.size, 4, none⟩ = some (.slice A8 k1 d8) := hC.blk.at_ 4 rfl
      have y0 : w9.cell? ⟨w.heap.size, 0, none⟩ = some (.int .i64 0) := hT.at_ 0 rfl
      have g0 := hT.frozen 0
      have y1 : w9.cell? ⟨w.heap.size, 1, none⟩ = some (.slice none 0 0) := hT.at_ 1 rfl
      have g1 := hT.frozen 1
      have y2 : w9.cell? ⟨w.heap.size, 2, none⟩ = some (.slice none 0 0) := hT.at_ 2 rfl
      have g2 := hT.frozen 2
      have y3 : w9.cell? ⟨w.heap.size, 3, none⟩ = some (.int .i64 0) := hT.at_ 3 rfl
      have g3 := hT.frozen 3
      have y4 : w9.cell? ⟨w.heap.size, 4, none⟩ = some (.slice none 0 0) := hT.at_ 4 rfl
      have g4 := hT.frozen 4
      have hF := Lib.hid (CS.finish hC hT rfl (by omega) hd hg hbt rfl)
      clear hC hT hbt
      have HVC := Lib.hid (show vconF ⟨8, ys, [bd], 0, y8⟩ (m : Int) = true from vcon_of HGV.out (by show 1 ≤ ys.length; rw [← HN3.out]; exact hyl.1) (by show ys.length ≤ m; rw [← HN3.out]; exact hyl.2.2) hm4 (by have h8 := fit_8 (ys := ys) HL8.out (by omega) HRB8.out; rw [hbd] at h8; exact h8))
      go_wp2_with fail
      have hvc := HVC.out
      generalize (((((w9.setCell ⟨w.heap.size, 0, none⟩ (.int .i64 8)).setCell ⟨w.heap.size, 1, none⟩ (.slice A3 n3 d3)).setCell ⟨w.heap.size, 2, none⟩ (.slice (some ⟨w6.heap.size, 0, none⟩) 1 1)).setCell ⟨w.heap.size, 3, none⟩ (.int .i64 0)).setCell ⟨w.heap.size, 4, none⟩ (.slice A8 k1 d8)) = wf at hF ⊢
      obtain ⟨⟨t0, t1, t2, t3, t4⟩, ho, hrd, hbf⟩ := hF.out
      have hyv : 1 ≤ ys.length := by rw [← HN3.out]; exact hyl.1
      have hqq : (p + 1 + 1 + m + 1 + 12 * k1 : Nat) ≤ p + 200 := by omega
      first | exact bodyPost_ret (v := .agg #[.int .i64 8, .slice A3 n3 d3, .slice (some ⟨w6.heap.size, 0, none⟩) 1 1, .int .i64 0, .slice A8 k1 d8]) (by simp [results, Try.results43, go_sem, t0, t1, t2, t3, t4]) rfl ⟨_, _, _, rfl, ho, hyv, ⟨by show ys.length ≤ 8; rw [← HN3.out]; omega, by show (1 : Nat) ≤ 8; omega, by show y8.length ≤ 8; rw [HL8.out]; omega, fun x hx => Nat.le_trans (HLE.out x hx) (by omega)⟩, hvc, hqq, hrd, hbf⟩ | exact bodyPost_ret (v := .agg #[.int .i64 8, .slice A3 n3 d3, .slice (some ⟨w6.heap.size, 0, none⟩) 1 1, .int .i64 0, .slice A8 k1 d8]) (by simp [results, Try.results43, go_sem, t0, t1, t2, t3, t4]) rfl ⟨_, rfl, _, ho, hyv, ⟨by show ys.length ≤ 8; rw [← HN3.out]; omega, by show (1 : Nat) ≤ 8; omega, by show y8.length ≤ 8; rw [HL8.out]; omega, fun x hx => Nat.le_trans (HLE.out x hx) (by omega)⟩, hvc, _, hqq, hrd, hbf⟩
    · skip
      obtain ⟨wz, hwz⟩ : ∃ wz, w3.alloc (.cells #[.int .i64 0, .slice none 0 0, .slice none 0 0, .int .i64 0, .slice none 0 0] 53) = wz := ⟨_, rfl⟩
      have hbz : Below w3.heap.size w3 wz := by rw [← hwz]; exact b_alloc _ _
      have hzz : wz.heap.size = w3.heap.size + 1 := by rw [← hwz, size_alloc_]
      have hTz : TBlk 53 wz w3.heap.size #[.int .i64 0, .slice none 0 0, .slice none 0 0, .int .i64 0, .slice none 0 0] := by rw [← hwz]; exact TBlk.new _ _ _
      have hCz : CS wz w.heap.size w3.heap.size ⟨0, [], [], 0, []⟩ (.slice none 0 0) (.slice none 0 0) (.slice none 0 0) := ⟨hTz, (OwnI.stays 3).below _ _ _ _ _ hbz (OwnI.nil _ _), OwnI.nil _ _, OwnRows.nil _ _⟩
      have x0 : wz.cell? ⟨w3.heap.size, 0, none⟩ = some (.int .i64 0) := hTz.at_ 0 rfl
      have e0 := hTz.frozen 0
      have x1 : wz.cell? ⟨w3.heap.size, 1, none⟩ = some (.slice none 0 0) := hTz.at_ 1 rfl
      have e1 := hTz.frozen 1
      have x2 : wz.cell? ⟨w3.heap.size, 2, none⟩ = some (.slice none 0 0) := hTz.at_ 2 rfl
      have e2 := hTz.frozen 2
      have x3 : wz.cell? ⟨w3.heap.size, 3, none⟩ = some (.int .i64 0) := hTz.at_ 3 rfl
      have e3 := hTz.frozen 3
      have x4 : wz.cell? ⟨w3.heap.size, 4, none⟩ = some (.slice none 0 0) := hTz.at_ 4 rfl
      have e4 := hTz.frozen 4
      obtain ⟨w4, hw4⟩ : ∃ w4, (((((wz.setCell ⟨w3.heap.size, 0, none⟩ (.int .i64 8)).setCell ⟨w3.heap.size, 1, none⟩ (.slice A3 n3 d3)).setCell ⟨w3.heap.size, 2, none⟩ (.slice none 0 0)).setCell ⟨w3.heap.size, 3, none⟩ (.int .i64 0)).setCell ⟨w3.heap.size, 4, none⟩ (.slice none 0 0)) = w4 := ⟨_, rfl⟩
      have hov := (OwnI.stays 3).below _ _ _ _ _ hbz HOV.out
      have s1 := hCz.kind 8
      have s2 := s1.setV (OwnI.shuns (t := 53) (by decide) _ _ _ _ _ 0 _ _ _ hTz hov)
      have s3 := s2.setA (OwnI.nil _ _)
      have s4 := s3.bound 0
      have s5 := s4.setR (OwnRows.nil _ _)
      have hC : CS w4 w.heap.size w3.heap.size ⟨8, ys, [], 0, []⟩ (.slice A3 n3 d3) (.slice none 0 0) (.slice none 0 0) := by rw [← hw4]; exact s5
      have hbw : Below w3.heap.size w3 w4 := by rw [← hw4]; exact (((((hbz.setCell (Nat.le_refl _) _).setCell (Nat.le_refl _) _).setCell (Nat.le_refl _) _).setCell (Nat.le_refl _) _).setCell (Nat.le_refl _) _)
      have hz4 : w4.heap.size = w3.heap.size + 1 := by rw [← hw4]; simp [hzz]
      have hT : TBlk 53 w4 w.heap.size #[.int .i64 0, .slice none 0 0, .slice none 0 0, .int .i64 0, .slice none 0 0] := HT3.out.below_ hbw (by omega)
      have hd : Rd w4 base g A n c bs (p + 1 + 1 + m) := HD3.out.under hbw (by omega)
      have hbt : ButG g w.heap.size w w4 := HB3.out.go (below_butG hbw g)
      clear hbz hTz hCz s1 s2 s3 s4 s5 hov hbw
      have z0 : w4.cell? ⟨w3.heap.size, 0, none⟩ = some (.int .i64 8) := hC.blk.at_ 0 rfl
      have z1 : w4.cell? ⟨w3.heap.size, 1, none⟩ = some (.slice A3 n3 d3) := hC.blk.at_ 1 rfl
      have z2 : w4.cell? ⟨w3.heap.size, 2, none⟩ = some (.slice none 0 0) := hC.blk.at_ 2 rfl
      have z3 : w4.cell? ⟨w3.heap.size, 3, none⟩ = some (.int .i64 0) := hC.blk.at_ 3 rfl
      have z4 : w4.cell? ⟨w3.heap.size, 4, none⟩ = some (.slice none 0 0) := hC.blk.at_ 4 rfl
      go_wp2_with fail
      clear hwz hw4 x0 x1 x2 x3 x4 e0 e1 e2 e3 e4 z0 z1 z2 z3 z4
      refine (pick base g n c (p + 1 + 1 + m) A bs 3 _ hd (by omega)).mono ?_
      rintro e w5 ⟨r, rfl, ⟨-, hr⟩, hdn, hbn⟩
      obtain ⟨lr, ur⟩ := hr (by omega)
      clear hr hd
      have hd := hdn
      clear hdn
      have hszw5 := hbn.size
      have hCn : CS w5 w.heap.size w3.heap.size ⟨8, ys, [], 0, []⟩ (.slice A3 n3 d3) (.slice none 0 0) (.slice none 0 0) := hC.butG hbn hg (by omega)
      replace hT := hT.butG hbn (by omega)
      replace hbt := hbt.go hbn
      clear hC hbn
      have hC := hCn
      clear hCn
      obtain ⟨k1, hk1⟩ : ∃ k1 : Nat, 1 + r = (k1 : Int) := ⟨(1 + r).toNat, by omega⟩
      go_wp2_with fail
      refine (randomAutomatonV base g n c (p + 1 + 1 + m + 1) A bs k1 _ hd (by omega) (by omega)).mono ?_
      rintro e w6 ⟨v, y8, rfl, hl8, hle8, hrb8, hor, hdn, hbn⟩
      clear hd
      have hd := hdn
      clear hdn
      replace hor := (OwnOf.stays (OwnI.stays 3)).base _ _ w.heap.size _ _ (by omega) hor
      have hszw6 := hbn.size
      have hCn : CS w6 w.heap.size w3.heap.size ⟨8, ys, [], 0, []⟩ (.slice A3 n3 d3) (.slice none 0 0) (.slice none 0 0) := hC.butG hbn hg (by omega)
      replace hT := hT.butG hbn (by omega)
      replace hbt := hbt.go hbn
      clear hC hbn
      have hC := hCn
      clear hCn
      obtain ⟨A8, d8, rfl, -⟩ := read2 hor
      rw [hl8] at hor
      rw [hl8]
      have HL8 := Lib.hid hl8
      have HLE := Lib.hid hle8
      have HRB8 := Lib.hid hrb8
      clear hl8 hle8 hrb8
      have st4 : w6.cell? ⟨w3.heap.size, 4, none⟩ = some (.slice none 0 0) := hC.blk.at_ 4 rfl
      have sf4 := hC.blk.frozen 4
      obtain ⟨w7, hw7⟩ : ∃ w7, w6.setCell ⟨w3.heap.size, 4, none⟩ (.slice A8 k1 d8) = w7 := ⟨_, rfl⟩
      have hzsw7 : w7.heap.size = w6.heap.size := by rw [← hw7]; simp
      have hCn : CS w7 w.heap.size w3.heap.size ⟨8, ys, [], 0, y8⟩ (.slice A3 n3 d3) (.slice none 0 0) (.slice A8 k1 d8) := by rw [← hw7]; exact hC.setR hor
      have hTn : TBlk 53 w7 w.heap.size #[.int .i64 0, .slice none 0 0, .slice none 0 0, .int .i64 0, .slice none 0 0] := by rw [← hw7]; exact hT.far (by omega)
      have hdn : Rd w7 base g A n c bs (p + 1 + 1 + m + 1 + 12 * k1) := by rw [← hw7]; exact hd.set (by omega) 4 _
      have hbn : ButG g w.heap.size w w7 := by rw [← hw7]; exact hbt.setHi (by omega) 4 _
      clear hC hT hd hbt
      have hC := hCn
      have hT := hTn
      have hd := hdn
      have hbt := hbn
      clear hCn hTn hdn hbn
      have hk8 : 1 ≤ k1 ∧ k1 ≤ 3 := by omega
      obtain ⟨bd, hbd⟩ : ∃ bd : Int, (k1 : Int) - 1 = bd := ⟨_, rfl⟩
      have z4 : w7.cell? ⟨w3.heap.size, 4, none⟩ = some (.slice A8 k1 d8) := hC.blk.at_ 4 rfl
      obtain ⟨w8, hw8⟩ : ∃ w8, w7.alloc (.cells #[.int .i64 bd] 3) = w8 := ⟨_, rfl⟩
      have hbn : Below w7.heap.size w7 w8 := by rw [← hw8]; exact b_alloc _ _
      have hzsw8 : w8.heap.size = w7.heap.size + 1 := by rw [← hw8, size_alloc_]
      have hov : OwnI 3 w8 w.heap.size (.slice (some ⟨w7.heap.size, 0, none⟩) 1 1) [bd] := by rw [← hw8]; exact ⟨own_base (World.ownsRow_lit w7 #[.int .i64 bd] 1 (Nat.le_refl _) (by decide) rfl) (by omega), by simp⟩
      have hCn : CS w8 w.heap.size w3.heap.size ⟨8, ys, [], 0, y8⟩ (.slice A3 n3 d3) (.slice none 0 0) (.slice A8 k1 d8) := hC.below hbn
      replace hT := hT.below_ hbn (by omega)
      replace hbt := hbt.go (below_butG hbn g)
      replace hd := hd.under hbn (by omega)
      clear hC hbn
      have hC := hCn
      clear hCn
      rw [hzsw7] at hov
      have st2 : w8.cell? ⟨w3.heap.size, 2, none⟩ = some (.slice none 0 0) := hC.blk.at_ 2 rfl
      have sf2 := hC.blk.frozen 2
      obtain ⟨w9, hw9⟩ : ∃ w9, w8.setCell ⟨w3.heap.size, 2, none⟩ (.slice (some ⟨w6.heap.size, 0, none⟩) 1 1) = w9 := ⟨_, rfl⟩
      have hzsw9 : w9.heap.size = w8.heap.size := by rw [← hw9]; simp
      have hCn : CS w9 w.heap.size w3.heap.size ⟨8, ys, [bd], 0, y8⟩ (.slice A3 n3 d3) (.slice (some ⟨w6.heap.size, 0, none⟩) 1 1) (.slice A8 k1 d8) := by rw [← hw9]; exact hC.setA hov
      have hTn : TBlk 53 w9 w.heap.size #[.int .i64 0, .slice none 0 0, .slice none 0 0, .int .i64 0, .slice none 0 0] := by rw [← hw9]; exact hT.far (by omega)
      have hdn : Rd w9 base g A n c bs (p + 1 + 1 + m + 1 + 12 * k1) := by rw [← hw9]; exact hd.set (by omega) 2 _
      have hbn : ButG g w.heap.size w w9 := by rw [← hw9]; exact hbt.setHi (by omega) 2 _
      clear hC hT hd hbt
      have hC := hCn
      have hT := hTn
      have hd := hdn
      have hbt := hbn
      clear hCn hTn hdn hbn
      have z0 : w9.cell? ⟨w3.heap.size, 0, none⟩ = some (.int .i64 8) := hC.blk.at_ 0 rfl
      have z1 : w9.cell? ⟨w3.heap.size, 1, none⟩ = some (.slice A3 n3 d3) := hC.blk.at_ 1 rfl
      have z2 : w9.cell? ⟨w3.heap.size, 2, none⟩ = some (.slice (some ⟨w6.heap.size, 0, none⟩) 1 1) := hC.blk.at_ 2 rfl
      have z3 : w9.cell? ⟨w3.heap.size, 3, none⟩ = some (.int .i64 0) := hC.blk.at_ 3 rfl
      have z4 : w9.cell? ⟨w3.heap.size, 4, none⟩ = some (.slice A8 k1 d8) := hC.blk.at_ 4 rfl
      have y0 : w9.cell? ⟨w.heap.size, 0, none⟩ = some (.int .i64 0) := hT.at_ 0 rfl
      have g0 := hT.frozen 0
      have y1 : w9.cell? ⟨w.heap.size, 1, none⟩ = some (.slice none 0 0) := hT.at_ 1 rfl
      have g1 := hT.frozen 1
      have y2 : w9.cell? ⟨w.heap.size, 2, none⟩ = some (.slice none 0 0) := hT.at_ 2 rfl
      have g2 := hT.frozen 2
      have y3 : w9.cell? ⟨w.heap.size, 3, none⟩ = some (.int .i64 0) := hT.at_ 3 rfl
      have g3 := hT.frozen 3
      have y4 : w9.cell? ⟨w.heap.size, 4, none⟩ = some (.slice none 0 0) := hT.at_ 4 rfl
      have g4 := hT.frozen 4
      have hF := Lib.hid (CS.finish hC hT rfl (by omega) hd hg hbt rfl)
      clear hC hT hbt
      have HVC := Lib.hid (show vconF ⟨8, ys, [bd], 0, y8⟩ (m : Int) = true from vcon_of HGV.out (by show 1 ≤ ys.length; rw [← HN3.out]; exact hyl.1) (by show ys.length ≤ m; rw [← HN3.out]; exact hyl.2.2) hm4 (by have h8 := fit_8 (ys := ys) HL8.out (by omega) HRB8.out; rw [hbd] at h8; exact h8))
      go_wp2_with fail
      have hvc := HVC.out
      generalize (((((w9.setCell ⟨w.heap.size, 0, none⟩ (.int .i64 8)).setCell ⟨w.heap.size, 1, none⟩ (.slice A3 n3 d3)).setCell ⟨w.heap.size, 2, none⟩ (.slice (some ⟨w6.heap.size, 0, none⟩) 1 1)).setCell ⟨w.heap.size, 3, none⟩ (.int .i64 0)).setCell ⟨w.heap.size, 4, none⟩ (.slice A8 k1 d8)) = wf at hF ⊢
      obtain ⟨⟨t0, t1, t2, t3, t4⟩, ho, hrd, hbf⟩ := hF.out
      have hyv : 1 ≤ ys.length := by rw [← HN3.out]; exact hyl.1
      have hqq : (p + 1 + 1 + m + 1 + 12 * k1 : Nat) ≤ p + 200 := by omega
      first | exact bodyPost_ret (v := .agg #[.int .i64 8, .slice A3 n3 d3, .slice (some ⟨w6.heap.size, 0, none⟩) 1 1, .int .i64 0, .slice A8 k1 d8]) (by simp [results, Try.results43, go_sem, t0, t1, t2, t3, t4]) rfl ⟨_, _, _, rfl, ho, hyv, ⟨by show ys.length ≤ 8; rw [← HN3.out]; omega, by show (1 : Nat) ≤ 8; omega, by show y8.length ≤ 8; rw [HL8.out]; omega, fun x hx => Nat.le_trans (HLE.out x hx) (by omega)⟩, hvc, hqq, hrd, hbf⟩ | exact bodyPost_ret (v := .agg #[.int .i64 8, .slice A3 n3 d3, .slice (some ⟨w6.heap.size, 0, none⟩) 1 1, .int .i64 0, .slice A8 k1 d8]) (by simp [results, Try.results43, go_sem, t0, t1, t2, t3, t4]) rfl ⟨_, rfl, _, ho, hyv, ⟨by show ys.length ≤ 8; rw [← HN3.out]; omega, by show (1 : Nat) ≤ 8; omega, by show y8.length ≤ 8; rw [HL8.out]; omega, fun x hx => Nat.le_trans (HLE.out x hx) (by omega)⟩, hvc, _, hqq, hrd, hbf⟩
  · subst hk
    cases t1 : decide ((m : Int) < 2)
    · skip
      obtain ⟨wz, hwz⟩ : ∃ wz, w3.alloc (.cells #[.int .i64 0, .slice none 0 0, .slice none 0 0, .int .i64 0, .slice none 0 0] 53) = wz := ⟨_, rfl⟩
      have hbz : Below w3.heap.size w3 wz := by rw [← hwz]; exact b_alloc _ _
      have hzz : wz.heap.size = w3.heap.size + 1 := by rw [← hwz, size_alloc_]
      have hTz : TBlk 53 wz w3.heap.size #[.int .i64 0, .slice none 0 0, .slice none 0 0, .int .i64 0, .slice none 0 0] := by rw [← hwz]; exact TBlk.new _ _ _
      have hCz : CS wz w.heap.size w3.heap.size ⟨0, [], [], 0, []⟩ (.slice none 0 0) (.slice none 0 0) (.slice none 0 0) := ⟨hTz, (OwnI.stays 3).below _ _ _ _ _ hbz (OwnI.nil _ _), OwnI.nil _ _, OwnRows.nil _ _⟩
      have x0 : wz.cell? ⟨w3.heap.size, 0, none⟩ = some (.int .i64 0) := hTz.at_ 0 rfl
      have e0 := hTz.frozen 0
      have x1 : wz.cell? ⟨w3.heap.size, 1, none⟩ = some (.slice none 0 0) := hTz.at_ 1 rfl
      have e1 := hTz.frozen 1
      have x2 : wz.cell? ⟨w3.heap.size, 2, none⟩ = some (.slice none 0 0) := hTz.at_ 2 rfl
      have e2 := hTz.frozen 2
      have x3 : wz.cell? ⟨w3.heap.size, 3, none⟩ = some (.int .i64 0) := hTz.at_ 3 rfl
      have e3 := hTz.frozen 3
      have x4 : wz.cell? ⟨w3.heap.size, 4, none⟩ = some (.slice none 0 0) := hTz.at_ 4 rfl
      have e4 := hTz.frozen 4
      obtain ⟨w4, hw4⟩ : ∃ w4, (((((wz.setCell ⟨w3.heap.size, 0, none⟩ (.int .i64 9)).setCell ⟨w3.heap.size, 1, none⟩ (.slice A3 n3 d3)).setCell ⟨w3.heap.size, 2, none⟩ (.slice none 0 0)).setCell ⟨w3.heap.size, 3, none⟩ (.int .i64 0)).setCell ⟨w3.heap.size, 4, none⟩ (.slice none 0 0)) = w4 := ⟨_, rfl⟩
      have hov := (OwnI.stays 3).below _ _ _ _ _ hbz HOV.out
      have s1 := hCz.kind 9
      have s2 := s1.setV (OwnI.shuns (t := 53) (by decide) _ _ _ _ _ 0 _ _ _ hTz hov)
      have s3 := s2.setA (OwnI.nil _ _)
      have s4 := s3.bound 0
      have s5 := s4.setR (OwnRows.nil _ _)
      have hC : CS w4 w.heap.size w3.heap.size ⟨9, ys, [], 0, []⟩ (.slice A3 n3 d3) (.slice none 0 0) (.slice none 0 0) := by rw [← hw4]; exact s5
      have hbw : Below w3.heap.size w3 w4 := by rw [← hw4]; exact (((((hbz.setCell (Nat.le_refl _) _).setCell (Nat.le_refl _) _).setCell (Nat.le_refl _) _).setCell (Nat.le_refl _) _).setCell (Nat.le_refl _) _)
      have hz4 : w4.heap.size = w3.heap.size + 1 := by rw [← hw4]; simp [hzz]
      have hT : TBlk 53 w4 w.heap.size #[.int .i64 0, .slice none 0 0, .slice none 0 0, .int .i64 0, .slice none 0 0] := HT3.out.below_ hbw (by omega)
      have hd : Rd w4 base g A n c bs (p + 1 + 1 + m) := HD3.out.under hbw (by omega)
      have hbt : ButG g w.heap.size w w4 := HB3.out.go (below_butG hbw g)
      clear hbz hTz hCz s1 s2 s3 s4 s5 hov hbw
      have z0 : w4.cell? ⟨w3.heap.size, 0, none⟩ = some (.int .i64 9) := hC.blk.at_ 0 rfl
      have z1 : w4.cell? ⟨w3.heap.size, 1, none⟩ = some (.slice A3 n3 d3) := hC.blk.at_ 1 rfl
      have z2 : w4.cell? ⟨w3.heap.size, 2, none⟩ = some (.slice none 0 0) := hC.blk.at_ 2 rfl
      have z3 : w4.cell? ⟨w3.heap.size, 3, none⟩ = some (.int .i64 0) := hC.blk.at_ 3 rfl
      have z4 : w4.cell? ⟨w3.heap.size, 4, none⟩ = some (.slice none 0 0) := hC.blk.at_ 4 rfl
      have y0 : w4.cell? ⟨w.heap.size, 0, none⟩ = some (.int .i64 0) := hT.at_ 0 rfl
      have g0 := hT.frozen 0
      have y1 : w4.cell? ⟨w.heap.size, 1, none⟩ = some (.slice none 0 0) := hT.at_ 1 rfl
      have g1 := hT.frozen 1
      have y2 : w4.cell? ⟨w.heap.size, 2, none⟩ = some (.slice none 0 0) := hT.at_ 2 rfl
      have g2 := hT.frozen 2
      have y3 : w4.cell? ⟨w.heap.size, 3, none⟩ = some (.int .i64 0) := hT.at_ 3 rfl
      have g3 := hT.frozen 3
      have y4 : w4.cell? ⟨w.heap.size, 4, none⟩ = some (.slice none 0 0) := hT.at_ 4 rfl
      have g4 := hT.frozen 4
      have hF := Lib.hid (CS.finish hC hT rfl (by omega) hd hg hbt rfl)
      clear hC hT hbt
      have HVC := Lib.hid (show vconF ⟨9, ys, [], 0, []⟩ (m : Int) = true from vcon_of HGV.out (by show 1 ≤ ys.length; rw [← HN3.out]; exact hyl.1) (by show ys.length ≤ m; rw [← HN3.out]; exact hyl.2.2) hm4 (fit_9))
      go_wp2_with fail
      have hvc := HVC.out
      generalize (((((w4.setCell ⟨w.heap.size, 0, none⟩ (.int .i64 9)).setCell ⟨w.heap.size, 1, none⟩ (.slice A3 n3 d3)).setCell ⟨w.heap.size, 2, none⟩ (.slice none 0 0)).setCell ⟨w.heap.size, 3, none⟩ (.int .i64 0)).setCell ⟨w.heap.size, 4, none⟩ (.slice none 0 0)) = wf at hF ⊢
      obtain ⟨⟨t0, t1, t2, t3, t4⟩, ho, hrd, hbf⟩ := hF.out
      have hyv : 1 ≤ ys.length := by rw [← HN3.out]; exact hyl.1
      have hqq : (p + 1 + 1 + m : Nat) ≤ p + 200 := by omega
      first | exact bodyPost_ret (v := .agg #[.int .i64 9, .slice A3 n3 d3, .slice none 0 0, .int .i64 0, .slice none 0 0]) (by simp [results, Try.results43, go_sem, t0, t1, t2, t3, t4]) rfl ⟨_, _, _, rfl, ho, hyv, ⟨by show ys.length ≤ 8; rw [← HN3.out]; omega, by show (0 : Nat) ≤ 8; omega, by show (0 : Nat) ≤ 8; omega, fun x hx => by simp at hx⟩, hvc, hqq, hrd, hbf⟩ | exact bodyPost_ret (v := .agg #[.int .i64 9, .slice A3 n3 d3, .slice none 0 0, .int .i64 0, .slice none 0 0]) (by simp [results, Try.results43, go_sem, t0, t1, t2, t3, t4]) rfl ⟨_, rfl, _, ho, hyv, ⟨by show ys.length ≤ 8; rw [← HN3.out]; omega, by show (0 : Nat) ≤ 8; omega, by show (0 : Nat) ≤ 8; omega, fun x hx => by simp at hx⟩, hvc, _, hqq, hrd, hbf⟩
    · skip
      obtain ⟨wz, hwz⟩ : ∃ wz, w3.alloc (.cells #[.int .i64 0, .slice none 0 0, .slice none 0 0, .int .i64 0, .slice none 0 0] 53) = wz := ⟨_, rfl⟩
      have hbz : Below w3.heap.size w3 wz := by rw [← hwz]; exact b_alloc _ _
      have hzz : wz.heap.size = w3.heap.size + 1 := by rw [← hwz, size_alloc_]
      have hTz : TBlk 53 wz w3.heap.size #[.int .i64 0, .slice none 0 0, .slice none 0 0, .int .i64 0, .slice none 0 0] := by rw [← hwz]; exact TBlk.new _ _ _
      have hCz : CS wz w.heap.size w3.heap.size ⟨0, [], [], 0, []⟩ (.slice none 0 0) (.slice none 0 0) (.slice none 0 0) := ⟨hTz, (OwnI.stays 3).below _ _ _ _ _ hbz (OwnI.nil _ _), OwnI.nil _ _, OwnRows.nil _ _⟩
      have x0 : wz.cell? ⟨w3.heap.size, 0, none⟩ = some (.int .i64 0) := hTz.at_ 0 rfl
      have e0 := hTz.frozen 0
      have x1 : wz.cell? ⟨w3.heap.size, 1, none⟩ = some (.slice none 0 0) := hTz.at_ 1 rfl
      have e1 := hTz.frozen 1
      have x2 : wz.cell? ⟨w3.heap.size, 2, none⟩ = some (.slice none 0 0) := hTz.at_ 2 rfl
      have e2 := hTz.frozen 2
      have x3 : wz.cell? ⟨w3.heap.size, 3, none⟩ = some (.int .i64 0) := hTz.at_ 3 rfl
      have e3 := hTz.frozen 3
      have x4 : wz.cell? ⟨w3.heap.size, 4, none⟩ = some (.slice none 0 0) := hTz.at_ 4 rfl
      have e4 := hTz.frozen 4
      obtain ⟨w4, hw4⟩ : ∃ w4, (((((wz.setCell ⟨w3.heap.size, 0, none⟩ (.int .i64 9)).setCell ⟨w3.heap.size, 1, none⟩ (.slice A3 n3 d3)).setCell ⟨w3.heap.size, 2, none⟩ (.slice none 0 0)).setCell ⟨w3.heap.size, 3, none⟩ (.int .i64 0)).setCell ⟨w3.heap.size, 4, none⟩ (.slice none 0 0)) = w4 := ⟨_, rfl⟩
      have hov := (OwnI.stays 3).below _ _ _ _ _ hbz HOV.out
      have s1 := hCz.kind 9
      have s2 := s1.setV (OwnI.shuns (t := 53) (by decide) _ _ _ _ _ 0 _ _ _ hTz hov)
      have s3 := s2.setA (OwnI.nil _ _)
      have s4 := s3.bound 0
      have s5 := s4.setR (OwnRows.nil _ _)
      have hC : CS w4 w.heap.size w3.heap.size ⟨9, ys, [], 0, []⟩ (.slice A3 n3 d3) (.slice none 0 0) (.slice none 0 0) := by rw [← hw4]; exact s5
      have hbw : Below w3.heap.size w3 w4 := by rw [← hw4]; exact (((((hbz.setCell (Nat.le_refl _) _).setCell (Nat.le_refl _) _).setCell (Nat.le_refl _) _).setCell (Nat.le_refl _) _).setCell (Nat.le_refl _) _)
      have hz4 : w4.heap.size = w3.heap.size + 1 := by rw [← hw4]; simp [hzz]
      have hT : TBlk 53 w4 w.heap.size #[.int .i64 0, .slice none 0 0, .slice none 0 0, .int .i64 0, .slice none 0 0] := HT3.out.below_ hbw (by omega)
      have hd : Rd w4 base g A n c bs (p + 1 + 1 + m) := HD3.out.under hbw (by omega)
      have hbt : ButG g w.heap.size w w4 := HB3.out.go (below_butG hbw g)
      clear hbz hTz hCz s1 s2 s3 s4 s5 hov hbw
      have z0 : w4.cell? ⟨w3.heap.size, 0, none⟩ = some (.int .i64 9) := hC.blk.at_ 0 rfl
      have z1 : w4.cell? ⟨w3.heap.size, 1, none⟩ = some (.slice A3 n3 d3) := hC.blk.at_ 1 rfl
      have z2 : w4.cell? ⟨w3.heap.size, 2, none⟩ = some (.slice none 0 0) := hC.blk.at_ 2 rfl
      have z3 : w4.cell? ⟨w3.heap.size, 3, none⟩ = some (.int .i64 0) := hC.blk.at_ 3 rfl
      have z4 : w4.cell? ⟨w3.heap.size, 4, none⟩ = some (.slice none 0 0) := hC.blk.at_ 4 rfl
      have y0 : w4.cell? ⟨w.heap.size, 0, none⟩ = some (.int .i64 0) := hT.at_ 0 rfl
      have g0 := hT.frozen 0
      have y1 : w4.cell? ⟨w.heap.size, 1, none⟩ = some (.slice none 0 0) := hT.at_ 1 rfl
      have g1 := hT.frozen 1
      have y2 : w4.cell? ⟨w.heap.size, 2, none⟩ = some (.slice none 0 0) := hT.at_ 2 rfl
      have g2 := hT.frozen 2
      have y3 : w4.cell? ⟨w.heap.size, 3, none⟩ = some (.int .i64 0) := hT.at_ 3 rfl
      have g3 := hT.frozen 3
      have y4 : w4.cell? ⟨w.heap.size, 4, none⟩ = some (.slice none 0 0) := hT.at_ 4 rfl
      have g4 := hT.frozen 4
      have hF := Lib.hid (CS.finish hC hT rfl (by omega) hd hg hbt rfl)
      clear hC hT hbt
      have HVC := Lib.hid (show vconF ⟨9, ys, [], 0, []⟩ (m : Int) = true from vcon_of HGV.out (by show 1 ≤ ys.length; rw [← HN3.out]; exact hyl.1) (by show ys.length ≤ m; rw [← HN3.out]; exact hyl.2.2) hm4 (fit_9))
      go_wp2_with fail
      have hvc := HVC.out
      generalize (((((w4.setCell ⟨w.heap.size, 0, none⟩ (.int .i64 9)).setCell ⟨w.heap.size, 1, none⟩ (.slice A3 n3 d3)).setCell ⟨w.heap.size, 2, none⟩ (.slice none 0 0)).setCell ⟨w.heap.size, 3, none⟩ (.int .i64 0)).setCell ⟨w.heap.size, 4, none⟩ (.slice none 0 0)) = wf at hF ⊢
      obtain ⟨⟨t0, t1, t2, t3, t4⟩, ho, hrd, hbf⟩ := hF.out
      have hyv : 1 ≤ ys.length := by rw [← HN3.out]; exact hyl.1
      have hqq : (p + 1 + 1 + m : Nat) ≤ p + 200 := by omega
      first | exact bodyPost_ret (v := .agg #[.int .i64 9, .slice A3 n3 d3, .slice none 0 0, .int .i64 0, .slice none 0 0]) (by simp [results, Try.results43, go_sem, t0, t1, t2, t3, t4]) rfl ⟨_, _, _, rfl, ho, hyv, ⟨by show ys.length ≤ 8; rw [← HN3.out]; omega, by show (0 : Nat) ≤ 8; omega, by show (0 : Nat) ≤ 8; omega, fun x hx => by simp at hx⟩, hvc, hqq, hrd, hbf⟩ | exact bodyPost_ret (v := .agg #[.int .i64 9, .slice A3 n3 d3, .slice none 0 0, .int .i64 0, .slice none 0 0]) (by simp [results, Try.results43, go_sem, t0, t1, t2, t3, t4]) rfl ⟨_, rfl, _, ho, hyv, ⟨by show ys.length ≤ 8; rw [← HN3.out]; omega, by show (0 : Nat) ≤ 8; omega, by show (0 : Nat) ≤ 8; omega, fun x hx => by simp at hx⟩, hvc, _, hqq, hrd, hbf⟩
end Go.Proofs.Ytjpcdbdaimonlaa
