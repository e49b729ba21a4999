/- The text of a model: impl's EncodeModel. -/
import Derived.Test.YtfoodlhfmcfjeaaDoorStrM
import Derived.Test.YtfoodlhfmcfjeaaDoorTxt
import Derived.Test.YtfoodlhfmcfjeaaDoorBld
namespace Go.Proofs.YtfoodlhfmcfjeaaDoor
open Go.ChangeShapes Go.WideShapes Go.ChangeAt Go.RowKit
open Go.Shelf
set_option linter.unusedVariables false
set_option linter.unusedSimpArgs false
set_option maxRecDepth 100000

theorem Bld.on {B b : Nat} {l : List UInt8} {w w' : World} (h : Bld B b l w) (hb : Below w.heap.size w w') : Bld B b l w' := by
  rcases h with ⟨hB, v, hbk, hown, hne⟩ | ⟨hB, v, hbk, hown, hne⟩
  · exact .inl ⟨hB, v, (hb.block b (Array.getElem?_eq_some_iff.1 hbk).1).trans hbk, own_below hown hb, hne⟩
  · exact .inr ⟨hB, v, (hb.block b (Array.getElem?_eq_some_iff.1 hbk).1).trans hbk, own_below hown hb, hne⟩
theorem Bld.new (w : World) : Bld w.heap.size w.heap.size [] (w.alloc (.cells #[.pointer none, .slice none 0 0] 42)) :=
  .inl ⟨Nat.le_refl _, _, heap_alloc_new w _, World.ownsRow_nil _ _ _ _, by simp [Value.ownBlock]⟩
set_option maxHeartbeats 2500000 in
theorem iEncodeModel (us : List Value) (m : Mod) (w : World) (h : ModR w w.heap.size us m) (hs : SmMod m) (ht : TabW w) :
    Calls Tryd.prog 7 #[.agg us.toArray] w fun e w' => e = .returned (.string (bs (encM m))) ∧ Below w.heap.size w w' := by
  have G := Lib.hid h
  obtain ⟨da, ca, cd, cc, rfl, g1, g2, -⟩ := h
  obtain ⟨nd, hnd⟩ : ∃ nd, m.doms.length = nd := ⟨_, rfl⟩
  obtain ⟨nc, hnc⟩ : ∃ nc, m.cons.length = nc := ⟨_, rfl⟩
  have HN := Lib.hid (And.intro hnd hnc)
  rw [hnd] at g1
  rw [hnc] at g2
  rw [hnd, hnc] at G ⊢
  have VS := Lib.hid hs.2.2
  have HT := Lib.hid ht
  obtain ⟨wa, hwa⟩ : ∃ wa, wa = w.alloc (.cells #[.slice da nd cd, .slice ca nc cc] 30) := ⟨_, rfl⟩
  have hb0 : Below w.heap.size w wa := by rw [hwa]; exact b_alloc _ _
  have HC : Hid (TBlk 30 wa w.heap.size #[.slice da nd cd, .slice ca nc cc]) := by rw [hwa]; exact TBlk.new _ _ _
  have HB0 := Lib.hid hb0
  have HD : Hid (∀ W, Below wa.heap.size wa W → IntR W W.heap.size da nd m.doms) := fun W hb => IntR.on g1 (bgo hb0 hb)
  have HK : Hid (∀ W, Below wa.heap.size wa W → ConsR W W.heap.size ca nc m.cons) := fun W hb => ConsR.on g2 (bgo hb0 hb)
  have HC2 : Hid (∀ W, Below wa.heap.size wa W → W.cell? ⟨w.heap.size, 0, none⟩ = some (.slice da nd cd) ∧ W.cell? ⟨w.heap.size, 1, none⟩ = some (.slice ca nc cc)) := fun W hb => by
    have t := HC.out.below_ hb HC.out.lt
    exact ⟨t.at_ 0 rfl, t.at_ 1 rfl⟩
  obtain ⟨a0, a1⟩ := HC2.out wa (Below.refl _ _)
  clear g1 g2 hs hb0 hnd hnc ht
  go_enter Tryd.func7, Tryd.ntmps7
  go_wp2_with fail
  rw [← hwa]
  clear hwa
  refine (iValidModel _ m _ (ModR.on G.out HB0.out)).mono ?_
  rintro e w1 ⟨rfl, hb1⟩
  cases hv : vmodF m
  · have HE := Lib.hid (show encM m = [] by unfold encM; rw [hv]; rfl)
    clear hv
    go_wp2_with fail
    go_ret
    exact ⟨by rw [HE.out]; rfl, bgo HB0.out hb1⟩
  obtain ⟨v1, v2, v3, v4⟩ := vm_parts hv
  have HE := Lib.hid (show encM m = modF m by unfold encM; rw [hv]; rfl)
  have V1 := Lib.hid v1
  have V2 := Lib.hid v2
  have hnd4 : nd ≤ 4 := by rw [← HN.out.1]; exact v3
  have hnc6 : nc ≤ 6 := by rw [← HN.out.2]; exact v4
  have HLD : Hid (∀ j, (domsF (m.doms.take j)).length ≤ 300) := fun j => by
    have h1 := domsF_len (ds := m.doms.take j) (fun d hd => v1 d (List.mem_of_mem_take hd))
    have h2 : (m.doms.take j).length ≤ 4 := by rw [List.length_take]; omega
    omega
  have HLC : Hid (∀ j, (domsF m.doms ++ consF (m.cons.take j)).length ≤ 400000000) := fun j => by
    rw [List.length_append]
    have h0 := domsF_len v1
    have h1 := consF_len (cs := m.cons.take j) (fun c hc => conF_len (v2 c (List.mem_of_mem_take hc)) (VS.out c (List.mem_of_mem_take hc)))
    have h2 : (m.cons.take j).length ≤ 6 := by rw [List.length_take]; omega
    omega
  obtain ⟨wb, hwb⟩ : ∃ wb, w1.alloc (.cells #[.pointer none, .slice none 0 0] 42) = wb := ⟨_, rfl⟩
  obtain ⟨b, hbb⟩ : ∃ b, w1.heap.size = b := ⟨_, rfl⟩
  have HBL : Hid (Bld b b (domsF (m.doms.take 0)) wb) := by rw [← hwb, ← hbb]; exact Lib.hid (Bld.new w1)
  have hbB : Below w1.heap.size w1 wb := by rw [← hwb]; exact b_alloc _ _
  have HA1 := Lib.hid (bgo hb1 hbB)
  have HBS : Hid (wb.heap.size = b + 1) := by rw [← hwb, ← hbb]; exact Lib.hid (size_alloc_ _ _)
  have HAB : Hid (wa.heap.size ≤ b) := by rw [← hbb]; exact Lib.hid hb1.size
  clear a0 a1
  obtain ⟨a0, a1⟩ := HC2.out wb HA1.out
  have HBB : Hid (∀ W, Below b wb W → Below wa.heap.size wa W) := fun W h => HA1.out.trans (h.mono HAB.out)
  clear v1 v2 v3 v4 hv hb1 hbB
  go_wp2_with fail
  clear hwb hbb
  go_loopw [14] (fun i wr => ∃ j : Nat, j ≤ nd ∧ i = .int .i64 j ∧ Hid (Bld b b (domsF (m.doms.take j)) wr) ∧ Below b wb wr) (fun i _ => nd - (intOf i).toNat)
  case atStart => exact ⟨0, by omega, rfl, HBL, Below.refl _ _⟩
  case round =>
    obtain ⟨j, hj, rfl, hq, hb⟩ := hrel
    clear HBL a0 a1
    rename World => wr
    have hba := HBB.out wr hb
    have hzr := hb.size
    have hbz := HBS.out
    by_cases hlt : j < nd
    · obtain ⟨ab, ao, d, u, rfl, hab, hxk, hcx, rfl⟩ := SlR.at_ (HD.out wr hba) hlt
      have hd := V1.out d (List.mem_of_getElem? hxk)
      have hs2 : (bs (encF d)).size ≤ 64 := by rw [bs_size]; exact enc_len' hd.1 hd.2
      have HE2 := Lib.hid (show domsF (m.doms.take (j + 1)) = domsF (m.doms.take j) ++ ([118, 97, 114, 32] ++ encF d ++ [10]) by rw [List.take_add_one, hxk, Option.toList_some, domsF_snoc])
      have HT2 : Hid (⟨#[118, 97, 114, 32]⟩ ++ bs (encF d) ++ ⟨#[10]⟩ = bs ([118, 97, 114, 32] ++ encF d ++ [10])) := Lib.hid (by rw [show (⟨#[118, 97, 114, 32]⟩ : ByteArray) = bs [118, 97, 114, 32] from rfl, show (⟨#[10]⟩ : ByteArray) = bs [10] from rfl, bs_app, bs_app])
      have hln : (domsF (m.doms.take j)).length + ([118, 97, 114, 32] ++ encF d ++ [10]).length ≤ 140737488355328 := by
        have h1 := HLD.out j
        rw [bs_size] at hs2
        simp only [List.length_append, List.length_cons, List.length_nil]
        omega
      have hg1 : decide ((j : Int) < (nd : Int)) = true := decide_eq_true (by omega)
      have HLN := Lib.hid hln
      clear hxk hln hbz
      go_wp2_with fail
      refine (encode d hd.1 hd.2 wr).mono ?_
      rintro e w2 ⟨rfl, hb2⟩
      have HQ2 := Lib.hid (hq.out.on hb2)
      have hz2 : b ≤ w2.heap.size := by have := hb2.size; have := HBS.out; omega
      go_wp2_with fail
      rw [HT2.out]
      refine (writeS b b _ _ w2 HQ2.out HLN.out hz2).mono ?_
      rintro e w3 ⟨v, rfl, hq3, hb3⟩
      have hb23 : Below b wb w3 := (hb.trans (hb2.mono (show b ≤ wr.heap.size by have := HBS.out; omega))).trans hb3
      go_wp2_with fail
      go_roundw
      case rel => exact ⟨j + 1, by omega, by go_num, Lib.hid (by rw [HE2.out]; exact hq3), hb23⟩
      case measure => simp [intOf]; omega
    · obtain rfl : j = nd := by omega
      have hg1 : decide ((j : Int) < (j : Int)) = false := decide_eq_false (by omega)
      obtain ⟨a0, a1⟩ := HC2.out wr hba
      have HQ := Lib.hid (show Bld b b (domsF m.doms ++ consF (m.cons.take 0)) wr by
        have h1 := hq.out
        rw [show m.doms.take j = m.doms from by rw [← HN.out.1]; exact List.take_length] at h1
        simpa [consF] using h1)
      clear hq hbz
      go_wp2_with fail
      go_loopw [27] (fun i wr => ∃ j : Nat, j ≤ nc ∧ i = .int .i64 j ∧ Hid (Bld b b (domsF m.doms ++ consF (m.cons.take j)) wr) ∧ Below b wb wr) (fun i _ => nc - (intOf i).toNat)
      case atStart => exact ⟨0, by omega, rfl, HQ, hb⟩
      case round =>
        obtain ⟨j2, hj2, rfl, hq, hb2⟩ := hrel
        clear HQ a0 a1 hb hba hzr
        rename World => wr
        have hba := HBB.out wr hb2
        have hzr := hb2.size
        by_cases hlt2 : j2 < nc
        · obtain ⟨eb, eo, kx, va, aa, ra, cv, ca', cr, rfl, heb, hxk, p0, p1, p2, p3, p4, hcr⟩ := ConR.at_ (HK.out wr hba) hlt2
          have HG := Lib.hid (V2.out kx (List.mem_of_getElem? hxk))
          have HSC := Lib.hid (VS.out kx (List.mem_of_getElem? hxk))
          have hs2 : (bs (conF kx)).size ≤ 60000000 := by rw [bs_size]; exact conF_len HG.out HSC.out
          have HE2 := Lib.hid (show domsF m.doms ++ consF (m.cons.take (j2 + 1)) = (domsF m.doms ++ consF (m.cons.take j2)) ++ (conF kx ++ [10]) by
            rw [List.take_add_one, hxk, Option.toList_some, consF_snoc]
            simp [List.append_assoc])
          have HT2 : Hid (bs (conF kx) ++ ⟨#[10]⟩ = bs (conF kx ++ [10])) := Lib.hid (by rw [show (⟨#[10]⟩ : ByteArray) = bs [10] from rfl, bs_app])
          have HLN : Hid ((domsF m.doms ++ consF (m.cons.take j2)).length + (conF kx ++ [10]).length ≤ 140737488355328) := by
            have h1 := HLC.out j2
            have h2 := conF_len HG.out HSC.out
            have h3 : (conF kx ++ [10]).length = (conF kx).length + 1 := by rw [List.length_append]; rfl
            exact Lib.hid (by omega)
          have hg1 : decide ((j2 : Int) < (nc : Int)) = true := decide_eq_true (by omega)
          obtain ⟨wx, hwx⟩ : ∃ wx, wr.alloc (.cells #[.int .i64 kx.kind, .slice va kx.vars.length cv, .slice aa kx.args.length ca', .int .i64 kx.bound, .slice ra kx.rows.length cr] 50) = wx := ⟨_, rfl⟩
          have hbx : Below wr.heap.size wr wx := by rw [← hwx]; exact b_alloc _ _
          have TX : TBlk 50 wx wr.heap.size #[.int .i64 kx.kind, .slice va kx.vars.length cv, .slice aa kx.args.length ca', .int .i64 kx.bound, .slice ra kx.rows.length cr] := by rw [← hwx]; exact TBlk.new _ _ _
          have x0 := TX.at_ 0 rfl
          have x1 := TX.at_ 1 rfl
          have x2 := TX.at_ 2 rfl
          have x3 := TX.at_ 3 rfl
          have x4 := TX.at_ 4 rfl
          have HCR := Lib.hid (ConR.on hcr hbx)
          have HQX := Lib.hid (hq.out.on hbx)
          have HTX := Lib.hid (((HT.out.on HB0.out).on hba).on hbx)
          have HBX := Lib.hid (hb2.trans (hbx.mono (show b ≤ wr.heap.size by have := HBS.out; omega)))
          clear hxk hcr hq TX hbx
          go_wp2_with fail
          clear hwx
          refine (itext _ kx wx HCR.out HSC.out HG.out HTX.out).mono ?_
          rintro e w2 ⟨rfl, hb3⟩
          have HQ2 := Lib.hid (HQX.out.on hb3)
          have hzx := HBX.out.size
          have hz2 : b ≤ w2.heap.size := by have := hb3.size; have := HBS.out; omega
          go_wp2_with fail
          rw [HT2.out]
          refine (writeS b b _ _ w2 HQ2.out HLN.out hz2).mono ?_
          rintro e w3 ⟨v, rfl, hq3, hb4⟩
          have hb24 : Below b wb w3 := (HBX.out.trans (hb3.mono (show b ≤ wx.heap.size by have := HBS.out; omega))).trans hb4
          go_wp2_with fail
          go_roundw
          case rel => exact ⟨j2 + 1, by omega, by go_num, Lib.hid (by rw [HE2.out]; exact hq3), hb24⟩
          case measure => simp [intOf]; omega
        · obtain rfl : j2 = nc := by omega
          have hg1 : decide ((j2 : Int) < (j2 : Int)) = false := decide_eq_false (by omega)
          have HQ := Lib.hid (show Bld b b (modF m) wr by
            have h1 := hq.out
            rw [show m.cons.take j2 = m.cons from by rw [← HN.out.2]; exact List.take_length] at h1
            exact h1)
          have hzb : b ≤ wr.heap.size := by have := HBS.out; omega
          clear hq
          go_wp2_with fail
          refine (stringB b b _ wr HQ.out hzb).mono ?_
          rintro e w2 ⟨rfl, hb3⟩
          go_wp2_with fail
          go_ret
          exact ⟨by rw [HE.out]; rfl, bgo HB0.out (HBB.out _ (hb2.trans hb3))⟩
end Go.Proofs.YtfoodlhfmcfjeaaDoor
