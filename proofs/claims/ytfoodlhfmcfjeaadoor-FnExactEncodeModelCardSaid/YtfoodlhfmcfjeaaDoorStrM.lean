/- The text of a model: spec's functions. -/
import Derived.Test.YtfoodlhfmcfjeaaDoorStrC
namespace Go.Proofs.YtfoodlhfmcfjeaaDoor
open Go.ChangeShapes Go.WideShapes Go.ChangeAt Go.RowKit
open Go.Shelf
set_option linter.unusedVariables false
set_option linter.unusedSimpArgs false
set_option maxRecDepth 100000

theorem vm_parts {m : Mod} (h : vmodF m = true) : (∀ d ∈ m.doms, 0 ≤ d ∧ d ≤ 63) ∧ (∀ c ∈ m.cons, GoodC c) ∧ m.doms.length ≤ 4 ∧ m.cons.length ≤ 6 := by
  unfold vmodF at h
  simp only [Bool.and_eq_true, List.all_eq_true, decide_eq_true_eq] at h
  have h3 := inB_true h.2.2.1
  exact ⟨fun d hd => inB_true (h.1 d hd), fun c hc => good_of (h.2.1 c hc) (by omega), by omega, by have := h.2.2.2; omega⟩
theorem domsF_len {ds : List Int} (h : ∀ d ∈ ds, 0 ≤ d ∧ d ≤ 63) : (domsF ds).length ≤ 69 * ds.length := by
  induction ds with
  | nil => simp [domsF]
  | cons d t ih =>
    have h1 := ih (fun x hx => h x (by simp [hx]))
    have h2 := enc_len' (h d (by simp)).1 (h d (by simp)).2
    have e : domsF (d :: t) = ([118, 97, 114, 32] ++ encF d ++ [10]) ++ domsF t := by simp [domsF]
    rw [e]
    simp only [List.length_append, List.length_cons, List.length_nil]
    omega
theorem consF_len {cs : List Con} (h : ∀ c ∈ cs, (conF c).length ≤ 60000000) : (consF cs).length ≤ 60000001 * cs.length := by
  induction cs with
  | nil => simp [consF]
  | cons c t ih =>
    have h1 := ih (fun x hx => h x (by simp [hx]))
    have h2 := h c (by simp)
    have e : consF (c :: t) = (conF c ++ [10]) ++ consF t := by simp [consF]
    rw [e]
    simp only [List.length_append, List.length_cons, List.length_nil]
    omega
set_option maxHeartbeats 2500000 in
theorem sformatMod (us : List Value) (m : Mod) (w : World) (h : ModR w w.heap.size us m) (hs : SmMod m) (hv : vmodF m = true) :
    Calls Tryd.prog 12 #[.agg us.toArray] w fun e w' => e = .returned (.string (bs (modF m))) ∧ Below w.heap.size w w' := by
  obtain ⟨da, ca, cd, cc, rfl, g1, g2, -⟩ := h
  obtain ⟨v1, v2, v3, v4⟩ := vm_parts hv
  obtain ⟨nd, hnd⟩ : ∃ nd, m.doms.length = nd := ⟨_, rfl⟩
  obtain ⟨nc, hnc⟩ : ∃ nc, m.cons.length = nc := ⟨_, rfl⟩
  have HN := Lib.hid (And.intro hnd hnc)
  rw [hnd] at g1 v3
  rw [hnc] at g2 v4
  rw [hnd, hnc]
  have V1 := Lib.hid v1
  have V2 := Lib.hid v2
  have VS := Lib.hid hs.2.2
  have HLD : Hid (∀ j, (bs (domsF (m.doms.take j))).size ≤ 300) := fun j => by
    rw [bs_size]
    have h1 := domsF_len (ds := m.doms.take j) (fun d hd => v1 d (List.mem_of_mem_take hd))
    have h2 : (m.doms.take j).length ≤ 4 := by rw [List.length_take]; omega
    omega
  have HLC : Hid (∀ j, (bs (domsF m.doms ++ consF (m.cons.take j))).size ≤ 400000000) := fun j => by
    rw [bs_size, List.length_append]
    have h0 := domsF_len v1
    have h1 := consF_len (cs := m.cons.take j) (fun c hc => conF_len (v2 c (List.mem_of_mem_take hc)) (hs.2.2 c (List.mem_of_mem_take hc)))
    have h2 : (m.cons.take j).length ≤ 6 := by rw [List.length_take]; omega
    omega
  obtain ⟨wa, hwa⟩ : ∃ wa, wa = w.alloc (.cells #[.slice da nd cd, .slice ca nc cc] 30) := ⟨_, rfl⟩
  have hb0 : Below w.heap.size w wa := by rw [hwa]; exact b_alloc _ _
  have HC : Hid (TBlk 30 wa w.heap.size #[.slice da nd cd, .slice ca nc cc]) := by rw [hwa]; exact TBlk.new _ _ _
  have HB0 := Lib.hid hb0
  have HD : Hid (∀ W, Below wa.heap.size wa W → IntR W W.heap.size da nd m.doms) := fun W hb => IntR.on g1 (bgo hb0 hb)
  have HK : Hid (∀ W, Below wa.heap.size wa W → ConsR W W.heap.size ca nc m.cons) := fun W hb => ConsR.on g2 (bgo hb0 hb)
  have HC2 : Hid (∀ W, Below wa.heap.size wa W → W.cell? ⟨w.heap.size, 0, none⟩ = some (.slice da nd cd) ∧ W.cell? ⟨w.heap.size, 1, none⟩ = some (.slice ca nc cc)) := fun W hb => by
    have t := HC.out.below_ hb HC.out.lt
    exact ⟨t.at_ 0 rfl, t.at_ 1 rfl⟩
  clear g1 g2 v1 v2 hs hv hb0 hnd hnc
  go_enter Tryd.func12, Tryd.ntmps12
  go_wp2_with fail
  rw [← hwa]
  clear hwa
  go_loopw [3, 4] (fun v i wr => ∃ j : Nat, j ≤ nd ∧ i = .int .i64 j ∧ v = .string (bs (domsF (m.doms.take j))) ∧ Below wa.heap.size wa wr) (fun _ i _ => nd - (intOf i).toNat)
  case atStart => exact ⟨0, by omega, rfl, rfl, Below.refl _ _⟩
  case round =>
    obtain ⟨j, hj, rfl, rfl, hb⟩ := hrel
    rename World => wr
    have hs1 := HLD.out j
    obtain ⟨f0, f1⟩ := HC2.out wr hb
    by_cases hlt : j < nd
    · obtain ⟨ab, ao, d, u, rfl, hab, hxk, hcx, rfl⟩ := SlR.at_ (HD.out wr hb) hlt
      have hd := V1.out d (List.mem_of_getElem? hxk)
      have hs2 : (bs (encF d)).size ≤ 64 := by rw [bs_size]; exact enc_len' hd.1 hd.2
      have HE := Lib.hid (show bs (domsF (m.doms.take j)) ++ ⟨#[118, 97, 114, 32]⟩ ++ bs (encF d) ++ ⟨#[10]⟩ = bs (domsF (m.doms.take (j + 1))) by
        rw [List.take_add_one, hxk, Option.toList_some, domsF_snoc, show (⟨#[118, 97, 114, 32]⟩ : ByteArray) = bs [118, 97, 114, 32] from rfl, show (⟨#[10]⟩ : ByteArray) = bs [10] from rfl, bs_app, bs_app, bs_app]
        simp [List.append_assoc])
      have hg1 : decide ((j : Int) < (nd : Int)) = true := decide_eq_true (by omega)
      clear hxk
      go_wp2_with fail
      refine (format d hd.1 hd.2 wr).mono ?_
      rintro e w1 ⟨rfl, hb1⟩
      go_wp2_with fail
      go_roundw
      case rel => exact ⟨j + 1, by omega, by go_num, by rw [← HE.out], hb.trans (hb1.mono hb.size)⟩
      case measure => simp [intOf]; omega
    · obtain rfl : j = nd := by omega
      have hg1 : decide ((j : Int) < (j : Int)) = false := decide_eq_false (by omega)
      have HF := Lib.hid (show bs (domsF (m.doms.take j)) = bs (domsF m.doms ++ consF (m.cons.take 0)) by rw [show m.doms.take j = m.doms from by rw [← HN.out.1]; exact List.take_length]; simp [consF])
      go_wp2_with fail
      rw [HF.out]
      clear hs1 f0 f1
      go_loopw [3, 5] (fun v i wr => ∃ j : Nat, j ≤ nc ∧ i = .int .i64 j ∧ v = .string (bs (domsF m.doms ++ consF (m.cons.take j))) ∧ Below wa.heap.size wa wr) (fun _ i _ => nc - (intOf i).toNat)
      case atStart => exact ⟨0, by omega, rfl, rfl, hb⟩
      case round =>
        obtain ⟨j2, hj2, rfl, rfl, hb2⟩ := hrel
        clear hb
        rename World => wr
        have hs1 := HLC.out j2
        obtain ⟨f0, f1⟩ := HC2.out wr hb2
        by_cases hlt2 : j2 < nc
        · obtain ⟨eb, eo, kx, va, aa, ra, cv, ca', cr, rfl, heb, hxk, p0, p1, p2, p3, p4, hcr⟩ := ConR.at_ (HK.out wr hb2) hlt2
          have HG := Lib.hid (V2.out kx (List.mem_of_getElem? hxk))
          have HSC := Lib.hid (VS.out kx (List.mem_of_getElem? hxk))
          have hs2 : (bs (conF kx)).size ≤ 60000000 := by rw [bs_size]; exact conF_len HG.out HSC.out
          have HE := Lib.hid (show bs (domsF m.doms ++ consF (m.cons.take j2)) ++ bs (conF kx) ++ ⟨#[10]⟩ = bs (domsF m.doms ++ consF (m.cons.take (j2 + 1))) by
            rw [List.take_add_one, hxk, Option.toList_some, consF_snoc, show (⟨#[10]⟩ : ByteArray) = bs [10] from rfl, bs_app, bs_app]
            simp [List.append_assoc])
          have HCR := Lib.hid hcr
          have hg1 : decide ((j2 : Int) < (nc : Int)) = true := decide_eq_true (by omega)
          clear hxk hcr
          go_wp2_with fail
          refine (sformatCon _ kx wr HCR.out HSC.out HG.out).mono ?_
          rintro e w1 ⟨rfl, hb1⟩
          go_wp2_with fail
          go_roundw
          case rel => exact ⟨j2 + 1, by omega, by go_num, by rw [← HE.out], hb2.trans (hb1.mono hb2.size)⟩
          case measure => simp [intOf]; omega
        · obtain rfl : j2 = nc := by omega
          have hg1 : decide ((j2 : Int) < (j2 : Int)) = false := decide_eq_false (by omega)
          have HF2 := Lib.hid (show bs (domsF m.doms ++ consF (m.cons.take j2)) = bs (modF m) by unfold modF; rw [show m.cons.take j2 = m.cons from by rw [← HN.out.2]; exact List.take_length])
          go_wp2_with fail
          go_ret
          exact ⟨(by rw [HF2.out] : Ending.returned (.string (bs (domsF m.doms ++ consF (m.cons.take j2)))) = .returned (.string (bs (modF m)))), HB0.out.trans (hb2.mono HB0.out.size)⟩
/-- the text of a model, or none. -/
def encM (m : Mod) : List UInt8 := if vmodF m = true then modF m else []
set_option maxHeartbeats 1500000 in
theorem sEncodeModel (us : List Value) (m : Mod) (w : World) (h : ModR w w.heap.size us m) (hs : SmMod m) :
    Calls Tryd.prog 5 #[.agg us.toArray] w fun e w' => e = .returned (.string (bs (encM m))) ∧ Below w.heap.size w w' := by
  have G := Lib.hid h
  obtain ⟨da, ca, nd, cd, nc, cc, rfl⟩ := h.two
  obtain ⟨wa, hwa⟩ : ∃ wa, wa = w.alloc (.cells #[.slice da nd cd, .slice ca nc cc] 30) := ⟨_, rfl⟩
  have hb0 : Below w.heap.size w wa := by rw [hwa]; exact b_alloc _ _
  have HC : Hid (TBlk 30 wa w.heap.size #[.slice da nd cd, .slice ca nc cc]) := by rw [hwa]; exact TBlk.new _ _ _
  have HB0 := Lib.hid hb0
  have HS := Lib.hid hs
  have a0 := HC.out.at_ 0 rfl
  have a1 := HC.out.at_ 1 rfl
  clear h hb0 hs
  go_enter Tryd.func5, Tryd.ntmps5
  go_wp2_with fail
  rw [← hwa]
  clear hwa
  refine (svalidModel _ m _ (ModR.on G.out HB0.out)).mono ?_
  rintro e w1 ⟨rfl, hb1⟩
  cases hv : vmodF m
  · have HE := Lib.hid (show encM m = [] by unfold encM; rw [hv]; rfl)
    clear hv
    go_wp2_with fail
    go_ret
    exact ⟨by rw [HE.out]; rfl, bgo HB0.out hb1⟩
  · have HE := Lib.hid (show encM m = modF m by unfold encM; rw [hv]; rfl)
    have HV := Lib.hid hv
    have t := HC.out.below_ hb1 HC.out.lt
    have b0 := t.at_ 0 rfl
    have b1 := t.at_ 1 rfl
    clear a0 a1 hv t
    go_wp2_with fail
    refine (sformatMod _ m w1 (ModR.on G.out (bgo HB0.out hb1)) HS.out HV.out).mono ?_
    rintro e w2 ⟨rfl, hb2⟩
    go_wp2_with fail
    go_ret
    exact ⟨by rw [HE.out]; rfl, bgo (bgo HB0.out hb1) hb2⟩
end Go.Proofs.YtfoodlhfmcfjeaaDoor
