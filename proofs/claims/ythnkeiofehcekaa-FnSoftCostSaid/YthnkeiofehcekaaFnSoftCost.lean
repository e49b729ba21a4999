/- FnSoftCost: for every input the law returns true and its arguments read as before; no further condition. -/
import Derived.Test.YthnkeiofehcekaaRows
import Derived.WalkKit
import Derived.ProofKit
import Derived.OpenShut
import Derived.Carry
import Derived.StillTailTactics
import Derived.Test.YthnkeiofehcekaaOpenC
import Derived.Test.YthnkeiofehcekaaDraw
import Derived.Test.YthnkeiofehcekaaVio
import Derived.Test.YthnkeiofehcekaaDrawS
namespace Go.Proofs.Ythnkeiofehcekaa.fnSoftCost
open Go.ChangeShapes Go.WideShapes Go.ChangeAt Go.RowKit
open Go.Shelf
set_option linter.unusedVariables false
set_option maxRecDepth 100000

theorem own : ownKnob Try.prog.godebug = none := by kernel_rfl
theorem laid : laidOutB Try.prog = true := by kernel_rfl

def pw (x : Int) : Int := 2 ^ x.toNat
theorem pw_dom {x : Int} (h0 : 0 ≤ x) (h5 : x ≤ 5) : vdB (pw x) = true := by
  obtain ⟨n, rfl⟩ := Int.eq_ofNat_of_zero_le h0
  have : n ≤ 5 := by omega
  match n, this with
  | 0, _ => rfl
  | 1, _ => rfl
  | 2, _ => rfl
  | 3, _ => rfl
  | 4, _ => rfl
  | 5, _ => rfl
theorem cost_ok {ss : List Sof} {xs : List Int} (h : ¬ costF ss xs < 0) : inB xs.length 1 4 = true ∧ (xs.all fun x => inB x 0 5) = true ∧ softsF ss xs.length = true ∧ costF ss xs = costTo ss xs ss.length := by
  cases hc : (inB xs.length 1 4 && ((xs.all fun x => inB x 0 5) && softsF ss xs.length))
  · rw [costF_no hc] at h; omega
  · have := costF_yes hc
    simp only [Bool.and_eq_true] at hc
    exact ⟨hc.1, hc.2.1, hc.2.2, this⟩
theorem vio_one {c : Con} {xs : List Int} (h1 : inB xs.length 1 4 = true) (h2 : (xs.all fun x => inB x 0 5) = true) (h3 : vconF c xs.length = true) : (vioF ⟨xs.map pw, [c]⟩ xs).length = if holdF c xs = true then 0 else 1 := by
  have hv := all_vals h2
  have hm : vmodF ⟨xs.map pw, [c]⟩ = true := by
    unfold vmodF
    simp only [List.length_map, Bool.and_eq_true, List.all_map, List.all_eq_true, Function.comp]
    refine ⟨fun x hx => pw_dom (hv x hx).1 (hv x hx).2, fun x hx => ?_, h1, by simp⟩
    rw [List.mem_singleton.1 hx]; exact h3
  have ha : asgF xs (xs.map pw).length = true := by unfold asgF; rw [List.length_map, h2]; simp
  rw [vioF_yes hm ha]
  show (vioTo ⟨xs.map pw, [c]⟩ xs 1).length = _
  have h0 : holdAt ⟨xs.map pw, [c]⟩ xs 0 = holdF c xs := holdAt_eq rfl
  cases hh : holdF c xs
  · rw [vioTo_no (by rw [h0, hh])]; rfl
  · rw [vioTo_yes (by rw [h0, hh])]; rfl
theorem one_con {w : World} {b : Nat} {c : Con} {us : List Value} {t : TypeId} (h : TBlk t w b us.toArray) (hl : us.length = 5) (hr : ConR w w.heap.size us c) : ConsR w w.heap.size (some ⟨b, 0, none⟩) 1 [c] := by
  refine ⟨rfl, by omega, fun _ => ⟨b, 0, rfl, h.lt, fun i x hx => ?_⟩⟩
  match i, hx with
  | 0, hx =>
    simp at hx
    subst hx
    exact ⟨us, hl, fun j u hj => by
      have := h.at_ j (u := u) (by simpa using hj)
      simpa using this, hr⟩
  | i + 1, hx => simp at hx
set_option maxHeartbeats 8000000 in
theorem walk {W : World} (A0 : Option Addr) (n0 c0 : Nat) (xs0 : List Int) (g0 : CodeA W W.heap.size A0 n0 c0 xs0) :
    Calls Try.prog 3 #[.slice A0 n0 c0] W fun e w' => e = .returned (.bool true) ∧ Below W.heap.size W w' := by
  obtain ⟨i0, hi0, hz0, hz1, hz2⟩ := info_parts info_int
  by_cases hlen : (1048576 : Int) < (n0 : Int)
  · have hd : decide ((1048576 : Int) < (n0 : Int)) = true := decide_eq_true hlen
    clear hlen
    go_enter Try.func3, Try.ntmps3
    go_wp2_with fail
    go_ret
    exact ⟨rfl, Below.refl _ _⟩
  have hd : decide ((1048576 : Int) < (n0 : Int)) = false := decide_eq_false hlen
  go_enter Try.func3, Try.ntmps3
  go_wp2_with fail
  refine (drawSoftCost _ _ _ _ _ g0).mono ?_
  rintro e W1 ⟨v1, v2, ss, xs, rfl, ⟨hs3, hx1, hx4, -⟩, o1, o2, c0⟩
  obtain ⟨A, ca, rfl, ra, -⟩ := OwnSofs.read o1
  obtain ⟨B, cb, rfl, rb, -⟩ := IntR.of_own o2 (by omega)
  obtain ⟨ns, hns⟩ : ∃ ns, ss.length = ns := ⟨_, rfl⟩
  obtain ⟨nx, hnx⟩ : ∃ nx, xs.length = nx := ⟨_, rfl⟩
  rw [hns] at ra hs3 ⊢
  rw [hnx] at rb hx1 hx4 ⊢
  have HNS := Lib.hid hns
  have HNX := Lib.hid hnx
  clear hns hnx o1 o2
  go_wp2_with fail
  refine (iSoftCost _ _ _ _ _ _ _ _ _ ra rb).mono ?_
  rintro e W2 ⟨rfl, hB⟩
  replace c0 := bgo c0 hB
  have c1 := hB
  clear hB
  go_wp2_with fail
  refine (sSoftCost _ _ _ _ _ _ _ _ _ (ra.on c1) (rb.on c1)).mono ?_
  rintro e W3 ⟨rfl, hB⟩
  replace c0 := bgo c0 hB
  replace c1 := bgo c1 hB
  clear hB
  cases tn : decide (costF ss xs < 0)
  case true =>
    go_wp2_with fail
    refine (sSoftCost _ _ _ _ _ _ _ _ _ (ra.on c1) (rb.on c1)).mono ?_
    rintro e W4 ⟨rfl, hB⟩
    replace c0 := bgo c0 hB
    go_wp2_with fail
    go_ret
    exact ⟨by simp, c0⟩
  obtain ⟨h1, h2, h3, h4⟩ := cost_ok (of_decide_eq_false tn)
  have H1 := Lib.hid h1
  have H2 := Lib.hid h2
  have H3 := Lib.hid h3
  have H4 := Lib.hid h4
  have hv5 := all_vals h2
  have HV := Lib.hid hv5
  clear h1 h2 h3 h4 hv5
  have hzW := c0.size
  have hzW1 := c1.size
  obtain ⟨wz, hwz⟩ : ∃ wz, W3.alloc (.cells #[.slice none 0 0, .slice none 0 0] 30) = wz := ⟨_, rfl⟩
  have hbz : Below W3.heap.size W3 wz := by rw [← hwz]; exact b_alloc _ _
  have hzz : wz.heap.size = W3.heap.size + 1 := by rw [← hwz, size_alloc_]
  have hTz : TBlk 30 wz W3.heap.size #[.slice none 0 0, .slice none 0 0] := by rw [← hwz]; exact TBlk.new _ _ _
  have x0 : wz.cell? ⟨W3.heap.size, 0, none⟩ = some (.slice none 0 0) := hTz.at_ 0 rfl
  have x1 : wz.cell? ⟨W3.heap.size, 1, none⟩ = some (.slice none 0 0) := hTz.at_ 1 rfl
  have e0 := hTz.frozen 0
  have e1 := hTz.frozen 1
  obtain ⟨w4, hw4⟩ : ∃ w4, (wz.setCell ⟨W3.heap.size, 0, none⟩ (.slice none 0 0)).setCell ⟨W3.heap.size, 1, none⟩ (.slice none 0 0) = w4 := ⟨_, rfl⟩
  have hT : TBlk 30 w4 W3.heap.size #[.slice none 0 0, .slice none 0 0] := by rw [← hw4]; exact (hTz.store 0 _).store 1 _
  have hbw : Below W3.heap.size W3 w4 := by rw [← hw4]; exact (hbz.setCell (Nat.le_refl _) _).setCell (Nat.le_refl _) _
  have hz4 : w4.heap.size = W3.heap.size + 1 := by rw [← hw4]; simp [hzz]
  have HT := Lib.hid hT
  replace c0 := bgo c0 hbw
  replace c1 := bgo c1 hbw
  clear hT hTz hbz hbw
  go_wp2_with fail
  clear hwz hw4 x0 x1 e0 e1
  have hz4a : W3.heap.size < w4.heap.size := by omega
  clear hz4 hzz
  go_loopw [8] (fun i wr => ∃ (k : Nat) (A2 : Option Addr) (d2 : Nat), k ≤ nx ∧ i = .int .i64 k ∧ Hid (TBlk 30 wr W3.heap.size #[.slice A2 k d2, .slice none 0 0]) ∧ Hid (wr.ownsRow w4.heap.size 3 1 (.slice A2 k d2) k (((xs.take k).map pw).map (.int .i64))) ∧ Below W.heap.size W wr ∧ Below W1.heap.size W1 wr ∧ w4.heap.size ≤ wr.heap.size) (fun i _ => nx - (intOf i).toNat)
  case atStart => exact ⟨0, none, 0, by omega, rfl, HT, Lib.hid (World.ownsRow_nil _ _ _ _), c0, c1, Nat.le_refl _⟩
  case round =>
    obtain ⟨k, A2, d2, hk, rfl, ht, ho, c2, c3, hzr⟩ := hrel
    clear HT c0 c1
    rename World => wr
    have hzr2 : W3.heap.size < wr.heap.size := by omega
    by_cases hlt : k < nx
    · obtain ⟨ab, ao, x, rfl, hab, hxk, hcx⟩ := IntR.at_ (rb.on c3) hlt
      have hx05 := HV.out x (List.mem_of_getElem? hxk)
      have hsn : (xs.take k).map pw ++ [pw x] = (xs.take (k + 1)).map pw := by rw [List.take_add_one, hxk]; simp
      have HSN := Lib.hid hsn
      obtain ⟨m, rfl⟩ : ∃ m : Nat, x = (m : Int) := ⟨x.toNat, by omega⟩
      have hm5 : m ≤ 5 := by omega
      have hwr : IntKind.i64.wrap ((2 : Int) ^ m) = pw (m : Int) := by
        match m, hm5 with
        | 0, _ => rfl
        | 1, _ => rfl
        | 2, _ => rfl
        | 3, _ => rfl
        | 4, _ => rfl
        | 5, _ => rfl
      have a0 : wr.cell? ⟨W3.heap.size, 0, none⟩ = some (.slice A2 k d2) := ht.out.at_ 0 rfl
      have hbx : Below wr.heap.size wr (wr.alloc (.cells #[.int .i64 (pw (m : Int))] 3)).drew := below_drewN (b_alloc _ _) 1
      have hzx : (wr.alloc (.cells #[.int .i64 (pw (m : Int))] 3)).drew.heap.size = wr.heap.size + 1 := size_alloc_ _ _
      have a0' : (wr.alloc (.cells #[.int .i64 (pw (m : Int))] 3)).cell? ⟨W3.heap.size, 0, none⟩ = some (.slice A2 k d2) := ((b_alloc wr (.cells #[.int .i64 (pw (m : Int))] 3)).cell (p := ⟨W3.heap.size, 0, none⟩) hzr2).trans a0
      clear hsn
      go_wp2_with fail
      go_region_law (first
        | (refine step_append_any (by rfl) _ _ 24 (by rfl) w4.heap.size 3 i0 _ 1 8 Try.underlying24 hi0 hz0 hz1 hz2 rfl (by omega) (.slice A2 k d2) k _ (by rfl) (own_below ho.out hbx) (some ⟨wr.heap.size, 0, none⟩) 1 [.int .i64 (pw (m : Int))] (by exact ⟨_, rfl, .inr ⟨_, rfl, rfl, fun j u hj => cell_one_new wr _ _ j u hj⟩⟩) (by simp [Value.oneCell']) (by unfold maxLen; omega) (by omega) (by rw [hzx]; omega) ?_
           intro v1 w6 hown hbw hgr _
           have hown2 : w6.ownsRow w4.heap.size 3 1 v1 (k + 1) (((xs.take (k + 1)).map pw).map (.int .i64)) := by rw [← HSN.out]; simpa using hown
           obtain ⟨A6, d6, rfl, -⟩ := IntR.of_own hown2 (by omega)
           have t6 := (ht.out.below_ hbx hzr2).below_ hbw (by omega)
           have a6 : w6.cell? ⟨W3.heap.size, 0, none⟩ = some (.slice A2 k d2) := t6.at_ 0 rfl
           have f6 := t6.frozen 0))
      all_goals
        have z6 := hbw.size
        have T6 := Lib.hid t6
        have O6 := Lib.hid hown2
        have b6 : Below w4.heap.size wr w6 := (hbx.mono (by omega)).trans hbw
        clear t6 hown2 hown hgr hbw
        go_wp2_with fail
        go_roundw
        case rel => exact ⟨k + 1, A6, d6, by omega, by go_num, Lib.hid (T6.out.store 0 _), Lib.hid (own_shun (by decide) 0 _ T6.out O6.out), (c2.trans (b6.mono (by omega))).setCell (by omega) _, (c3.trans (b6.mono (by omega))).setCell (by omega) _, by simp; omega⟩
        case measure => simp [intOf]; omega
    · obtain rfl : nx = k := by omega
      have htk : xs.take nx = xs := List.take_of_length_le (by rw [HNX.out]; omega)
      rw [htk] at ho
      have HCD := Lib.hid (own_cap ho.out)
      have HO := Lib.hid ho.out
      clear ho htk
      go_wp2_with fail
      go_loopw [7, 9] (fun t i wx => ∃ (k : Nat) (A3 : Option Addr) (n3 d3 : Nat), k ≤ ns ∧ i = .int .i64 k ∧ t = .int .i64 (costTo ss xs k) ∧ Hid (TBlk 30 wx W3.heap.size #[.slice A2 nx d2, .slice A3 n3 d3]) ∧ Below W.heap.size W wx ∧ Below W1.heap.size W1 wx ∧ Hid (wx.ownsRow w4.heap.size 3 1 (.slice A2 nx d2) nx ((xs.map pw).map (.int .i64)))) (fun _ i _ => ns - (intOf i).toNat)
      case atStart => exact ⟨0, none, 0, 0, by omega, rfl, rfl, ht, c2, c3, HO⟩
      case round =>
        obtain ⟨k, A3, n3, d3, hk, rfl, rfl, ht3, c4, c5, ho⟩ := hrel
        clear ht HO c2 c3
        rename World => wx
        have hzx1 := c4.size
        have hzx2 := ht3.out.lt
        by_cases hlt : k < ns
        · obtain ⟨sb, so, s, va, aa, ra', cv, ca', cr, rfl, hsb, hsk, p0, p1, p2, p3, p4, p5, hcr⟩ := SofR.at_ ra hlt
          have q0 := (c5.cell (p := ⟨sb, _, none⟩) hsb).trans p0
          have q1 := (c5.cell (p := ⟨sb, _, none⟩) hsb).trans p1
          have q2 := (c5.cell (p := ⟨sb, _, none⟩) hsb).trans p2
          have q3 := (c5.cell (p := ⟨sb, _, none⟩) hsb).trans p3
          have q4 := (c5.cell (p := ⟨sb, _, none⟩) hsb).trans p4
          have P5 := Lib.hid p5
          have HCR := Lib.hid hcr
          have HSK := Lib.hid hsk
          clear p0 p1 p2 p3 p4 p5 hcr hsk
          obtain ⟨wy, hwy⟩ : ∃ wy, wx.alloc (.cells #[.int .i64 s.con.kind, .slice va s.con.vars.length cv, .slice aa s.con.args.length ca', .int .i64 s.con.bound, .slice ra' s.con.rows.length cr] 33) = wy := ⟨_, rfl⟩
          have hby : Below wx.heap.size wx wy := by rw [← hwy]; exact b_alloc _ _
          have hzy : wy.heap.size = wx.heap.size + 1 := by rw [← hwy, size_alloc_]
          have hTy : TBlk 33 wy wx.heap.size #[.int .i64 s.con.kind, .slice va s.con.vars.length cv, .slice aa s.con.args.length ca', .int .i64 s.con.bound, .slice ra' s.con.rows.length cr] := by rw [← hwy]; exact TBlk.new _ _ _
          have hT2 := ht3.out.below_ hby hzx2
          have y1 : wy.cell? ⟨W3.heap.size, 1, none⟩ = some (.slice A3 n3 d3) := hT2.at_ 1 rfl
          have f1 := hT2.frozen 1
          obtain ⟨wv, hwv⟩ : ∃ wv, wy.setCell ⟨W3.heap.size, 1, none⟩ (.slice (some ⟨wx.heap.size, 0, none⟩) 1 1) = wv := ⟨_, rfl⟩
          have hT3 : TBlk 30 wv W3.heap.size #[.slice A2 nx d2, .slice (some ⟨wx.heap.size, 0, none⟩) 1 1] := by rw [← hwv]; exact hT2.store 1 _
          have hTv : TBlk 33 wv wx.heap.size #[.int .i64 s.con.kind, .slice va s.con.vars.length cv, .slice aa s.con.args.length ca', .int .i64 s.con.bound, .slice ra' s.con.rows.length cr] := by rw [← hwv]; exact hTy.far (by omega)
          have c4v : Below W.heap.size W wv := by rw [← hwv]; exact (c4.trans (hby.mono hzx1)).setCell (by omega) _
          have c5v : Below W1.heap.size W1 wv := by rw [← hwv]; exact (c5.trans (hby.mono c5.size)).setCell (by omega) _
          have hov : wv.ownsRow w4.heap.size 3 1 (.slice A2 nx d2) nx ((xs.map pw).map (.int .i64)) := by rw [← hwv]; exact own_shun (by decide) 1 _ hT2 (own_below ho.out hby)
          obtain ⟨A9, c9, e9, rd, -⟩ := IntR.of_own hov (by omega)
          injection e9 with e9 _ e10
          subst e9 e10
          have hml : (xs.map pw).length = nx := by rw [List.length_map]; exact HNX.out
          have hmod : ModR wv wv.heap.size [.slice A2 nx d2, .slice (some ⟨wx.heap.size, 0, none⟩) 1 1] ⟨xs.map pw, [s.con]⟩ :=
            ⟨A2, some ⟨wx.heap.size, 0, none⟩, d2, 1, by show _ = [Value.slice A2 (xs.map pw).length d2, _]; rw [hml]; rfl, by show IntR _ _ _ (xs.map pw).length _; rw [hml]; exact rd, one_con hTv rfl (HCR.out.on c5v), by show (xs.map pw).length ≤ d2; rw [hml]; exact HCD.out, Nat.le_refl _⟩
          have z0 : wv.cell? ⟨W3.heap.size, 0, none⟩ = some (.slice A2 nx d2) := hT3.at_ 0 rfl
          have z1 : wv.cell? ⟨W3.heap.size, 1, none⟩ = some (.slice (some ⟨wx.heap.size, 0, none⟩) 1 1) := hT3.at_ 1 rfl
          have HT3 := Lib.hid hT3
          have HOV := Lib.hid hov
          have hlx2 : xs.length = nx := HNX.out
          have hvl := vio_one (c := s.con) (xs := xs) H1.out H2.out (softAt_sat (xs := xs) H3.out (List.mem_of_getElem? HSK.out))
          have HVL := Lib.hid hvl
          clear hby hTy hT2 hT3 hTv hov c4 c5 ho ht3 hlx2 hvl hml
          go_wp2_with fail
          refine (iViolated _ _ _ _ _ _ _ hmod (rb.on c5v)).mono ?_
          rintro e w5 ⟨v, rfl, hh, hB⟩
          obtain ⟨A8, c8, rfl⟩ := hh.form
          have c6 := bgo c4v hB
          have c7 := bgo c5v hB
          have ht6 := Lib.hid (HT3.out.below_ hB HT3.out.lt)
          have ho6 := Lib.hid (own_below HOV.out hB)
          have q5 := (c7.cell (p := ⟨sb, _, none⟩) hsb).trans P5.out
          clear hB hh c4v c5v HT3 HOV hmod y1 f1 z0 z1 hwy hwv q0 q1 q2 q3 q4
          cases hf : holdF s.con xs
          · have hst := costTo_no HSK.out hf
            have hvn := HVL.out
            rw [if_neg (by rw [hf]; decide)] at hvn
            rw [hvn]
            clear hvn
            go_wp2_with fail
            go_roundw
            case rel => exact ⟨k + 1, _, _, _, by omega, by go_num, by rw [hst], ht6, c6, c7, ho6⟩
            case measure => simp [intOf]; omega
          · have hst := costTo_yes HSK.out hf
            have hvn := HVL.out
            rw [if_pos hf] at hvn
            rw [hvn]
            clear hvn
            go_wp2_with fail
            go_roundw
            case rel => exact ⟨k + 1, _, _, _, by omega, by go_num, by rw [hst], ht6, c6, c7, ho6⟩
            case measure => simp [intOf]; omega
        · obtain rfl : ns = k := by omega
          have h4 := H4.out
          rw [HNS.out] at h4
          rw [h4]
          go_wp2_with fail
          go_ret
          exact ⟨by simp, c4⟩

set_option maxRecDepth 100000 in
theorem lifted (os : Os) (started : os.Started) (H : Type) (enc : TypeId × Value → H) :
    ReturnsInHanded {} Try.checked os 3 .any (Rows.fnSoftCostSpec.pre6 enc Try.prog Try.f3 Rows.fnSoftCostRow.domain false) (Rows.fnSoftCostSpec.post enc Try.prog Try.f3 false true false false) := by
  refine returnsInHanded_of_change (C := Try.checked) own started (by kernel_rfl) Try.func3
    (ChangeSpec.witness6 (enc := enc) (C := Try.checked) false ⟨#[], #[.slice none 0 0], []⟩ 8 (by kernel_rfl) (by kernel_rfl) (by kernel_rfl) (by kernel_rfl)) ?_
  intro W base args ds gs before hval0 hW hcnd _
  have hval : ∀ (j : Nat) t v, Try.f3.params[j]? = some t → args[j]? = some v → Value.okWide Try.prog W .any base t v := hval0
  have hW' := hW
  obtain ⟨p, q, hA0, hV, rfl, hfz, hnd⟩ := hW
  have hA : DataW.TrodAll enc Try.prog W 0 (fun _ => true) true Try.f3.params.toList args.toList ds p := hA0
  rw [Try.params3] at hA hval
  obtain ⟨v0, vs0, d0, ds0, p0, q0, hargs, rfl, rfl, h0, r0⟩ := trodAll_cons hA
  obtain ⟨rfl, rfl, rfl⟩ := trodAll_nil r0
  obtain rfl : args = #[v0] := by cases args; simp_all
  obtain ⟨rfl, rfl⟩ := trodVars_none hV
  have k0 := h0
  have l0 : ∀ x ∈ p0, x.block < W.heap.size := fun x hx => hW'.lt x (by simp [hx])
  obtain ⟨A0, n0, c0, xs0, rfl, g0⟩ := open_byteS Try.underlying22 Try.underlying5 (by kernel_rfl) (hval 0 22 v0 rfl rfl) k0
  clear hA0 hval0
  refine (walk A0 n0 c0 xs0 g0).mono fun e W' ⟨he, hb⟩ => ?_
  subst he
  exact ⟨_, rfl, _, _, _, [], _, [], hW', trodAll_cons_mk (p := []) (shut_bool Try.underlying4 _) trodAll_mk0, (trodAll_cons_mk (Below.trod laid (by kernel_rfl) (of_decide_eq_true (by kernel_rfl)) h0 hb l0) trodAll_mk0), rfl, hb.frame _, fun h => by cases h⟩

theorem over : Rows.fnSoftCostRow.holds Try.pinned (OpenSpec.ofChange Rows.fnSoftCostSpec) :=
  OpenClaim.holds_of_wide 3 Try.f3 rfl rfl rfl rfl rfl rfl rfl ⟨rfl, rfl, rfl, rfl, rfl⟩ rfl rfl rfl rfl rfl (by kernel_rfl) Try.func3 (by kernel_rfl)
    (of_decide_eq_true (by kernel_rfl)) (by unfold Func.isWrapper; first | (rw [if_pos (by decide +kernel)]; kernel_rfl) | (rw [if_neg (by decide +kernel)]; exact ⟨rfl, rfl⟩))
    (fun os started H enc _ => lifted os started H enc)

/-- The statement. -/
theorem proved : Rows.FnSoftCostSaid :=
  over
#print axioms proved
end Go.Proofs.Ythnkeiofehcekaa.fnSoftCost
