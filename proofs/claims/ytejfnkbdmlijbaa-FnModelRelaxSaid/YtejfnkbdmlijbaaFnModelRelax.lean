/- FnModelRelax: for every input the law returns true and its arguments read as before; no further condition. -/
import Derived.Test.YtejfnkbdmlijbaaRows
import Derived.WalkKit
import Derived.ProofKit
import Derived.OpenShut
import Derived.Carry
import Derived.StillTailTactics
import Derived.Test.YtejfnkbdmlijbaaHiFnModelRelaxB
import Derived.Test.YtejfnkbdmlijbaaSolI
import Derived.Test.YtejfnkbdmlijbaaWithI
import Derived.Test.YtejfnkbdmlijbaaOpenC
namespace Go.Proofs.Ytejfnkbdmlijbaa.fnModelRelax
open Go.ChangeShapes Go.WideShapes Go.ChangeAt Go.RowKit
open Go.Shelf
set_option linter.unusedVariables false
set_option maxRecDepth 100000

theorem own : ownKnob Try.prog.godebug = none := by kernel_rfl
theorem laid : laidOutB Try.prog = true := by kernel_rfl

theorem hT2 {w w' : World} {b : Nat} {x0 x1 : Value} (h : TBlk 26 w b #[x0, x1]) (hb : Below w.heap.size w w') :
    TBlk 26 w' b #[x0, x1] ∧ w'.cell? ⟨b, 0, none⟩ = some x0 ∧ w'.cell? ⟨b, 1, none⟩ = some x1 := by
  have t := h.below_ hb h.lt
  exact ⟨t, t.at_ 0 rfl, t.at_ 1 rfl⟩
theorem iIsSolution_b (us : List Value) (m : Mod) (A : Option Addr) (n d : Nat) (xs : List Int) (w : World) (b : Bool) (hb : isF m xs = b) (h : ModR w w.heap.size us m) (hx : IntR w w.heap.size A n xs) :
    Calls Try.prog 11 #[.agg us.toArray, .slice A n d] w fun e w' => e = .returned (.bool b) ∧ Below w.heap.size w w' := by
  subst hb; exact iIsSolution us m A n d xs w h hx
theorem sIsSolution_b (us : List Value) (m : Mod) (A : Option Addr) (n d : Nat) (xs : List Int) (w : World) (b : Bool) (hb : isF m xs = b) (h : ModR w w.heap.size us m) (hx : IntR w w.heap.size A n xs) :
    Calls Try.prog 12 #[.agg us.toArray, .slice A n d] w fun e w' => e = .returned (.bool b) ∧ Below w.heap.size w w' := by
  subst hb; exact sIsSolution us m A n d xs w h hx
theorem relax_law {m : Mod} {xs : List Int} (h : isF m xs = true) {k : Nat} (hk : k < m.cons.length) : outOk m (k : Int) = true ∧ isF (outM m (k : Int)) xs = true := by
  have h' := h
  unfold isF at h
  simp only [Bool.and_eq_true] at h
  obtain ⟨hv, ha, hs⟩ := h
  have ho : outOk m (k : Int) = true := by
    unfold outOk
    rw [hv, Bool.true_and]
    exact inB_mk ⟨by omega, by omega⟩
  refine ⟨ho, ?_⟩
  unfold outM
  rw [ho]
  simp only [if_true, Int.toNat_natCast]
  unfold vmodF at hv
  unfold isolF at hs
  simp only [Bool.and_eq_true, List.all_eq_true, decide_eq_true_eq] at hv hs
  obtain ⟨v1, v2, v3, v4⟩ := hv
  obtain ⟨s1, s2⟩ := hs
  have hle : (m.cons.eraseIdx k).length ≤ m.cons.length := by rw [List.length_eraseIdx]; split <;> omega
  have hv2 : vmodF ⟨m.doms, m.cons.eraseIdx k⟩ = true := by
    unfold vmodF
    simp only [Bool.and_eq_true, List.all_eq_true, decide_eq_true_eq]
    exact ⟨v1, fun c hc => v2 c (List.mem_of_mem_eraseIdx hc), v3, by show ((m.cons.eraseIdx k).length : Int) ≤ 6; omega⟩
  unfold isF
  rw [hv2, Bool.true_and, Bool.and_eq_true]
  refine ⟨ha, ?_⟩
  unfold isolF
  rw [Bool.and_eq_true, List.all_eq_true]
  exact ⟨s1, fun c hc => s2 c (List.mem_of_mem_eraseIdx hc)⟩
set_option maxHeartbeats 1500000 in
theorem walk {W : World} (A0 : Option Addr) (n0 c0 : Nat) (xs0 : List Int) (g0 : CodeA W W.heap.size A0 n0 c0 xs0) :
    Calls Try.prog 3 #[.slice A0 n0 c0] W fun e w' => e = .returned (.bool true) ∧ Below W.heap.size W w' := by
  by_cases hlen : (1048576 : Int) < (n0 : Int)
  · have hd : decide ((1048576 : Int) < (n0 : Int)) = true := decide_eq_true hlen
    clear hlen
    go_enter Try.func3, Try.ntmps3
    go_wp2_with fail
    go_ret
    exact ⟨rfl, Below.refl _ _⟩
  have hd : decide ((1048576 : Int) < (n0 : Int)) = false := decide_eq_false hlen
  go_enter Try.func3, Try.ntmps3
  go_wp2_with fail
  refine (drawIsSolution _ _ _ _ _ g0).mono ?_
  rintro e W1 ⟨vs, m, vx, xs, rfl, hom, hox, hsz, hx5, c0⟩
  obtain ⟨vs', e1, hmr⟩ := OwnMod.read hom
  obtain rfl : vs = vs' := by injection e1 with e1; exact List.toArray_inj e1
  obtain ⟨Ad, Ac, cd, cc, rfl, hid, -, -, -⟩ := id hmr
  obtain ⟨Ax, cx, rfl, hxr⟩ := hox.read
  obtain ⟨nd, hnd⟩ : ∃ nd, m.doms.length = nd := ⟨_, rfl⟩
  obtain ⟨nc, hnc⟩ : ∃ nc, m.cons.length = nc := ⟨_, rfl⟩
  obtain ⟨nx, hnx⟩ : ∃ nx, xs.length = nx := ⟨_, rfl⟩
  have HSZ := Lib.hid hsz
  have hnc0 := hnc
  rw [hnd] at hid hmr
  rw [hnc] at hmr
  rw [hnx] at hxr hx5
  have hnd4 : nd ≤ 4 := by rw [← hnd]; exact hsz.2.1
  have hnc4 : nc ≤ 4 := by rw [← hnc]; exact hsz.2.2.1
  obtain ⟨W2, hW2⟩ : ∃ W2, W1.alloc (.cells #[.slice Ad nd cd, .slice Ac nc cc] 26) = W2 := ⟨_, rfl⟩
  have hB2 : Below W1.heap.size W1 W2 := by rw [← hW2]; exact b_alloc _ _
  have HM2 : Hid (TBlk 26 W2 W1.heap.size #[.slice Ad nd cd, .slice Ac nc cc]) := by rw [← hW2]; exact Lib.hid (TBlk.new _ _ _)
  obtain ⟨-, x0, x1⟩ := hT2 HM2.out (Below.refl _ _)
  have HMR := Lib.hid hmr
  have HXR := Lib.hid hxr
  have HB12 := Lib.hid hB2
  have HB2 := Lib.hid (bgo c0 hB2)
  have hwl : W1.heap.size < W2.heap.size := HM2.out.lt
  clear hom hmr hB2 c0 e1 hsz hid hxr hox
  rw [hnd, hnc, hnx]
  clear hnd hnc hnx
  go_wp2_with fail
  clear hW2
  obtain ⟨S, hS⟩ : ∃ S, isF m xs = S := ⟨_, rfl⟩
  have HS := Lib.hid hS
  have HNC := Lib.hid hnc0
  have hss : (S == S) = true := beq_self_eq_true _
  clear hS hnc0
  refine (iIsSolution_b _ m _ _ _ xs W2 S HS.out (ModR.on HMR.out HB12.out) (IntR.on HXR.out HB12.out)).mono ?_
  rintro e W3 ⟨rfl, hB⟩
  have HB13 := Lib.hid (bgo HB12.out hB)
  have HB3 := Lib.hid (bgo HB2.out hB)
  clear x0 x1
  obtain ⟨t3, x0, x1⟩ := hT2 HM2.out hB
  have HM3 := Lib.hid t3
  clear hB t3 HM2 HB12 HB2
  go_wp2_with fail
  refine (sIsSolution_b _ m _ _ _ xs W3 S HS.out (ModR.on HMR.out HB13.out) (IntR.on HXR.out HB13.out)).mono ?_
  rintro e W4 ⟨rfl, hB⟩
  have HB14 := Lib.hid (bgo HB13.out hB)
  have HB4 := Lib.hid (bgo HB3.out hB)
  clear x0 x1
  obtain ⟨t4, x0, x1⟩ := hT2 HM3.out hB
  have HM4 := Lib.hid t4
  clear hB t4 HM3 HB13 HB3
  cases S
  · go_wp2_with fail
    refine (sIsSolution_b _ m _ _ _ xs W4 false HS.out (ModR.on HMR.out HB14.out) (IntR.on HXR.out HB14.out)).mono ?_
    rintro e W5 ⟨rfl, hB⟩
    go_wp2_with fail
    go_ret
    exact ⟨rfl, bgo HB4.out hB⟩
  clear hss
  go_wp2_with fail
  go_loopw [6] (fun i wr => ∃ k : Nat, k ≤ nc ∧ i = .int .i64 k ∧ Hid (Below W4.heap.size W4 wr)) (fun i _ => nc - (intOf i).toNat)
  case atStart => exact ⟨0, by omega, rfl, Lib.hid (Below.refl _ _)⟩
  case round =>
    obtain ⟨k, hk, rfl, hBk⟩ := hrel
    rename World => wr
    clear x0 x1
    obtain ⟨tr, x0, x1⟩ := hT2 HM4.out hBk.out
    have HB1r := Lib.hid (bgo HB14.out hBk.out)
    have HMr := Lib.hid tr
    clear tr
    by_cases hlt : k < nc
    · have hltc : (k : Int) < (nc : Int) := by omega
      obtain ⟨ho, hs2⟩ := relax_law HS.out (k := k) (by rw [HNC.out]; exact hlt)
      have HS2 := Lib.hid hs2
      have HOK := Lib.hid ho
      clear ho hs2
      go_wp2_with fail
      refine (iWithout _ m (k : Int) wr (ModR.on HMR.out HB1r.out) HSZ.out.sm).mono ?_
      rintro e W8 ⟨rs, D, ys, he, hcm, -, hB⟩
      rw [HOK.out] at he
      subst he
      have hz8 := hcm.read
      obtain ⟨Ed, Ec, ed, ec, rfl, -⟩ := id hz8
      obtain ⟨M, hM⟩ : ∃ M, outM m (k : Int) = M := ⟨_, rfl⟩
      rw [hM] at hz8 HS2
      rw [hM]
      obtain ⟨md, hmd⟩ : ∃ md, M.doms.length = md := ⟨_, rfl⟩
      obtain ⟨mc, hmc⟩ : ∃ mc, M.cons.length = mc := ⟨_, rfl⟩
      rw [hmd, hmc] at hz8
      rw [hmd, hmc]
      clear hM hmd hmc hcm
      obtain ⟨W9, hW9⟩ : ∃ W9, W8.alloc (.cells #[.slice Ed md ed, .slice Ec mc ec] 26) = W9 := ⟨_, rfl⟩
      have hB9 : Below W8.heap.size W8 W9 := by rw [← hW9]; exact b_alloc _ _
      have hY9 : TBlk 26 W9 W8.heap.size #[.slice Ed md ed, .slice Ec mc ec] := by rw [← hW9]; exact TBlk.new _ _ _
      have y0 := hY9.at_ 0 rfl
      have y1 := hY9.at_ 1 rfl
      have HZR9 := Lib.hid (ModR.on hz8 hB9)
      have HB9 := Lib.hid (bgo hBk.out (bgo hB hB9))
      have HB19 := Lib.hid (bgo HB1r.out (bgo hB hB9))
      clear hz8 x0 x1 hB9 hY9 hB
      go_wp2_with fail
      clear hW9
      refine (iIsSolution_b _ M _ _ _ xs W9 true HS2.out HZR9.out (IntR.on HXR.out HB19.out)).mono ?_
      rintro e W10 ⟨rfl, hB⟩
      have HB10 := Lib.hid (bgo HB9.out hB)
      clear hB y0 y1
      go_wp2_with fail
      go_roundw
      case rel => exact ⟨k + 1, by omega, by go_num, HB10⟩
      case measure => simp [intOf]; omega
    · obtain rfl : k = nc := by omega
      go_wp2_with fail
      go_ret
      exact ⟨rfl, bgo HB4.out hBk.out⟩

set_option maxRecDepth 100000 in
theorem lifted (os : Os) (started : os.Started) (H : Type) (enc : TypeId × Value → H) :
    ReturnsInHanded {} Try.checked os 3 .any (Rows.fnModelRelaxSpec.pre6 enc Try.prog Try.f3 Rows.fnModelRelaxRow.domain false) (Rows.fnModelRelaxSpec.post enc Try.prog Try.f3 false true false false) := by
  refine returnsInHanded_of_change (C := Try.checked) own started (by kernel_rfl) Try.func3
    (ChangeSpec.witness6 (enc := enc) (C := Try.checked) false ⟨#[], #[.slice none 0 0], []⟩ 8 (by kernel_rfl) (by kernel_rfl) (by kernel_rfl) (by kernel_rfl)) ?_
  intro W base args ds gs before hval0 hW hcnd _
  have hval : ∀ (j : Nat) t v, Try.f3.params[j]? = some t → args[j]? = some v → Value.okWide Try.prog W .any base t v := hval0
  have hW' := hW
  obtain ⟨p, q, hA0, hV, rfl, hfz, hnd⟩ := hW
  have hA : DataW.TrodAll enc Try.prog W 0 (fun _ => true) true Try.f3.params.toList args.toList ds p := hA0
  rw [Try.params3] at hA hval
  obtain ⟨v0, vs0, d0, ds0, p0, q0, hargs, rfl, rfl, h0, r0⟩ := trodAll_cons hA
  obtain ⟨rfl, rfl, rfl⟩ := trodAll_nil r0
  obtain rfl : args = #[v0] := by cases args; simp_all
  obtain ⟨rfl, rfl⟩ := trodVars_none hV
  have k0 := h0
  have l0 : ∀ x ∈ p0, x.block < W.heap.size := fun x hx => hW'.lt x (by simp [hx])
  obtain ⟨A0, n0, c0, xs0, rfl, g0⟩ := open_byteS Try.underlying22 Try.underlying5 (by kernel_rfl) (hval 0 22 v0 rfl rfl) k0
  clear hA0 hval0
  refine (walk A0 n0 c0 xs0 g0).mono fun e W' ⟨he, hb⟩ => ?_
  subst he
  exact ⟨_, rfl, _, _, _, [], _, [], hW', trodAll_cons_mk (p := []) (shut_bool Try.underlying4 _) trodAll_mk0, (trodAll_cons_mk (Below.trod laid (by kernel_rfl) (of_decide_eq_true (by kernel_rfl)) h0 hb l0) trodAll_mk0), rfl, hb.frame _, fun h => by cases h⟩

theorem over : Rows.fnModelRelaxRow.holds Try.pinned (OpenSpec.ofChange Rows.fnModelRelaxSpec) :=
  OpenClaim.holds_of_wide 3 Try.f3 rfl rfl rfl rfl rfl rfl rfl ⟨rfl, rfl, rfl, rfl, rfl⟩ rfl rfl rfl rfl rfl (by kernel_rfl) Try.func3 (by kernel_rfl)
    (of_decide_eq_true (by kernel_rfl)) (by unfold Func.isWrapper; first | (rw [if_pos (by decide +kernel)]; kernel_rfl) | (rw [if_neg (by decide +kernel)]; exact ⟨rfl, rfl⟩))
    (fun os started H enc _ => lifted os started H enc)

/-- The statement. -/
theorem proved : Rows.FnModelRelaxSaid :=
  over
#print axioms proved
end Go.Proofs.Ytejfnkbdmlijbaa.fnModelRelax
