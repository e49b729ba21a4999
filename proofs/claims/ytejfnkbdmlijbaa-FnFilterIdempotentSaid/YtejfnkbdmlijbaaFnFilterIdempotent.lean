/- FnFilterIdempotent: for every input the law returns true and its arguments read as before; no further condition. -/
import Derived.Test.YtejfnkbdmlijbaaRows
import Derived.WalkKit
import Derived.ProofKit
import Derived.OpenShut
import Derived.Carry
import Derived.StillTailTactics
import Derived.Test.YtejfnkbdmlijbaaDrawH
import Derived.Test.YtejfnkbdmlijbaaFilS
import Derived.Test.YtejfnkbdmlijbaaFilP
namespace Go.Proofs.Ytejfnkbdmlijbaa.fnFilterIdempotent
open Go.ChangeShapes Go.WideShapes Go.ChangeAt Go.RowKit
open Go.Shelf
set_option linter.unusedVariables false
set_option maxRecDepth 100000

theorem own : ownKnob Try.prog.godebug = none := by kernel_rfl
theorem laid : laidOutB Try.prog = true := by kernel_rfl

theorem hT5 {w w' : World} {b : Nat} {x0 x1 x2 x3 x4 : Value} (h : TBlk 35 w b #[x0, x1, x2, x3, x4]) (hb : Below w.heap.size w w') :
    TBlk 35 w' b #[x0, x1, x2, x3, x4] ∧ w'.cell? ⟨b, 0, none⟩ = some x0 ∧ w'.cell? ⟨b, 1, none⟩ = some x1 ∧ w'.cell? ⟨b, 2, none⟩ = some x2 ∧ w'.cell? ⟨b, 3, none⟩ = some x3 ∧ w'.cell? ⟨b, 4, none⟩ = some x4 := by
  have t := h.below_ hb h.lt
  exact ⟨t, t.at_ 0 rfl, t.at_ 1 rfl, t.at_ 2 rfl, t.at_ 3 rfl, t.at_ 4 rfl⟩
set_option maxHeartbeats 8000000 in
theorem walk {W : World} (A0 : Option Addr) (n0 c0 : Nat) (xs0 : List Int) (g0 : CodeA W W.heap.size A0 n0 c0 xs0) :
    Calls Try.prog 5 #[.slice A0 n0 c0] W fun e w' => e = .returned (.bool true) ∧ Below W.heap.size W w' := by
  by_cases hlen : (1048576 : Int) < (n0 : Int)
  · have hd : decide ((1048576 : Int) < (n0 : Int)) = true := decide_eq_true hlen
    clear hlen
    go_enter Try.func5, Try.ntmps5
    go_wp2_with fail
    go_ret
    exact ⟨rfl, Below.refl _ _⟩
  have hd : decide ((1048576 : Int) < (n0 : Int)) = false := decide_eq_false hlen
  go_enter Try.func5, Try.ntmps5
  go_wp2_with fail
  refine (drawFilter _ _ _ _ _ g0).mono ?_
  rintro e W1 ⟨vk, vd, k, ds, rfl, hoc, hsm, hod, h1, h4, hdr, c0⟩
  obtain ⟨usk, rfl, hcr⟩ := OwnCon.read hoc
  obtain ⟨Ad, cd, rfl, rd⟩ := hod.read
  obtain ⟨A1, A2, A3, c1, c2, c3, rfl, -⟩ := id hcr
  obtain ⟨W2, hW2⟩ : ∃ W2, W1.alloc (.cells #[.int .i64 k.kind, .slice A1 k.vars.length c1, .slice A2 k.args.length c2, .int .i64 k.bound, .slice A3 k.rows.length c3] 35) = W2 := ⟨_, rfl⟩
  have hB2 : Below W1.heap.size W1 W2 := by rw [← hW2]; exact b_alloc _ _
  have HT2 : Hid (TBlk 35 W2 W1.heap.size #[.int .i64 k.kind, .slice A1 k.vars.length c1, .slice A2 k.args.length c2, .int .i64 k.bound, .slice A3 k.rows.length c3]) := by rw [← hW2]; exact TBlk.new _ _ _
  obtain ⟨-, x0, x1, x2, x3, x4⟩ := hT5 HT2.out (Below.refl _ _)
  have HC2 := Lib.hid (ConR.on hcr hB2)
  have HD2 := Lib.hid (IntR.on rd hB2)
  have HB2 := Lib.hid (bgo c0 hB2)
  clear hoc hsm hod hcr rd hB2 c0 hdr
  go_wp2_with fail
  clear hW2
  refine (iFilter _ k _ _ _ ds _ HC2.out HD2.out).mono ?_
  rintro e W3 ⟨v', rfl, hh, hB⟩
  have hFl := filtF_len k ds
  obtain ⟨F, hF⟩ : ∃ F, filtF k ds = F := ⟨_, rfl⟩
  have HF := Lib.hid hF
  rw [hF] at hh hFl
  clear hF
  obtain ⟨nF, hnF⟩ : ∃ nF, F.length = nF := ⟨_, rfl⟩
  have HNF := Lib.hid hnF
  rw [hnF] at hh hFl
  clear hnF
  obtain ⟨A5, c5, rfl, r5⟩ := IntR.of_hold hh (by omega)
  obtain ⟨t3, y0, y1, y2, y3, y4⟩ := hT5 HT2.out hB
  have HT3 := Lib.hid t3
  have HC3 := Lib.hid (ConR.on HC2.out hB)
  have HD3 := Lib.hid (IntR.on HD2.out hB)
  have HB3 := Lib.hid (bgo HB2.out hB)
  have HR3 := Lib.hid r5
  clear t3 hB hh x0 x1 x2 x3 x4 HT2 HC2 HD2 HB2 r5
  go_wp2_with fail
  refine (sFilter _ k _ _ _ ds _ HC3.out HD3.out).mono ?_
  rintro e W4 ⟨v', rfl, hh, hB⟩
  rw [HF.out, HNF.out] at hh
  obtain ⟨A6, c6, rfl, r6⟩ := IntR.of_hold hh (by omega)
  obtain ⟨t4, z0, z1, z2, z3, z4⟩ := hT5 HT3.out hB
  have HT4 := Lib.hid t4
  have HC4 := Lib.hid (ConR.on HC3.out hB)
  have HD4 := Lib.hid (IntR.on HD3.out hB)
  have HB4 := Lib.hid (bgo HB3.out hB)
  have HR4 := Lib.hid (IntR.on HR3.out hB)
  have HR6 := Lib.hid r6
  clear t4 hB hh y0 y1 y2 y3 y4 HT3 HC3 HD3 HB3 HR3 r6
  go_wp2_with fail
  refine (lequalInts _ _ _ _ _ _ F F _ HR4.out HR6.out).mono ?_
  rintro e W5 ⟨rfl, hB⟩
  have heq : decide (F = F) = true := by simp
  obtain ⟨t5, u0, u1, u2, u3, u4⟩ := hT5 HT4.out hB
  have HC5 := Lib.hid (ConR.on HC4.out hB)
  have HD5 := Lib.hid (IntR.on HD4.out hB)
  have HB5 := Lib.hid (bgo HB4.out hB)
  have HR5 := Lib.hid (IntR.on HR4.out hB)
  clear t5 hB z0 z1 z2 z3 z4 HT4 HC4 HD4 HB4 HR4 HR6
  by_cases hz : nF = 0
  · have hz2 : ((nF : Int) == 0) = true := by simp; omega
    have HZ := Lib.hid hz
    clear hz
    go_wp2_with fail
    refine (sFilter _ k _ _ _ ds _ HC5.out HD5.out).mono ?_
    rintro e W6 ⟨v', rfl, hh, hB⟩
    rw [HF.out, HNF.out] at hh
    obtain ⟨A7, c7, rfl, r7⟩ := IntR.of_hold hh (by omega)
    have HR6 := Lib.hid (IntR.on HR5.out hB)
    have HB6 := Lib.hid (bgo HB5.out hB)
    have HR7 := Lib.hid r7
    clear hB hh u0 u1 u2 u3 u4 r7
    go_wp2_with fail
    refine (lequalInts _ _ _ _ _ _ F F _ HR6.out HR7.out).mono ?_
    rintro e W7 ⟨rfl, hB⟩
    go_wp2_with fail
    go_ret
    exact ⟨rfl, bgo HB6.out hB⟩
  · have hz2 : ((nF : Int) == 0) = false := by simp; omega
    have hid : filtF k F = F := by
      rcases filtF_idem k ds with h | h
      · rw [HF.out] at h; exact h
      · rw [HF.out] at h
        have := HNF.out
        rw [h] at this
        simp at this
        omega
    have HI := Lib.hid hid
    clear hz hid
    go_wp2_with fail
    refine (iFilter _ k _ _ _ F _ HC5.out HR5.out).mono ?_
    rintro e W6 ⟨v', rfl, hh, hB⟩
    rw [HI.out, HNF.out] at hh
    obtain ⟨A7, c7, rfl, r7⟩ := IntR.of_hold hh (by omega)
    have HR6 := Lib.hid (IntR.on HR5.out hB)
    have HB6 := Lib.hid (bgo HB5.out hB)
    have HR7 := Lib.hid r7
    clear hB hh u0 u1 u2 u3 u4 r7
    go_wp2_with fail
    refine (lequalInts _ _ _ _ _ _ F F _ HR7.out HR6.out).mono ?_
    rintro e W7 ⟨rfl, hB⟩
    go_wp2_with fail
    go_ret
    exact ⟨rfl, bgo HB6.out hB⟩

set_option maxRecDepth 100000 in
theorem lifted (os : Os) (started : os.Started) (H : Type) (enc : TypeId × Value → H) :
    ReturnsInHanded {} Try.checked os 5 .any (Rows.fnFilterIdempotentSpec.pre6 enc Try.prog Try.f5 Rows.fnFilterIdempotentRow.domain false) (Rows.fnFilterIdempotentSpec.post enc Try.prog Try.f5 false true false false) := by
  refine returnsInHanded_of_change (C := Try.checked) own started (by kernel_rfl) Try.func5
    (ChangeSpec.witness6 (enc := enc) (C := Try.checked) false ⟨#[], #[.slice none 0 0], []⟩ 8 (by kernel_rfl) (by kernel_rfl) (by kernel_rfl) (by kernel_rfl)) ?_
  intro W base args ds gs before hval0 hW hcnd _
  have hval : ∀ (j : Nat) t v, Try.f5.params[j]? = some t → args[j]? = some v → Value.okWide Try.prog W .any base t v := hval0
  have hW' := hW
  obtain ⟨p, q, hA0, hV, rfl, hfz, hnd⟩ := hW
  have hA : DataW.TrodAll enc Try.prog W 0 (fun _ => true) true Try.f5.params.toList args.toList ds p := hA0
  rw [Try.params5] at hA hval
  obtain ⟨v0, vs0, d0, ds0, p0, q0, hargs, rfl, rfl, h0, r0⟩ := trodAll_cons hA
  obtain ⟨rfl, rfl, rfl⟩ := trodAll_nil r0
  obtain rfl : args = #[v0] := by cases args; simp_all
  obtain ⟨rfl, rfl⟩ := trodVars_none hV
  have k0 := h0
  have l0 : ∀ x ∈ p0, x.block < W.heap.size := fun x hx => hW'.lt x (by simp [hx])
  obtain ⟨A0, n0, c0, xs0, rfl, g0⟩ := open_byteS Try.underlying22 Try.underlying5 (by kernel_rfl) (hval 0 22 v0 rfl rfl) k0
  clear hA0 hval0
  refine (walk A0 n0 c0 xs0 g0).mono fun e W' ⟨he, hb⟩ => ?_
  subst he
  exact ⟨_, rfl, _, _, _, [], _, [], hW', trodAll_cons_mk (p := []) (shut_bool Try.underlying4 _) trodAll_mk0, (trodAll_cons_mk (Below.trod laid (by kernel_rfl) (of_decide_eq_true (by kernel_rfl)) h0 hb l0) trodAll_mk0), rfl, hb.frame _, fun h => by cases h⟩

theorem over : Rows.fnFilterIdempotentRow.holds Try.pinned (OpenSpec.ofChange Rows.fnFilterIdempotentSpec) :=
  OpenClaim.holds_of_wide 5 Try.f5 rfl rfl rfl rfl rfl rfl rfl ⟨rfl, rfl, rfl, rfl, rfl⟩ rfl rfl rfl rfl rfl (by kernel_rfl) Try.func5 (by kernel_rfl)
    (of_decide_eq_true (by kernel_rfl)) (by unfold Func.isWrapper; first | (rw [if_pos (by decide +kernel)]; kernel_rfl) | (rw [if_neg (by decide +kernel)]; exact ⟨rfl, rfl⟩))
    (fun os started H enc _ => lifted os started H enc)

/-- The statement. -/
theorem proved : Rows.FnFilterIdempotentSaid :=
  over
#print axioms proved
end Go.Proofs.Ytejfnkbdmlijbaa.fnFilterIdempotent
