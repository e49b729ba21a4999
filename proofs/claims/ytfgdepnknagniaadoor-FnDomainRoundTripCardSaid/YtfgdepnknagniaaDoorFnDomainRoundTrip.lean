/- FnDomainRoundTrip: for every input the law returns true and its arguments read as before; no further condition. -/
import Derived.Test.YtfgdepnknagniaaDoorRows
import Derived.WalkKit
import Derived.ProofKit
import Derived.OpenShut
import Derived.Carry
import Derived.StillTailTactics
import Derived.LaidMore
import Derived.Lib.LaidTab
import Derived.Stop.LaidErr
import Derived.SevenTiedAt
import Derived.Test.YtfgdepnknagniaaDoorTie
import Derived.Test.YtfgdepnknagniaaDoorCards
import Derived.Test.YtfgdepnknagniaaDoorStrD
import Derived.Test.YtfgdepnknagniaaDoorDrawA
namespace Go.Proofs.YtfgdepnknagniaaDoor.fnDomainRoundTrip
open Go.ChangeShapes Go.WideShapes Go.ChangeAt Go.RowKit
open Go.Shelf
set_option linter.unusedVariables false
set_option maxRecDepth 100000

theorem own : ownKnob Tryd.prog.godebug = none := by kernel_rfl
theorem laid : laidOutB Tryd.prog = true := by kernel_rfl

theorem toNat_back {x : Int} (h0 : 0 ≤ x) : ((x.toNat : Nat) : Int) = x := by omega
theorem dec_enc {x : Int} (h0 : 0 ≤ x) (h1 : x ≤ 63) : decD (bs (encF x)) = x ∧ decB (bs (encF x)) = true := by
  unfold decD decB
  rw [bs_list]
  cases h : decF (encF x) 64 0 with
  | none =>
    have := decF_none h x.toNat (by omega) (by omega)
    rw [toNat_back h0] at this
    exact absurd rfl this
  | some d =>
    obtain ⟨a, b, c⟩ := decF_some h
    have e := enc_inj ⟨d, by omega⟩ ⟨x.toNat, by omega⟩ (by show encF (d : Int) = encF ((x.toNat : Nat) : Int); rw [toNat_back h0, a])
    have e2 : d = x.toNat := congrArg Fin.val e
    refine ⟨?_, rfl⟩
    show ((d : Nat) : Int) = x
    rw [e2]; exact toNat_back h0
theorem enc_pos {x : Int} (h0 : 0 ≤ x) (h1 : x ≤ 63) : (encF x).isEmpty = false := by
  have := (enc_len ⟨x.toNat, by omega⟩).2
  have e : (((⟨x.toNat, by omega⟩ : Fin 64).val : Nat) : Int) = x := toNat_back h0
  rw [e] at this
  cases h : encF x with
  | nil => exact absurd h this
  | cons _ _ => rfl
theorem iValidDomain_b (d : Int) (w : World) (b : Bool) (hb : vdB d = b) : Calls Tryd.prog 12 #[.int .i64 d] w fun e w' => e = .returned (.bool b) ∧ w = w' := by
  subst hb; exact iValidDomain d w
theorem walk {W : World} (A0 : Option Addr) (n0 c0 : Nat) (xs0 : List Int) (g0 : CodeA W W.heap.size A0 n0 c0 xs0) :
    Calls Tryd.prog 5 #[.slice A0 n0 c0] W fun e w' => e = .returned (.bool true) ∧ Below W.heap.size W w' := by
  by_cases hlen : (1048576 : Int) < (n0 : Int)
  · have hd : decide ((1048576 : Int) < (n0 : Int)) = true := decide_eq_true hlen
    clear hlen
    go_enter Tryd.func5, Tryd.ntmps5
    go_wp2_with fail
    go_ret
    exact ⟨rfl, Below.refl _ _⟩
  have hd : decide ((1048576 : Int) < (n0 : Int)) = false := decide_eq_false hlen
  go_enter Tryd.func5, Tryd.ntmps5
  go_wp2_with fail
  refine (drawEncodeDomain _ _ _ _ _ g0).mono ?_
  rintro e W1 ⟨x, rfl, hx, hB1⟩
  go_wp2_with fail
  refine (iEncodeDomain _ _).mono ?_
  rintro e W2 ⟨rfl, hB2⟩
  go_wp2_with fail
  have hself : ((bs (encO x)).toList == (bs (encO x)).toList) = true := beq_self_eq_true _
  refine (sEncodeDomain _ _).mono ?_
  rintro e W3 ⟨rfl, hB3⟩
  cases hv : vdB x
  · have hem : (bs (encO x)).toList.isEmpty = true := by rw [bs_list]; unfold encO; rw [hv]; rfl
    have HV := Lib.hid hv
    clear hv
    go_wp2_with fail
    refine (sEncodeDomain _ _).mono ?_
    rintro e W4 ⟨rfl, hB4⟩
    go_wp2_with fail
    refine (iValidDomain_b _ _ false HV.out).mono ?_
    rintro e W5 ⟨rfl, rfl⟩
    go_wp2_with fail
    go_ret
    exact ⟨rfl, bgo (bgo (bgo hB1 hB2) hB3) hB4⟩
  · have hb := inB_true hv
    have he : encO x = encF x := by unfold encO; rw [hv]; rfl
    have hem : (bs (encO x)).toList.isEmpty = false := by rw [bs_list, he]; exact enc_pos hb.1 hb.2
    have HD := Lib.hid (show decD (bs (encO x)) = x ∧ decB (bs (encO x)) = true by rw [he]; exact dec_enc hb.1 hb.2)
    have hxx : (x == x) = true := beq_self_eq_true _
    clear hv hb he
    go_wp2_with fail
    refine (iDecodeDomain _ _).mono ?_
    rw [HD.out.1, HD.out.2]
    rintro e W4 ⟨rfl, hB4⟩
    go_wp2_with fail
    go_ret
    exact ⟨rfl, bgo (bgo (bgo hB1 hB2) hB3) hB4⟩

theorem door_met (os : Os) (args : Array Value) : laidMetH Tryd.prog Rows.fnDomainRoundTripRow.laid ((World.doorLaid Tryd.prog 200 os).forCall (fun _ _ => 0) ⟨#[], args, []⟩).memory :=
  laidMetH_of_parts3 (fuel := 8) (laidMet_of_run' 8 (by kernel_rfl) (by kernel_rfl)) (by kernel_rfl) (by kernel_rfl)

set_option maxRecDepth 100000 in
theorem lifted (os : Os) (started : os.Started) (H : Type) (enc : TypeId × Value → H) :
    ReturnsInHanded {} Tryd.checked os 5 .any (fun w args => (Rows.fnDomainRoundTripSpec.pre enc Tryd.prog Tryd.f5 [] false w args ∧ laidMetH Tryd.prog Rows.fnDomainRoundTripRow.laid w) ∧ sizedMet enc Tryd.prog Tryd.f5 (OpenSpec.ofChange Rows.fnDomainRoundTripSpec) false w args) (Rows.fnDomainRoundTripSpec.post enc Tryd.prog Tryd.f5 false true false false) := by
  refine returnsInHanded_of_change_and (C := Tryd.checked) (X := fun w _ => laidMetH Tryd.prog Rows.fnDomainRoundTripRow.laid w) (fun _ _ _ hh h => h.of_heap hh) own started (by kernel_rfl) Tryd.func5
    (ChangeSpec.witness_shaped (enc := enc) (C := Tryd.checked) (os := os) (X := fun w _ => laidMetH Tryd.prog Rows.fnDomainRoundTripRow.laid w) false (World.doorLaid Tryd.prog 200 os) #[.slice none 0 0] 8 rfl (World.shaped_of_RefB (by kernel_rfl) (by kernel_rfl)) (by kernel_rfl) (by kernel_rfl) (by kernel_rfl) (door_met os _)) ?_
  intro W base args ds gs before hval0 hW _ _ hL _
  have hval : ∀ (j : Nat) t v, Tryd.f5.params[j]? = some t → args[j]? = some v → Value.okWide Tryd.prog W .any base t v := hval0
  have hW' := hW
  obtain ⟨p, q, hA0, hV, rfl, hfz, hnd⟩ := hW
  have hA : DataW.TrodAll enc Tryd.prog W 0 (fun _ => true) true Tryd.f5.params.toList args.toList ds p := hA0
  rw [Tryd.params5] at hA hval
  obtain ⟨v0, vs0, d0, ds0, p0, q0, hargs, rfl, rfl, h0, r0⟩ := trodAll_cons hA
  obtain ⟨rfl, rfl, rfl⟩ := trodAll_nil r0
  obtain rfl : args = #[v0] := by cases args; simp_all
  obtain ⟨rfl, rfl⟩ := trodVars_none hV
  have k0 := h0
  have l0 : ∀ x ∈ p0, x.block < W.heap.size := fun x hx => hW'.lt x (by simp [hx])
  obtain ⟨A0, n0, c0, xs0, rfl, g0⟩ := open_byteS Tryd.underlying27 Tryd.underlying5 (by kernel_rfl) (hval 0 27 v0 rfl rfl) k0
  clear hA0 hval0
  refine (walk A0 n0 c0 xs0 g0).mono fun e W' ⟨he, hb⟩ => ?_
  subst he
  exact ⟨_, rfl, _, _, _, [], _, [], hW', trodAll_cons_mk (p := []) (shut_bool Tryd.underlying4 _) trodAll_mk0, (trodAll_cons_mk (Below.trod laid (by kernel_rfl) (of_decide_eq_true (by kernel_rfl)) h0 hb l0) trodAll_mk0), rfl, hb.frame _, fun h => by cases h⟩

theorem over : Rows.fnDomainRoundTripRow.holds Tryd.pinned (OpenSpec.ofChange Rows.fnDomainRoundTripSpec) :=
  OpenClaim.holds_of_wide 5 Tryd.f5 rfl rfl rfl rfl rfl rfl rfl ⟨rfl, rfl, rfl, rfl, rfl⟩ rfl rfl rfl rfl rfl (by kernel_rfl) Tryd.func5 (by kernel_rfl)
    (of_decide_eq_true (by kernel_rfl)) (by unfold Func.isWrapper; first | (rw [if_pos (by decide +kernel)]; kernel_rfl) | (rw [if_neg (by decide +kernel)]; exact ⟨rfl, rfl⟩))
    (fun os started H enc _ => lifted os started H enc)

/-- The statement. -/
theorem proved : Rows.FnDomainRoundTripCardSaid :=
  Claim7.holds_tied_plain_at .later [] [.data, .data, .data] true Rows.fnDomainRoundTripCard.stood.harness false
    over (fun _ h => by cases h) (by kernel_rfl) (fun _ h => by cases h) fnDomainRoundTrip_row_tie rfl ⟨rfl, rfl⟩ (by kernel_rfl) rfl
    (fun f fn hf hfn => by
      obtain rfl : f = 5 := Option.some.inj ((show Tryd.prog.funcNamed Rows.fnDomainRoundTripRow.func = some 5 by kernel_rfl).symm.trans hf) |>.symm
      obtain rfl : fn = Tryd.f5 := (Option.some.inj (Tryd.func5.symm.trans hfn)).symm
      exact ⟨by kernel_rfl, fun j t ht => by
        rw [Tryd.params5] at ht
        have hm : t ∈ [27] := by simpa using Array.mem_of_getElem? ht
        have hall : ([27].all fun u => !Tryd.prog.wantsStandIn u) = true := by kernel_rfl
        exact (show Tryd.prog.wantsStandIn t = false by simpa using List.all_eq_true.1 hall t hm)⟩)
    (by kernel_rfl)
#print axioms proved
end Go.Proofs.YtfgdepnknagniaaDoor.fnDomainRoundTrip
