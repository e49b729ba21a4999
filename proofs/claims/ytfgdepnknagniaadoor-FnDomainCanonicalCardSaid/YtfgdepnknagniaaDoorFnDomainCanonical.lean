/- FnDomainCanonical: for every input the law returns true and its arguments read as before; no further condition. -/
import Derived.Test.YtfgdepnknagniaaDoorRows
import Derived.WalkKit
import Derived.ProofKit
import Derived.OpenShut
import Derived.Carry
import Derived.StillTailTactics
import Derived.LaidMore
import Derived.Lib.LaidTab
import Derived.Stop.LaidErr
import Derived.SevenTiedAt
import Derived.Test.YtfgdepnknagniaaDoorTie
import Derived.Test.YtfgdepnknagniaaDoorCards
import Derived.Test.YtfgdepnknagniaaDoorStrD
import Derived.Test.YtfgdepnknagniaaDoorMut
namespace Go.Proofs.YtfgdepnknagniaaDoor.fnDomainCanonical
open Go.ChangeShapes Go.WideShapes Go.ChangeAt Go.RowKit
open Go.Shelf
set_option linter.unusedVariables false
set_option maxRecDepth 100000

theorem own : ownKnob Tryd.prog.godebug = none := by kernel_rfl
theorem laid : laidOutB Tryd.prog = true := by kernel_rfl

theorem dec_some {s : ByteArray} (h : decB s = true) : encO (decD s) = s.toList := by
  unfold decB at h
  unfold decD encO
  cases hd : decF s.toList 64 0 with
  | none => rw [hd] at h; cases h
  | some d =>
    obtain ⟨a, b, c⟩ := decF_some hd
    have hv : vdB ((d : Nat) : Int) = true := inB_mk ⟨by omega, by omega⟩
    show (if vdB ((d : Nat) : Int) = true then encF ((d : Nat) : Int) else []) = s.toList
    rw [if_pos hv]; exact a
theorem dec_zero {s : ByteArray} (h : decB s = false) : decD s = 0 := by
  unfold decB at h
  unfold decD
  cases hd : decF s.toList 64 0 with
  | none => rfl
  | some d => rw [hd] at h; cases h
theorem walk {W : World} (A0 : Option Addr) (n0 c0 : Nat) (xs0 : List Int) (g0 : CodeA W W.heap.size A0 n0 c0 xs0) :
    Calls Tryd.prog 6 #[.slice A0 n0 c0] W fun e w' => e = .returned (.bool true) ∧ Below W.heap.size W w' := by
  by_cases hlen : (1048576 : Int) < (n0 : Int)
  · have hd : decide ((1048576 : Int) < (n0 : Int)) = true := decide_eq_true hlen
    clear hlen
    go_enter Tryd.func6, Tryd.ntmps6
    go_wp2_with fail
    go_ret
    exact ⟨rfl, Below.refl _ _⟩
  have hd : decide ((1048576 : Int) < (n0 : Int)) = false := decide_eq_false hlen
  go_enter Tryd.func6, Tryd.ntmps6
  go_wp2_with fail
  refine (drawDecodeDomain _ _ _ _ _ g0).mono ?_
  rintro e W1 ⟨s, rfl, hB1⟩
  go_wp2_with fail
  refine (iDecodeDomain _ _).mono ?_
  rintro e W2 ⟨rfl, hB2⟩
  go_wp2_with fail
  refine (sDecodeDomain _ _).mono ?_
  rintro e W3 ⟨rfl, hB3⟩
  have hdd : (decD s == decD s) = true := beq_self_eq_true _
  cases hv : decB s
  · go_wp2_with fail
    go_ret
    exact ⟨rfl, bgo (bgo hB1 hB2) hB3⟩
  · have hss : ((bs (encO (decD s))).toList == s.toList) = true := by rw [bs_list, dec_some hv]; exact beq_self_eq_true _
    go_wp2_with fail
    refine (iEncodeDomain _ _).mono ?_
    rintro e W4 ⟨rfl, hB4⟩
    go_wp2_with fail
    go_ret
    exact ⟨rfl, bgo (bgo (bgo hB1 hB2) hB3) hB4⟩

theorem door_met (os : Os) (args : Array Value) : laidMetH Tryd.prog Rows.fnDomainCanonicalRow.laid ((World.doorLaid Tryd.prog 200 os).forCall (fun _ _ => 0) ⟨#[], args, []⟩).memory :=
  laidMetH_of_parts3 (fuel := 8) (laidMet_of_run' 8 (by kernel_rfl) (by kernel_rfl)) (by kernel_rfl) (by kernel_rfl)

set_option maxRecDepth 100000 in
theorem lifted (os : Os) (started : os.Started) (H : Type) (enc : TypeId × Value → H) :
    ReturnsInHanded {} Tryd.checked os 6 .any (fun w args => (Rows.fnDomainCanonicalSpec.pre enc Tryd.prog Tryd.f6 [] false w args ∧ laidMetH Tryd.prog Rows.fnDomainCanonicalRow.laid w) ∧ sizedMet enc Tryd.prog Tryd.f6 (OpenSpec.ofChange Rows.fnDomainCanonicalSpec) false w args) (Rows.fnDomainCanonicalSpec.post enc Tryd.prog Tryd.f6 false true false false) := by
  refine returnsInHanded_of_change_and (C := Tryd.checked) (X := fun w _ => laidMetH Tryd.prog Rows.fnDomainCanonicalRow.laid w) (fun _ _ _ hh h => h.of_heap hh) own started (by kernel_rfl) Tryd.func6
    (ChangeSpec.witness_shaped (enc := enc) (C := Tryd.checked) (os := os) (X := fun w _ => laidMetH Tryd.prog Rows.fnDomainCanonicalRow.laid w) false (World.doorLaid Tryd.prog 200 os) #[.slice none 0 0] 8 rfl (World.shaped_of_RefB (by kernel_rfl) (by kernel_rfl)) (by kernel_rfl) (by kernel_rfl) (by kernel_rfl) (door_met os _)) ?_
  intro W base args ds gs before hval0 hW _ _ hL _
  have hval : ∀ (j : Nat) t v, Tryd.f6.params[j]? = some t → args[j]? = some v → Value.okWide Tryd.prog W .any base t v := hval0
  have hW' := hW
  obtain ⟨p, q, hA0, hV, rfl, hfz, hnd⟩ := hW
  have hA : DataW.TrodAll enc Tryd.prog W 0 (fun _ => true) true Tryd.f6.params.toList args.toList ds p := hA0
  rw [Tryd.params6] at hA hval
  obtain ⟨v0, vs0, d0, ds0, p0, q0, hargs, rfl, rfl, h0, r0⟩ := trodAll_cons hA
  obtain ⟨rfl, rfl, rfl⟩ := trodAll_nil r0
  obtain rfl : args = #[v0] := by cases args; simp_all
  obtain ⟨rfl, rfl⟩ := trodVars_none hV
  have k0 := h0
  have l0 : ∀ x ∈ p0, x.block < W.heap.size := fun x hx => hW'.lt x (by simp [hx])
  obtain ⟨A0, n0, c0, xs0, rfl, g0⟩ := open_byteS Tryd.underlying27 Tryd.underlying5 (by kernel_rfl) (hval 0 27 v0 rfl rfl) k0
  clear hA0 hval0
  refine (walk A0 n0 c0 xs0 g0).mono fun e W' ⟨he, hb⟩ => ?_
  subst he
  exact ⟨_, rfl, _, _, _, [], _, [], hW', trodAll_cons_mk (p := []) (shut_bool Tryd.underlying4 _) trodAll_mk0, (trodAll_cons_mk (Below.trod laid (by kernel_rfl) (of_decide_eq_true (by kernel_rfl)) h0 hb l0) trodAll_mk0), rfl, hb.frame _, fun h => by cases h⟩

theorem over : Rows.fnDomainCanonicalRow.holds Tryd.pinned (OpenSpec.ofChange Rows.fnDomainCanonicalSpec) :=
  OpenClaim.holds_of_wide 6 Tryd.f6 rfl rfl rfl rfl rfl rfl rfl ⟨rfl, rfl, rfl, rfl, rfl⟩ rfl rfl rfl rfl rfl (by kernel_rfl) Tryd.func6 (by kernel_rfl)
    (of_decide_eq_true (by kernel_rfl)) (by unfold Func.isWrapper; first | (rw [if_pos (by decide +kernel)]; kernel_rfl) | (rw [if_neg (by decide +kernel)]; exact ⟨rfl, rfl⟩))
    (fun os started H enc _ => lifted os started H enc)

/-- The statement. -/
theorem proved : Rows.FnDomainCanonicalCardSaid :=
  Claim7.holds_tied_plain_at .later [] [.data, .data, .data] true Rows.fnDomainCanonicalCard.stood.harness false
    over (fun _ h => by cases h) (by kernel_rfl) (fun _ h => by cases h) fnDomainCanonical_row_tie rfl ⟨rfl, rfl⟩ (by kernel_rfl) rfl
    (fun f fn hf hfn => by
      obtain rfl : f = 6 := Option.some.inj ((show Tryd.prog.funcNamed Rows.fnDomainCanonicalRow.func = some 6 by kernel_rfl).symm.trans hf) |>.symm
      obtain rfl : fn = Tryd.f6 := (Option.some.inj (Tryd.func6.symm.trans hfn)).symm
      exact ⟨by kernel_rfl, fun j t ht => by
        rw [Tryd.params6] at ht
        have hm : t ∈ [27] := by simpa using Array.mem_of_getElem? ht
        have hall : ([27].all fun u => !Tryd.prog.wantsStandIn u) = true := by kernel_rfl
        exact (show Tryd.prog.wantsStandIn t = false by simpa using List.all_eq_true.1 hall t hm)⟩)
    (by kernel_rfl)
#print axioms proved
end Go.Proofs.YtfgdepnknagniaaDoor.fnDomainCanonical
