/- FnClauseHolds: for every input the law returns true and its arguments read as before; no further condition. -/
import Derived.Test.YtldpcocnhpeadaaRows
import Derived.WalkKit
import Derived.ProofKit
import Derived.OpenShut
import Derived.Carry
import Derived.StillTailTactics
import Derived.Test.YtldpcocnhpeadaaDrawD
import Derived.Test.YtldpcocnhpeadaaHolds
namespace Go.Proofs.Ytldpcocnhpeadaa.fnClauseHolds
open Go.ChangeShapes Go.WideShapes Go.ChangeAt Go.RowKit
open Go.Shelf
set_option linter.unusedVariables false
set_option maxRecDepth 100000

theorem own : ownKnob Try.prog.godebug = none := by kernel_rfl
theorem laid : laidOutB Try.prog = true := by kernel_rfl

theorem any_snoc {xs : List Ltl} {k : Nat} {x : Ltl} (f : Ltl → Bool) (hx : xs[k]? = some x) : (xs.take (k + 1)).any f = ((xs.take k).any f || f x) := by
  rw [List.take_add_one, hx, List.any_append]; simp
theorem chF_any {xs : List Ltl} {ys : List Int} (h1 : InM 6 ys) (h2 : 1 ≤ ys.length) (h3 : ys.length ≤ 4) (hv : vcF xs ys.length = true) : chF xs ys ys.length = xs.any (litH ys) := by
  unfold chF
  rw [inB_mk ⟨by omega, by omega⟩, hv]
  have : (ys.all fun v => inB v 0 5) = true := List.all_eq_true.2 fun y hy => inB_mk (by have := h1 y hy; omega)
  rw [this]; rfl
theorem chF_nil (ys : List Int) (m : Nat) : chF [] ys m = false := by unfold chF; simp
set_option maxHeartbeats 4000000 in
theorem walk {W : World} (A0 : Option Addr) (n0 c0 : Nat) (xs0 : List Int) (g0 : CodeA W W.heap.size A0 n0 c0 xs0) :
    Calls Try.prog 6 #[.slice A0 n0 c0] W fun e w' => e = .returned (.bool true) ∧ Below W.heap.size W w' := by
  by_cases hlen : (1048576 : Int) < (n0 : Int)
  · have hd : decide ((1048576 : Int) < (n0 : Int)) = true := decide_eq_true hlen
    clear hlen
    go_enter Try.func6, Try.ntmps6
    go_wp2_with fail
    go_ret
    exact ⟨rfl, Below.refl _ _⟩
  have hd : decide ((1048576 : Int) < (n0 : Int)) = false := decide_eq_false hlen
  go_enter Try.func6, Try.ntmps6
  go_wp2_with fail
  refine (drawClauseHolds _ _ _ _ _ g0).mono ?_
  rintro e W1 ⟨v1, v2, xs, ys, rfl, ⟨hx4, hi, hy1, hy4⟩, o1, o2, c0⟩
  obtain ⟨Ba, da, rfl, ra⟩ := LitR.of_own rfl o1 (by omega)
  obtain ⟨Bb, db, rfl, rb, -⟩ := IntR.of_own o2 (by omega)
  clear o1 o2
  obtain ⟨nx, hnx⟩ : ∃ nx, xs.length = nx := ⟨_, rfl⟩
  obtain ⟨ny, hny⟩ : ∃ ny, ys.length = ny := ⟨_, rfl⟩
  rw [hnx] at ra hx4 ⊢
  rw [hny] at rb hy1 hy4 ⊢
  have HNX := Lib.hid hnx
  have HNY := Lib.hid hny
  have HI := Lib.hid hi
  clear hnx hny hi
  go_wp2_with fail
  refine (iClauseHolds _ _ _ _ _ _ _ _ _ ra rb).mono ?_
  rintro e W2 ⟨rfl, hB⟩
  replace c0 := bgo c0 hB
  have c1 := hB
  clear hB
  go_wp2_with fail
  refine (sClauseHolds _ _ _ _ _ _ _ _ _ (ra.on c1) (rb.on c1)).mono ?_
  rintro e W3 ⟨rfl, hB⟩
  replace c0 := bgo c0 hB
  replace c1 := bgo c1 hB
  clear hB
  have hne1 : (chF xs ys ny == chF xs ys ny) = true := by simp
  go_wp2_with fail
  refine (iValidClause _ _ _ _ _ _ (ra.on c1)).mono ?_
  rintro e W4 ⟨rfl, hB⟩
  replace c0 := bgo c0 hB
  replace c1 := bgo c1 hB
  clear hB
  go_wp2_with fail
  refine (sValidClause _ _ _ _ _ _ (ra.on c1)).mono ?_
  rintro e W5 ⟨rfl, hB⟩
  replace c0 := bgo c0 hB
  replace c1 := bgo c1 hB
  clear hB
  have hne2 : (vcF xs ny == vcF xs ny) = true := by simp
  cases hv : vcF xs ny
  · have HV := Lib.hid hv
    clear hv
    go_wp2_with fail
    refine (iValidClause _ _ _ _ _ _ (ra.on c1)).mono ?_
    rw [HV.out]
    rintro e W6 ⟨rfl, hB⟩
    replace c0 := bgo c0 hB
    replace c1 := bgo c1 hB
    clear hB
    go_wp2_with fail
    refine (sClauseHolds _ _ _ _ _ _ _ _ _ (ra.on c1) (rb.on c1)).mono ?_
    rintro e W7 ⟨rfl, hB⟩
    replace c0 := bgo c0 hB
    replace c1 := bgo c1 hB
    clear hB
    go_wp2_with fail
    refine (iValidClause _ _ _ _ _ _ (ra.on c1)).mono ?_
    rw [HV.out]
    rintro e W8 ⟨rfl, hB⟩
    replace c0 := bgo c0 hB
    replace c1 := bgo c1 hB
    clear hB
    go_wp2_with fail
    refine (sValidClause _ _ _ _ _ _ (ra.on c1)).mono ?_
    rw [HV.out]
    rintro e W9 ⟨rfl, hB⟩
    replace c0 := bgo c0 hB
    clear hB
    go_wp2_with fail
    go_ret
    exact ⟨rfl, c0⟩
  · have hch : chF xs ys ny = xs.any (litH ys) := by
      have := chF_any (xs := xs) HI.out (by rw [HNY.out]; exact hy1) (by rw [HNY.out]; exact hy4) (by rw [HNY.out]; exact hv)
      rwa [HNY.out] at this
    have hvals := Lib.hid (vcF_vals hv)
    have HV := Lib.hid hv
    clear hv
    rw [hch] at hne1 ⊢
    clear hch
    go_wp2_with fail
    refine (iValidClause _ _ _ _ _ _ (ra.on c1)).mono ?_
    rw [HV.out]
    rintro e W6 ⟨rfl, hB⟩
    replace c0 := bgo c0 hB
    replace c1 := bgo c1 hB
    clear hB
    go_wp2_with fail
    go_loopw [6, 7] (fun t i wr => ∃ k : Nat, k ≤ nx ∧ i = .int .i64 k ∧ t = .bool ((xs.take k).any (litH ys)) ∧ Below W.heap.size W wr ∧ Below W1.heap.size W1 wr) (fun _ i _ => nx - (intOf i).toNat)
    case atStart => exact ⟨0, by omega, rfl, rfl, c0, c1⟩
    case round =>
      obtain ⟨k, hk, rfl, rfl, c2, c3⟩ := hrel
      clear c0 c1
      by_cases hlt : k < nx
      · obtain ⟨ab, ao, x, rfl, hab, hxk, hc0, hc1, hc2⟩ := LitR.at_ (ra.on c3) hlt
        have hxv := hvals.out x (List.mem_of_getElem? hxk)
        obtain ⟨j, hj⟩ : ∃ j : Nat, x.var = (j : Int) := ⟨x.var.toNat, by omega⟩
        have hjm : j < ny := by omega
        obtain ⟨bb, bo, y, rfl, hbb, hyk, hcy⟩ := IntR.at_ (rb.on c3) hjm
        have hlh : litH ys x = ((y == x.val) != x.neg) := by unfold litH; rw [hj, Int.toNat_natCast, hyk]; rfl
        have hsn := any_snoc (litH ys) hxk
        rw [hlh] at hsn
        rw [hj] at hc0
        have HSN := Lib.hid hsn
        clear hj hxv hyk hxk hlh hsn
        cases hp : (xs.take k).any (litH ys)
        · rw [hp] at HSN
          cases hpx : ((y == x.val) != x.neg)
          · have hpx3 : ((y == x.val) == x.neg) = true := by cases h1 : (y == x.val) <;> cases h2 : x.neg <;> simp_all
            have HF := Lib.hid hpx
            have HP := Lib.hid hp
            clear hp
            go_wp2_with fail
            go_quiet (fail)
            go_wp2_with fail
            go_roundw
            case rel => exact ⟨k + 1, by omega, by go_num, by rw [HSN.out, HF.out]; rfl, below_drewN c2 _, below_drewN c3 _⟩
            case measure => simp [intOf]; omega
          · have hpx3 : ((y == x.val) == x.neg) = false := by cases h1 : (y == x.val) <;> cases h2 : x.neg <;> simp_all
            have HF := Lib.hid hpx
            have HP := Lib.hid hp
            clear hp
            go_wp2_with fail
            go_quiet (fail)
            go_wp2_with fail
            go_roundw
            case rel => exact ⟨k + 1, by omega, by go_num, by rw [HSN.out, HF.out]; rfl, below_drewN c2 _, below_drewN c3 _⟩
            case measure => simp [intOf]; omega
        · rw [hp] at HSN
          have HP := Lib.hid hp
          clear hp
          go_wp2_with fail
          go_quiet (fail)
          go_wp2_with fail
          go_roundw
          case rel => exact ⟨k + 1, by omega, by go_num, by rw [HSN.out]; simp, below_drewN c2 _, below_drewN c3 _⟩
          case measure => simp [intOf]; omega
      · obtain rfl : k = nx := by omega
        have htk : (xs.take k).any (litH ys) = xs.any (litH ys) := by rw [List.take_of_length_le (by rw [HNX.out]; omega)]
        rw [htk]
        clear htk
        go_wp2_with fail
        refine (iClauseHolds none Bb 0 ny 0 db [] ys _ ⟨rfl, by omega, fun h => absurd h (by omega)⟩ (rb.on c3)).mono ?_
        rw [chF_nil]
        rintro e W7 ⟨rfl, hB⟩
        replace c2 := bgo c2 hB
        go_wp2_with fail
        go_ret
        exact ⟨by simp, c2⟩

set_option maxRecDepth 100000 in
theorem lifted (os : Os) (started : os.Started) (H : Type) (enc : TypeId × Value → H) :
    ReturnsInHanded {} Try.checked os 6 .any (Rows.fnClauseHoldsSpec.pre6 enc Try.prog Try.f6 Rows.fnClauseHoldsRow.domain false) (Rows.fnClauseHoldsSpec.post enc Try.prog Try.f6 false true false false) := by
  refine returnsInHanded_of_change (C := Try.checked) own started (by kernel_rfl) Try.func6
    (ChangeSpec.witness6 (enc := enc) (C := Try.checked) false ⟨#[], #[.slice none 0 0], []⟩ 8 (by kernel_rfl) (by kernel_rfl) (by kernel_rfl) (by kernel_rfl)) ?_
  intro W base args ds gs before hval0 hW hcnd _
  have hval : ∀ (j : Nat) t v, Try.f6.params[j]? = some t → args[j]? = some v → Value.okWide Try.prog W .any base t v := hval0
  have hW' := hW
  obtain ⟨p, q, hA0, hV, rfl, hfz, hnd⟩ := hW
  have hA : DataW.TrodAll enc Try.prog W 0 (fun _ => true) true Try.f6.params.toList args.toList ds p := hA0
  rw [Try.params6] at hA hval
  obtain ⟨v0, vs0, d0, ds0, p0, q0, hargs, rfl, rfl, h0, r0⟩ := trodAll_cons hA
  obtain ⟨rfl, rfl, rfl⟩ := trodAll_nil r0
  obtain rfl : args = #[v0] := by cases args; simp_all
  obtain ⟨rfl, rfl⟩ := trodVars_none hV
  have k0 := h0
  have l0 : ∀ x ∈ p0, x.block < W.heap.size := fun x hx => hW'.lt x (by simp [hx])
  obtain ⟨A0, n0, c0, xs0, rfl, g0⟩ := open_byteS Try.underlying22 Try.underlying5 (by kernel_rfl) (hval 0 22 v0 rfl rfl) k0
  clear hA0 hval0
  refine (walk A0 n0 c0 xs0 g0).mono fun e W' ⟨he, hb⟩ => ?_
  subst he
  exact ⟨_, rfl, _, _, _, [], _, [], hW', trodAll_cons_mk (p := []) (shut_bool Try.underlying4 _) trodAll_mk0, (trodAll_cons_mk (Below.trod laid (by kernel_rfl) (of_decide_eq_true (by kernel_rfl)) h0 hb l0) trodAll_mk0), rfl, hb.frame _, fun h => by cases h⟩

theorem over : Rows.fnClauseHoldsRow.holds Try.pinned (OpenSpec.ofChange Rows.fnClauseHoldsSpec) :=
  OpenClaim.holds_of_wide 6 Try.f6 rfl rfl rfl rfl rfl rfl rfl ⟨rfl, rfl, rfl, rfl, rfl⟩ rfl rfl rfl rfl rfl (by kernel_rfl) Try.func6 (by kernel_rfl)
    (of_decide_eq_true (by kernel_rfl)) (by unfold Func.isWrapper; first | (rw [if_pos (by decide +kernel)]; kernel_rfl) | (rw [if_neg (by decide +kernel)]; exact ⟨rfl, rfl⟩))
    (fun os started H enc _ => lifted os started H enc)

/-- The statement. -/
theorem proved : Rows.FnClauseHoldsSaid :=
  over
#print axioms proved
end Go.Proofs.Ytldpcocnhpeadaa.fnClauseHolds
