/- FnSubsumes: for every input the law returns true and its arguments read as before; no further condition. -/
import Derived.Test.YtldpcocnhpeadaaRows
import Derived.WalkKit
import Derived.ProofKit
import Derived.OpenShut
import Derived.Carry
import Derived.StillTailTactics
import Derived.Test.YtldpcocnhpeadaaDrawD
import Derived.Test.YtldpcocnhpeadaaHasL
import Derived.Test.YtldpcocnhpeadaaApp
namespace Go.Proofs.Ytldpcocnhpeadaa.fnSubsumes
open Go.ChangeShapes Go.WideShapes Go.ChangeAt Go.RowKit
open Go.Shelf
set_option linter.unusedVariables false
set_option maxRecDepth 100000

theorem own : ownKnob Try.prog.godebug = none := by kernel_rfl
theorem laid : laidOutB Try.prog = true := by kernel_rfl

theorem all_snoc {xs : List Ltl} {k : Nat} {x : Ltl} (f : Ltl → Bool) (hx : xs[k]? = some x) : (xs.take (k + 1)).all f = ((xs.take k).all f && f x) := by
  rw [List.take_add_one, hx, List.all_append]; simp
theorem chF_sub {xs ys : List Ltl} {zs : List Int} {m : Nat} (hv : vcF ys m = true) (hs : (xs.all fun l => decide (l ∈ ys)) = true) (h : chF xs zs m = true) : chF ys zs m = true := by
  unfold chF at h ⊢
  simp only [Bool.and_eq_true] at h ⊢
  refine ⟨⟨h.1.1, hv⟩, ?_⟩
  obtain ⟨x, hx, hl⟩ := List.any_eq_true.1 h.2
  exact List.any_eq_true.2 ⟨x, of_decide_eq_true (List.all_eq_true.1 hs x hx), hl⟩
theorem subF_all {xs ys : List Ltl} {m : Int} (h1 : vcF xs m = true) (h2 : vcF ys m = true) : subF xs ys m = xs.all fun l => decide (l ∈ ys) := by unfold subF; rw [h1, h2]; rfl
set_option maxHeartbeats 4000000 in
theorem walk {W : World} (A0 : Option Addr) (n0 c0 : Nat) (xs0 : List Int) (g0 : CodeA W W.heap.size A0 n0 c0 xs0) (A1 : Option Addr) (n1 c1 : Nat) (xs1 : List Int) (g1 : CodeA W W.heap.size A1 n1 c1 xs1) :
    Calls Try.prog 5 #[.slice A0 n0 c0, .slice A1 n1 c1] W fun e w' => e = .returned (.bool true) ∧ Below W.heap.size W w' := by
  obtain ⟨i0, hi0, hz0, hz1, hz2⟩ := info_parts info_int
  have hn1 := g1.1.le
  by_cases hlen : (1048576 : Int) < (n0 : Int)
  · have hd : decide ((1048576 : Int) < (n0 : Int)) = true := decide_eq_true hlen
    clear hlen
    go_enter Try.func5, Try.ntmps5
    go_wp2_with fail
    go_ret
    exact ⟨rfl, Below.refl _ _⟩
  have hd : decide ((1048576 : Int) < (n0 : Int)) = false := decide_eq_false hlen
  by_cases hlen1 : (1048576 : Int) < (n1 : Int)
  · have hd1 : decide ((1048576 : Int) < (n1 : Int)) = true := decide_eq_true hlen1
    clear hlen1
    go_enter Try.func5, Try.ntmps5
    go_wp2_with fail
    go_ret
    exact ⟨rfl, Below.refl _ _⟩
  have hd1 : decide ((1048576 : Int) < (n1 : Int)) = false := decide_eq_false hlen1
  go_enter Try.func5, Try.ntmps5
  go_wp2_with fail
  refine (drawSubsumes _ _ _ _ _ g0).mono ?_
  rintro e W1 ⟨m, v1, v2, xs, ys, rfl, ⟨hm1, hm4, hx4, hy7⟩, o1, o2, c0⟩
  have q1 := o1
  have q2 := o2
  obtain ⟨Ba, da, rfl, ra⟩ := LitR.of_own rfl q1 (by omega)
  obtain ⟨Bb, db, rfl, rb⟩ := LitR.of_own rfl q2 (by omega)
  clear q1 q2
  obtain ⟨nx, hnx⟩ : ∃ nx, xs.length = nx := ⟨_, rfl⟩
  obtain ⟨ny, hny⟩ : ∃ ny, ys.length = ny := ⟨_, rfl⟩
  rw [hnx] at ra hx4 o1 ⊢
  rw [hny] at rb hy7 o2 ⊢
  have HNX := Lib.hid hnx
  have HNY := Lib.hid hny
  have OX := Lib.hid o1
  have OY := Lib.hid o2
  clear hnx hny o1 o2
  go_wp2_with fail
  refine (iSubsumes _ _ _ _ _ _ _ _ _ _ ra rb).mono ?_
  rintro e W2 ⟨rfl, hB⟩
  replace c0 := bgo c0 hB
  have c1 := hB
  clear hB
  go_wp2_with fail
  refine (sSubsumes _ _ _ _ _ _ _ _ _ _ (own_below OX.out c1) HNX.out (own_below OY.out c1) HNY.out (by omega) (by omega)).mono ?_
  rintro e W3 ⟨rfl, hB⟩
  replace c0 := bgo c0 hB
  replace c1 := bgo c1 hB
  clear hB
  have hne1 : (subF xs ys m == subF xs ys m) = true := by simp
  go_wp2_with fail
  refine (iValidClause _ _ _ _ _ _ (ra.on c1)).mono ?_
  rintro e W4 ⟨rfl, hB⟩
  replace c0 := bgo c0 hB
  replace c1 := bgo c1 hB
  clear hB
  cases hv1 : vcF xs m
  · go_wp2_with fail
    refine (sSubsumes _ _ _ _ _ _ _ _ _ _ (own_below OX.out c1) HNX.out (own_below OY.out c1) HNY.out (by omega) (by omega)).mono ?_
    rintro e W5 ⟨rfl, hB⟩
    replace c0 := bgo c0 hB
    go_wp2_with fail
    go_ret
    exact ⟨by simp, c0⟩
  · have HV1 := Lib.hid hv1
    clear hv1
    go_wp2_with fail
    refine (iValidClause _ _ _ _ _ _ (rb.on c1)).mono ?_
    rintro e W5 ⟨rfl, hB⟩
    replace c0 := bgo c0 hB
    replace c1 := bgo c1 hB
    clear hB
    cases hv2 : vcF ys m
    · go_wp2_with fail
      refine (sSubsumes _ _ _ _ _ _ _ _ _ _ (own_below OX.out c1) HNX.out (own_below OY.out c1) HNY.out (by omega) (by omega)).mono ?_
      rintro e W6 ⟨rfl, hB⟩
      replace c0 := bgo c0 hB
      go_wp2_with fail
      go_ret
      exact ⟨by simp, c0⟩
    · have HV2 := Lib.hid hv2
      have hsub := subF_all HV1.out hv2
      rw [hsub] at hne1 ⊢
      clear hv2 hsub
      go_wp2_with fail
      go_loopw [9, 10] (fun t i wr => ∃ k : Nat, k ≤ nx ∧ i = .int .i64 k ∧ t = .bool ((xs.take k).all fun l => decide (l ∈ ys)) ∧ Below W.heap.size W wr ∧ Below W1.heap.size W1 wr) (fun _ i _ => nx - (intOf i).toNat)
      case atStart => exact ⟨0, by omega, rfl, rfl, c0, c1⟩
      case round =>
        obtain ⟨k, hk, rfl, rfl, c2, c3⟩ := hrel
        clear c0 c1
        by_cases hlt : k < nx
        · obtain ⟨ab, ao, x, rfl, hab, hxk, hc0, hc1, hc2⟩ := LitR.at_ (ra.on c3) hlt
          have HSN := Lib.hid (all_snoc (fun l => decide (l ∈ ys)) hxk)
          clear hxk
          cases hp : (xs.take k).all fun l => decide (l ∈ ys)
          · rw [hp] at HSN
            have HP := Lib.hid hp
            clear hp
            go_wp2_with fail
            go_roundw
            case rel => exact ⟨k + 1, by omega, by go_num, by rw [HSN.out]; rfl, c2, c3⟩
            case measure => simp [intOf]; omega
          · rw [hp] at HSN
            have HP := Lib.hid hp
            clear hp
            go_wp2_with fail
            refine (hasLiteral _ _ _ _ x _ (rb.on c3)).mono ?_
            rintro e W6 ⟨rfl, hB⟩
            replace c2 := bgo c2 hB
            replace c3 := bgo c3 hB
            go_wp2_with fail
            go_roundw
            case rel => exact ⟨k + 1, by omega, by go_num, by rw [HSN.out]; rfl, c2, c3⟩
            case measure => simp [intOf]; omega
        · obtain rfl : k = nx := by omega
          have htk : ((xs.take k).all fun l => decide (l ∈ ys)) = xs.all fun l => decide (l ∈ ys) := by rw [List.take_of_length_le (by rw [HNX.out]; omega)]
          rw [htk]
          clear htk
          rename World => Wx
          have ol : (Wx.alloc (.cells #[] 3)).ownsRow Wx.heap.size 3 1 (.slice (some ⟨Wx.heap.size, 0, none⟩) 0 0) 0 (([] : List Int).map (.int .i64)) := World.ownsRow_lit Wx #[] 0 (Nat.le_refl _) (by decide) rfl
          go_wp2_with fail
          go_loopw [11, 12] (fun v i wr => ∃ (j : Nat) (v' : Value) (zs : List Int), j ≤ m ∧ i = .int .i64 j ∧ v' = v ∧ Hid (zs.length = j) ∧ Hid (wr.ownsRow Wx.heap.size 3 1 v' j (zs.map (.int .i64))) ∧ Below Wx.heap.size Wx wr) (fun _ i _ => m - (intOf i).toNat)
          case atStart => exact ⟨0, _, [], by omega, rfl, rfl, Lib.hid rfl, ol, b_alloc _ _⟩
          case round =>
            obtain ⟨j, v, zs, hj, rfl, rfl, hl, hq, hb⟩ := hrel
            clear ol
            have hsz := hb.size
            by_cases hlt2 : j < m
            · have d0 : (0 : Int) ≤ (n1 : Int) / 2 ^ j := Int.ediv_nonneg (by omega) (Int.le_of_lt (Int.pow_pos (by omega)))
              have d1 : (n1 : Int) / 2 ^ j ≤ (n1 : Int) := Int.ediv_le_self _ (by omega)
              go_wp2_with (at_builtin; refine wpList_append_any rfl _ _ 23 rfl Wx.heap.size 3 i0 _ 1 8 Try.underlying23 hi0 hz0 hz1 hz2 rfl (by decide) v _ _ rfl (own_below hq.out (b_alloc _ _)) (some ⟨wr.heap.size, 0, none⟩) 1 1 [.int .i64 ((n1 : Int) / 2 ^ j % 6)] rfl (.inr ⟨_, rfl, rfl, cell_one_new _ _ _⟩) (by simp [Value.oneCell']) (by unfold maxLen; omega) (by omega) (by rw [size_alloc_]; omega) ?_; intro v7 w7 ho7 hb7 _ _)
              have hb8 : Below Wx.heap.size Wx w7 := (hb.alloc (by omega) _).trans hb7
              have ho8 : w7.ownsRow Wx.heap.size 3 1 v7 (j + 1) ((zs ++ [(n1 : Int) / 2 ^ j % 6]).map (.int .i64)) := by simpa using ho7
              have hl8 : (zs ++ [(n1 : Int) / 2 ^ j % 6]).length = j + 1 := by rw [List.length_append, hl.out]; rfl
              clear ho7 hb7
              go_roundw
              case rel => exact ⟨j + 1, v7, _, by omega, by go_num, rfl, hl8, ho8, hb8⟩
              case measure => simp [intOf]; omega
            · obtain rfl : j = m := by omega
              obtain ⟨C, dc, rfl, rc, -⟩ := IntR.of_own hq.out (by omega)
              have c4 := c2.trans (hb.mono c2.size)
              have c5 := bgo c3 hb
              clear hq hb hsz
              cases hs : xs.all fun l => decide (l ∈ ys)
              · have HS := Lib.hid hs
                clear hs
                go_wp2_with fail
                go_ret
                exact ⟨rfl, c4⟩
              · have HS := Lib.hid hs
                clear hs
                go_wp2_with fail
                refine (iClauseHolds _ _ _ _ _ _ _ _ _ (ra.on c5) rc).mono ?_
                rintro e W7 ⟨rfl, hB⟩
                replace c4 := bgo c4 hB
                replace c5 := bgo c5 hB
                have c6 := hB
                clear hB
                cases hca : chF xs zs j
                · have HC := Lib.hid hca
                  clear hca
                  go_wp2_with fail
                  go_ret
                  exact ⟨rfl, c4⟩
                · have hcb := chF_sub HV2.out HS.out hca
                  have HC := Lib.hid hca
                  have HCB := Lib.hid hcb
                  clear hca hcb
                  go_wp2_with fail
                  refine (iClauseHolds _ _ _ _ _ _ _ _ _ (rb.on c5) (rc.on c6)).mono ?_
                  rw [HCB.out]
                  rintro e W8 ⟨rfl, hB⟩
                  replace c4 := bgo c4 hB
                  go_wp2_with fail
                  go_ret
                  exact ⟨rfl, c4⟩

set_option maxRecDepth 100000 in
theorem lifted (os : Os) (started : os.Started) (H : Type) (enc : TypeId × Value → H) :
    ReturnsInHanded {} Try.checked os 5 .any (Rows.fnSubsumesSpec.pre6 enc Try.prog Try.f5 Rows.fnSubsumesRow.domain false) (Rows.fnSubsumesSpec.post enc Try.prog Try.f5 false true false false) := by
  refine returnsInHanded_of_change (C := Try.checked) own started (by kernel_rfl) Try.func5
    (ChangeSpec.witness6 (enc := enc) (C := Try.checked) false ⟨#[], #[.slice none 0 0, .slice none 0 0], []⟩ 8 (by kernel_rfl) (by kernel_rfl) (by kernel_rfl) (by kernel_rfl)) ?_
  intro W base args ds gs before hval0 hW hcnd _
  have hval : ∀ (j : Nat) t v, Try.f5.params[j]? = some t → args[j]? = some v → Value.okWide Try.prog W .any base t v := hval0
  have hW' := hW
  obtain ⟨p, q, hA0, hV, rfl, hfz, hnd⟩ := hW
  have hA : DataW.TrodAll enc Try.prog W 0 (fun _ => true) true Try.f5.params.toList args.toList ds p := hA0
  rw [Try.params5] at hA hval
  obtain ⟨v0, vs0, d0, ds0, p0, q0, hargs, rfl, rfl, h0, r0⟩ := trodAll_cons hA
  obtain ⟨v1, vs1, d1, ds1, p1, q1, rfl, rfl, rfl, h1, r1⟩ := trodAll_cons r0
  obtain ⟨rfl, rfl, rfl⟩ := trodAll_nil r1
  obtain rfl : args = #[v0, v1] := by cases args; simp_all
  obtain ⟨rfl, rfl⟩ := trodVars_none hV
  have k0 := h0
  have l0 : ∀ x ∈ p0, x.block < W.heap.size := fun x hx => hW'.lt x (by simp [hx])
  have k1 := h1
  have l1 : ∀ x ∈ p1, x.block < W.heap.size := fun x hx => hW'.lt x (by simp [hx])
  obtain ⟨A0, n0, c0, xs0, rfl, g0⟩ := open_byteS Try.underlying22 Try.underlying5 (by kernel_rfl) (hval 0 22 v0 rfl rfl) k0
  obtain ⟨A1, n1, c1, xs1, rfl, g1⟩ := open_byteS Try.underlying22 Try.underlying5 (by kernel_rfl) (hval 1 22 v1 rfl rfl) k1
  clear hA0 hval0
  refine (walk A0 n0 c0 xs0 g0 A1 n1 c1 xs1 g1).mono fun e W' ⟨he, hb⟩ => ?_
  subst he
  exact ⟨_, rfl, _, _, _, [], _, [], hW', trodAll_cons_mk (p := []) (shut_bool Try.underlying4 _) trodAll_mk0, (trodAll_cons_mk (Below.trod laid (by kernel_rfl) (of_decide_eq_true (by kernel_rfl)) h0 hb l0) (trodAll_cons_mk (Below.trod laid (by kernel_rfl) (of_decide_eq_true (by kernel_rfl)) h1 hb l1) trodAll_mk0)), rfl, hb.frame _, fun h => by cases h⟩

theorem over : Rows.fnSubsumesRow.holds Try.pinned (OpenSpec.ofChange Rows.fnSubsumesSpec) :=
  OpenClaim.holds_of_wide 5 Try.f5 rfl rfl rfl rfl rfl rfl rfl ⟨rfl, rfl, rfl, rfl, rfl⟩ rfl rfl rfl rfl rfl (by kernel_rfl) Try.func5 (by kernel_rfl)
    (of_decide_eq_true (by kernel_rfl)) (by unfold Func.isWrapper; first | (rw [if_pos (by decide +kernel)]; kernel_rfl) | (rw [if_neg (by decide +kernel)]; exact ⟨rfl, rfl⟩))
    (fun os started H enc _ => lifted os started H enc)

/-- The statement. -/
theorem proved : Rows.FnSubsumesSaid :=
  over
#print axioms proved
end Go.Proofs.Ytldpcocnhpeadaa.fnSubsumes
