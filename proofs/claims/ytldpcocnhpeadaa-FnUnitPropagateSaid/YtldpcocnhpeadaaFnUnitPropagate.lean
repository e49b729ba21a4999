/- FnUnitPropagate: for every input the law returns true and its arguments read as before; no further condition. -/
import Derived.Test.YtldpcocnhpeadaaRows
import Derived.WalkKit
import Derived.ProofKit
import Derived.OpenShut
import Derived.Carry
import Derived.StillTailTactics
import Derived.Test.YtldpcocnhpeadaaDrawU
import Derived.Test.YtldpcocnhpeadaaUnitI
import Derived.Test.YtldpcocnhpeadaaSubD
namespace Go.Proofs.Ytldpcocnhpeadaa.fnUnitPropagate
open Go.ChangeShapes Go.WideShapes Go.ChangeAt Go.RowKit
open Go.Shelf
set_option linter.unusedVariables false
set_option maxRecDepth 100000

theorem own : ownKnob Try.prog.godebug = none := by kernel_rfl
theorem laid : laidOutB Try.prog = true := by kernel_rfl

set_option maxHeartbeats 8000000 in
theorem walk {W : World} (A0 : Option Addr) (n0 c0 : Nat) (xs0 : List Int) (g0 : CodeA W W.heap.size A0 n0 c0 xs0) (A1 : Option Addr) (n1 c1 : Nat) (xs1 : List Int) (g1 : CodeA W W.heap.size A1 n1 c1 xs1) :
    Calls Try.prog 8 #[.slice A0 n0 c0, .slice A1 n1 c1] W fun e w' => e = .returned (.bool true) ∧ Below W.heap.size W w' := by
  obtain ⟨i0, hi0, hz0, hz1, hz2⟩ := info_parts info_int
  have hn1 := g1.1.le
  by_cases hlen : (1048576 : Int) < (n0 : Int)
  · have hd : decide ((1048576 : Int) < (n0 : Int)) = true := decide_eq_true hlen
    clear hlen
    go_enter Try.func8, Try.ntmps8
    go_wp2_with fail
    go_ret
    exact ⟨rfl, Below.refl _ _⟩
  have hd : decide ((1048576 : Int) < (n0 : Int)) = false := decide_eq_false hlen
  by_cases hlen1 : (1048576 : Int) < (n1 : Int)
  · have hd1 : decide ((1048576 : Int) < (n1 : Int)) = true := decide_eq_true hlen1
    clear hlen1
    go_enter Try.func8, Try.ntmps8
    go_wp2_with fail
    go_ret
    exact ⟨rfl, Below.refl _ _⟩
  have hd1 : decide ((1048576 : Int) < (n1 : Int)) = false := decide_eq_false hlen1
  go_enter Try.func8, Try.ntmps8
  go_wp2_with fail
  refine (drawUnitPropagate _ _ _ _ _ g0).mono ?_
  rintro e W1 ⟨v1, v2, xs, ds, rfl, ⟨hx4, hy1, hy4⟩, o1, o2, c0⟩
  have q2 := o2
  obtain ⟨Ba, da, rfl, ra⟩ := LitR.of_own rfl o1 (by omega)
  obtain ⟨Bb, db, rfl, rb, -⟩ := IntR.of_own q2 (by omega)
  clear q2 o1
  have HD := Lib.hid (HoldR.of_own o2)
  have OD := Lib.hid o2
  clear o2
  obtain ⟨ny, hny⟩ : ∃ ny, ds.length = ny := ⟨_, rfl⟩
  rw [hny] at rb hy1 hy4 HD OD ⊢
  have HNY := Lib.hid hny
  have hul := upF_len xs ds
  clear hny
  go_wp2_with fail
  refine (iUnitPropagate _ _ _ _ _ _ _ _ _ _ ra HD.out (by omega)).mono ?_
  rintro e W2 ⟨v, rfl, ho, hB⟩
  obtain ⟨Bo, do_, rfl, ro⟩ := IntR.of_hold ho (by omega)
  clear ho
  replace c0 := bgo c0 hB
  have c1 := hB
  clear hB
  go_wp2_with fail
  refine (sUnitPropagate _ _ _ _ _ _ _ _ _ _ (ra.on c1) (own_below OD.out c1)).mono ?_
  rintro e W3 ⟨v, rfl, hs, hB⟩
  obtain ⟨Bs, dss, rfl, rs, -⟩ := IntR.of_own hs (by omega)
  clear hs
  replace c0 := bgo c0 hB
  replace c1 := bgo c1 hB
  have c2 := hB
  clear hB
  go_wp2_with fail
  refine (lequalInts _ _ _ _ _ _ _ _ _ (ro.on c2) rs).mono ?_
  rw [decide_eq_true (rfl : upF xs ds = upF xs ds)]
  rintro e W4 ⟨rfl, hB⟩
  replace c0 := bgo c0 hB
  replace c1 := bgo c1 hB
  replace c2 := bgo c2 hB
  clear hB
  by_cases hz : (upF xs ds).length = 0
  · have hzb : (((upF xs ds).length : Int) == 0) = true := by simp [hz]
    have HZ := Lib.hid hz
    clear hz
    go_wp2_with fail
    refine (sUnitPropagate _ _ _ _ _ _ _ _ _ _ (ra.on c1) (own_below OD.out c1)).mono ?_
    rintro e W5 ⟨v, rfl, hs, hB⟩
    obtain ⟨Bs', dss', rfl, rs', -⟩ := IntR.of_own hs (by omega)
    clear hs
    replace c0 := bgo c0 hB
    replace c2 := bgo c2 hB
    clear hB
    go_wp2_with fail
    refine (lequalInts _ _ _ _ _ _ _ _ _ (ro.on c2) rs').mono ?_
    rw [decide_eq_true (rfl : upF xs ds = upF xs ds)]
    rintro e W6 ⟨rfl, hB⟩
    replace c0 := bgo c0 hB
    go_wp2_with fail
    go_ret
    exact ⟨rfl, c0⟩
  · have hzb : (((upF xs ds).length : Int) == 0) = false := by simp; intro h; simp [h] at hz
    obtain ⟨hdo, hvc, hup⟩ := upF_pos hz
    have hol : (upF xs ds).length = ny := by rw [hup, upL_len, HNY.out]
    have hsub := upL_sub hdo hvc
    rw [← hup] at hsub
    have HSUB := Lib.hid hsub
    have HDO := Lib.hid hdo
    have HVC := Lib.hid hvc
    have HUP := Lib.hid hup
    rw [hol] at ro hzb ⊢
    clear hz hup hsub hdo hvc hul rs
    have HOL := Lib.hid hol
    clear hol
    obtain ⟨f, hf⟩ : ∃ f : Nat → Int, f = fun j => (n1 : Int) / 2 ^ j % 6 := ⟨_, rfl⟩
    have hfb : ∀ j, 0 ≤ f j ∧ f j ≤ 5 := fun j => by
      have e : f j = (n1 : Int) / 2 ^ j % 6 := by rw [hf]
      rw [e]
      have h1 := Int.emod_nonneg ((n1 : Int) / 2 ^ j) (show (6 : Int) ≠ 0 by decide)
      have h2 := Int.emod_lt_of_pos ((n1 : Int) / 2 ^ j) (show (0 : Int) < 6 by decide)
      omega
    have hfe : ∀ j, (n1 : Int) / 2 ^ j % 6 = f j := fun j => by rw [hf]
    have HFB := Lib.hid hfb
    have HFE := Lib.hid hfe
    clear hf hfb hfe
    have ol : (W4.alloc (.cells #[] 3)).ownsRow W4.heap.size 3 1 (.slice (some ⟨W4.heap.size, 0, none⟩) 0 0) 0 (((List.range 0).map f).map (.int .i64)) := World.ownsRow_lit W4 #[] 0 (Nat.le_refl _) (by decide) rfl
    go_wp2_with fail
    go_loopw [8, 9, 10, 11] (fun v a b i wr => ∃ (k : Nat) (v' : Value), k ≤ ny ∧ i = .int .i64 k ∧ v' = v ∧ a = .bool (insF ds f k) ∧ b = .bool (insF (upF xs ds) f k) ∧ Hid (wr.ownsRow W4.heap.size 3 1 v' k (((List.range k).map f).map (.int .i64))) ∧ Below W4.heap.size W4 wr) (fun _ _ _ i _ => ny - (intOf i).toNat)
    case atStart => exact ⟨0, _, by omega, rfl, rfl, rfl, rfl, ol, b_alloc _ _⟩
    case round =>
      obtain ⟨k, v, hk, rfl, rfl, rfl, rfl, hq, hb⟩ := hrel
      clear ol
      have hsz := hb.size
      have c3 := bgo c1 hb
      have c4 := bgo c2 hb
      have c5 := bgo c0 hb
      have z1 := c1.size
      have z2 := c2.size
      by_cases hlt : k < ny
      · have d0 : (0 : Int) ≤ (n1 : Int) / 2 ^ k := Int.ediv_nonneg (by omega) (Int.le_of_lt (Int.pow_pos (by omega)))
        have d1 : (n1 : Int) / 2 ^ k ≤ (n1 : Int) := Int.ediv_le_self _ (by omega)
        obtain ⟨bb, bo, y, rfl, hbb, hyk, hcy⟩ := IntR.at_ (rb.below IntC.keeps c3) hlt
        obtain ⟨cb, co, z, rfl, hcb, hzk, hcz⟩ := IntR.at_ (ro.below IntC.keeps c4) hlt
        have h1 := insF_snoc ds f k hyk
        have h2 := insF_snoc (upF xs ds) f k hzk
        rw [← HFE.out k] at h1 h2
        have H1 := Lib.hid h1
        have H2 := Lib.hid h2
        clear h1 h2 hyk hzk
        have hlist : ((List.range (k + 1)).map f).map (Value.int .i64) = ((List.range k).map f).map (Value.int .i64) ++ [.int .i64 ((n1 : Int) / 2 ^ k % 6)] := by
          rw [List.range_succ, List.map_append, List.map_append, HFE.out k]; rfl
        have HLI := Lib.hid hlist
        clear hlist
        cases hi1 : insF ds f k <;> cases hi2 : insF (upF xs ds) f k
        all_goals
          rw [hi1] at H1
          rw [hi2] at H2
          have HI1 := Lib.hid hi1
          have HI2 := Lib.hid hi2
          clear hi1 hi2
          go_wp2_with (first
            | (at_builtin; refine wpList_append_any rfl _ _ 23 rfl W4.heap.size 3 i0 _ 1 8 Try.underlying23 hi0 hz0 hz1 hz2 rfl (by decide) v _ _ rfl (own_below hq.out (b_alloc _ _)) (some ⟨wr.heap.size, 0, none⟩) 1 1 [.int .i64 ((n1 : Int) / 2 ^ k % 6)] rfl (.inr ⟨_, rfl, rfl, cell_one_new _ _ _⟩) (by simp [Value.oneCell']) (by unfold maxLen; omega) (by omega) (by rw [size_alloc_]; omega) ?_; intro v7 w7 ho7 hb7 hg7 _; have hr7 := hq.out.lt; have hbw := (b_alloc wr (.cells #[.int .i64 ((n1 : Int) / 2 ^ k % 6)] 3)); have hcy7 := ((hb7.cell (p := ⟨bb, bo + k, none⟩) (by show bb < W4.heap.size; omega)).trans ((hbw.cell (p := ⟨bb, bo + k, none⟩) (by show bb < wr.heap.size; omega)).trans hcy)); have hcz7 := ((hb7.cell (p := ⟨cb, co + k, none⟩) (by show cb < W4.heap.size; omega)).trans ((hbw.cell (p := ⟨cb, co + k, none⟩) (by show cb < wr.heap.size; omega)).trans hcz)))
            | (go_at_call 37; refine (iDomainHas _ _ _).mono ?_; rintro e w' ⟨rfl, rfl⟩))
          have hb8 : Below W4.heap.size W4 w7 := hb.trans (((b_alloc wr (.cells #[.int .i64 ((n1 : Int) / 2 ^ k % 6)] 3)).mono (by omega)).trans hb7)
          have ho8 : w7.ownsRow W4.heap.size 3 1 v7 (k + 1) (((List.range (k + 1)).map f).map (.int .i64)) := by rw [HLI.out]; exact ho7
          go_roundw
          case rel => exact ⟨k + 1, v7, by omega, by go_num, rfl, by rw [H1.out]; rfl, by rw [H2.out]; rfl, ho8, hb8⟩
          case measure => simp [intOf]; omega
      · obtain rfl : k = ny := by omega
        have hq2 := hq.out
        obtain ⟨C, dc, rfl, rc, -⟩ := IntR.of_own hq2 (by omega)
        clear hq hq2
        go_wp2_with fail
        refine (isSubset _ _ _ _ _ _ _ _ _ (ro.on c4) (rb.on c3)).mono ?_
        rw [HSUB.out]
        rintro e W6 ⟨rfl, hB⟩
        replace c5 := bgo c5 hB
        replace c3 := bgo c3 hB
        have c6 := hB
        clear hB
        cases hi1 : insF ds f k
        · have HI1 := Lib.hid hi1
          clear hi1
          go_wp2_with fail
          go_ret
          exact ⟨rfl, c5⟩
        · have HI1 := Lib.hid hi1
          clear hi1
          go_wp2_with fail
          refine (iClauseHolds _ _ _ _ _ _ _ _ _ (ra.on c3) (rc.on c6)).mono ?_
          rintro e W7 ⟨rfl, hB⟩
          replace c5 := bgo c5 hB
          clear hB
          cases hca : chF xs ((List.range k).map f) k
          · have HC := Lib.hid hca
            clear hca
            go_wp2_with fail
            go_ret
            exact ⟨rfl, c5⟩
          · have hkp : insF (upF xs ds) f k = true := by
              have := upL_kept (f := f) HDO.out HVC.out HFB.out (by rw [HNY.out]; exact HI1.out) (by rw [HNY.out]; exact hca)
              rw [HNY.out, ← HUP.out] at this
              exact this
            have HC := Lib.hid hca
            rw [hkp]
            have HKP := Lib.hid hkp
            clear hca hkp
            go_wp2_with fail
            go_ret
            exact ⟨rfl, c5⟩

set_option maxRecDepth 100000 in
theorem lifted (os : Os) (started : os.Started) (H : Type) (enc : TypeId × Value → H) :
    ReturnsInHanded {} Try.checked os 8 .any (Rows.fnUnitPropagateSpec.pre6 enc Try.prog Try.f8 Rows.fnUnitPropagateRow.domain false) (Rows.fnUnitPropagateSpec.post enc Try.prog Try.f8 false true false false) := by
  refine returnsInHanded_of_change (C := Try.checked) own started (by kernel_rfl) Try.func8
    (ChangeSpec.witness6 (enc := enc) (C := Try.checked) false ⟨#[], #[.slice none 0 0, .slice none 0 0], []⟩ 8 (by kernel_rfl) (by kernel_rfl) (by kernel_rfl) (by kernel_rfl)) ?_
  intro W base args ds gs before hval0 hW hcnd _
  have hval : ∀ (j : Nat) t v, Try.f8.params[j]? = some t → args[j]? = some v → Value.okWide Try.prog W .any base t v := hval0
  have hW' := hW
  obtain ⟨p, q, hA0, hV, rfl, hfz, hnd⟩ := hW
  have hA : DataW.TrodAll enc Try.prog W 0 (fun _ => true) true Try.f8.params.toList args.toList ds p := hA0
  rw [Try.params8] at hA hval
  obtain ⟨v0, vs0, d0, ds0, p0, q0, hargs, rfl, rfl, h0, r0⟩ := trodAll_cons hA
  obtain ⟨v1, vs1, d1, ds1, p1, q1, rfl, rfl, rfl, h1, r1⟩ := trodAll_cons r0
  obtain ⟨rfl, rfl, rfl⟩ := trodAll_nil r1
  obtain rfl : args = #[v0, v1] := by cases args; simp_all
  obtain ⟨rfl, rfl⟩ := trodVars_none hV
  have k0 := h0
  have l0 : ∀ x ∈ p0, x.block < W.heap.size := fun x hx => hW'.lt x (by simp [hx])
  have k1 := h1
  have l1 : ∀ x ∈ p1, x.block < W.heap.size := fun x hx => hW'.lt x (by simp [hx])
  obtain ⟨A0, n0, c0, xs0, rfl, g0⟩ := open_byteS Try.underlying22 Try.underlying5 (by kernel_rfl) (hval 0 22 v0 rfl rfl) k0
  obtain ⟨A1, n1, c1, xs1, rfl, g1⟩ := open_byteS Try.underlying22 Try.underlying5 (by kernel_rfl) (hval 1 22 v1 rfl rfl) k1
  clear hA0 hval0
  refine (walk A0 n0 c0 xs0 g0 A1 n1 c1 xs1 g1).mono fun e W' ⟨he, hb⟩ => ?_
  subst he
  exact ⟨_, rfl, _, _, _, [], _, [], hW', trodAll_cons_mk (p := []) (shut_bool Try.underlying4 _) trodAll_mk0, (trodAll_cons_mk (Below.trod laid (by kernel_rfl) (of_decide_eq_true (by kernel_rfl)) h0 hb l0) (trodAll_cons_mk (Below.trod laid (by kernel_rfl) (of_decide_eq_true (by kernel_rfl)) h1 hb l1) trodAll_mk0)), rfl, hb.frame _, fun h => by cases h⟩

theorem over : Rows.fnUnitPropagateRow.holds Try.pinned (OpenSpec.ofChange Rows.fnUnitPropagateSpec) :=
  OpenClaim.holds_of_wide 8 Try.f8 rfl rfl rfl rfl rfl rfl rfl ⟨rfl, rfl, rfl, rfl, rfl⟩ rfl rfl rfl rfl rfl (by kernel_rfl) Try.func8 (by kernel_rfl)
    (of_decide_eq_true (by kernel_rfl)) (by unfold Func.isWrapper; first | (rw [if_pos (by decide +kernel)]; kernel_rfl) | (rw [if_neg (by decide +kernel)]; exact ⟨rfl, rfl⟩))
    (fun os started H enc _ => lifted os started H enc)

/-- The statement. -/
theorem proved : Rows.FnUnitPropagateSaid :=
  over
#print axioms proved
end Go.Proofs.Ytldpcocnhpeadaa.fnUnitPropagate
