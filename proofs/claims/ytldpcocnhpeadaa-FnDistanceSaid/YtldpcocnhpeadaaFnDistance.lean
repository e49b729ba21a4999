/- FnDistance: for every input the law returns true and its arguments read as before; no further condition. -/
import Derived.Test.YtldpcocnhpeadaaRows
import Derived.WalkKit
import Derived.ProofKit
import Derived.OpenShut
import Derived.Carry
import Derived.StillTailTactics
import Derived.Test.YtldpcocnhpeadaaDist
import Derived.Test.YtldpcocnhpeadaaApp
namespace Go.Proofs.Ytldpcocnhpeadaa.fnDistance
open Go.ChangeShapes Go.WideShapes Go.ChangeAt Go.RowKit
open Go.Shelf
set_option linter.unusedVariables false
set_option maxRecDepth 100000

theorem own : ownKnob Try.prog.godebug = none := by kernel_rfl
theorem laid : laidOutB Try.prog = true := by kernel_rfl

theorem dist_zero {xs ys : List Int} {k : Nat} : distTo xs ys k = 0 ↔ ∀ j, j < k → xs[j]?.getD 0 = ys[j]?.getD 0 := by
  induction k with
  | zero => simp [distTo]
  | succ k ih =>
    have hb := distTo_bd xs ys k
    unfold distTo
    constructor
    · intro h j hj
      by_cases he : xs[k]?.getD 0 = ys[k]?.getD 0
      · rw [if_pos he] at h
        rcases Nat.lt_or_ge j k with h1 | h1
        · exact ih.1 (by omega) j h1
        · obtain rfl : j = k := by omega
          exact he
      · rw [if_neg he] at h; omega
    · intro h
      rw [if_pos (h k (by omega)), ih.2 fun j hj => h j (by omega)]
      rfl
theorem dist_eq {xs ys : List Int} {n : Nat} (hx : xs.length = n) (hy : ys.length = n) : (distTo xs ys n == 0) = decide (xs = ys) := by
  by_cases h : xs = ys
  · subst h
    have : distTo xs xs n = 0 := dist_zero.2 fun j _ => rfl
    rw [this]; simp
  · have : distTo xs ys n ≠ 0 := fun h0 => h (List.ext_getElem? fun j => by
      rcases Nat.lt_or_ge j n with hj | hj
      · have := dist_zero.1 h0 j hj
        rw [List.getElem?_eq_getElem (by omega), List.getElem?_eq_getElem (by omega)] at this ⊢
        exact congrArg some this
      · rw [List.getElem?_eq_none (by omega), List.getElem?_eq_none (by omega)])
    simp [h, this]
theorem dist_comm (xs ys : List Int) (k : Nat) : distTo xs ys k = distTo ys xs k := by
  induction k with
  | zero => rfl
  | succ k ih =>
    unfold distTo
    rw [ih]
    by_cases h : xs[k]?.getD 0 = ys[k]?.getD 0
    · rw [if_pos h, if_pos h.symm]
    · rw [if_neg h, if_neg fun e => h e.symm]
theorem dist_tri (xs ys zs : List Int) (k : Nat) : distTo xs ys k ≤ distTo xs zs k + distTo zs ys k := by
  induction k with
  | zero => simp [distTo]
  | succ k ih =>
    unfold distTo
    repeat' split
    all_goals first | omega | simp_all
set_option maxHeartbeats 4000000 in
theorem walk {W : World} (A0 : Option Addr) (n0 c0 : Nat) (xs0 : List Int) (g0 : CodeA W W.heap.size A0 n0 c0 xs0) (A1 : Option Addr) (n1 c1 : Nat) (xs1 : List Int) (g1 : CodeA W W.heap.size A1 n1 c1 xs1) :
    Calls Try.prog 3 #[.slice A0 n0 c0, .slice A1 n1 c1] W fun e w' => e = .returned (.bool true) ∧ Below W.heap.size W w' := by
  obtain ⟨i0, hi0, hz0, hz1, hz2⟩ := info_parts info_int
  have hn1 := g1.1.le
  by_cases hlen : (1048576 : Int) < (n0 : Int)
  · have hd : decide ((1048576 : Int) < (n0 : Int)) = true := decide_eq_true hlen
    clear hlen
    go_enter Try.func3, Try.ntmps3
    go_wp2_with fail
    go_ret
    exact ⟨rfl, Below.refl _ _⟩
  have hd : decide ((1048576 : Int) < (n0 : Int)) = false := decide_eq_false hlen
  by_cases hlen1 : (1048576 : Int) < (n1 : Int)
  · have hd1 : decide ((1048576 : Int) < (n1 : Int)) = true := decide_eq_true hlen1
    clear hlen1
    go_enter Try.func3, Try.ntmps3
    go_wp2_with fail
    go_ret
    exact ⟨rfl, Below.refl _ _⟩
  have hd1 : decide ((1048576 : Int) < (n1 : Int)) = false := decide_eq_false hlen1
  go_enter Try.func3, Try.ntmps3
  go_wp2_with fail
  refine (drawDistance _ _ _ _ _ g0).mono ?_
  rintro e W1 ⟨v1, v2, xs, ys, rfl, hnn, ⟨hi1, hi2, hlx, hly⟩, o1, o2, c0⟩
  have q1 := o1
  have q2 := o2
  obtain ⟨Ba, da, rfl, ra, -⟩ := IntR.of_own q1 (by omega)
  obtain ⟨Bb, db, rfl, rb, -⟩ := IntR.of_own q2 (by omega)
  obtain ⟨ga, rfl⟩ : ∃ ga, Ba = some ⟨ga, 0, none⟩ := by
    rcases o1.2 with ⟨h1, _⟩ | ⟨g, cap, cur, h1, _⟩
    · exact absurd h1 hnn
    · injection h1 with h1; exact ⟨g, h1⟩
  clear q1 q2 o2 hnn
  have HO := Lib.hid o1
  have HI := Lib.hid hi1
  clear o1 hi1 hi2
  go_wp2_with fail
  refine (iDistance _ _ _ _ _ _ _ _ _ ra rb).mono ?_
  rintro e W2 ⟨rfl, hB⟩
  replace c0 := bgo c0 hB
  have c1 := hB
  clear hB
  go_wp2_with fail
  refine (sDistance _ _ _ _ _ _ _ _ _ (ra.on c1) (rb.on c1)).mono ?_
  rintro e W3 ⟨rfl, hB⟩
  replace c0 := bgo c0 hB
  replace c1 := bgo c1 hB
  clear hB
  by_cases hne : xs.length = ys.length
  · have hde : distF xs ys xs.length ys.length = distTo xs ys xs.length := if_pos hne
    have hbd := distTo_bd xs ys xs.length
    rw [hde]
    have HNE := Lib.hid hne
    clear hne hde
    have hz : (distTo xs ys xs.length != distTo xs ys xs.length) = false := by simp
    have hlt0 : decide (distTo xs ys xs.length < 0) = false := decide_eq_false (by omega)
    have oa := src_own (own_below (own_below HO.out c1) (b_alloc W3 (.cells #[] 3)))
    have ol : (W3.alloc (.cells #[] 3)).ownsRow W3.heap.size 3 1 (.slice (some ⟨W3.heap.size, 0, none⟩) 0 0) 0 [] := World.ownsRow_lit W3 #[] 0 (Nat.le_refl _) (by decide) rfl
    go_wp2_with (at_builtin; refine wpList_append_any rfl _ _ 23 rfl W3.heap.size 3 i0 _ 1 8 Try.underlying23 hi0 hz0 hz1 hz2 rfl (by decide) (.slice (some ⟨W3.heap.size, 0, none⟩) 0 0) _ _ rfl ol _ _ _ _ rfl oa (by simp [Value.oneCell']) (by unfold maxLen; omega) (by omega) (by rw [size_alloc_]; omega) ?_; intro v3 W4 oc hBc _)
    have oc' : W4.ownsRow W3.heap.size 3 1 v3 xs.length (xs.map (.int .i64)) := by simpa using oc
    obtain ⟨C, d, rfl⟩ := own_slice oc'
    have hB34 : Below W3.heap.size W3 W4 := (b_alloc _ _).trans hBc
    have OC := Lib.hid oc'
    clear oc oc' oa ol hBc
    go_wp2_with fail
    go_loopw [9] (fun i wr => ∃ (k : Nat) (zs : List Int), k ≤ xs.length ∧ i = .int .i64 k ∧ Hid (zs.length = xs.length) ∧ Hid (InM 6 zs) ∧ Hid (wr.ownsRow W3.heap.size 3 1 (.slice C xs.length d) xs.length (zs.map (.int .i64))) ∧ Below W3.heap.size W3 wr) (fun i _ => xs.length - (intOf i).toNat)
    case atStart => exact ⟨0, xs, by omega, rfl, Lib.hid rfl, HI, OC, hB34⟩
    case round =>
      obtain ⟨k, zs, hk, rfl, hl, hin, hq, hb⟩ := hrel
      clear OC hB34
      by_cases hlt : k < xs.length
      · obtain ⟨gc, rfl, hgc⟩ := own_pos hq.out (by omega)
        have hco := hq.out.cellAt k (by omega)
        have hfo := hq.out.frozenAt k
        obtain ⟨y, hy⟩ : ∃ y, zs[k]? = some y := ⟨_, List.getElem?_eq_getElem (by rw [hl.out]; exact hlt)⟩
        rw [List.getElem?_map, hy] at hco
        simp only [Option.map_some] at hco
        have hyb := hin.out y (List.mem_of_getElem? hy)
        obtain ⟨y0, y1⟩ := hyb
        clear hy
        have d0 : (0 : Int) ≤ (n1 : Int) / 2 ^ k := Int.ediv_nonneg (by omega) (Int.le_of_lt (Int.pow_pos (by omega)))
        have d1 : (n1 : Int) / 2 ^ k ≤ (n1 : Int) := Int.ediv_le_self _ (by omega)
        go_wp2_with fail
        refine wp_region_still_tail 12 (by kernel_rfl) (by kernel_rfl) ?_
        simp only [List.take_succ_cons, List.take_zero, List.drop_succ_cons, List.drop_zero]
        repeat still_step
        refine wpStill_nil ?_
        change wpList _ _ _ _ _ wr.drew
        have hfo' : wr.drew.frozen? ⟨gc, k, none⟩ = false := hfo
        have hco' : wr.drew.cell? ⟨gc, k, none⟩ = some (.int .i64 y) := hco
        have hq' : Hid (wr.drew.ownsRow W3.heap.size 3 1 (.slice (some ⟨gc, 0, none⟩) xs.length d) xs.length (zs.map (.int .i64))) := hq
        have hb' : Below W3.heap.size W3 wr.drew := hb.drew
        generalize wr.drew = w5 at hfo' hco' hq' hb' ⊢
        clear hq hb hco hfo
        go_wp2_with fail
        go_roundw
        case rel => exact ⟨k + 1, zs.set k ((y + (n1 : Int) / 2 ^ k) % 6), by omega, by go_num, by rw [List.length_set]; exact hl.out, hin.out.set ⟨Int.emod_nonneg _ (by omega), Int.emod_lt_of_pos _ (by omega)⟩, by have := (hq'.out.stored k (.int .i64 ((y + (n1 : Int) / 2 ^ k) % 6))).1; rw [← List.map_set] at this; exact this, hb'.setCell (by simpa using hgc) _⟩
        case measure => simp [intOf]; omega
      · obtain rfl : k = xs.length := by omega
        have c3 : Below W1.heap.size W1 wr := bgo c1 (hb.mono (Nat.le_refl _))
        have hq1 := hq.out
        obtain ⟨C', d', e', rc, -⟩ := IntR.of_own hq1 (by omega)
        injection e' with e1 e2 e3
        subst e1 e3
        have hB0 : Below W.heap.size W wr := bgo c0 hb
        clear c0 c1 hb hq1
        go_wp2_with fail
        refine (lequalInts _ _ _ _ _ _ _ _ _ (ra.on c3) (rb.on c3)).mono ?_
        rintro e W5 ⟨rfl, hB5⟩
        replace hB0 := bgo hB0 hB5
        replace c3 := bgo c3 hB5
        have c4 := hB5
        clear hB5
        have hE := Lib.hid (dist_eq rfl HNE.out.symm : (distTo xs ys xs.length == 0) = decide (xs = ys))
        go_wp2_with fail
        refine (iDistance _ _ _ _ _ _ _ _ _ (rb.on c3) (ra.on c3)).mono ?_
        have hba : distF ys xs ys.length xs.length = distTo xs ys xs.length := by rw [distF, if_pos HNE.out.symm, dist_comm, HNE.out]
        rw [hba]
        clear hba
        rintro e W6 ⟨rfl, hB6⟩
        replace hB0 := bgo hB0 hB6
        replace c3 := bgo c3 hB6
        replace c4 := bgo c4 hB6
        clear hB6
        have hee : (distTo xs ys xs.length == distTo xs ys xs.length) = true := by simp
        go_wp2_with fail
        refine (iDistance _ _ _ _ _ _ _ _ _ (ra.on c3) (rc.on c4)).mono ?_
        have hac : distF xs zs xs.length xs.length = distTo xs zs xs.length := if_pos rfl
        rw [hac]
        clear hac
        rintro e W7 ⟨rfl, hB7⟩
        replace hB0 := bgo hB0 hB7
        replace c3 := bgo c3 hB7
        replace c4 := bgo c4 hB7
        clear hB7
        go_wp2_with fail
        refine (iDistance _ _ _ _ _ _ _ _ _ (rc.on c4) (rb.on c3)).mono ?_
        have hcb : distF zs ys xs.length ys.length = distTo zs ys xs.length := if_pos HNE.out
        rw [hcb]
        clear hcb
        rintro e W8 ⟨rfl, hB8⟩
        replace hB0 := bgo hB0 hB8
        have k1 := distTo_bd xs zs xs.length
        have k2 := distTo_bd zs ys xs.length
        have htri := dist_tri xs ys zs xs.length
        have hdt : decide (distTo xs ys xs.length ≤ distTo xs zs xs.length + distTo zs ys xs.length) = true := decide_eq_true htri
        go_wp2_with fail
        go_ret
        exact ⟨rfl, hB0⟩
  · have hde : distF xs ys xs.length ys.length = -1 := if_neg hne
    rw [hde]
    have hz : ((xs.length : Int) != (ys.length : Int)) = true := by simp; omega
    go_wp2_with fail
    refine (sDistance _ _ _ _ _ _ _ _ _ (ra.on c1) (rb.on c1)).mono ?_
    rw [hde]
    rintro e W4 ⟨rfl, hB⟩
    replace c0 := bgo c0 hB
    go_wp2_with fail
    go_ret
    exact ⟨rfl, c0⟩

set_option maxRecDepth 100000 in
theorem lifted (os : Os) (started : os.Started) (H : Type) (enc : TypeId × Value → H) :
    ReturnsInHanded {} Try.checked os 3 .any (Rows.fnDistanceSpec.pre6 enc Try.prog Try.f3 Rows.fnDistanceRow.domain false) (Rows.fnDistanceSpec.post enc Try.prog Try.f3 false true false false) := by
  refine returnsInHanded_of_change (C := Try.checked) own started (by kernel_rfl) Try.func3
    (ChangeSpec.witness6 (enc := enc) (C := Try.checked) false ⟨#[], #[.slice none 0 0, .slice none 0 0], []⟩ 8 (by kernel_rfl) (by kernel_rfl) (by kernel_rfl) (by kernel_rfl)) ?_
  intro W base args ds gs before hval0 hW hcnd _
  have hval : ∀ (j : Nat) t v, Try.f3.params[j]? = some t → args[j]? = some v → Value.okWide Try.prog W .any base t v := hval0
  have hW' := hW
  obtain ⟨p, q, hA0, hV, rfl, hfz, hnd⟩ := hW
  have hA : DataW.TrodAll enc Try.prog W 0 (fun _ => true) true Try.f3.params.toList args.toList ds p := hA0
  rw [Try.params3] at hA hval
  obtain ⟨v0, vs0, d0, ds0, p0, q0, hargs, rfl, rfl, h0, r0⟩ := trodAll_cons hA
  obtain ⟨v1, vs1, d1, ds1, p1, q1, rfl, rfl, rfl, h1, r1⟩ := trodAll_cons r0
  obtain ⟨rfl, rfl, rfl⟩ := trodAll_nil r1
  obtain rfl : args = #[v0, v1] := by cases args; simp_all
  obtain ⟨rfl, rfl⟩ := trodVars_none hV
  have k0 := h0
  have l0 : ∀ x ∈ p0, x.block < W.heap.size := fun x hx => hW'.lt x (by simp [hx])
  have k1 := h1
  have l1 : ∀ x ∈ p1, x.block < W.heap.size := fun x hx => hW'.lt x (by simp [hx])
  obtain ⟨A0, n0, c0, xs0, rfl, g0⟩ := open_byteS Try.underlying22 Try.underlying5 (by kernel_rfl) (hval 0 22 v0 rfl rfl) k0
  obtain ⟨A1, n1, c1, xs1, rfl, g1⟩ := open_byteS Try.underlying22 Try.underlying5 (by kernel_rfl) (hval 1 22 v1 rfl rfl) k1
  clear hA0 hval0
  refine (walk A0 n0 c0 xs0 g0 A1 n1 c1 xs1 g1).mono fun e W' ⟨he, hb⟩ => ?_
  subst he
  exact ⟨_, rfl, _, _, _, [], _, [], hW', trodAll_cons_mk (p := []) (shut_bool Try.underlying4 _) trodAll_mk0, (trodAll_cons_mk (Below.trod laid (by kernel_rfl) (of_decide_eq_true (by kernel_rfl)) h0 hb l0) (trodAll_cons_mk (Below.trod laid (by kernel_rfl) (of_decide_eq_true (by kernel_rfl)) h1 hb l1) trodAll_mk0)), rfl, hb.frame _, fun h => by cases h⟩

theorem over : Rows.fnDistanceRow.holds Try.pinned (OpenSpec.ofChange Rows.fnDistanceSpec) :=
  OpenClaim.holds_of_wide 3 Try.f3 rfl rfl rfl rfl rfl rfl rfl ⟨rfl, rfl, rfl, rfl, rfl⟩ rfl rfl rfl rfl rfl (by kernel_rfl) Try.func3 (by kernel_rfl)
    (of_decide_eq_true (by kernel_rfl)) (by unfold Func.isWrapper; first | (rw [if_pos (by decide +kernel)]; kernel_rfl) | (rw [if_neg (by decide +kernel)]; exact ⟨rfl, rfl⟩))
    (fun os started H enc _ => lifted os started H enc)

/-- The statement. -/
theorem proved : Rows.FnDistanceSaid :=
  over
#print axioms proved
end Go.Proofs.Ytldpcocnhpeadaa.fnDistance
