/- FnResolve: for every input the law returns true and its arguments read as before; no further condition. -/
import Derived.Test.YtjkgndedffildaaRows
import Derived.WalkKit
import Derived.ProofKit
import Derived.OpenShut
import Derived.Carry
import Derived.StillTailTactics
import Derived.Test.YtjkgndedffildaaDrawV
import Derived.Test.YtjkgndedffildaaHasL
namespace Go.Proofs.Ytjkgndedffildaa.fnResolve
open Go.ChangeShapes Go.WideShapes Go.ChangeAt Go.RowKit
open Go.Shelf
set_option linter.unusedVariables false
set_option maxRecDepth 100000

theorem own : ownKnob Try.prog.godebug = none := by kernel_rfl
theorem laid : laidOutB Try.prog = true := by kernel_rfl

theorem hasLiteral_b (A : Option Addr) (n c : Nat) (xs : List Ltl) (l : Ltl) (b : Bool) (w : World) (h : LitR w w.heap.size A n xs) (hb : decide (l ∈ xs) = b) :
    Calls Try.prog 15 #[.slice A n c, .agg #[.int .i64 l.var, .int .i64 l.val, .bool l.neg]] w fun e w' => e = .returned (.bool b) ∧ Below w.heap.size w w' := by
  subst hb; exact hasLiteral A n c xs l w h
set_option maxHeartbeats 8000000 in
theorem walk {W : World} (A0 : Option Addr) (n0 c0 : Nat) (xs0 : List Int) (g0 : CodeA W W.heap.size A0 n0 c0 xs0) (A1 : Option Addr) (n1 c1 : Nat) (xs1 : List Int) (g1 : CodeA W W.heap.size A1 n1 c1 xs1) :
    Calls Try.prog 4 #[.slice A0 n0 c0, .slice A1 n1 c1] W fun e w' => e = .returned (.bool true) ∧ Below W.heap.size W w' := by
  obtain ⟨i0, hi0, hz0, hz1, hz2⟩ := info_parts info_int
  have hn1 := g1.1.le
  by_cases hlen : (1048576 : Int) < (n0 : Int)
  · have hd : decide ((1048576 : Int) < (n0 : Int)) = true := decide_eq_true hlen
    clear hlen
    go_enter Try.func4, Try.ntmps4
    go_wp2_with fail
    go_ret
    exact ⟨rfl, Below.refl _ _⟩
  have hd : decide ((1048576 : Int) < (n0 : Int)) = false := decide_eq_false hlen
  by_cases hlen1 : (1048576 : Int) < (n1 : Int)
  · have hd1 : decide ((1048576 : Int) < (n1 : Int)) = true := decide_eq_true hlen1
    clear hlen1
    go_enter Try.func4, Try.ntmps4
    go_wp2_with fail
    go_ret
    exact ⟨rfl, Below.refl _ _⟩
  have hd1 : decide ((1048576 : Int) < (n1 : Int)) = false := decide_eq_false hlen1
  go_enter Try.func4, Try.ntmps4
  go_wp2_with fail
  refine (drawResolve _ _ _ _ _ g0).mono ?_
  rintro e W1 ⟨m, v1, v2, xs, ys, l, rfl, ⟨hm1, hm4, hx4, hy7⟩, o1, o2, c0⟩
  have q1 := o1
  have q2 := o2
  obtain ⟨Ba, da, rfl, ra⟩ := LitR.of_own rfl q1 (by omega)
  obtain ⟨Bb, db, rfl, rb⟩ := LitR.of_own rfl q2 (by omega)
  clear q1 q2
  obtain ⟨nx, hnx⟩ : ∃ nx, xs.length = nx := ⟨_, rfl⟩
  obtain ⟨ny, hny⟩ : ∃ ny, ys.length = ny := ⟨_, rfl⟩
  rw [hnx] at ra hx4 o1 ⊢
  rw [hny] at rb hy7 o2 ⊢
  have HNX := Lib.hid hnx
  have HNY := Lib.hid hny
  have OX := Lib.hid (HoldR.of_own o1)
  have OY := Lib.hid (HoldR.of_own o2)
  clear hnx hny o1 o2
  go_wp2_with fail
  obtain ⟨W2, hW2⟩ : ∃ W2, W1.alloc (.cells #[.int .i64 l.var, .int .i64 l.val, .bool l.neg] 30) = W2 := ⟨_, rfl⟩
  have hb2 : Below W1.heap.size W1 W2 := by rw [← hW2]; exact b_alloc _ _
  have hT2 : TBlk 30 W2 W1.heap.size #[.int .i64 l.var, .int .i64 l.val, .bool l.neg] := by rw [← hW2]; exact TBlk.new _ _ _
  rw [hW2]
  clear hW2
  have HT2 := Lib.hid hT2
  have ra2 := Lib.hid (ra.on hb2)
  have rb2 := Lib.hid (rb.on hb2)
  replace c0 := bgo c0 hb2
  refine (iResolve _ _ _ _ _ _ _ xs ys l _ (HoldR.below OX.out hb2) HNX.out (HoldR.below OY.out hb2) HNY.out (by omega) (by omega)).mono ?_
  rintro e W3 ⟨vc, rfl, hc3, hb3⟩
  have hlc := rsF_len m xs ys l
  obtain ⟨Bc, dc, rfl, rc⟩ := LitR.of_hold rfl hc3 (by omega)
  have hT3 := hT2.below_ hb3 hT2.lt
  have t0 := hT3.at_ 0 rfl
  have t1 := hT3.at_ 1 rfl
  have t2 := hT3.at_ 2 rfl
  simp only [List.getElem_toArray, List.getElem_cons_zero, List.getElem_cons_succ] at t0 t1 t2
  clear hT2 hT3 hc3 hb2 ra rb OX OY
  go_wp2_with fail
  clear t0 t1 t2
  refine (sResolve _ _ _ _ _ _ _ _ _ l _ (ra2.out.on hb3) (rb2.out.on hb3)).mono ?_
  rintro e W4 ⟨vd, rfl, od, hb4⟩
  obtain ⟨Bd, dd, rfl, rd⟩ := LitR.of_own rfl od (by omega)
  have rc4 := Lib.hid (rc.on hb4)
  have rd4 := Lib.hid rd
  have hb24 := Lib.hid (bgo hb3 hb4)
  replace c0 := bgo (bgo c0 hb3) hb4
  have hrb : (rsB m xs ys l != rsB m xs ys l) = false := by simp
  have hrb2 : (rsB m xs ys l == rsB m xs ys l) = true := by simp
  clear rc od rd hb3 hb4
  go_wp2_with fail
  refine (equalClauses _ _ _ _ _ _ _ _ _ rc4.out rd4.out rfl).mono ?_
  rintro e W5 ⟨rfl, hb5⟩
  have rc5 := Lib.hid (rc4.out.on hb5)
  have rd5 := Lib.hid (rd4.out.on hb5)
  have hb25 := Lib.hid (bgo hb24.out hb5)
  replace c0 := bgo c0 hb5
  clear hb5 rc4 rd4 hb24
  cases hr : rsB m xs ys l
  · rw [hr] at hrb2
    go_wp2_with fail
    refine (equalClauses _ _ _ _ _ _ _ _ _ rc5.out rd5.out rfl).mono ?_
    rintro e W6 ⟨rfl, hb6⟩
    go_wp2_with fail
    go_ret
    exact ⟨rfl, bgo c0 hb6⟩
  obtain ⟨p1, p2, p3, p4, p5, p6⟩ := rs_parts hr
  rw [p6] at rc5 hlc ⊢
  have HR := Lib.hid hr
  have hT5 := HT2.out.below_ hb25.out HT2.out.lt
  have t0 := hT5.at_ 0 rfl
  have t1 := hT5.at_ 1 rfl
  have t2 := hT5.at_ 2 rfl
  simp only [List.getElem_toArray, List.getElem_cons_zero, List.getElem_cons_succ] at t0 t1 t2
  clear hr p1 p2 p3 p4 p5 p6 hrb hrb2 hT5 rd5
  obtain ⟨nc, hnc⟩ : ∃ nc, (rsM xs ys l).length = nc := ⟨_, rfl⟩
  rw [hnc] at rc5 hlc ⊢
  have HNC := Lib.hid hnc
  clear hnc
  go_wp2_with fail
  clear t0 t1 t2
  obtain ⟨W6, hW6⟩ : ∃ W6, W5.alloc (.cells #[.int .i64 l.var, .int .i64 l.val, .bool !l.neg] 30) = W6 := ⟨_, rfl⟩
  have hb6 : Below W5.heap.size W5 W6 := by rw [← hW6]; exact b_alloc _ _
  have hU6 : TBlk 30 W6 W5.heap.size #[.int .i64 l.var, .int .i64 l.val, .bool !l.neg] := by rw [← hW6]; exact TBlk.new _ _ _
  try rw [hW6]
  clear hW6
  have HU6 := Lib.hid hU6
  have HT6 := Lib.hid (HT2.out.below_ (bgo hb25.out hb6) HT2.out.lt)
  have ra6 := Lib.hid (ra2.out.on (bgo hb25.out hb6))
  have rb6 := Lib.hid (rb2.out.on (bgo hb25.out hb6))
  have rc6 := Lib.hid (rc5.out.on hb6)
  replace c0 := bgo c0 hb6
  clear hU6 hb25 hb6 HT2 ra2 rb2 rc5
  have HCE : Hid (∀ w', Below W6.heap.size W6 w' → w'.cell? ⟨W1.heap.size, 0, none⟩ = some (.int .i64 l.var) ∧ w'.cell? ⟨W1.heap.size, 1, none⟩ = some (.int .i64 l.val) ∧ w'.cell? ⟨W1.heap.size, 2, none⟩ = some (.bool l.neg) ∧ w'.cell? ⟨W5.heap.size, 0, none⟩ = some (.int .i64 l.var) ∧ w'.cell? ⟨W5.heap.size, 1, none⟩ = some (.int .i64 l.val) ∧ w'.cell? ⟨W5.heap.size, 2, none⟩ = some (.bool !l.neg)) := Lib.hid fun w' hb => by
    have k1 := HT6.out.below_ hb HT6.out.lt
    have k2 := HU6.out.below_ hb HU6.out.lt
    exact ⟨k1.at_ 0 rfl, k1.at_ 1 rfl, k1.at_ 2 rfl, k2.at_ 0 rfl, k2.at_ 1 rfl, k2.at_ 2 rfl⟩
  go_loopw [14] (fun t14 wr => ∃ k : Nat, k ≤ nc ∧ t14 = .int .i64 k ∧ Hid (Below W6.heap.size W6 wr)) (fun t14 _ => nc - (intOf t14).toNat)
  case atStart => exact ⟨0, by omega, rfl, Below.refl _ _⟩
  case round =>
    obtain ⟨k, hk, rfl, hb⟩ := hrel
    by_cases hlt : k < nc
    · obtain ⟨cb, co, x, rfl, hcb, hxk, x0, x1, x2⟩ := LitR.at_ (rc6.out.on hb.out) hlt
      obtain ⟨q0, q1, q2, u0, u1, u2⟩ := HCE.out wr hb.out
      have r0 : ∀ p : Later wr, p.val.cell? ⟨cb, co + k * 3, none⟩ = some (.int .i64 x.var) := fun p => p.cell hcb x0
      have r1 : ∀ p : Later wr, p.val.cell? ⟨cb, co + k * 3 + 1, none⟩ = some (.int .i64 x.val) := fun p => p.cell hcb x1
      have r2 : ∀ p : Later wr, p.val.cell? ⟨cb, co + k * 3 + 2, none⟩ = some (.bool x.neg) := fun p => p.cell hcb x2
      have z1 : W1.heap.size < wr.heap.size := by have := hb.out.size; have := HT6.out.lt; omega
      have z5 : W5.heap.size < wr.heap.size := by have := hb.out.size; have := HU6.out.lt; omega
      have s0 : ∀ p : Later wr, p.val.cell? ⟨W1.heap.size, 0, none⟩ = some (.int .i64 l.var) := fun p => p.cell z1 q0
      have s1 : ∀ p : Later wr, p.val.cell? ⟨W1.heap.size, 1, none⟩ = some (.int .i64 l.val) := fun p => p.cell z1 q1
      have s2 : ∀ p : Later wr, p.val.cell? ⟨W1.heap.size, 2, none⟩ = some (.bool l.neg) := fun p => p.cell z1 q2
      have v0 : ∀ p : Later wr, p.val.cell? ⟨W5.heap.size, 0, none⟩ = some (.int .i64 l.var) := fun p => p.cell z5 u0
      have v1 : ∀ p : Later wr, p.val.cell? ⟨W5.heap.size, 1, none⟩ = some (.int .i64 l.val) := fun p => p.cell z5 u1
      have v2 : ∀ p : Later wr, p.val.cell? ⟨W5.heap.size, 2, none⟩ = some (.bool !l.neg) := fun p => p.cell z5 u2
      have hgu := lit_guard
      have hmem := rsM_mem.1 (List.mem_of_getElem? hxk)
      clear hxk
      have hneq : ∀ (b : Bool) w, decide (x = negL l) = b → (binOp .neq 30 (.agg #[.int .i64 x.var, .int .i64 x.val, .bool x.neg]) (.agg #[.int .i64 l.var, .int .i64 l.val, .bool !l.neg])).run Try.prog w = .ok (.bool (!b)) w := fun b w h => lit_neq x (negL l) w b h
      have HNEQ := Lib.hid hneq
      clear hneq
      by_cases h1 : x ∈ xs ∧ x ≠ l
      · have HA := Lib.hid (decide_eq_true h1.1)
        have heq := fun w => lit_neq x l w false (decide_eq_false h1.2)
        clear hmem h1
        go_wp2_with fail
        refine wp_region_later (by kernel_rfl) (by kernel_rfl) ?_
        repeat (go_big_quiet_step (first | (go_at_call 15; exact calls_later (hasLiteral_b _ _ _ _ _ _ _ ((ra6.out.on hb.out).on (Later.below _)) HA.out))))
        refine wpQuiet_nil ?_
        intro w5 hw5
        obtain ⟨⟨w6, hb5⟩, hw6⟩ := hw5
        subst hw6
        have hbN := Lib.hid (hb.out.trans (hb5.mono hb.out.size))
        clear r0 r1 r2 s0 s1 s2 v0 v1 v2 q0 q1 q2 u0 u1 u2 x0 x1 x2
        go_wp2_with fail
        go_roundw
        case rel => exact ⟨k + 1, by omega, by go_num, hbN.out⟩
        case measure => simp [intOf]; omega
      · have h2 := hmem.resolve_left h1
        have HB := Lib.hid (decide_eq_true h2.1)
        have heq2 := fun w => HNEQ.out false w (decide_eq_false h2.2)
        by_cases h3 : x ∈ xs
        · have hxl : x = l := Classical.byContradiction fun hne => h1 ⟨h3, hne⟩
          have HA := Lib.hid (decide_eq_true h3)
          have heq := fun w => lit_neq x l w true (decide_eq_true hxl)
          clear hmem h1 h2 h3 hxl
          go_wp2_with fail
          refine wp_region_later (by kernel_rfl) (by kernel_rfl) ?_
          repeat (go_big_quiet_step (first | (go_at_call 15; exact calls_later (hasLiteral_b _ _ _ _ _ _ _ ((ra6.out.on hb.out).on (Later.below _)) HA.out)) | (go_at_call 15; exact calls_later (hasLiteral_b _ _ _ _ _ _ _ ((rb6.out.on hb.out).on (Later.below _)) HB.out))))
          refine wpQuiet_nil ?_
          intro w5 hw5
          obtain ⟨⟨w6, hb5⟩, hw6⟩ := hw5
          subst hw6
          have hbN := Lib.hid (hb.out.trans (hb5.mono hb.out.size))
          clear r0 r1 r2 s0 s1 s2 v0 v1 v2 q0 q1 q2 u0 u1 u2 x0 x1 x2
          go_wp2_with fail
          go_roundw
          case rel => exact ⟨k + 1, by omega, by go_num, hbN.out⟩
          case measure => simp [intOf]; omega
        · have HA := Lib.hid (decide_eq_false h3)
          clear hmem h1 h2 h3
          go_wp2_with fail
          refine wp_region_later (by kernel_rfl) (by kernel_rfl) ?_
          repeat (go_big_quiet_step (first | (go_at_call 15; exact calls_later (hasLiteral_b _ _ _ _ _ _ _ ((ra6.out.on hb.out).on (Later.below _)) HA.out)) | (go_at_call 15; exact calls_later (hasLiteral_b _ _ _ _ _ _ _ ((rb6.out.on hb.out).on (Later.below _)) HB.out))))
          refine wpQuiet_nil ?_
          intro w5 hw5
          obtain ⟨⟨w6, hb5⟩, hw6⟩ := hw5
          subst hw6
          have hbN := Lib.hid (hb.out.trans (hb5.mono hb.out.size))
          clear r0 r1 r2 s0 s1 s2 v0 v1 v2 q0 q1 q2 u0 u1 u2 x0 x1 x2
          go_wp2_with fail
          go_roundw
          case rel => exact ⟨k + 1, by omega, by go_num, hbN.out⟩
          case measure => simp [intOf]; omega
    · obtain rfl : k = nc := by omega
      rename World => Wy
      go_wp2_with fail
      go_loopw [15] (fun t15 wr => ∃ k : Nat, k ≤ nx ∧ t15 = .int .i64 k ∧ Hid (Below W6.heap.size W6 wr)) (fun t15 _ => nx - (intOf t15).toNat)
      case atStart => exact ⟨0, by omega, rfl, hb⟩
      case round =>
        obtain ⟨k, hk, rfl, hb⟩ := hrel
        by_cases hlt : k < nx
        · obtain ⟨cb, co, x, rfl, hcb, hxk, x0, x1, x2⟩ := LitR.at_ (ra6.out.on hb.out) hlt
          obtain ⟨q0, q1, q2, -, -, -⟩ := HCE.out wr hb.out
          have r0 : ∀ p : Later wr, p.val.cell? ⟨cb, co + k * 3, none⟩ = some (.int .i64 x.var) := fun p => p.cell hcb x0
          have r1 : ∀ p : Later wr, p.val.cell? ⟨cb, co + k * 3 + 1, none⟩ = some (.int .i64 x.val) := fun p => p.cell hcb x1
          have r2 : ∀ p : Later wr, p.val.cell? ⟨cb, co + k * 3 + 2, none⟩ = some (.bool x.neg) := fun p => p.cell hcb x2
          have z1 : W1.heap.size < wr.heap.size := by have := hb.out.size; have := HT6.out.lt; have := HU6.out.lt; omega
          have s0 : ∀ p : Later wr, p.val.cell? ⟨W1.heap.size, 0, none⟩ = some (.int .i64 l.var) := fun p => p.cell z1 q0
          have s1 : ∀ p : Later wr, p.val.cell? ⟨W1.heap.size, 1, none⟩ = some (.int .i64 l.val) := fun p => p.cell z1 q1
          have s2 : ∀ p : Later wr, p.val.cell? ⟨W1.heap.size, 2, none⟩ = some (.bool l.neg) := fun p => p.cell z1 q2
          have hgu := lit_guard
          have hneq : ∀ (b : Bool) w, decide (x = l) = b → (binOp .neq 30 (.agg #[.int .i64 x.var, .int .i64 x.val, .bool x.neg]) (.agg #[.int .i64 l.var, .int .i64 l.val, .bool l.neg])).run Try.prog w = .ok (.bool (!b)) w := fun b w h => lit_neq x (l) w b h
          have HNEQ := Lib.hid hneq
          clear hneq
          by_cases hxl : x = l
          · have heq := fun w => HNEQ.out true w (decide_eq_true hxl)
            clear hxl hxk
            go_wp2_with fail
            refine wp_region_later (by kernel_rfl) (by kernel_rfl) ?_
            repeat (go_big_quiet_step (fail))
            refine wpQuiet_nil ?_
            intro w5 hw5
            obtain ⟨⟨w6, hb5⟩, hw6⟩ := hw5
            subst hw6
            have hbN := Lib.hid (hb.out.trans (hb5.mono hb.out.size))
            clear r0 r1 r2 s0 s1 s2 q0 q1 q2 x0 x1 x2
            go_wp2_with fail
            go_roundw
            case rel => exact ⟨k + 1, by omega, by go_num, hbN.out⟩
            case measure => simp [intOf]; omega
          · have HA := Lib.hid (decide_eq_true (rsM_mem.2 (.inl ⟨List.mem_of_getElem? hxk, hxl⟩) : x ∈ rsM xs ys l))
            have heq := fun w => HNEQ.out false w (decide_eq_false hxl)
            clear hxl hxk
            go_wp2_with fail
            refine wp_region_later (by kernel_rfl) (by kernel_rfl) ?_
            repeat (go_big_quiet_step (first | (go_at_call 15; exact calls_later (hasLiteral_b _ _ _ _ _ _ _ ((rc6.out.on hb.out).on (Later.below _)) HA.out))))
            refine wpQuiet_nil ?_
            intro w5 hw5
            obtain ⟨⟨w6, hb5⟩, hw6⟩ := hw5
            subst hw6
            have hbN := Lib.hid (hb.out.trans (hb5.mono hb.out.size))
            clear r0 r1 r2 s0 s1 s2 q0 q1 q2 x0 x1 x2
            go_wp2_with fail
            go_roundw
            case rel => exact ⟨k + 1, by omega, by go_num, hbN.out⟩
            case measure => simp [intOf]; omega
        · obtain rfl : k = nx := by omega
          go_wp2_with fail
          go_loopw [16] (fun t16 wr => ∃ k : Nat, k ≤ ny ∧ t16 = .int .i64 k ∧ Hid (Below W6.heap.size W6 wr)) (fun t16 _ => ny - (intOf t16).toNat)
          case atStart => exact ⟨0, by omega, rfl, hb⟩
          case round =>
            obtain ⟨k, hk, rfl, hb⟩ := hrel
            by_cases hlt : k < ny
            · obtain ⟨cb, co, x, rfl, hcb, hxk, x0, x1, x2⟩ := LitR.at_ (rb6.out.on hb.out) hlt
              obtain ⟨-, -, -, q0, q1, q2⟩ := HCE.out wr hb.out
              have r0 : ∀ p : Later wr, p.val.cell? ⟨cb, co + k * 3, none⟩ = some (.int .i64 x.var) := fun p => p.cell hcb x0
              have r1 : ∀ p : Later wr, p.val.cell? ⟨cb, co + k * 3 + 1, none⟩ = some (.int .i64 x.val) := fun p => p.cell hcb x1
              have r2 : ∀ p : Later wr, p.val.cell? ⟨cb, co + k * 3 + 2, none⟩ = some (.bool x.neg) := fun p => p.cell hcb x2
              have z1 : W5.heap.size < wr.heap.size := by have := hb.out.size; have := HT6.out.lt; have := HU6.out.lt; omega
              have s0 : ∀ p : Later wr, p.val.cell? ⟨W5.heap.size, 0, none⟩ = some (.int .i64 l.var) := fun p => p.cell z1 q0
              have s1 : ∀ p : Later wr, p.val.cell? ⟨W5.heap.size, 1, none⟩ = some (.int .i64 l.val) := fun p => p.cell z1 q1
              have s2 : ∀ p : Later wr, p.val.cell? ⟨W5.heap.size, 2, none⟩ = some (.bool !l.neg) := fun p => p.cell z1 q2
              have hgu := lit_guard
              have hneq : ∀ (b : Bool) w, decide (x = negL l) = b → (binOp .neq 30 (.agg #[.int .i64 x.var, .int .i64 x.val, .bool x.neg]) (.agg #[.int .i64 l.var, .int .i64 l.val, .bool !l.neg])).run Try.prog w = .ok (.bool (!b)) w := fun b w h => lit_neq x (negL l) w b h
              have HNEQ := Lib.hid hneq
              clear hneq
              by_cases hxl : x = negL l
              · have heq := fun w => HNEQ.out true w (decide_eq_true hxl)
                clear hxl hxk
                go_wp2_with fail
                refine wp_region_later (by kernel_rfl) (by kernel_rfl) ?_
                repeat (go_big_quiet_step (fail))
                refine wpQuiet_nil ?_
                intro w5 hw5
                obtain ⟨⟨w6, hb5⟩, hw6⟩ := hw5
                subst hw6
                have hbN := Lib.hid (hb.out.trans (hb5.mono hb.out.size))
                clear r0 r1 r2 s0 s1 s2 q0 q1 q2 x0 x1 x2
                go_wp2_with fail
                go_roundw
                case rel => exact ⟨k + 1, by omega, by go_num, hbN.out⟩
                case measure => simp [intOf]; omega
              · have HA := Lib.hid (decide_eq_true (rsM_mem.2 (.inr ⟨List.mem_of_getElem? hxk, hxl⟩) : x ∈ rsM xs ys l))
                have heq := fun w => HNEQ.out false w (decide_eq_false hxl)
                clear hxl hxk
                go_wp2_with fail
                refine wp_region_later (by kernel_rfl) (by kernel_rfl) ?_
                repeat (go_big_quiet_step (first | (go_at_call 15; exact calls_later (hasLiteral_b _ _ _ _ _ _ _ ((rc6.out.on hb.out).on (Later.below _)) HA.out))))
                refine wpQuiet_nil ?_
                intro w5 hw5
                obtain ⟨⟨w6, hb5⟩, hw6⟩ := hw5
                subst hw6
                have hbN := Lib.hid (hb.out.trans (hb5.mono hb.out.size))
                clear r0 r1 r2 s0 s1 s2 q0 q1 q2 x0 x1 x2
                go_wp2_with fail
                go_roundw
                case rel => exact ⟨k + 1, by omega, by go_num, hbN.out⟩
                case measure => simp [intOf]; omega
            · obtain rfl : k = ny := by omega
              rename World => Wx
              have cx := bgo c0 hb.out
              have rax := Lib.hid (ra6.out.on hb.out)
              have rbx := Lib.hid (rb6.out.on hb.out)
              have rcx := Lib.hid (rc6.out.on hb.out)
              have ol : (Wx.alloc (.cells #[] 3)).ownsRow Wx.heap.size 3 1 (.slice (some ⟨Wx.heap.size, 0, none⟩) 0 0) 0 (([] : List Int).map (.int .i64)) := World.ownsRow_lit Wx #[] 0 (Nat.le_refl _) (by decide) rfl
              clear hb ra6 rb6 rc6 HT6 HU6 HCE c0
              go_wp2_with fail
              go_loopw [17, 18] (fun v i wr => ∃ (j : Nat) (v' : Value) (zs : List Int), j ≤ m ∧ i = .int .i64 j ∧ v' = v ∧ Hid (zs.length = j) ∧ Hid (wr.ownsRow Wx.heap.size 3 1 v' j (zs.map (.int .i64))) ∧ Below Wx.heap.size Wx wr) (fun _ i _ => m - (intOf i).toNat)
              case atStart => exact ⟨0, _, [], by omega, rfl, rfl, Lib.hid rfl, ol, b_alloc _ _⟩
              case round =>
                obtain ⟨j, v, zs, hj, rfl, rfl, hl, hq, hb⟩ := hrel
                clear ol
                have hsz := hb.size
                by_cases hlt2 : j < m
                · have d0 : (0 : Int) ≤ (n1 : Int) / 2 ^ j := Int.ediv_nonneg (by omega) (Int.le_of_lt (Int.pow_pos (by omega)))
                  have d1 : (n1 : Int) / 2 ^ j ≤ (n1 : Int) := Int.ediv_le_self _ (by omega)
                  go_wp2_with (at_builtin; go_loud (refine wpList_append_any rfl _ _ 39 rfl Wx.heap.size 3 i0 _ 1 8 Try.underlying39 hi0 hz0 hz1 hz2 rfl (by decide) v _ _ rfl (own_below hq.out (b_alloc _ _)) (some ⟨wr.heap.size, 0, none⟩) 1 1 [.int .i64 ((n1 : Int) / 2 ^ j % 6)] rfl (.inr ⟨_, rfl, rfl, cell_one_new _ _ _⟩) (by simp [Value.oneCell']) (by unfold maxLen; omega) (by omega) (by rw [size_alloc_]; omega) ?_; intro v7 w7 ho7 hb7 _ _))
                  have hb8 : Below Wx.heap.size Wx w7 := (hb.alloc (by omega) _).trans hb7
                  have ho8 : w7.ownsRow Wx.heap.size 3 1 v7 (j + 1) ((zs ++ [(n1 : Int) / 2 ^ j % 6]).map (.int .i64)) := by simpa using ho7
                  have hl8 : (zs ++ [(n1 : Int) / 2 ^ j % 6]).length = j + 1 := by rw [List.length_append, hl.out]; rfl
                  clear ho7 hb7
                  go_roundw
                  case rel => exact ⟨j + 1, v7, _, by omega, by go_num, rfl, hl8, ho8, hb8⟩
                  case measure => simp [intOf]; omega
                · obtain rfl : j = m := by omega
                  obtain ⟨C, dz, rfl, rz, -⟩ := IntR.of_own hq.out (by omega)
                  have c4 := bgo cx hb
                  have hvc := rs_vc HR.out
                  have HVC := Lib.hid hvc
                  have RZ := Lib.hid rz
                  clear hq hsz hvc rz
                  go_wp2_with fail
                  refine (iValidClause _ _ _ _ _ _ (rcx.out.on hb)).mono ?_
                  rw [HVC.out]
                  rintro e W7 ⟨rfl, hB⟩
                  replace c4 := bgo c4 hB
                  have c5 := bgo hb hB
                  have c6 := hB
                  clear hB
                  go_wp2_with fail
                  refine (iClauseHolds _ _ _ _ _ _ _ _ _ (rax.out.on c5) (RZ.out.on c6)).mono ?_
                  rintro e W8 ⟨rfl, hB⟩
                  replace c4 := bgo c4 hB
                  replace c5 := bgo c5 hB
                  replace c6 := bgo c6 hB
                  clear hB
                  cases hca : chF xs zs j
                  · have HC := Lib.hid hca
                    clear hca
                    go_wp2_with fail
                    go_ret
                    exact ⟨rfl, c4⟩
                  have HCA := Lib.hid hca
                  clear hca
                  go_wp2_with fail
                  refine (iClauseHolds _ _ _ _ _ _ _ _ _ (rbx.out.on c5) (RZ.out.on c6)).mono ?_
                  rintro e W9 ⟨rfl, hB⟩
                  replace c4 := bgo c4 hB
                  replace c5 := bgo c5 hB
                  replace c6 := bgo c6 hB
                  clear hB
                  cases hcb : chF ys zs j
                  · have HC := Lib.hid hcb
                    clear hcb
                    go_wp2_with fail
                    go_ret
                    exact ⟨rfl, c4⟩
                  have HCC := Lib.hid (rs_ch HR.out HCA.out hcb)
                  clear hcb
                  go_wp2_with fail
                  refine (iClauseHolds _ _ _ _ _ _ _ _ _ (rcx.out.on c5) (RZ.out.on c6)).mono ?_
                  rw [HCC.out]
                  rintro e W10 ⟨rfl, hB⟩
                  replace c4 := bgo c4 hB
                  clear hB
                  go_wp2_with fail
                  go_ret
                  exact ⟨rfl, c4⟩

set_option maxRecDepth 100000 in
theorem lifted (os : Os) (started : os.Started) (H : Type) (enc : TypeId × Value → H) :
    ReturnsInHanded {} Try.checked os 4 .any (Rows.fnResolveSpec.pre6 enc Try.prog Try.f4 Rows.fnResolveRow.domain false) (Rows.fnResolveSpec.post enc Try.prog Try.f4 false true false false) := by
  refine returnsInHanded_of_change (C := Try.checked) own started (by kernel_rfl) Try.func4
    (ChangeSpec.witness6 (enc := enc) (C := Try.checked) false ⟨#[], #[.slice none 0 0, .slice none 0 0], []⟩ 8 (by kernel_rfl) (by kernel_rfl) (by kernel_rfl) (by kernel_rfl)) ?_
  intro W base args ds gs before hval0 hW hcnd _
  have hval : ∀ (j : Nat) t v, Try.f4.params[j]? = some t → args[j]? = some v → Value.okWide Try.prog W .any base t v := hval0
  have hW' := hW
  obtain ⟨p, q, hA0, hV, rfl, hfz, hnd⟩ := hW
  have hA : DataW.TrodAll enc Try.prog W 0 (fun _ => true) true Try.f4.params.toList args.toList ds p := hA0
  rw [Try.params4] at hA hval
  obtain ⟨v0, vs0, d0, ds0, p0, q0, hargs, rfl, rfl, h0, r0⟩ := trodAll_cons hA
  obtain ⟨v1, vs1, d1, ds1, p1, q1, rfl, rfl, rfl, h1, r1⟩ := trodAll_cons r0
  obtain ⟨rfl, rfl, rfl⟩ := trodAll_nil r1
  obtain rfl : args = #[v0, v1] := by cases args; simp_all
  obtain ⟨rfl, rfl⟩ := trodVars_none hV
  have k0 := h0
  have l0 : ∀ x ∈ p0, x.block < W.heap.size := fun x hx => hW'.lt x (by simp [hx])
  have k1 := h1
  have l1 : ∀ x ∈ p1, x.block < W.heap.size := fun x hx => hW'.lt x (by simp [hx])
  obtain ⟨A0, n0, c0, xs0, rfl, g0⟩ := open_byteS Try.underlying35 Try.underlying5 (by kernel_rfl) (hval 0 35 v0 rfl rfl) k0
  obtain ⟨A1, n1, c1, xs1, rfl, g1⟩ := open_byteS Try.underlying35 Try.underlying5 (by kernel_rfl) (hval 1 35 v1 rfl rfl) k1
  clear hA0 hval0
  refine (walk A0 n0 c0 xs0 g0 A1 n1 c1 xs1 g1).mono fun e W' ⟨he, hb⟩ => ?_
  subst he
  exact ⟨_, rfl, _, _, _, [], _, [], hW', trodAll_cons_mk (p := []) (shut_bool Try.underlying4 _) trodAll_mk0, (trodAll_cons_mk (Below.trod laid (by kernel_rfl) (of_decide_eq_true (by kernel_rfl)) h0 hb l0) (trodAll_cons_mk (Below.trod laid (by kernel_rfl) (of_decide_eq_true (by kernel_rfl)) h1 hb l1) trodAll_mk0)), rfl, hb.frame _, fun h => by cases h⟩

theorem over : Rows.fnResolveRow.holds Try.pinned (OpenSpec.ofChange Rows.fnResolveSpec) :=
  OpenClaim.holds_of_wide 4 Try.f4 rfl rfl rfl rfl rfl rfl rfl ⟨rfl, rfl, rfl, rfl, rfl⟩ rfl rfl rfl rfl rfl (by kernel_rfl) Try.func4 (by kernel_rfl)
    (of_decide_eq_true (by kernel_rfl)) (by unfold Func.isWrapper; first | (rw [if_pos (by decide +kernel)]; kernel_rfl) | (rw [if_neg (by decide +kernel)]; exact ⟨rfl, rfl⟩))
    (fun os started H enc _ => lifted os started H enc)

/-- The statement. -/
theorem proved : Rows.FnResolveSaid :=
  over
#print axioms proved
end Go.Proofs.Ytjkgndedffildaa.fnResolve
