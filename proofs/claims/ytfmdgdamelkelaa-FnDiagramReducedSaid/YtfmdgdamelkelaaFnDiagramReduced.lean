/- FnDiagramReduced: for every input the law returns true and its arguments read as before; no further condition. -/
import Derived.Test.YtfmdgdamelkelaaRows
import Derived.WalkKit
import Derived.ProofKit
import Derived.OpenShut
import Derived.Carry
import Derived.StillTailTactics
import Derived.Test.YtfmdgdamelkelaaHiFnDiagramReducedC
import Derived.Test.YtfmdgdamelkelaaSolI
import Derived.Test.YtfmdgdamelkelaaOpenC
namespace Go.Proofs.Ytfmdgdamelkelaa.fnDiagramReduced
open Go.ChangeShapes Go.WideShapes Go.ChangeAt Go.RowKit
open Go.Shelf
set_option linter.unusedVariables false
set_option maxRecDepth 100000

theorem own : ownKnob Try.prog.godebug = none := by kernel_rfl
theorem laid : laidOutB Try.prog = true := by kernel_rfl

theorem hT5 {w w' : World} {b : Nat} {x0 x1 x2 x3 x4 : Value} (h : TBlk 29 w b #[x0, x1, x2, x3, x4]) (hb : Below w.heap.size w w') :
    TBlk 29 w' b #[x0, x1, x2, x3, x4] ∧ w'.cell? ⟨b, 0, none⟩ = some x0 ∧ w'.cell? ⟨b, 1, none⟩ = some x1 ∧ w'.cell? ⟨b, 2, none⟩ = some x2 ∧ w'.cell? ⟨b, 3, none⟩ = some x3 ∧ w'.cell? ⟨b, 4, none⟩ = some x4 := by
  have t := h.below_ hb h.lt
  exact ⟨t, t.at_ 0 rfl, t.at_ 1 rfl, t.at_ 2 rfl, t.at_ 3 rfl, t.at_ 4 rfl⟩
theorem DgR.lays {W : World} {lo : Nat} {v : Value} {d : List (List (List Int))} (h : DgR W lo v d) : RowC (RowC (RowC IntC)) W W.heap.size v d := by
  obtain ⟨gss, hA, -⟩ := h
  exact OwnOf.read (fun w base v x hx => OwnOf.read (fun w base v x hx => hx.read) hx) hA.read
theorem anyTo_succ {rs : List (List Int)} {j : Nat} {r : List Int} {k : Int} (h : rs[j]? = some r) : (rs.take (j + 1)).any (fun r => decide (k ∈ r)) = ((rs.take j).any (fun r => decide (k ∈ r)) || decide (k ∈ r)) := by
  rw [List.take_add_one, h, List.any_append]; simp
set_option maxHeartbeats 16000000 in
theorem walk {W : World} (A0 : Option Addr) (n0 c0 : Nat) (xs0 : List Int) (g0 : CodeA W W.heap.size A0 n0 c0 xs0) :
    Calls Try.prog 4 #[.slice A0 n0 c0] W fun e w' => e = .returned (.bool true) ∧ Below W.heap.size W w' := by
  by_cases hlen : (1048576 : Int) < (n0 : Int)
  · have hd : decide ((1048576 : Int) < (n0 : Int)) = true := decide_eq_true hlen
    clear hlen
    go_enter Try.func4, Try.ntmps4
    go_wp2_with fail
    go_ret
    exact ⟨rfl, Below.refl _ _⟩
  have hd : decide ((1048576 : Int) < (n0 : Int)) = false := decide_eq_false hlen
  go_enter Try.func4, Try.ntmps4
  go_wp2_with fail
  refine (drawBuildDiagram _ _ _ _ _ g0).mono ?_
  rintro e W1 ⟨vk, vd, k, ds, rfl, hoc, hsm, hod, h1, h4, hdr, c0⟩
  obtain ⟨usk, rfl, hcr⟩ := OwnCon.read hoc
  obtain ⟨Ad, cd, rfl, rd⟩ := hod.read
  obtain ⟨A1, A2, A3, c1, c2, c3, rfl, -⟩ := id hcr
  obtain ⟨W2, hW2⟩ : ∃ W2, W1.alloc (.cells #[.int .i64 k.kind, .slice A1 k.vars.length c1, .slice A2 k.args.length c2, .int .i64 k.bound, .slice A3 k.rows.length c3] 29) = W2 := ⟨_, rfl⟩
  have hB2 : Below W1.heap.size W1 W2 := by rw [← hW2]; exact b_alloc _ _
  have HT2 : Hid (TBlk 29 W2 W1.heap.size #[.int .i64 k.kind, .slice A1 k.vars.length c1, .slice A2 k.args.length c2, .int .i64 k.bound, .slice A3 k.rows.length c3]) := by rw [← hW2]; exact TBlk.new _ _ _
  obtain ⟨-, x0, x1, x2, x3, x4⟩ := hT5 HT2.out (Below.refl _ _)
  have HC2 := Lib.hid (ConR.on hcr hB2)
  have HD2 := Lib.hid (IntR.on rd hB2)
  have HB2 := Lib.hid (bgo c0 hB2)
  have HSH := Lib.hid (bdg_sh k ds)
  have HRED := Lib.hid (fun i es => bdg_red k ds (i := i) (es := es))
  clear hoc hsm hod hcr rd hB2 c0 hdr
  go_wp2_with fail
  clear hW2
  refine (iBuildDiagram _ k _ _ _ ds _ HC2.out HD2.out).mono ?_
  rintro e W3 ⟨v', rfl, hh, hB⟩
  obtain ⟨D, hD⟩ : ∃ D, bdgF k ds = D := ⟨_, rfl⟩
  rw [hD] at hh HSH HRED
  have HDD := Lib.hid hD
  obtain ⟨Ag, cg, rfl, rg⟩ := hh.lays
  obtain ⟨nD, hnD⟩ : ∃ nD, D.length = nD := ⟨_, rfl⟩
  rw [hnD] at rg
  have HND := Lib.hid hnD
  have rg : LayersR W3 W3.heap.size Ag nD D := rg
  have hn4 : nD ≤ 4 := by have := HSH.out.1; omega
  rw [hnD]
  obtain ⟨t3, y0, y1, y2, y3, y4⟩ := hT5 HT2.out hB
  have HT3 := Lib.hid t3
  have HC3 := Lib.hid (ConR.on HC2.out hB)
  have HD3 := Lib.hid (IntR.on HD2.out hB)
  have HB3 := Lib.hid (bgo HB2.out hB)
  have HG3 := Lib.hid rg
  clear t3 hB hh x0 x1 x2 x3 x4 HT2 HC2 HD2 HB2 rg hD hnD
  go_wp2_with fail
  refine (sBuildDiagram _ k _ _ _ ds _ HC3.out HD3.out).mono ?_
  rintro e W4 ⟨v', rfl, hh, hB⟩
  rw [HDD.out] at hh
  obtain ⟨Aw, cw, rfl, rw4⟩ := DgR.lays hh
  rw [HND.out] at rw4
  rw [HND.out]
  have rw4 : LayersR W4 W4.heap.size Aw nD D := rw4
  obtain ⟨t4, z0, z1, z2, z3, z4⟩ := hT5 HT3.out hB
  have HT4 := Lib.hid t4
  have HC4 := Lib.hid (ConR.on HC3.out hB)
  have HD4 := Lib.hid (IntR.on HD3.out hB)
  have HB4 := Lib.hid (bgo HB3.out hB)
  have HG4 := Lib.hid (SlR.on (RowC.keeps (RowC.keeps IntC.keeps)) (RowC.widens (RowC.widens IntC.widens)) HG3.out hB)
  have HW4 := Lib.hid rw4
  clear t4 hB hh y0 y1 y2 y3 y4 HT3 HC3 HD3 HB3 HG3 rw4
  go_wp2_with fail
  refine (lequalDiagrams _ _ _ _ _ _ D D _ HG4.out HW4.out).mono ?_
  rintro e W5 ⟨rfl, hB⟩
  rw [show decide (D = D) = true from decide_eq_true rfl]
  obtain ⟨t5, u0, u1, u2, u3, u4⟩ := hT5 HT4.out hB
  have HC5 := Lib.hid (ConR.on HC4.out hB)
  have HD5 := Lib.hid (IntR.on HD4.out hB)
  have HB5 := Lib.hid (bgo HB4.out hB)
  have HG5 := Lib.hid (SlR.on (RowC.keeps (RowC.keeps IntC.keeps)) (RowC.widens (RowC.widens IntC.widens)) HG4.out hB)
  clear t5 hB z0 z1 z2 z3 z4 HT4 HC4 HD4 HB4 HG4 HW4
  by_cases hz : nD = 0
  · have hz2 : ((nD : Int) == 0) = true := by simp; omega
    clear hz
    go_wp2_with fail
    refine (sBuildDiagram _ k _ _ _ ds _ HC5.out HD5.out).mono ?_
    rintro e W6 ⟨v', rfl, hh, hB⟩
    rw [HDD.out] at hh
    obtain ⟨Aw2, cw2, rfl, rw6⟩ := DgR.lays hh
    rw [HND.out] at rw6
    rw [HND.out]
    have rw6 : LayersR W6 W6.heap.size Aw2 nD D := rw6
    have HG6 := Lib.hid (SlR.on (RowC.keeps (RowC.keeps IntC.keeps)) (RowC.widens (RowC.widens IntC.widens)) HG5.out hB)
    have HB6 := Lib.hid (bgo HB5.out hB)
    have HW6 := Lib.hid rw6
    clear hB hh u0 u1 u2 u3 u4 rw6
    go_wp2_with fail
    refine (lequalDiagrams _ _ _ _ _ _ D D _ HG6.out HW6.out).mono ?_
    rintro e W7 ⟨rfl, hB⟩
    rw [show decide (D = D) = true from decide_eq_true rfl]
    go_wp2_with fail
    go_ret
    exact ⟨rfl, bgo HB6.out hB⟩
  · have hz2 : ((nD : Int) == 0) = false := by simp; omega
    go_wp2_with fail
    clear u0 u1 u2 u3 u4
    go_loopw [6] (fun t wr => ∃ i : Nat, i ≤ nD ∧ t = .int .i64 i ∧ Hid (Below W5.heap.size W5 wr)) (fun t _ => nD - (intOf t).toNat)
    case atStart => exact ⟨0, by omega, rfl, Lib.hid (Below.refl _ _)⟩
    case round =>
      obtain ⟨i, hi, rfl, hb1⟩ := hrel
      rename World => w1
      by_cases hi2 : i < nD
      · have hL1 := SlR.on (RowC.keeps (RowC.keeps IntC.keeps)) (RowC.widens (RowC.widens IntC.widens)) HG5.out hb1.out
        obtain ⟨ab, ao, es, u, rfl, hab, hes, hce, A1', c1', rfl, hE⟩ := SlR.at_ hL1 hi2
        obtain ⟨hnd, hused⟩ := HRED.out i es hes
        have HND2 := Lib.hid hnd
        have HE := Lib.hid hE
        have hes5 := (HSH.out.2 es (List.mem_of_getElem? hes)).2.1
        have CE := Lib.hid (fun w' (h : Below w1.heap.size w1 w') => (show w'.cell? ⟨ab, ao + i, none⟩ = some (.slice A1' es.length c1') from (h.cell (p := ⟨ab, ao + i, none⟩) hab).trans hce))
        have hprev : i = 0 ∨ ∃ (i0 : Nat) (es0 : List (List Int)) (A0' : Option Addr) (c0' : Nat), i = i0 + 1 ∧ (∀ w', Below w1.heap.size w1 w' → w'.cell? ⟨ab, ao + i0, none⟩ = some (.slice A0' es0.length c0')) ∧ SlR (RowC IntC) w1 w1.heap.size A0' es0.length es0 ∧ es0.length ≤ 5000 ∧ ∀ q : Nat, q < es.length → ∃ r ∈ es0, (q : Int) ∈ r := by
          cases i with
          | zero => exact .inl rfl
          | succ i0 =>
            obtain ⟨es0, k1, k2⟩ := hused i0 rfl
            obtain ⟨ab2, ao2, es0', u, ea, hab2, hes2, hce2, A0', c0', rfl, hE0⟩ := SlR.at_ hL1 (show i0 < nD by omega)
            injection ea with ea
            injection ea with ea1 ea2
            subst ea1 ea2
            rw [k1] at hes2
            injection hes2 with hes2
            subst hes2
            exact .inr ⟨i0, es0, A0', c0', rfl, fun w' h => (h.cell (p := ⟨ab, ao + i0, none⟩) hab2).trans hce2, hE0, (HSH.out.2 es0 (List.mem_of_getElem? k1)).2.1, k2⟩
        have HPREV := Lib.hid hprev
        have hse1 := hce
        clear hprev hused hnd hE hL1 hes
        go_wp2_with fail
        go_loopw [7] (fun t w2 => ∃ q : Nat, q ≤ es.length ∧ t = .int .i64 q ∧ Hid (Below w1.heap.size w1 w2)) (fun t _ => es.length - (intOf t).toNat)
        case atStart => exact ⟨0, by omega, rfl, Lib.hid (Below.refl _ _)⟩
        case round =>
          obtain ⟨q, hq, rfl, hb2⟩ := hrel
          rename World => w2
          have hs2 := hb2.out.size
          have ce2 := CE.out w2 hb2.out
          clear hse1
          by_cases hq2 : q < es.length
          · go_wp2_with fail
            clear ce2
            go_loopw [8] (fun t w3 => ∃ j : Nat, j ≤ q ∧ t = .int .i64 j ∧ Hid (Below w1.heap.size w1 w3)) (fun t _ => q - (intOf t).toNat)
            case atStart => exact ⟨0, by omega, rfl, hb2⟩
            case round =>
              obtain ⟨j, hj, rfl, hb3⟩ := hrel
              clear hb2 hs2
              rename World => w3
              have hs3 := hb3.out.size
              by_cases hj2 : j < q
              · have hE3 := SlR.on (RowC.keeps IntC.keeps) (RowC.widens IntC.widens) HE.out hb3.out
                obtain ⟨eb, eo, x, u, rfl, heb, hxj, hcx, X1, d1, rfl, hX⟩ := SlR.at_ hE3 (show j < es.length by omega)
                obtain ⟨eb2, eo2, y, u, ea, heb2, hyq, hcy, Y1, d2, rfl, hY⟩ := SlR.at_ hE3 hq2
                injection ea with ea
                injection ea with ea1 ea2
                subst ea1 ea2
                have hne : x ≠ y := fun e => by
                  have := at_inj HND2.out hxj (by rw [e]; exact hyq)
                  omega
                have HNE := Lib.hid (decide_eq_false hne)
                have ce3 := CE.out w3 hb3.out
                have r0 : ∀ p : Later w3, p.val.cell? ⟨ab, ao + i, none⟩ = some (.slice (some ⟨eb, eo, none⟩) es.length c1') := fun p => p.cell (by omega) ce3
                have r1 : ∀ p : Later w3, p.val.cell? ⟨eb, eo + j, none⟩ = some (.slice X1 x.length d1) := fun p => p.cell heb hcx
                have r2 : ∀ p : Later w3, p.val.cell? ⟨eb, eo + q, none⟩ = some (.slice Y1 y.length d2) := fun p => p.cell heb2 hcy
                have HX1 := Lib.hid hX
                have HY1 := Lib.hid hY
                have hjq : (j : Int) < (q : Int) := by omega
                clear hE3 hX hY hne hxj hyq hcx hcy ce3
                go_wp2_with fail
                refine wp_region_later (by kernel_rfl) (by kernel_rfl) ?_
                repeat (go_big_quiet_step (first | (go_at_call 23; exact calls_later (lequalInts_b _ _ _ _ _ _ x y _ _ HNE.out (SlR.on IntC.keeps IntC.widens HX1.out (Later.below _)) (SlR.on IntC.keeps IntC.widens HY1.out (Later.below _))))))
                refine wpQuiet_nil ?_
                intro w5 hw'
                obtain ⟨⟨w6, hb5⟩, hw''⟩ := hw'
                subst hw''
                go_wp2_with fail
                go_roundw
                case rel => exact ⟨j + 1, by omega, by go_num, Lib.hid (bgo hb3.out hb5)⟩
                case measure => simp [intOf]; omega
              · obtain rfl : j = q := by omega
                rcases HPREV.out with h0 | ⟨i0, es0, A0', c0', h0, hc0, hE0, he05, hus⟩
                · have hi0 : ((i : Int) == 0) = true := by simp; omega
                  have hi1 : decide ((0 : Int) < (i : Int)) = false := decide_eq_false (by omega)
                  have hi1n : decide (0 < i) = false := decide_eq_false (by omega)
                  have H0 := Lib.hid h0
                  clear h0
                  go_wp2_with fail
                  go_loopw [9, 10] (fun us t w4 => us = .bool true ∧ ∃ a : Nat, a ≤ 0 ∧ t = .int .i64 a ∧ Hid (Below w1.heap.size w1 w4)) (fun _ t _ => 0 - (intOf t).toNat)
                  case atStart => exact ⟨rfl, 0, by omega, rfl, hb3⟩
                  case round =>
                    obtain ⟨rfl, a, ha, rfl, hb4⟩ := hrel
                    clear hb3 hs3
                    rename World => w4
                    go_wp2_with fail
                    go_roundw
                    case rel => exact ⟨j + 1, by omega, by go_num, hb4⟩
                    case measure => simp [intOf]; omega
                · have hi1 : decide ((0 : Int) < (i : Int)) = true := decide_eq_true (by omega)
                  have hi1n : decide (0 < i) = true := decide_eq_true (by omega)
                  have him : (i : Int) - 1 = (i0 : Int) := by omega
                  have hi4 : i0 ≤ 4 := by omega
                  have hi5 : i0 < nD := by omega
                  have hi0 : ((i : Int) == 0) = false := by simp; omega
                  clear h0
                  have HC0 := Lib.hid hc0
                  have HE0 := Lib.hid hE0
                  have HUS := Lib.hid (hus j hq2)
                  clear hc0 hE0 hus HPREV
                  go_wp2_with fail
                  go_loopw [9, 10] (fun us t w4 => ∃ a : Nat, a ≤ es0.length ∧ t = .int .i64 a ∧ us = .bool ((es0.take a).any fun r => decide ((j : Int) ∈ r)) ∧ Hid (Below w1.heap.size w1 w4)) (fun _ t _ => es0.length - (intOf t).toNat)
                  case atStart => exact ⟨0, by omega, rfl, by simp, hb3⟩
                  case round =>
                    obtain ⟨a, ha, rfl, rfl, hb4⟩ := hrel
                    clear hb3 hs3
                    rename World => w4
                    have hs4 := hb4.out.size
                    have cp := HC0.out w4 hb4.out
                    by_cases ha2 : a < es0.length
                    · have hE4 := SlR.on (RowC.keeps IntC.keeps) (RowC.widens IntC.widens) HE0.out hb4.out
                      obtain ⟨eb, eo, r, u, rfl, heb, hrj, hcr, R1, d1, rfl, hR⟩ := SlR.at_ hE4 ha2
                      have HNX := Lib.hid (anyTo_succ (k := (j : Int)) hrj)
                      have HR1 := Lib.hid hR
                      clear hE4 hR hrj
                      cases hal : (es0.take a).any fun r => decide ((j : Int) ∈ r)
                      · have HAL := Lib.hid hal
                        go_wp2_with fail
                        refine (lcontains _ _ _ r _ _ HR1.out).mono ?_
                        rintro e w5 ⟨rfl, rfl⟩
                        go_wp2_with fail
                        go_roundw
                        case rel => exact ⟨a + 1, by omega, by go_num, by rw [HNX.out, HAL.out]; simp, hb4⟩
                        case measure => simp [intOf]; omega
                      · have HAL := Lib.hid hal
                        go_wp2_with fail
                        go_roundw
                        case rel => exact ⟨a + 1, by omega, by go_num, by rw [HNX.out, HAL.out]; simp, hb4⟩
                        case measure => simp [intOf]; omega
                    · obtain rfl : a = es0.length := by omega
                      have hal : ((es0.take es0.length).any fun r => decide ((j : Int) ∈ r)) = true := by
                        rw [List.take_length]
                        obtain ⟨r, hr, hm⟩ := HUS.out
                        exact List.any_eq_true.2 ⟨r, hr, decide_eq_true hm⟩
                      rw [hal]
                      go_wp2_with fail
                      go_roundw
                      case rel => exact ⟨j + 1, by omega, by go_num, hb4⟩
                      case measure => simp [intOf]; omega
          · obtain rfl : q = es.length := by omega
            go_wp2_with fail
            go_roundw
            case rel => exact ⟨i + 1, by omega, by go_num, Lib.hid (bgo hb1.out hb2.out)⟩
            case measure => simp [intOf]; omega
      · go_wp2_with fail
        go_ret
        exact ⟨rfl, bgo HB5.out hb1.out⟩

set_option maxRecDepth 100000 in
theorem lifted (os : Os) (started : os.Started) (H : Type) (enc : TypeId × Value → H) :
    ReturnsInHanded {} Try.checked os 4 .any (Rows.fnDiagramReducedSpec.pre6 enc Try.prog Try.f4 Rows.fnDiagramReducedRow.domain false) (Rows.fnDiagramReducedSpec.post enc Try.prog Try.f4 false true false false) := by
  refine returnsInHanded_of_change (C := Try.checked) own started (by kernel_rfl) Try.func4
    (ChangeSpec.witness6 (enc := enc) (C := Try.checked) false ⟨#[], #[.slice none 0 0], []⟩ 8 (by kernel_rfl) (by kernel_rfl) (by kernel_rfl) (by kernel_rfl)) ?_
  intro W base args ds gs before hval0 hW hcnd _
  have hval : ∀ (j : Nat) t v, Try.f4.params[j]? = some t → args[j]? = some v → Value.okWide Try.prog W .any base t v := hval0
  have hW' := hW
  obtain ⟨p, q, hA0, hV, rfl, hfz, hnd⟩ := hW
  have hA : DataW.TrodAll enc Try.prog W 0 (fun _ => true) true Try.f4.params.toList args.toList ds p := hA0
  rw [Try.params4] at hA hval
  obtain ⟨v0, vs0, d0, ds0, p0, q0, hargs, rfl, rfl, h0, r0⟩ := trodAll_cons hA
  obtain ⟨rfl, rfl, rfl⟩ := trodAll_nil r0
  obtain rfl : args = #[v0] := by cases args; simp_all
  obtain ⟨rfl, rfl⟩ := trodVars_none hV
  have k0 := h0
  have l0 : ∀ x ∈ p0, x.block < W.heap.size := fun x hx => hW'.lt x (by simp [hx])
  obtain ⟨A0, n0, c0, xs0, rfl, g0⟩ := open_byteS Try.underlying39 Try.underlying5 (by kernel_rfl) (hval 0 39 v0 rfl rfl) k0
  clear hA0 hval0
  refine (walk A0 n0 c0 xs0 g0).mono fun e W' ⟨he, hb⟩ => ?_
  subst he
  exact ⟨_, rfl, _, _, _, [], _, [], hW', trodAll_cons_mk (p := []) (shut_bool Try.underlying4 _) trodAll_mk0, (trodAll_cons_mk (Below.trod laid (by kernel_rfl) (of_decide_eq_true (by kernel_rfl)) h0 hb l0) trodAll_mk0), rfl, hb.frame _, fun h => by cases h⟩

theorem over : Rows.fnDiagramReducedRow.holds Try.pinned (OpenSpec.ofChange Rows.fnDiagramReducedSpec) :=
  OpenClaim.holds_of_wide 4 Try.f4 rfl rfl rfl rfl rfl rfl rfl ⟨rfl, rfl, rfl, rfl, rfl⟩ rfl rfl rfl rfl rfl (by kernel_rfl) Try.func4 (by kernel_rfl)
    (of_decide_eq_true (by kernel_rfl)) (by unfold Func.isWrapper; first | (rw [if_pos (by decide +kernel)]; kernel_rfl) | (rw [if_neg (by decide +kernel)]; exact ⟨rfl, rfl⟩))
    (fun os started H enc _ => lifted os started H enc)

/-- The statement. -/
theorem proved : Rows.FnDiagramReducedSaid :=
  over
#print axioms proved
end Go.Proofs.Ytfmdgdamelkelaa.fnDiagramReduced
