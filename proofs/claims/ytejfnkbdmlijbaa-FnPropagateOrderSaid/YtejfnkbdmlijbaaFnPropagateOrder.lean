/- FnPropagateOrder: for every input the law returns true and its arguments read as before; no further condition. -/
import Derived.Test.YtejfnkbdmlijbaaRows
import Derived.WalkKit
import Derived.ProofKit
import Derived.OpenShut
import Derived.Carry
import Derived.StillTailTactics
import Derived.Test.YtejfnkbdmlijbaaDrawO
import Derived.Test.YtejfnkbdmlijbaaFix
import Derived.Test.YtejfnkbdmlijbaaOpenC
namespace Go.Proofs.Ytejfnkbdmlijbaa.fnPropagateOrder
open Go.ChangeShapes Go.WideShapes Go.ChangeAt Go.RowKit
open Go.Shelf
set_option linter.unusedVariables false
set_option maxRecDepth 100000

theorem own : ownKnob Try.prog.godebug = none := by kernel_rfl
theorem laid : laidOutB Try.prog = true := by kernel_rfl

theorem hT2 {w w' : World} {b : Nat} {x0 x1 : Value} (h : TBlk 26 w b #[x0, x1]) (hb : Below w.heap.size w w') :
    TBlk 26 w' b #[x0, x1] ∧ w'.cell? ⟨b, 0, none⟩ = some x0 ∧ w'.cell? ⟨b, 1, none⟩ = some x1 := by
  have t := h.below_ hb h.lt
  exact ⟨t, t.at_ 0 rfl, t.at_ 1 rfl⟩
theorem vmod_rev {m : Mod} : vmodF ⟨m.doms, m.cons.reverse⟩ = vmodF m := by
  unfold vmodF
  rw [List.all_reverse, List.length_reverse]
theorem prop_rev (m : Mod) : propF ⟨m.doms, m.cons.reverse⟩ = propF m := by
  cases h : vmodF m
  · rw [prop_no h, prop_no (by rw [vmod_rev]; exact h)]
  · rw [prop_yes h, prop_yes (by rw [vmod_rev]; exact h)]
    have hm := ModOk.of h
    exact (fix_order (fun c => by simp) (fun c hc => vcon_diff (hm.cons c hc) hm.four) hm.doms).symm
theorem SlK.map {α : Type} {R R' : World → Nat → List Value → α → Prop} {k : Nat} {w : World} {B n : Nat} {A : Option Addr} {xs : List α} (hR : ∀ us x, R w B us x → R' w B us x) (h : SlK R k w B A n xs) : SlK R' k w B A n xs :=
  ⟨h.1, h.2.1, fun hn => by
    obtain ⟨b, o, e, hb, hc⟩ := h.2.2 hn
    refine ⟨b, o, e, hb, fun i x hx => ?_⟩
    obtain ⟨us, hl, hu, hr⟩ := hc i x hx
    exact ⟨us, hl, hu, hR _ _ hr⟩⟩
/-- what the rows of constraints read as, in a world that stays. -/
def FixC (W : World) : World → Nat → List Value → Con → Prop := fun _ _ us x => ConR W W.heap.size us x
theorem rev_snoc {cons : List Con} {k : Nat} {x : Con} (h : cons[cons.length - 1 - k]? = some x) (hk : k < cons.length) : cons.reverse.take k ++ [x] = cons.reverse.take (k + 1) := by
  rw [List.take_add_one]
  congr 1
  rw [List.getElem?_reverse hk, h]
  rfl
set_option maxHeartbeats 3000000 in
theorem walk {W : World} (A0 : Option Addr) (n0 c0 : Nat) (xs0 : List Int) (g0 : CodeA W W.heap.size A0 n0 c0 xs0) :
    Calls Try.prog 8 #[.slice A0 n0 c0] W fun e w' => e = .returned (.bool true) ∧ Below W.heap.size W w' := by
  obtain ⟨i1, hi1, hy0, hy1, hy2⟩ := info_parts (P := Try.prog) (e := 35) (z := .agg #[.int .i64 0, .slice none 0 0, .slice none 0 0, .int .i64 0, .slice none 0 0]) (size := 5) (bytes := 88) (by kernel_rfl)
  by_cases hlen : (1048576 : Int) < (n0 : Int)
  · have hd : decide ((1048576 : Int) < (n0 : Int)) = true := decide_eq_true hlen
    clear hlen
    go_enter Try.func8, Try.ntmps8
    go_wp2_with fail
    go_ret
    exact ⟨rfl, Below.refl _ _⟩
  have hd : decide ((1048576 : Int) < (n0 : Int)) = false := decide_eq_false hlen
  go_enter Try.func8, Try.ntmps8
  go_wp2_with fail
  refine (drawPropagate _ _ _ _ _ g0).mono ?_
  rintro e W1 ⟨vs, m, rfl, hom, hsz, c0⟩
  obtain ⟨vs', e1, hmr⟩ := OwnMod.read hom
  obtain rfl : vs = vs' := by injection e1 with e1; exact List.toArray_inj e1
  obtain ⟨Ad, Ac, cd, cc, rfl, hid, hic, hcd, -⟩ := id hmr
  have HSZ := Lib.hid hsz
  obtain ⟨W2, hW2⟩ : ∃ W2, W1.alloc (.cells #[.slice Ad m.doms.length cd, .slice Ac m.cons.length cc] 26) = W2 := ⟨_, rfl⟩
  have hB2 : Below W1.heap.size W1 W2 := by rw [← hW2]; exact b_alloc _ _
  have HM2 : Hid (TBlk 26 W2 W1.heap.size #[.slice Ad m.doms.length cd, .slice Ac m.cons.length cc]) := by rw [← hW2]; exact Lib.hid (TBlk.new _ _ _)
  obtain ⟨-, x0, x1⟩ := hT2 HM2.out (Below.refl _ _)
  have HMR1 := Lib.hid hmr
  have HID := Lib.hid hid
  have HIC := Lib.hid hic
  have HB12 := Lib.hid hB2
  have HB2 := Lib.hid (bgo c0 hB2)
  clear hom hmr hB2 c0 e1 hsz hid hic
  go_wp2_with fail
  clear hW2
  refine (iPropagate _ m W2 (ModR.on HMR1.out HB12.out)).mono ?_
  rintro e W3 ⟨B3, c3, nF, rfl, hnF, r3, hB⟩
  obtain ⟨F, hF⟩ : ∃ F, propF m = F := ⟨_, rfl⟩
  have HF := Lib.hid hF
  rw [hF] at r3
  have HNF := Lib.hid r3.len
  have HR3 := Lib.hid r3
  have HB13 := Lib.hid (bgo HB12.out hB)
  have HB3 := Lib.hid (bgo HB2.out hB)
  clear x0 x1
  obtain ⟨t3, x0, x1⟩ := hT2 HM2.out hB
  have HM3 := Lib.hid t3
  clear hF r3 hB t3 HM2 HB12 HB2
  go_wp2_with fail
  refine (sPropagate _ m W3 (ModR.on HMR1.out HB13.out)).mono ?_
  rintro e W4 ⟨B4, c4, n4, rfl, hn4, r4, hB⟩
  rw [HF.out] at r4
  have HR4 := Lib.hid r4
  have HR34 := Lib.hid (IntR.on HR3.out hB)
  have HB14 := Lib.hid (bgo HB13.out hB)
  have HB4 := Lib.hid (bgo HB3.out hB)
  clear x0 x1
  obtain ⟨t4, x0, x1⟩ := hT2 HM3.out hB
  have HM4 := Lib.hid t4
  clear r4 hB t4 HM3 HB13 HB3 HR3
  go_wp2_with fail
  refine (lequalInts _ _ _ _ _ _ F F _ HR34.out HR4.out).mono ?_
  rintro e W5 ⟨rfl, hB⟩
  have HR5 := Lib.hid (IntR.on HR34.out hB)
  have HB15 := Lib.hid (bgo HB14.out hB)
  have HB5 := Lib.hid (bgo HB4.out hB)
  clear x0 x1
  obtain ⟨t5, x0, x1⟩ := hT2 HM4.out hB
  have HM5 := Lib.hid t5
  clear hB t5 HM4 HB14 HB4 HR34 HR4
  have heq : decide (F = F) = true := by simp
  by_cases hz : nF = 0
  · have hz2 : ((nF : Int) == 0) = true := by simp; omega
    clear hz
    go_wp2_with fail
    refine (sPropagate _ m W5 (ModR.on HMR1.out HB15.out)).mono ?_
    rintro e W6 ⟨B6, c6, n6, rfl, hn6, r6, hB⟩
    rw [HF.out] at r6
    have HR6 := Lib.hid r6
    have HR56 := Lib.hid (IntR.on HR5.out hB)
    have HB6 := Lib.hid (bgo HB5.out hB)
    clear r6 hB x0 x1
    go_wp2_with fail
    refine (lequalInts _ _ _ _ _ _ F F _ HR56.out HR6.out).mono ?_
    rintro e W7 ⟨rfl, hB⟩
    go_wp2_with fail
    go_ret
    exact ⟨rfl, bgo HB6.out hB⟩
  · have hzz : ((nF : Int) == 0) = false := by simp; omega
    obtain ⟨nd, hnd⟩ : ∃ nd, m.doms.length = nd := ⟨_, rfl⟩
    obtain ⟨nc, hnc⟩ : ∃ nc, m.cons.length = nc := ⟨_, rfl⟩
    have HND := Lib.hid hnd
    have HNC := Lib.hid hnc
    have hnc4 : nc ≤ 4 := by rw [← hnc]; exact HSZ.out.2.2.1
    rw [hnd] at x0 HM5
    rw [hnc] at x1 HM5
    obtain ⟨wz, hwz⟩ : ∃ wz, W5.alloc (.cells #[.slice none 0 0, .slice none 0 0] 26) = wz := ⟨_, rfl⟩
    have hbz : Below W5.heap.size W5 wz := by rw [← hwz]; exact b_alloc _ _
    have hzz0 : wz.heap.size = W5.heap.size + 1 := by rw [← hwz, size_alloc_]
    have hTz : TBlk 26 wz W5.heap.size #[.slice none 0 0, .slice none 0 0] := by rw [← hwz]; exact TBlk.new _ _ _
    have u0 : wz.cell? ⟨W5.heap.size, 0, none⟩ = some (.slice none 0 0) := hTz.at_ 0 rfl
    have u1 : wz.cell? ⟨W5.heap.size, 1, none⟩ = some (.slice none 0 0) := hTz.at_ 1 rfl
    have e0 := hTz.frozen 0
    have e1 := hTz.frozen 1
    obtain ⟨W6, hW6⟩ : ∃ W6, (wz.setCell ⟨W5.heap.size, 0, none⟩ (.slice Ad nd cd)).setCell ⟨W5.heap.size, 1, none⟩ (.slice none 0 0) = W6 := ⟨_, rfl⟩
    have HX6 : Hid (TBlk 26 W6 W5.heap.size #[.slice Ad nd cd, .slice none 0 0]) := by rw [← hW6]; exact Lib.hid ((hTz.store 0 _).store 1 _)
    have hB6 : Below W5.heap.size W5 W6 := by rw [← hW6]; exact (hbz.setCell (Nat.le_refl _) _).setCell (Nat.le_refl _) _
    have hz6 : W6.heap.size = W5.heap.size + 1 := by rw [← hW6]; simp [hzz0]
    clear hTz hbz hzz0
    have HM6 := Lib.hid (hT2 HM5.out hB6).1
    have y1 : W6.cell? ⟨W1.heap.size, 1, none⟩ = some (.slice Ac nc cc) := (hT2 HM5.out hB6).2.2
    have HB6 := Lib.hid (bgo HB5.out hB6)
    have HB16 := Lib.hid (bgo HB15.out hB6)
    have HR6 := Lib.hid (IntR.on HR5.out hB6)
    have HZ6 := Lib.hid hz6
    have hw16 : W1.heap.size < W6.heap.size := HM6.out.lt
    have hwr : IntKind.i64.wrap ((nc : Int) - 1) = (nc : Int) - 1 - (0 : Nat) := by rw [IntKind.wrap_i64]; omega
    clear hz hnd hnc hz6 x1
    rw [HND.out, HNC.out]
    go_wp2_with fail
    clear hW6 hwz y1 x0 u0 u1 e0 e1
    have hic := HIC.out
    rw [HNC.out] at hic
    have HIC2 := Lib.hid hic
    have hcd2 : nd ≤ cd := by rw [← HND.out]; exact hcd
    clear hic HIC hcd
    have O0 := Lib.hid (show OwnK 35 5 (FixC W1) W6 W6.heap.size (.slice none 0 0) (m.cons.reverse.take 0) from ⟨[], rfl, fun u hu => by simp at hu, World.ownsRow_nil _ _ _ _, by simp, fun i u x hu => by simp at hu⟩)
    have B0 := Lib.hid (show Below W5.heap.size W5 W6 from hB6)
    go_loopw [6] (fun i wr => ∃ (k : Nat) (Ax : Option Addr) (cx : Nat), k ≤ nc ∧ i = .int .i64 ((nc : Int) - 1 - (k : Int)) ∧ Hid (TBlk 26 wr W5.heap.size #[.slice Ad nd cd, .slice Ax k cx]) ∧ Hid (OwnK 35 5 (FixC W1) wr W6.heap.size (.slice Ax k cx) (m.cons.reverse.take k)) ∧ Hid (Below W5.heap.size W5 wr) ∧ W6.heap.size ≤ wr.heap.size) (fun i _ => (intOf i + 1).toNat)
    case atStart => exact ⟨0, none, 0, by omega, by simp, HX6, O0, B0, Nat.le_refl _⟩
    case round =>
      obtain ⟨k, Ax, cx, hk, rfl, hT, hO, hBk, hzr⟩ := hrel
      clear O0 B0 HX6 HM6 HB6 HB16 HR6
      rename World => wr
      have HB1r := Lib.hid (bgo HB15.out hBk.out)
      have hz5 := HZ6.out
      have hMt := (hT2 HM5.out hBk.out).1
      by_cases hlt : k < nc
      · obtain ⟨j, hj⟩ : ∃ j, nc = k + j + 1 := ⟨nc - k - 1, by omega⟩
        have hij : (nc : Int) - 1 - (k : Int) = (j : Int) := by omega
        have HJ := Lib.hid hj
        have hjn : j < nc := by omega
        have hjni : (j : Int) < (nc : Int) := by omega
        rw [hij]
        clear hj hij
        obtain ⟨ab, ao, kc, va, aa, ra, cv, ca', cr, rfl, hab, hxk, p0, p1, p2, p3, p4, hcr⟩ := ConR.at_ HIC2.out hjn
        have HXK := Lib.hid hxk
        have HCR := Lib.hid hcr
        have q0 := (HB1r.out.cell (p := ⟨ab, _, none⟩) hab).trans p0
        have q1 := (HB1r.out.cell (p := ⟨ab, _, none⟩) hab).trans p1
        have q2 := (HB1r.out.cell (p := ⟨ab, _, none⟩) hab).trans p2
        have q3 := (HB1r.out.cell (p := ⟨ab, _, none⟩) hab).trans p3
        have q4 := (HB1r.out.cell (p := ⟨ab, _, none⟩) hab).trans p4
        have a1 : wr.cell? ⟨W1.heap.size, 1, none⟩ = some (.slice (some ⟨ab, ao, none⟩) nc cc) := hMt.at_ 1 rfl
        have a0 : wr.cell? ⟨W5.heap.size, 1, none⟩ = some (.slice Ax k cx) := hT.out.at_ 1 rfl
        obtain ⟨C, hC⟩ : ∃ C : Array Value, C = #[.int .i64 kc.kind, .slice va kc.vars.length cv, .slice aa kc.args.length ca', .int .i64 kc.bound, .slice ra kc.rows.length cr] := ⟨_, rfl⟩
        have hbx : Below wr.heap.size wr (wr.alloc (.cells #[.int .i64 kc.kind, .slice va kc.vars.length cv, .slice aa kc.args.length ca', .int .i64 kc.bound, .slice ra kc.rows.length cr] 35)).drew := below_drewN (b_alloc _ _) 1
        have hzx : (wr.alloc (.cells #[.int .i64 kc.kind, .slice va kc.vars.length cv, .slice aa kc.args.length ca', .int .i64 kc.bound, .slice ra kc.rows.length cr] 35)).drew.heap.size = wr.heap.size + 1 := size_alloc_ _ _
        have a0' : (wr.alloc (.cells #[.int .i64 kc.kind, .slice va kc.vars.length cv, .slice aa kc.args.length ca', .int .i64 kc.bound, .slice ra kc.rows.length cr] 35)).cell? ⟨W5.heap.size, 1, none⟩ = some (.slice Ax k cx) := (hT.out.alloc_ _).at_ 1 rfl
        have T6 := Lib.hid (show TBlk 26 (wr.alloc (.cells #[.int .i64 kc.kind, .slice va kc.vars.length cv, .slice aa kc.args.length ca', .int .i64 kc.bound, .slice ra kc.rows.length cr] 35)).drew W5.heap.size #[.slice Ad nd cd, .slice Ax k cx] from (hT.out.alloc_ _))
        have hrl : (m.cons.reverse.take k).length = k := by rw [List.length_take, List.length_reverse, HNC.out]; omega
        have HRL := Lib.hid hrl
        obtain ⟨uss, u1, u0, u2, u3, u4⟩ := hO.out
        rw [hrl] at u2
        have ho6 := Lib.hid (own_below u2 hbx)
        have HU := Lib.hid (And.intro u1 (And.intro u0 u4))
        clear hxk hcr p0 p1 p2 p3 p4 hMt hC u1 u0 u2 u3 u4 hrl
        go_wp2_with fail
        go_region_law (first
          | (refine step_append_any (by rfl) _ _ 24 (by rfl) W6.heap.size 35 i1 _ 5 88 Try.underlying24 hi1 hy0 hy1 hy2 rfl (by omega) (.slice Ax k cx) k uss.flatten (by rfl) ho6.out (some ⟨wr.heap.size, 0, none⟩) 1 [.int .i64 kc.kind, .slice va kc.vars.length cv, .slice aa kc.args.length ca', .int .i64 kc.bound, .slice ra kc.rows.length cr] (by exact ⟨_, rfl, src_blk (t := 35) (TBlk.new _ _ _) (by simp)⟩) (by simp [Value.oneCell']) (by unfold maxLen; omega) (by omega) (by rw [hzx]; omega) ?_
             intro v1 W7 hown hbw hgr _
             obtain ⟨A7, c7, rfl⟩ := (HoldR.of_own hown).form
             have T7 := TBlk.grown (show (26 : TypeId) ≠ 35 by decide) T6.out ho6.out hgr
             have d7 := T7.at_ 1 rfl
             have f7 := T7.frozen 1))
        all_goals
          have K1 := Lib.hid (T7.store 1 (.slice A7 (k + 1) c7))
          have K2 := Lib.hid (OwnK.shuns (show (26 : TypeId) ≠ 35 by decide) (fun w base v x g j cs fr u hg h => h) _ _ _ _ _ 1 _ _ (.slice A7 (k + 1) c7) T7
            (OwnK.snoc (In := FixC W1) (w := (wr.alloc (.cells #[.int .i64 kc.kind, .slice va kc.vars.length cv, .slice aa kc.args.length ca', .int .i64 kc.bound, .slice ra kc.rows.length cr] 35)).drew) (fun w w' base base0 n size v ys us x _ _ h => h) HU.out.1 HU.out.2.1 (by rw [HRL.out]; exact ho6.out) HU.out.2.2 (show FixC W1 _ _ [.int .i64 kc.kind, .slice va kc.vars.length cv, .slice aa kc.args.length ca', .int .i64 kc.bound, .slice ra kc.rows.length cr] kc from HCR.out) rfl (by rw [HRL.out]; omega) (by rw [HRL.out]; exact hown) hgr))
          have K3 : Below W5.heap.size W5 (W7.setCell ⟨W5.heap.size, 1, none⟩ (.slice A7 (k + 1) c7)) := ((hBk.out.trans (hbx.mono hBk.out.size)).trans (hbw.mono (by omega))).setCell (Nat.le_refl _) _
          have KZ : W6.heap.size ≤ (W7.setCell ⟨W5.heap.size, 1, none⟩ (.slice A7 (k + 1) c7)).heap.size := by have := hbw.size; simp; omega
          have KB := Lib.hid K3
          have KE := Lib.hid (show ((j : Int) - 1) = (nc : Int) - 1 - ((k + 1 : Nat) : Int) by have := HJ.out; omega)
          have KR := Lib.hid (rev_snoc (cons := m.cons) (k := k) (x := kc) (by rw [HNC.out, show nc - 1 - k = j by have := HJ.out; omega]; exact HXK.out) (by rw [HNC.out]; exact hlt))
          clear T7 d7 f7 hown hbw hgr K3
          go_wp2_with fail
          go_roundw
          case rel => exact ⟨k + 1, A7, c7, by omega, by first | rw [KE.out] | (rw [← KE.out]) | (have := KE.out; congr 1), K1, Lib.hid (by rw [← KR.out]; exact K2.out), KB, KZ⟩
          case measure => first | (simp [intOf]; done) | (simp [intOf]; omega)
      · obtain rfl : k = nc := by omega
        have hneg : decide ((0 : Int) ≤ (k : Int) - 1 - (k : Int)) = false := decide_eq_false (by omega)
        have hneg2 : ((k : Int) - 1 - (k : Int)) = -1 := by omega
        rw [hneg2]
        have a0 := hT.out.at_ 0 rfl
        have a1 := hT.out.at_ 1 rfl
        obtain ⟨A9, c9, e9, hcr9, hc9⟩ := OwnK.read (R := FixC W1) (fun _ _ _ _ h => h) hO.out
        have htk : m.cons.reverse.take k = m.cons.reverse := List.take_of_length_le (by rw [List.length_reverse, HNC.out]; exact Nat.le_refl _)
        rw [htk] at e9 hcr9 hc9
        injection e9 with e91 e92 e93
        subst e91 e93
        have hmx : ModR wr wr.heap.size [.slice Ad nd cd, .slice Ax k cx] ⟨m.doms, m.cons.reverse⟩ :=
          ⟨Ad, Ax, cd, cx, by show _ = [Value.slice Ad m.doms.length cd, Value.slice Ax m.cons.reverse.length cx]; rw [HND.out, List.length_reverse, HNC.out], IntR.on HID.out HB1r.out, SlK.map (fun us x h => ConR.on (show ConR W1 W1.heap.size us x from h) HB1r.out) (by rw [List.length_reverse, HNC.out] at hcr9; show SlK (FixC W1) 5 wr wr.heap.size Ax m.cons.reverse.length m.cons.reverse; rw [List.length_reverse, HNC.out]; exact hcr9), by show m.doms.length ≤ cd; rw [HND.out]; exact hcd2, hc9⟩
        have HMX := Lib.hid hmx
        have HRF := Lib.hid (IntR.on HR5.out hBk.out)
        have HBF := Lib.hid (bgo HB5.out hBk.out)
        clear hmx hcr9 htk hMt hneg2 e92 hc9
        go_wp2_with fail
        refine (iPropagate _ ⟨m.doms, m.cons.reverse⟩ wr HMX.out).mono ?_
        rintro e W8 ⟨B8, c8, n8, rfl, hn8, r8, hB⟩
        rw [prop_rev, HF.out] at r8
        have HR8 := Lib.hid r8
        have HR9 := Lib.hid (IntR.on HRF.out hB)
        have HB8 := Lib.hid (bgo HBF.out hB)
        clear r8 hB a0 a1
        go_wp2_with fail
        refine (lequalInts _ _ _ _ _ _ F F _ HR8.out HR9.out).mono ?_
        rintro e W9 ⟨rfl, hB⟩
        go_wp2_with fail
        go_ret
        exact ⟨rfl, bgo HB8.out hB⟩

set_option maxRecDepth 100000 in
theorem lifted (os : Os) (started : os.Started) (H : Type) (enc : TypeId × Value → H) :
    ReturnsInHanded {} Try.checked os 8 .any (Rows.fnPropagateOrderSpec.pre6 enc Try.prog Try.f8 Rows.fnPropagateOrderRow.domain false) (Rows.fnPropagateOrderSpec.post enc Try.prog Try.f8 false true false false) := by
  refine returnsInHanded_of_change (C := Try.checked) own started (by kernel_rfl) Try.func8
    (ChangeSpec.witness6 (enc := enc) (C := Try.checked) false ⟨#[], #[.slice none 0 0], []⟩ 8 (by kernel_rfl) (by kernel_rfl) (by kernel_rfl) (by kernel_rfl)) ?_
  intro W base args ds gs before hval0 hW hcnd _
  have hval : ∀ (j : Nat) t v, Try.f8.params[j]? = some t → args[j]? = some v → Value.okWide Try.prog W .any base t v := hval0
  have hW' := hW
  obtain ⟨p, q, hA0, hV, rfl, hfz, hnd⟩ := hW
  have hA : DataW.TrodAll enc Try.prog W 0 (fun _ => true) true Try.f8.params.toList args.toList ds p := hA0
  rw [Try.params8] at hA hval
  obtain ⟨v0, vs0, d0, ds0, p0, q0, hargs, rfl, rfl, h0, r0⟩ := trodAll_cons hA
  obtain ⟨rfl, rfl, rfl⟩ := trodAll_nil r0
  obtain rfl : args = #[v0] := by cases args; simp_all
  obtain ⟨rfl, rfl⟩ := trodVars_none hV
  have k0 := h0
  have l0 : ∀ x ∈ p0, x.block < W.heap.size := fun x hx => hW'.lt x (by simp [hx])
  obtain ⟨A0, n0, c0, xs0, rfl, g0⟩ := open_byteS Try.underlying22 Try.underlying5 (by kernel_rfl) (hval 0 22 v0 rfl rfl) k0
  clear hA0 hval0
  refine (walk A0 n0 c0 xs0 g0).mono fun e W' ⟨he, hb⟩ => ?_
  subst he
  exact ⟨_, rfl, _, _, _, [], _, [], hW', trodAll_cons_mk (p := []) (shut_bool Try.underlying4 _) trodAll_mk0, (trodAll_cons_mk (Below.trod laid (by kernel_rfl) (of_decide_eq_true (by kernel_rfl)) h0 hb l0) trodAll_mk0), rfl, hb.frame _, fun h => by cases h⟩

theorem over : Rows.fnPropagateOrderRow.holds Try.pinned (OpenSpec.ofChange Rows.fnPropagateOrderSpec) :=
  OpenClaim.holds_of_wide 8 Try.f8 rfl rfl rfl rfl rfl rfl rfl ⟨rfl, rfl, rfl, rfl, rfl⟩ rfl rfl rfl rfl rfl (by kernel_rfl) Try.func8 (by kernel_rfl)
    (of_decide_eq_true (by kernel_rfl)) (by unfold Func.isWrapper; first | (rw [if_pos (by decide +kernel)]; kernel_rfl) | (rw [if_neg (by decide +kernel)]; exact ⟨rfl, rfl⟩))
    (fun os started H enc _ => lifted os started H enc)

/-- The statement. -/
theorem proved : Rows.FnPropagateOrderSaid :=
  over
#print axioms proved
end Go.Proofs.Ytejfnkbdmlijbaa.fnPropagateOrder
