/- spec's values on paths. -/
import Derived.Test.YtfmdgdamelkelaaDdoP
import Derived.Maps.AppendAt
namespace Go.Proofs.Ytfmdgdamelkelaa
open Go.ChangeShapes Go.WideShapes Go.ChangeAt Go.RowKit
open Go.Shelf
set_option linter.unusedVariables false
set_option maxRecDepth 100000

theorem nextR_len (d : List (List (List Int))) (i a : Nat) (acc : List Int) : ∀ v, (nextR d i a acc v).length ≤ acc.length + v
  | 0 => by simp [nextR]
  | v + 1 => by
    have ih := nextR_len d i a acc v
    rw [nextR]
    split
    · simp; omega
    · omega
theorem nextT_len (d : List (List (List Int))) (i : Nat) (rs : List Int) : ∀ j, (nextT d i rs j).length ≤ 6 * j
  | 0 => by simp [nextT]
  | j + 1 => by
    have ih := nextT_len d i rs j
    have := nextR_len d i (rs[j]?.getD 0).toNat (nextT d i rs j) 6
    rw [nextT]; omega
theorem reach_len (d : List (List (List Int))) : ∀ i, (reach d i).length ≤ 6 ^ i
  | 0 => by simp [reach]
  | i + 1 => by
    have ih := reach_len d i
    have := nextT_len d i (reach d i) (reach d i).length
    rw [reach, Nat.pow_succ]; omega
theorem reach_len4 (d : List (List (List Int))) {i : Nat} (h : i ≤ 4) : (reach d i).length ≤ 1296 := by
  have := reach_len d i
  have h2 : 6 ^ i ≤ 6 ^ 4 := Nat.pow_le_pow_right (by omega) h
  omega
theorem scontainsInt (A : Option Addr) (n c : Nat) (xs : List Int) (v : Int) (w : World) (h : IntR w w.heap.size A n xs) :
    Calls Try.prog 115 #[.slice A n c, .int .i64 v] w fun e w' => e = .returned (.bool (decide (v ∈ xs))) ∧ w = w' := by
  have hn := h.le
  have hl := Lib.hid h.len
  go_enter Try.func115, Try.ntmps115
  go_wp2_with fail
  go_loop [5] (fun i => ∃ k : Nat, k ≤ n ∧ i = .int .i64 k ∧ Hid (AllB (fun y => !(y == v)) xs k)) (fun i => n - (intOf i).toNat)
  case atStart => exact ⟨0, by omega, rfl, AllB.zero _ _⟩
  case round =>
    obtain ⟨k, hk, rfl, hq⟩ := hrel
    by_cases hlt : k < n
    · obtain ⟨ab, ao, x, rfl, hab, hxk, hcx⟩ := IntR.at_ h hlt
      have HX := Lib.hid hxk
      clear hxk
      by_cases hxy : x = v
      · have he : (x == v) = true := by simpa using hxy
        have HY := Lib.hid hxy
        clear hxy
        go_wp2_with fail
        go_ret
        exact ⟨ret_bool (decide_eq_true (by rw [← HY.out]; exact List.mem_of_getElem? HX.out)).symm, rfl⟩
      · have he : (x == v) = false := by simpa using hxy
        have HY := Lib.hid he
        clear hxy
        go_wp2_with fail
        go_round
        case rel => exact ⟨k + 1, by omega, by go_num, AllB.succ hq.out HX.out (by rw [HY.out]; rfl)⟩
        case measure => simp [intOf]; omega
    · obtain rfl : k = n := by omega
      go_wp2_with fail
      go_ret
      refine ⟨ret_bool (decide_eq_false fun hm => ?_).symm, rfl⟩
      have h1 := AllB.done hq.out (by rw [hl.out]; omega)
      rw [List.all_eq_true] at h1
      have h2 := h1 v hm
      simp at h2
/-- the loads of an edge. -/
theorem edge_at {w : World} {B n : Nat} {A : Option Addr} {d : List (List (List Int))} (h : LayersR w B A n d) (hv : vdgF d = true) {i a v : Nat} (hi : i < n) (ha : ∀ l, d[i]? = some l → a < l.length) (hv6 : v < 6) :
    ∃ ab ao A1 ll c1 lb lo A2 c2 rb ro, A = some ⟨ab, ao, none⟩ ∧ A1 = some ⟨lb, lo, none⟩ ∧ A2 = some ⟨rb, ro, none⟩ ∧ a < ll ∧ ll ≤ 216 ∧ w.cell? ⟨ab, ao + i, none⟩ = some (.slice A1 ll c1) ∧ w.cell? ⟨lb, lo + a, none⟩ = some (.slice A2 6 c2) ∧ w.cell? ⟨rb, ro + v, none⟩ = some (.int .i64 (edge d i a v)) := by
  obtain ⟨ab, ao, l, u, rfl, hab, hxk, hcx, A1, c1, rfl, hl0⟩ := SlR.at_ h hi
  have hal := ha l hxk
  obtain ⟨lb, lo, r, u, rfl, hlb, hr, hcr, A2, c2, rfl, hr1⟩ := SlR.at_ hl0 hal
  have hly := vdg_layer hv hxk
  have hr6 := (hly.2.2 r (List.mem_of_getElem? hr)).1
  rw [hr6] at hcr hr1
  obtain ⟨rb, ro, x, rfl, hrb, hx, hce⟩ := IntR.at_ hr1 hv6
  exact ⟨ab, ao, _, l.length, c1, lb, lo, _, c2, rb, ro, rfl, rfl, rfl, hal, hly.2.1, hcx, hcr, by rw [edge_of hxk hr hx]; exact hce⟩
set_option maxHeartbeats 8000000 in
theorem sonPath (A : Option Addr) (n c i : Nat) (d : List (List (List Int))) (hv : vdgF d = true) (hi : i < n) (w : World) (h : LayersR w w.heap.size A n d) :
    Calls Try.prog 80 #[.slice A n c, .int .i64 i] w fun e w' => e = .returned (.int .i64 (onF d i)) ∧ Below w.heap.size w w' := by
  obtain ⟨i0, hi0, hz0, hz1, hz2⟩ := info_parts info_int
  have hn := h.le
  have hl := Lib.hid h.len
  have hn4 : n ≤ 4 := by have := vdg_len hv; have := hl.out; omega
  have HV := Lib.hid hv
  have HH := Lib.hid h
  have hi4 : i ≤ 3 := by omega
  clear hv h
  go_enter Try.func80, Try.ntmps80
  go_wp2_with fail
  have hs0 : IntR (w.alloc (.cells #[.int .i64 0] 3)) (w.alloc (.cells #[.int .i64 0] 3)).heap.size (some ⟨w.heap.size, 0, none⟩) 1 (reach d 0) := by
    refine ⟨rfl, by omega, fun _ => ⟨w.heap.size, 0, rfl, by rw [size_alloc_]; omega, fun k x hx => ?_⟩⟩
    cases k with
    | zero =>
      simp [reach] at hx
      subst hx
      exact ⟨_, (TBlk.new w #[.int .i64 0] 3).at_ 0 rfl, rfl⟩
    | succ k => simp [reach] at hx
  go_loopw [5, 6] (fun t5 t6 wr => ∃ (k : Nat) (A5 : Option Addr) (c5 : Nat), k ≤ i ∧ t6 = .int .i64 k ∧ t5 = .slice A5 (reach d k).length c5 ∧ Hid (IntR wr wr.heap.size A5 (reach d k).length (reach d k)) ∧ Below w.heap.size w wr) (fun _ t6 _ => i - (intOf t6).toNat)
  case atStart => exact ⟨0, _, _, by omega, rfl, rfl, hs0, b_alloc _ _⟩
  case round =>
    obtain ⟨k, A5, c5, hki, rfl, rfl, hq5, hb⟩ := hrel
    clear hs0
    obtain ⟨w5, rfl⟩ : ∃ w5 : World, w5 = wr := ⟨_, rfl⟩
    by_cases hkl : k < i
    · have hrl := reach_len4 d (i := k) (by omega)
      have hrok := reach_ok HV.out k (by have := hl.out; omega)
      have HRK := Lib.hid hrok
      obtain ⟨nr, hnr⟩ : ∃ nr, nr = (reach d k).length := ⟨_, rfl⟩
      rw [← hnr] at hrl hq5 ⊢
      have HNR := Lib.hid hnr
      have hsz5 := hb.size
      clear hrok hnr
      go_wp2_with fail
      have ho : (w5.alloc (.cells #[] 3)).ownsRow w5.heap.size 3 1 (.slice (some ⟨w5.heap.size, 0, none⟩) 0 0) 0 [] := World.ownsRow_lit w5 #[] 0 (Nat.le_refl _) (by decide) rfl
      go_loopw [7, 8] (fun t7 t8 wr => ∃ (j : Nat) (v' : Value), j ≤ nr ∧ t8 = .int .i64 j ∧ v' = t7 ∧ Hid (wr.ownsRow w5.heap.size 3 1 v' (nextT d k (reach d k) j).length ((nextT d k (reach d k) j).map (.int .i64))) ∧ Below w5.heap.size w5 wr) (fun _ t8 _ => nr - (intOf t8).toNat)
      case atStart => exact ⟨0, _, by omega, rfl, rfl, ho, b_alloc _ _⟩
      case round =>
        obtain ⟨j, v, hj, rfl, rfl, hq, hbj⟩ := hrel
        clear ho
        obtain ⟨w8, rfl⟩ : ∃ w8 : World, w8 = wr := ⟨_, rfl⟩
        by_cases hjl : j < nr
        · obtain ⟨bb, bo, nd, rfl, hbb, hnk, hcn⟩ := IntR.at_ hq5.out hjl
          obtain ⟨hn0, hn1⟩ := HRK.out nd (List.mem_of_getElem? hnk)
          obtain ⟨a, rfl⟩ : ∃ a : Nat, nd = (a : Int) := ⟨nd.toNat, by omega⟩
          rw [Int.toNat_natCast] at hn1
          have HN1 := Lib.hid hn1
          have hgd : ((reach d k)[j]?.getD 0).toNat = a := by rw [hnk]; rfl
          have hstep : nextT d k (reach d k) (j + 1) = nextR d k a (nextT d k (reach d k) j) 6 := by rw [nextT, hgd]
          have HST := Lib.hid hstep
          have hlen := nextT_len d k (reach d k) j
          have hjb : j ≤ 1296 := by omega
          clear hn0 hn1 hnk hgd hstep
          go_wp2_with fail
          go_loopw [7, 9] (fun t7 t9 wr => ∃ (u : Nat) (v' : Value), u ≤ 6 ∧ t9 = .int .i64 u ∧ v' = t7 ∧ Hid (wr.ownsRow w5.heap.size 3 1 v' (nextR d k a (nextT d k (reach d k) j) u).length ((nextR d k a (nextT d k (reach d k) j) u).map (.int .i64))) ∧ Below w5.heap.size w5 wr) (fun _ t9 _ => 6 - (intOf t9).toNat)
          case atStart => exact ⟨0, _, by omega, rfl, rfl, hq, hbj⟩
          case round =>
            obtain ⟨u, v9, hu6, rfl, rfl, hq9, hb9⟩ := hrel
            by_cases hul : u < 6
            · obtain ⟨ab, ao, A1, ll, c1, lb, lo, A2, c2, rb, ro, rfl, rfl, rfl, hal, hll, hc1, hc2, hc3⟩ := edge_at (SlR.on (RowC.keeps (RowC.keeps IntC.keeps)) (RowC.widens (RowC.widens IntC.widens)) HH.out (hb.trans (hb9.mono hsz5))) HV.out (show k < n by omega) HN1.out hul
              have hcn9 := (hb9.cell (p := ⟨bb, bo + j, none⟩) hbb).trans hcn
              have hlen9 := nextR_len d k a (nextT d k (reach d k) j) u
              obtain ⟨x, hx⟩ : ∃ x, x = edge d k a u := ⟨_, rfl⟩
              rw [← hx] at hc3
              have hsucc : nextR d k a (nextT d k (reach d k) j) (u + 1) = if 0 ≤ x ∧ ¬ x ∈ nextR d k a (nextT d k (reach d k) j) u then nextR d k a (nextT d k (reach d k) j) u ++ [x] else nextR d k a (nextT d k (reach d k) j) u := by rw [nextR, ← hx]
              have HS := Lib.hid hsucc
              have hk3 : k ≤ 3 := by omega
              clear hx hsucc
              obtain ⟨A7, c7, rfl, hr7, -⟩ := IntR.of_own hq9.out (by omega)
              by_cases h0 : 0 ≤ x
              · cases hmem : decide (x ∈ nextR d k a (nextT d k (reach d k) j) u)
                · have HMM := Lib.hid hmem
                  clear hmem
                  go_wp2_with fail
                  go_quiet (fail)
                  go_wp2_with fail
                  have hr8 : IntR (wr.drewN nq) (wr.drewN nq).heap.size A7 _ _ := hr7
                  have hq8 : Hid ((wr.drewN nq).ownsRow w5.heap.size 3 1 (.slice A7 (nextR d k a (nextT d k (reach d k) j) u).length c7) (nextR d k a (nextT d k (reach d k) j) u).length ((nextR d k a (nextT d k (reach d k) j) u).map (.int .i64))) := hq9.out
                  have hb8 : Below w5.heap.size w5 (wr.drewN nq) := below_drewN hb9 _
                  refine (scontainsInt _ _ _ _ _ _ hr8).mono ?_
                  rw [HMM.out]
                  rintro e w' ⟨rfl, rfl⟩
                  obtain ⟨W9, hW9⟩ : ∃ W9, wr.drewN nq = W9 := ⟨_, rfl⟩
                  rw [hW9] at hr8 hq8 hb8 ⊢
                  clear hr7 hq9 hb9 hW9 hcn9 hc1 hc2 hc3
                  go_wp2_with (at_builtin; refine wpList_append_own _ rfl _ _ 22 rfl w5.heap.size 3 i0 _ 1 8 Try.underlying22 hi0 hz0 hz1 hz2 rfl (by decide) (.slice A7 (nextR d k a (nextT d k (reach d k) j) u).length c7) _ _ rfl (hq8.out.alloc _) ⟨W9.heap.size, 0, none⟩ 1 1 [.int .i64 x] rfl rfl (cell_one_new _ _ _) (by simp [Value.oneCell']) (by unfold maxLen; omega) (by omega) (by rw [size_alloc_]; have := hb8.size; omega) ?_; intro v1 w1 hown hgr _)
                  have hr1 := hq8.out.lt
                  have hb1 : Below w5.heap.size w5 w1 := (hb8.alloc hb8.size _).grown hgr (by rw [size_alloc_]; have := hb8.size; omega) (fun g hg => (hr1 g hg).1)
                  have hown2 : w1.ownsRow w5.heap.size 3 1 v1 (nextR d k a (nextT d k (reach d k) j) (u + 1)).length ((nextR d k a (nextT d k (reach d k) j) (u + 1)).map (.int .i64)) := by
                    rw [HS.out, if_pos ⟨h0, of_decide_eq_false HMM.out⟩]; simpa using hown
                  clear hown hgr
                  go_roundw
                  case rel => exact ⟨u + 1, v1, by omega, by go_num, rfl, hown2, hb1⟩
                  case measure => simp [intOf]; omega
                · have HMM := Lib.hid hmem
                  clear hmem
                  go_wp2_with fail
                  go_quiet (fail)
                  go_wp2_with fail
                  have hr8 : IntR (wr.drewN nq) (wr.drewN nq).heap.size A7 _ _ := hr7
                  refine (scontainsInt _ _ _ _ _ _ hr8).mono ?_
                  rw [HMM.out]
                  rintro e w' ⟨rfl, rfl⟩
                  go_wp2_with fail
                  go_roundw
                  case rel => exact ⟨u + 1, _, by omega, by go_num, rfl, by rw [HS.out, if_neg (fun h => h.2 (of_decide_eq_true HMM.out))]; exact hq9, below_drewN hb9 _⟩
                  case measure => simp [intOf]; omega
              · go_wp2_with fail
                go_quiet (fail)
                go_wp2_with fail
                go_roundw
                case rel => exact ⟨u + 1, _, by omega, by go_num, rfl, by rw [HS.out, if_neg (fun h => by have := h.1; omega)]; exact hq9, below_drewN hb9 _⟩
                case measure => simp [intOf]; omega
            · obtain rfl : u = 6 := by omega
              go_wp2_with fail
              go_roundw
              case rel => exact ⟨j + 1, v9, by omega, by go_num, rfl, by rw [HST.out]; exact hq9, hb9⟩
              case measure => simp [intOf]; omega
        · obtain rfl : j = nr := by omega
          have hlen := nextT_len d k (reach d k) j
          obtain ⟨A7, c7, rfl, hr7, -⟩ := IntR.of_own hq.out (by omega)
          go_wp2_with fail
          go_roundw
          case rel => exact ⟨k + 1, A7, c7, by omega, by go_num, by rw [reach, ← HNR.out], by rw [reach, ← HNR.out]; exact hr7, hb.trans (hbj.mono hsz5)⟩
          case measure => simp [intOf]; omega
    · obtain rfl : k = i := by omega
      have hrl := reach_len4 d (i := k) (by omega)
      have hrok := reach_ok HV.out k (by have := hl.out; omega)
      have HRK := Lib.hid hrok
      obtain ⟨nr, hnr⟩ : ∃ nr, nr = (reach d k).length := ⟨_, rfl⟩
      rw [← hnr] at hrl hq5 ⊢
      have hon : onF d k = outS d k (reach d k) nr := by rw [onF, hnr]
      have HON := Lib.hid hon
      have hsz5 := hb.size
      clear hrok hnr hon
      go_wp2_with fail
      go_loopw [11, 12] (fun t11 t12 wr => ∃ j : Nat, j ≤ nr ∧ t12 = .int .i64 j ∧ t11 = .int .i64 (outS d k (reach d k) j) ∧ Below w5.heap.size w5 wr) (fun _ t12 _ => nr - (intOf t12).toNat)
      case atStart => exact ⟨0, by omega, rfl, rfl, Below.refl _ _⟩
      case round =>
        obtain ⟨j, hj, rfl, rfl, hbj⟩ := hrel
        obtain ⟨w8, rfl⟩ : ∃ w8 : World, w8 = wr := ⟨_, rfl⟩
        by_cases hjl : j < nr
        · obtain ⟨bb, bo, nd, rfl, hbb, hnk, hcn⟩ := IntR.at_ hq5.out hjl
          obtain ⟨hn0, hn1⟩ := HRK.out nd (List.mem_of_getElem? hnk)
          obtain ⟨a, rfl⟩ : ∃ a : Nat, nd = (a : Int) := ⟨nd.toNat, by omega⟩
          rw [Int.toNat_natCast] at hn1
          have HN1 := Lib.hid hn1
          have hgd : ((reach d k)[j]?.getD 0).toNat = a := by rw [hnk]; rfl
          have hstep : outS d k (reach d k) (j + 1) = outR d k a true (outS d k (reach d k) j) 6 := by rw [outS, hgd]
          have HST := Lib.hid hstep
          have hos := outS_in d k (reach d k) j
          clear hn0 hn1 hnk hgd hstep
          generalize outS d k (reach d k) j = acc at *
          go_wp2_with fail
          go_loopw [11, 13] (fun t11 t13 wr => ∃ u : Nat, u ≤ 6 ∧ t13 = .int .i64 u ∧ t11 = .int .i64 (outR d k a true acc u) ∧ Below w5.heap.size w5 wr) (fun _ t13 _ => 6 - (intOf t13).toNat)
          case atStart => exact ⟨0, by omega, rfl, rfl, hbj⟩
          case round =>
            obtain ⟨u, hu6, rfl, rfl, hb9⟩ := hrel
            by_cases hul : u < 6
            · have hL9 := SlR.on (RowC.keeps (RowC.keeps IntC.keeps)) (RowC.widens (RowC.widens IntC.widens)) HH.out (hb.trans (hb9.mono hsz5))
              obtain ⟨ab, ao, A1, ll, c1, lb, lo, A2, c2, rb, ro, rfl, rfl, rfl, hal, hll, hc1, hc2, hc3⟩ := edge_at hL9 HV.out hi HN1.out hul
              have hcn9 := (hb9.cell (p := ⟨bb, bo + j, none⟩) hbb).trans hcn
              have hor := outR_in (d := d) (i := k) (a := a) (p := true) hos.1 hos.2 u (by omega)
              have hpw := wrap64_pow u hul
              have hp5 := pow_le5 u hul
              obtain ⟨x, hx⟩ : ∃ x, x = edge d k a u := ⟨_, rfl⟩
              have hsucc : outR d k a true acc (u + 1) = putB (true && liveE d k a u) (outR d k a true acc u) u := rfl
              have hlive : liveE d k a u = (decide (0 ≤ x) && decide (0 < cntAt d (k + 1) x.toNat)) := by rw [liveE, hx]
              rw [hlive, Bool.true_and] at hsucc
              have HS := Lib.hid hsucc
              have HX := Lib.hid hx
              have HL9 := Lib.hid hL9
              rw [← hx] at hc3
              clear hsucc hlive hx hL9
              generalize outR d k a true acc u = y at *
              have hk3 : k ≤ 3 := by omega
              by_cases h0 : 0 ≤ x
              · obtain ⟨a2, rfl⟩ : ∃ a2 : Nat, x = (a2 : Int) := ⟨x.toNat, by omega⟩
                rw [Int.toNat_natCast] at HS
                have HP := Lib.hid (fun W (hW : LayersR W W.heap.size (some ⟨ab, ao, none⟩) n d) => spathsFrom (some ⟨ab, ao, none⟩) n c d HV.out (n - (k + 1)) (k + 1) a2 W (by omega) (fun l2 h2 => by
                    obtain ⟨l3, r3, h3, h4, h5⟩ := edge_some (d := d) (i := k) (a := a) (v := u) (by rw [← HX.out]; omega)
                    have := (edge_ok HV.out h3 h4 h5 (by rw [← HX.out]; omega)).choose_spec.2.1 l2 h2
                    rw [← HX.out] at this
                    simpa using this) (fun h1 => by
                    obtain ⟨l3, r3, h3, h4, h5⟩ := edge_some (d := d) (i := k) (a := a) (v := u) (by rw [← HX.out]; omega)
                    have := (edge_ok HV.out h3 h4 h5 (by rw [← HX.out]; omega)).choose_spec.2.2 (by have := hl.out; omega)
                    rw [← HX.out] at this
                    omega) hW)
                by_cases hc : 0 < cntAt d (k + 1) a2
                · cases hh : hasB y u
                  · have hput : putB (decide (0 ≤ (a2 : Int)) && decide (0 < cntAt d (k + 1) a2)) y u = y + 2 ^ u := by
                      rw [decide_eq_true h0, decide_eq_true hc]; simp [putB, hh]
                    have HPU := Lib.hid hput
                    have HHB := Lib.hid (show dhB y (u : Int) = false by unfold dhB; rw [hh]; simp)
                    clear hput hh
                    go_wp2_with fail
                    go_quiet (fail)
                    go_wp2_with fail
                    refine (HP.out (wr.drewN nq) HL9.out).mono ?_
                    rintro e w' ⟨rfl, rfl⟩
                    go_wp2_with fail
                    refine (sdomainHas _ _ hor.1 _).mono ?_
                    rw [HHB.out]
                    rintro e w' ⟨rfl, rfl⟩
                    go_wp2_with fail
                    go_roundw
                    case rel => exact ⟨u + 1, by omega, by go_num, by rw [HS.out, HPU.out], below_drewN hb9 _⟩
                    case measure => simp [intOf]; omega
                  · have hput : putB (decide (0 ≤ (a2 : Int)) && decide (0 < cntAt d (k + 1) a2)) y u = y := by simp [putB, hh]
                    have HPU := Lib.hid hput
                    have HHB := Lib.hid (show dhB y (u : Int) = true by unfold dhB; rw [hh, inB_mk ⟨by omega, by omega⟩]; rfl)
                    clear hput hh
                    go_wp2_with fail
                    go_quiet (fail)
                    go_wp2_with fail
                    refine (HP.out (wr.drewN nq) HL9.out).mono ?_
                    rintro e w' ⟨rfl, rfl⟩
                    go_wp2_with fail
                    refine (sdomainHas _ _ hor.1 _).mono ?_
                    rw [HHB.out]
                    rintro e w' ⟨rfl, rfl⟩
                    go_wp2_with fail
                    go_roundw
                    case rel => exact ⟨u + 1, by omega, by go_num, by rw [HS.out, HPU.out], below_drewN hb9 _⟩
                    case measure => simp [intOf]; omega
                · have hput : putB (decide (0 ≤ (a2 : Int)) && decide (0 < cntAt d (k + 1) a2)) y u = y := by rw [decide_eq_false hc]; simp [putB]
                  have HPU := Lib.hid hput
                  clear hput
                  go_wp2_with fail
                  go_quiet (fail)
                  go_wp2_with fail
                  refine (HP.out (wr.drewN nq) HL9.out).mono ?_
                  rintro e w' ⟨rfl, rfl⟩
                  go_wp2_with fail
                  go_roundw
                  case rel => exact ⟨u + 1, by omega, by go_num, by rw [HS.out, HPU.out], below_drewN hb9 _⟩
                  case measure => simp [intOf]; omega
              · have hput : putB (decide (0 ≤ x) && decide (0 < cntAt d (k + 1) x.toNat)) y u = y := by rw [decide_eq_false h0]; simp [putB]
                have HPU := Lib.hid hput
                clear hput
                go_wp2_with fail
                go_quiet (fail)
                go_wp2_with fail
                go_roundw
                case rel => exact ⟨u + 1, by omega, by go_num, by rw [HS.out, HPU.out], below_drewN hb9 _⟩
                case measure => simp [intOf]; omega
            · obtain rfl : u = 6 := by omega
              go_wp2_with fail
              go_roundw
              case rel => exact ⟨j + 1, by omega, by go_num, by rw [HST.out], hb9⟩
              case measure => simp [intOf]; omega
        · obtain rfl : j = nr := by omega
          go_wp2_with fail
          go_ret
          exact ⟨ret_int HON.out.symm, hb.trans (hbj.mono hsz5)⟩
end Go.Proofs.Ytfmdgdamelkelaa
