/- The text of a domain: impl's encodeDomain, spec's formatDomain. -/
import Derived.Test.YtfoodlhfmcfjeaaDoorStrP
import Derived.Test.YtfoodlhfmcfjeaaDoorDom
import Derived.Test.YtfoodlhfmcfjeaaDoorInts
import Derived.Test.YtfoodlhfmcfjeaaDoorShelf
import Derived.Maps.AppendAt
import Derived.Laws.IdiomStrings
namespace Go.Proofs.YtfoodlhfmcfjeaaDoor
open Go.ChangeShapes Go.WideShapes Go.ChangeAt Go.RowKit
open Go.Shelf
set_option linter.unusedVariables false
set_option maxRecDepth 100000

theorem dig_cell (v : Nat) (hv : v < 10) : (((dig v)[0]'(by simp [dig])).toNat : Int) = 48 + (v : Int) := by
  have : (UInt8.ofNat (48 + v)).toNat = 48 + v := by rw [UInt8.toNat_ofNat']; omega
  show ((UInt8.ofNat (48 + v)).toNat : Int) = _
  rw [this]
  omega
theorem conv_dig (v : Nat) (hv : v < 10) (w : World) : (convert 40 9 (.slice (some ⟨w.heap.size, 0, none⟩) 1 1)).run Tryd.prog (w.alloc (.cells #[.int .u8 (48 + (v : Int))] 5)) = .ok ((.string (bs (dig v)))) (w.alloc (.cells #[.int .u8 (48 + (v : Int))] 5)) := by
  refine run_convert_bytes_back _ _ _ 5 _ 1 (dig v) Tryd.underlying40 Tryd.underlying5 Tryd.underlying9 ?_
  intro j hj
  have h1 : j < 1 := hj
  obtain rfl : j = 0 := by omega
  rw [dig_cell v hv]
  exact World.cell?_alloc_at _ _ _ _ rfl
set_option maxHeartbeats 1000000 in
theorem formatInt1 (v : Nat) (hv : v < 10) (w : World) :
    Calls Tryd.prog 45 #[.int .i64 v] w fun e w' => e = .returned ((.string (bs (dig v)))) ∧ Below w.heap.size w w' := by
  have h1 : decide ((v : Int) < -9223372036854775807) = false := decide_eq_false (by omega)
  have h2 : decide ((v : Int) < 0) = false := decide_eq_false (by omega)
  have h3 : decide ((v : Int) < 10) = true := decide_eq_true (by omega)
  have h3' : decide (v < 10) = true := decide_eq_true (by omega)
  have hcv := conv_dig v hv w
  go_enter Tryd.func45, Tryd.ntmps45
  go_wp2_with fail
  go_ret
  exact ⟨rfl, b_alloc _ _⟩
theorem dec_dig : ∀ v : Fin 10, Lib.decDigits v.val = dig v.val := by decide +kernel
theorem ihas_b (d v : Int) (b : Bool) (hb : hasB d v = b) (h0 : 0 ≤ d) (v0 : 0 ≤ v) (v1 : v ≤ 63) (w : World) :
    Calls Tryd.prog 34 #[.int .i64 d, .int .i64 v] w fun e w' => e = .returned (.bool b) ∧ w = w' := by
  subst hb; exact ihas d v h0 v0 v1 w
theorem itoa1 (v : Nat) (hv : v < 10) (w : World) : Calls Tryd.prog 35 #[.int .i64 v] w fun e w' => e = .returned ((.string (bs (dig v)))) ∧ w' = w :=
  (Tryd.strconv_Itoa_small v (by omega) w).mono fun e w' ⟨he, hw⟩ => ⟨by rw [he, dec_dig ⟨v, hv⟩]; rfl, hw⟩
theorem parts_ne : ∀ d : Fin 64, (d.val : Int) ≠ 0 → partsF d.val 6 0 ≠ [] := by decide +kernel
theorem enc_len' {d : Int} (h0 : 0 ≤ d) (h1 : d ≤ 63) : (encF d).length ≤ 64 := by
  have := (enc_len ⟨d.toNat, by omega⟩).1
  rwa [show ((⟨d.toNat, by omega⟩ : Fin 64).val : Int) = d by show ((d.toNat : Nat) : Int) = d; omega] at this
theorem parts_ne' {d : Int} (h0 : 0 < d) (h1 : d ≤ 63) : partsF d 6 0 ≠ [] := by
  have := parts_ne ⟨d.toNat, by omega⟩
  rw [show ((⟨d.toNat, by omega⟩ : Fin 64).val : Int) = d by show ((d.toNat : Nat) : Int) = d; omega] at this
  exact this (by omega)
theorem runE_yes {d : Int} {v e : Nat} (he : v ≤ e) (hv : v ≤ 5) (h : runE d (5 - e) e = runE d (5 - v) v) (h5 : e < 5) (hb : hasB d ((e + 1 : Nat) : Int) = true) : runE d (5 - (e + 1)) (e + 1) = runE d (5 - v) v := by
  rw [← h, show 5 - e = (5 - (e + 1)) + 1 by omega]
  conv => rhs; unfold runE
  rw [if_pos ⟨h5, hb⟩]
theorem runE_no {d : Int} {v e : Nat} (h : runE d (5 - e) e = runE d (5 - v) v) (hb : e < 5 → hasB d ((e + 1 : Nat) : Int) = false) : runE d (5 - v) v = e := by
  rw [← h]
  by_cases h5 : e < 5
  · rw [show 5 - e = (5 - (e + 1)) + 1 by omega]
    unfold runE
    rw [if_neg (by rw [hb h5]; simp)]
  · rw [show 5 - e = 0 by omega]; rfl
theorem partsF_yes {d : Int} {v e : Nat} (hv : v < 6) (hb : hasB d (v : Int) = true) (he : runE d (5 - v) v = e) : partsF d 6 v = runT v e :: partsF d 6 (e + 1) := by
  have h1 := (runE_le d (5 - v) v).1
  have : partsF d 6 v = runT v (runE d (5 - v) v) :: partsF d 5 (runE d (5 - v) v + 1) := by
    conv => lhs; unfold partsF
    rw [if_pos hv, if_pos hb]
  rw [this, he, partsF_fuel d 5 6 (e + 1) (by omega) (by omega)]
theorem partsF_no {d : Int} {v : Nat} (hv : v < 6) (hb : hasB d (v : Int) = false) : partsF d 6 v = partsF d 6 (v + 1) := by
  have : partsF d 6 v = partsF d 5 (v + 1) := by
    conv => lhs; unfold partsF
    rw [if_pos hv, if_neg (by rw [hb]; simp)]
  rw [this, partsF_fuel d 5 6 (v + 1) (by omega) (by omega)]
theorem bs_app (a b : List UInt8) : bs a ++ bs b = bs (a ++ b) := by
  apply ByteArray.ext
  simp [bs]
set_option maxHeartbeats 1500000 in
theorem encode (d : Int) (h0 : 0 ≤ d) (h1 : d ≤ 63) (w : World) :
    Calls Tryd.prog 17 #[.int .i64 d] w fun e w' => e = .returned ((.string (bs (encF d)))) ∧ Below w.heap.size w w' := by
  obtain ⟨i0, hi0, hz0, hz1, hz2⟩ := info_parts (P := Tryd.prog) (e := 9) (z := .string ByteArray.empty) (size := 1) (bytes := 16) (by kernel_rfl)
  by_cases hd : d = 0
  · subst hd
    go_enter Tryd.func17, Tryd.ntmps17
    go_wp2_with fail
    go_ret
    exact ⟨rfl, Below.refl _ _⟩
  have hd0 : (d == 0) = false := by simpa using hd
  have HE := Lib.hid (show encF d = Lib.join (partsF d 6 0) [44] from by unfold encF; rw [if_neg hd])
  have HL := Lib.hid (enc_len' h0 h1)
  have HN := Lib.hid (parts_ne' (by omega) h1)
  clear hd
  go_enter Tryd.func17, Tryd.ntmps17
  go_wp2_with fail
  have ho : (w.alloc (.cells #[] 9)).ownsRow w.heap.size 9 1 (.slice (some ⟨w.heap.size, 0, none⟩) 0 0) 0 [] := World.ownsRow_lit w #[] 0 (Nat.le_refl _) (by decide) rfl
  have hb0 : Below w.heap.size w (w.alloc (.cells #[] 9)) := b_alloc _ _
  go_loopw [3, 4] (fun v i wr => ∃ (k : Nat) (v' : Value) (acc : List (List UInt8)), k ≤ 6 ∧ i = .int .i64 k ∧ v' = v ∧ Hid (wr.ownsRow w.heap.size 9 1 v' acc.length (acc.map fun l => .string (bs l))) ∧ Hid (acc ++ partsF d 6 k = partsF d 6 0) ∧ acc.length ≤ k ∧ Below w.heap.size w wr) (fun _ i _ => 6 - (intOf i).toNat)
  case atStart => exact ⟨0, _, [], by omega, rfl, rfl, ho, rfl, by simp, hb0⟩
  case round =>
    obtain ⟨k, v, acc, hk, rfl, rfl, hq, hp, hal, hb⟩ := hrel
    clear ho hb0
    rename World => wr
    by_cases hlt : k < 6
    · cases hh : hasB d k
      · have HP := Lib.hid (partsF_no hlt hh)
        have HH := Lib.hid hh
        clear hh
        go_wp2_with fail
        refine (ihas_b _ _ _ HH.out h0 (by omega) (by omega) _).mono ?_
        rintro e w1 ⟨rfl, rfl⟩
        go_wp2_with fail
        go_roundw
        case rel => exact ⟨k + 1, v, acc, by omega, by go_num, rfl, hq, Lib.hid (by rw [← HP.out]; exact hp.out), by omega, hb⟩
        case measure => simp [intOf]; omega
      · have HH := Lib.hid hh
        clear hh
        go_wp2_with fail
        refine (ihas_b _ _ _ HH.out h0 (by omega) (by omega) _).mono ?_
        rintro e w1 ⟨rfl, rfl⟩
        go_wp2_with fail
        go_loop [5] (fun i => ∃ e : Nat, k ≤ e ∧ e ≤ 5 ∧ i = .int .i64 e ∧ Hid (runE d (5 - e) e = runE d (5 - k) k)) (fun i => 5 - (intOf i).toNat)
        case atStart => exact ⟨k, Nat.le_refl _, by omega, rfl, rfl⟩
        case round =>
          obtain ⟨e, he, he5, rfl, hr⟩ := hrel
          by_cases h5 : e < 5
          · cases hx : hasB d ((e : Int) + 1)
            · have HX := Lib.hid hx
              clear hx
              go_wp2_with fail
              refine (ihas_b _ _ _ HX.out h0 (by omega) (by omega) _).mono ?_
              rintro e w1 ⟨rfl, rfl⟩
              go_wp2_with fail
              have HR := Lib.hid (runE_no hr.out (fun _ => HX.out))
              clear hr
              refine (itoa1 k (by omega) _).mono ?_
              rintro e1 w1 ⟨rfl, rfl⟩
              by_cases hke : k < e
              · have hg1 : decide ((k : Int) < (e : Int)) = true := decide_eq_true (by omega)
                have hg2 : decide (k < e) = true := decide_eq_true hke
                go_wp2_with fail
                refine (itoa1 e (by omega) _).mono ?_
                rintro e1 w1 ⟨rfl, rfl⟩
                have hT : Hid (bs (dig k) ++ (⟨#[45]⟩ ++ bs (dig e)) = bs (runT k e)) := Lib.hid (by unfold runT; rw [if_pos hke, show (⟨#[45]⟩ : ByteArray) = bs [45] from rfl, bs_app, bs_app])
                have hlT : (runT k e).length ≤ 3 := by unfold runT; split <;> simp [dig]
                go_wp2_with (at_builtin; refine wpList_append_own _ rfl _ _ 64 rfl w.heap.size 9 i0 (.string ByteArray.empty) 1 16 Tryd.underlying64 hi0 hz0 hz1 hz2 rfl (by decide) v _ _ rfl (hq.out.alloc _) ⟨w1.heap.size, 0, none⟩ 1 1 [.string (bs (dig k) ++ (⟨#[45]⟩ ++ bs (dig e)))] rfl rfl (cell_one_new _ _ _) (by simp [Value.oneCell']) (by unfold maxLen; omega) (by omega) (by rw [size_alloc_]; have := hb.size; omega) ?_; intro v4 w4 hown hgr _)
                have hzz := hb.size
                have hbw : Below w.heap.size w w4 := (hb.alloc hzz _).grown hgr (by rw [size_alloc_]; omega) (fun g hg => (hq.out.lt g hg).1)
                have hown2 : w4.ownsRow w.heap.size 9 1 v4 (acc ++ [runT k e]).length ((acc ++ [runT k e]).map fun l => .string (bs l)) := by rw [List.length_append, List.map_append, List.map_singleton, ← hT.out]; exact hown
                go_roundw
                case rel => exact ⟨e + 1, v4, acc ++ [runT k e], by omega, by go_num, rfl, hown2, Lib.hid (by rw [List.append_assoc, List.singleton_append, ← partsF_yes hlt HH.out HR.out]; exact hp.out), by rw [List.length_append]; simp; omega, hbw⟩
                case measure => simp [intOf]; omega
              · have hg1 : decide ((k : Int) < (e : Int)) = false := decide_eq_false (by omega)
                have hg2 : decide (k < e) = false := decide_eq_false hke
                have hT : Hid (bs (dig k) = bs (runT k e)) := Lib.hid (by unfold runT; rw [if_neg hke])
                have hlT : (runT k e).length ≤ 3 := by unfold runT; split <;> simp [dig]
                go_wp2_with (at_builtin; refine wpList_append_own _ rfl _ _ 64 rfl w.heap.size 9 i0 (.string ByteArray.empty) 1 16 Tryd.underlying64 hi0 hz0 hz1 hz2 rfl (by decide) v _ _ rfl (hq.out.alloc _) ⟨w1.heap.size, 0, none⟩ 1 1 [.string (bs (dig k))] rfl rfl (cell_one_new _ _ _) (by simp [Value.oneCell']) (by unfold maxLen; omega) (by omega) (by rw [size_alloc_]; have := hb.size; omega) ?_; intro v4 w4 hown hgr _)
                have hzz := hb.size
                have hbw : Below w.heap.size w w4 := (hb.alloc hzz _).grown hgr (by rw [size_alloc_]; omega) (fun g hg => (hq.out.lt g hg).1)
                have hown2 : w4.ownsRow w.heap.size 9 1 v4 (acc ++ [runT k e]).length ((acc ++ [runT k e]).map fun l => .string (bs l)) := by rw [List.length_append, List.map_append, List.map_singleton, ← hT.out]; exact hown
                go_roundw
                case rel => exact ⟨e + 1, v4, acc ++ [runT k e], by omega, by go_num, rfl, hown2, Lib.hid (by rw [List.append_assoc, List.singleton_append, ← partsF_yes hlt HH.out HR.out]; exact hp.out), by rw [List.length_append]; simp; omega, hbw⟩
                case measure => simp [intOf]; omega
            · have HX := Lib.hid hx
              clear hx
              go_wp2_with fail
              refine (ihas_b _ _ _ HX.out h0 (by omega) (by omega) _).mono ?_
              rintro e1 w1 ⟨rfl, rfl⟩
              go_wp2_with fail
              go_round
              case rel => exact ⟨e + 1, by omega, by omega, by go_num, Lib.hid (runE_yes he (by omega) hr.out h5 HX.out)⟩
              case measure => simp [intOf]; omega
          · have hf1 : decide ((e : Int) < 5) = false := decide_eq_false (by omega)
            have hf2 : decide (e < 5) = false := decide_eq_false h5
            have HR := Lib.hid (runE_no hr.out (fun h => absurd h h5))
            clear hr h5
            go_wp2_with fail
            refine (itoa1 k (by omega) _).mono ?_
            rintro e1 w1 ⟨rfl, rfl⟩
            by_cases hke : k < e
            · have hg1 : decide ((k : Int) < (e : Int)) = true := decide_eq_true (by omega)
              have hg2 : decide (k < e) = true := decide_eq_true hke
              go_wp2_with fail
              refine (itoa1 e (by omega) _).mono ?_
              rintro e1 w1 ⟨rfl, rfl⟩
              have hT : Hid (bs (dig k) ++ (⟨#[45]⟩ ++ bs (dig e)) = bs (runT k e)) := Lib.hid (by unfold runT; rw [if_pos hke, show (⟨#[45]⟩ : ByteArray) = bs [45] from rfl, bs_app, bs_app])
              have hlT : (runT k e).length ≤ 3 := by unfold runT; split <;> simp [dig]
              go_wp2_with (at_builtin; refine wpList_append_own _ rfl _ _ 64 rfl w.heap.size 9 i0 (.string ByteArray.empty) 1 16 Tryd.underlying64 hi0 hz0 hz1 hz2 rfl (by decide) v _ _ rfl (hq.out.alloc _) ⟨w1.heap.size, 0, none⟩ 1 1 [.string (bs (dig k) ++ (⟨#[45]⟩ ++ bs (dig e)))] rfl rfl (cell_one_new _ _ _) (by simp [Value.oneCell']) (by unfold maxLen; omega) (by omega) (by rw [size_alloc_]; have := hb.size; omega) ?_; intro v4 w4 hown hgr _)
              have hzz := hb.size
              have hbw : Below w.heap.size w w4 := (hb.alloc hzz _).grown hgr (by rw [size_alloc_]; omega) (fun g hg => (hq.out.lt g hg).1)
              have hown2 : w4.ownsRow w.heap.size 9 1 v4 (acc ++ [runT k e]).length ((acc ++ [runT k e]).map fun l => .string (bs l)) := by rw [List.length_append, List.map_append, List.map_singleton, ← hT.out]; exact hown
              go_roundw
              case rel => exact ⟨e + 1, v4, acc ++ [runT k e], by omega, by go_num, rfl, hown2, Lib.hid (by rw [List.append_assoc, List.singleton_append, ← partsF_yes hlt HH.out HR.out]; exact hp.out), by rw [List.length_append]; simp; omega, hbw⟩
              case measure => simp [intOf]; omega
            · have hg1 : decide ((k : Int) < (e : Int)) = false := decide_eq_false (by omega)
              have hg2 : decide (k < e) = false := decide_eq_false hke
              have hT : Hid (bs (dig k) = bs (runT k e)) := Lib.hid (by unfold runT; rw [if_neg hke])
              have hlT : (runT k e).length ≤ 3 := by unfold runT; split <;> simp [dig]
              go_wp2_with (at_builtin; refine wpList_append_own _ rfl _ _ 64 rfl w.heap.size 9 i0 (.string ByteArray.empty) 1 16 Tryd.underlying64 hi0 hz0 hz1 hz2 rfl (by decide) v _ _ rfl (hq.out.alloc _) ⟨w1.heap.size, 0, none⟩ 1 1 [.string (bs (dig k))] rfl rfl (cell_one_new _ _ _) (by simp [Value.oneCell']) (by unfold maxLen; omega) (by omega) (by rw [size_alloc_]; have := hb.size; omega) ?_; intro v4 w4 hown hgr _)
              have hzz := hb.size
              have hbw : Below w.heap.size w w4 := (hb.alloc hzz _).grown hgr (by rw [size_alloc_]; omega) (fun g hg => (hq.out.lt g hg).1)
              have hown2 : w4.ownsRow w.heap.size 9 1 v4 (acc ++ [runT k e]).length ((acc ++ [runT k e]).map fun l => .string (bs l)) := by rw [List.length_append, List.map_append, List.map_singleton, ← hT.out]; exact hown
              go_roundw
              case rel => exact ⟨e + 1, v4, acc ++ [runT k e], by omega, by go_num, rfl, hown2, Lib.hid (by rw [List.append_assoc, List.singleton_append, ← partsF_yes hlt HH.out HR.out]; exact hp.out), by rw [List.length_append]; simp; omega, hbw⟩
              case measure => simp [intOf]; omega
    · obtain rfl : k = 6 := by omega
      have hE : Lib.join acc [44] = encF d := by rw [HE.out, ← hp.out, partsF_done d 6 6 (by omega), List.append_nil]
      have hA : acc ≠ [] := fun h => HN.out (by rw [← hp.out, partsF_done d 6 6 (by omega), List.append_nil, h])
      have hA0 : acc.length ≠ 0 := fun h => hA (List.length_eq_zero_iff.1 h)
      obtain ⟨gb, cb, rfl, hgb, hcap⟩ : ∃ gb cb : Nat, v = .slice (some ⟨gb, 0, none⟩) acc.length cb ∧ gb < wr.heap.size ∧ acc.length ≤ cb := by
        rcases hq.out.2 with ⟨_, h⟩ | ⟨g, cap, cur, hv, hgd, hhp, hn, _⟩
        · exact absurd h hA0
        · exact ⟨g, cap, hv, (hq.out.lt g (by rw [hv]; rfl)).2, hn⟩
      have hcells : ∀ (j : Nat) x, (acc.map fun l => (⟨l.toArray⟩ : ByteArray))[j]? = some x → wr.cell? ⟨gb, 0 + j, none⟩ = some (.string x) := by
        intro j x hj
        rw [List.getElem?_map] at hj
        cases hj2 : acc[j]? with
        | none => rw [hj2] at hj; cases hj
        | some l =>
          rw [hj2] at hj
          injection hj with hj
          have hjl := (List.getElem?_eq_some_iff.1 hj2).1
          rw [Nat.zero_add, hq.out.cellAt j (by omega), List.getElem?_map, hj2, ← hj]
          rfl
      have hmm : (acc.map fun l => (⟨l.toArray⟩ : ByteArray)).map (·.data.toList) = acc := by rw [List.map_map]; exact (List.map_congr_left fun l _ => by simp).trans (List.map_id _)
      have HJ := Lib.hid (Tryd.strings_Join gb 0 cb (acc.map fun l => (⟨l.toArray⟩ : ByteArray)) ⟨#[44]⟩ wr hcells hgb (by rw [List.length_map]; omega) (by rw [List.length_map]; exact hcap) (by rw [hmm]; show (Lib.join acc [44]).length ≤ _; rw [hE]; have := HL.out; omega))
      rw [hmm, List.length_map, show (#[44] : Array UInt8).toList = [44] from rfl, hE] at HJ
      clear hcells hmm hE hA
      go_wp2_with fail
      refine HJ.out.mono ?_
      rintro e w1 ⟨rfl, hb1⟩
      go_wp2_with fail
      go_ret
      exact ⟨rfl, hb.trans (hb1.mono hb.size)⟩
end Go.Proofs.YtfoodlhfmcfjeaaDoor
