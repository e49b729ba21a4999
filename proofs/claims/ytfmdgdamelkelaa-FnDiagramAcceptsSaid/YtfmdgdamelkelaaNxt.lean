/- spec's nextLayer. -/
import Derived.Test.YtfmdgdamelkelaaSuf
import Derived.Test.YtfmdgdamelkelaaHold
namespace Go.Proofs.Ytfmdgdamelkelaa
open Go.ChangeShapes Go.WideShapes Go.ChangeAt Go.RowKit
open Go.Shelf
set_option linter.unusedVariables false
set_option maxRecDepth 100000
variable {L0 : Nat → Prop}
attribute [local go_sem] Oper.semAt_some

/-- the edges so far. -/
def rowTo (nx : List (List (List Int))) (L : List (List Int)) (v : Nat) : List Int := (List.range v).map fun u => toG nx (chS L u)
theorem rowTo_len (nx : List (List (List Int))) (L : List (List Int)) (v : Nat) : (rowTo nx L v).length = v := by simp [rowTo]
theorem rowTo_succ (nx : List (List (List Int))) (L : List (List Int)) (v : Nat) : rowTo nx L (v + 1) = rowTo nx L v ++ [toG nx (chS L v)] := by simp [rowTo, List.range_succ]
section
variable {lay : List (List (List Int))} {L : List (List Int)} {i v : Nat}
/-- no tuple goes on so. -/
theorem way_no (hL : lay[i]? = some L) (hv : v < 6) (hr : sufF ((v : Nat) : Int) L = []) : nxV chS L (nxL chS lay i) (v + 1) = nxV chS L (nxL chS lay i) v ∧ rowTo (nextS lay) L (v + 1) = rowTo (nextS lay) L v ++ [-1] := by
  have h : chS L v = none := by unfold chS; rw [if_pos hr]
  refine ⟨by rw [nxV, h, addO], by rw [rowTo_succ, h]; rfl⟩
/-- a node that is there. -/
theorem way_old (hL : lay[i]? = some L) (hv : v < 6) (hr : sufF ((v : Nat) : Int) L ≠ []) {j : Nat} (hf : fnd (nxV chS L (nxL chS lay i) v) (sufF ((v : Nat) : Int) L) (nxV chS L (nxL chS lay i) v).length = (j : Int)) :
    nxV chS L (nxL chS lay i) (v + 1) = nxV chS L (nxL chS lay i) v ∧ rowTo (nextS lay) L (v + 1) = rowTo (nextS lay) L v ++ [(j : Int)] := by
  have h : chS L v = some (sufF ((v : Nat) : Int) L) := by unfold chS; rw [if_neg hr]
  have hm : sufF ((v : Nat) : Int) L ∈ nxV chS L (nxL chS lay i) v := by
    rcases fnd_cases (nxV chS L (nxL chS lay i) v) (sufF ((v : Nat) : Int) L) (nxV chS L (nxL chS lay i) v).length with ⟨h1, -⟩ | ⟨k, -, -, h3⟩
    · rw [h1] at hf; omega
    · exact List.mem_of_getElem? h3
  have h2 : nxV chS L (nxL chS lay i) (v + 1) = nxV chS L (nxL chS lay i) v := by rw [nxV, h, addO, if_pos hm]
  refine ⟨h2, ?_⟩
  have hs := toG_step chS lay hL hv
  rw [rowTo_succ]
  show _ = _
  rw [show toG (nextS lay) (chS L v) = (j : Int) from by
    show toG (nxL chS lay lay.length) (chS L v) = _
    rw [← hs, h2, h]
    exact hf]
/-- a new node. -/
theorem way_new (hL : lay[i]? = some L) (hv : v < 6) (hr : sufF ((v : Nat) : Int) L ≠ []) (hf : fnd (nxV chS L (nxL chS lay i) v) (sufF ((v : Nat) : Int) L) (nxV chS L (nxL chS lay i) v).length = -1) :
    nxV chS L (nxL chS lay i) (v + 1) = nxV chS L (nxL chS lay i) v ++ [sufF ((v : Nat) : Int) L] ∧ rowTo (nextS lay) L (v + 1) = rowTo (nextS lay) L v ++ [(((nxV chS L (nxL chS lay i) v).length : Nat) : Int)] := by
  have h : chS L v = some (sufF ((v : Nat) : Int) L) := by unfold chS; rw [if_neg hr]
  have hm : sufF ((v : Nat) : Int) L ∉ nxV chS L (nxL chS lay i) v := by
    intro hm
    obtain ⟨j, -, h2, -⟩ := fnd_some hm
    rw [h2] at hf; omega
  have h2 : nxV chS L (nxL chS lay i) (v + 1) = nxV chS L (nxL chS lay i) v ++ [sufF ((v : Nat) : Int) L] := by rw [nxV, h, addO, if_neg hm]
  refine ⟨h2, ?_⟩
  have hs := toG_step chS lay hL hv
  rw [rowTo_succ]
  rw [show toG (nextS lay) (chS L v) = (((nxV chS L (nxL chS lay i) v).length : Nat) : Int) from by
    show toG (nxL chS lay lay.length) (chS L v) = _
    rw [← hs, h2, h]
    show fnd _ _ _ = _
    rw [List.length_append, List.length_singleton, fnd, if_pos (by simp)]]
theorem nx_len (lay : List (List (List Int))) (L : List (List Int)) (i v : Nat) : (nxV chS L (nxL chS lay i) v).length ≤ 6 * i + v :=
  Nat.le_trans (nxV_len chS L _ v) (by have := nxL_len chS lay i; omega)
end
theorem RowK.row_ (w : World) (B : Nat) (u : Value) (x : List Int) (h : (RowK L0) w B u x) : RowC IntC w B u x := h.row
theorem SlR.mono_ {α : Type} {R S : World → Nat → Value → α → Prop} (hRS : ∀ w B u x, R w B u x → S w B u x) {w : World} {B n : Nat} {A : Option Addr} {xs : List α} (h : SlR R w B A n xs) : SlR S w B A n xs := by
  obtain ⟨h1, h2, h3⟩ := h
  refine ⟨h1, h2, fun hn => ?_⟩
  obtain ⟨b, o, e, hb, k⟩ := h3 hn
  refine ⟨b, o, e, hb, fun i x hx => ?_⟩
  obtain ⟨u, hu, hr⟩ := k i x hx
  exact ⟨u, hu, hRS _ _ _ _ hr⟩
theorem RestB.lt_ {lo base : Nat} {W : World} {u : Value} {r : List (List Int)} {b : Nat} (h : RestB L0 lo base W u r) (hb : u.ownBlock = some b) : base ≤ b := by
  obtain ⟨us, -, h2, -⟩ := h
  exact (own_lt h2 hb).1
theorem HoldR.some_of_own {w : World} {base n size : Nat} {e : TypeId} {v : Value} {xs : List Value} (hn : 0 < n) (h : w.ownsRow base e size v n xs) : ∃ g c, v = .slice (some ⟨g, 0, none⟩) n c ∧ base ≤ g ∧ g < w.heap.size := by
  rcases h.2 with ⟨-, h0⟩ | ⟨b, cap, cur, rfl, h1, h2, -⟩
  · omega
  · exact ⟨b, cap, rfl, h1, (Array.getElem?_eq_some_iff.1 h2).1⟩
set_option maxHeartbeats 16000000 in
theorem snextLayer (A : Option Addr) (n c : Nat) (lay : List (List (List Int))) (w : World) (h : SlR (RowC (RowK L0)) w w.heap.size A n lay) (hne : ∀ L ∈ lay, L.length ≤ 100000 ∧ ∀ t ∈ L, t ≠ []) (hn : n ≤ 5000) :
    Calls Try.prog 48 #[.slice A n c] w fun e w' => ∃ (ev vn : Value) (gs : List Nat), e = .returned (.tuple #[ev, vn]) ∧ RowsAt w' w.heap.size ev (lay.map (rowG chS (nextS lay))) gs ∧ gs.Nodup ∧ NextU L0 w.heap.size ev w' vn (nextS lay) ∧ Below w.heap.size w w' := by
  obtain ⟨i1, hi1, hy0, hy1, hy2⟩ := info_parts (P := Try.prog) (e := 22) (z := .slice none 0 0) (size := 1) (bytes := 24) (by kernel_rfl)
  obtain ⟨i2, hi2, hx0, hx1, hx2⟩ := info_parts (P := Try.prog) (e := 23) (z := .slice none 0 0) (size := 1) (bytes := 24) (by kernel_rfl)
  obtain ⟨i0, hi0, hz0, hz1, hz2⟩ := info_parts info_int
  have HL := Lib.hid h.len
  have HA := Lib.hid h
  have HNE := Lib.hid hne
  have hr0 : RowsAt ((w.alloc (.cells #[] 22)).alloc (.cells #[] 23)) w.heap.size (.slice (some ⟨w.heap.size, 0, none⟩) 0 0) [] [] :=
    RowsAt.nil (own_below (World.ownsRow_lit w #[] 0 (Nat.le_refl _) (by decide) rfl) (b_alloc _ _))
  have hn0 : NextU L0 w.heap.size (.slice (some ⟨w.heap.size, 0, none⟩) 0 0) ((w.alloc (.cells #[] 22)).alloc (.cells #[] 23)) (.slice (some ⟨w.heap.size + 1, 0, none⟩) 0 0) [] :=
    ⟨[], rfl, by
      have := World.ownsRow_lit (w.alloc (.cells #[] 22)) (e := 23) (size := 1) #[] 0 (Nat.le_refl _) (by decide) rfl
      rw [size_alloc_] at this
      exact own_base this (by omega), by simp, fun i u x hu => by simp at hu⟩
  have HR0 := Lib.hid hr0
  have HN0 := Lib.hid hn0
  clear h hne hr0 hn0
  go_enter Try.func48, Try.ntmps48
  go_wp2_with fail
  go_loopw [4, 5, 6] (fun t4 t5 t6 wr => ∃ (i : Nat) (ev vn : Value) (gs : List Nat), i ≤ n ∧ t6 = .int .i64 i ∧ ev = t4 ∧ vn = t5 ∧ Hid (RowsAt wr w.heap.size ev ((lay.take i).map (rowG chS (nextS lay))) gs ∧ gs.Nodup) ∧ Hid (NextU L0 w.heap.size ev wr vn (nxL chS lay i)) ∧ Below w.heap.size w wr) (fun _ _ t6 _ => n - (intOf t6).toNat)
  case atStart => exact ⟨0, _, _, [], by omega, rfl, rfl, rfl, Lib.hid ⟨HR0.out, List.nodup_nil⟩, HN0, (b_alloc _ _).trans ((b_alloc _ _).mono (by simp))⟩
  case round =>
    obtain ⟨i, ev, vn, gs, hi, rfl, rfl, rfl, hr, hnx, hb⟩ := hrel
    clear HR0 HN0
    rename World => wo
    have hbs := hb.size
    by_cases hlt : i < n
    · obtain ⟨ab, ao, L, u, rfl, hab, hLk, hcL, A1, c1, rfl, hL1⟩ := SlR.at_ HA.out hlt
      have HLK := Lib.hid hLk
      have HL1 := Lib.hid hL1
      have HCL := Lib.hid hcL
      have hLm := HNE.out L (List.mem_of_getElem? hLk)
      have HLM := Lib.hid hLm.2
      have hL5 := hLm.1
      have hal0 : Below wo.heap.size wo (wo.alloc (.cells #[] 3)) := b_alloc _ _
      have HR1 := Lib.hid (hr.out.1.below hal0)
      have HN1 := Lib.hid (hnx.out.below hbs hal0)
      have HND := Lib.hid hr.out.2
      have HEV : Hid (∀ b, ev.ownBlock = some b → b < wo.heap.size) := Lib.hid (fun b hb => by
        obtain ⟨-, rs, -, h3, -⟩ := hr.out.1
        exact (own_lt h3 hb).2)
      have HGL := Lib.hid (fun g hg => (hr.out.1.lt g hg).2)
      have HO1 : Hid ((wo.alloc (.cells #[] 3)).ownsRow wo.heap.size 3 1 (.slice (some ⟨wo.heap.size, 0, none⟩) 0 0) 0 ((rowTo (nextS lay) L 0).map (.int .i64))) := Lib.hid (World.ownsRow_lit wo #[] 0 (Nat.le_refl _) (by decide) rfl)
      have hB1 := hb.trans (hal0.mono hbs)
      clear hLk hL1 hcL hLm hal0 hr hnx
      go_wp2_with fail
      go_loopw [5, 7, 8] (fun t5 t7 t8 wr => ∃ (v : Nat) (vn ov : Value), v ≤ 6 ∧ t8 = .int .i64 v ∧ vn = t5 ∧ ov = t7 ∧ Hid (RowsAt wr w.heap.size ev ((lay.take i).map (rowG chS (nextS lay))) gs) ∧ Hid (NextU L0 w.heap.size ev wr vn (nxV chS L (nxL chS lay i) v)) ∧ Hid (wr.ownsRow wo.heap.size 3 1 ov v ((rowTo (nextS lay) L v).map (.int .i64))) ∧ Below w.heap.size w wr ∧ wo.heap.size ≤ wr.heap.size) (fun _ _ t8 _ => 6 - (intOf t8).toNat)
      case atStart => exact ⟨0, _, _, by omega, rfl, rfl, rfl, HR1, HN1, HO1, hB1, by simp⟩
      case round =>
        obtain ⟨v, vn, ov, hv, rfl, rfl, rfl, hr, hnx, hov, hb2, hw2⟩ := hrel
        clear HR1 HN1 HO1 hB1
        rename World => w2
        have hbs2 := hb2.size
        by_cases hlt2 : v < 6
        · have t6 : decide ((v : Int) ≤ 5) = true := decide_eq_true (by omega)
          have hcL2 : w2.cell? ⟨ab, ao + i, none⟩ = some (.slice A1 L.length c1) := (hb2.cell (p := ⟨ab, _, none⟩) hab).trans HCL.out
          have hcall := ssuffixes A1 L.length c1 w.heap.size (v : Int) L w2 (HL1.out.below RowK.keeps hb2) hbs2 HLM.out hL5
          have HC := Lib.hid hcall
          clear hcall
          go_wp2_with fail
          refine HC.out.mono ?_
          rintro e w3 ⟨u, rfl, hu, hb3⟩
          have hz3 := hb3.size
          obtain ⟨r, hre⟩ : ∃ r, sufF ((v : Nat) : Int) L = r := ⟨_, rfl⟩
          obtain ⟨nx, hnxe⟩ : ∃ nx, nxV chS L (nxL chS lay i) v = nx := ⟨_, rfl⟩
          have hnl : nx.length ≤ 6 * i + v := by rw [← hnxe]; exact nx_len lay L i v
          have HRE := Lib.hid hre
          have HNX := Lib.hid hnxe
          rw [hre] at hu
          have HU := Lib.hid hu
          have HR3 := Lib.hid (hr.out.below hb3)
          have HN3 : Hid (NextU L0 w.heap.size ev w3 vn nx) := Lib.hid (by rw [← hnxe]; exact hnx.out.below hbs2 hb3)
          have HO3 := Lib.hid (own_below hov.out hb3)
          have hB3 := hb2.trans (hb3.mono hbs2)
          obtain ⟨A3, c3, rfl, hR3⟩ := RestO.read (hu.rest hbs2)
          have HRR := Lib.hid (SlR.mono_ RowK.row_ hR3)
          obtain ⟨A4, c4, rfl, hN4⟩ := HN3.out.read
          have HN4 := Lib.hid hN4
          clear hu hN4 hR3 hcL2 HC hr hnx hov hb3 hre hnxe
          by_cases hrn : r = []
          · subst hrn
            have HW := Lib.hid (way_no (lay := lay) HLK.out hlt2 HRE.out)
            rw [HNX.out] at HW
            simp only [List.length_nil]
            go_wp2_with fail
            go_loopw [10, 11] (fun t10 t11 wr => t11 = .int .i64 (0 : Nat) ∧ t10 = .int .i64 (-1) ∧ wr = w3) (fun _ _ _ => 0)
            case atStart => exact ⟨rfl, rfl, rfl⟩
            case round =>
              obtain ⟨rfl, rfl, rfl⟩ := hrel
              by_cases hkk : 0 < nx.length
              · have hal : Below wr.heap.size wr (wr.alloc (.cells #[.int .i64 (-1)] 3)) := b_alloc _ _
                have ho := own_below HO3.out hal
                have hzwr : wo.heap.size ≤ wr.heap.size := by omega
                have hlowr : w.heap.size ≤ wr.heap.size := hB3.size
                go_wp2_with (at_builtin; refine wpList_append_own _ rfl _ _ 22 rfl wo.heap.size 3 i0 _ 1 8 Try.underlying22 hi0 hz0 hz1 hz2 rfl (by decide) ov _ _ rfl ho ⟨wr.heap.size, 0, none⟩ 1 1 [.int .i64 (-1)] rfl rfl (cell_one_new _ _ _) (by simp [Value.oneCell']) (by unfold maxLen; omega) (by omega) (by rw [size_alloc_]; omega) ?_; intro v1 w6 hown hgr _)
                have hbo : Below wo.heap.size (wr.alloc (.cells #[.int .i64 (-1)] 3)) w6 := (Below.refl _ _).grown hgr (by rw [size_alloc_]; omega) (fun g hg => (ho.lt g hg).1)
                have HR6 := Lib.hid ((HR3.out.below hal).grown ho hgr HGL.out)
                have HN6 := Lib.hid (((HN3.out.below hlowr hal).grown (hbo.mono hbs) ho hgr))
                have HB6 := (hB3.trans (hal.mono hlowr)).trans (hbo.mono hbs)
                have hz6 : wo.heap.size ≤ w6.heap.size := by have := hgr.size; rw [size_alloc_] at this; omega
                have HO6 : Hid (w6.ownsRow wo.heap.size 3 1 v1 (v + 1) ((rowTo (nextS lay) L (v + 1)).map (.int .i64))) := Lib.hid (by rw [HW.out.2, List.map_append]; exact hown)
                clear hown hgr hbo ho hal
                go_roundw
                case rel => exact ⟨v + 1, _, v1, by omega, by go_num, rfl, rfl, HR6, Lib.hid (by rw [HW.out.1]; exact HN6.out), HO6, HB6, hz6⟩
                case measure => simp [intOf]; omega
              · have hal : Below wr.heap.size wr (wr.alloc (.cells #[.int .i64 (-1)] 3)) := b_alloc _ _
                have ho := own_below HO3.out hal
                have hzwr : wo.heap.size ≤ wr.heap.size := by omega
                have hlowr : w.heap.size ≤ wr.heap.size := hB3.size
                go_wp2_with (at_builtin; refine wpList_append_own _ rfl _ _ 22 rfl wo.heap.size 3 i0 _ 1 8 Try.underlying22 hi0 hz0 hz1 hz2 rfl (by decide) ov _ _ rfl ho ⟨wr.heap.size, 0, none⟩ 1 1 [.int .i64 (-1)] rfl rfl (cell_one_new _ _ _) (by simp [Value.oneCell']) (by unfold maxLen; omega) (by omega) (by rw [size_alloc_]; omega) ?_; intro v1 w6 hown hgr _)
                have hbo : Below wo.heap.size (wr.alloc (.cells #[.int .i64 (-1)] 3)) w6 := (Below.refl _ _).grown hgr (by rw [size_alloc_]; omega) (fun g hg => (ho.lt g hg).1)
                have HR6 := Lib.hid ((HR3.out.below hal).grown ho hgr HGL.out)
                have HN6 := Lib.hid (((HN3.out.below hlowr hal).grown (hbo.mono hbs) ho hgr))
                have HB6 := (hB3.trans (hal.mono hlowr)).trans (hbo.mono hbs)
                have hz6 : wo.heap.size ≤ w6.heap.size := by have := hgr.size; rw [size_alloc_] at this; omega
                have HO6 : Hid (w6.ownsRow wo.heap.size 3 1 v1 (v + 1) ((rowTo (nextS lay) L (v + 1)).map (.int .i64))) := Lib.hid (by rw [HW.out.2, List.map_append]; exact hown)
                clear hown hgr hbo ho hal
                go_roundw
                case rel => exact ⟨v + 1, _, v1, by omega, by go_num, rfl, rfl, HR6, Lib.hid (by rw [HW.out.1]; exact HN6.out), HO6, HB6, hz6⟩
                case measure => simp [intOf]; omega
          · have hrp : 0 < r.length := List.length_pos_iff.2 hrn
            have HRN := Lib.hid hrn
            have HRE2 : Hid (∀ b, ev.ownBlock = some b → (Value.slice A3 r.length c3).ownBlock ≠ some b) := Lib.hid (fun b hb he => by
              have h1 := (HEV.out b hb)
              have h2 := HU.out.lt_ he
              omega)
            clear hrn
            go_wp2_with fail
            go_loopw [10, 11] (fun t10 t11 wr => ∃ k : Nat, k ≤ nx.length ∧ t11 = .int .i64 k ∧ t10 = .int .i64 (fnd nx r k) ∧ Below w3.heap.size w3 wr) (fun _ t11 _ => nx.length - (intOf t11).toNat)
            case atStart => exact ⟨0, by omega, rfl, rfl, Below.refl _ _⟩
            case round =>
              obtain ⟨k, hk, rfl, rfl, hb4⟩ := hrel
              rename World => w4
              have hz4 := hb4.size
              by_cases hk2 : k < nx.length
              · obtain ⟨bb, bo, s, u, rfl, hbb, hsk, hcs, B1, d1, rfl, hs1⟩ := SlR.at_ (HN4.out.below (RowC.keeps RowK.keeps) hb4) hk2
                have HSK := Lib.hid hsk
                have HC := Lib.hid (sequalTuples B1 A3 s.length r.length d1 c3 s r w4 ((SlR.mono_ RowK.row_ hs1).more (RowC.widens IntC.widens) hz4) (SlR.on (RowC.keeps IntC.keeps) (RowC.widens IntC.widens) HRR.out hb4))
                clear hsk hs1
                go_wp2_with fail
                refine HC.out.mono ?_
                rintro e w5 ⟨rfl, hb5⟩
                cases he : decide (s = r)
                · have HE := Lib.hid he
                  clear HC
                  go_wp2_with fail
                  go_roundw
                  case rel => exact ⟨k + 1, by omega, by go_num, by rw [fnd, if_neg (by rw [HSK.out]; intro h; injection h with h; exact of_decide_eq_false HE.out h)], bgo hb4 hb5⟩
                  case measure => simp [intOf]; omega
                · have HE := Lib.hid he
                  clear HC
                  go_wp2_with fail
                  go_roundw
                  case rel => exact ⟨k + 1, by omega, by go_num, by rw [fnd, if_pos (by rw [HSK.out, of_decide_eq_true HE.out])], bgo hb4 hb5⟩
                  case measure => simp [intOf]; omega
              · obtain rfl : k = nx.length := by omega
                have hlo4 : w.heap.size ≤ w4.heap.size := Nat.le_trans hB3.size hz4
                have HR4 := Lib.hid (HR3.out.below hb4)
                have HN4b := Lib.hid (HN3.out.below hB3.size hb4)
                have HO4 := Lib.hid (own_below HO3.out hb4)
                have hB4 := hB3.trans (hb4.mono hB3.size)
                rcases fnd_cases nx r nx.length with ⟨hf, -⟩ | ⟨j, hj, hf, -⟩
                · rw [hf]
                  have HW := Lib.hid (way_new (lay := lay) HLK.out hlt2 (by rw [HRE.out]; exact HRN.out) (by rw [HNX.out, HRE.out]; exact hf))
                  rw [HNX.out, HRE.out] at HW
                  clear hf HN4 HN3 HR3 HO3
                  obtain ⟨us, j1, j2, j3, j4⟩ := HN4b.out
                  have haln : Below w4.heap.size w4 (w4.alloc (.cells #[.slice A3 r.length c3] 23)) := b_alloc _ _
                  have hon := own_below j2 haln
                  have hzw4 : wo.heap.size ≤ w4.heap.size := by omega
                  have J1 := Lib.hid j1
                  have J4 := Lib.hid (fun i x t hx ht => (And.intro ((j4 i x t hx ht).1.below hlo4 haln) (j4 i x t hx ht).2 : RestO L0 w.heap.size (w4.alloc (.cells #[.slice A3 r.length c3] 23)) x t ∧ ∀ b, ev.ownBlock = some b → x.ownBlock ≠ some b))
                  have HRX := Lib.hid (((HU.out.rest hbs2).below hB3.size hb4).below hlo4 haln)
                  clear j1 j2 j3 j4 hb4
                  go_wp2_with (first | (at_builtin; refine wpList_append_own _ rfl _ _ 27 rfl w.heap.size 23 i2 _ 1 24 Try.underlying27 hi2 hx0 hx1 hx2 rfl (by decide) (.slice A4 nx.length c4) _ _ rfl hon ⟨w4.heap.size, 0, none⟩ 1 1 [.slice A3 r.length c3] rfl rfl (cell_one_new _ _ _) (by simp [Value.oneCell']) (by unfold maxLen; omega) (by omega) (by rw [size_alloc_]; omega) ?_; intro vn1 w5 hown hgr _; obtain ⟨A5, c5, rfl⟩ := (HoldR.of_own hown).form; have hb5 : Below w.heap.size (w4.alloc (.cells #[.slice A3 r.length c3] 23)) w5 := (Below.refl _ _).grown hgr (by rw [size_alloc_]; omega) (fun g hg => (hon.lt g hg).1); have HR5 := Lib.hid ((HR4.out.below haln).grown2 hon hgr); have HN5 : Hid (NextU L0 w.heap.size ev w5 (.slice A5 (nx.length + 1) c5) (nx ++ [r])) := Lib.hid (NextU.snoc J1.out hon J4.out HRX.out HRE2.out (by omega) hb5 hown hgr); have HO5 := Lib.hid (own_grown (own_below HO4.out haln) hgr (own_ne (by decide) (own_below HO4.out haln) hon)); have hB5 := (hB4.trans (haln.mono hlo4)).trans hb5; have hal : Below w5.heap.size w5 (w5.alloc (.cells #[.int .i64 ((nx.length : Nat) : Int)] 3)) := b_alloc _ _; have ho := own_below HO5.out hal; have hzw5 : wo.heap.size ≤ w5.heap.size := Nat.le_trans hzw4 (Nat.le_trans haln.size hgr.size); have hlow5 : w.heap.size ≤ w5.heap.size := hB5.size; clear hown hgr hb5) | (at_builtin; refine wpList_append_own _ rfl _ _ 22 rfl wo.heap.size 3 i0 _ 1 8 Try.underlying22 hi0 hz0 hz1 hz2 rfl (by decide) ov _ _ rfl ho ⟨w5.heap.size, 0, none⟩ 1 1 [.int .i64 ((nx.length : Nat) : Int)] rfl rfl (cell_one_new _ _ _) (by simp [Value.oneCell']) (by unfold maxLen; omega) (by omega) (by rw [size_alloc_]; omega) ?_; intro v1 w6 hown hgr _))
                  have hbo : Below wo.heap.size (w5.alloc (.cells #[.int .i64 ((nx.length : Nat) : Int)] 3)) w6 := (Below.refl _ _).grown hgr (by rw [size_alloc_]; omega) (fun g hg => (ho.lt g hg).1)
                  have HR6 := Lib.hid ((HR5.out.below hal).grown ho hgr HGL.out)
                  have HN6 := Lib.hid (((HN5.out.below hlow5 hal).grown (hbo.mono hbs) ho hgr))
                  have HB6 := (hB5.trans (hal.mono hlow5)).trans (hbo.mono hbs)
                  have hz6 : wo.heap.size ≤ w6.heap.size := by have := hgr.size; rw [size_alloc_] at this; omega
                  have HO6 : Hid (w6.ownsRow wo.heap.size 3 1 v1 (v + 1) ((rowTo (nextS lay) L (v + 1)).map (.int .i64))) := Lib.hid (by rw [HW.out.2, List.map_append]; exact hown)
                  clear hown hgr hbo ho hal
                  go_roundw
                  case rel => exact ⟨v + 1, _, v1, by omega, by go_num, rfl, rfl, HR6, Lib.hid (by rw [HW.out.1]; exact HN6.out), HO6, HB6, hz6⟩
                  case measure => simp [intOf]; omega
                · rw [hf]
                  have HW := Lib.hid (way_old (lay := lay) HLK.out hlt2 (by rw [HRE.out]; exact HRN.out) (j := j) (by rw [HNX.out, HRE.out]; exact hf))
                  rw [HNX.out] at HW
                  clear hf HN4 HN3 HR3 HO3 hb4
                  have hal : Below w4.heap.size w4 (w4.alloc (.cells #[.int .i64 ((j : Nat) : Int)] 3)) := b_alloc _ _
                  have ho := own_below HO4.out hal
                  have hzw4 : wo.heap.size ≤ w4.heap.size := by omega
                  have hlow4 : w.heap.size ≤ w4.heap.size := hB4.size
                  go_wp2_with (at_builtin; refine wpList_append_own _ rfl _ _ 22 rfl wo.heap.size 3 i0 _ 1 8 Try.underlying22 hi0 hz0 hz1 hz2 rfl (by decide) ov _ _ rfl ho ⟨w4.heap.size, 0, none⟩ 1 1 [.int .i64 ((j : Nat) : Int)] rfl rfl (cell_one_new _ _ _) (by simp [Value.oneCell']) (by unfold maxLen; omega) (by omega) (by rw [size_alloc_]; omega) ?_; intro v1 w6 hown hgr _)
                  have hbo : Below wo.heap.size (w4.alloc (.cells #[.int .i64 ((j : Nat) : Int)] 3)) w6 := (Below.refl _ _).grown hgr (by rw [size_alloc_]; omega) (fun g hg => (ho.lt g hg).1)
                  have HR6 := Lib.hid ((HR4.out.below hal).grown ho hgr HGL.out)
                  have HN6 := Lib.hid (((HN4b.out.below hlow4 hal).grown (hbo.mono hbs) ho hgr))
                  have HB6 := (hB4.trans (hal.mono hlow4)).trans (hbo.mono hbs)
                  have hz6 : wo.heap.size ≤ w6.heap.size := by have := hgr.size; rw [size_alloc_] at this; omega
                  have HO6 : Hid (w6.ownsRow wo.heap.size 3 1 v1 (v + 1) ((rowTo (nextS lay) L (v + 1)).map (.int .i64))) := Lib.hid (by rw [HW.out.2, List.map_append]; exact hown)
                  clear hown hgr hbo ho hal
                  go_roundw
                  case rel => exact ⟨v + 1, _, v1, by omega, by go_num, rfl, rfl, HR6, Lib.hid (by rw [HW.out.1]; exact HN6.out), HO6, HB6, hz6⟩
                  case measure => simp [intOf]; omega
        · obtain rfl : v = 6 := by omega
          have t6 : decide (((6 : Nat) : Int) ≤ 5) = false := by decide
          obtain ⟨g, c6, rfl, hg, -⟩ := HoldR.some_of_own (by omega : 0 < 6) hov.out
          have hel : ((lay.take i).map (rowG chS (nextS lay))).length = i := by have := HL.out; rw [List.length_map, List.length_take]; omega
          have hal : Below w2.heap.size w2 (w2.alloc (.cells #[.slice (some ⟨g, 0, none⟩) 6 c6] 22)) := b_alloc _ _
          have hrow : OwnI 3 (w2.alloc (.cells #[.slice (some ⟨g, 0, none⟩) 6 c6] 22)) w.heap.size (.slice (some ⟨g, 0, none⟩) 6 c6) (rowTo (nextS lay) L 6) := ⟨by rw [rowTo_len]; exact own_base (own_below hov.out hal) hbs, by rw [rowTo_len]; omega⟩
          have hra := hr.out.below hal
          have HNA := Lib.hid (hnx.out.below hbs2 hal)
          obtain ⟨h1, rs, h2, h3, h4, h5⟩ := hra
          rw [hel] at h3
          have H1 := Lib.hid h1
          have H2 := Lib.hid h2
          have H3 := Lib.hid h3
          have H5 := Lib.hid h5
          have HEL := Lib.hid hel
          have HROW := Lib.hid hrow
          clear h1 h2 h5 hel hrow hr hnx hov hal
          go_wp2_with (at_builtin; refine wpList_append_blk rfl _ _ 23 rfl w.heap.size 22 i1 _ 1 24 Try.underlying23 hi1 hy0 hy1 hy2 rfl (by decide) ev _ _ rfl h3 ⟨w2.heap.size, 0, none⟩ 1 1 [.slice (some ⟨g, 0, none⟩) 6 c6] rfl rfl (cell_one_new _ _ _) (by simp [Value.oneCell']) (by unfold maxLen; omega) (by omega) (by rw [size_alloc_]; omega) ?_; intro ev1 w3 hown hbw hgr hblk)
          have hbb : Below w.heap.size w w3 := (hb2.trans ((b_alloc w2 (.cells #[.slice (some ⟨g, 0, none⟩) 6 c6] 22)).mono hbs2)).trans hbw
          have HR6 : Hid (RowsAt w3 w.heap.size ev1 ((lay.take (i + 1)).map (rowG chS (nextS lay))) (gs ++ [g]) ∧ (gs ++ [g]).Nodup) := Lib.hid ⟨by
            rw [List.take_add_one, HLK.out, List.map_append]
            exact RowsAt.snoc H1.out H2.out (by rw [HEL.out]; exact H3.out) H5.out HROW.out rfl (by rw [HEL.out]; omega) (by rw [HEL.out]; exact hown) hgr, by
            rw [List.nodup_append]
            refine ⟨HND.out, by simp, fun a ha b hb' e => ?_⟩
            rw [List.mem_singleton.1 hb'] at e
            have := HGL.out a ha
            omega⟩
          have HN6 : Hid (NextU L0 w.heap.size ev1 w3 vn (nxL chS lay (i + 1))) := Lib.hid (by
            rw [nxL, HLK.out]
            exact HNA.out.grownE hbw H3.out hgr hblk)
          clear hown hgr hblk
          go_roundw
          case rel => exact ⟨i + 1, ev1, vn, gs ++ [g], by omega, by go_num, rfl, rfl, HR6, HN6, hbb⟩
          case measure => simp [intOf]; omega
    · obtain rfl : i = n := by omega
      go_wp2_with fail
      refine bodyPost_ret (v := .tuple #[ev, vn]) (by simp [results, Try.results48, go_sem]) rfl ⟨ev, vn, gs, rfl, ?_, hr.out.2, ?_, hb⟩
      · have := hr.out.1
        rwa [← HL.out, List.take_length] at this
      · have := hnx.out
        rw [← HL.out] at this
        exact this
end Go.Proofs.Ytfmdgdamelkelaa
