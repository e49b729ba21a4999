/- Draws of constraints: rows of variables, automata. -/
import Derived.Test.YtjpcdbdaimonlaaDrawI
import Derived.Test.YtjpcdbdaimonlaaGrow
namespace Go.Proofs.Ytjpcdbdaimonlaa
open Go.ChangeShapes Go.WideShapes Go.ChangeAt Go.RowKit
open Go.Shelf
set_option linter.unusedVariables false
set_option maxRecDepth 100000

section
variable {w w' : World} {base g : Nat}
theorem OwnI.butG {e : TypeId} {v : Value} {xs : List Int} (h : OwnI e w base v xs) (hb : ButG g w.heap.size w w') (hg : g < base) : OwnI e w' base v xs := ⟨own_butG h.1 hb hg, h.2⟩
theorem OwnRows.butG {e e0 : TypeId} {v : Value} {xs : List (List Int)} (h : OwnOf e (OwnI e0) w base v xs) (hb : ButG g w.heap.size w w') (hg : g < base) : OwnOf e (OwnI e0) w' base v xs := by
  obtain ⟨us, h1, h2, h3, h4⟩ := h
  exact ⟨us, h1, own_butG h2 hb hg, h3, fun i u x hu hx => (h4 i u x hu hx).butG hb hg⟩
theorem TBlk.butG {t : TypeId} {b : Nat} {cs : Array Value} (h : TBlk t w b cs) (hb : ButG g w.heap.size w w') (hg : b ≠ g) : TBlk t w' b cs := (hb.block b h.lt hg).trans h
/-- the head of an own row is an own row. -/
theorem own_take {w : World} {base n k c : Nat} {e : TypeId} {A : Option Addr} {xs : List Int} (h : w.ownsRow base e 1 (.slice A n c) n (xs.map (.int .i64))) (hl : xs.length = n) (hk : k ≤ n) : w.ownsRow base e 1 (.slice A k c) k ((xs.take k).map (.int .i64)) := by
  refine ⟨by rw [List.length_map, List.length_take, hl]; omega, ?_⟩
  rcases h.2 with ⟨h1, h2⟩ | ⟨g, cap, cur, hv, hg, hh, hcap, hmax, hsz, ht⟩
  · injection h1 with e1 e2 e3
    exact .inl ⟨by rw [e1, e3, show k = 0 by omega], by omega⟩
  · injection hv with e1 e2 e3
    subst e1 e3
    refine .inr ⟨g, c, cur, rfl, hg, hh, by omega, hmax, hsz, ?_⟩
    have h2 : (cur.toList.take (n * 1)).take (k * 1) = (xs.map (Value.int .i64)).take k := by rw [ht, Nat.mul_one]
    rw [List.take_take, show min (k * 1) (n * 1) = k * 1 by omega] at h2
    rw [h2, List.map_take]
end
/-- all rows are this long at most. -/
def RowsLe (m : Nat) (xs : List (List Int)) : Prop := ∀ x ∈ xs, x.length ≤ m
set_option maxHeartbeats 4000000 in
theorem someVars (base g n c p : Nat) (A : Option Addr) (bs : List Int) (m k : Nat) (w : World) (h : Rd w base g A n c bs p) (hp : p ≤ 1000000) (hm : m ≤ 4) (hk : k ≤ 4) :
    Calls Try.prog 61 #[.pointer (some ⟨g, 0, none⟩), .int .i64 m, .int .i64 k] w fun e w' => ∃ (v : Value) (xs : List Int), e = .returned v ∧ xs.length = min k m ∧ OwnI 3 w' w.heap.size v xs ∧ Rd w' base g A n c bs (p + m) ∧ ButG g w.heap.size w w' := by
  obtain ⟨i0, hi0, hz0, hz1, hz2⟩ := info_parts info_int
  have hg : g < w.heap.size := (Array.getElem?_eq_some_iff.1 h.block).1
  have ho : (w.alloc (.cells #[] 3)).ownsRow w.heap.size 3 1 (.slice (some ⟨w.heap.size, 0, none⟩) 0 0) 0 (([] : List Int).map (.int .i64)) := World.ownsRow_lit w #[] 0 (Nat.le_refl _) (by decide) rfl
  have hb0 : ButG g w.heap.size w (w.alloc (.cells #[] 3)) := below_butG (b_alloc _ _) g
  have hr0 : Rd (w.alloc (.cells #[] 3)) base g A n c bs (p + 0) := h.below (b_alloc _ _) (Nat.le_trans h.base_le (Nat.le_of_lt hg))
  have hG := Lib.hid hg
  clear h
  go_enter Try.func61, Try.ntmps61
  go_wp2_with fail
  go_loopw [7, 8] (fun v i wr => ∃ (j : Nat) (v' : Value) (xs : List Int), j ≤ m ∧ i = .int .i64 j ∧ v' = v ∧ Hid (xs.length = j) ∧ Hid (wr.ownsRow w.heap.size 3 1 v' j (xs.map (.int .i64))) ∧ Rd wr base g A n c bs (p + j) ∧ ButG g w.heap.size w wr) (fun _ i _ => m - (intOf i).toNat)
  case atStart => exact ⟨0, _, [], by omega, rfl, rfl, Lib.hid rfl, ho, hr0, hb0⟩
  case round =>
    obtain ⟨j, v, xs, hj, rfl, rfl, hl, hq, hr, hb⟩ := hrel
    clear ho hb0 hr0
    by_cases hlt : j < m
    · go_wp2_with fail
      refine (pick _ g n c (p + j) A bs 2 _ hr (by omega)).mono ?_
      rintro e w1 ⟨r, rfl, -, hr1, hb1⟩
      have hq1 := own_butG hq.out hb1 hg
      have hb2 := hb.trans (hb1.mono hb.size)
      have hs1 := hb2.size
      have hr0 := hq1.lt
      clear hq
      cases t1 : (r == 0)
      · have hsrc : Src (w1.alloc (.cells #[.int .i64 j] 3)) 1 (match v with | .slice B _ _ => B | _ => none) j (match v with | .slice _ _ d => d | _ => 0) (xs.map (.int .i64)) := by
          obtain ⟨B, d, rfl, -⟩ := IntR.of_own hq1 (by omega)
          exact src_own (hq1.alloc (.cells #[.int .i64 j] 3))
        obtain ⟨B, d, rfl, -⟩ := IntR.of_own hq1 (by omega)
        have ol : (w1.alloc (.cells #[.int .i64 j] 3)).ownsRow w1.heap.size 3 1 (.slice (some ⟨w1.heap.size, 0, none⟩) 1 1) 1 [.int .i64 j] := World.ownsRow_lit w1 #[.int .i64 j] 1 (Nat.le_refl _) (by decide) rfl
        go_wp2_with (at_builtin; refine wpList_append_any rfl _ _ 23 rfl w1.heap.size 3 i0 _ 1 8 Try.underlying23 hi0 hz0 hz1 hz2 rfl (by decide) (.slice (some ⟨w1.heap.size, 0, none⟩) 1 1) _ _ rfl ol _ _ _ _ rfl hsrc (by simp [Value.oneCell']) (by unfold maxLen; omega) (by omega) (by rw [size_alloc_]; omega) ?_; intro v1 w2 ho1 hbw1 _ _)
        have hbw : Below w1.heap.size w1 w2 := (b_alloc _ _).trans hbw1
        have hown2 : w2.ownsRow w.heap.size 3 1 v1 (j + 1) (((j : Int) :: xs).map (.int .i64)) := by
          have := own_base ho1 (base' := w.heap.size) (by omega)
          rw [Nat.add_comm] at this
          simpa using this
        clear ho1 hsrc ol
        go_roundw
        case rel => exact ⟨j + 1, v1, (j : Int) :: xs, by omega, by go_num, rfl, Lib.hid (by rw [List.length_cons, hl.out]), hown2, hr1.under hbw (by have := hG.out; omega), hb2.trans (below_butG (hbw.mono (by omega)) g)⟩
        case measure => simp [intOf]; omega
      · go_wp2_with (at_builtin; refine wpList_append_own _ rfl _ _ 23 rfl w.heap.size 3 i0 _ 1 8 Try.underlying23 hi0 hz0 hz1 hz2 rfl (by decide) v _ _ rfl (hq1.alloc _) ⟨w1.heap.size, 0, none⟩ 1 1 [.int .i64 j] rfl rfl (cell_one_new _ _ _) (by simp [Value.oneCell']) (by unfold maxLen; omega) (by omega) (by rw [size_alloc_]; omega) ?_; intro v1 w2 hown hgr _)
        have hbw : Below w.heap.size w1 w2 := ((Below.refl _ _).alloc hs1 _).grown hgr (by rw [size_alloc_]; omega) (fun g hg => (hr0 g hg).1)
        have hown2 : w2.ownsRow w.heap.size 3 1 v1 (j + 1) ((xs ++ [(j : Int)]).map (.int .i64)) := by simpa using hown
        clear hown hgr
        go_roundw
        case rel => exact ⟨j + 1, v1, xs ++ [(j : Int)], by omega, by go_num, rfl, Lib.hid (by rw [List.length_append, hl.out]; rfl), hown2, hr1.under hbw hG.out, hb2.trans (below_butG hbw g)⟩
        case measure => simp [intOf]; omega
    · obtain rfl : j = m := by omega
      obtain ⟨B, d, rfl, -⟩ := IntR.of_own hq.out (by omega)
      have hcap := own_cap hq.out
      by_cases hkm : j < k
      · have hjd : (j : Int) ≤ (d : Int) := by omega
        have HQ := Lib.hid (show OwnI 3 wr w.heap.size (.slice B j d) xs from ⟨by rw [hl.out]; exact hq.out, by rw [hl.out]; omega⟩)
        clear hq
        go_wp2_with fail
        go_ret
        exact ⟨_, xs, rfl, by rw [hl.out]; omega, HQ.out, hr, hb⟩
      · have hkd : (k : Int) ≤ (d : Int) := by omega
        have HQ := Lib.hid (show OwnI 3 wr w.heap.size (.slice B k d) (xs.take k) from by
          have hlt : (xs.take k).length = k := by rw [List.length_take, hl.out]; omega
          refine ⟨?_, by rw [hlt]; omega⟩
          rw [hlt]
          exact own_take hq.out hl.out (by omega))
        clear hq
        go_wp2_with fail
        go_ret
        exact ⟨_, xs.take k, rfl, by rw [List.length_take, hl.out], HQ.out, hr, hb⟩
set_option maxHeartbeats 8000000 in
theorem randomAutomaton (base g n c p : Nat) (A : Option Addr) (bs : List Int) (m : Nat) (w : World) (h : Rd w base g A n c bs p) (hp : p ≤ 1000000) (hm : m ≤ 8) :
    Calls Try.prog 63 #[.pointer (some ⟨g, 0, none⟩), .int .i64 m] w fun e w' => ∃ (v : Value) (xs : List (List Int)), e = .returned v ∧ xs.length = m ∧ RowsLe 6 xs ∧ OwnOf 23 (OwnI 3) w' w.heap.size v xs ∧ Rd w' base g A n c bs (p + 12 * m) ∧ ButG g w.heap.size w w' := by
  obtain ⟨i0, hi0, hz0, hz1, hz2⟩ := info_parts info_int
  obtain ⟨i1, hi1, hy0, hy1, hy2⟩ := info_parts (P := Try.prog) (e := 23) (z := .slice none 0 0) (size := 1) (bytes := 24) (by kernel_rfl)
  have hg : g < w.heap.size := (Array.getElem?_eq_some_iff.1 h.block).1
  have ho : (w.alloc (.cells #[] 23)).ownsRow w.heap.size 23 1 (.slice (some ⟨w.heap.size, 0, none⟩) 0 0) 0 [] := World.ownsRow_lit w #[] 0 (Nat.le_refl _) (by decide) rfl
  have hoo : OwnOf 23 (OwnI 3) (w.alloc (.cells #[] 23)) w.heap.size (.slice (some ⟨w.heap.size, 0, none⟩) 0 0) [] := ⟨[], rfl, ho, by simp, fun i u x hu => by simp at hu⟩
  have hb0 : ButG g w.heap.size w (w.alloc (.cells #[] 23)) := below_butG (b_alloc _ _) g
  have hr0 : Rd (w.alloc (.cells #[] 23)) base g A n c bs (p + 12 * 0) := h.below (b_alloc _ _) (Nat.le_trans h.base_le (Nat.le_of_lt hg))
  have hG := Lib.hid hg
  clear h ho
  go_enter Try.func63, Try.ntmps63
  go_wp2_with fail
  go_loopw [5, 6] (fun v i wr => ∃ (j : Nat) (v' : Value) (xs : List (List Int)), j ≤ m ∧ i = .int .i64 j ∧ v' = v ∧ Hid (xs.length = j) ∧ RowsLe 6 xs ∧ Hid (OwnOf 23 (OwnI 3) wr w.heap.size v' xs) ∧ Rd wr base g A n c bs (p + 12 * j) ∧ ButG g w.heap.size w wr) (fun _ i _ => m - (intOf i).toNat)
  case atStart => exact ⟨0, _, [], by omega, rfl, rfl, Lib.hid rfl, (fun x hx => by simp at hx), hoo, hr0, hb0⟩
  case round =>
    obtain ⟨j, v, xs, hj, rfl, rfl, hl, hle, hq, hr, hb⟩ := hrel
    rename World => wo
    clear hoo hb0 hr0
    have hzo := hb.size
    have hgo : g < wo.heap.size := by have := hG.out; omega
    by_cases hlt : j < m
    · have ho2 : (wo.alloc (.cells #[] 3)).ownsRow wo.heap.size 3 1 (.slice (some ⟨wo.heap.size, 0, none⟩) 0 0) 0 (([] : List Int).map (.int .i64)) := World.ownsRow_lit wo #[] 0 (Nat.le_refl _) (by decide) rfl
      have hb2 : ButG g wo.heap.size wo (wo.alloc (.cells #[] 3)) := below_butG (b_alloc _ _) g
      have hr2 : Rd (wo.alloc (.cells #[] 3)) base g A n c bs (p + 12 * j + 2 * 0) := hr.below (b_alloc _ _) (Nat.le_trans hr.base_le (Nat.le_of_lt hgo))
      have HR := Lib.hid hr
      clear hr
      go_wp2_with fail
      go_loopw [7, 8] (fun v2 i2 wr => ∃ (k : Nat) (v' : Value) (ys : List Int), k ≤ 6 ∧ i2 = .int .i64 k ∧ v' = v2 ∧ Hid (ys.length = k) ∧ Hid (wr.ownsRow wo.heap.size 3 1 v' k (ys.map (.int .i64))) ∧ Rd wr base g A n c bs (p + 12 * j + 2 * k) ∧ ButG g wo.heap.size wo wr) (fun _ i2 _ => 6 - (intOf i2).toNat)
      case atStart => exact ⟨0, _, [], by omega, rfl, rfl, Lib.hid rfl, ho2, hr2, hb2⟩
      case round =>
        obtain ⟨k, v2, ys, hk, rfl, rfl, hly, hqy, hry, hby⟩ := hrel
        clear ho2 hb2 hr2
        have hzy := hby.size
        by_cases hlt2 : k < 6
        · have t5 : decide ((k : Int) ≤ 5) = true := decide_eq_true (by omega)
          go_wp2_with fail
          refine (pick _ g n c (p + 12 * j + 2 * k) A bs _ _ hry (by omega)).mono ?_
          rintro e w1 ⟨r1, rfl, -, hr1, hb1⟩
          go_wp2_with fail
          refine (pick _ g n c (p + 12 * j + 2 * k + 1) A bs 2 _ hr1 (by omega)).mono ?_
          rintro e w2 ⟨r2, rfl, -, hr2, hb2⟩
          have hq1 := own_butG hqy.out (hb1.go hb2) hgo
          have hb3 := hby.trans ((hb1.go hb2).mono hby.size)
          have hs1 := hb3.size
          have hr0 := hq1.lt
          go_wp2_with (at_builtin; refine wpList_append_own _ rfl _ _ 23 rfl wo.heap.size 3 i0 _ 1 8 Try.underlying23 hi0 hz0 hz1 hz2 rfl (by decide) v2 _ _ rfl (hq1.alloc _) ⟨w2.heap.size, 0, none⟩ 1 1 [.int .i64 (wrap64 (r1 - r2))] rfl rfl (cell_one_new _ _ _) (by simp [Value.oneCell']) (by unfold maxLen; omega) (by omega) (by rw [size_alloc_]; omega) ?_; intro v1 w3 hown hgr _)
          have hbw : Below wo.heap.size w2 w3 := ((Below.refl _ _).alloc hs1 _).grown hgr (by rw [size_alloc_]; omega) (fun g hg => (hr0 g hg).1)
          have hown2 : w3.ownsRow wo.heap.size 3 1 v1 (k + 1) ((ys ++ [wrap64 (r1 - r2)]).map (.int .i64)) := by simpa using hown
          clear hown hgr hqy
          go_roundw
          case rel => exact ⟨k + 1, v1, ys ++ [wrap64 (r1 - r2)], by omega, by go_num, rfl, Lib.hid (by rw [List.length_append, hly.out]; rfl), hown2, (hr2.under hbw hgo : Rd w3 base g A n c bs (p + 12 * j + 2 * (k + 1))), hb3.trans (below_butG hbw g)⟩
          case measure => simp [intOf]; omega
        · obtain rfl : k = 6 := by omega
          obtain ⟨A2, d2, rfl, -⟩ := IntR.of_own hqy.out (by omega)
          obtain ⟨g2, rfl, hg2⟩ : ∃ g2 : Nat, A2 = some ⟨g2, 0, none⟩ ∧ wo.heap.size ≤ g2 := by
            rcases hqy.out.2 with ⟨_, h6⟩ | ⟨g2, cap, cur, hv, hg2, -⟩
            · omega
            · injection hv with e1 _ _
              exact ⟨g2, e1, hg2⟩
          have t5 : decide (((6 : Nat) : Int) ≤ 5) = false := by decide
          go_wp2_with fail
          go_loopw [9] (fun i3 wr => ∃ (k : Nat) (ys : List Int), k ≤ 6 ∧ i3 = .int .i64 k ∧ Hid (ys.length = 6) ∧ Hid (wr.ownsRow wo.heap.size 3 1 (.slice (some ⟨g2, 0, none⟩) 6 d2) 6 (ys.map (.int .i64))) ∧ Rd wr base g A n c bs (p + 12 * j + 12) ∧ ButG g wo.heap.size wo wr) (fun i3 _ => 6 - (intOf i3).toNat)
          case atStart => exact ⟨0, ys, by omega, rfl, hly, hqy, hry, hby⟩
          case round =>
            obtain ⟨k, zs, hk, rfl, hlz, hqz, hrz, hbz⟩ := hrel
            clear hly hqy hry hby
            rename World => wz
            have hzz := hbz.size
            by_cases hlt3 : k < 6
            · have t6 : decide ((k : Int) ≤ 5) = true := decide_eq_true (by omega)
              have hco := hqz.out.cellAt k (by omega)
              obtain ⟨z, hz⟩ : ∃ z, zs[k]? = some z := ⟨_, List.getElem?_eq_getElem (by rw [hlz.out]; exact hlt3)⟩
              rw [List.getElem?_map, hz] at hco
              simp only [Option.map_some] at hco
              have hfo := hqz.out.frozenAt k
              clear hz
              cases t7 : decide ((m : Int) ≤ z)
              · go_wp2_with fail
                go_roundw
                case rel => exact ⟨k + 1, zs, by omega, by go_num, hlz, hqz, hrz, hbz⟩
                case measure => simp [intOf]; omega
              · have hst := Lib.hid (hqz.out.stored k (.int .i64 ((m : Int) - 1))).1
                go_wp2_with fail
                go_roundw
                case rel =>
                  refine ⟨k + 1, zs.set k ((m : Int) - 1), by omega, by go_num, Lib.hid (by rw [List.length_set]; exact hlz.out), ?_, hrz.under ((Below.refl wo.heap.size _).setCell (by simpa using hg2) _) hgo, hbz.trans (below_butG ((Below.refl wo.heap.size _).setCell (by simpa using hg2) _) g)⟩
                  have := hst.out
                  rw [← List.map_set] at this
                  exact this
                case measure => simp [intOf]; omega
            · obtain rfl : k = 6 := by omega
              have t6 : decide (((6 : Nat) : Int) ≤ 5) = false := by decide
              have hO := OwnRows.butG hq.out hbz hG.out
              obtain ⟨us, u1, u2, -, u4⟩ := hO
              have hrow : OwnI 3 wz w.heap.size (.slice (some ⟨g2, 0, none⟩) 6 d2) zs := ⟨by rw [hlz.out]; exact own_base hqz.out hzo, by rw [hlz.out]; omega⟩
              have U1 := Lib.hid u1
              have U2 := Lib.hid u2
              have U4 := Lib.hid u4
              have HROW := Lib.hid hrow
              have hbb : ButG g w.heap.size w wz := hb.trans (hbz.mono hzo)
              have hzw := hbb.size
              have hr0 := u2.lt
              have hxl := hl.out
              rw [hl.out] at u2
              clear u1 u4 hrow
              go_wp2_with (at_builtin; refine wpList_append_own _ rfl _ _ 27 rfl w.heap.size 23 i1 _ 1 24 Try.underlying27 hi1 hy0 hy1 hy2 rfl (by decide) v _ _ rfl (u2.alloc _) ⟨wz.heap.size, 0, none⟩ 1 1 [.slice (some ⟨g2, 0, none⟩) 6 d2] rfl rfl (cell_one_new _ _ _) (by simp [Value.oneCell']) (by unfold maxLen; omega) (by omega) (by rw [size_alloc_]; omega) ?_; intro v1 w3 hown hgr _)
              have hal : Below wz.heap.size wz (wz.alloc (.cells #[.slice (some ⟨g2, 0, none⟩) 6 d2] 23)) := b_alloc _ _
              have hbw : Below w.heap.size wz w3 := ((Below.refl _ _).alloc hzw _).grown hgr (by rw [size_alloc_]; omega) (fun g hg => (hr0 g hg).1)
              have hown2 : OwnOf 23 (OwnI 3) w3 w.heap.size v1 (xs ++ [zs]) :=
                OwnRows.snoc (by decide) U1.out (own_below U2.out hal) (fun i u x hu hx => (OwnI.stays 3).below _ _ _ _ _ hal (U4.out i u x hu hx)) ((OwnI.stays 3).below _ _ _ _ _ hal HROW.out) (by omega) (by rw [hl.out]; exact hown) hgr
              clear hown hgr
              go_roundw
              case rel =>
                refine ⟨j + 1, v1, xs ++ [zs], by omega, by go_num, rfl, Lib.hid (by rw [List.length_append, hl.out]; rfl), fun x hx => ?_, hown2, hrz.under hbw hG.out, hbb.trans (below_butG hbw g)⟩
                rcases List.mem_append.1 hx with h1 | h1
                · exact hle x h1
                · simp at h1; subst h1; rw [hlz.out]; exact Nat.le_refl _
              case measure => simp [intOf]; omega
    · obtain rfl : j = m := by omega
      go_wp2_with fail
      go_ret
      exact ⟨_, xs, rfl, hl.out, hle, hq.out, hr, hb⟩
end Go.Proofs.Ytjpcdbdaimonlaa
