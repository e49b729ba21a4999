/- spec's suffixes and equalTuples. -/
import Derived.Test.YtfmdgdamelkelaaBdM
import Derived.Test.YtfmdgdamelkelaaBdP
import Derived.Test.YtfmdgdamelkelaaRowsI
namespace Go.Proofs.Ytfmdgdamelkelaa
open Go.ChangeShapes Go.WideShapes Go.ChangeAt Go.RowKit
open Go.Shelf
set_option linter.unusedVariables false
set_option maxRecDepth 100000
variable {L0 : Nat → Prop}
attribute [local go_sem] Oper.semAt_some

theorem sequalInts_b (A B : Option Addr) (n m c d : Nat) (xs ys : List Int) (w : World) (b : Bool) (h : decide (xs = ys) = b) (hx : SlR IntC w w.heap.size A n xs) (hy : SlR IntC w w.heap.size B m ys) :
    Calls Try.prog 117 #[.slice A n c, .slice B m d] w fun e w' => e = .returned (.bool b) ∧ Below w.heap.size w w' := by
  subst h; exact sequalInts A B n m c d xs ys w hx hy
theorem sequalTuples (A B : Option Addr) (n m c d : Nat) (xs ys : List (List Int)) (w : World) (hx : SlR (RowC IntC) w w.heap.size A n xs) (hy : SlR (RowC IntC) w w.heap.size B m ys) :
    Calls Try.prog 87 #[.slice A n c, .slice B m d] w fun e w' => e = .returned (.bool (decide (xs = ys))) ∧ Below w.heap.size w w' := by
  have hn := hx.le
  have hm := hy.le
  have hlx := Lib.hid hx.len
  have hly := Lib.hid hy.len
  by_cases hnm : n = m
  · subst hnm
    have hne : ((n : Int) != (n : Int)) = false := by simp
    go_enter Try.func87, Try.ntmps87
    go_wp2_with fail
    go_loopw [5] (fun i wr => ∃ k : Nat, k ≤ n ∧ i = .int .i64 k ∧ Hid (EqB xs ys k) ∧ Below w.heap.size w wr) (fun i _ => n - (intOf i).toNat)
    case atStart => exact ⟨0, by omega, rfl, EqB.zero _ _, Below.refl _ _⟩
    case round =>
      obtain ⟨k, hk, rfl, hq, hb⟩ := hrel
      by_cases hlt : k < n
      · obtain ⟨ab, ao, x, u, rfl, hab, hxk, hcx, A1, c1, rfl, hx1⟩ := SlR.at_ (hx.below (RowC.keeps IntC.keeps) hb) hlt
        obtain ⟨bb, bo, y, u, rfl, hbb, hyk, hcy, B1, d1, rfl, hy1⟩ := SlR.at_ (hy.below (RowC.keeps IntC.keeps) hb) hlt
        have HX := Lib.hid hxk
        have HY := Lib.hid hyk
        clear hxk hyk
        have hw := hb.size
        have HX1 := Lib.hid (hx1.more IntC.widens hw)
        have HY1 := Lib.hid (hy1.more IntC.widens hw)
        have q0 : ∀ p : Later wr, p.val.cell? ⟨ab, ao + k, none⟩ = some (.slice A1 x.length c1) := fun p => p.cell (by omega) hcx
        have r0 : ∀ p : Later wr, p.val.cell? ⟨bb, bo + k, none⟩ = some (.slice B1 y.length d1) := fun p => p.cell (by omega) hcy
        clear hx1 hy1
        cases he : decide (x = y)
        · have HE := Lib.hid he
          clear he
          go_wp2_with fail
          refine wp_region_later (by kernel_rfl) (by kernel_rfl) ?_
          repeat (go_big_quiet_step (first | (go_at_call 117; exact calls_later (sequalInts_b _ _ _ _ _ _ x y _ _ HE.out (SlR.on IntC.keeps IntC.widens HX1.out (Later.below _)) (SlR.on IntC.keeps IntC.widens HY1.out (Later.below _))))))
          refine wpQuiet_nil ?_
          intro w5 hw'
          obtain ⟨⟨w6, hb5⟩, hw''⟩ := hw'
          subst hw''
          go_wp2_with fail
          go_ret
          exact ⟨ret_bool (decide_eq_false (ne_of_at HX.out HY.out (of_decide_eq_false HE.out))).symm, bgo hb hb5⟩
        · have HE := Lib.hid he
          clear he
          go_wp2_with fail
          refine wp_region_later (by kernel_rfl) (by kernel_rfl) ?_
          repeat (go_big_quiet_step (first | (go_at_call 117; exact calls_later (sequalInts_b _ _ _ _ _ _ x y _ _ HE.out (SlR.on IntC.keeps IntC.widens HX1.out (Later.below _)) (SlR.on IntC.keeps IntC.widens HY1.out (Later.below _))))))
          refine wpQuiet_nil ?_
          intro w5 hw'
          obtain ⟨⟨w6, hb5⟩, hw''⟩ := hw'
          subst hw''
          go_wp2_with fail
          go_roundw
          case rel => exact ⟨k + 1, by omega, by go_num, EqB.succ hq.out (by rw [HX.out, HY.out, of_decide_eq_true HE.out]), bgo hb hb5⟩
          case measure => simp [intOf]; omega
      · obtain rfl : k = n := by omega
        go_wp2_with fail
        go_ret
        exact ⟨ret_bool (decide_eq_true (EqB.done hq.out hlx.out hly.out)).symm, hb⟩
  · have hne : ((n : Int) != (m : Int)) = true := by simp; omega
    have HN := Lib.hid hnm
    clear hnm
    go_enter Try.func87, Try.ntmps87
    go_wp2_with fail
    go_ret
    exact ⟨ret_bool (decide_eq_false (fun h => HN.out (by rw [← hlx.out, ← hly.out, h]))).symm, Below.refl _ _⟩
theorem sufF_take {q : Int} {L : List (List Int)} {k : Nat} {x : List Int} (hx : L[k]? = some x) : sufF q (L.take (k + 1)) = sufF q (L.take k) ++ (if x.head? = some q then [x.tail] else []) := by
  rw [List.take_add_one, hx, sufF_app]
  simp only [Option.toList_some, sufF]
theorem RowK.tail {w : World} {B b o c : Nat} {y : Int} {t : List Int} (h : SlR IntC w B (some ⟨b, o, none⟩) (t.length + 1) (y :: t)) (hc : t.length + 1 ≤ c) (hb0 : L0 b) : (RowK L0) w B (.slice (if c = 1 then some ⟨b, o, none⟩ else some ⟨b, o + 1, none⟩) t.length (c - 1)) t := by
  refine ⟨_, _, rfl, by omega, ⟨rfl, by have := h.2.1; omega, fun hn => ?_⟩, fun hn b' o' e => ?_⟩
  case refine_2 =>
    split at e
    · injection e with e; injection e with e1 e2; subst e1; exact hb0
    · injection e with e; injection e with e1 e2; subst e1; exact hb0
  rw [if_neg (by omega)]
  obtain ⟨b', o', e, hb, k⟩ := h.2.2 (by omega)
  injection e with e
  injection e with e1 e2
  subst e1 e2
  refine ⟨b, o + 1, rfl, hb, fun i x hx => ?_⟩
  obtain ⟨u, hu, hr⟩ := k (i + 1) x (by simpa using hx)
  exact ⟨u, by rw [show o + 1 + i = o + (i + 1) by omega]; exact hu, hr⟩
/-- rests, built at base. -/
abbrev RestB (L0 : Nat → Prop) (lo base : Nat) (W : World) (u : Value) (r : List (List Int)) : Prop := OwnOf 22 (fun w _ x t => (RowK L0) w lo x t ∧ lo ≤ w.heap.size) W base u r
theorem RestB.rest {lo base : Nat} {W : World} {u : Value} {r : List (List Int)} (h : RestB L0 lo base W u r) (hb : lo ≤ base) : RestO L0 lo W u r := by
  obtain ⟨us, a, b, c, d⟩ := h
  exact ⟨us, a, own_base b hb, c, d⟩
theorem RestB.below {lo base : Nat} {W W' : World} {u : Value} {r : List (List Int)} (h : RestB L0 lo base W u r) (hl : lo ≤ W.heap.size) (hb : Below W.heap.size W W') : RestB L0 lo base W' u r := by
  obtain ⟨us, a, b, c, d⟩ := h
  exact ⟨us, a, own_below b hb, c, fun i x t hx ht => ⟨RowK.keeps _ _ _ _ _ (fun p hp => (hb.mono hl).cell hp) (d i x t hx ht).1, Nat.le_trans hl hb.size⟩⟩
theorem sufF_le (v : Int) : ∀ L : List (List Int), (sufF v L).length ≤ L.length
  | [] => by simp [sufF]
  | t :: ts => by have := sufF_le v ts; rw [sufF]; split <;> simp <;> omega
theorem RestB.snoc {W W' : World} {lo base : Nat} {v v' u : Value} {r : List (List Int)} {us : List Value} {x : List Int} (hlo : lo ≤ base) (h1 : us.length = r.length) (h2 : W.ownsRow base 22 1 v r.length us)
    (h4 : ∀ (i : Nat) u x, us[i]? = some u → r[i]? = some x → (RowK L0) W lo u x ∧ lo ≤ W.heap.size) (hx : (RowK L0) W lo u x) (hbs : base ≤ W.heap.size) (hl : r.length + 1 ≤ 9223372036854775807)
    (hown : W'.ownsRow base 22 1 v' (r.length + 1) (us ++ [u])) (hgr : W.grownBy W' v.ownBlock) : RestB L0 lo base W' v' (r ++ [x]) := by
  have hb : Below base W W' := (Below.refl _ _).grown hgr hbs (fun g hg => (h2.lt g hg).1)
  have hk : ∀ u x, (RowK L0) W lo u x → (RowK L0) W' lo u x ∧ lo ≤ W'.heap.size := fun u x h => ⟨RowK.keeps _ _ _ _ _ (fun p hp => (hb.mono hlo).cell hp) h, Nat.le_trans hlo (Nat.le_trans hbs hb.size)⟩
  refine ⟨us ++ [u], by simp [h1], by simpa using hown, by simpa using hl, fun i u' x' hu hx' => ?_⟩
  rcases Nat.lt_or_ge i us.length with hi | hi
  · rw [List.getElem?_append_left hi] at hu
    rw [List.getElem?_append_left (by omega)] at hx'
    exact hk _ _ (h4 i u' x' hu hx').1
  · have hi2 : i = us.length := by
      rcases Nat.lt_or_ge i (us.length + 1) with h | h
      · omega
      · rw [List.getElem?_eq_none (by simp; omega)] at hu; cases hu
    subst hi2
    rw [List.getElem?_append_right (Nat.le_refl _), Nat.sub_self] at hu
    rw [h1, List.getElem?_append_right (Nat.le_refl _), Nat.sub_self] at hx'
    simp at hu hx'
    subst hu hx'
    exact hk _ _ hx
set_option maxHeartbeats 4000000 in
theorem ssuffixes (A : Option Addr) (n c lo : Nat) (q : Int) (L : List (List Int)) (w : World) (h : SlR (RowK L0) w lo A n L) (hlo : lo ≤ w.heap.size) (hne : ∀ t ∈ L, t ≠ []) (hn : n ≤ 100000) :
    Calls Try.prog 86 #[.slice A n c, .int .i64 q] w fun e w' => ∃ u, e = .returned u ∧ RestB L0 lo w.heap.size w' u (sufF q L) ∧ Below w.heap.size w w' := by
  obtain ⟨i1, hi1, hy0, hy1, hy2⟩ := info_parts (P := Try.prog) (e := 22) (z := .slice none 0 0) (size := 1) (bytes := 24) (by kernel_rfl)
  obtain ⟨i0, hi0, hz0, hz1, hz2⟩ := info_parts info_int
  have hl := h.len
  have HA := Lib.hid h
  have HNE := Lib.hid hne
  have HL := Lib.hid hl
  have u22 : ∀ w, Sem.run Try.prog (underlying 22) w = .ok (TypeDesc.slice 3) w := run_underlying Try.underlying22
  have h0 : RestB L0 lo w.heap.size (w.alloc (.cells #[] 22)) (.slice (some ⟨w.heap.size, 0, none⟩) 0 0) (sufF q (L.take 0)) :=
    ⟨[], rfl, World.ownsRow_lit w #[] 0 (Nat.le_refl _) (by decide) rfl, by simp [sufF], fun i u x hu => by simp at hu⟩
  have H0 := Lib.hid h0
  clear h h0 hne hl
  go_enter Try.func86, Try.ntmps86
  go_wp2_with fail
  go_loopw [5, 6] (fun t5 i wr => ∃ (k : Nat) (v : Value), k ≤ n ∧ i = .int .i64 k ∧ v = t5 ∧ Hid (RestB L0 lo w.heap.size wr v (sufF q (L.take k))) ∧ Below w.heap.size w wr) (fun _ i _ => n - (intOf i).toNat)
  case atStart => exact ⟨0, _, by omega, rfl, rfl, H0, b_alloc _ _⟩
  case round =>
    obtain ⟨k, v, hk, rfl, rfl, hq, hb⟩ := hrel
    have hbs := hb.size
    by_cases hlt : k < n
    · obtain ⟨ab, ao, x, u, rfl, hab, hxk, hcx, A1, c1, rfl, hxc, hx1, hxl⟩ := SlR.at_ (HA.out.below RowK.keeps (hb.mono hlo)) hlt
      obtain ⟨y, t, rfl⟩ : ∃ y t, x = y :: t := by
        cases x with
        | nil => exact absurd rfl (HNE.out _ (List.mem_of_getElem? hxk))
        | cons y t => exact ⟨y, t, rfl⟩
      obtain ⟨b1, o1, y', rfl, hb1, hy', hcy⟩ := IntR.at_ hx1 (show 0 < (y :: t).length by simp)
      simp only [List.getElem?_cons_zero, Option.some.injEq] at hy'
      subst hy'
      simp only [List.length_cons, Nat.add_zero] at hcx hxc hx1 hcy
      have HT := Lib.hid (RowK.tail hx1 hxc (hxl (by simp) b1 o1 rfl))
      have HST := Lib.hid (sufF_take (q := q) hxk)
      clear hx1 hxk hxl
      cases heq : (y == q)
      · have HE := Lib.hid heq
        go_wp2_with fail
        go_roundw
        case rel => exact ⟨k + 1, _, by omega, by go_num, rfl, Lib.hid (by rw [HST.out, if_neg (by have := HE.out; simpa using this), List.append_nil]; exact hq.out), hb⟩
        case measure => simp [intOf]; omega
      · have HE := Lib.hid heq
        rcases Nat.lt_or_ge c1 2 with hc1 | hc1
        · obtain rfl : c1 = 1 := by omega
          obtain rfl : t = [] := List.eq_nil_of_length_eq_zero (by omega)
          rw [if_pos rfl] at HT
          simp only [List.length_nil, Nat.zero_add] at hcx hxc HT
          obtain ⟨us, j1, j2, j3, j4⟩ := hq.out
          have J1 := Lib.hid j1
          have J2 := Lib.hid j2
          have J4 := Lib.hid j4
          have hsl : (sufF q (L.take k)).length ≤ k := Nat.le_trans (sufF_le _ _) (by rw [List.length_take]; omega)
          have hal : Below wr.heap.size wr (wr.alloc (.cells #[.slice (some ⟨b1, o1, none⟩) 0 0] 22)) := b_alloc _ _
          have ho := own_below j2 hal
          clear j1 j2 j3 j4
          go_wp2_with (at_builtin; refine wpList_append_own _ rfl _ _ 23 rfl w.heap.size 22 i1 _ 1 24 Try.underlying23 hi1 hy0 hy1 hy2 rfl (by decide) v _ _ rfl ho ⟨wr.heap.size, 0, none⟩ 1 1 [.slice (some ⟨b1, o1, none⟩) 0 0] rfl rfl (cell_one_new _ _ _) (by simp [Value.oneCell']) (by unfold maxLen; omega) (by omega) (by rw [size_alloc_]; omega) ?_; intro v1 w3 hown hgr _)
          have hbw : Below w.heap.size wr w3 := ((Below.refl _ _).alloc hbs _).grown hgr (by rw [size_alloc_]; omega) (fun g hg => (ho.lt g hg).1)
          have HN := Lib.hid (RestB.snoc hlo J1.out ho (fun i x t hx ht => by have := J4.out i x t hx ht; exact ⟨RowK.keeps _ _ _ _ _ (fun p hp => (hal.mono (Nat.le_trans hlo hbs)).cell hp) this.1, Nat.le_trans this.2 hal.size⟩) (show (RowK L0) (wr.alloc (.cells #[.slice (some ⟨b1, o1, none⟩) 0 0] 22)) lo _ [] from RowK.keeps _ _ _ _ _ (fun p hp => (hal.mono (Nat.le_trans hlo hbs)).cell hp) HT.out) (by rw [size_alloc_]; omega) (by omega) hown hgr)
          clear hown hgr hal ho
          go_roundw
          case rel => exact ⟨k + 1, _, by omega, by go_num, rfl, Lib.hid (by rw [HST.out, if_pos (by have := HE.out; simpa using this)]; exact HN.out), hb.trans hbw⟩
          case measure => simp [intOf]; omega
        · have hc2 : (c1 = 1) = False := eq_false (by omega)
          have hc3 : ¬ c1 = 1 := by omega
          rw [if_neg hc3] at HT
          obtain ⟨us, j1, j2, j3, j4⟩ := hq.out
          have J1 := Lib.hid j1
          have J2 := Lib.hid j2
          have J4 := Lib.hid j4
          have hsl : (sufF q (L.take k)).length ≤ k := Nat.le_trans (sufF_le _ _) (by rw [List.length_take]; omega)
          have hal : Below wr.heap.size wr (wr.alloc (.cells #[.slice (some ⟨b1, o1 + 1, none⟩) t.length (c1 - 1)] 22)) := b_alloc _ _
          have ho := own_below j2 hal
          clear j1 j2 j3 j4
          go_wp2_with (at_builtin; refine wpList_append_own _ rfl _ _ 23 rfl w.heap.size 22 i1 _ 1 24 Try.underlying23 hi1 hy0 hy1 hy2 rfl (by decide) v _ _ rfl ho ⟨wr.heap.size, 0, none⟩ 1 1 [.slice (some ⟨b1, o1 + 1, none⟩) t.length (c1 - 1)] rfl rfl (cell_one_new _ _ _) (by simp [Value.oneCell']) (by unfold maxLen; omega) (by omega) (by rw [size_alloc_]; omega) ?_; intro v1 w3 hown hgr _)
          have hbw : Below w.heap.size wr w3 := ((Below.refl _ _).alloc hbs _).grown hgr (by rw [size_alloc_]; omega) (fun g hg => (ho.lt g hg).1)
          have HN := Lib.hid (RestB.snoc hlo J1.out ho (fun i x t hx ht => by have := J4.out i x t hx ht; exact ⟨RowK.keeps _ _ _ _ _ (fun p hp => (hal.mono (Nat.le_trans hlo hbs)).cell hp) this.1, Nat.le_trans this.2 hal.size⟩) (show (RowK L0) (wr.alloc (.cells #[.slice (some ⟨b1, o1 + 1, none⟩) t.length (c1 - 1)] 22)) lo _ t from RowK.keeps _ _ _ _ _ (fun p hp => (hal.mono (Nat.le_trans hlo hbs)).cell hp) HT.out) (by rw [size_alloc_]; omega) (by omega) hown hgr)
          clear hown hgr hal ho
          go_roundw
          case rel => exact ⟨k + 1, _, by omega, by go_num, rfl, Lib.hid (by rw [HST.out, if_pos (by have := HE.out; simpa using this)]; exact HN.out), hb.trans hbw⟩
          case measure => simp [intOf]; omega
    · obtain rfl : k = n := by omega
      go_wp2_with fail
      go_ret
      exact ⟨_, rfl, by have := hq.out; rwa [← HL.out, List.take_length] at this, hb⟩
end Go.Proofs.Ytfmdgdamelkelaa
