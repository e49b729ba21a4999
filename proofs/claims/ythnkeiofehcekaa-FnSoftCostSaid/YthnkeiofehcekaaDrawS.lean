/- Draws of weighted constraints. -/
import Derived.Test.YthnkeiofehcekaaDrawR
import Derived.Test.YthnkeiofehcekaaCost
namespace Go.Proofs.Ythnkeiofehcekaa
open Go.ChangeShapes Go.WideShapes Go.ChangeAt Go.RowKit
open Go.Shelf
set_option linter.unusedVariables false
set_option maxRecDepth 100000

/-- the cells of a new block, as what an append takes. -/
theorem src_new (w : World) (cs : List Value) (t : TypeId) (m size c : Nat) (h : cs.length = m * size) : Src (w.alloc (.cells cs.toArray t)) size (some ⟨w.heap.size, 0, none⟩) m c cs :=
  .inr ⟨_, rfl, h, fun j u hj => by
    have : (⟨w.heap.size, 0, none⟩ : Addr).add j = ⟨w.heap.size, j, none⟩ := by simp [Addr.add, eq_comm]
    rw [this, World.cell?_alloc_at _ _ _ _ rfl]
    simpa using hj⟩
theorem OwnSofU.grows {e : TypeId} (h1 : 3 ≠ e) (h2 : 24 ≠ e) : Grows e OwnSofU := fun w w' base base0 n size v ys us x h hg ho => by
  obtain ⟨vv, av, rv, e1, k1, k2, k3⟩ := ho
  exact ⟨vv, av, rv, e1, k1.grown h1 h hg, k2.grown h1 h hg, OwnRows.grown h1 h2 h hg k3⟩
theorem OwnSofU.butG {w w' : World} {base g : Nat} {us : List Value} {s : Sof} (h : OwnSofU w base us s) (hb : ButG g w.heap.size w w') (hg : g < base) : OwnSofU w' base us s := by
  obtain ⟨vv, av, rv, e1, k1, k2, k3⟩ := h
  exact ⟨vv, av, rv, e1, k1.butG hb hg, k2.butG hb hg, OwnRows.butG k3 hb hg⟩
theorem OwnK.butG {α : Type} {e : TypeId} {m : Nat} {In : World → Nat → List Value → α → Prop} {w w' : World} {base g : Nat} {v : Value} {xs : List α} (hI : ∀ us x, In w base us x → In w' base us x) (h : OwnK e m In w base v xs) (hb : ButG g w.heap.size w w') (hg : g < base) : OwnK e m In w' base v xs := by
  obtain ⟨uss, h1, h0, h2, h3, h4⟩ := h
  exact ⟨uss, h1, h0, own_butG h2 hb hg, h3, fun i u x hu hx => hI _ _ (h4 i u x hu hx)⟩
theorem OwnSofs.butG {w w' : World} {base g : Nat} {v : Value} {xs : List Sof} (h : OwnSofs w base v xs) (hb : ButG g w.heap.size w w') (hg : g < base) : OwnSofs w' base v xs := OwnK.butG (fun us x h => OwnSofU.butG h hb hg) h hb hg
/-- the first one's weight is stored. -/
theorem OwnSofs.weight {w : World} {base n c g : Nat} {xs : List Sof} {s : Sof} (h : OwnSofs w base (.slice (some ⟨g, 0, none⟩) n c) (s :: xs)) (y : Int) : OwnSofs (w.setCell ⟨g, 5, none⟩ (.int .i64 y)) base (.slice (some ⟨g, 0, none⟩) n c) ({ s with weight := y } :: xs) := by
  obtain ⟨uss, h1, h0, h2, h3, h4⟩ := h
  obtain ⟨u0, rest, rfl⟩ : ∃ u0 rest, uss = u0 :: rest := by
    cases uss with
    | nil => simp at h1
    | cons a b => exact ⟨a, b, rfl⟩
  have hu6 := h0 u0 (by simp)
  have hn : n = (s :: xs).length := by
    rcases h2.2 with ⟨e, -⟩ | ⟨g', cap, cur, e, -⟩
    · injection e with e1; cases e1
    · injection e with _ e2
  subst hn
  obtain ⟨cur, hb⟩ := own_block h2
  have hs := h2.stored 5 (.int .i64 y)
  have hI : ∀ us x, OwnSofU w base us x → OwnSofU (w.setCell ⟨g, 5, none⟩ (.int .i64 y)) base us x := fun us x hx => OwnSofU.shuns _ _ _ _ _ 5 _ _ _ hb hx
  refine ⟨(u0.set 5 (.int .i64 y)) :: rest, by simpa using h1, fun u hu => ?_, ?_, by simpa using h3, fun i u x hu hx => ?_⟩
  · rcases List.mem_cons.1 hu with h | h
    · rw [h, List.length_set]; exact hu6
    · exact h0 u (List.mem_cons_of_mem _ h)
  · have := hs.1
    rw [List.flatten_cons, List.set_append_left _ _ (by rw [hu6]; omega)] at this
    simpa using this
  · cases i with
    | zero =>
      simp at hu hx
      subst hu hx
      obtain ⟨vv, av, rv, e1, k1, k2, k3⟩ := hI _ _ (h4 0 u0 s rfl rfl)
      injection e1 with e1
      have e2 : u0 = [.int .i64 s.con.kind, vv, av, .int .i64 s.con.bound, rv, .int .i64 s.weight] := by simpa using congrArg Array.toList e1
      subst e2
      exact ⟨vv, av, rv, rfl, k1, k2, k3⟩
    | succ i => exact hI _ _ (h4 (i + 1) u x (by simpa using hu) (by simpa using hx))
set_option maxHeartbeats 8000000 in
theorem softList (base g n c p : Nat) (A : Option Addr) (bs : List Int) (m : Nat) (w : World) (h : Rd w base g A n c bs p) (hp : p ≤ 800000) (hm1 : 1 ≤ m) (hm4 : m ≤ 4) :
    Calls Try.prog 37 #[.pointer (some ⟨g, 0, none⟩), .int .i64 m] w fun e w' => ∃ (v : Value) (xs : List Sof) (q : Nat), e = .returned v ∧ OwnSofs w' w.heap.size v xs ∧ xs.length ≤ 3 ∧ q ≤ p + 900 ∧ Rd w' base g A n c bs q ∧ ButG g w.heap.size w w' := by
  obtain ⟨i2, hi2, hx0, hx1, hx2⟩ := info_parts (P := Try.prog) (e := 35) (z := .agg #[.int .i64 0, .slice none 0 0, .slice none 0 0, .int .i64 0, .slice none 0 0, .int .i64 0]) (size := 6) (bytes := 96) (by kernel_rfl)
  have hg : g < w.heap.size := (Array.getElem?_eq_some_iff.1 h.block).1
  obtain ⟨wa, hwa⟩ : ∃ wa, wa = w.alloc (.cells #[] 35) := ⟨_, rfl⟩
  have hba : Below w.heap.size w wa := by rw [hwa]; exact b_alloc _ _
  have ho : wa.ownsRow w.heap.size 35 6 (.slice (some ⟨w.heap.size, 0, none⟩) 0 0) 0 [] := by rw [hwa]; exact World.ownsRow_lit w #[] 0 (Nat.le_refl _) (by decide) rfl
  have HO := Lib.hid (show OwnSofs wa w.heap.size (.slice (some ⟨w.heap.size, 0, none⟩) 0 0) [] from ⟨[], rfl, by simp, ho, by simp, fun i u x hu => by simp at hu⟩)
  have hra : Rd wa base g A n c bs p := h.below hba (Nat.le_trans h.base_le (Nat.le_of_lt hg))
  have hza := hba.size
  clear h ho
  go_enter Try.func37, Try.ntmps37
  go_wp2_with fail
  rw [← hwa]
  clear hwa
  refine (pick base g n c p A bs 4 _ hra (by omega)).mono ?_
  rintro e w1 ⟨r, rfl, ⟨-, hr⟩, hd1, hb1⟩
  obtain ⟨r0, r1⟩ := hr (by omega)
  clear hr
  obtain ⟨k0, rfl⟩ := Int.eq_ofNat_of_zero_le r0
  have HO1 := Lib.hid (OwnSofs.butG HO.out hb1 hg)
  have hbt := (below_butG hba g).go hb1
  clear HO hra
  go_wp2_with fail
  go_loopw [5, 6] (fun o kk wr => ∃ (ee q : Nat) (v : Value) (xs : List Sof), ee + xs.length ≤ 3 ∧ kk = .int .i64 ee ∧ v = o ∧ Hid (OwnSofs wr w.heap.size v xs) ∧ q ≤ p + 1 + 201 * xs.length ∧ Rd wr base g A n c bs q ∧ ButG g w.heap.size w wr) (fun _ kk _ => (intOf kk).toNat)
  case atStart => exact ⟨k0, p + 1, _, [], by simp; omega, rfl, rfl, HO1, by simp, hd1, hbt⟩
  case round =>
    obtain ⟨ee, q, v, xs, hl3, rfl, rfl, hq, hqp, hd, hb⟩ := hrel
    clear HO1 hd1 hbt hb1
    rename World => wr
    have hzw := hb.size
    by_cases hlt : 0 < ee
    · obtain ⟨e1, rfl⟩ : ∃ e1, ee = e1 + 1 := ⟨ee - 1, by omega⟩
      have t5 : decide ((0 : Int) < ((e1 + 1 : Nat) : Int)) = true := decide_eq_true (by omega)
      go_wp2_with fail
      refine (randomConstraint base g n c q A bs m _ hd (by omega) hm1 hm4).mono ?_
      rintro e w2 ⟨cv, kc, q2, rfl, hoc, -, -, hq2, hd2, hb2⟩
      obtain ⟨vv, av, rv, rfl, o1, o2, o3⟩ := hoc
      obtain ⟨A1, c1, rfl, -⟩ := o1.read
      obtain ⟨A2, c2, rfl, -⟩ := o2.read
      obtain ⟨A3, c3, rfl, -⟩ := read2 o3
      have hz2 := hb2.size
      have O := Lib.hid (show OwnSof w2 w.heap.size (.agg #[.int .i64 kc.kind, .slice A1 kc.vars.length c1, .slice A2 kc.args.length c2, .int .i64 kc.bound, .slice A3 kc.rows.length c3, .int .i64 0]) ⟨kc, 0⟩ from ⟨_, _, _, rfl, (OwnI.stays 3).base _ _ _ _ _ hzw o1, (OwnI.stays 3).base _ _ _ _ _ hzw o2, (OwnOf.stays (OwnI.stays 3)).base _ _ _ _ _ hzw o3⟩)
      clear o1 o2 o3 hd
      go_wp2_with fail
      refine (pick base g n c q2 A bs 9 _ hd2 (by omega)).mono ?_
      rintro e w3 ⟨r9, rfl, ⟨-, hr⟩, hd3, hb3⟩
      obtain ⟨r90, r91⟩ := hr (by omega)
      have hz3 := hb3.size
      clear hr hd2
      obtain ⟨wt, hwt⟩ : ∃ wt : Int, 1 + r9 = wt := ⟨_, rfl⟩
      have hb23 := hb2.go hb3
      have O2 := Lib.hid (show OwnSofU w3 w.heap.size [.int .i64 kc.kind, .slice A1 kc.vars.length c1, .slice A2 kc.args.length c2, .int .i64 kc.bound, .slice A3 kc.rows.length c3, .int .i64 wt] ⟨kc, wt⟩ from by
        obtain ⟨vv, av, rv, e1, k1, k2, k3⟩ := O.out
        injection e1 with e1
        simp only [Array.mk.injEq, List.cons.injEq, and_true, true_and] at e1
        obtain ⟨rfl, rfl, rfl⟩ := e1
        exact ⟨_, _, _, rfl, k1.butG hb3 hg, k2.butG hb3 hg, OwnRows.butG k3 hb3 hg⟩)
      obtain ⟨uss, u1, u0, u2, u3, u4⟩ := OwnSofs.butG hq.out hb23 hg
      have U := Lib.hid (And.intro u1 (And.intro u0 u4))
      have hr0 := u2.lt
      clear u1 u0 u4 O hq
      have hszz : w3.heap.size < (w3.alloc (.cells #[.int .i64 kc.kind, .slice A1 kc.vars.length c1, .slice A2 kc.args.length c2, .int .i64 kc.bound, .slice A3 kc.rows.length c3, .int .i64 wt] 35)).heap.size := by rw [size_alloc_]; omega
      go_wp2_with (at_builtin; refine wpList_append_any rfl _ _ 23 rfl w.heap.size 35 i2 _ 6 96 Try.underlying23 hi2 hx0 hx1 hx2 rfl (by decide) v _ _ rfl (own_below u2 (b_alloc _ _)) (some ⟨w3.heap.size, 0, none⟩) 1 1 [.int .i64 kc.kind, .slice A1 kc.vars.length c1, .slice A2 kc.args.length c2, .int .i64 kc.bound, .slice A3 kc.rows.length c3, .int .i64 wt] rfl (src_new w3 _ _ 1 6 1 rfl) (by simp [Value.oneCell']) (by unfold maxLen; omega) (by omega) (by omega) ?_; intro v1 w4 hown hbw hgr hnn)
      have hal : Below w3.heap.size w3 (w3.alloc (.cells #[.int .i64 kc.kind, .slice A1 kc.vars.length c1, .slice A2 kc.args.length c2, .int .i64 kc.bound, .slice A3 kc.rows.length c3, .int .i64 wt] 35)) := b_alloc _ _
      have hsn := OwnK.snoc (OwnSofU.grows (e := 35) (by decide) (by decide)) U.out.1 U.out.2.1 (own_below u2 hal) (fun i u x hu hx => OwnSofU.stays.below _ _ _ _ _ hal (U.out.2.2 i u x hu hx)) (OwnSofU.stays.below _ _ _ _ _ hal O2.out) rfl (by omega) hown hgr
      have HSN := Lib.hid hsn
      have hal2 : Below w.heap.size w3 w4 := (hal.mono (by omega)).trans hbw
      clear hsn hown hgr u2 hnn
      go_roundw
      case rel => exact ⟨e1, q2 + 1, v1, xs ++ [⟨kc, wt⟩], by simp; omega, by go_num, rfl, HSN, by simp; omega, hd3.under hal2 hg, (hb.go hb23).trans (below_butG hal2 g)⟩
      case measure => simp [intOf]
    · obtain rfl : ee = 0 := by omega
      have t5 : decide ((0 : Int) < ((0 : Nat) : Int)) = false := by decide
      obtain ⟨A1, c1, rfl, -, -⟩ := OwnSofs.read hq.out
      cases xs with
      | nil =>
        go_wp2_with fail
        go_ret
        exact ⟨_, [], q, rfl, hq.out, by simp, by omega, hd, hb⟩
      | cons s xs =>
        obtain ⟨g2, rfl, hg2⟩ : ∃ g2 : Nat, A1 = some ⟨g2, 0, none⟩ ∧ w.heap.size ≤ g2 := by
          obtain ⟨uss, -, -, u2, -⟩ := hq.out
          rcases u2.2 with ⟨e, -⟩ | ⟨g2, cap, cur, e, hg2, -⟩
          · injection e with _ e2; simp at e2
          · injection e with e1
            exact ⟨g2, e1, hg2⟩
        have t6 : decide ((0 : Int) < ((xs.length + 1 : Nat) : Int)) = true := decide_eq_true (by omega)
        go_wp2_with fail
        refine (pick base g n c q A bs 14 _ hd (by omega)).mono ?_
        rintro e w1 ⟨r, rfl, ⟨-, hr⟩, hd1, hb1⟩
        have hz1 := hb1.size
        have HS := Lib.hid (OwnSofs.butG hq.out hb1 hg)
        have hbb := hb.go hb1
        clear hq hr hd
        cases t7 : (r == 0)
        · go_wp2_with fail
          go_ret
          exact ⟨_, s :: xs, q + 1, rfl, HS.out, by simp at hl3 ⊢; omega, by simp at hqp hl3; omega, hd1, hbb⟩
        · obtain ⟨wb, hwb⟩ : ∃ wb, wb = w1.alloc (.cells #[.int .i64 0, .int .i64 10] 3) := ⟨_, rfl⟩
          have hbw : Below w1.heap.size w1 wb := by rw [hwb]; exact b_alloc _ _
          have hzb : wb.heap.size = w1.heap.size + 1 := by rw [hwb, size_alloc_]
          have hTb : TBlk 3 wb w1.heap.size #[.int .i64 0, .int .i64 10] := by rw [hwb]; exact TBlk.new _ _ _
          have hc0 : ∀ i x, ([0, 10] : List Int)[i]? = some x → wb.cell? ⟨w1.heap.size, i, none⟩ = some (.int .i64 x) := fun i x hx => by
            match i, hx with
            | 0, hx => simp at hx; subst hx; exact hTb.at_ 0 rfl
            | 1, hx => simp at hx; subst hx; exact hTb.at_ 1 rfl
            | i + 2, hx => simp at hx
          have hdb := hd1.under hbw (by omega)
          have HS2 := Lib.hid (OwnK.stays OwnSofU.stays |>.below _ _ _ _ _ hbw HS.out)
          have hbb2 := hbb.go (below_butG hbw g)
          clear HS hTb hbb
          go_wp2_with fail
          rw [← hwb]
          clear hwb
          refine (oneK base g n c (q + 1) w1.heap.size 2 2 A bs [0, 10] _ hdb (by simp at hqp hl3; omega) rfl (by omega) (by omega) (by omega) (by omega) hc0).mono ?_
          rintro e w2 ⟨x, rfl, -, hd2, hb2⟩
          have HS3 := Lib.hid (OwnSofs.butG HS2.out hb2 hg)
          have hbb3 := hbb2.go hb2
          obtain ⟨hc5, hf5⟩ : w2.cell? ⟨g2, 5, none⟩ = some (.int .i64 s.weight) ∧ w2.frozen? ⟨g2, 5, none⟩ = false := by
            obtain ⟨A9, c9, e9, hR, -⟩ := OwnSofs.read HS3.out
            injection e9 with e9
            subst e9
            obtain ⟨b, o, s', va, aa, ra, cv, ca, cr, e8, hb8, hx8, -, -, -, -, -, h5, -⟩ := SofR.at_ hR (i := 0) (by simp)
            injection e8 with e8
            injection e8 with e8 e7
            subst e8 e7
            simp at hx8
            subst hx8
            obtain ⟨uss, u1, u0, u2, u3, u4⟩ := HS3.out
            obtain ⟨cur, hh⟩ := own_block u2
            exact ⟨by simpa using h5, frozen_of_row _ _ _ _ _ hh⟩
          have HS4 := Lib.hid (HS3.out.weight x)
          clear HS2 HS3 hd1
          go_wp2_with fail
          go_ret
          exact ⟨_, _ :: xs, q + 1 + 1, rfl, HS4.out, by simp at hl3 ⊢; omega, by simp at hqp hl3; omega, hd2.set (by omega) 5 _, hbb3.setHi hg2 5 _⟩
set_option maxHeartbeats 4000000 in
theorem drawSoftCost (A : Option Addr) (n c : Nat) (bs : List Int) (w : World) (h : CodeA w w.heap.size A n c bs) :
    Calls Try.prog 9 #[.slice A n c] w fun e w' => ∃ (v1 v2 : Value) (ss : List Sof) (xs : List Int), e = .returned (.tuple #[v1, v2]) ∧ (ss.length ≤ 3 ∧ 1 ≤ xs.length ∧ xs.length ≤ 4 ∧ InM 6 xs) ∧ OwnSofs w' w.heap.size v1 ss ∧ w'.ownsRow w.heap.size 3 1 v2 xs.length (xs.map (.int .i64)) ∧ Below w.heap.size w w' := by
  have HN := newReader A n c bs w h
  go_enter Try.func9, Try.ntmps9
  go_wp2_with fail
  refine HN.mono ?_
  rintro e w1 ⟨g, m, c', bs', rfl, hr, hb1, hg⟩
  go_wp2_with fail
  refine (pick _ g m c' 0 A bs' 4 w1 hr (by omega)).mono ?_
  rintro e w2 ⟨r, rfl, ⟨-, hr2⟩, hq2, hb2⟩
  obtain ⟨r0, r1⟩ := hr2 (by omega)
  obtain ⟨j, hj⟩ : ∃ j : Nat, 1 + r = (j : Int) := ⟨(1 + r).toNat, by omega⟩
  have hj1 : 1 ≤ j := by omega
  have hj4 : j ≤ 4 := by omega
  clear hr r0 r1 hr2
  go_wp2_with fail
  refine (softList _ g m c' 1 A bs' j w2 hq2 (by omega) hj1 hj4).mono ?_
  rintro e w3 ⟨v1, ss, q, rfl, ho1, hl3, hq, hq3, hb3⟩
  have s1 := hb1.size
  have s2 := hb2.size
  have s3 := hb3.size
  go_wp2_with fail
  refine (randomRow _ g m c' q A bs' j w3 hq3 (by omega) (by omega)).mono ?_
  rintro e w4 ⟨v2, xs, rfl, -, hlx, hin, ho2, hq4, hb4⟩
  have s4 := hb4.size
  have OX := Lib.hid (OwnK.stays OwnSofU.stays |>.base _ _ w.heap.size _ _ (by omega) (OwnSofs.butG ho1 hb4 (by omega)))
  have OY := Lib.hid (own_base (base' := w.heap.size) ho2 (by omega))
  have hB4 : Below w.heap.size w w4 := hb1.trans (((hb2.go hb3).go hb4).below hq4.base_le s1)
  have HLX := Lib.hid hlx
  clear ho1 ho2 hb1 hb2 hb3 hb4 HN h hlx
  go_wp2_with fail
  exact bodyPost_ret (v := .tuple #[v1, v2]) (by simp [results, Try.results9, go_sem]) rfl ⟨v1, v2, ss, xs, rfl, ⟨hl3, by rw [HLX.out]; omega, by rw [HLX.out]; omega, hin⟩, OX.out, by rw [HLX.out]; exact OY.out, hB4⟩
end Go.Proofs.Ythnkeiofehcekaa
