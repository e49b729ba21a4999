/- Random models. -/
import Derived.Test.YtejfnkbdmlijbaaDrawG
import Derived.Test.YtejfnkbdmlijbaaExt
namespace Go.Proofs.Ytejfnkbdmlijbaa
open Go.ChangeShapes Go.WideShapes Go.ChangeAt Go.RowKit
open Go.Shelf
set_option linter.unusedVariables false
set_option linter.unusedSimpArgs false
set_option maxRecDepth 100000

theorem OwnConU.butG0 {w w' : World} {base g : Nat} {us : List Value} {k : Con} (h : OwnConU w base us k) (hb : ButG g w.heap.size w w') (hg : g < base) : OwnConU w' base us k := by
  obtain ⟨vv, av, rv, e1, k1, k2, k3⟩ := h
  exact ⟨vv, av, rv, e1, k1.butG hb hg, k2.butG hb hg, OwnRows.butG k3 hb hg⟩
theorem OwnK.butG0 {α : Type} {e : TypeId} {m : Nat} {In : World → Nat → List Value → α → Prop} {w w' : World} {base g : Nat} {v : Value} {xs : List α} (hI : ∀ us x, In w base us x → In w' base us x) (h : OwnK e m In w base v xs) (hb : ButG g w.heap.size w w') (hg : g < base) : OwnK e m In w' base v xs := by
  obtain ⟨uss, h1, h0, h2, h3, h4⟩ := h
  exact ⟨uss, h1, h0, own_butG h2 hb hg, h3, fun i u x hu hx => hI _ _ (h4 i u x hu hx)⟩

set_option maxHeartbeats 3000000 in
theorem randomModel (base g n c p : Nat) (A : Option Addr) (bs : List Int) (w : World) (h : Rd w base g A n c bs p) (hp : p ≤ 800000) :
    Calls Try.prog 82 #[.pointer (some ⟨g, 0, none⟩)] w fun e w' => ∃ (vs : List Value) (m : Mod) (q : Nat), e = .returned (.agg vs.toArray) ∧ OwnMod w' w.heap.size (.agg vs.toArray) m ∧ 1 ≤ m.doms.length ∧ m.doms.length ≤ 4 ∧ m.cons.length ≤ 4 ∧ (∀ k ∈ m.cons, SmC k ∧ 1 ≤ k.vars.length) ∧ q ≤ p + 900 ∧ Rd w' base g A n c bs q ∧ ButG g w.heap.size w w' := by
  obtain ⟨i0, hi0, hz0, hz1, hz2⟩ := info_parts info_int
  have hg : g < w.heap.size := (Array.getElem?_eq_some_iff.1 h.block).1
  obtain ⟨wa, hwa⟩ : ∃ wa, wa = w.alloc (.cells #[.slice none 0 0, .slice none 0 0] 26) := ⟨_, rfl⟩
  obtain ⟨wb, hwb⟩ : ∃ wb, wb = wa.alloc (.cells #[.slice none 0 0, .slice none 0 0] 26) := ⟨_, rfl⟩
  have hb0 : Below w.heap.size w wa := by rw [hwa]; exact b_alloc _ _
  have hsa : wa.heap.size = w.heap.size + 1 := by rw [hwa, size_alloc_]
  have hb1 : Below wa.heap.size wa wb := by rw [hwb]; exact b_alloc _ _
  have hsb : wb.heap.size = w.heap.size + 1 + 1 := by rw [hwb, size_alloc_, hsa]
  have hb01 := bgo hb0 hb1
  have HR : Hid (TBlk 26 wb w.heap.size #[.slice none 0 0, .slice none 0 0]) := TBlk.below_ (by rw [hwa]; exact TBlk.new _ _ _) hb1 (by omega)
  have HT : Hid (TBlk 26 wb (w.heap.size + 1) #[.slice none 0 0, .slice none 0 0]) := by rw [hwb, ← hsa]; exact TBlk.new _ _ _
  have hr0 : Rd wb base g A n c bs p := h.under hb01 hg
  clear h hb0 hb1
  go_enter Try.func82, Try.ntmps82
  go_wp2_with fail
  rw [← hwa, ← hwb]
  clear hwa hwb
  have HSB := Lib.hid hsb
  clear hsb hsa
  refine (pick base g n c p A bs 4 _ hr0 (by omega)).mono ?_
  rintro e w1 ⟨r, rfl, ⟨-, hr⟩, hd1, hbq1⟩
  obtain ⟨r0, r1⟩ := hr (by omega)
  obtain ⟨k0, rfl⟩ := Int.eq_ofNat_of_zero_le r0
  have hbt := (below_butG hb01 g).go hbq1
  have HT1 := Lib.hid (HT.out.butG hbq1 (by omega))
  have HR1 := Lib.hid (HR.out.butG hbq1 (by omega))
  have hz1' := hbq1.size
  have hwr : IntKind.i64.wrap (1 + (k0 : Int)) = ((k0 + 1 : Nat) : Int) := by rw [IntKind.wrap_i64]; omega
  clear hr hr0
  go_wp2_with fail
  have O0 := Lib.hid (show OwnI 3 w1 wb.heap.size (.slice none 0 0) [] from ⟨World.ownsRow_nil _ _ _ _, by simp⟩)
  go_loopw [4] (fun t wr => ∃ (ee q : Nat) (doms : List Int) (dv : Value), ee + doms.length = k0 + 1 ∧ t = .int .i64 ee ∧ Hid (TBlk 26 wr (w.heap.size + 1) #[dv, .slice none 0 0]) ∧ Hid (OwnI 3 wr wb.heap.size dv doms) ∧ Hid (TBlk 26 wr w.heap.size #[.slice none 0 0, .slice none 0 0]) ∧ q ≤ p + 1 + 3 * doms.length ∧ Rd wr base g A n c bs q ∧ ButG g w.heap.size w wr ∧ wb.heap.size ≤ wr.heap.size) (fun t _ => (intOf t).toNat)
  case atStart => exact ⟨k0 + 1, p + 1, [], _, by simp, by first | rfl | (congr 1; omega), HT1, O0, HR1, by simp, hd1, hbt, hz1'⟩
  case round =>
    obtain ⟨ee, q, doms, dv, hsum, rfl, ht, hq, hres, hqp, hd, hb, hzr⟩ := hrel
    clear O0 HT1 HR1 hd1 hbt
    rename World => wr
    by_cases hlt : 0 < ee
    · obtain ⟨e1, rfl⟩ : ∃ e1, ee = e1 + 1 := ⟨ee - 1, by omega⟩
      have t5 : decide ((0 : Int) < ((e1 + 1 : Nat) : Int)) = true := decide_eq_true (by omega)
      have hbd3 : Below wr.heap.size wr wr.drew := Below.drew_ (Below.refl _ _)
      have d5 : wr.drew.cell? ⟨w.heap.size + 1, 0, none⟩ = some dv := ht.out.at_ 0 rfl
      have hgb : g < wb.heap.size := by have := HSB.out; omega
      have hgw : g < wr.heap.size := by omega
      go_wp2_with fail
      go_region_law (first
        | (refine step_append_any (by rfl) _ _ 23 (by rfl) wb.heap.size 3 i0 _ 1 8 Try.underlying23 hi0 hz0 hz1 hz2 rfl (by omega) dv doms.length (doms.map (.int .i64)) (by rfl) ho6.out (some ⟨W6.heap.size, 0, none⟩) 1 [.int .i64 x] (by exact ⟨_, rfl, .inr ⟨_, rfl, rfl, cell_one_new _ _ _⟩⟩) (by simp [Value.oneCell']) (by unfold maxLen; omega) (by omega) (by rw [size_alloc_]; omega) ?_
           intro v1 W7 hown hbw hgr _
           obtain ⟨A7, c7, rfl⟩ := (HoldR.of_own hown).form
           have T7 := TBlk.grown (show (26 : TypeId) ≠ 3 by decide) T6.out ho6.out hgr
           have R7 := TBlk.grown (show (26 : TypeId) ≠ 3 by decide) R6.out ho6.out hgr
           have d7 := T7.at_ 0 rfl
           have f7 := T7.frozen 0)
        | (go_simp
           go_at_call 102
           refine (randomDomain base g n c q A bs wr.drew (hd.under hbd3 hgw) (by omega)).mono ?_
           rintro e W6 ⟨x, q6, rfl, -, hq6, hd6, hb6⟩
           have bq : ButG g wr.heap.size wr W6 := (below_butG hbd3 g).go hb6
           have t6 := ht.out.butG bq (by omega)
           have d6a := t6.at_ 0 rfl
           have d6b := fun o => (t6.on (b_alloc W6 o)).at_ 0 rfl
           have bA := b_alloc W6 (.cells #[.int .i64 x] 3)
           have T6 := Lib.hid (t6.on bA)
           have R6 := Lib.hid ((hres.out.butG bq (by omega)).on bA)
           have o6 := hq.out.butG bq hgb
           have ho6 := Lib.hid (own_below o6.1 bA)
           have z6 := bq.size
           clear t6 o6))
      all_goals
        have hza : (W6.alloc (.cells #[.int .i64 x] 3)).heap.size = W6.heap.size + 1 := size_alloc_ _ _
        have hz7 := hgr.size
        have K1 := Lib.hid (T7.store 0 (.slice A7 (doms.length + 1) c7))
        have K2 := Lib.hid (OwnI.shuns (show (26 : TypeId) ≠ 3 by decide) _ _ _ _ _ 0 _ _ (.slice A7 (doms.length + 1) c7) T7 (show OwnI 3 W7 wb.heap.size (.slice A7 (doms.length + 1) c7) (doms ++ [x]) from ⟨by simpa using hown, by simp; omega⟩))
        have K3 := Lib.hid (R7.far (j := 0) (u := .slice A7 (doms.length + 1) c7) (show w.heap.size ≠ w.heap.size + 1 by omega))
        have K4 := (((hd6.under bA (by omega)).under hbw hgb).set (b := w.heap.size + 1) (by omega) 0 (.slice A7 (doms.length + 1) c7))
        have K5 : ButG g w.heap.size w (W7.setCell ⟨w.heap.size + 1, 0, none⟩ (.slice A7 (doms.length + 1) c7)) := ((((hb.go bq).trans (below_butG (bA.mono (by have := hb.size; omega)) g)).trans (below_butG (hbw.mono (by have := HSB.out; omega)) g)).trans (below_butG ((Below.refl _ _).setCell (by simp) _) g))
        have hfz : (W7.setCell ⟨w.heap.size + 1, 0, none⟩ (.slice A7 (doms.length + 1) c7)).heap.size = W7.heap.size := by simp [World.setCell]
        clear T7 R7 d7 f7 hown hbw hgr
        go_wp2_with fail
        go_roundw
        case rel => exact ⟨e1, q6, doms ++ [x], _, by simp; omega, by go_num, K1, K2, K3, by simp; omega, K4, K5, by omega⟩
        case measure => simp [intOf]
    · obtain rfl : ee = 0 := by omega
      have t5 : decide ((0 : Int) < ((0 : Nat) : Int)) = false := by decide
      go_wp2_with fail
      refine (pick base g n c q A bs 5 _ hd (by omega)).mono ?_
      rintro e w2 ⟨r2, rfl, ⟨-, hr⟩, hd2, hb2⟩
      obtain ⟨r20, r21⟩ := hr (by omega)
      obtain ⟨k2, rfl⟩ := Int.eq_ofNat_of_zero_le r20
      clear hr
      obtain ⟨i1, hi1, hy0, hy1, hy2⟩ := info_parts (P := Try.prog) (e := 35) (z := .agg #[.int .i64 0, .slice none 0 0, .slice none 0 0, .int .i64 0, .slice none 0 0]) (size := 5) (bytes := 88) (by kernel_rfl)
      have hgb : g < wb.heap.size := by have := HSB.out; omega
      obtain ⟨A0, c0, rfl⟩ := hq.out.form
      have HT2 := Lib.hid (ht.out.butG hb2 (by omega))
      have HQ2 := Lib.hid (hq.out.butG hb2 hgb)
      have HR2 := Lib.hid (hres.out.butG hb2 (by omega))
      have hbt2 := hb.go hb2
      have hz2' := hb2.size
      have hdn := Lib.hid (show doms.length = k0 + 1 by omega)
      have hdl1 : 1 ≤ doms.length := by omega
      have hdl4 : doms.length ≤ 4 := by omega
      clear hsum
      clear ht hq hres hb hd
      go_wp2_with fail
      have O1 := Lib.hid (OwnCons.nil0 w2 wb.heap.size)
      go_loopw [5] (fun t wr => ∃ (ee q1 : Nat) (cons : List Con) (cv : Value), ee + cons.length = k2 ∧ t = .int .i64 ee ∧ Hid (TBlk 26 wr (w.heap.size + 1) #[.slice A0 doms.length c0, cv]) ∧ Hid (OwnI 3 wr wb.heap.size (.slice A0 doms.length c0) doms) ∧ Hid (OwnCons wr wb.heap.size cv cons) ∧ Hid (∀ k ∈ cons, SmC k ∧ 1 ≤ k.vars.length) ∧ Hid (TBlk 26 wr w.heap.size #[.slice none 0 0, .slice none 0 0]) ∧ q1 ≤ q + 1 + 200 * cons.length ∧ Rd wr base g A n c bs q1 ∧ ButG g w.heap.size w wr ∧ wb.heap.size ≤ wr.heap.size) (fun t _ => (intOf t).toNat)
      case atStart => exact ⟨k2, q + 1, [], _, by simp, rfl, HT2, HQ2, O1, fun k hk => by simp at hk, HR2, by simp, hd2, hbt2, by omega⟩
      case round =>
        obtain ⟨ee, q1, cons, cv, hsum2, rfl, ht, hdm, hq, hsm, hres, hqp1, hd, hb, hzr⟩ := hrel
        clear O1 HT2 HQ2 HR2 hd2 hbt2
        rename World => wr
        have hzw := hb.size
        by_cases hlt : 0 < ee
        · obtain ⟨e1, rfl⟩ : ∃ e1, ee = e1 + 1 := ⟨ee - 1, by omega⟩
          have t5 : decide ((0 : Int) < ((e1 + 1 : Nat) : Int)) = true := decide_eq_true (by omega)
          have hbd3 : Below wr.heap.size wr wr.drew := Below.drew_ (Below.refl _ _)
          have d5 : wr.drew.cell? ⟨w.heap.size + 1, 1, none⟩ = some cv := ht.out.at_ 1 rfl
          have d4 : wr.drew.cell? ⟨w.heap.size + 1, 0, none⟩ = some (.slice A0 doms.length c0) := ht.out.at_ 0 rfl
          have hgw : g < wr.heap.size := by omega
          go_wp2_with fail
          go_region_law (first
            | (refine step_append_any (by rfl) _ _ 24 (by rfl) wb.heap.size 35 i1 _ 5 88 Try.underlying24 hi1 hy0 hy1 hy2 rfl (by omega) cv cons.length uss.flatten (by rfl) ho6.out (some ⟨W6.heap.size, 0, none⟩) 1 [.int .i64 kc.kind, .slice A1 kc.vars.length c1, .slice A2 kc.args.length c2, .int .i64 kc.bound, .slice A3 kc.rows.length c3] (by exact ⟨_, rfl, src_blk (t := 35) (TBlk.new _ _ _) (by simp)⟩) (by simp [Value.oneCell']) (by unfold maxLen; omega) (by omega) (by rw [size_alloc_]; omega) ?_
               intro v1 W7 hown hbw hgr _
               obtain ⟨A7, c7, rfl⟩ := (HoldR.of_own hown).form
               have T7 := TBlk.grown (show (26 : TypeId) ≠ 35 by decide) T6.out ho6.out hgr
               have R7 := TBlk.grown (show (26 : TypeId) ≠ 35 by decide) R6.out ho6.out hgr
               have d7 := T7.at_ 1 rfl
               have f7 := T7.frozen 1)
            | (go_simp
               go_at_call 95
               refine (randomConstraint base g n c q1 A bs doms.length wr.drew (hd.under hbd3 hgw) (by omega) (by omega) (by omega)).mono ?_
               rintro e W6 ⟨vk, kc, q6, rfl, hoc, hk1, hsmk, hq6, hd6, hb6⟩
               obtain ⟨usk, rfl, hcr⟩ := OwnCon.read hoc
               obtain ⟨A1, A2, A3, c1, c2, c3, rfl, -⟩ := hcr
               have bq : ButG g wr.heap.size wr W6 := (below_butG hbd3 g).go hb6
               have t6 := ht.out.butG bq (by omega)
               have d6a := t6.at_ 1 rfl
               have d6b := fun o => (t6.on (b_alloc W6 o)).at_ 1 rfl
               have d6c := t6.at_ 0 rfl
               have d6d := fun o => (t6.on (b_alloc W6 o)).at_ 0 rfl
               have bA := b_alloc W6 (.cells #[.int .i64 kc.kind, .slice A1 kc.vars.length c1, .slice A2 kc.args.length c2, .int .i64 kc.bound, .slice A3 kc.rows.length c3] 35)
               have T6 := Lib.hid (t6.on bA)
               have R6 := Lib.hid ((hres.out.butG bq (by omega)).on bA)
               have D6 := Lib.hid ((OwnI.stays 3).below _ _ _ _ _ bA (hdm.out.butG bq hgb))
               obtain ⟨uss, u1, u0, u2, u3, u4⟩ := (OwnK.stays OwnConU.stays).below _ _ _ _ _ bA (OwnK.butG0 (fun u x hx => OwnConU.butG0 hx bq hgb) hq.out bq hgb)
               have HU := Lib.hid (And.intro u1 (And.intro u0 (And.intro u2 u4)))
               have ho6 := Lib.hid u2
               have HC6 := Lib.hid (show OwnConU (W6.alloc (.cells #[.int .i64 kc.kind, .slice A1 kc.vars.length c1, .slice A2 kc.args.length c2, .int .i64 kc.bound, .slice A3 kc.rows.length c3] 35)) wb.heap.size [.int .i64 kc.kind, .slice A1 kc.vars.length c1, .slice A2 kc.args.length c2, .int .i64 kc.bound, .slice A3 kc.rows.length c3] kc from OwnConU.stays.below _ _ _ _ _ bA (OwnConU.stays.base _ _ _ _ _ hzr hoc))
               have z6 := bq.size
               clear u1 u0 u2 u3 u4 t6))
          all_goals
            have hza : (W6.alloc (.cells #[.int .i64 kc.kind, .slice A1 kc.vars.length c1, .slice A2 kc.args.length c2, .int .i64 kc.bound, .slice A3 kc.rows.length c3] 35)).heap.size = W6.heap.size + 1 := size_alloc_ _ _
            have hz7 := hgr.size
            have K1 := Lib.hid (T7.store 1 (.slice A7 (cons.length + 1) c7))
            have K2 := Lib.hid (OwnK.shuns (show (26 : TypeId) ≠ 35 by decide) OwnConU.shunsM _ _ _ _ _ 1 _ _ (.slice A7 (cons.length + 1) c7) T7
              (OwnK.snoc (OwnConU.grows (show (3 : TypeId) ≠ 35 by decide) (show (23 : TypeId) ≠ 35 by decide)) HU.out.1 HU.out.2.1 HU.out.2.2.1 HU.out.2.2.2 HC6.out rfl (by omega) hown hgr))
            have KD := Lib.hid (OwnI.shuns (show (26 : TypeId) ≠ 3 by decide) _ _ _ _ _ 1 _ _ (.slice A7 (cons.length + 1) c7) T7 (OwnI.grown (show (3 : TypeId) ≠ 35 by decide) ho6.out hgr D6.out))
            have K3 := Lib.hid (R7.far (j := 1) (u := (.slice A7 (cons.length + 1) c7)) (show w.heap.size ≠ w.heap.size + 1 by omega))
            have K4 := (((hd6.under bA (by omega)).under hbw hgb).set (b := w.heap.size + 1) (by omega) 1 (.slice A7 (cons.length + 1) c7))
            have K5 : ButG g w.heap.size w (W7.setCell ⟨w.heap.size + 1, 1, none⟩ (.slice A7 (cons.length + 1) c7)) := ((((hb.go bq).trans (below_butG (bA.mono (by have := hb.size; omega)) g)).trans (below_butG (hbw.mono (by have := HSB.out; omega)) g)).trans (below_butG ((Below.refl _ _).setCell (by simp) _) g))
            have KS := Lib.hid (show ∀ k ∈ cons ++ [kc], SmC k ∧ 1 ≤ k.vars.length from fun k hk => by
              rcases List.mem_append.1 hk with h1 | h1
              · exact hsm.out k h1
              · rw [List.mem_singleton.1 h1]; exact ⟨hsmk, hk1⟩)
            have hfz : (W7.setCell ⟨w.heap.size + 1, 1, none⟩ (.slice A7 (cons.length + 1) c7)).heap.size = W7.heap.size := by simp [World.setCell]
            clear T7 R7 d7 f7 hown hbw hgr d6a d6b d6c d6d d5 d4 hsmk hk1 hoc
            go_wp2_with fail
            go_roundw
            case rel => exact ⟨e1, q6, cons ++ [kc], _, by simp; omega, by go_num, K1, KD, K2, KS, K3, by simp; omega, K4, K5, by omega⟩
            case measure => simp [intOf]
        · obtain rfl : ee = 0 := by omega
          have t5 : decide ((0 : Int) < ((0 : Nat) : Int)) = false := by decide
          obtain ⟨Ac, cc, rfl⟩ := OwnK.form hq.out
          have x0 := ht.out.at_ 0 rfl
          have x1 := ht.out.at_ 1 rfl
          have y0 := hres.out.at_ 0 rfl
          have y1 := hres.out.at_ 1 rfl
          have f0 := hres.out.frozen 0
          have f1 := hres.out.frozen 1
          obtain ⟨wf, hwf⟩ : ∃ wf, wf = (wr.setCell ⟨w.heap.size, 0, none⟩ (.slice A0 doms.length c0)).setCell ⟨w.heap.size, 1, none⟩ (.slice Ac cons.length cc) := ⟨_, rfl⟩
          have R1 := hres.out.store 0 (.slice A0 doms.length c0)
          have TF : TBlk 26 wf w.heap.size #[.slice A0 doms.length c0, .slice Ac cons.length cc] := by rw [hwf]; exact R1.store 1 _
          have OF : OwnMod wf wb.heap.size (.agg #[.slice A0 doms.length c0, .slice Ac cons.length cc]) ⟨doms, cons⟩ := by
            rw [hwf]
            exact ⟨_, _, rfl, OwnI.shuns (show (26 : TypeId) ≠ 3 by decide) _ _ _ _ _ 1 _ _ _ R1 (OwnI.shuns (show (26 : TypeId) ≠ 3 by decide) _ _ _ _ _ 0 _ _ _ hres.out hdm.out), OwnK.shuns (show (26 : TypeId) ≠ 35 by decide) OwnConU.shunsM _ _ _ _ _ 1 _ _ _ R1 (OwnK.shuns (show (26 : TypeId) ≠ 35 by decide) OwnConU.shunsM _ _ _ _ _ 0 _ _ _ hres.out hq.out)⟩
          have DF : Rd wf base g A n c bs q1 := by rw [hwf]; exact (hd.set (b := w.heap.size) (by omega) 0 _).set (b := w.heap.size) (by omega) 1 _
          have BF : ButG g w.heap.size w wf := by rw [hwf]; exact (hb.setHi (b := w.heap.size) (Nat.le_refl _) 0 _).setHi (b := w.heap.size) (Nat.le_refl _) 1 _
          have t0 := TF.at_ 0 rfl
          have t1 := TF.at_ 1 rfl
          have HF := Lib.hid (And.intro OF (And.intro DF (And.intro BF hwf)))
          have HK := Lib.hid (And.intro hsm.out (And.intro hdn.out hsum2))
          clear OF DF BF TF hwf R1 ht hres hq hdm hd hb hsm hdn hsum2
          go_wp2_with fail
          rw [← HF.out.2.2.2]
          refine bodyPost_ret (v := .agg #[.slice A0 doms.length c0, .slice Ac cons.length cc]) ?_ rfl ?_
          · simp [results, Try.results82, go_sem, t0, t1]
          · exact ⟨[.slice A0 doms.length c0, .slice Ac cons.length cc], ⟨doms, cons⟩, q1, rfl, OwnMod.base_ HF.out.1 (by have := HSB.out; omega), by show 1 ≤ doms.length; have := HK.out.2.1; omega, by show doms.length ≤ 4; have := HK.out.2.1; omega, by show cons.length ≤ 4; have := HK.out.2.2; omega, HK.out.1, by have := HK.out; omega, HF.out.2.1, HF.out.2.2.1⟩
end Go.Proofs.Ytejfnkbdmlijbaa
