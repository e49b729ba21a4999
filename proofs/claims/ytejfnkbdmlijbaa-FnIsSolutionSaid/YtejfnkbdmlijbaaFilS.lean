/- spec's Filter. -/
import Derived.Test.YtejfnkbdmlijbaaFil
namespace Go.Proofs.Ytejfnkbdmlijbaa
open Go.ChangeShapes Go.WideShapes Go.ChangeAt Go.RowKit
open Go.Shelf
set_option linter.unusedVariables false
set_option maxRecDepth 100000
attribute [local go_sem] Oper.semAt_some

theorem set_same {xs : List Int} {k : Nat} {a : Int} (h : xs[k]? = some a) : xs.set k a = xs := by
  refine List.ext_getElem? fun j => ?_
  rw [List.getElem?_set]
  split
  · rename_i e
    subst e
    split
    · exact h.symm
    · rename_i hn
      rw [List.getElem?_eq_none (by omega)]
  · rfl
set_option maxHeartbeats 16000000 in
theorem swalk (bE gx gs m n cd : Nat) (c : Con) (va aa ra : Option Addr) (cv ca cr : Nat) (ds : List Int) (A : Option Addr) (w0 : World) (hc : ConR w0 w0.heap.size [.int .i64 c.kind, .slice va c.vars.length cv, .slice aa c.args.length ca, .int .i64 c.bound, .slice ra c.rows.length cr] c)
    (hd : IntR w0 w0.heap.size A n ds) (hdm : Doms ds) (hvc : vconF c n = true) (h4 : n ≤ 4) (hm : c.vars.length = m) (hg : w0.heap.size ≤ bE ∧ w0.heap.size ≤ gx ∧ w0.heap.size ≤ gs) (hxs : gx ≠ gs) :
    ∀ (r : Nat) (t : List Int) (vis : List (List Int)) (W : World), t.length + r = m → PreDs (wordF c.vars ds) t → Below w0.heap.size w0 W →
      TBlk 106 W bE #[.int .i64 c.kind, .slice va m cv, .slice aa c.args.length ca, .int .i64 c.bound, .slice ra c.rows.length cr, .slice A n cd, .slice (some ⟨gx, 0, none⟩) m m, .slice (some ⟨gs, 0, none⟩) m m] → Front m W gx t → TBlk 3 W gs (ints (supV c m vis)) → OkT m vis →
      Calls Try.prog 109 #[.pointer (some ⟨bE, 0, none⟩), .int .i64 t.length] W fun e W' => (∃ v, e = .returned v) ∧ Below w0.heap.size w0 W' ∧
        TBlk 106 W' bE #[.int .i64 c.kind, .slice va m cv, .slice aa c.args.length ca, .int .i64 c.bound, .slice ra c.rows.length cr, .slice A n cd, .slice (some ⟨gx, 0, none⟩) m m, .slice (some ⟨gs, 0, none⟩) m m] ∧ Front m W' gx t ∧ TBlk 3 W' gs (ints (supV c m (vis ++ extT (wordF c.vars ds) t))) ∧ OkT m (vis ++ extT (wordF c.vars ds) t) := by
  obtain ⟨hv1, hv2, hv3⟩ := vcon_vars hvc h4
  have hvr : IntR w0 w0.heap.size va m c.vars := by
    obtain ⟨va', aa', ra', cv', ca', cr', e, g1, g2, g3, -⟩ := hc
    injection e with e1 e2
    injection e2 with e2 e3
    injection e2 with e2 e4 e5
    subst e2
    rw [hm] at g1
    exact g1
  intro r
  induction r with
  | zero =>
    intro t vis W htr hpre hb hE hX hS hok
    obtain rfl : t.length = m := by omega
    have hmem := hpre.mem (by rw [wordF_len]; omega)
    have hsat := (sat_tup hvc h4 hmem).1
    have hok2 : OkT t.length (vis ++ [t]) := hok.snoc rfl (fun v hv => by
      obtain ⟨h1, h2⟩ := mem_allT.1 hmem
      obtain ⟨j, hj, e⟩ := List.getElem_of_mem hv
      have := h2 j ((wordF c.vars ds)[j]'(by omega)) v (List.getElem?_eq_getElem _) (by rw [List.getElem?_eq_getElem hj, e])
      exact ⟨this.1, this.2.1⟩)
    rw [extT_full (by rw [wordF_len]; omega)]
    have hcon := ConR.on hc hb
    have hint := hX.intR rfl (by omega)
    have c0 := hE.at_ 0 rfl
    have c1 := hE.at_ 1 rfl
    have c2 := hE.at_ 2 rfl
    have c3 := hE.at_ 3 rfl
    have c4 := hE.at_ 4 rfl
    have c6 := hE.at_ 6 rfl
    have hl4 : t.length ≤ 4 := by omega
    have hsupd := (supV_ok (c := c) hok).1
    have hsupl := (supV_ok (c := c) hok).2
    obtain ⟨m, hk⟩ : ∃ k, t.length = k := ⟨_, rfl⟩
    rw [hm, hk] at hcon
    have HSL := Lib.hid hsupl
    rw [hk] at c1 c6 hint hE hX hl4 hS hok2 hsupd ⊢
    have HSD := Lib.hid hsupd
    simp only [List.getElem_toArray, List.getElem_cons_zero, List.getElem_cons_succ] at c0 c1 c2 c3 c4 c6
    have HQ := Lib.hid (And.intro hsat (And.intro hcon (And.intro hint (And.intro hE (And.intro hX (And.intro hS hb))))))
    have HOK := Lib.hid hok2
    have HTL := Lib.hid hk
    clear hsat hcon hint hE hX hb hmem hpre htr hvr hc hd hdm hvc hk hm hok hok2 hsupd hsupl hS
    go_enter Try.func109, Try.ntmps109
    go_wp2_with fail
    go_still_tail 8, (by kernel_rfl)
    go_wp2_with fail
    obtain ⟨g1, g2, g3, g4, g5, g7, g6⟩ := HQ.out
    have hbd : Below W.heap.size W W.drew := below_drewN (Below.refl _ _) 1
    refine (ssatisfies _ c _ _ _ t W.drew (ConR.on g2 hbd) (IntR.on g3 hbd) g1).mono ?_
    rintro e W3 ⟨rfl, hb3⟩
    have HQ3 := Lib.hid (And.intro (bgo g6 (bgo hbd hb3)) (And.intro (g4.below_ (bgo hbd hb3) g4.lt) (And.intro (g5.on (bgo hbd hb3)) (g7.below_ (bgo hbd hb3) g7.lt))))
    clear g1 g2 g3 g4 g5 g6 g7 hbd hb3 HQ c0 c1 c2 c3 c4 c6
    cases hst : satF c t
    · have HST := Lib.hid (show supV c m (vis ++ [t]) = supV c m vis by rw [supV_snoc]; unfold stepV; rw [hst]; rfl)
      clear hst
      go_wp2_with fail
      refine bodyPost_ret (results_none rfl _ _ _) rfl ?_
      obtain ⟨g1, g2, g3, g4⟩ := HQ3.out
      exact ⟨⟨_, rfl⟩, g1, g2, g3, by rw [HST.out]; exact g4, HOK.out⟩
    · have HST := Lib.hid (show supV c m (vis ++ [t]) = List.zipWith orB (supV c m vis) t by rw [supV_snoc]; unfold stepV; rw [hst]; rfl)
      clear hst
      go_wp2_with fail
      let QI : Nat → World → Prop := fun q W' => Below w0.heap.size w0 W' ∧ TBlk 106 W' bE #[.int .i64 c.kind, .slice va m cv, .slice aa c.args.length ca, .int .i64 c.bound, .slice ra c.rows.length cr, .slice A n cd, .slice (some ⟨gx, 0, none⟩) m m, .slice (some ⟨gs, 0, none⟩) m m] ∧ Front m W' gx t ∧ TBlk 3 W' gs (ints (updTo (supV c m vis) t q))
      have hQ0 : QI 0 W3 := by
        obtain ⟨g1, g2, g3, g4⟩ := HQ3.out
        exact ⟨g1, g2, g3, by rw [updTo_zero]; exact g4⟩
      clear HQ3
      go_loopw [4] (fun t4 wr => ∃ q : Nat, q ≤ m ∧ t4 = .int .i64 q ∧ Hid (QI q wr)) (fun t4 _ => m - (intOf t4).toNat)
      case atStart => exact ⟨0, by omega, rfl, hQ0⟩
      case round =>
        obtain ⟨q, hq, rfl, hQ⟩ := hrel
        clear hQ0
        obtain ⟨g1, g2, g3, g4⟩ := hQ.out
        have e6 := g2.at_ 6 rfl
        have e7 := g2.at_ 7 rfl
        simp only [List.getElem_toArray, List.getElem_cons_zero, List.getElem_cons_succ] at e6 e7
        by_cases hlt : q < m
        · obtain ⟨v, hv⟩ : ∃ v, t[q]? = some v := ⟨_, List.getElem?_eq_getElem (by have := HTL.out; omega)⟩
          have hsl2 : (supV c m vis).length = t.length := by rw [← HTL.out]; exact HSL.out
          obtain ⟨a, ha, hau⟩ := updTo_at2 hsl2 hv
          have hv5 : 0 ≤ v ∧ v ≤ 5 := (HOK.out t (by simp)).2 v (List.mem_of_getElem? hv)
          have ha63 := HSD.out a (List.mem_of_getElem? ha)
          obtain ⟨o1, o2, -, o4, o5⟩ := orB_in ha63.1 ha63.2 hv5.1 hv5.2
          have ex : wr.cell? ⟨gx, q, none⟩ = some (.int .i64 v) := by
            obtain ⟨cs, f1, f2, f3⟩ := g3
            exact f2.at_ q (f3 q v hv)
          have es := g4.at_ q (ints_at hau)
          have hdh : dhB a v = hasB a v := by unfold dhB; rw [inB_mk ⟨by omega, by omega⟩]; rfl
          have HVQ := Lib.hid (And.intro hv (And.intro ha (And.intro hau (And.intro hv5 ha63))))
          clear hv ha hau
          cases hh : hasB a v
          · have ho4 := o4 hh
            have hsum : IntKind.i64.wrap (a + IntKind.i64.wrap (2 ^ v.toNat)) = orB a v := by rw [wrap_pow hv5.1 hv5.2, ← ho4, IntWalk.i64_in _ (by omega)]
            rw [hh] at hdh
            clear o1 o2 o4 o5 hh ho4
            go_wp2_with fail
            go_still_tail 14, (by kernel_rfl)
            go_wp2_with fail
            refine (sdomainHas _ _ ha63.1 wr.drew).mono ?_
            rw [hdh]
            rintro e W4 ⟨rfl, hW4⟩
            have hbd : Below wr.heap.size wr W4 := by rw [← hW4]; exact below_drewN (Below.refl _ _) 1
            have k1 := g1.trans (hbd.mono g1.size)
            have k2 := g2.below_ hbd g2.lt
            have k3 := g3.on hbd
            have k4 := g4.below_ hbd g4.lt
            have hgE : gs ≠ bE := k4.ne k2 (by decide)
            have HN : Hid (QI (q + 1) ((W4.drew).setCell ⟨gs, q, none⟩ (.int .i64 (orB a v)))) := by
              refine Lib.hid ⟨(below_drewN k1 1).setCell (p := ⟨gs, q, none⟩) hg.2.2 _, (k2.drewN_ 1).far hgE.symm, ?_, ?_⟩
              · obtain ⟨cs, f1, f2, f3⟩ := k3
                exact ⟨cs, f1, (f2.drewN_ 1).far hxs, f3⟩
              · rw [← updTo_succ hsl2 HVQ.out.2.1 HVQ.out.1, ← ints_set]
                exact (k4.drewN_ 1).store q _
            have d6 := k2.at_ 6 rfl
            have d7 := k2.at_ 7 rfl
            simp only [List.getElem_toArray, List.getElem_cons_zero, List.getElem_cons_succ] at d6 d7
            have ds' := k4.at_ q (ints_at HVQ.out.2.2.1)
            have df := k4.frozen q
            have dx : W4.cell? ⟨gx, q, none⟩ = some (.int .i64 v) := by
              obtain ⟨cs, f1, f2, f3⟩ := k3
              exact f2.at_ q (f3 q v HVQ.out.1)
            clear hbd g1 g2 g3 g4 hQ hW4 k1 k2 k3 k4 e6 e7 ex es
            go_wp2_with fail
            go_still_tail 21, (by kernel_rfl)
            go_wp2_with fail
            try simp only [hsum]
            go_wp2_with fail
            go_roundw
            case rel => exact ⟨q + 1, by omega, by go_num, HN.out⟩
            case measure => simp [intOf]; omega
          · have ho5 := Lib.hid (o5 hh)
            rw [hh] at hdh
            clear o1 o2 o4 o5 hh
            go_wp2_with fail
            go_still_tail 14, (by kernel_rfl)
            go_wp2_with fail
            refine (sdomainHas _ _ ha63.1 _).mono ?_
            rw [hdh]
            rintro e W4 ⟨rfl, rfl⟩
            have hbd : Below wr.heap.size wr wr.drew := below_drewN (Below.refl _ _) 1
            have HN : Hid (QI (q + 1) wr.drew) := by
              refine Lib.hid ⟨bgo g1 hbd |> fun _ => g1.trans (hbd.mono g1.size), g2.below_ hbd g2.lt, g3.on hbd, ?_⟩
              rw [← updTo_succ hsl2 HVQ.out.2.1 HVQ.out.1, ho5.out, set_same HVQ.out.2.2.1]
              exact g4.below_ hbd g4.lt
            clear hbd g1 g2 g3 g4 hQ
            go_wp2_with fail
            go_roundw
            case rel => exact ⟨q + 1, by omega, by go_num, HN.out⟩
            case measure => simp [intOf]; omega
        · obtain rfl : q = m := by omega
          have HG := Lib.hid (And.intro g1 (And.intro g2 (And.intro g3 g4)))
          clear g1 g2 g3 g4
          go_wp2_with fail
          refine bodyPost_ret (results_none rfl _ _ _) rfl ?_
          obtain ⟨g1, g2, g3, g4⟩ := HG.out
          have hsl2 : (supV c q vis).length = t.length := by rw [← HTL.out]; exact HSL.out
          rw [updTo_done hsl2 (by rw [hsl2, HTL.out]), ← HST.out] at g4
          exact ⟨⟨_, rfl⟩, g1, g2, g3, g4, HOK.out⟩
  | succ r ih =>
    intro t vis W htr hpre hb hE hX hS hok
    obtain ⟨k, hk⟩ : ∃ k, t.length = k := ⟨_, rfl⟩
    have hkm : k < m := by omega
    have hkm' : ((k : Int) == (m : Int)) = false := by simp; omega
    obtain ⟨vb, vo, v, hva, hvb, hvk, hvc2⟩ := hvr.at_ hkm
    obtain ⟨hv0, hvn⟩ := hv2 v (List.mem_of_getElem? hvk)
    obtain ⟨vn, rfl⟩ : ∃ vn : Nat, v = (vn : Int) := ⟨v.toNat, by omega⟩
    obtain ⟨ab, ao, d, hA, hab, hdk, hdc⟩ := hd.at_ (k := vn) (by omega)
    subst hva hA
    have hws : (wordF c.vars ds)[t.length]? = some d := word_mem (by rw [hk]; exact hvk) (by rw [Int.toNat_natCast]; exact hdk)
    have hd63 := hdm d (List.mem_of_getElem? hdk)
    have HWS := Lib.hid hws
    have HPRE := Lib.hid hpre
    have HK := Lib.hid hk
    have HTR := Lib.hid htr
    have HHV := Lib.hid (show vn < n from by omega)
    have hE1 := hE.at_ 1 rfl
    have hE6 := hE.at_ 6 rfl
    simp only [List.getElem_toArray, List.getElem_cons_zero, List.getElem_cons_succ] at hE1 hE6
    have HB := Lib.hid hb
    have HE := Lib.hid hE
    have HX := Lib.hid hX
    have HS := Lib.hid (And.intro hS hok)
    have hvn2 : vn < n := by omega
    have hm4 : m ≤ 4 := by omega
    have hw0s := hb.size
    rw [hk]
    clear hws hpre hk htr hvk hdk hvr hc hd hdm hvc hv1 hv2 hv3 hb hE hX hv0 hvn hS hok
    go_enter Try.func109, Try.ntmps109
    go_wp2_with fail
    clear hE1 hE6
    go_loopw [5] (fun t5 wr => ∃ q : Nat, q ≤ 6 ∧ t5 = .int .i64 q ∧ Hid (TBlk 3 wr gs (ints (supV c m (vis ++ belK (wordF c.vars ds) t d q))) ∧ OkT m (vis ++ belK (wordF c.vars ds) t d q)) ∧ Hid (Below w0.heap.size w0 wr) ∧ Hid (TBlk 106 wr bE #[.int .i64 c.kind, .slice (some ⟨vb, vo, none⟩) m cv, .slice aa c.args.length ca, .int .i64 c.bound, .slice ra c.rows.length cr, .slice (some ⟨ab, ao, none⟩) n cd, .slice (some ⟨gx, 0, none⟩) m m, .slice (some ⟨gs, 0, none⟩) m m]) ∧ Hid (Front m wr gx t)) (fun t5 _ => 6 - (intOf t5).toNat)
    case atStart => exact ⟨0, by omega, rfl, by rw [belK_zero, List.append_nil]; exact HS.out, HB.out, HE.out, HX.out⟩
    case round =>
      obtain ⟨q, hq, rfl, hall, hbq, hEq, hXq⟩ := hrel
      clear HB HE HX HS
      by_cases hlt : q < 6
      · have e1 := hEq.out.at_ 1 rfl
        have e5 := hEq.out.at_ 5 rfl
        have e6 := hEq.out.at_ 6 rfl
        simp only [List.getElem_toArray, List.getElem_cons_zero, List.getElem_cons_succ] at e1 e5 e6
        have ev : wr.cell? ⟨vb, vo + k, none⟩ = some (.int .i64 vn) := (hbq.out.cell (p := ⟨vb, _, none⟩) hvb).trans hvc2
        have ed : wr.cell? ⟨ab, ao + vn, none⟩ = some (.int .i64 d) := (hbq.out.cell (p := ⟨ab, _, none⟩) hab).trans hdc
        have hdh : dhB d q = hasB d q := by unfold dhB; rw [inB_mk ⟨by omega, by omega⟩]; rfl
        cases hh : hasB d q
        · have HH := Lib.hid hh
          rw [hh] at hdh
          clear hh
          go_wp2_with fail
          go_still_tail 15, (by kernel_rfl)
          go_wp2_with fail
          refine (sdomainHas _ _ hd63.1 _).mono ?_
          rw [hdh]
          rintro e W3 ⟨rfl, rfl⟩
          have hbd : Below wr.heap.size wr wr.drew := below_drewN (Below.refl _ _) 1
          have HN := Lib.hid (And.intro (hbq.out.trans (hbd.mono hbq.out.size)) (And.intro (hEq.out.below_ hbd hEq.out.lt) (And.intro (hXq.out.on hbd) (hall.out.1.below_ hbd hall.out.1.lt))))
          clear hbd
          go_wp2_with fail
          go_roundw
          case rel => exact ⟨q + 1, by omega, by go_num, by rw [belK_no HH.out]; exact ⟨HN.out.2.2.2, hall.out.2⟩, HN.out.1, HN.out.2.1, HN.out.2.2.1⟩
          case measure => simp [intOf]; omega
        · have HH := Lib.hid hh
          rw [hh] at hdh
          clear hh
          go_wp2_with fail
          go_still_tail 15, (by kernel_rfl)
          go_wp2_with fail
          refine (sdomainHas _ _ hd63.1 _).mono ?_
          rw [hdh]
          rintro e W3 ⟨rfl, rfl⟩
          have hbd : Below wr.heap.size wr wr.drew := below_drewN (Below.refl _ _) 1
          have hb3 := hbq.out.trans (hbd.mono hbq.out.size)
          have hE3 := hEq.out.below_ hbd hEq.out.lt
          have hX3 := hXq.out.on hbd
          have hS3 := (hall.out.1.below_ hbd hall.out.1.lt).far (j := k) (u := .int .i64 q) hxs.symm
          have hgE : gx ≠ bE := by
            obtain ⟨cs, _, h2, _⟩ := hX3
            exact h2.ne hE3 (by decide)
          obtain ⟨u0, hu0⟩ := hX3.cell hkm
          have hf0 := hX3.frozen k
          have hX4 := hX3.push (by have := HK.out; omega) q
          rw [HK.out] at hX4
          have hE4 := hE3.far (j := k) (u := .int .i64 q) hgE.symm
          have hb4 := hb3.setCell (p := ⟨gx, k, none⟩) hg.2.1 (.int .i64 q)
          have hI := ih (t ++ [(q : Int)]) (vis ++ belK (wordF c.vars ds) t d q) _ (by rw [List.length_append, List.length_singleton]; have := HTR.out; omega) (HPRE.out.push HWS.out (valsTo_has (by omega) (by omega) HH.out)) hb4 hE4 hX4 hS3 hall.out.2
          have hlen : (((t ++ [(q : Int)]).length : Nat) : Int) = (k : Int) + 1 := by rw [List.length_append, List.length_singleton, HK.out]; omega
          rw [hlen] at hI
          have HI := Lib.hid hI
          have E6 := hE3.at_ 6 rfl
          simp only [List.getElem_toArray, List.getElem_cons_zero, List.getElem_cons_succ] at E6
          clear hbd hb3 hE3 hX3 hS3 hX4 hE4 hb4 hI hlen ih e1 e5 e6 ev ed
          go_wp2_with fail
          refine HI.out.mono ?_
          rintro e W5 ⟨⟨v5, rfl⟩, hb5, hE5, hX5, hS5, hok5⟩
          have HN := Lib.hid (And.intro hb5 (And.intro hE5 (And.intro hX5.pop (And.intro hS5 hok5))))
          clear hb5 hE5 hX5 HI E6 hu0 hf0 hS5 hok5
          go_wp2_with fail
          go_roundw
          case rel => exact ⟨q + 1, by omega, by go_num, by rw [belK_yes HH.out, ← List.append_assoc]; exact HN.out.2.2.2, HN.out.1, HN.out.2.1, HN.out.2.2.1⟩
          case measure => simp [intOf]; omega
      · obtain rfl : q = 6 := by omega
        go_wp2_with fail
        refine bodyPost_end (results_none rfl _ _ _) rfl ?_
        have := hall.out
        rw [belK_six HWS.out] at this
        exact ⟨⟨_, rfl⟩, hbq.out, hEq.out, hXq.out, this⟩
set_option maxHeartbeats 16000000 in
theorem ssupported (us : List Value) (c : Con) (A : Option Addr) (n d : Nat) (ds : List Int) (w : World) (h : ConR w w.heap.size us c) (hx : IntR w w.heap.size A n ds) (hvc : vconF c n = true) (hn1 : 1 ≤ n) (hl4 : n ≤ 4) (hdoms : Doms ds) :
    Calls Try.prog 64 #[.agg us.toArray, .slice A n d] w fun e w' => ∃ v', e = .returned v' ∧ HoldR w' w.heap.size 3 1 v' n ((filF c ds).map (.int .i64)) ∧ Below w.heap.size w w' := by
  obtain ⟨i0, hi0, hz0, hz1, hz2⟩ := info_parts info_int
  have hl := Lib.hid hx.len
  obtain ⟨va, aa, ra, cv, ca, cr, rfl, hvr, -⟩ := id h
  have hvp := Lib.hid (vcon_vars hvc hl4)
  obtain ⟨m, hm⟩ : ∃ m, c.vars.length = m := ⟨_, rfl⟩
  have hm1 : 1 ≤ m ∧ m ≤ 4 := by have := hvp.out.1; omega
  rw [hm] at hvr
  obtain ⟨Z, hZ, hmk⟩ := make_blk1 (P := Try.prog) 23 3 i0 _ Try.underlying23 hi0 hz0 hz1 rfl m (by rw [hz2]; omega) (by unfold maxLen; omega)
  obtain rfl : Z = ints (List.replicate m 0) := ints_zero hZ
  obtain ⟨wa, hwa⟩ : ∃ wa, wa = w.alloc (.cells #[.int .i64 c.kind, .slice va m cv, .slice aa c.args.length ca, .int .i64 c.bound, .slice ra c.rows.length cr] 35) := ⟨_, rfl⟩
  have hb0 : Below w.heap.size w wa := by rw [hwa]; exact b_alloc _ _
  have ha : CBlk wa w.heap.size (.int .i64 c.kind) (.slice va m cv) (.slice aa c.args.length ca) (.int .i64 c.bound) (.slice ra c.rows.length cr) := by rw [hwa]; exact CBlk.new w _ _ _ _ _
  have hsw : w.heap.size < wa.heap.size := ha.lt
  have HC0 := Lib.hid h
  have HX0 := Lib.hid hx
  have HV0 := Lib.hid hvr
  have HA := Lib.hid ha
  have HM := Lib.hid hm
  have HV := Lib.hid hvc
  have HDM := Lib.hid hdoms
  obtain ⟨a0, a1, a2, a3, a4⟩ := ha.cells
  rw [hm]
  clear ha h hx hvr hZ hm hvc hdoms
  go_enter Try.func64, Try.ntmps64
  go_wp2_with fail
  rw [← hwa]
  clear hwa
  have hSk : ∀ w', Below wa.heap.size wa w' → w'.cell? ⟨w.heap.size, 0, none⟩ = some (.int .i64 c.kind) ∧ w'.cell? ⟨w.heap.size, 1, none⟩ = some (.slice va m cv) ∧ w'.cell? ⟨w.heap.size, 2, none⟩ = some (.slice aa c.args.length ca) ∧ w'.cell? ⟨w.heap.size, 3, none⟩ = some (.int .i64 c.bound) ∧ w'.cell? ⟨w.heap.size, 4, none⟩ = some (.slice ra c.rows.length cr) :=
    fun w' hb => ⟨(hb.cell (p := ⟨_, _, none⟩) hsw).trans a0, (hb.cell (p := ⟨_, _, none⟩) hsw).trans a1, (hb.cell (p := ⟨_, _, none⟩) hsw).trans a2, (hb.cell (p := ⟨_, _, none⟩) hsw).trans a3, (hb.cell (p := ⟨_, _, none⟩) hsw).trans a4⟩
  clear a0 a1 a2 a3 a4
  have hbd : Below wa.heap.size wa wa.drew := below_drewN (Below.refl _ _) 1
  go_region_held3 (fun w' => w'.cell? ⟨w.heap.size, 0, none⟩ = some (.int .i64 c.kind) ∧ w'.cell? ⟨w.heap.size, 1, none⟩ = some (.slice va m cv) ∧ w'.cell? ⟨w.heap.size, 2, none⟩ = some (.slice aa c.args.length ca) ∧ w'.cell? ⟨w.heap.size, 3, none⟩ = some (.int .i64 c.bound) ∧ w'.cell? ⟨w.heap.size, 4, none⟩ = some (.slice ra c.rows.length cr))
    (first | exact hSk _ hbd | exact hSk _ (hbd.alloc (Nat.le_refl _) _) | exact hSk _ ((hbd.alloc (Nat.le_refl _) _).alloc (by simp) _) | exact hSk _ (((hbd.alloc (Nat.le_refl _) _).alloc (by simp) _).alloc (by simp; omega) _))
    (fail)
  · obtain ⟨L, hL⟩ : ∃ L, wa.heap.size = L := ⟨_, rfl⟩
    obtain ⟨W4, hW4⟩ : ∃ W4 : World, (((wa.alloc (.cells (ints (List.replicate m 0)) 3)).alloc (.cells (ints (List.replicate m 0)) 3)).alloc (.cells #[.int .i64 c.kind, .slice va m cv, .slice aa c.args.length ca, .int .i64 c.bound, .slice ra c.rows.length cr, .slice A n d, .slice (some ⟨wa.heap.size, 0, none⟩) m m, .slice (some ⟨wa.heap.size + 1, 0, none⟩) m m] 106)).drew = W4 := ⟨_, rfl⟩
    have hb4 : Below wa.heap.size wa W4 := by rw [← hW4]; exact below_drewN (((b_alloc _ _).alloc (by simp) _).alloc (by simp; omega) _) 1
    have hX4 : TBlk 3 W4 L (ints (List.replicate m 0)) := by rw [← hW4]; exact (((TBlk.newAt hL.symm).alloc_ _).alloc_ _).drewN_ 1
    have hS4 : TBlk 3 W4 (L + 1) (ints (supV c m [])) := by rw [← hW4]; exact ((TBlk.newAt (by simp [hL])).alloc_ _).drewN_ 1
    have hE4 : TBlk 106 W4 (L + 1 + 1) #[.int .i64 c.kind, .slice va m cv, .slice aa c.args.length ca, .int .i64 c.bound, .slice ra c.rows.length cr, .slice A n d, .slice (some ⟨L, 0, none⟩) m m, .slice (some ⟨(L + 1), 0, none⟩) m m] := by rw [← hW4, ← hL]; exact (TBlk.newAt (by simp)).drewN_ 1
    have HB0 := Lib.hid hb0
    have HQ := Lib.hid (And.intro hX4 (And.intro hS4 (And.intro hE4 hb4)))
    rw [hW4, hL]
    have HLL := Lib.hid (And.intro hL hsw)
    clear hX4 hS4 hE4 hW4 hL hb4 hbd hSk hsw hb0 hmk
    go_wp2_with fail
    obtain ⟨hX4, hS4, hE4, hb4⟩ := HQ.out
    have hI := swalk (L + 1 + 1) L (L + 1) m n d c va aa ra cv ca cr ds A wa (ConR.on HC0.out HB0.out) (IntR.on HX0.out HB0.out) HDM.out HV.out hl4 HM.out (by have := HLL.out; exact ⟨by omega, by omega, by omega⟩) (by omega) m [] [] W4 (by simp) (fun j d v _ hv => by simp at hv) hb4 hE4 ⟨_, by simp [ints], hX4, fun j x hj => by simp at hj⟩ hS4 (fun t ht => by simp at ht)
    have HI := Lib.hid hI
    clear hX4 hS4 hE4 hb4 hI HQ
    refine HI.out.mono ?_
    rintro e W5 ⟨⟨v5, rfl⟩, hb5, hE5, -, hS5, hok5⟩
    rw [List.nil_append, extT_nil] at hS5 hok5
    obtain ⟨sup, hsup⟩ : ∃ sup, supV c m (allT (wordF c.vars ds)) = sup := ⟨_, rfl⟩
    rw [hsup] at hS5
    have hsupl : sup.length = m := by rw [← hsup]; exact (supV_ok (c := c) hok5).2
    have HFIL := Lib.hid (show filF c ds = putTo ds c.vars sup m by unfold filF; rw [HM.out, hsup])
    have HSL := Lib.hid hsupl
    have hbw5 : Below w.heap.size w W5 := bgo HB0.out hb5
    have HQ5 := Lib.hid (And.intro hbw5 (And.intro hE5 (And.intro hS5 (HA.out.below hb5 HA.out.lt))))
    have GX5 := Lib.hid (IntR.on HX0.out hbw5)
    clear hb5 hbw5 hE5 hS5 hok5 hsup hsupl HI
    go_wp2_with fail
    refine (scopyRF _ _ _ ds _ GX5.out (by omega) (by omega)).mono ?_
    rintro e w6 ⟨v6, rfl, ho6, hb6⟩
    obtain ⟨A6, c6, rfl⟩ := (HoldR.of_own ho6.1).form
    have h60 : HoldR w6 W5.heap.size 3 1 (.slice A6 n c6) n ((putTo ds c.vars sup 0).map (.int .i64)) := by have := HoldR.of_own ho6.1; rw [hl.out] at this; exact this
    rw [hl.out]
    obtain ⟨g6, rfl, hg6, -⟩ := h60.pos (by omega)
    clear ho6
    have f1 := (HQ5.out.2.2.2.below hb6 HQ5.out.2.2.2.lt).cells.2.1
    have HW6 := Lib.hid (show w.heap.size < W5.heap.size from HQ5.out.2.2.2.lt)
    go_wp2_with fail
    clear f1
    go_loopw [7] (fun t7 wr => ∃ k : Nat, k ≤ m ∧ t7 = .int .i64 k ∧ Hid (HoldR wr W5.heap.size 3 1 (.slice (some ⟨g6, 0, none⟩) n c6) n ((putTo ds c.vars sup k).map (.int .i64))) ∧ Hid (Below W5.heap.size W5 wr)) (fun t7 _ => m - (intOf t7).toNat)
    case atStart => exact ⟨0, by omega, rfl, h60, hb6⟩
    case round =>
      obtain ⟨k, hk, rfl, hhk, hbk⟩ := hrel
      clear h60 hb6
      obtain ⟨q2, q3, q4, q5⟩ := HQ5.out
      have f1 := (q5.below hbk.out q5.lt).cells.2.1
      by_cases hlt : k < m
      · have hsl := HSL.out
        obtain ⟨a, ha⟩ : ∃ a, sup[k]? = some a := ⟨_, List.getElem?_eq_getElem (by omega)⟩
        obtain ⟨vb, vo, v, hva, hvb, hvk, hvc2⟩ := HV0.out.at_ hlt
        obtain ⟨hv0, hvn⟩ := hvp.out.2.1 v (List.mem_of_getElem? hvk)
        obtain ⟨vn, rfl⟩ : ∃ vn : Nat, v = (vn : Int) := ⟨v.toNat, by omega⟩
        have hvn2 : vn < n := by omega
        subst hva
        have e1 : wr.cell? ⟨vb, vo + k, none⟩ = some (.int .i64 vn) := ((hbk.out.cell (p := ⟨vb, _, none⟩) (show vb < W5.heap.size by have := HW6.out; omega)).trans (q2.cell (p := ⟨vb, _, none⟩) hvb)).trans hvc2
        have e2 := (q3.below_ hbk.out q3.lt).at_ 7 rfl
        simp only [List.getElem_toArray, List.getElem_cons_zero, List.getElem_cons_succ] at e2
        have e3 := (q4.below_ hbk.out q4.lt).at_ k (ints_at ha)
        obtain ⟨u, hu⟩ : ∃ u, ((putTo ds c.vars sup k).map (Value.int .i64))[vn]? = some u := ⟨_, List.getElem?_eq_getElem (by rw [List.length_map, putTo_len, hl.out]; exact hvn2)⟩
        have e4 : wr.cell? ⟨g6, vn, none⟩ = some u := by rw [hhk.out.cellAt vn (by omega), hu]
        have e5 : wr.frozen? ⟨g6, vn, none⟩ = false := hhk.out.frozenAt vn
        have hdw : Below wr.heap.size wr wr.drew := below_drewN (Below.refl _ _) 1
        have hst := (hhk.out.below hdw).stored vn (.int .i64 a)
        rw [← List.map_set, ← putTo_succ hvk ha] at hst
        have HST := Lib.hid hst
        have HBS := Lib.hid ((below_drewN hbk.out 1).setCell (p := ⟨g6, vn, none⟩) hg6 (.int .i64 a))
        clear q2 q3 q4 q5 ha hvk hu hst hv0 hvn hsl hdw
        go_wp2_with fail
        go_still_tail 14, (by kernel_rfl)
        go_wp2_with fail
        go_roundw
        case rel => exact ⟨k + 1, by omega, by go_num, HST.out, HBS.out⟩
        case measure => simp [intOf]; omega
      · obtain rfl : k = m := by omega
        clear q3 q4 q5
        go_wp2_with fail
        go_ret
        refine ⟨_, rfl, ?_, q2.trans (hbk.out.mono (by have := HW6.out; omega))⟩
        rw [HFIL.out]
        exact hhk.out.base_ (by have := HW6.out; omega)
  · obtain ⟨L, hL⟩ : ∃ L, wa.heap.size = L := ⟨_, rfl⟩
    obtain ⟨W4, hW4⟩ : ∃ W4 : World, (((wa.alloc (.cells (ints (List.replicate m 0)) 3)).alloc (.cells (ints (List.replicate m 0)) 3)).alloc (.cells #[.int .i64 c.kind, .slice va m cv, .slice aa c.args.length ca, .int .i64 c.bound, .slice ra c.rows.length cr, .slice A n d, .slice (some ⟨wa.heap.size + 1, 0, none⟩) m m, .slice (some ⟨wa.heap.size, 0, none⟩) m m] 106)).drew = W4 := ⟨_, rfl⟩
    have hb4 : Below wa.heap.size wa W4 := by rw [← hW4]; exact below_drewN (((b_alloc _ _).alloc (by simp) _).alloc (by simp; omega) _) 1
    have hX4 : TBlk 3 W4 (L + 1) (ints (List.replicate m 0)) := by rw [← hW4]; exact ((TBlk.newAt (by simp [hL])).alloc_ _).drewN_ 1
    have hS4 : TBlk 3 W4 L (ints (supV c m [])) := by rw [← hW4]; exact (((TBlk.newAt hL.symm).alloc_ _).alloc_ _).drewN_ 1
    have hE4 : TBlk 106 W4 (L + 1 + 1) #[.int .i64 c.kind, .slice va m cv, .slice aa c.args.length ca, .int .i64 c.bound, .slice ra c.rows.length cr, .slice A n d, .slice (some ⟨(L + 1), 0, none⟩) m m, .slice (some ⟨L, 0, none⟩) m m] := by rw [← hW4, ← hL]; exact (TBlk.newAt (by simp)).drewN_ 1
    have HB0 := Lib.hid hb0
    have HQ := Lib.hid (And.intro hX4 (And.intro hS4 (And.intro hE4 hb4)))
    rw [hW4, hL]
    have HLL := Lib.hid (And.intro hL hsw)
    clear hX4 hS4 hE4 hW4 hL hb4 hbd hSk hsw hb0 hmk
    go_wp2_with fail
    obtain ⟨hX4, hS4, hE4, hb4⟩ := HQ.out
    have hI := swalk (L + 1 + 1) (L + 1) L m n d c va aa ra cv ca cr ds A wa (ConR.on HC0.out HB0.out) (IntR.on HX0.out HB0.out) HDM.out HV.out hl4 HM.out (by have := HLL.out; exact ⟨by omega, by omega, by omega⟩) (by omega) m [] [] W4 (by simp) (fun j d v _ hv => by simp at hv) hb4 hE4 ⟨_, by simp [ints], hX4, fun j x hj => by simp at hj⟩ hS4 (fun t ht => by simp at ht)
    have HI := Lib.hid hI
    clear hX4 hS4 hE4 hb4 hI HQ
    refine HI.out.mono ?_
    rintro e W5 ⟨⟨v5, rfl⟩, hb5, hE5, -, hS5, hok5⟩
    rw [List.nil_append, extT_nil] at hS5 hok5
    obtain ⟨sup, hsup⟩ : ∃ sup, supV c m (allT (wordF c.vars ds)) = sup := ⟨_, rfl⟩
    rw [hsup] at hS5
    have hsupl : sup.length = m := by rw [← hsup]; exact (supV_ok (c := c) hok5).2
    have HFIL := Lib.hid (show filF c ds = putTo ds c.vars sup m by unfold filF; rw [HM.out, hsup])
    have HSL := Lib.hid hsupl
    have hbw5 : Below w.heap.size w W5 := bgo HB0.out hb5
    have HQ5 := Lib.hid (And.intro hbw5 (And.intro hE5 (And.intro hS5 (HA.out.below hb5 HA.out.lt))))
    have GX5 := Lib.hid (IntR.on HX0.out hbw5)
    clear hb5 hbw5 hE5 hS5 hok5 hsup hsupl HI
    go_wp2_with fail
    refine (scopyRF _ _ _ ds _ GX5.out (by omega) (by omega)).mono ?_
    rintro e w6 ⟨v6, rfl, ho6, hb6⟩
    obtain ⟨A6, c6, rfl⟩ := (HoldR.of_own ho6.1).form
    have h60 : HoldR w6 W5.heap.size 3 1 (.slice A6 n c6) n ((putTo ds c.vars sup 0).map (.int .i64)) := by have := HoldR.of_own ho6.1; rw [hl.out] at this; exact this
    rw [hl.out]
    obtain ⟨g6, rfl, hg6, -⟩ := h60.pos (by omega)
    clear ho6
    have f1 := (HQ5.out.2.2.2.below hb6 HQ5.out.2.2.2.lt).cells.2.1
    have HW6 := Lib.hid (show w.heap.size < W5.heap.size from HQ5.out.2.2.2.lt)
    go_wp2_with fail
    clear f1
    go_loopw [7] (fun t7 wr => ∃ k : Nat, k ≤ m ∧ t7 = .int .i64 k ∧ Hid (HoldR wr W5.heap.size 3 1 (.slice (some ⟨g6, 0, none⟩) n c6) n ((putTo ds c.vars sup k).map (.int .i64))) ∧ Hid (Below W5.heap.size W5 wr)) (fun t7 _ => m - (intOf t7).toNat)
    case atStart => exact ⟨0, by omega, rfl, h60, hb6⟩
    case round =>
      obtain ⟨k, hk, rfl, hhk, hbk⟩ := hrel
      clear h60 hb6
      obtain ⟨q2, q3, q4, q5⟩ := HQ5.out
      have f1 := (q5.below hbk.out q5.lt).cells.2.1
      by_cases hlt : k < m
      · have hsl := HSL.out
        obtain ⟨a, ha⟩ : ∃ a, sup[k]? = some a := ⟨_, List.getElem?_eq_getElem (by omega)⟩
        obtain ⟨vb, vo, v, hva, hvb, hvk, hvc2⟩ := HV0.out.at_ hlt
        obtain ⟨hv0, hvn⟩ := hvp.out.2.1 v (List.mem_of_getElem? hvk)
        obtain ⟨vn, rfl⟩ : ∃ vn : Nat, v = (vn : Int) := ⟨v.toNat, by omega⟩
        have hvn2 : vn < n := by omega
        subst hva
        have e1 : wr.cell? ⟨vb, vo + k, none⟩ = some (.int .i64 vn) := ((hbk.out.cell (p := ⟨vb, _, none⟩) (show vb < W5.heap.size by have := HW6.out; omega)).trans (q2.cell (p := ⟨vb, _, none⟩) hvb)).trans hvc2
        have e2 := (q3.below_ hbk.out q3.lt).at_ 7 rfl
        simp only [List.getElem_toArray, List.getElem_cons_zero, List.getElem_cons_succ] at e2
        have e3 := (q4.below_ hbk.out q4.lt).at_ k (ints_at ha)
        obtain ⟨u, hu⟩ : ∃ u, ((putTo ds c.vars sup k).map (Value.int .i64))[vn]? = some u := ⟨_, List.getElem?_eq_getElem (by rw [List.length_map, putTo_len, hl.out]; exact hvn2)⟩
        have e4 : wr.cell? ⟨g6, vn, none⟩ = some u := by rw [hhk.out.cellAt vn (by omega), hu]
        have e5 : wr.frozen? ⟨g6, vn, none⟩ = false := hhk.out.frozenAt vn
        have hdw : Below wr.heap.size wr wr.drew := below_drewN (Below.refl _ _) 1
        have hst := (hhk.out.below hdw).stored vn (.int .i64 a)
        rw [← List.map_set, ← putTo_succ hvk ha] at hst
        have HST := Lib.hid hst
        have HBS := Lib.hid ((below_drewN hbk.out 1).setCell (p := ⟨g6, vn, none⟩) hg6 (.int .i64 a))
        clear q2 q3 q4 q5 ha hvk hu hst hv0 hvn hsl hdw
        go_wp2_with fail
        go_still_tail 14, (by kernel_rfl)
        go_wp2_with fail
        go_roundw
        case rel => exact ⟨k + 1, by omega, by go_num, HST.out, HBS.out⟩
        case measure => simp [intOf]; omega
      · obtain rfl : k = m := by omega
        clear q3 q4 q5
        go_wp2_with fail
        go_ret
        refine ⟨_, rfl, ?_, q2.trans (hbk.out.mono (by have := HW6.out; omega))⟩
        rw [HFIL.out]
        exact hhk.out.base_ (by have := HW6.out; omega)
set_option maxHeartbeats 4000000 in
theorem sFilter (us : List Value) (c : Con) (A : Option Addr) (n d : Nat) (ds : List Int) (w : World) (h : ConR w w.heap.size us c) (hx : IntR w w.heap.size A n ds) :
    Calls Try.prog 24 #[.agg us.toArray, .slice A n d] w fun e w' => ∃ v', e = .returned v' ∧ HoldR w' w.heap.size 3 1 v' (filtF c ds).length ((filtF c ds).map (.int .i64)) ∧ Below w.heap.size w w' := by
  have hl := Lib.hid hx.len
  obtain ⟨va, aa, ra, cv, ca, cr, rfl, -⟩ := id h
  obtain ⟨wa, hwa⟩ : ∃ wa, wa = w.alloc (.cells #[.int .i64 c.kind, .slice va c.vars.length cv, .slice aa c.args.length ca, .int .i64 c.bound, .slice ra c.rows.length cr] 35) := ⟨_, rfl⟩
  have hb0 : Below w.heap.size w wa := by rw [hwa]; exact b_alloc _ _
  have ha : CBlk wa w.heap.size (.int .i64 c.kind) (.slice va c.vars.length cv) (.slice aa c.args.length ca) (.int .i64 c.bound) (.slice ra c.rows.length cr) := by rw [hwa]; exact CBlk.new w _ _ _ _ _
  have HC0 := Lib.hid h
  have HX0 := Lib.hid hx
  have HA := Lib.hid ha
  obtain ⟨a0, a1, a2, a3, a4⟩ := ha.cells
  clear ha h hx
  go_enter Try.func24, Try.ntmps24
  go_wp2_with fail
  rw [← hwa]
  clear hwa
  refine (svalidDomainsF _ _ _ _ _ (IntR.on HX0.out hb0)).mono ?_
  rintro e w1 ⟨rfl, hw1⟩
  have hb1 : Below wa.heap.size wa w1 := by rw [← hw1]; exact Below.refl _ _
  clear hw1
  have HB1 := Lib.hid (bgo hb0 hb1)
  have HA1 := Lib.hid (HA.out.below hb1 HA.out.lt)
  obtain ⟨c0, c1, c2, c3, c4⟩ := HA1.out.cells
  clear a0 a1 a2 a3 a4 hb1 hb0 HA
  cases t0 : dokF ds
  · have HE := Lib.hid (show filtF c ds = [] by unfold filtF; rw [t0]; rfl)
    clear t0
    go_wp2_with fail
    go_ret
    exact ⟨_, rfl, by rw [HE.out]; exact HoldR.nil _ _ _ _, HB1.out⟩
  obtain ⟨hl1, hl4, hdoms⟩ := dok_parts t0
  have HDM := Lib.hid hdoms
  rw [hl.out] at hl1 hl4
  have HD := Lib.hid t0
  clear t0 hdoms
  go_wp2_with fail
  refine (svalidConstraint _ c _ _ (ConR.on HC0.out HB1.out)).mono ?_
  rintro e w2 ⟨rfl, hb2⟩
  have HB2 := Lib.hid (bgo HB1.out hb2)
  have HA2 := Lib.hid (HA1.out.below hb2 HA1.out.lt)
  obtain ⟨d0, d1, d2, d3, d4⟩ := HA2.out.cells
  clear c0 c1 c2 c3 c4 hb2 HB1 HA1
  cases t0 : vconF c (n : Int)
  · have HE := Lib.hid (show filtF c ds = [] by unfold filtF; rw [hl.out, t0]; simp)
    clear t0
    go_wp2_with fail
    go_ret
    exact ⟨_, rfl, by rw [HE.out]; exact HoldR.nil _ _ _ _, HB2.out⟩
  have HE := Lib.hid (show filtF c ds = filF c ds by unfold filtF; rw [hl.out, t0, HD.out]; simp)
  have HV := Lib.hid t0
  clear t0
  go_wp2_with fail
  refine (ssupported _ c _ _ _ ds _ (ConR.on HC0.out HB2.out) (IntR.on HX0.out HB2.out) HV.out hl1 hl4 HDM.out).mono ?_
  rintro e w3 ⟨v', rfl, hh, hb3⟩
  have HH := Lib.hid (And.intro (hh.base_ HB2.out.size) (bgo HB2.out hb3))
  clear hh hb3
  go_wp2_with fail
  go_ret
  refine ⟨_, rfl, ?_, HH.out.2⟩
  rw [HE.out, filF_len, hl.out]
  exact HH.out.1
end Go.Proofs.Ytejfnkbdmlijbaa
