/- spec's IsEntailed. -/
import Derived.Test.YtlmphpopcojjnaaEnt
import Derived.Test.YtlmphpopcojjnaaSatS
namespace Go.Proofs.Ytlmphpopcojjnaa
open Go.ChangeShapes Go.WideShapes Go.ChangeAt Go.RowKit
open Go.Shelf
set_option linter.unusedVariables false
set_option maxRecDepth 100000
attribute [local go_sem] Oper.semAt_some

/-- what begins with t and goes on with a value of d below k. -/
def belK (ws t : List Int) (d : Int) (k : Nat) : List (List Int) := (valsTo d k).flatMap fun u => extT ws (t ++ [u])
theorem belK_zero (ws t : List Int) (d : Int) : belK ws t d 0 = [] := rfl
theorem belK_yes {ws t : List Int} {d : Int} {k : Nat} (h : hasB d k = true) : belK ws t d (k + 1) = belK ws t d k ++ extT ws (t ++ [(k : Int)]) := by
  unfold belK
  rw [valsTo, h]
  simp
theorem belK_no {ws t : List Int} {d : Int} {k : Nat} (h : hasB d k = false) : belK ws t d (k + 1) = belK ws t d k := by
  unfold belK
  rw [valsTo, h]
  simp
theorem belK_six {ws t : List Int} {d : Int} (h : ws[t.length]? = some d) : belK ws t d 6 = extT ws t := (extT_step h).symm
theorem ext_false {c : Con} {ws t : List Int} {d : Int} {k : Nat} (h : ws[t.length]? = some d) (hk : k < 6) (hb : hasB d k = true) (he : (extT ws (t ++ [(k : Int)])).all (satF c) = false) : (extT ws t).all (satF c) = false := by
  refine Bool.eq_false_iff.2 fun h2 => ?_
  rw [Bool.eq_false_iff] at he
  refine he (List.all_eq_true.2 fun x hx => List.all_eq_true.1 h2 x ?_)
  rw [extT_step h]
  exact List.mem_flatMap.2 ⟨k, valsTo_has (by omega) (by omega) hb, hx⟩
theorem word_mem {vars ds : List Int} {i : Nat} {v d : Int} (hv : vars[i]? = some v) (hd : ds[v.toNat]? = some d) : (wordF vars ds)[i]? = some d := by
  rw [wordF_at hv, gat_eq hd]
theorem take_snoc {xs : List Int} {cs : Array Value} {v : Int} (h : ∀ (j : Nat) x, xs[j]? = some x → cs[j]? = some (.int .i64 x)) (hl : xs.length < cs.size) : ∀ (j : Nat) x, (xs ++ [v])[j]? = some x → (cs.setIfInBounds xs.length (.int .i64 v))[j]? = some (.int .i64 x) := by
  intro j x hj
  rcases Nat.lt_or_ge j xs.length with hlt | hge
  · rw [Array.getElem?_setIfInBounds_ne (by omega)]
    rw [List.getElem?_append_left hlt] at hj
    exact h j x hj
  · rw [List.getElem?_append_right hge] at hj
    have hj0 : j = xs.length := by
      rcases Nat.lt_or_ge (j - xs.length) 1 with h4 | h4
      · omega
      · rw [List.getElem?_eq_none (by simpa using h4)] at hj; cases hj
    subst hj0
    rw [Nat.sub_self] at hj
    simp at hj
    subst hj
    rw [Array.getElem?_setIfInBounds_self_of_lt (by omega)]
/-- t stands at the front of the cells. -/
def Front (m : Nat) (W : World) (g : Nat) (t : List Int) : Prop := ∃ cs : Array Value, cs.size = m ∧ TBlk 3 W g cs ∧ ∀ (j : Nat) x, t[j]? = some x → cs[j]? = some (.int .i64 x)
theorem Front.on {m g : Nat} {W W' : World} {t : List Int} (h : Front m W g t) (hb : Below W.heap.size W W') : Front m W' g t := by
  obtain ⟨cs, h1, h2, h3⟩ := h
  exact ⟨cs, h1, h2.below_ hb h2.lt, h3⟩
theorem Front.push {m g : Nat} {W : World} {t : List Int} (h : Front m W g t) (hl : t.length < m) (v : Int) : Front m (W.setCell ⟨g, t.length, none⟩ (.int .i64 v)) g (t ++ [v]) := by
  obtain ⟨cs, h1, h2, h3⟩ := h
  exact ⟨_, by rw [Array.size_setIfInBounds, h1], h2.store _ _, take_snoc h3 (by omega)⟩
theorem Front.pop {m g : Nat} {W : World} {t : List Int} {v : Int} (h : Front m W g (t ++ [v])) : Front m W g t := by
  obtain ⟨cs, h1, h2, h3⟩ := h
  refine ⟨cs, h1, h2, fun j x hj => h3 j x ?_⟩
  have hlt : j < t.length := by
    rcases Nat.lt_or_ge j t.length with h4 | h4
    · exact h4
    · rw [List.getElem?_eq_none h4] at hj; cases hj
  rw [List.getElem?_append_left hlt]; exact hj
theorem Front.intR {m g : Nat} {W : World} {t : List Int} (h : Front m W g t) (hl : t.length = m) (hm : m ≤ 4) : IntR W W.heap.size (some ⟨g, 0, none⟩) m t := by
  obtain ⟨cs, h1, h2, h3⟩ := h
  exact intR_blk h2 h3 hl hm
theorem Front.frozen {m g : Nat} {W : World} {t : List Int} (h : Front m W g t) (j : Nat) : W.frozen? ⟨g, j, none⟩ = false := by
  obtain ⟨cs, h1, h2, h3⟩ := h
  exact h2.frozen j
theorem Front.cell {m g j : Nat} {W : World} {t : List Int} (h : Front m W g t) (hj : j < m) : ∃ u, W.cell? ⟨g, j, none⟩ = some u := by
  obtain ⟨cs, h1, h2, h3⟩ := h
  exact ⟨_, h2.at_ j (Array.getElem?_eq_getElem (by omega))⟩
set_option maxHeartbeats 8000000 in
theorem sall (bE gx m n cd : Nat) (c : Con) (va aa ra : Option Addr) (cv ca cr : Nat) (ds : List Int) (A : Option Addr) (w0 : World) (hc : ConR w0 w0.heap.size [.int .i64 c.kind, .slice va c.vars.length cv, .slice aa c.args.length ca, .int .i64 c.bound, .slice ra c.rows.length cr] c)
    (hd : IntR w0 w0.heap.size A n ds) (hdm : Doms ds) (hvc : vconF c n = true) (h4 : n ≤ 4) (hm : c.vars.length = m) (hg : w0.heap.size ≤ bE ∧ w0.heap.size ≤ gx) :
    ∀ (r : Nat) (t : List Int) (W : World), t.length + r = m → PreDs (wordF c.vars ds) t → Below w0.heap.size w0 W →
      TBlk 60 W bE #[.int .i64 c.kind, .slice va m cv, .slice aa c.args.length ca, .int .i64 c.bound, .slice ra c.rows.length cr, .slice A n cd, .slice (some ⟨gx, 0, none⟩) m m] → Front m W gx t →
      Calls Try.prog 34 #[.pointer (some ⟨bE, 0, none⟩), .int .i64 t.length] W fun e W' => e = .returned (.bool ((extT (wordF c.vars ds) t).all (satF c))) ∧ Below w0.heap.size w0 W' ∧
        TBlk 60 W' bE #[.int .i64 c.kind, .slice va m cv, .slice aa c.args.length ca, .int .i64 c.bound, .slice ra c.rows.length cr, .slice A n cd, .slice (some ⟨gx, 0, none⟩) m m] ∧ Front m W' gx t := by
  obtain ⟨hv1, hv2, hv3⟩ := vcon_vars hvc h4
  have hvr : IntR w0 w0.heap.size va m c.vars := by
    obtain ⟨va', aa', ra', cv', ca', cr', e, g1, g2, g3, -⟩ := hc
    injection e with e1 e2
    injection e2 with e2 e3
    injection e2 with e2 e4 e5
    subst e2
    rw [hm] at g1
    exact g1
  intro r
  induction r with
  | zero =>
    intro t W htr hpre hb hE hX
    obtain rfl : t.length = m := by omega
    have hmem := hpre.mem (by rw [wordF_len]; omega)
    have hsat := (sat_tup hvc h4 hmem).1
    rw [extT_full (by rw [wordF_len]; omega)]
    have hcon := ConR.on hc hb
    have hint := hX.intR rfl (by omega)
    have c0 := hE.at_ 0 rfl
    have c1 := hE.at_ 1 rfl
    have c2 := hE.at_ 2 rfl
    have c3 := hE.at_ 3 rfl
    have c4 := hE.at_ 4 rfl
    have c6 := hE.at_ 6 rfl
    have hl4 : t.length ≤ 4 := by omega
    obtain ⟨k, hk⟩ : ∃ k, t.length = k := ⟨_, rfl⟩
    rw [hm, hk] at hcon
    rw [hk] at c1 c6 hint hE hX hl4 ⊢
    simp only [List.getElem_toArray, List.getElem_cons_zero, List.getElem_cons_succ] at c0 c1 c2 c3 c4 c6
    have HQ := Lib.hid (And.intro hsat (And.intro hcon (And.intro hint (And.intro hE (And.intro hX hb)))))
    clear hsat hcon hint hE hX hb hmem hpre htr hvr hc hd hdm hvc hk hm
    go_enter Try.func34, Try.ntmps34
    go_wp2_with fail
    go_still_tail 8, (by kernel_rfl)
    obtain ⟨g1, g2, g3, g4, g5, g6⟩ := HQ.out
    have hbd : Below W.heap.size W W.drew := below_drewN (Below.refl _ _) 1
    go_wp2_with fail
    refine (ssatisfies _ c _ _ _ t W.drew (ConR.on g2 hbd) (IntR.on g3 hbd) g1).mono ?_
    rintro e W3 ⟨rfl, hb3⟩
    have HQ3 := Lib.hid (And.intro (bgo g6 (bgo hbd hb3)) (And.intro (g4.below_ (bgo hbd hb3) g4.lt) (g5.on (bgo hbd hb3))))
    clear g1 g2 g3 g4 g5 g6 hbd hb3 HQ
    go_wp2_with fail
    go_ret
    exact ⟨ret_bool (by simp), HQ3.out.1, HQ3.out.2.1, HQ3.out.2.2⟩
  | succ r ih =>
    intro t W htr hpre hb hE hX
    obtain ⟨k, hk⟩ : ∃ k, t.length = k := ⟨_, rfl⟩
    have hkm : k < m := by omega
    have hkm' : ((k : Int) == (m : Int)) = false := by simp; omega
    obtain ⟨vb, vo, v, hva, hvb, hvk, hvc2⟩ := hvr.at_ hkm
    obtain ⟨hv0, hvn⟩ := hv2 v (List.mem_of_getElem? hvk)
    obtain ⟨vn, rfl⟩ : ∃ vn : Nat, v = (vn : Int) := ⟨v.toNat, by omega⟩
    obtain ⟨ab, ao, d, hA, hab, hdk, hdc⟩ := hd.at_ (k := vn) (by omega)
    subst hva hA
    have hws : (wordF c.vars ds)[t.length]? = some d := word_mem (by rw [hk]; exact hvk) (by rw [Int.toNat_natCast]; exact hdk)
    have hd63 := hdm d (List.mem_of_getElem? hdk)
    have HWS := Lib.hid hws
    have HPRE := Lib.hid hpre
    have HK := Lib.hid hk
    have HTR := Lib.hid htr
    have HHV := Lib.hid (show vn < n from by omega)
    have hE1 := hE.at_ 1 rfl
    have hE6 := hE.at_ 6 rfl
    simp only [List.getElem_toArray, List.getElem_cons_zero, List.getElem_cons_succ] at hE1 hE6
    have HB := Lib.hid hb
    have HE := Lib.hid hE
    have HX := Lib.hid hX
    have hvn2 : vn < n := by omega
    have hm4 : m ≤ 4 := by omega
    have hw0s := hb.size
    rw [hk]
    clear hws hpre hk htr hvk hdk hvr hc hd hdm hvc hv1 hv2 hv3 hb hE hX hv0 hvn
    go_enter Try.func34, Try.ntmps34
    go_wp2_with fail
    clear hE1 hE6
    go_loopw [5] (fun t5 wr => ∃ q : Nat, q ≤ 6 ∧ t5 = .int .i64 q ∧ Hid ((belK (wordF c.vars ds) t d q).all (satF c) = true) ∧ Hid (Below w0.heap.size w0 wr) ∧ Hid (TBlk 60 wr bE #[.int .i64 c.kind, .slice (some ⟨vb, vo, none⟩) m cv, .slice aa c.args.length ca, .int .i64 c.bound, .slice ra c.rows.length cr, .slice (some ⟨ab, ao, none⟩) n cd, .slice (some ⟨gx, 0, none⟩) m m]) ∧ Hid (Front m wr gx t)) (fun t5 _ => 6 - (intOf t5).toNat)
    case atStart => exact ⟨0, by omega, rfl, by rw [belK_zero]; rfl, HB.out, HE.out, HX.out⟩
    case round =>
      obtain ⟨q, hq, rfl, hall, hbq, hEq, hXq⟩ := hrel
      clear HB HE HX
      by_cases hlt : q < 6
      · have e1 := hEq.out.at_ 1 rfl
        have e5 := hEq.out.at_ 5 rfl
        have e6 := hEq.out.at_ 6 rfl
        simp only [List.getElem_toArray, List.getElem_cons_zero, List.getElem_cons_succ] at e1 e5 e6
        have ev : wr.cell? ⟨vb, vo + k, none⟩ = some (.int .i64 vn) := (hbq.out.cell (p := ⟨vb, _, none⟩) hvb).trans hvc2
        have ed : wr.cell? ⟨ab, ao + vn, none⟩ = some (.int .i64 d) := (hbq.out.cell (p := ⟨ab, _, none⟩) hab).trans hdc
        have hdh : dhB d q = hasB d q := by unfold dhB; rw [inB_mk ⟨by omega, by omega⟩]; rfl
        cases hh : hasB d q
        · have HH := Lib.hid hh
          rw [hh] at hdh
          clear hh
          go_wp2_with fail
          go_still_tail 15, (by kernel_rfl)
          go_wp2_with fail
          refine (sdomainHas _ _ hd63.1 _).mono ?_
          rw [hdh]
          rintro e W3 ⟨rfl, rfl⟩
          have hbd : Below wr.heap.size wr wr.drew := below_drewN (Below.refl _ _) 1
          have HN := Lib.hid (And.intro (hbq.out.trans (hbd.mono hbq.out.size)) (And.intro (hEq.out.below_ hbd hEq.out.lt) (hXq.out.on hbd)))
          clear hbd
          go_wp2_with fail
          go_roundw
          case rel => exact ⟨q + 1, by omega, by go_num, by rw [belK_no HH.out]; exact hall.out, HN.out.1, HN.out.2.1, HN.out.2.2⟩
          case measure => simp [intOf]; omega
        · have HH := Lib.hid hh
          rw [hh] at hdh
          clear hh
          go_wp2_with fail
          go_still_tail 15, (by kernel_rfl)
          go_wp2_with fail
          refine (sdomainHas _ _ hd63.1 _).mono ?_
          rw [hdh]
          rintro e W3 ⟨rfl, rfl⟩
          have hbd : Below wr.heap.size wr wr.drew := below_drewN (Below.refl _ _) 1
          have hb3 := hbq.out.trans (hbd.mono hbq.out.size)
          have hE3 := hEq.out.below_ hbd hEq.out.lt
          have hX3 := hXq.out.on hbd
          have hgE : gx ≠ bE := by
            obtain ⟨cs, _, h2, _⟩ := hX3
            exact h2.ne hE3 (by decide)
          obtain ⟨u0, hu0⟩ := hX3.cell hkm
          have hf0 := hX3.frozen k
          have hX4 := hX3.push (by have := HK.out; omega) q
          rw [HK.out] at hX4
          have hE4 := hE3.far (j := k) (u := .int .i64 q) hgE.symm
          have hb4 := hb3.setCell (p := ⟨gx, k, none⟩) hg.2 (.int .i64 q)
          have hI := ih (t ++ [(q : Int)]) _ (by rw [List.length_append, List.length_singleton]; have := HTR.out; omega) (HPRE.out.push HWS.out (valsTo_has (by omega) (by omega) HH.out)) hb4 hE4 hX4
          have hlen : (((t ++ [(q : Int)]).length : Nat) : Int) = (k : Int) + 1 := by rw [List.length_append, List.length_singleton, HK.out]; omega
          rw [hlen] at hI
          have HI := Lib.hid hI
          have E6 := hE3.at_ 6 rfl
          simp only [List.getElem_toArray, List.getElem_cons_zero, List.getElem_cons_succ] at E6
          clear hbd hb3 hE3 hX3 hX4 hE4 hb4 hI hlen ih e1 e5 e6 ev ed
          go_wp2_with fail
          refine HI.out.mono ?_
          rintro e W5 ⟨rfl, hb5, hE5, hX5⟩
          have HN := Lib.hid (And.intro hb5 (And.intro hE5 hX5.pop))
          clear hb5 hE5 hX5 HI E6 hu0 hf0
          cases hres : (extT (wordF c.vars ds) (t ++ [(q : Int)])).all (satF c)
          · have HF := Lib.hid (ext_false HWS.out hlt HH.out hres)
            clear hres
            go_wp2_with fail
            go_ret
            exact ⟨ret_bool HF.out.symm, HN.out.1, HN.out.2.1, HN.out.2.2⟩
          · have HR := Lib.hid hres
            clear hres
            go_wp2_with fail
            go_roundw
            case rel => exact ⟨q + 1, by omega, by go_num, by rw [belK_yes HH.out, List.all_append, hall.out, HR.out]; rfl, HN.out.1, HN.out.2.1, HN.out.2.2⟩
            case measure => simp [intOf]; omega
      · obtain rfl : q = 6 := by omega
        go_wp2_with fail
        go_ret
        refine ⟨?_, hbq.out, hEq.out, hXq.out⟩
        have := hall.out
        rw [belK_six HWS.out] at this
        exact ret_bool this.symm
theorem make_blk1 {P : Program} (t e : TypeId) (i : TypeInfo) (z : Value) (ht : P.underlying t = some (.slice e)) (hi : P.info? e = some i) (hz : i.zero = some z) (hs : i.size = 1) (h1 : z.cells = #[z]) (n : Nat) (hb : i.bytes * n ≤ 281474976710656) (h63 : n ≤ maxLen) :
    ∃ Z : Array Value, Z.toList = List.replicate n z ∧ ∀ W : World, Sem.run P (Instr.makeSlice t (.int .i64 (n : Int)) (.int .i64 (n : Int))) W = .ok (.slice (some ⟨W.heap.size, 0, none⟩) n n) (W.alloc (.cells Z e)) := by
  refine ⟨madeCells z.cells (n * i.size), ?_, fun W => ?_⟩
  · rw [hs, Nat.mul_one, h1]; exact toList_madeCells_one _ _
  · have h := run_make (P := P) W t e i z ht hi hz .i64 .i64 (n : Int) (n : Int) (Int.natCast_nonneg _) (Int.le_refl _) (by rw [← Int.natCast_mul]; exact Int.ofNat_le.2 hb) (by unfold maxLen at h63; omega)
    simpa using h
set_option maxHeartbeats 8000000 in
theorem sIsEntailed (us : List Value) (c : Con) (A : Option Addr) (n d : Nat) (ds : List Int) (w : World) (h : ConR w w.heap.size us c) (hx : IntR w w.heap.size A n ds) :
    Calls Try.prog 9 #[.agg us.toArray, .slice A n d] w fun e w' => e = .returned (.bool (ientF c ds)) ∧ Below w.heap.size w w' := by
  obtain ⟨i0, hi0, hz0, hz1, hz2⟩ := info_parts info_int
  have hl := Lib.hid hx.len
  obtain ⟨va, aa, ra, cv, ca, cr, rfl, -⟩ := id h
  obtain ⟨wa, hwa⟩ : ∃ wa, wa = w.alloc (.cells #[.int .i64 c.kind, .slice va c.vars.length cv, .slice aa c.args.length ca, .int .i64 c.bound, .slice ra c.rows.length cr] 28) := ⟨_, rfl⟩
  have hb0 : Below w.heap.size w wa := by rw [hwa]; exact b_alloc _ _
  have ha : CBlk wa w.heap.size (.int .i64 c.kind) (.slice va c.vars.length cv) (.slice aa c.args.length ca) (.int .i64 c.bound) (.slice ra c.rows.length cr) := by rw [hwa]; exact CBlk.new w _ _ _ _ _
  have HC1 := Lib.hid (ConR.on h hb0)
  have GX := Lib.hid (IntR.on hx hb0)
  have HC0 := Lib.hid h
  have HX0 := Lib.hid hx
  have HA := Lib.hid ha
  obtain ⟨a0, a1, a2, a3, a4⟩ := ha.cells
  clear ha h hx
  go_enter Try.func9, Try.ntmps9
  go_wp2_with fail
  rw [← hwa]
  clear hwa
  refine (svalidDomains _ _ _ _ _ GX.out).mono ?_
  rintro e w' ⟨rfl, rfl⟩
  cases t0 : dokF ds
  · have HE := Lib.hid (show ientF c ds = false by unfold ientF; rw [t0]; rfl)
    clear t0
    go_wp2_with fail
    go_ret
    exact ⟨ret_bool HE.out.symm, hb0⟩
  obtain ⟨hl1, hl4, hdoms⟩ := dok_parts t0
  have HDM := Lib.hid hdoms
  rw [hl.out] at hl1 hl4
  have HD := Lib.hid t0
  clear t0 hdoms
  go_wp2_with fail
  refine (svalidConstraint _ c _ _ HC1.out).mono ?_
  rintro e w2 ⟨rfl, hb2⟩
  have HA2 := Lib.hid (HA.out.below hb2 HA.out.lt)
  have hsw : w.heap.size < w2.heap.size := HA2.out.lt
  have HB2 := Lib.hid (bgo hb0 hb2)
  obtain ⟨d0, d1, d2, d3, d4⟩ := HA2.out.cells
  clear a0 a1 a2 a3 a4 hb2 HC1 GX HA hb0
  cases t0 : vconF c (n : Int)
  · have HE := Lib.hid (show ientF c ds = false by unfold ientF; rw [hl.out, t0]; simp)
    clear t0
    go_wp2_with fail
    go_ret
    exact ⟨ret_bool HE.out.symm, HB2.out⟩
  have HIE := Lib.hid (show ientF c ds = entF c ds by unfold ientF; rw [hl.out, t0, HD.out]; simp)
  have HV := Lib.hid t0
  have hvp := Lib.hid (vcon_vars t0 hl4)
  obtain ⟨m, hm⟩ : ∃ m, c.vars.length = m := ⟨_, rfl⟩
  have hm4 : m ≤ 4 := by have := hvp.out.1; omega
  obtain ⟨Z, hZ, hmk⟩ := make_blk1 (P := Try.prog) 22 3 i0 _ Try.underlying22 hi0 hz0 hz1 rfl m (by rw [hz2]; omega) (by unfold maxLen; omega)
  have HZ := Lib.hid hZ
  have HM := Lib.hid hm
  rw [hm] at d1
  clear t0 hm hZ
  go_wp2_with fail
  have hSk : ∀ w', Below w2.heap.size w2 w' → w'.cell? ⟨w.heap.size, 0, none⟩ = some (.int .i64 c.kind) ∧ w'.cell? ⟨w.heap.size, 1, none⟩ = some (.slice va m cv) ∧ w'.cell? ⟨w.heap.size, 2, none⟩ = some (.slice aa c.args.length ca) ∧ w'.cell? ⟨w.heap.size, 3, none⟩ = some (.int .i64 c.bound) ∧ w'.cell? ⟨w.heap.size, 4, none⟩ = some (.slice ra c.rows.length cr) :=
    fun w' hb => ⟨(hb.cell (p := ⟨_, _, none⟩) hsw).trans d0, (hb.cell (p := ⟨_, _, none⟩) hsw).trans d1, (hb.cell (p := ⟨_, _, none⟩) hsw).trans d2, (hb.cell (p := ⟨_, _, none⟩) hsw).trans d3, (hb.cell (p := ⟨_, _, none⟩) hsw).trans d4⟩
  refine wp_region_held_drew (S := fun w' => w'.cell? ⟨w.heap.size, 0, none⟩ = some (.int .i64 c.kind) ∧ w'.cell? ⟨w.heap.size, 1, none⟩ = some (.slice va m cv) ∧ w'.cell? ⟨w.heap.size, 2, none⟩ = some (.slice aa c.args.length ca) ∧ w'.cell? ⟨w.heap.size, 3, none⟩ = some (.int .i64 c.bound) ∧ w'.cell? ⟨w.heap.size, 4, none⟩ = some (.slice ra c.rows.length cr)) (by kernel_rfl) (hSk _ (below_drewN (Below.refl _ _) 1)) (fun hHeld => ?_)
  refine wpAnyH_take (i := 0) (oi := { dst := _, op := _, type := _, pos := _, after := _, guard := _ }) (v := ?v0) rfl (by kernel_rfl) (by kernel_rfl) (by kernel_rfl) (fun _ _ _ h => h) (Or.inl ⟨by rfl, ?y0⟩) hHeld ?r0
  case y0 => (intro w hSw; (try dsimp only at hSw); go_simp; try with_reducible rfl)
  try simp only [Act.put, List.setIfInBounds_toArray, List.set_cons_zero, List.set_cons_succ]
  refine wpAnyH_take (i := 1) (oi := { dst := _, op := _, type := _, pos := _, after := _, guard := _ }) (v := ?v1) rfl (by kernel_rfl) (by kernel_rfl) (by kernel_rfl) (fun _ _ _ h => h) (Or.inl ⟨by rfl, ?y1⟩) hHeld ?r1
  case y1 => (intro w hSw; (try dsimp only at hSw); go_simp; try with_reducible rfl)
  try simp only [Act.put, List.setIfInBounds_toArray, List.set_cons_zero, List.set_cons_succ]
  refine wpAnyH_take (i := 2) (oi := { dst := _, op := _, type := _, pos := _, after := _, guard := _ }) (v := ?v2) rfl (by kernel_rfl) (by kernel_rfl) (by kernel_rfl) (fun _ _ _ h => h) (Or.inl ⟨by rfl, ?y2⟩) hHeld ?r2
  case y2 => (intro w hSw; (try dsimp only at hSw); go_simp; try with_reducible rfl)
  try simp only [Act.put, List.setIfInBounds_toArray, List.set_cons_zero, List.set_cons_succ]
  refine wpAnyH_take (i := 3) (oi := { dst := _, op := _, type := _, pos := _, after := _, guard := _ }) (v := ?v3) rfl (by kernel_rfl) (by kernel_rfl) (by kernel_rfl) (fun _ _ _ h => h) (Or.inl ⟨by rfl, ?y3⟩) hHeld ?r3
  case y3 => (intro w hSw; (try dsimp only at hSw); go_simp; try with_reducible rfl)
  try simp only [Act.put, List.setIfInBounds_toArray, List.set_cons_zero, List.set_cons_succ]
  refine wpAnyH_take (i := 4) (oi := { dst := _, op := _, type := _, pos := _, after := _, guard := _ }) (v := ?v4) rfl (by kernel_rfl) (by kernel_rfl) (by kernel_rfl) (fun _ _ _ h => h) (Or.inl ⟨by rfl, ?y4⟩) hHeld ?r4
  case y4 => (intro w hSw; (try dsimp only at hSw); go_simp; try with_reducible rfl)
  try simp only [Act.put, List.setIfInBounds_toArray, List.set_cons_zero, List.set_cons_succ]
  refine wpAnyH_ready (rs := [5]) (by kernel_rfl) (by simp) ?_
  refine AllReadyH.cons (o := { dst := _, op := _, type := _, pos := _, after := _, guard := _ }) rfl (fun K hK => ?_) AllReadyH.nil
  go_simp
  refine hK.out _ _ ?_ (fun hHeld => ?_)
  · exact hSk _ (below_drewN (b_alloc _ _) 1)
  clear hK K
  try simp only [Act.put, List.setIfInBounds_toArray, List.set_cons_zero, List.set_cons_succ]
  refine wpAnyH_take (i := 6) (oi := { dst := _, op := _, type := _, pos := _, after := _, guard := _ }) (v := ?v6) rfl (by kernel_rfl) (by kernel_rfl) (by kernel_rfl) (fun _ _ _ h => h) (Or.inl ⟨by rfl, ?y6⟩) hHeld ?r6
  case y6 => (intro w hSw; (try dsimp only at hSw); go_simp; try with_reducible rfl)
  try simp only [Act.put, List.setIfInBounds_toArray, List.set_cons_zero, List.set_cons_succ]
  refine wpAnyH_ready (rs := [7]) (by kernel_rfl) (by simp) ?_
  refine AllReadyH.cons (o := { dst := _, op := _, type := _, pos := _, after := _, guard := _ }) rfl (fun K hK => ?_) AllReadyH.nil
  go_simp
  refine hK.out _ _ ?_ (fun hHeld => ?_)
  · exact hSk _ (below_drewN ((b_alloc _ _).alloc (by simp) _) 1)
  clear hK K
  try simp only [Act.put, List.setIfInBounds_toArray, List.set_cons_zero, List.set_cons_succ]
  refine wpAnyH_take (i := 8) (oi := { dst := _, op := _, type := _, pos := _, after := _, guard := _ }) (v := ?v8) rfl (by kernel_rfl) (by kernel_rfl) (by kernel_rfl) (fun _ _ _ h => h) (Or.inl ⟨by rfl, ?y8⟩) hHeld ?r8
  case y8 => (intro w hSw; (try dsimp only at hSw); go_simp; try with_reducible rfl)
  try simp only [Act.put, List.setIfInBounds_toArray, List.set_cons_zero, List.set_cons_succ]
  refine wpAnyH_done (by kernel_rfl) ?_ _
  go_wp2_with fail
  have hZs : Z.size = m := by rw [← Array.length_toList, HZ.out, List.length_replicate]
  have hI := sall (w2.heap.size + 1) w2.heap.size m n d c va aa ra cv ca cr ds A w2 (ConR.on HC0.out HB2.out) (IntR.on HX0.out HB2.out) HDM.out HV.out hl4 HM.out ⟨by omega, Nat.le_refl _⟩ m [] _ (by simp) (fun j d v _ hv => by simp at hv)
    (below_drewN ((b_alloc w2 (.cells Z 3)).alloc (by simp) (.cells #[.int .i64 c.kind, .slice va m cv, .slice aa c.args.length ca, .int .i64 c.bound, .slice ra c.rows.length cr, .slice A n d, .slice (some ⟨w2.heap.size, 0, none⟩) m m] 60)) 1)
    ((TBlk.newAt (by simp)).drewN_ 1) ⟨Z, hZs, ((TBlk.newAt rfl).alloc_ _).drewN_ 1, fun j x hj => by simp at hj⟩
  have HI := Lib.hid hI
  clear hI hHeld hSk hmk d0 d1 d2 d3 d4 hZs
  refine HI.out.mono ?_
  rintro e w5 ⟨rfl, hb5, -, -⟩
  have HB5 := Lib.hid (bgo HB2.out hb5)
  have HR := Lib.hid (show (extT (wordF c.vars ds) []).all (satF c) = ientF c ds by rw [HIE.out, extT_nil]; rfl)
  clear hb5 HI
  go_wp2_with fail
  go_ret
  exact ⟨ret_bool HR.out, HB5.out⟩
end Go.Proofs.Ytlmphpopcojjnaa
