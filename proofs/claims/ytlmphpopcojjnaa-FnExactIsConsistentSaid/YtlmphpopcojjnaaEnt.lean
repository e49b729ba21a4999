/- IsEntailed. -/
import Derived.Test.YtlmphpopcojjnaaTup2
import Derived.Test.YtlmphpopcojjnaaSatI
import Derived.Test.YtlmphpopcojjnaaSolI
namespace Go.Proofs.Ytlmphpopcojjnaa
open Go.ChangeShapes Go.WideShapes Go.ChangeAt Go.RowKit
open Go.Shelf
set_option linter.unusedVariables false
set_option maxRecDepth 100000
attribute [local go_sem] Oper.semAt_some

set_option maxHeartbeats 4000000 in
theorem svalidDomains (A : Option Addr) (n c : Nat) (xs : List Int) (w : World) (h : IntR w w.heap.size A n xs) :
    Calls Try.prog 32 #[.slice A n c] w fun e w' => e = .returned (.bool (dokF xs)) ∧ w = w' := by
  have hn := h.le
  have hl := Lib.hid h.len
  go_enter Try.func32, Try.ntmps32
  go_wp2_with fail
  go_loop [3] (fun i => ∃ k : Nat, k ≤ n ∧ i = .int .i64 k ∧ Hid (AllB vdB xs k)) (fun i => n - (intOf i).toNat)
  case atStart => exact ⟨0, by omega, rfl, AllB.zero _ _⟩
  case round =>
    obtain ⟨k, hk, rfl, hq⟩ := hrel
    by_cases hlt : k < n
    · obtain ⟨ab, ao, x, rfl, hab, hxk, hcx⟩ := IntR.at_ h hlt
      have HXK := Lib.hid hxk
      clear hxk
      go_wp2_with fail
      refine (svalidDomain _ _).mono ?_
      rintro e w' ⟨rfl, rfl⟩
      cases hv : vdB x
      · have HE := Lib.hid (show dokF xs = false by unfold dokF; rw [show (xs.all fun x => inB x 0 63) = xs.all vdB from rfl, all_no (f := vdB) HXK.out hv]; simp)
        clear hv
        go_wp2_with fail
        go_ret
        exact ⟨ret_bool HE.out.symm, rfl⟩
      · have HV := Lib.hid hv
        clear hv
        go_wp2_with fail
        go_round
        case rel => exact ⟨k + 1, by omega, by go_num, AllB.succ hq.out HXK.out HV.out⟩
        case measure => simp [intOf]; omega
    · obtain rfl : k = n := by omega
      have HE := Lib.hid (show dokF xs = inB k 1 4 by unfold dokF; rw [show (xs.all fun x => inB x 0 63) = xs.all vdB from rfl, AllB.done hq.out (Nat.le_of_eq hl.out), hl.out]; simp)
      go_wp2_with fail
      refine (inRange _ _ _ _).mono ?_
      rintro e w' ⟨rfl, rfl⟩
      go_wp2_with fail
      go_ret
      exact ⟨ret_bool HE.out.symm, rfl⟩
theorem svalidDomains_b (A : Option Addr) (n c : Nat) (xs : List Int) (w : World) (b : Bool) (hb : dokF xs = b) (h : IntR w w.heap.size A n xs) :
    Calls Try.prog 32 #[.slice A n c] w fun e w' => e = .returned (.bool b) ∧ w = w' := by
  subst hb; exact svalidDomains A n c xs w h
/-- all tuples satisfy c. -/
def entF (c : Con) (ds : List Int) : Bool := (allT (wordF c.vars ds)).all (satF c)
def ientF (c : Con) (ds : List Int) : Bool := dokF ds && (vconF c ds.length && entF c ds)
theorem dok_parts {ds : List Int} (h : dokF ds = true) : 1 ≤ ds.length ∧ ds.length ≤ 4 ∧ Doms ds := by
  unfold dokF at h
  simp only [Bool.and_eq_true, List.all_eq_true] at h
  have := inB_true h.1
  exact ⟨by omega, by omega, fun x hx => inB_true (h.2 x hx)⟩
theorem word_doms {vars ds : List Int} (hv : ∀ v ∈ vars, 0 ≤ v ∧ v < (ds.length : Int)) (h : Doms ds) : Doms (wordF vars ds) := by
  intro x hx
  unfold wordF at hx
  obtain ⟨u, hu, rfl⟩ := List.mem_map.1 hx
  have := hv u hu
  exact h _ (gat_in (by omega))
theorem sat_tup {c : Con} {n : Nat} {ds t : List Int} (hv : vconF c n = true) (h4 : n ≤ 4) (ht : t ∈ allT (wordF c.vars ds)) : SatOk c t ∧ t.length = c.vars.length := by
  obtain ⟨h1, h2, h3⟩ := vcon_vars hv h4
  obtain ⟨hl, hm⟩ := mem_allT.1 ht
  rw [wordF_len] at hl
  refine ⟨⟨hl, by omega, by omega, fun v hv => ?_, h3⟩, hl⟩
  obtain ⟨k, hk, e⟩ := List.getElem_of_mem hv
  have := hm k (gat (wordF c.vars ds) k) v (by rw [gat_eq (List.getElem?_eq_getElem (by rw [wordF_len]; omega))]; exact List.getElem?_eq_getElem _) (by rw [List.getElem?_eq_getElem hk, e])
  omega
theorem results_cell1 {fn : Func} {p : Tmp} {ty : TypeId} (h : fn.results = #[.cell p ty]) (tmps : Array Value) (w : World) (a : Addr) (v : Value) (hp : tmps.getD p undef = .pointer (some a)) (hd : ∀ w, (isAgg ty).run Try.prog w = .ok false w) (hl : w.cell? a = some v) :
    (results fn tmps).run Try.prog w = .ok v w := by
  have hp' : tmps[p]?.getD undef = .pointer (some a) := by simpa using hp
  simp [results, h, hp', asAddr, loadVar, Sem.run_bind, hd, run_load, hl, Result.andThen]
theorem intR_blk {w : World} {g m : Nat} {cs : Array Value} {t : List Int} (hb : TBlk 3 w g cs) (hc : ∀ (j : Nat) v, t[j]? = some v → cs[j]? = some (.int .i64 v)) (hl : t.length = m) (hm : m ≤ 4) : IntR w w.heap.size (some ⟨g, 0, none⟩) m t :=
  ⟨hl, by omega, fun _ => ⟨g, 0, rfl, hb.lt, fun k x hx => ⟨_, by rw [Nat.zero_add]; exact hb.at_ k (hc k x hx), rfl⟩⟩⟩
set_option maxHeartbeats 8000000 in
theorem iIsEntailed (us : List Value) (c : Con) (A : Option Addr) (n d : Nat) (ds : List Int) (w : World) (h : ConR w w.heap.size us c) (hx : IntR w w.heap.size A n ds) :
    Calls Try.prog 12 #[.agg us.toArray, .slice A n d] w fun e w' => e = .returned (.bool (ientF c ds)) ∧ Below w.heap.size w w' := by
  have hl := Lib.hid hx.len
  obtain ⟨va, aa, ra, cv, ca, cr, eus, -⟩ := id h
  obtain ⟨us0, hus⟩ : ∃ us0 : Array Value, us0 = us.toArray := ⟨_, rfl⟩
  have HUS := Lib.hid (hus.trans (by rw [eus]))
  obtain ⟨x0, hx0⟩ : ∃ x0 : Value, x0 = .int .i64 c.kind := ⟨_, rfl⟩
  obtain ⟨x1, hx1⟩ : ∃ x0 : Value, x0 = .slice va c.vars.length cv := ⟨_, rfl⟩
  obtain ⟨x2, hx2⟩ : ∃ x0 : Value, x0 = .slice aa c.args.length ca := ⟨_, rfl⟩
  obtain ⟨x3, hx3⟩ : ∃ x0 : Value, x0 = .int .i64 c.bound := ⟨_, rfl⟩
  obtain ⟨x4, hx4⟩ : ∃ x0 : Value, x0 = .slice ra c.rows.length cr := ⟨_, rfl⟩
  obtain rfl : us = [x0, x1, x2, x3, x4] := by rw [eus, hx0, hx1, hx2, hx3, hx4]
  obtain ⟨wa, hwa⟩ : ∃ wa, wa = (w.alloc (.cells #[x0, x1, x2, x3, x4] 28)).alloc (.cells #[.bool false] 4) := ⟨_, rfl⟩
  have hb0 : Below w.heap.size w wa := by rw [hwa]; exact (b_alloc _ _).alloc (by simp) _
  have hsz : wa.heap.size = w.heap.size + 2 := by rw [hwa]; simp
  have ha : CBlk wa w.heap.size x0 x1 x2 x3 x4 := by rw [hwa]; exact (CBlk.new w _ _ _ _ _).below (b_alloc _ _) (by simp)
  have hr : TBlk 4 wa (w.heap.size + 1) #[.bool false] := by rw [hwa]; exact TBlk.newAt (by simp)
  have HC0 := Lib.hid h
  have H := Lib.hid (ConR.on h hb0)
  have GX := Lib.hid (IntR.on hx hb0)
  have HA := Lib.hid ha
  have HR := Lib.hid hr
  obtain ⟨a0, a1, a2, a3, a4⟩ := ha.cells
  have hr0 := hr.at_ 0 rfl
  have hr1 := hr.frozen 0
  clear h hx hx0 hx1 hx2 hx3 hx4 eus hus HUS ha hr
  obtain ⟨z, hz⟩ : ∃ z, z = w.heap.size := ⟨_, rfl⟩
  refine (callsIn_wide (n := 5)).1 ?_
  refine callsIn_of_wp_marks Try.func12 rfl trivial ?_ rfl
  refine wpIn_wide.2 ?_
  simp only [Try.ntmps12, List.size_toArray, List.length_cons, List.length_nil, Nat.reduceAdd, Nat.reduceSub, Array.replicate_succ, Array.replicate_zero, List.push_toArray, List.append_toArray, List.nil_append, List.cons_append]
  go_wp2_with fail
  rw [← hwa]
  clear hwa
  refine (domainsOk _ _ _ _ _ GX.out).mono ?_
  rintro e w1 ⟨rfl, hb1⟩
  have H1 := Lib.hid (ConR.on H.out hb1)
  have GX1 := Lib.hid (IntR.on GX.out hb1)
  have HA1 := Lib.hid (HA.out.below hb1 (by omega))
  have HR1 := Lib.hid (HR.out.below_ hb1 HR.out.lt)
  have hs1 := hb1.size
  have HB1 := Lib.hid (hb0.trans (hb1.mono (by omega)))
  obtain ⟨c0, c1, c2, c3, c4⟩ := HA1.out.cells
  have hr2 := HR1.out.at_ 0 rfl
  have hr3 := HR1.out.frozen 0
  clear a0 a1 a2 a3 a4 hr0 hr1 hb1 H GX HA HR
  cases t0 : dokF ds
  · have HE := Lib.hid (show ientF c ds = false by unfold ientF; rw [t0]; rfl)
    clear t0
    go_wp2_with fail
    refine ⟨_, results_cell1 rfl _ _ ⟨w.heap.size + 1, 0, none⟩ (.bool false) rfl (run_isAgg_plain Try.underlying4 rfl) ((HR1.out.store 0 _).at_ 0 rfl), ?_, ?_⟩
    · rw [HE.out]
    · exact HB1.out.setCell (p := ⟨w.heap.size + 1, 0, none⟩) (Nat.le_succ _) _
  obtain ⟨hl1, hl4, hdoms⟩ := dok_parts t0
  have HDM := Lib.hid hdoms
  rw [hl.out] at hl1 hl4
  have HD := Lib.hid t0
  clear t0 hdoms
  go_wp2_with fail
  refine (iValidConstraint _ c _ _ H1.out).mono ?_
  rintro e w2 ⟨rfl, hb2⟩
  have hvc : vconstF c (n : Int) = vconF c (n : Int) := by unfold vconstF; rw [inB_mk ⟨by omega, by omega⟩]; rfl
  rw [hvc]
  clear hvc
  have H2 := Lib.hid (ConR.on H1.out hb2)
  have GX2 := Lib.hid (IntR.on GX1.out hb2)
  have HA2 := Lib.hid (HA1.out.below hb2 (by omega))
  have HR2 := Lib.hid (HR1.out.below_ hb2 HR1.out.lt)
  have hs2 := hb2.size
  have HB2 := Lib.hid (HB1.out.trans (hb2.mono (by omega)))
  obtain ⟨d0, d1, d2, d3, d4⟩ := HA2.out.cells
  have hr4 := HR2.out.at_ 0 rfl
  have hr5 := HR2.out.frozen 0
  clear c0 c1 c2 c3 c4 hr2 hr3 hb2 H1 GX1 HA1 HR1 HB1 hb0
  cases t0 : vconF c (n : Int)
  · have HE := Lib.hid (show ientF c ds = false by unfold ientF; rw [hl.out, t0]; simp)
    clear t0
    go_wp2_with fail
    refine ⟨_, results_cell1 rfl _ _ ⟨w.heap.size + 1, 0, none⟩ (.bool false) rfl (run_isAgg_plain Try.underlying4 rfl) ((HR2.out.store 0 _).at_ 0 rfl), ?_, ?_⟩
    · rw [HE.out]
    · exact HB2.out.setCell (p := ⟨w.heap.size + 1, 0, none⟩) (Nat.le_succ _) _
  have hie : ientF c ds = entF c ds := by unfold ientF; rw [hl.out, t0, HD.out]; simp
  have HIE := Lib.hid hie
  have HV := Lib.hid t0
  have hvp := Lib.hid (vcon_vars t0 hl4)
  clear hie t0
  go_wp2_with fail
  refine (iword _ c _ _ _ ds _ H2.out GX2.out hvp.out.2.1 (by have := hvp.out.1; omega)).mono ?_
  rintro e w3 ⟨v, rfl, ho3, hb3⟩
  obtain ⟨ws, hws⟩ : ∃ ws, wordF c.vars ds = ws := ⟨_, rfl⟩
  have hwl : ws.length = c.vars.length := by rw [← hws, wordF_len]
  obtain ⟨m, hm⟩ : ∃ m, ws.length = m := ⟨_, rfl⟩
  have hm1 : 1 ≤ m ∧ m ≤ 4 := by have := hvp.out.1; omega
  rw [hws] at ho3
  have ho4 := ho3.1
  rw [hm] at ho4
  obtain ⟨gv, cc, cur, rfl, hgv, hgb, hgc⟩ := own_blk_int ho4 (by omega)
  have HGC := Lib.hid hgc
  have HWS := Lib.hid hws
  have HM := Lib.hid hm
  have HMV := Lib.hid (show c.vars.length = m from by omega)
  have H3 := Lib.hid (ConR.on H2.out hb3)
  have HA3 := Lib.hid (HA2.out.below hb3 (by omega))
  have HR3 := Lib.hid (HR2.out.below_ hb3 HR2.out.lt)
  have hs3 := hb3.size
  have HB3 := Lib.hid (HB2.out.trans (hb3.mono (by omega)))
  clear d0 d1 d2 d3 d4 hr4 hr5 hb3 H2 GX2 HA2 HR2 HB2 ho3 ho4 hws hm hgc hwl
  go_wp2_with fail
  refine (ituples _ _ _ _).mono ?_
  rintro e w4 ⟨rfl, hw4⟩
  obtain ⟨bD, hbD⟩ : ∃ bD, w3.heap.size = bD := ⟨_, rfl⟩
  have hd4 : TBlk 22 w4 bD #[.slice (some ⟨gv, 0, none⟩) m cc] := by rw [hw4]; exact TBlk.newAt hbD.symm
  have hg4 : TBlk 3 w4 gv cur := by rw [hw4]; exact hgb.alloc_ _
  have hs4 : w4.heap.size = bD + 1 := by rw [hw4]; simp [hbD]
  have hb34 : Below w3.heap.size w3 w4 := by rw [hw4]; exact b_alloc _ _
  have HA4 := Lib.hid (HA3.out.below hb34 (by omega))
  have HR4 := Lib.hid (HR3.out.below_ hb34 HR3.out.lt)
  have HB4 := Lib.hid (HB3.out.trans (hb34.mono (by omega)))
  rw [hbD]
  rw [hbD] at hs3
  clear hw4 hb34 H3 HA3 HR3 HB3 hbD hgb
  go_wp2_with fail
  have HG4 := Lib.hid hg4
  have HD4 := Lib.hid hd4
  have HSZ := Lib.hid (show w.heap.size + 2 ≤ gv ∧ gv < bD ∧ w.heap.size + 2 ≤ bD from ⟨by omega, by have := hg4.lt; have := hg4.ne hd4 (by decide); omega, by omega⟩)
  clear hg4 hd4 hsz hs1 hs2 hs3 hgv
  refine (wpIn_wide (n := 5)).1 ?_
  refine wp_range_direct (gf := 70) (lb := #[.pointer (some ⟨bD, 0, none⟩)]) rfl (enters_of Try.func70 (by kernel_rfl) rfl) ?_
  intro r hr1 hr2 hr3 hr4 hr5 hr6
  obtain ⟨B, hB⟩ : ∃ B, w4.heap.size = B := ⟨_, rfl⟩
  rw [hB]
  have HBD := Lib.hid (show B = bD + 1 from by rw [← hB]; exact hs4)
  let J : List (List Int) → World → Prop := fun vis W => Rdy B r W ∧ Below w.heap.size w W ∧ CBlk W w.heap.size x0 x1 x2 x3 x4 ∧ TBlk 4 W (w.heap.size + 1) #[.bool false] ∧ TBlk 22 W bD #[.slice (some ⟨gv, 0, none⟩) m cc] ∧ TBlk 3 W gv cur ∧ ∀ t ∈ vis, satF c t = true
  let Jx : World → Prop := fun W => Don B r .ret W ∧ Below w.heap.size w W ∧ TBlk 4 W (w.heap.size + 1) #[.bool false] ∧ entF c ds = false
  obtain ⟨W5, hW5⟩ : ∃ W5, (w4.alloc (.deferred (some []))).alloc (.loop r) = W5 := ⟨_, rfl⟩
  have hS5 : W5.heap.size = B + 2 := by rw [← hW5]; simp; omega
  have hJ0 : J [] W5 := by
    rw [← hW5]
    refine ⟨⟨?_, ?_⟩, (HB4.out.alloc (by have := HSZ.out; have := HBD.out; omega) _).alloc (by have := HSZ.out; have := HBD.out; simp; omega) _, (HA4.out.below (b_alloc _ _) HA4.out.lt).below (b_alloc _ _) (by have := HA4.out.lt; simp; omega), (HR4.out.alloc_ _).alloc_ _, (HD4.out.alloc_ _).alloc_ _, (HG4.out.alloc_ _).alloc_ _, by simp⟩
    · have := World.alloc_heap_new (w4.alloc (.deferred (some []))) (.loop r)
      rwa [World.size_alloc, hB] at this
    · have := World.alloc_heap_new w4 (.deferred (some []))
      rw [hB] at this
      exact ((b_alloc _ _).block _ (by rw [size_alloc_]; omega)).trans this
  have hws5 : Doms ws := by rw [← HWS.out]; exact word_doms (by rw [hl.out]; exact hvp.out.2.1) HDM.out
  rw [hW5]
  refine ((callsIn_wide (n := 5 - 1)).2 (tuples1 bD m (B + 1) gv 0 cc ws hws5 HM.out (by omega) W5 J Jx ?hJb ?hJd ?hY hJ0)).mono ?fin
  case hJb =>
    rintro vis W1 W' ⟨j1, j2, j3, j4, j5, j6, j7⟩ hb
    rw [hS5] at hb
    have := HSZ.out
    have := HBD.out
    exact ⟨j1.below (by omega) hb, j2.trans (hb.mono (by omega)), j3.below hb (by omega), j4.below_ hb (by omega), j5.below_ hb (by omega), j6.below_ hb (by omega), j7⟩
  case hJd =>
    rintro vis W1 ⟨j1, j2, j3, j4, j5, j6, j7⟩
    exact ⟨j5.at_ 0 rfl, fun j x hj => by rw [Nat.zero_add]; exact j6.at_ j (HGC.out j x hj)⟩
  case hY =>
    rintro mm g vis t W1 ⟨j1, j2, j3, j4, j5, j6, j7⟩ ht hg ⟨cs, hcs, hcb, hct⟩
    rw [hS5] at hg ⊢
    have htm := sat_tup (c := c) (ds := ds) HV.out hl4 (by rw [HWS.out]; exact ht)
    refine yield_direct (a1 := { tmps := #[.agg #[x0, x1, x2, x3, x4], .slice A n d, .pointer (some ⟨w.heap.size, 0, none⟩), undef, .pointer (some ⟨w.heap.size + 1, 0, none⟩), .slice (some ⟨g, 0, none⟩) m m, .slice A n d, .bool true, .bool false, .bool false, .agg #[x0, x1, x2, x3, x4], .slice A n d, .int .i64 n, .bool true, .bool false, .bool false,
          .agg #[x0, x1, x2, x3, x4], .slice A n d, .slice (some ⟨gv, 0, none⟩) m cc, .func (.func 70) #[] #[.pointer (some ⟨bD, 0, none⟩)], .slice (some ⟨g, 0, none⟩) m m, undef, undef, undef, undef], defers := [] }) j1 hr1 hr2 hr3 hr4 hr5 hr6 rfl (fun K hK => by gi_wp2; exact hK) ?_
    obtain ⟨W2, hW2⟩ : ∃ W2 : World, W1.putObj (B + 1) (.loop { r with state := .busy }) = W2 := ⟨_, rfl⟩
    have hBs : Bsy B r W2 := by rw [← hW2]; exact j1.busy
    have q2 : Below w.heap.size w W2 := by rw [← hW2]; exact j2.trans (put_below _ j1.1 (by have := HSZ.out; have := HBD.out; omega))
    have q3 : CBlk W2 w.heap.size x0 x1 x2 x3 x4 := by rw [← hW2]; exact (World.putObj_heap_other (by have := HSZ.out; have := HBD.out; omega)).trans j3
    have q4 : TBlk 4 W2 (w.heap.size + 1) #[.bool false] := by rw [← hW2]; exact j4.put_ j1.1 rfl
    have q5 : TBlk 22 W2 bD #[.slice (some ⟨gv, 0, none⟩) m cc] := by rw [← hW2]; exact j5.put_ j1.1 rfl
    have q6 : TBlk 3 W2 gv cur := by rw [← hW2]; exact j6.put_ j1.1 rfl
    have qg : TBlk 3 W2 g cs := by rw [← hW2]; exact hcb.put_ j1.1 rfl
    have qS : W2.heap.size = W1.heap.size := by rw [← hW2, put_size]
    have qH : ∀ k, k ≠ B + 1 → W2.heap[k]? = W1.heap[k]? := fun k hk => by rw [← hW2]; exact World.putObj_heap_other hk
    have hcon : ConR W2 W2.heap.size [x0, x1, x2, x3, x4] c := ConR.on HC0.out q2
    have hint : IntR W2 W2.heap.size (some ⟨g, 0, none⟩) m t := intR_blk qg hct (by rw [htm.2]; exact HMV.out) hm1.2
    have HQ := Lib.hid (And.intro q2 (And.intro q3 (And.intro q4 (And.intro q5 (And.intro q6 (And.intro qg (And.intro qS (And.intro qH hBs))))))))
    have HJ7 := Lib.hid j7
    have HTM := Lib.hid (And.intro htm ht)
    have HCON := Lib.hid hcon
    have HINT := Lib.hid hint
    have HHB := Lib.hid (show B + 1 < W2.heap.size from by have := (Array.getElem?_eq_some_iff.1 hBs.1).1; exact this)
    obtain ⟨k0, k1, k2, k3, k4⟩ := q3.cells
    have kr := q4.at_ 0 rfl
    have kf := q4.frozen 0
    rw [hW2]
    clear q2 q3 q4 q5 q6 qg qS qH j1 j2 j3 j4 j5 j6 j7 hcb hct hcs hW2 hcon hint hJ0 hW5 hr1 hr2 hr3 hr4 hr5 hr6 htm hBs hws5
    gi_wp2
    refine ⟨trivial, fun h => by simp [Fence.wide] at h, CallsIn.inRound _ (((callsIn_wide (n := mm - 1)).2 (isatisfied _ c _ _ _ t _ HCON.out HINT.out (Nat.le_refl _) HTM.out.1.1)).mono ?_)⟩
    rintro e W3 ⟨rfl, hb3⟩
    have HQ3 : Hid (Below w.heap.size w W3 ∧ CBlk W3 w.heap.size x0 x1 x2 x3 x4 ∧ TBlk 4 W3 (w.heap.size + 1) #[.bool false] ∧ TBlk 22 W3 bD #[.slice (some ⟨gv, 0, none⟩) m cc] ∧ TBlk 3 W3 gv cur ∧ W1.heap.size ≤ W3.heap.size ∧ (∀ k, k ≠ B + 1 → k < W1.heap.size → W3.heap[k]? = W1.heap[k]?) ∧ Bsy B r W3) := by
      obtain ⟨q2, q3, q4, q5, q6, qg, qS, qH, hBs⟩ := HQ.out
      have hs2 := q2.size
      exact Lib.hid ⟨q2.trans (hb3.mono hs2), q3.below hb3 q3.lt, q4.below_ hb3 q4.lt, q5.below_ hb3 q5.lt, q6.below_ hb3 q6.lt, by have := hb3.size; omega, fun k h1 h2 => (hb3.block k (by omega)).trans (qH k h1), ⟨(hb3.block _ HHB.out).trans hBs.1, (hb3.block _ (by have := HHB.out; omega)).trans hBs.2⟩⟩
    obtain ⟨q2, q3, q4, q5, q6, qS, qH, hBs⟩ := HQ3.out
    have kr := q4.at_ 0 rfl
    have kf := q4.frozen 0
    clear k0 k1 k2 k3 k4 hb3 HQ HCON HINT HHB q2 q3 q4 q5 q6 qS qH hBs
    cases hsat : satF c t
    · have HE := Lib.hid (show entF c ds = false by
        unfold entF
        rw [HWS.out]
        exact Bool.eq_false_iff.2 fun h => by have := List.all_eq_true.1 h t HTM.out.2; rw [hsat] at this; cases this)
      clear hsat
      gi_wp2
      obtain ⟨q2, q3, q4, q5, q6, qS, qH, hBs⟩ := HQ3.out
      have hz1 := HSZ.out
      have hz2 := HBD.out
      have hBs4 : Bsy B r (W3.setCell ⟨w.heap.size + 1, 0, none⟩ (.bool false)) := ⟨(Below.heap_setCell W3 ⟨w.heap.size + 1, 0, none⟩ _ _ (by show B + 1 ≠ w.heap.size + 1; omega)).trans hBs.1, (Below.heap_setCell W3 ⟨w.heap.size + 1, 0, none⟩ _ _ (by show B ≠ w.heap.size + 1; omega)).trans hBs.2⟩
      exact ⟨hBs4, .inr ⟨rfl, hBs4.done .ret, (q2.setCell (p := ⟨w.heap.size + 1, 0, none⟩) (Nat.le_succ _) _).trans (put_below _ hBs4.1 (by omega)), (q4.store 0 _).put_ hBs4.1 rfl, HE.out⟩⟩
    · have HST := Lib.hid hsat
      clear hsat
      gi_wp2
      obtain ⟨q2, q3, q4, q5, q6, qS, qH, hBs⟩ := HQ3.out
      have hz1 := HSZ.out
      have hz2 := HBD.out
      refine ⟨hBs, .inl ⟨rfl, ⟨hBs.ready, q2.trans (put_below _ hBs.1 (by omega)), (World.putObj_heap_other (by omega)).trans q3, q4.put_ hBs.1 rfl, q5.put_ hBs.1 rfl, q6.put_ hBs.1 rfl, fun x hx => ?_⟩, by rw [put_size]; exact qS, fun k h1 h2 => (World.putObj_heap_other (by omega)).trans (qH k (by omega) h2)⟩⟩
      rcases List.mem_append.1 hx with hx | hx
      · exact HJ7.out x hx
      · rw [List.mem_singleton.1 hx]; exact HST.out
  case fin =>
    rintro e W' ⟨⟨v, rfl⟩, (⟨hRd, j2, j3, j4, j5, j6, j7⟩ | ⟨hDn, j2, j4, hE⟩)⟩
    · refine ⟨⟨_, rfl⟩, .inl ⟨hRd, ?_⟩⟩
      have hent : entF c ds = true := by unfold entF; rw [HWS.out]; exact List.all_eq_true.2 j7
      obtain ⟨W3, hW3⟩ : ∃ W3 : World, W'.putObj (B + 1) (.loop { r with state := .exhausted, pending := none }) = W3 := ⟨_, rfl⟩
      rw [hW3]
      have hz1 := HSZ.out
      have hz2 := HBD.out
      have q4 : TBlk 4 W3 (w.heap.size + 1) #[.bool false] := by rw [← hW3]; exact j4.put_ hRd.1 rfl
      have q2 : Below w.heap.size w W3 := by rw [← hW3]; exact j2.trans (put_below _ hRd.1 (by omega))
      have hD3 : W3.heap[B]? = some (.deferred (some [])) := by rw [← hW3]; exact (World.putObj_heap_other (by omega)).trans hRd.2
      have HQ := Lib.hid (And.intro q2 (And.intro q4 (And.intro hD3 hent)))
      have kr := q4.at_ 0 rfl
      have kf := q4.frozen 0
      clear hW3 hRd j2 j3 j4 j5 j6 j7 q2 q4 hD3 hent hr1 hr2 hr3 hr4 hr5 hr6 hJ0 hW5 hws5 hB hs4
      dsimp only
      go_wp2_with fail
      obtain ⟨q2, q4, hD3, hent⟩ := HQ.out
      have hD4 : (W3.setCell ⟨w.heap.size + 1, 0, none⟩ (.bool true)).heap[B]? = some (.deferred (some [])) := (Below.heap_setCell W3 ⟨w.heap.size + 1, 0, none⟩ _ _ (by show B ≠ w.heap.size + 1; omega)).trans hD3
      refine ⟨by simp, .inl ⟨_, _, rfl, run_takeDeferred hD4, ?_⟩⟩
      refine ⟨_, results_cell1 rfl _ _ ⟨w.heap.size + 1, 0, none⟩ (.bool true) rfl (run_isAgg_plain Try.underlying4 rfl) (((q4.store 0 _).put_ hD4 rfl).at_ 0 rfl), ?_, ?_⟩
      · rw [HIE.out, hent]
      · exact (q2.setCell (p := ⟨w.heap.size + 1, 0, none⟩) (Nat.le_succ _) _).trans (put_below _ hD4 (by omega))
    · refine ⟨⟨_, rfl⟩, .inr ⟨.ret, hDn, ?_⟩⟩
      have hz1 := HSZ.out
      have hz2 := HBD.out
      obtain ⟨W3, hW3⟩ : ∃ W3 : World, W'.putObj (B + 1) (.loop { r with state := .exhausted, pending := some .ret }) = W3 := ⟨_, rfl⟩
      rw [hW3]
      have q4 : TBlk 4 W3 (w.heap.size + 1) #[.bool false] := by rw [← hW3]; exact j4.put_ hDn.1 rfl
      have q2 : Below w.heap.size w W3 := by rw [← hW3]; exact j2.trans (put_below _ hDn.1 (by omega))
      have hD3 : W3.heap[B]? = some (.deferred (some [])) := by rw [← hW3]; exact (World.putObj_heap_other (by omega)).trans hDn.2
      clear hW3 hDn j2 j4 hr1 hr2 hr3 hr4 hr5 hr6 hJ0 hW5 hws5 hB hs4
      dsimp only
      gi_wp2
      refine ⟨by simp, .inl ⟨_, _, rfl, run_takeDeferred hD3, ?_⟩⟩
      refine ⟨_, results_cell1 rfl _ _ ⟨w.heap.size + 1, 0, none⟩ (.bool false) rfl (run_isAgg_plain Try.underlying4 rfl) ((q4.put_ hD3 rfl).at_ 0 rfl), ?_, ?_⟩
      · rw [HIE.out, hE]
      · exact q2.trans (put_below _ hD3 (by omega))
end Go.Proofs.Ytlmphpopcojjnaa
