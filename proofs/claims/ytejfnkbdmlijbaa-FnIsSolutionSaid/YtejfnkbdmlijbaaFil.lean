/- impl's filter. -/
import Derived.Test.YtejfnkbdmlijbaaEntS
import Derived.Test.YtejfnkbdmlijbaaHold
import Derived.Test.YtejfnkbdmlijbaaNums
namespace Go.Proofs.Ytejfnkbdmlijbaa
open Go.ChangeShapes Go.WideShapes Go.ChangeAt Go.RowKit
open Go.Shelf
set_option linter.unusedVariables false
set_option maxRecDepth 100000
attribute [local go_sem] Oper.semAt_some

/-- Numbers in memory as what an append takes. -/
theorem IntR.srcF {w : World} {B n c : Nat} {A : Option Addr} {xs : List Int} (h : IntR w B A n xs) (h0 : 0 < n) : Src w 1 A n c (xs.map (.int .i64)) := by
  obtain ⟨h1, -, h2⟩ := h
  obtain ⟨b, o, rfl, hb, hc⟩ := h2 h0
  refine .inr ⟨_, rfl, by rw [List.length_map, h1]; omega, fun j u hj => ?_⟩
  rw [List.getElem?_map] at hj
  cases hx : xs[j]? with
  | none => rw [hx] at hj; cases hj
  | some x =>
    rw [hx] at hj
    obtain ⟨u', hu, he⟩ := hc j x hx
    simp only [Option.map_some, Option.some.injEq] at hj
    rw [← hj, Addr.add_lit]
    rw [hu, he]
set_option maxHeartbeats 4000000 in
theorem scopyRF (A : Option Addr) (n c : Nat) (xs : List Int) (w : World) (h : IntR w w.heap.size A n xs) (h0 : 0 < n) (hn : n ≤ 1048576) :
    Calls Try.prog 86 #[.slice A n c] w fun e w' => ∃ v', e = .returned v' ∧ OwnI 3 w' w.heap.size v' xs ∧ Below w.heap.size w w' := by
  obtain ⟨i0, hi0, hz0, hz1, hz2⟩ := info_parts info_int
  have hl := Lib.hid h.len
  have ol : (w.alloc (.cells #[] 3)).ownsRow w.heap.size 3 1 (.slice (some ⟨w.heap.size, 0, none⟩) 0 0) 0 [] := World.ownsRow_lit w #[] 0 (Nat.le_refl _) (by decide) rfl
  have hs : Src (w.alloc (.cells #[] 3)) 1 A n c (xs.map (.int .i64)) := (IntR.on h (b_alloc w (.cells #[] 3))).srcF h0
  clear h
  go_enter Try.func86, Try.ntmps86
  go_wp2_with (at_builtin; refine wpList_append_any rfl _ _ 23 rfl w.heap.size 3 i0 _ 1 8 Try.underlying23 hi0 hz0 hz1 hz2 rfl (by decide) (.slice (some ⟨w.heap.size, 0, none⟩) 0 0) _ _ rfl ol _ _ _ _ rfl hs (by simp [Value.oneCell']) (by unfold maxLen; omega) (by omega) (by rw [size_alloc_]; omega) ?_; intro v1 w1 ho1 hb1 _ _)
  have ho2 : OwnI 3 w1 w.heap.size v1 xs := ⟨by rw [hl.out]; simpa using ho1, by rw [hl.out]; omega⟩
  go_ret
  exact ⟨v1, rfl, ho2, (b_alloc _ _).trans hb1⟩
set_option maxHeartbeats 4000000 in
theorem cloneRF (A : Option Addr) (n c : Nat) (xs : List Int) (w : World) (h : IntR w w.heap.size A n xs) (h0 : 0 < n) (hn : n ≤ 1048576) :
    Calls Try.prog 123 #[.slice A n c] w fun e w' => ∃ v', e = .returned v' ∧ OwnI 3 w' w.heap.size v' xs ∧ Below w.heap.size w w' := by
  obtain ⟨i0, hi0, hz0, hz1, hz2⟩ := info_parts info_int
  have hl := Lib.hid h.len
  have ol : (w.alloc (.cells #[] 3)).ownsRow w.heap.size 3 1 (.slice (some ⟨w.heap.size, 0, none⟩) 0 0) 0 [] := World.ownsRow_lit w #[] 0 (Nat.le_refl _) (by decide) rfl
  have hs : Src (w.alloc (.cells #[] 3)) 1 A n c (xs.map (.int .i64)) := (IntR.on h (b_alloc w (.cells #[] 3))).srcF h0
  obtain ⟨b, o, rfl, -⟩ := h.2.2 h0
  clear h
  have q22 : ∀ (w : World) (a : Option Addr) (n c n' c' : Nat), (binOp .eql 23 (.slice a n c) (.slice none n' c')).run Try.prog w = .ok (.bool a.isNone) w := fun w a n c n' c' => Lib.run_eql_slice_nil w _ _ a n c n' c' Try.underlying23
  have u22 : ∀ w, Sem.run Try.prog (underlying 23) w = .ok (TypeDesc.slice 3) w := run_underlying Try.underlying23
  go_enter Try.func123, Try.ntmps123
  go_wp2_with (at_builtin; refine wpList_append_any rfl _ _ 23 rfl w.heap.size 3 i0 _ 1 8 Try.underlying23 hi0 hz0 hz1 hz2 rfl (by decide) (.slice (some ⟨w.heap.size, 0, none⟩) 0 0) _ _ rfl ol _ _ _ _ rfl hs (by simp [Value.oneCell']) (by unfold maxLen; omega) (by omega) (by rw [size_alloc_]; omega) ?_; intro v1 w1 ho1 hb1 _ _)
  have ho2 : OwnI 3 w1 w.heap.size v1 xs := ⟨by rw [hl.out]; simpa using ho1, by rw [hl.out]; omega⟩
  go_ret
  exact ⟨v1, rfl, ho2, (b_alloc _ _).trans hb1⟩
set_option maxHeartbeats 4000000 in
theorem icopiedRF (A : Option Addr) (n c : Nat) (xs : List Int) (w : World) (h : IntR w w.heap.size A n xs) (h0 : 0 < n) (hn : n ≤ 1048576) :
    Calls Try.prog 93 #[.slice A n c] w fun e w' => ∃ v', e = .returned v' ∧ HoldR w' w.heap.size 3 1 v' n (xs.map (.int .i64)) ∧ Below w.heap.size w w' := by
  have hl := Lib.hid h.len
  have H := Lib.hid h
  clear h
  go_enter Try.func93, Try.ntmps93
  go_wp2_with fail
  refine (cloneRF _ _ _ xs _ H.out h0 hn).mono ?_
  rintro e w1 ⟨v, rfl, ho, hb⟩
  obtain ⟨A1, c1, rfl, -⟩ := IntR.of_own ho.1 ho.2
  have hh := HoldR.of_own ho.1
  rw [hl.out] at hh
  have HH := Lib.hid hh
  have hl2 := hl.out
  rw [hl2]
  clear hh ho hl2
  go_wp2_with fail
  refine (clipInt _ _ _ _ _ _ HH.out).mono ?_
  rintro e w2 ⟨rfl, rfl⟩
  go_wp2_with fail
  go_ret
  exact ⟨_, rfl, HH.out.clip, hb⟩
theorem updTo_at2 {acc t : List Int} {k : Nat} {v : Int} (hl : acc.length = t.length) (hv : t[k]? = some v) : ∃ a, acc[k]? = some a ∧ (updTo acc t k)[k]? = some a := by
  have hk : k < t.length := by
    rcases Nat.lt_or_ge k t.length with h | h
    · exact h
    · rw [List.getElem?_eq_none h] at hv; cases hv
  exact ⟨_, List.getElem?_eq_getElem (by omega), updTo_at hl (List.getElem?_eq_getElem (by omega))⟩
theorem HoldR.put_ {w : World} {base n size l : Nat} {e : TypeId} {v : Value} {xs : List Value} {o o' : Obj} (h : HoldR w base e size v n xs) (hl : w.heap[l]? = some o) (ho : o.isCells = false) : HoldR (w.putObj l o') base e size v n xs :=
  ⟨h.1, h.2.imp id fun ⟨g, cap, cur, h1, h2, h3, r⟩ => ⟨g, cap, cur, h1, h2, TBlk.put_ (t := e) h3 hl ho, r⟩⟩
theorem putTo_succ {ds vars sup : List Int} {k v : Nat} {a : Int} (hv : vars[k]? = some (v : Int)) (ha : sup[k]? = some a) : putTo ds vars sup (k + 1) = (putTo ds vars sup k).set v a := by
  rw [putTo, gat_eq hv, gat_eq ha, Int.toNat_natCast]
theorem filF_len (c : Con) (ds : List Int) : (filF c ds).length = ds.length := putTo_len _ _ _ _
theorem wrap_pow6 : ∀ a : Fin 6, IntKind.i64.wrap (2 ^ (a.val : Int).toNat) = 2 ^ (a.val : Int).toNat := by decide +kernel
theorem wrap_pow {v : Int} (h0 : 0 ≤ v) (h1 : v ≤ 5) : IntKind.i64.wrap (2 ^ v.toNat) = 2 ^ v.toNat := by
  obtain ⟨a, rfl⟩ := fin6 h0 h1
  exact wrap_pow6 a
set_option maxHeartbeats 8000000 in
theorem ifilter (us : List Value) (c : Con) (A : Option Addr) (n d : Nat) (ds : List Int) (w : World) (h : ConR w w.heap.size us c) (hx : IntR w w.heap.size A n ds) (hvc : vconF c n = true) (hn1 : 1 ≤ n) (hl4 : n ≤ 4) (hdoms : Doms ds) :
    Calls Try.prog 61 #[.agg us.toArray, .slice A n d] w fun e w' => ∃ v', e = .returned v' ∧ HoldR w' w.heap.size 3 1 v' n ((filF c ds).map (.int .i64)) ∧ Below w.heap.size w w' := by
  obtain ⟨i0, hi0, hz0, hz1, hz2⟩ := info_parts info_int
  have hl := Lib.hid hx.len
  obtain ⟨va, aa, ra, cv, ca, cr, eus, hvr, -⟩ := id h
  have hvp := Lib.hid (vcon_vars hvc hl4)
  obtain ⟨m, hm⟩ : ∃ m, c.vars.length = m := ⟨_, rfl⟩
  have hm1 : 1 ≤ m ∧ m ≤ 4 := by have := hvp.out.1; omega
  rw [hm] at eus hvr
  obtain ⟨x0, hx0⟩ : ∃ x0 : Value, x0 = .int .i64 c.kind := ⟨_, rfl⟩
  obtain ⟨x2, hx2⟩ : ∃ x0 : Value, x0 = .slice aa c.args.length ca := ⟨_, rfl⟩
  obtain ⟨x3, hx3⟩ : ∃ x0 : Value, x0 = .int .i64 c.bound := ⟨_, rfl⟩
  obtain ⟨x4, hx4⟩ : ∃ x0 : Value, x0 = .slice ra c.rows.length cr := ⟨_, rfl⟩
  obtain rfl : us = [x0, .slice va m cv, x2, x3, x4] := by rw [eus, hx0, hx2, hx3, hx4]
  obtain ⟨Z, hZ, hmk⟩ := make_blk1 (P := Try.prog) 23 3 i0 _ Try.underlying23 hi0 hz0 hz1 rfl m (by rw [hz2]; omega) (by unfold maxLen; omega)
  obtain rfl : Z = ints (List.replicate m 0) := ints_zero hZ
  obtain ⟨wa, hwa⟩ : ∃ wa, wa = ((w.alloc (.cells #[x0, .slice va m cv, x2, x3, x4] 35)).alloc (.cells (ints (List.replicate m 0)) 3)).alloc (.cells #[.slice (some ⟨w.heap.size + 1, 0, none⟩) m m] 23) := ⟨_, rfl⟩
  have hb0 : Below w.heap.size w wa := by rw [hwa]; exact ((b_alloc _ _).alloc (by simp) _).alloc (by simp; omega) _
  have hsz : wa.heap.size = w.heap.size + 3 := by rw [hwa]; simp
  have ha : CBlk wa w.heap.size x0 (.slice va m cv) x2 x3 x4 := by rw [hwa]; exact ((CBlk.new w _ _ _ _ _).below (b_alloc _ _) (by simp)).below (b_alloc _ _) (by simp; omega)
  have hr : TBlk 3 wa (w.heap.size + 1) (ints (supV c m [])) := by rw [hwa]; exact (TBlk.newAt (by simp)).alloc_ _
  have hq : TBlk 23 wa (w.heap.size + 2) #[.slice (some ⟨w.heap.size + 1, 0, none⟩) m m] := by rw [hwa]; exact TBlk.newAt (by simp)
  have HC0 := Lib.hid h
  have HV0 := Lib.hid hvr
  have HX0 := Lib.hid hx
  have H := Lib.hid (ConR.on h hb0)
  have GX := Lib.hid (IntR.on hx hb0)
  have HA := Lib.hid ha
  have HR := Lib.hid hr
  have HL := Lib.hid hq
  have HM0 := Lib.hid hm
  have HV := Lib.hid hvc
  have HDM := Lib.hid hdoms
  obtain ⟨a0, a1, a2, a3, a4⟩ := ha.cells
  clear h hx hvr hx0 hx2 hx3 hx4 eus ha hr hq hZ hm hvc hdoms
  refine (callsIn_wide (n := 5)).1 ?_
  refine callsIn_of_wp_marks Try.func61 rfl trivial ?_ rfl
  refine wpIn_wide.2 ?_
  simp only [Try.ntmps61, List.size_toArray, List.length_cons, List.length_nil, Nat.reduceAdd, Nat.reduceSub, Array.replicate_succ, Array.replicate_zero, List.push_toArray, List.append_toArray, List.nil_append, List.cons_append]
  go_wp2_with fail
  rw [← hwa]
  obtain ⟨gL, hgL⟩ : ∃ gL, w.heap.size + 1 = gL := ⟨_, rfl⟩
  obtain ⟨bL, hbL⟩ : ∃ bL, gL + 1 = bL := ⟨_, rfl⟩
  have hbL2 : w.heap.size + 2 = bL := by omega
  rw [hgL, hbL]
  rw [hbL2, hgL] at HL
  rw [hgL] at HR
  clear hwa
  refine (iword _ c _ _ _ ds _ H.out GX.out hvp.out.2.1 (by have := hvp.out.1; omega)).mono ?_
  rintro e w3 ⟨v, rfl, ho3, hb3⟩
  obtain ⟨ws, hws⟩ : ∃ ws, wordF c.vars ds = ws := ⟨_, rfl⟩
  have hwl : ws.length = m := by rw [← hws, wordF_len]; exact HM0.out
  rw [hws] at ho3
  have ho4 := ho3.1
  rw [hwl] at ho4
  obtain ⟨gv, cc, cur, rfl, hgv, hgb, hgc⟩ := own_blk_int ho4 (by omega)
  have HGC := Lib.hid hgc
  have HWS := Lib.hid hws
  have HM := Lib.hid hwl
  have HA3 := Lib.hid (HA.out.below hb3 (by omega))
  have HR3 := Lib.hid (HR.out.below_ hb3 HR.out.lt)
  have HL3 := Lib.hid (HL.out.below_ hb3 HL.out.lt)
  have hs3 := hb3.size
  have HB3 := Lib.hid (hb0.trans (hb3.mono (by omega)))
  clear a0 a1 a2 a3 a4 hb3 H GX HA HR HL ho3 ho4 hws hgc hwl hb0
  go_wp2_with fail
  refine (ituples _ _ _ _).mono ?_
  rintro e w4 ⟨rfl, hw4⟩
  obtain ⟨bD, hbD⟩ : ∃ bD, w3.heap.size = bD := ⟨_, rfl⟩
  have hd4 : TBlk 23 w4 bD #[.slice (some ⟨gv, 0, none⟩) m cc] := by rw [hw4]; exact TBlk.newAt hbD.symm
  have hg4 : TBlk 3 w4 gv cur := by rw [hw4]; exact hgb.alloc_ _
  have hs4 : w4.heap.size = bD + 1 := by rw [hw4]; simp [hbD]
  have hb34 : Below w3.heap.size w3 w4 := by rw [hw4]; exact b_alloc _ _
  have HA4 := Lib.hid (HA3.out.below hb34 (by omega))
  have HR4 := Lib.hid (HR3.out.below_ hb34 HR3.out.lt)
  have HL4 := Lib.hid (HL3.out.below_ hb34 HL3.out.lt)
  have HB4 := Lib.hid (HB3.out.trans (hb34.mono (by omega)))
  rw [hbD]
  rw [hbD] at hs3
  have HG4 := Lib.hid hg4
  have HD4 := Lib.hid hd4
  have HSZ := Lib.hid (show w.heap.size + 1 = gL ∧ gL + 1 = bL ∧ bL < gv ∧ gv < bD ∧ bL < bD from ⟨hgL, hbL, by omega, by have := hg4.lt; have := hg4.ne hd4 (by decide); omega, by omega⟩)
  clear hw4 hb34 HA3 HR3 HB3 HL3 hbD hgb hg4 hd4 hsz hs3 hgv hgL hbL hbL2
  go_wp2_with fail
  refine (wpIn_wide (n := 5)).1 ?_
  refine wp_range_direct (gf := 130) (lb := #[.pointer (some ⟨bD, 0, none⟩)]) rfl (enters_of Try.func130 (by kernel_rfl) rfl) ?_
  intro r hr1 hr2 hr3 hr4 hr5 hr6
  obtain ⟨B, hB⟩ : ∃ B, w4.heap.size = B := ⟨_, rfl⟩
  rw [hB]
  have HBD := Lib.hid (show B = bD + 1 from by rw [← hB]; exact hs4)
  let J : List (List Int) → World → Prop := fun vis W => Rdy B r W ∧ Below w.heap.size w W ∧ CBlk W w.heap.size x0 (.slice va m cv) x2 x3 x4 ∧ TBlk 23 W bL #[.slice (some ⟨gL, 0, none⟩) m m] ∧ TBlk 23 W bD #[.slice (some ⟨gv, 0, none⟩) m cc] ∧ TBlk 3 W gv cur ∧ TBlk 3 W gL (ints (supV c m vis)) ∧ OkT m vis
  let Jx : World → Prop := fun W => False
  obtain ⟨W5, hW5⟩ : ∃ W5, (w4.alloc (.deferred (some []))).alloc (.loop r) = W5 := ⟨_, rfl⟩
  have hS5 : W5.heap.size = B + 2 := by rw [← hW5]; simp; omega
  have hJ0 : J [] W5 := by
    rw [← hW5]
    refine ⟨⟨?_, ?_⟩, (HB4.out.alloc (by have := HSZ.out; omega) _).alloc (by have := HSZ.out; simp; omega) _, (HA4.out.below (b_alloc _ _) HA4.out.lt).below (b_alloc _ _) (by have := HA4.out.lt; simp; omega), (HL4.out.alloc_ _).alloc_ _, (HD4.out.alloc_ _).alloc_ _, (HG4.out.alloc_ _).alloc_ _, (HR4.out.alloc_ _).alloc_ _, fun t ht => by simp at ht⟩
    · have := World.alloc_heap_new (w4.alloc (.deferred (some []))) (.loop r)
      rwa [World.size_alloc, hB] at this
    · have := World.alloc_heap_new w4 (.deferred (some []))
      rw [hB] at this
      exact ((b_alloc _ _).block _ (by rw [size_alloc_]; omega)).trans this
  have hws5 : Doms ws := by rw [← HWS.out]; exact word_doms (by rw [hl.out]; exact hvp.out.2.1) HDM.out
  rw [hW5]
  refine ((callsIn_wide (n := 5 - 1)).2 (tuples1 bD m (B + 1) gv 0 cc ws hws5 HM.out (by omega) W5 J Jx ?hJb ?hJd ?hY hJ0)).mono ?fin
  case hJb =>
    rintro vis W1 W' ⟨j1, j2, j3, j4, j5, j6, j7, j8⟩ hb
    rw [hS5] at hb
    have := HSZ.out
    have := HBD.out
    exact ⟨j1.below (by omega) hb, j2.trans (hb.mono (by omega)), j3.below hb (by omega), j4.below_ hb (by omega), j5.below_ hb (by omega), j6.below_ hb (by omega), j7.below_ hb (by omega), j8⟩
  case hJd =>
    rintro vis W1 ⟨j1, j2, j3, j4, j5, j6, j7, j8⟩
    exact ⟨j5.at_ 0 rfl, fun j x hj => by rw [Nat.zero_add]; exact j6.at_ j (HGC.out j x hj)⟩
  case hY =>
    rintro mm g vis t W1 ⟨j1, j2, j3, j4, j5, j6, j7, j8⟩ ht hg ⟨cs, hcs, hcb, hct⟩
    rw [hS5] at hg ⊢
    have htm := sat_tup (c := c) (ds := ds) HV.out hl4 (by rw [HWS.out]; exact ht)
    refine yield_direct (a1 := ?a1) j1 hr1 hr2 hr3 hr4 hr5 hr6 rfl ?hassign ?hbody
    case hassign =>
      intro K hK
      gi_wp2
      exact hK
    case hbody =>
      obtain ⟨W2, hW2⟩ : ∃ W2 : World, W1.putObj (B + 1) (.loop { r with state := .busy }) = W2 := ⟨_, rfl⟩
      have hBs : Bsy B r W2 := by rw [← hW2]; exact j1.busy
      have q2 : Below w.heap.size w W2 := by rw [← hW2]; exact j2.trans (put_below _ j1.1 (by have := HSZ.out; have := HBD.out; omega))
      have q3 : CBlk W2 w.heap.size x0 (.slice va m cv) x2 x3 x4 := by rw [← hW2]; exact (World.putObj_heap_other (by have := HSZ.out; have := HBD.out; omega)).trans j3
      have q4 : TBlk 23 W2 bL #[.slice (some ⟨gL, 0, none⟩) m m] := by rw [← hW2]; exact j4.put_ j1.1 rfl
      have q5 : TBlk 23 W2 bD #[.slice (some ⟨gv, 0, none⟩) m cc] := by rw [← hW2]; exact j5.put_ j1.1 rfl
      have q6 : TBlk 3 W2 gv cur := by rw [← hW2]; exact j6.put_ j1.1 rfl
      have q7 : TBlk 3 W2 gL (ints (supV c m vis)) := by rw [← hW2]; exact j7.put_ j1.1 rfl
      have qg : TBlk 3 W2 g cs := by rw [← hW2]; exact hcb.put_ j1.1 rfl
      have qS : W2.heap.size = W1.heap.size := by rw [← hW2, put_size]
      have qH : ∀ k, k ≠ B + 1 → W2.heap[k]? = W1.heap[k]? := fun k hk => by rw [← hW2]; exact World.putObj_heap_other hk
      have hcon : ConR W2 W2.heap.size [x0, .slice va m cv, x2, x3, x4] c := ConR.on HC0.out q2
      have hint : IntR W2 W2.heap.size (some ⟨g, 0, none⟩) m t := intR_blk qg hct (by rw [htm.2]; exact HM0.out) hm1.2
      have HQ := Lib.hid (And.intro q2 (And.intro q3 (And.intro q4 (And.intro q5 (And.intro q6 (And.intro q7 (And.intro qg (And.intro qS (And.intro qH hBs)))))))))
      have HJ8 := Lib.hid j8
      have HTM := Lib.hid (And.intro htm (And.intro ht hct))
      have HCON := Lib.hid hcon
      have HINT := Lib.hid hint
      have HHB := Lib.hid (show B + 1 < W2.heap.size from by have := (Array.getElem?_eq_some_iff.1 hBs.1).1; exact this)
      obtain ⟨k0, k1, k2, k3, k4⟩ := q3.cells
      rw [hW2]
      clear q2 q3 q4 q5 q6 q7 qg qS qH j1 j2 j3 j4 j5 j6 j7 j8 hcb hct hcs hW2 hcon hint hJ0 hW5 hr1 hr2 hr3 hr4 hr5 hr6 htm hBs hws5
      gi_wp2
      refine ⟨trivial, fun h => by simp [Fence.wide] at h, CallsIn.inRound _ (((callsIn_wide (n := mm - 1)).2 (isatisfied _ c _ _ _ t _ HCON.out HINT.out (Nat.le_refl _) HTM.out.1.1)).mono ?_)⟩
      rintro e W3 ⟨rfl, hb3⟩
      have HQ3 : Hid (Below w.heap.size w W3 ∧ CBlk W3 w.heap.size x0 (.slice va m cv) x2 x3 x4 ∧ TBlk 23 W3 bL #[.slice (some ⟨gL, 0, none⟩) m m] ∧ TBlk 23 W3 bD #[.slice (some ⟨gv, 0, none⟩) m cc] ∧ TBlk 3 W3 gv cur ∧ TBlk 3 W3 gL (ints (supV c m vis)) ∧ TBlk 3 W3 g cs ∧ W1.heap.size ≤ W3.heap.size ∧ (∀ k, k ≠ B + 1 → k < W1.heap.size → W3.heap[k]? = W1.heap[k]?) ∧ Bsy B r W3) := by
        obtain ⟨q2, q3, q4, q5, q6, q7, qg, qS, qH, hBs⟩ := HQ.out
        have hs2 := q2.size
        exact Lib.hid ⟨q2.trans (hb3.mono hs2), q3.below hb3 q3.lt, q4.below_ hb3 q4.lt, q5.below_ hb3 q5.lt, q6.below_ hb3 q6.lt, q7.below_ hb3 q7.lt, qg.below_ hb3 qg.lt, by have := hb3.size; omega, fun k h1 h2 => (hb3.block k (by omega)).trans (qH k h1), ⟨(hb3.block _ HHB.out).trans hBs.1, (hb3.block _ (by have := HHB.out; omega)).trans hBs.2⟩⟩
      clear k0 k1 k2 k3 k4 hb3 HQ HCON HINT HHB
      have hok2 : OkT m (vis ++ [t]) := HJ8.out.snoc (by have := HTM.out.1.2; have := HM0.out; omega) (fun v hv => by
        obtain ⟨h1, h2⟩ := mem_allT.1 HTM.out.2.1
        obtain ⟨j, hj, e⟩ := List.getElem_of_mem hv
        have := h2 j (ws[j]'(by omega)) v (List.getElem?_eq_getElem _) (by rw [List.getElem?_eq_getElem hj, e])
        exact ⟨this.1, this.2.1⟩)
      have HOK2 := Lib.hid hok2
      clear hok2
      cases hsat : satF c t
      · have HST := Lib.hid (show supV c m (vis ++ [t]) = supV c m vis by rw [supV_snoc]; unfold stepV; rw [hsat]; rfl)
        clear hsat
        gi_wp2
        obtain ⟨q2, q3, q4, q5, q6, q7, qg, qS, qH, hBs⟩ := HQ3.out
        have hz1 := HSZ.out
        have hz2 := HBD.out
        exact ⟨hBs, .inl ⟨rfl, ⟨hBs.ready, q2.trans (put_below _ hBs.1 (by omega)), (World.putObj_heap_other (by omega)).trans q3, q4.put_ hBs.1 rfl, q5.put_ hBs.1 rfl, q6.put_ hBs.1 rfl, by rw [HST.out]; exact q7.put_ hBs.1 rfl, HOK2.out⟩, by rw [put_size]; exact qS, fun k h1 h2 => (World.putObj_heap_other (by omega)).trans (qH k (by omega) h2)⟩⟩
      · have HST := Lib.hid (show supV c m (vis ++ [t]) = List.zipWith orB (supV c m vis) t by rw [supV_snoc]; unfold stepV; rw [hsat]; rfl)
        clear hsat
        gi_wp2
        let QI : Nat → World → Prop := fun q W => Below w.heap.size w W ∧ CBlk W w.heap.size x0 (.slice va m cv) x2 x3 x4 ∧ TBlk 23 W bL #[.slice (some ⟨gL, 0, none⟩) m m] ∧ TBlk 23 W bD #[.slice (some ⟨gv, 0, none⟩) m cc] ∧ TBlk 3 W gv cur ∧ TBlk 3 W gL (ints (updTo (supV c m vis) t q)) ∧ TBlk 3 W g cs ∧ W1.heap.size ≤ W.heap.size ∧ (∀ k, B + 2 ≤ k → k < W1.heap.size → W.heap[k]? = W1.heap[k]?) ∧ Bsy B r W
        have hQ0 : QI 0 W3 := by
          obtain ⟨q2, q3, q4, q5, q6, q7, qg, qS, qH, hBs⟩ := HQ3.out
          exact ⟨q2, q3, q4, q5, q6, by rw [updTo_zero]; exact q7, qg, qS, fun k h1 h2 => qH k (by omega) h2, hBs⟩
        have hsupl : (supV c m vis).length = t.length := by rw [(supV_ok (c := c) HJ8.out).2, HTM.out.1.2]; exact HM0.out.symm
        have htl : t.length = m := by rw [HTM.out.1.2]; exact HM0.out
        have HSL := Lib.hid hsupl
        have HTL := Lib.hid htl
        clear HQ3 hsupl htl
        gi_loopw [26] (fun t26 wr => ∃ q : Nat, q ≤ m ∧ t26 = .int .i64 q ∧ Hid (QI q wr)) (fun t26 _ => m - (intOf t26).toNat)
        case atStart => exact ⟨0, by omega, rfl, hQ0⟩
        case round =>
          obtain ⟨q, hq, rfl, hQ⟩ := hrel
          clear hQ0
          by_cases hlt : q < m
          · obtain ⟨q2, q3, q4, q5, q6, q7, qg, qS, qH, hBs⟩ := hQ.out
            obtain ⟨v, hv⟩ : ∃ v, t[q]? = some v := ⟨_, List.getElem?_eq_getElem (by have := HTL.out; omega)⟩
            obtain ⟨a, ha, hau⟩ := updTo_at2 HSL.out hv
            have hv5 : 0 ≤ v ∧ v ≤ 5 := (HOK2.out t (by simp)).2 v (List.mem_of_getElem? hv)
            have ha63 := (supV_ok (c := c) HJ8.out).1 a (List.mem_of_getElem? ha)
            obtain ⟨o1, o2, o3, -, -⟩ := orB_in ha63.1 ha63.2 hv5.1 hv5.2
            rw [← wrap_pow hv5.1 hv5.2] at o3
            have e1 := qg.at_ q (HTM.out.2.2 q v hv)
            have e2 : (wr.drew).cell? ⟨bL, 0, none⟩ = some (.slice (some ⟨gL, 0, none⟩) m m) := (q4.drewN_ 1).at_ 0 rfl
            have e3 : (wr.drew).cell? ⟨gL, q, none⟩ = some (.int .i64 a) := (q7.drewN_ 1).at_ q (ints_at hau)
            have e4 : (wr.drew).frozen? ⟨gL, q, none⟩ = false := (q7.drewN_ 1).frozen q
            have HVQ := Lib.hid (And.intro hv (And.intro ha (And.intro hau hv5)))
            clear q2 q3 q4 q5 q6 q7 qg qS qH hBs hv ha hau
            gi_wp2
            refine wpIn_region_tail_round 8 (by kernel_rfl) (by kernel_rfl) (by rintro ⟨_, _, h⟩; exact h) (by kernel_rfl) ?_
            simp only [List.take_succ_cons, List.take_zero, List.drop_succ_cons, List.drop_zero]
            repeat still_step
            try refine wpStill_nil ?_
            try simp only [o3]
            go_wp2_with fail
            obtain ⟨hv, ha, hau, -⟩ := HVQ.out
            have HQN : Hid (QI (q + 1) ((wr.drew).setCell ⟨gL, q, none⟩ (.int .i64 (orB a v)))) := by
              obtain ⟨q2, q3, q4, q5, q6, q7, qg, qS, qH, hBs⟩ := hQ.out
              have hz1 := HSZ.out
              have hz2 := HBD.out
              have hgg : gL < g := by omega
              have hk7 : KeepsFrom B wr ((wr.drew).setCell ⟨gL, q, none⟩ (.int .i64 (orB a v))) := ((KeepsOthers.drew _).trans (KeepsOthers.setCell _ _ _)).from B
              refine Lib.hid ⟨(below_drewN q2 1).setCell (p := ⟨gL, q, none⟩) (show w.heap.size ≤ gL by omega) _, CBlk.far (g := gL) (show CBlk (wr.drew) w.heap.size x0 (.slice va m cv) x2 x3 x4 from q3) (by omega), (q4.drewN_ 1).far (by omega), (q5.drewN_ 1).far (by omega), (q6.drewN_ 1).far (by omega), ?_, (qg.drewN_ 1).far (by omega), by rw [World.size_setCell]; exact qS, fun k h1 h2 => (Below.heap_setCell _ ⟨gL, q, none⟩ _ k (by show k ≠ gL; omega)).trans (qH k h1 h2), hBs.kept hk7⟩
              have := (q7.drewN_ 1).store q (.int .i64 (orB a v))
              rw [ints_set, updTo_succ HSL.out ha hv] at this
              exact this
            clear hv ha hau hQ HVQ o3 e1 e2 e3 e4
            gi_wp2
            go_roundw
            case rel => exact ⟨q + 1, by omega, by go_num, HQN.out⟩
            case measure => simp [intOf]; omega
          · obtain rfl : q = m := by omega
            gi_wp2
            obtain ⟨q2, q3, q4, q5, q6, q7, qg, qS, qH, hBs⟩ := hQ.out
            have hz1 := HSZ.out
            have hz2 := HBD.out
            rw [updTo_done HSL.out (by rw [HSL.out, HTL.out]), ← HST.out] at q7
            exact ⟨hBs, .inl ⟨rfl, ⟨hBs.ready, q2.trans (put_below _ hBs.1 (by omega)), (World.putObj_heap_other (by omega)).trans q3, q4.put_ hBs.1 rfl, q5.put_ hBs.1 rfl, q6.put_ hBs.1 rfl, q7.put_ hBs.1 rfl, HOK2.out⟩, by rw [put_size]; exact qS, fun k h1 h2 => (World.putObj_heap_other (by omega)).trans (qH k h1 h2)⟩⟩
  case fin =>
    rintro e W' ⟨⟨v, rfl⟩, (⟨hRd, j2, j3, j4, j5, j6, j7, j8⟩ | hF)⟩
    · refine ⟨⟨_, rfl⟩, .inl ⟨hRd, ?_⟩⟩
      obtain ⟨W3, hW3⟩ : ∃ W3 : World, W'.putObj (B + 1) (.loop { r with state := .exhausted, pending := none }) = W3 := ⟨_, rfl⟩
      rw [hW3]
      have hz1 := HSZ.out
      have hz2 := HBD.out
      have q2 : Below w.heap.size w W3 := by rw [← hW3]; exact j2.trans (put_below _ hRd.1 (by omega))
      have q3 : CBlk W3 w.heap.size x0 (.slice va m cv) x2 x3 x4 := by rw [← hW3]; exact (World.putObj_heap_other (by omega)).trans j3
      have q4 : TBlk 23 W3 bL #[.slice (some ⟨gL, 0, none⟩) m m] := by rw [← hW3]; exact j4.put_ hRd.1 rfl
      have q7 : TBlk 3 W3 gL (ints (supV c m ((allT ws)))) := by rw [← hW3]; exact j7.put_ hRd.1 rfl
      have hD3 : W3.heap[B]? = some (.deferred (some [])) := by rw [← hW3]; exact (World.putObj_heap_other (by omega)).trans hRd.2
      have hB3 : B < W3.heap.size := (Array.getElem?_eq_some_iff.1 hD3).1
      have HQ := Lib.hid (And.intro q2 (And.intro q3 (And.intro q4 (And.intro q7 (And.intro hD3 hB3)))))
      have HOK := Lib.hid j8
      have GX3 := Lib.hid (IntR.on HX0.out q2)
      clear hz1 hz2 hW3 hRd j2 j3 j4 j5 j6 j7 j8 q2 q3 q4 q7 hD3 hB3 hr1 hr2 hr3 hr4 hr5 hr6 hJ0 hW5 hws5 hB hs4
      dsimp only
      go_wp2_with fail
      refine (icopiedRF _ _ _ ds _ GX3.out (by omega) (by omega)).mono ?_
      rintro e w6 ⟨v6, rfl, hh6, hb6⟩
      obtain ⟨A6, c6, rfl⟩ := hh6.form
      obtain ⟨g6, rfl, hg6, -⟩ := hh6.pos (by omega)
      obtain ⟨sup, hsup⟩ : ∃ sup, supV c m (allT ws) = sup := ⟨_, rfl⟩
      have hsupl : sup.length = m := by rw [← hsup]; exact (supV_ok (c := c) HOK.out).2
      have hfil : filF c ds = putTo ds c.vars sup m := by unfold filF; rw [HM0.out, HWS.out, hsup]
      have HFIL := Lib.hid hfil
      have HSUP := Lib.hid (And.intro hsup hsupl)
      have h60 : HoldR w6 W3.heap.size 3 1 (.slice (some ⟨g6, 0, none⟩) n c6) n ((putTo ds c.vars sup 0).map (.int .i64)) := hh6
      obtain ⟨q2, q3, q4, q7, hD3, hB3⟩ := HQ.out
      have f1 := (q3.below hb6 q3.lt).cells.2.1
      have hz3 : w.heap.size < W3.heap.size := q3.lt
      clear q2 q3 q4 q7 hD3 hB3 hsup hsupl hfil hh6
      go_wp2_with fail
      clear f1
      go_loopw [45] (fun t45 wr => ∃ k : Nat, k ≤ m ∧ t45 = .int .i64 k ∧ Hid (HoldR wr W3.heap.size 3 1 (.slice (some ⟨g6, 0, none⟩) n c6) n ((putTo ds c.vars sup k).map (.int .i64))) ∧ Hid (Below W3.heap.size W3 wr)) (fun t45 _ => m - (intOf t45).toNat)
      case atStart => exact ⟨0, by omega, rfl, h60, hb6⟩
      case round =>
        obtain ⟨k, hk, rfl, hhk, hbk⟩ := hrel
        clear h60 hb6
        by_cases hlt : k < m
        · obtain ⟨q2, q3, q4, q7, hD3, hB3⟩ := HQ.out
          have hsl := HSUP.out.2
          obtain ⟨a, ha⟩ : ∃ a, sup[k]? = some a := ⟨_, List.getElem?_eq_getElem (by omega)⟩
          obtain ⟨vb, vo, v, hva, hvb, hvk, hvc2⟩ := HV0.out.at_ hlt
          obtain ⟨hv0, hvn⟩ := hvp.out.2.1 v (List.mem_of_getElem? hvk)
          obtain ⟨vn, rfl⟩ : ∃ vn : Nat, v = (vn : Int) := ⟨v.toNat, by omega⟩
          have hvn2 : vn < n := by omega
          subst hva
          have e1 : wr.cell? ⟨vb, vo + k, none⟩ = some (.int .i64 vn) := ((hbk.out.cell (p := ⟨vb, _, none⟩) (show vb < W3.heap.size by omega)).trans (q2.cell (p := ⟨vb, _, none⟩) hvb)).trans hvc2
          have e2 : wr.cell? ⟨bL, 0, none⟩ = some (.slice (some ⟨gL, 0, none⟩) m m) := (q4.below_ hbk.out q4.lt).at_ 0 rfl
          have e3 : wr.cell? ⟨gL, k, none⟩ = some (.int .i64 a) := by
            have := q7.below_ hbk.out q7.lt
            rw [HSUP.out.1] at this
            exact this.at_ k (ints_at ha)
          obtain ⟨u, hu⟩ : ∃ u, ((putTo ds c.vars sup k).map (Value.int .i64))[vn]? = some u := ⟨_, List.getElem?_eq_getElem (by rw [List.length_map, putTo_len, hl.out]; exact hvn2)⟩
          have e4 : wr.cell? ⟨g6, vn, none⟩ = some u := by rw [hhk.out.cellAt vn (by omega), hu]
          have e5 : wr.frozen? ⟨g6, vn, none⟩ = false := hhk.out.frozenAt vn
          have hst := hhk.out.stored vn (.int .i64 a)
          rw [← List.map_set, ← putTo_succ hvk ha] at hst
          have HST := Lib.hid hst
          have HBS := Lib.hid (hbk.out.setCell (p := ⟨g6, vn, none⟩) hg6 (.int .i64 a))
          clear q2 q3 q4 q7 hD3 hB3 ha hvk hu hst hv0 hvn hsl
          go_wp2_with fail
          go_roundw
          case rel => exact ⟨k + 1, by omega, by go_num, HST.out, HBS.out⟩
          case measure => simp [intOf]; omega
        · obtain rfl : k = m := by omega
          go_wp2_with fail
          obtain ⟨q2, q3, q4, q7, hD3, hB3⟩ := HQ.out
          have hD4 := (hbk.out.block _ hB3).trans hD3
          refine ⟨by simp, .inl ⟨_, _, rfl, run_takeDeferred hD4, ?_⟩⟩
          refine ⟨_, results_tmp rfl _ _ _, .slice (some ⟨g6, 0, none⟩) n c6, rfl, ?_, ?_⟩
          · rw [HFIL.out]
            exact (hhk.out.base_ (by omega)).put_ hD4 rfl
          · exact (q2.trans (hbk.out.mono (by omega))).trans (put_below _ hD4 (by have := HSZ.out; have := HBD.out; omega))
    · exact hF.elim
/-- what Filter gives. -/
def filtF (c : Con) (ds : List Int) : List Int := if dokF ds && vconF c ds.length then filF c ds else []
theorem filtF_len (c : Con) (ds : List Int) : (filtF c ds).length ≤ 4 := by
  unfold filtF
  split
  · rename_i h
    simp only [Bool.and_eq_true] at h
    rw [filF_len]; exact (dok_parts h.1).2.1
  · simp
set_option maxHeartbeats 4000000 in
theorem iFilter (us : List Value) (c : Con) (A : Option Addr) (n d : Nat) (ds : List Int) (w : World) (h : ConR w w.heap.size us c) (hx : IntR w w.heap.size A n ds) :
    Calls Try.prog 22 #[.agg us.toArray, .slice A n d] w fun e w' => ∃ v', e = .returned v' ∧ HoldR w' w.heap.size 3 1 v' (filtF c ds).length ((filtF c ds).map (.int .i64)) ∧ Below w.heap.size w w' := by
  have hl := Lib.hid hx.len
  obtain ⟨va, aa, ra, cv, ca, cr, rfl, -⟩ := id h
  obtain ⟨wa, hwa⟩ : ∃ wa, wa = w.alloc (.cells #[.int .i64 c.kind, .slice va c.vars.length cv, .slice aa c.args.length ca, .int .i64 c.bound, .slice ra c.rows.length cr] 35) := ⟨_, rfl⟩
  have hb0 : Below w.heap.size w wa := by rw [hwa]; exact b_alloc _ _
  have ha : CBlk wa w.heap.size (.int .i64 c.kind) (.slice va c.vars.length cv) (.slice aa c.args.length ca) (.int .i64 c.bound) (.slice ra c.rows.length cr) := by rw [hwa]; exact CBlk.new w _ _ _ _ _
  have HC0 := Lib.hid h
  have HX0 := Lib.hid hx
  have HA := Lib.hid ha
  obtain ⟨a0, a1, a2, a3, a4⟩ := ha.cells
  clear ha h hx
  go_enter Try.func22, Try.ntmps22
  go_wp2_with fail
  rw [← hwa]
  clear hwa
  refine (domainsOk _ _ _ _ _ (IntR.on HX0.out hb0)).mono ?_
  rintro e w1 ⟨rfl, hb1⟩
  have HB1 := Lib.hid (bgo hb0 hb1)
  have HA1 := Lib.hid (HA.out.below hb1 HA.out.lt)
  obtain ⟨c0, c1, c2, c3, c4⟩ := HA1.out.cells
  clear a0 a1 a2 a3 a4 hb1 hb0 HA
  cases t0 : dokF ds
  · have HE := Lib.hid (show filtF c ds = [] by unfold filtF; rw [t0]; rfl)
    clear t0
    go_wp2_with fail
    go_ret
    exact ⟨_, rfl, by rw [HE.out]; exact HoldR.nil _ _ _ _, HB1.out⟩
  obtain ⟨hl1, hl4, hdoms⟩ := dok_parts t0
  have HDM := Lib.hid hdoms
  rw [hl.out] at hl1 hl4
  have HD := Lib.hid t0
  clear t0 hdoms
  go_wp2_with fail
  refine (iValidConstraint _ c _ _ (ConR.on HC0.out HB1.out)).mono ?_
  rintro e w2 ⟨rfl, hb2⟩
  have hvc : vconstF c (n : Int) = vconF c (n : Int) := by unfold vconstF; rw [inB_mk ⟨by omega, by omega⟩]; rfl
  rw [hvc]
  clear hvc
  have HB2 := Lib.hid (bgo HB1.out hb2)
  have HA2 := Lib.hid (HA1.out.below hb2 HA1.out.lt)
  obtain ⟨d0, d1, d2, d3, d4⟩ := HA2.out.cells
  clear c0 c1 c2 c3 c4 hb2 HB1 HA1
  cases t0 : vconF c (n : Int)
  · have HE := Lib.hid (show filtF c ds = [] by unfold filtF; rw [hl.out, t0]; simp)
    clear t0
    go_wp2_with fail
    go_ret
    exact ⟨_, rfl, by rw [HE.out]; exact HoldR.nil _ _ _ _, HB2.out⟩
  have HE := Lib.hid (show filtF c ds = filF c ds by unfold filtF; rw [hl.out, t0, HD.out]; simp)
  have HV := Lib.hid t0
  clear t0
  go_wp2_with fail
  refine (ifilter _ c _ _ _ ds _ (ConR.on HC0.out HB2.out) (IntR.on HX0.out HB2.out) HV.out hl1 hl4 HDM.out).mono ?_
  rintro e w3 ⟨v', rfl, hh, hb3⟩
  have HH := Lib.hid (And.intro (hh.base_ HB2.out.size) (bgo HB2.out hb3))
  clear hh hb3
  go_wp2_with fail
  go_ret
  refine ⟨_, rfl, ?_, HH.out.2⟩
  rw [HE.out, filF_len, hl.out]
  exact HH.out.1
end Go.Proofs.Ytejfnkbdmlijbaa
