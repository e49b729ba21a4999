/- Texts laid into one: MkB DgZ EntP MkS. -/
import Derived.Test.YtfmdgdamelkelaaHiFnDiagramEntailedB
import Derived.Test.YtfmdgdamelkelaaMkT
import Derived.Test.YtfmdgdamelkelaaCnt
/- impl's BuildDiagram. -/
namespace Go.Proofs.Ytfmdgdamelkelaa
open Go.ChangeShapes Go.WideShapes Go.ChangeAt Go.RowKit
open Go.Shelf
set_option linter.unusedVariables false
set_option maxRecDepth 100000
attribute [local go_sem] Oper.semAt_some

theorem satOk_all {c : Con} {n : Nat} (hv : vconF c n = true) (h4 : n ≤ 4) {xs : List Int} (hl : xs.length = c.vars.length) (hx : ∀ y ∈ xs, 0 ≤ y ∧ y ≤ 5) : SatOk c xs := by
  obtain ⟨h1, h2, h3⟩ := vcon_vars hv h4
  exact ⟨hl, by omega, by omega, hx, h3⟩
theorem bdg_no {c : Con} {ds : List Int} (h : (dokF ds && vconF c ds.length) = false) : bdgF c ds = [] := by
  unfold bdgF; rw [h]; rfl
theorem bdg_nil {c : Con} {ds : List Int} (h : allF c ds = []) : bdgF c ds = [] := by
  unfold bdgF; rw [if_pos h]; split <;> rfl
/-- the numbered nodes are the diagram. -/
theorem nm_bdg {N : List (List (List Int))} {c : Con} {ds : List Int} {k : Nat} {root : Int} (hok : (dokF ds && vconF c ds.length) = true) (hk : c.vars.length = k) (hG : GInv N k) (hn : allF c ds ≠ []) (hI : IsN N k 0 root) (hL : lang N k 0 root = allF c ds) : nmL N k 0 [root] = bdgF c ds := by
  have h1 := nm_bd hG k 0 [root] (by omega) (fun a ha => by rw [List.mem_singleton.1 ha]; exact hI)
  rw [h1]
  unfold bdgF
  rw [hok, if_pos rfl, if_neg hn, hk]
  show bdL k [lang N k 0 root] = _
  rw [hL]
/-- the beginning: no node. -/
theorem ginv_start (k : Nat) : GInv (List.replicate k []) k := by
  refine ⟨by simp, fun i l a r hl hr => ?_, fun i l hl => ?_⟩
  · rw [List.getElem?_replicate] at hl
    split at hl
    · injection hl with hl; subst hl; simp at hr
    · cases hl
  · rw [List.getElem?_replicate] at hl
    split at hl
    · injection hl with hl; subst hl; simp
    · cases hl
theorem bd5_start (k : Nat) : Bd5 (List.replicate k []) 0 := fun l hl => by rw [(List.mem_replicate.1 hl).2]; simp
theorem info_rows : (Try.prog.info? 99).map (fun i => (i.zero, i.size, i.bytes)) = some (some (.slice none 0 0), 1, 24) := by kernel_rfl
theorem info_maps : (Try.prog.info? 67).map (fun i => (i.zero, i.size, i.bytes)) = some (some (.map none), 1, 8) := by kernel_rfl
/-- the maps made so far. -/
def Maps0 (W : World) (lo j : Nat) (ms : List Value) (bs : List Nat) : Prop := bs.length = j ∧ ms = bs.map (fun b => Value.map (some b)) ∧ bs.Nodup ∧ ∀ b ∈ bs, lo ≤ b ∧ EMap W b 0 []
theorem Maps0.nil (W : World) (lo : Nat) : Maps0 W lo 0 [] [] := ⟨rfl, rfl, by simp, by simp⟩
theorem Maps0.same {W W' : World} {lo j : Nat} {ms : List Value} {bs : List Nat} (h : Maps0 W lo j ms bs) (hb : ∀ b ∈ bs, b < W.heap.size → W'.heap[b]? = W.heap[b]?) : Maps0 W' lo j ms bs :=
  ⟨h.1, h.2.1, h.2.2.1, fun b hm => ⟨(h.2.2.2 b hm).1, (h.2.2.2 b hm).2.heap (hb b hm (h.2.2.2 b hm).2.lt)⟩⟩
theorem Maps0.snoc {W : World} {lo j : Nat} {ms : List Value} {bs : List Nat} (h : Maps0 W lo j ms bs) (hl : lo ≤ W.heap.size) : Maps0 (W.alloc (.map #[] 0)) lo (j + 1) (ms ++ [.map (some W.heap.size)]) (bs ++ [W.heap.size]) := by
  have h' := h.same (W' := W.alloc (.map #[] 0)) (fun b _ hlt => (b_alloc W _).block b hlt)
  refine ⟨by simp [h.1], by rw [h.2.1]; simp, ?_, fun b hb => ?_⟩
  · rw [List.nodup_append]
    refine ⟨h.2.2.1, by simp, fun a ha c hc e => ?_⟩
    have h1 := (h.2.2.2 a ha).2.lt
    rw [List.mem_singleton.1 hc] at e
    omega
  · rcases List.mem_append.1 hb with h1 | h1
    · exact h'.2.2.2 b h1
    · rw [List.mem_singleton.1 h1]
      exact ⟨hl, EMap.made W 0⟩
/-- the maker's state before the first node. -/
theorem mks_start {W : World} {lo k nb lb cl : Nat} {ms : List Value} {bs : List Nat} {Z : Array Value} (hN : TBlk 99 W nb Z) (hZ : Z.toList = List.replicate k (.slice none 0 0)) (hL : W.ownsRow lo 67 1 (.slice (some ⟨lb, 0, none⟩) k cl) k ms) (hM : Maps0 W lo k ms bs) :
    MkS W (fun b => b = nb ∨ b ∈ bs) nb lb (List.replicate k []) := by
  rcases hL.2 with ⟨h, -⟩ | ⟨g, cap, cur, h, -, hc, -, -, -, ht⟩
  · cases h
  · injection h with h
    injection h with h
    injection h with h1 h2
    subst h1
    obtain ⟨m1, m2, m3, m4⟩ := hM
    refine ⟨fun _ => .slice none 0 0, fun i => bs[i]?.getD 0, Z, cur, hN, hc, .inl rfl, fun i l hl => ?_, fun i j hi hj hne => ?_⟩
    · rw [List.getElem?_replicate] at hl
      split at hl
      · rename_i hik
        injection hl with hl
        subst hl
        have hb : bs[i]? = some bs[i] := List.getElem?_eq_getElem (by omega)
        refine ⟨?_, ?_, ⟨⟨none, 0, rfl⟩, by simp, ⟨by simp, .inl ⟨rfl, rfl⟩⟩⟩, ?_, ?_, fun g hg => by cases hg⟩
        · rw [← Array.getElem?_toList, hZ, List.getElem?_replicate, if_pos hik]
        · have h3 : (cur.toList.take (k * 1))[i]? = ms[i]? := by rw [ht]
          rw [List.getElem?_take, if_pos (by omega), Array.getElem?_toList] at h3
          rw [h3, m2, List.getElem?_map, hb]
          simp only [hb, Option.map_some, Option.getD_some]
        · simp only [hb, Option.getD_some]
          exact (m4 _ (List.mem_of_getElem? hb)).2
        · simp only [hb, Option.getD_some]
          exact .inr (List.mem_of_getElem? hb)
      · cases hl
    · rw [List.length_replicate] at hi hj
      refine ⟨fun e => ?_, fun g hg => by cases hg⟩
      have hbi : bs[i]? = some bs[i] := List.getElem?_eq_getElem (by omega)
      have hbj : bs[j]? = some bs[j] := List.getElem?_eq_getElem (by omega)
      simp only [hbi, hbj, Option.getD_some] at e
      exact hne ((List.getElem_inj m3).1 e)
theorem hold_not {w : World} {base n size g : Nat} {e t : TypeId} {v : Value} {xs : List Value} {cs : Array Value} (h : HoldR w base e size v n xs) (hg : v.ownBlock = some g) (hb : TBlk t w g cs) (he : e ≠ t) : False := by
  rcases h.2 with ⟨rfl, -⟩ | ⟨g', cap, cur, rfl, h2, h3, -⟩
  · cases hg
  · injection hg with hg
    subst hg
    rw [show w.heap[g']? = _ from hb] at h3
    injection h3 with h3
    injection h3 with h3 h4
    exact he h4.symm
set_option maxHeartbeats 8000000 in
theorem iBuildDiagram (us : List Value) (c : Con) (A : Option Addr) (n d : Nat) (ds : List Int) (w : World) (h : ConR w w.heap.size us c) (hx : IntR w w.heap.size A n ds) :
    Calls Try.prog 13 #[.agg us.toArray, .slice A n d] w fun e w' => ∃ v, e = .returned v ∧ DgHR w' w.heap.size v (bdgF c ds) ∧ Below w.heap.size w w' := by
  obtain ⟨i1, hi1, hx0, hx1, hx2⟩ := info_parts info_rows
  obtain ⟨i2, hi2, hy0, hy1, hy2⟩ := info_parts info_maps
  have hl := Lib.hid hx.len
  have HC0 := h
  obtain ⟨va, aa, ra, cv, ca, cr, rfl, -⟩ := h
  obtain ⟨wa, hwa⟩ : ∃ wa, wa = w.alloc (.cells #[.int .i64 c.kind, .slice va c.vars.length cv, .slice aa c.args.length ca, .int .i64 c.bound, .slice ra c.rows.length cr] 29) := ⟨_, rfl⟩
  have hb0 : Below w.heap.size w wa := by rw [hwa]; exact b_alloc _ _
  have hsz : wa.heap.size = w.heap.size + 1 := by rw [hwa, size_alloc_]
  have ha : TBlk 29 wa w.heap.size #[.int .i64 c.kind, .slice va c.vars.length cv, .slice aa c.args.length ca, .int .i64 c.bound, .slice ra c.rows.length cr] := by rw [hwa]; exact TBlk.new _ _ _
  have H := Lib.hid (ConR.on HC0 hb0)
  have GX := Lib.hid (IntR.on hx hb0)
  have HA := Lib.hid ha
  have HB0 := Lib.hid hb0
  clear HC0 hx ha hb0
  go_enter Try.func13, Try.ntmps13
  go_wp2_with fail
  rw [← hwa]
  clear hwa
  refine (domainsOk A n d ds wa GX.out).mono ?_
  rintro e w1 ⟨rfl, hb1⟩
  have HA1 := Lib.hid (HA.out.below_ hb1 HA.out.lt)
  have HC1 := Lib.hid (ConR.on H.out hb1)
  have HX1 := Lib.hid (IntR.on GX.out hb1)
  have HB1 := Lib.hid (bgo HB0.out hb1)
  have a0 := HA1.out.at_ 0 rfl
  have a1 := HA1.out.at_ 1 rfl
  have a2 := HA1.out.at_ 2 rfl
  have a3 := HA1.out.at_ 3 rfl
  have a4 := HA1.out.at_ 4 rfl
  clear hb1 HA H GX HB0
  cases t0 : dokF ds
  · have HE := Lib.hid (bdg_no (c := c) (ds := ds) (by rw [t0]; rfl))
    clear t0
    go_wp2_with fail
    go_ret
    exact ⟨_, rfl, by rw [HE.out]; exact DgHR.nil _ _, HB1.out⟩
  · obtain ⟨hl1, hl4, hdoms⟩ := dok_parts t0
    have HDM := Lib.hid hdoms
    have HD := Lib.hid t0
    rw [hl.out] at hl1 hl4
    clear t0 hdoms
    go_wp2_with fail
    refine (iValidConstraint _ c n w1 HC1.out).mono ?_
    rintro e w2 ⟨rfl, hb2⟩
    have HA2 := Lib.hid (HA1.out.below_ hb2 HA1.out.lt)
    have HC2 := Lib.hid (ConR.on HC1.out hb2)
    have HX2 := Lib.hid (IntR.on HX1.out hb2)
    have HB2 := Lib.hid (bgo HB1.out hb2)
    clear hb2 HA1 HC1 HX1 HB1 a0 a1 a2 a3 a4
    cases t1 : vconstF c (n : Int)
    · have HE := Lib.hid (bdg_no (c := c) (ds := ds) (by
        unfold vconstF at t1
        rw [hl.out, HD.out]
        have : inB (n : Int) 1 4 = true := by simp [inB]; omega
        rw [this] at t1
        exact t1))
      clear t1
      go_wp2_with fail
      go_ret
      exact ⟨_, rfl, by rw [HE.out]; exact DgHR.nil _ _, HB2.out⟩
    · have hv : vconF c (n : Int) = true := by
        unfold vconstF at t1
        simp only [Bool.and_eq_true] at t1
        exact t1.2
      obtain ⟨hv1, hv2, -⟩ := vcon_vars hv hl4
      have HV := Lib.hid hv
      have HV2 := Lib.hid hv2
      obtain ⟨k, hk⟩ : ∃ k, c.vars.length = k := ⟨_, rfl⟩
      rw [hk] at hv1
      have HK := Lib.hid hk
      have hk4 : k ≤ 4 := by omega
      have HWL := Lib.hid (show (wordF c.vars ds).length = k by rw [wordF_len, hk])
      have HA2k := HA2.out
      rw [hk] at HA2k
      have HAK := Lib.hid HA2k
      have hck := HC2.out
      rw [hk] at hck
      have HCK := Lib.hid hck
      obtain ⟨Z, hZ, hmk⟩ := make_blk1 (P := Try.prog) 63 99 i1 _ Try.underlying63 hi1 hx0 hx1 rfl k (by rw [hx2]; omega) (by unfold maxLen; omega)
      have HZ := Lib.hid hZ
      have hS : ∀ w', Below w2.heap.size w2 w' → w'.cell? ⟨w.heap.size, 0, none⟩ = some (.int .i64 c.kind) ∧ w'.cell? ⟨w.heap.size, 1, none⟩ = some (.slice va k cv) ∧ w'.cell? ⟨w.heap.size, 2, none⟩ = some (.slice aa c.args.length ca) ∧ w'.cell? ⟨w.heap.size, 3, none⟩ = some (.int .i64 c.bound) ∧ w'.cell? ⟨w.heap.size, 4, none⟩ = some (.slice ra c.rows.length cr) := fun w' h => by
        have k := HAK.out.below_ h HAK.out.lt
        exact ⟨k.at_ 0 rfl, k.at_ 1 rfl, k.at_ 2 rfl, k.at_ 3 rfl, k.at_ 4 rfl⟩
      have HSK := Lib.hid hS
      have hbd : Below w2.heap.size w2 w2.drew := below_drewN (Below.refl _ _) 1
      have hS0 := hS _ hbd
      have hbm : Below w2.heap.size w2 (w2.drew.alloc (.cells Z 99)) := hbd.trans (b_alloc w2.drew _)
      have hSm := hS _ hbm
      have b0 := HAK.out.at_ 0 rfl
      have b1 := HAK.out.at_ 1 rfl
      have b2 := HAK.out.at_ 2 rfl
      have b3 := HAK.out.at_ 3 rfl
      have b4 := HAK.out.at_ 4 rfl
      have hsw : w.heap.size < w2.heap.size := HAK.out.lt
      clear t1 hv hv2 hk HA2k hZ hS HA2 hck
      rw [HK.out]
      go_wp2_with fail
      refine wp_region_held_drew (S := fun w' => w'.cell? ⟨w.heap.size, 0, none⟩ = some (.int .i64 c.kind) ∧ w'.cell? ⟨w.heap.size, 1, none⟩ = some (.slice va k cv) ∧ w'.cell? ⟨w.heap.size, 2, none⟩ = some (.slice aa c.args.length ca) ∧ w'.cell? ⟨w.heap.size, 3, none⟩ = some (.int .i64 c.bound) ∧ w'.cell? ⟨w.heap.size, 4, none⟩ = some (.slice ra c.rows.length cr)) (by kernel_rfl) hS0 (fun hHeld => ?_)
      refine wpAnyH_take (i := 0) (oi := { dst := _, op := _, type := _, pos := _, after := _, guard := _ }) (v := ?va0) rfl (by kernel_rfl) (by kernel_rfl) (by kernel_rfl) (fun _ _ _ h => h) (Or.inl ⟨by rfl, ?ya0⟩) hHeld ?ra0
      case ya0 => (intro w hSw; (try dsimp only at hSw); go_simp; try with_reducible rfl)
      try simp only [Act.put, List.setIfInBounds_toArray, List.set_cons_zero, List.set_cons_succ]
      refine wpAnyH_take (i := 1) (oi := { dst := _, op := _, type := _, pos := _, after := _, guard := _ }) (v := ?va1) rfl (by kernel_rfl) (by kernel_rfl) (by kernel_rfl) (fun _ _ _ h => h) (Or.inl ⟨by rfl, ?ya1⟩) hHeld ?ra1
      case ya1 => (intro w hSw; (try dsimp only at hSw); go_simp; try with_reducible rfl)
      try simp only [Act.put, List.setIfInBounds_toArray, List.set_cons_zero, List.set_cons_succ]
      refine wpAnyH_take (i := 2) (oi := { dst := _, op := _, type := _, pos := _, after := _, guard := _ }) (v := ?va2) rfl (by kernel_rfl) (by kernel_rfl) (by kernel_rfl) (fun _ _ _ h => h) (Or.inl ⟨by rfl, ?ya2⟩) hHeld ?ra2
      case ya2 => (intro w hSw; (try dsimp only at hSw); go_simp; try with_reducible rfl)
      try simp only [Act.put, List.setIfInBounds_toArray, List.set_cons_zero, List.set_cons_succ]
      refine wpAnyH_take (i := 4) (oi := { dst := _, op := _, type := _, pos := _, after := _, guard := _ }) (v := ?va4) rfl (by kernel_rfl) (by kernel_rfl) (by kernel_rfl) (fun _ _ _ h => h) (Or.inl ⟨by rfl, ?ya4⟩) hHeld ?ra4
      case ya4 => (intro w hSw; (try dsimp only at hSw); go_simp; try with_reducible rfl)
      try simp only [Act.put, List.setIfInBounds_toArray, List.set_cons_zero, List.set_cons_succ]
      refine wpAnyH_take (i := 5) (oi := { dst := _, op := _, type := _, pos := _, after := _, guard := _ }) (v := ?va5) rfl (by kernel_rfl) (by kernel_rfl) (by kernel_rfl) (fun _ _ _ h => h) (Or.inl ⟨by rfl, ?ya5⟩) hHeld ?ra5
      case ya5 => (intro w hSw; (try dsimp only at hSw); go_simp; try with_reducible rfl)
      try simp only [Act.put, List.setIfInBounds_toArray, List.set_cons_zero, List.set_cons_succ]
      refine wpAnyH_take (i := 6) (oi := { dst := _, op := _, type := _, pos := _, after := _, guard := _ }) (v := ?va6) rfl (by kernel_rfl) (by kernel_rfl) (by kernel_rfl) (fun _ _ _ h => h) (Or.inl ⟨by rfl, ?ya6⟩) hHeld ?ra6
      case ya6 => (intro w hSw; (try dsimp only at hSw); go_simp; try with_reducible rfl)
      try simp only [Act.put, List.setIfInBounds_toArray, List.set_cons_zero, List.set_cons_succ]
      refine wpAnyH_ready (rs := [3, 7]) (by kernel_rfl) (by simp) ?_
      refine AllReadyH.cons (o := { dst := _, op := _, type := _, pos := _, after := _, guard := _ }) rfl (fun K hK => ?_) (AllReadyH.cons (o := { dst := _, op := _, type := _, pos := _, after := _, guard := _ }) rfl (fun K hK => ?_) AllReadyH.nil)
      · go_simp
        refine (iword _ c A n d ds w2.drew (ConR.on HCK.out hbd) (IntR.on HX2.out hbd) HV2.out (by rw [HK.out]; exact hk4)).mono ?_
        rintro e Wq ⟨v, rfl, ow, hBq⟩
        have ow1 := ow.1
        rw [HWL.out] at ow1
        obtain ⟨Aw, cw, rfl⟩ := (HoldR.of_own ow1).form
        have hb8 := bgo hbd hBq
        have hSq := HSK.out _ hb8
        obtain ⟨Wz, hWz⟩ : ∃ Wz, Wq.alloc (.cells Z 99) = Wz := ⟨_, rfl⟩
        obtain ⟨nbv, hnb⟩ : ∃ nbv, Wq.heap.size = nbv := ⟨_, rfl⟩
        have hbz : Below w2.heap.size w2 Wz := by rw [← hWz]; exact hb8.trans ((b_alloc Wq _).mono hb8.size)
        have TZ : TBlk 99 Wz nbv Z := by rw [← hWz, ← hnb]; exact TBlk.new _ _ _
        have hnw : w2.heap.size ≤ nbv := by rw [← hnb]; exact hb8.size
        have hwo := own_base (own_below ow1 (show Below Wq.heap.size Wq Wz by rw [← hWz]; exact b_alloc _ _)) hbd.size
        have hSz := HSK.out _ hbz
        have HBZ := Lib.hid (And.intro hbz (And.intro TZ (HoldR.of_own hwo)))
        clear ow ow1 hBq hb8 hbz TZ hwo
        refine hK.out _ _ ?_ (fun hHeld => ?_)
        · exact hSq
        clear hK K
        try simp only [Act.put, List.setIfInBounds_toArray, List.set_cons_zero, List.set_cons_succ]
        refine wpAnyH_ready (rs := [7]) (by kernel_rfl) (by simp) ?_
        refine AllReadyH.cons (o := { dst := _, op := _, type := _, pos := _, after := _, guard := _ }) rfl (fun K hK => ?_) AllReadyH.nil
        go_simp
        refine hK.out _ _ ?_ (fun hHeld => ?_)
        · exact hSz
        clear hK K
        try simp only [Act.put, List.setIfInBounds_toArray, List.set_cons_zero, List.set_cons_succ]
        refine wpAnyH_take (i := 8) (oi := { dst := _, op := _, type := _, pos := _, after := _, guard := _ }) (v := ?vd8) rfl (by kernel_rfl) (by kernel_rfl) (by kernel_rfl) (fun _ _ _ h => h) (Or.inl ⟨by rfl, ?yd8⟩) hHeld ?rd8
        case yd8 => (intro w hSw; (try dsimp only at hSw); go_simp; try with_reducible rfl)
        try simp only [Act.put, List.setIfInBounds_toArray, List.set_cons_zero, List.set_cons_succ]
        refine wpAnyH_ready (rs := [9]) (by kernel_rfl) (by simp) ?_
        refine AllReadyH.cons (o := { dst := _, op := _, type := _, pos := _, after := _, guard := _ }) rfl (fun K hK => ?_) AllReadyH.nil
        go_simp
        refine hK.out _ _ ?_ (fun hHeld => ?_)
        · exact HSK.out _ (HBZ.out.1.trans ((b_alloc Wz _).mono HBZ.out.1.size))
        clear hK K
        try simp only [Act.put, List.setIfInBounds_toArray, List.set_cons_zero, List.set_cons_succ]
        refine wpAnyH_take (i := 10) (oi := { dst := _, op := _, type := _, pos := _, after := _, guard := _ }) (v := ?vd10) rfl (by kernel_rfl) (by kernel_rfl) (by kernel_rfl) (fun _ _ _ h => h) (Or.inl ⟨by rfl, ?yd10⟩) hHeld ?rd10
        case yd10 => (intro w hSw; (try dsimp only at hSw); go_simp; try with_reducible rfl)
        try simp only [Act.put, List.setIfInBounds_toArray, List.set_cons_zero, List.set_cons_succ]
        refine wpAnyH_done (by kernel_rfl) ?_ _
        obtain ⟨wM, hwM⟩ : ∃ wM, Wz.alloc (.cells #[.int .i64 c.kind, .slice va k cv, .slice aa c.args.length ca, .int .i64 c.bound, .slice ra c.rows.length cr, .slice Aw k cw, .slice none 0 0, .slice (some ⟨nbv, 0, none⟩) k k] 66) = wM := ⟨_, rfl⟩
        have hsM : wM.heap.size = Wz.heap.size + 1 := by rw [← hwM, size_alloc_]
        have hbM : Below Wz.heap.size Wz wM := by rw [← hwM]; exact b_alloc _ _
        have TM : TBlk 66 wM Wz.heap.size #[.int .i64 c.kind, .slice va k cv, .slice aa c.args.length ca, .int .i64 c.bound, .slice ra c.rows.length cr, .slice Aw k cw, .slice none 0 0, .slice (some ⟨nbv, 0, none⟩) k k] := by rw [← hwM]; exact TBlk.new _ _ _
        have HTM := Lib.hid TM
        have HBM := Lib.hid hbM
        have hnz := HBZ.out.2.1.lt
        have hzz := HBZ.out.1.size
        have c1 : wM.cell? ⟨w.heap.size, 1, none⟩ = some (.slice va k cv) := (HAK.out.below_ (HBZ.out.1.trans (hbM.mono HBZ.out.1.size)) HAK.out.lt).at_ 1 rfl
        clear TM hbM hHeld b0 b1 b2 b3 b4 hS0 hSm hSz hmk
        go_wp2_with fail
        clear hwM c1
        go_loopw [30] (fun t30 wr => ∃ (j : Nat) (Lv : Value) (ms : List Value) (bs : List Nat), j ≤ k ∧ t30 = .int .i64 j ∧ Hid (TBlk 66 wr Wz.heap.size #[.int .i64 c.kind, .slice va k cv, .slice aa c.args.length ca, .int .i64 c.bound, .slice ra c.rows.length cr, .slice Aw k cw, Lv, .slice (some ⟨nbv, 0, none⟩) k k]) ∧ Hid (wr.ownsRow wM.heap.size 67 1 Lv j ms) ∧ Hid (Maps0 wr wM.heap.size j ms bs) ∧ Hid (Below Wz.heap.size Wz wr) ∧ wM.heap.size ≤ wr.heap.size) (fun i _ => k - (intOf i).toNat)
        case atStart => exact ⟨0, _, [], [], by omega, rfl, HTM, Lib.hid ⟨by simp, .inl ⟨rfl, rfl⟩⟩, Lib.hid (Maps0.nil _ _), HBM, Nat.le_refl _⟩
        case round =>
          obtain ⟨j, Lv, ms, bs, hj, rfl, hT, hO, hM, hB, hzr⟩ := hrel
          rename World => wr
          obtain ⟨AL, cL, rfl⟩ := (HoldR.of_own hO.out).form
          by_cases hjk : j < k
          · have c6 := hT.out.at_ 6 rfl
            have hmm := @run_makeMap Try.prog
            obtain ⟨wn, hwn⟩ : ∃ wn, wr.alloc (.map #[] 0) = wn := ⟨_, rfl⟩
            have hsn : wn.heap.size = wr.heap.size + 1 := by rw [← hwn, size_alloc_]
            have hbn : Below wr.heap.size wr wn := by rw [← hwn]; exact b_alloc _ _
            obtain ⟨ws, hws⟩ : ∃ ws, wn.alloc (.cells #[.map (some wr.heap.size)] 67) = ws := ⟨_, rfl⟩
            have hss : ws.heap.size = wr.heap.size + 2 := by rw [← hws, size_alloc_, hsn]
            have hbs : Below wr.heap.size wr ws := hbn.trans (by rw [← hws]; exact (b_alloc _ _).mono (by omega))
            have hMs : Maps0 ws wM.heap.size (j + 1) (ms ++ [.map (some wr.heap.size)]) (bs ++ [wr.heap.size]) := by
              have h1 := hM.out.snoc hzr
              rw [hwn] at h1
              exact h1.same (fun b _ hlt => by rw [← hws]; exact (b_alloc wn _).block b hlt)
            have sr : Src ws 1 (some ⟨wr.heap.size + 1, 0, none⟩) 1 1 [.map (some wr.heap.size)] := by
              rw [← hws, ← hsn]
              exact src_own (World.ownsRow_lit (e := 67) (size := 1) wn #[.map (some wr.heap.size)] 1 (Nat.le_refl _) (by decide) rfl)
            have oS := own_below hO.out hbs
            have HOS := Lib.hid oS
            have HMS := Lib.hid hMs
            have HBS := Lib.hid hbs
            have HT7 := Lib.hid (hT.out.below_ hbs hT.out.lt)
            clear hbn hbs hMs
            go_wp2_with (at_builtin; refine wpList_append_any rfl _ _ 64 rfl wM.heap.size 67 i2 _ 1 8 Try.underlying64 hi2 hy0 hy1 hy2 rfl (by decide) (.slice AL j cL) j ms rfl oS (some ⟨wr.heap.size + 1, 0, none⟩) 1 1 [.map (some wr.heap.size)] rfl sr (by simp [Value.oneCell']) (by unfold maxLen; omega) (by omega) (by omega) ?_; intro v7 w7 ho7 hb7 hg7 _; have t7 := HT7.out.below_ hb7 (show Wz.heap.size < wM.heap.size by omega); have d6 := t7.at_ 6 rfl; have e6 := t7.frozen 6; obtain ⟨A7, c7, rfl⟩ := (HoldR.of_own ho7).form)
            clear hws hwn sr oS
            go_roundw
            case rel =>
              have hs7 := hg7.size
              refine ⟨j + 1, .slice A7 (j + 1) c7, ms ++ [.map (some wr.heap.size)], bs ++ [wr.heap.size], by omega, by go_num, Lib.hid ?_, Lib.hid ?_, Lib.hid ?_, Lib.hid ?_, by simp; omega⟩
              · exact t7.store 6 (.slice A7 (j + 1) c7)
              · exact own_eq ho7 (fun g hg _ => Below.heap_setCell w7 ⟨Wz.heap.size, 6, none⟩ _ g (fun e => by
                  have e : g = Wz.heap.size := e
                  have := (HoldR.of_own ho7).geBase hg
                  omega))
              · refine (HMS.out.same (W' := w7) (fun b hb hlt => hg7.block b hlt (fun e => ?_))).same (fun b hb _ => Below.heap_setCell w7 ⟨Wz.heap.size, 6, none⟩ _ b (fun e => ?_))
                · exact own_notE HOS.out e.symm (HMS.out.2.2.2 b hb).2
                · have e : b = Wz.heap.size := e
                  have := (HMS.out.2.2.2 b hb).1
                  omega
              · have h1 : Below Wz.heap.size Wz w7 := (hB.out.trans (HBS.out.mono (by omega))).trans (hb7.mono (by omega))
                exact h1.setCell (Nat.le_refl _) _
            case measure => simp [intOf]; omega
          · obtain rfl : j = k := by omega
            have hk := HK.out
            subst hk
            obtain ⟨lb, rfl, hlb1, hlb2⟩ := (HoldR.of_own hO.out).pos (by omega)
            have hBwr : Below w2.heap.size w2 wr := HBZ.out.1.trans (hB.out.mono HBZ.out.1.size)
            have hbsz := hB.out.size
            have TN := HBZ.out.2.1.below_ hB.out HBZ.out.2.1.lt
            have hS0 := mks_start TN HZ.out hO.out hM.out
            have hD : MkD wr w2.heap.size Wz.heap.size c.vars.length cw _ c [.int .i64 c.kind, .slice va c.vars.length cv, .slice aa c.args.length ca, .int .i64 c.bound, .slice ra c.rows.length cr] (wordF c.vars ds) Aw := ⟨hT.out, ConR.keeps _ _ _ _ _ (fun p hp => hBwr.cell hp) HCK.out, (HBZ.out.2.2.base_ (Nat.zero_le _)).below hB.out, hBwr.size⟩
            have hX : ∀ b, (b = nbv ∨ b ∈ bs) → w2.heap.size ≤ b ∧ b < wr.heap.size := fun b hb => by
              rcases hb with hb | hb
              · rw [hb]; exact ⟨hnw, by omega⟩
              · have h1 := hM.out.2.2.2 b hb
                exact ⟨by have := h1.1; omega, h1.2.lt⟩
            have hNX : NX (fun b => b = nbv ∨ b ∈ bs) Wz.heap.size c.vars.length cw Aw := ⟨fun h => by
              rcases h with h | h
              · omega
              · have := (hM.out.2.2.2 Wz.heap.size h).1; omega, fun g hg h => by
              have hgl := HBZ.out.2.2.ownLt hg
              rcases h with h | h
              · subst h
                exact hold_not HBZ.out.2.2 hg HBZ.out.2.1 (by decide)
              · have := (hM.out.2.2.2 g h).1; omega⟩
            have hwd : ∀ x ∈ wordF c.vars ds, 0 ≤ x ∧ x ≤ 63 := word_doms (by rw [hl.out]; exact HV2.out) HDM.out
            have h7 : 7 ^ c.vars.length ≤ 7 ^ 4 := Nat.pow_le_pow_right (by omega) hk4
            have hCALL := inode w2.heap.size Wz.heap.size nbv lb c.vars.length cv ca cr cw cL c.vars.length va aa ra Aw c (wordF c.vars ds) HWL.out hk4 hwd (fun xs h1 h2 => satOk_all HV.out hl4 h1 h2) c.vars.length 0 [] wr (fun b => b = nbv ∨ b ∈ bs) (List.replicate c.vars.length []) none 0 0 (by omega) (by simp) (HoldR.nil _ _ _ _) (fun g hg => by cases hg) hD hNX hX hS0 (ginv_start _) (bd5_start _) (by omega)
            have HCALL := Lib.hid hCALL
            have HXX := Lib.hid (And.intro hX (And.intro hNX (And.intro hT.out hBwr)))
            clear hCALL hX hNX hD hS0 TN hBwr hwd h7 hT hO hM HTM HBM
            go_wp2_with fail
            refine HCALL.out.mono ?_
            rintro e w' ⟨a, N', Y, rfl, S', hY, K', G', -, B', R'⟩
            have HB' : Below w.heap.size w w' := (HB2.out.trans (HXX.out.2.2.2.mono (by omega))).trans (K'.below (fun b _ h => by have := (HXX.out.1 b h).1; omega) (by omega))
            rcases R' with ⟨ra1, rn⟩ | ⟨ri, rl, rn⟩
            · subst ra1
              have HE := Lib.hid (bdg_nil (c := c) (ds := ds) rn)
              clear S' hY K' G' B' rn HCALL
              go_wp2_with fail
              go_ret
              exact ⟨_, rfl, by rw [HE.out]; exact DgHR.nil _ _, HB'⟩
            · have h0 := ri.1
              have hd0 : decide (a < 0) = false := decide_eq_false (by have := ri.1; omega)
              have TB := K'.blk HXX.out.2.2.1 HXX.out.2.1.1
              have h7 : 7 ^ c.vars.length ≤ 7 ^ 4 := Nat.pow_le_pow_right (by omega) hk4
              have hCALL := inumbered Wz.heap.size nbv lb c.vars.length c.vars.length _ rfl Y N' a w' TB S' G' ri (by omega) hk4 (B'.mono (by omega))
              have HE := Lib.hid (nm_bdg (c := c) (ds := ds) (by rw [HD.out, hl.out, HV.out]; rfl) rfl G' rn ri rl)
              have HC2' := Lib.hid hCALL
              have HBB := Lib.hid HB'
              have hszz := HB'.size
              clear S' hY K' G' B' rn HCALL ri rl TB hCALL HB'
              go_wp2_with fail
              refine HC2'.out.mono ?_
              rintro e w'' ⟨v, rfl, hv, hb''⟩
              go_wp2_with fail
              go_ret
              exact ⟨v, rfl, by rw [← HE.out]; exact hv.base_ (by omega), bgo HBB.out hb''⟩
      · go_simp
        refine hK.out _ _ ?_ (fun hHeld => ?_)
        · exact hSm
        clear hK K
        try simp only [Act.put, List.setIfInBounds_toArray, List.set_cons_zero, List.set_cons_succ]
        refine wpAnyH_ready (rs := [3]) (by kernel_rfl) (by simp) ?_
        refine AllReadyH.cons (o := { dst := _, op := _, type := _, pos := _, after := _, guard := _ }) rfl (fun K hK => ?_) AllReadyH.nil
        go_simp
        refine (iword _ c A n d ds (w2.drew.alloc (.cells Z 99)) (ConR.on HCK.out hbm) (IntR.on HX2.out hbm) HV2.out (by rw [HK.out]; exact hk4)).mono ?_
        rintro e Wz ⟨v, rfl, ow, hBq⟩
        have ow1 := ow.1
        rw [HWL.out] at ow1
        obtain ⟨Aw, cw, rfl⟩ := (HoldR.of_own ow1).form
        have hbz := bgo hbm hBq
        obtain ⟨nbv, hnb⟩ : ∃ nbv, w2.heap.size = nbv := ⟨_, rfl⟩
        have TZ : TBlk 99 Wz nbv Z := by rw [← hnb]; exact (TBlk.new w2.drew Z 99).below_ hBq (TBlk.new w2.drew Z 99).lt
        have hnw : w2.heap.size ≤ nbv := by omega
        have hwo := own_base ow1 (show w2.heap.size ≤ (w2.drew.alloc (.cells Z 99)).heap.size by exact hbm.size)
        have hSz := HSK.out _ hbz
        have HBZ := Lib.hid (And.intro hbz (And.intro TZ (HoldR.of_own hwo)))
        clear ow ow1 hBq hbz TZ hwo
        refine hK.out _ _ ?_ (fun hHeld => ?_)
        · exact hSz
        clear hK K
        try simp only [Act.put, List.setIfInBounds_toArray, List.set_cons_zero, List.set_cons_succ]
        refine wpAnyH_take (i := 8) (oi := { dst := _, op := _, type := _, pos := _, after := _, guard := _ }) (v := ?ve8) rfl (by kernel_rfl) (by kernel_rfl) (by kernel_rfl) (fun _ _ _ h => h) (Or.inl ⟨by rfl, ?ye8⟩) hHeld ?re8
        case ye8 => (intro w hSw; (try dsimp only at hSw); go_simp; try with_reducible rfl)
        try simp only [Act.put, List.setIfInBounds_toArray, List.set_cons_zero, List.set_cons_succ]
        refine wpAnyH_ready (rs := [9]) (by kernel_rfl) (by simp) ?_
        refine AllReadyH.cons (o := { dst := _, op := _, type := _, pos := _, after := _, guard := _ }) rfl (fun K hK => ?_) AllReadyH.nil
        go_simp
        refine hK.out _ _ ?_ (fun hHeld => ?_)
        · exact HSK.out _ (HBZ.out.1.trans ((b_alloc Wz _).mono HBZ.out.1.size))
        clear hK K
        try simp only [Act.put, List.setIfInBounds_toArray, List.set_cons_zero, List.set_cons_succ]
        refine wpAnyH_take (i := 10) (oi := { dst := _, op := _, type := _, pos := _, after := _, guard := _ }) (v := ?ve10) rfl (by kernel_rfl) (by kernel_rfl) (by kernel_rfl) (fun _ _ _ h => h) (Or.inl ⟨by rfl, ?ye10⟩) hHeld ?re10
        case ye10 => (intro w hSw; (try dsimp only at hSw); go_simp; try with_reducible rfl)
        try simp only [Act.put, List.setIfInBounds_toArray, List.set_cons_zero, List.set_cons_succ]
        refine wpAnyH_done (by kernel_rfl) ?_ _
        obtain ⟨wM, hwM⟩ : ∃ wM, Wz.alloc (.cells #[.int .i64 c.kind, .slice va k cv, .slice aa c.args.length ca, .int .i64 c.bound, .slice ra c.rows.length cr, .slice Aw k cw, .slice none 0 0, .slice (some ⟨nbv, 0, none⟩) k k] 66) = wM := ⟨_, rfl⟩
        have hsM : wM.heap.size = Wz.heap.size + 1 := by rw [← hwM, size_alloc_]
        have hbM : Below Wz.heap.size Wz wM := by rw [← hwM]; exact b_alloc _ _
        have TM : TBlk 66 wM Wz.heap.size #[.int .i64 c.kind, .slice va k cv, .slice aa c.args.length ca, .int .i64 c.bound, .slice ra c.rows.length cr, .slice Aw k cw, .slice none 0 0, .slice (some ⟨nbv, 0, none⟩) k k] := by rw [← hwM]; exact TBlk.new _ _ _
        have HTM := Lib.hid TM
        have HBM := Lib.hid hbM
        have hnz := HBZ.out.2.1.lt
        have hzz := HBZ.out.1.size
        have c1 : wM.cell? ⟨w.heap.size, 1, none⟩ = some (.slice va k cv) := (HAK.out.below_ (HBZ.out.1.trans (hbM.mono HBZ.out.1.size)) HAK.out.lt).at_ 1 rfl
        clear TM hbM hHeld b0 b1 b2 b3 b4 hS0 hSm hSz hmk
        go_wp2_with fail
        clear hwM c1
        go_loopw [30] (fun t30 wr => ∃ (j : Nat) (Lv : Value) (ms : List Value) (bs : List Nat), j ≤ k ∧ t30 = .int .i64 j ∧ Hid (TBlk 66 wr Wz.heap.size #[.int .i64 c.kind, .slice va k cv, .slice aa c.args.length ca, .int .i64 c.bound, .slice ra c.rows.length cr, .slice Aw k cw, Lv, .slice (some ⟨nbv, 0, none⟩) k k]) ∧ Hid (wr.ownsRow wM.heap.size 67 1 Lv j ms) ∧ Hid (Maps0 wr wM.heap.size j ms bs) ∧ Hid (Below Wz.heap.size Wz wr) ∧ wM.heap.size ≤ wr.heap.size) (fun i _ => k - (intOf i).toNat)
        case atStart => exact ⟨0, _, [], [], by omega, rfl, HTM, Lib.hid ⟨by simp, .inl ⟨rfl, rfl⟩⟩, Lib.hid (Maps0.nil _ _), HBM, Nat.le_refl _⟩
        case round =>
          obtain ⟨j, Lv, ms, bs, hj, rfl, hT, hO, hM, hB, hzr⟩ := hrel
          rename World => wr
          obtain ⟨AL, cL, rfl⟩ := (HoldR.of_own hO.out).form
          by_cases hjk : j < k
          · have c6 := hT.out.at_ 6 rfl
            have hmm := @run_makeMap Try.prog
            obtain ⟨wn, hwn⟩ : ∃ wn, wr.alloc (.map #[] 0) = wn := ⟨_, rfl⟩
            have hsn : wn.heap.size = wr.heap.size + 1 := by rw [← hwn, size_alloc_]
            have hbn : Below wr.heap.size wr wn := by rw [← hwn]; exact b_alloc _ _
            obtain ⟨ws, hws⟩ : ∃ ws, wn.alloc (.cells #[.map (some wr.heap.size)] 67) = ws := ⟨_, rfl⟩
            have hss : ws.heap.size = wr.heap.size + 2 := by rw [← hws, size_alloc_, hsn]
            have hbs : Below wr.heap.size wr ws := hbn.trans (by rw [← hws]; exact (b_alloc _ _).mono (by omega))
            have hMs : Maps0 ws wM.heap.size (j + 1) (ms ++ [.map (some wr.heap.size)]) (bs ++ [wr.heap.size]) := by
              have h1 := hM.out.snoc hzr
              rw [hwn] at h1
              exact h1.same (fun b _ hlt => by rw [← hws]; exact (b_alloc wn _).block b hlt)
            have sr : Src ws 1 (some ⟨wr.heap.size + 1, 0, none⟩) 1 1 [.map (some wr.heap.size)] := by
              rw [← hws, ← hsn]
              exact src_own (World.ownsRow_lit (e := 67) (size := 1) wn #[.map (some wr.heap.size)] 1 (Nat.le_refl _) (by decide) rfl)
            have oS := own_below hO.out hbs
            have HOS := Lib.hid oS
            have HMS := Lib.hid hMs
            have HBS := Lib.hid hbs
            have HT7 := Lib.hid (hT.out.below_ hbs hT.out.lt)
            clear hbn hbs hMs
            go_wp2_with (at_builtin; refine wpList_append_any rfl _ _ 64 rfl wM.heap.size 67 i2 _ 1 8 Try.underlying64 hi2 hy0 hy1 hy2 rfl (by decide) (.slice AL j cL) j ms rfl oS (some ⟨wr.heap.size + 1, 0, none⟩) 1 1 [.map (some wr.heap.size)] rfl sr (by simp [Value.oneCell']) (by unfold maxLen; omega) (by omega) (by omega) ?_; intro v7 w7 ho7 hb7 hg7 _; have t7 := HT7.out.below_ hb7 (show Wz.heap.size < wM.heap.size by omega); have d6 := t7.at_ 6 rfl; have e6 := t7.frozen 6; obtain ⟨A7, c7, rfl⟩ := (HoldR.of_own ho7).form)
            clear hws hwn sr oS
            go_roundw
            case rel =>
              have hs7 := hg7.size
              refine ⟨j + 1, .slice A7 (j + 1) c7, ms ++ [.map (some wr.heap.size)], bs ++ [wr.heap.size], by omega, by go_num, Lib.hid ?_, Lib.hid ?_, Lib.hid ?_, Lib.hid ?_, by simp; omega⟩
              · exact t7.store 6 (.slice A7 (j + 1) c7)
              · exact own_eq ho7 (fun g hg _ => Below.heap_setCell w7 ⟨Wz.heap.size, 6, none⟩ _ g (fun e => by
                  have e : g = Wz.heap.size := e
                  have := (HoldR.of_own ho7).geBase hg
                  omega))
              · refine (HMS.out.same (W' := w7) (fun b hb hlt => hg7.block b hlt (fun e => ?_))).same (fun b hb _ => Below.heap_setCell w7 ⟨Wz.heap.size, 6, none⟩ _ b (fun e => ?_))
                · exact own_notE HOS.out e.symm (HMS.out.2.2.2 b hb).2
                · have e : b = Wz.heap.size := e
                  have := (HMS.out.2.2.2 b hb).1
                  omega
              · have h1 : Below Wz.heap.size Wz w7 := (hB.out.trans (HBS.out.mono (by omega))).trans (hb7.mono (by omega))
                exact h1.setCell (Nat.le_refl _) _
            case measure => simp [intOf]; omega
          · obtain rfl : j = k := by omega
            have hk := HK.out
            subst hk
            obtain ⟨lb, rfl, hlb1, hlb2⟩ := (HoldR.of_own hO.out).pos (by omega)
            have hBwr : Below w2.heap.size w2 wr := HBZ.out.1.trans (hB.out.mono HBZ.out.1.size)
            have hbsz := hB.out.size
            have TN := HBZ.out.2.1.below_ hB.out HBZ.out.2.1.lt
            have hS0 := mks_start TN HZ.out hO.out hM.out
            have hD : MkD wr w2.heap.size Wz.heap.size c.vars.length cw _ c [.int .i64 c.kind, .slice va c.vars.length cv, .slice aa c.args.length ca, .int .i64 c.bound, .slice ra c.rows.length cr] (wordF c.vars ds) Aw := ⟨hT.out, ConR.keeps _ _ _ _ _ (fun p hp => hBwr.cell hp) HCK.out, (HBZ.out.2.2.base_ (Nat.zero_le _)).below hB.out, hBwr.size⟩
            have hX : ∀ b, (b = nbv ∨ b ∈ bs) → w2.heap.size ≤ b ∧ b < wr.heap.size := fun b hb => by
              rcases hb with hb | hb
              · rw [hb]; exact ⟨hnw, by omega⟩
              · have h1 := hM.out.2.2.2 b hb
                exact ⟨by have := h1.1; omega, h1.2.lt⟩
            have hNX : NX (fun b => b = nbv ∨ b ∈ bs) Wz.heap.size c.vars.length cw Aw := ⟨fun h => by
              rcases h with h | h
              · omega
              · have := (hM.out.2.2.2 Wz.heap.size h).1; omega, fun g hg h => by
              have hgl := HBZ.out.2.2.ownLt hg
              rcases h with h | h
              · subst h
                exact hold_not HBZ.out.2.2 hg HBZ.out.2.1 (by decide)
              · have := (hM.out.2.2.2 g h).1; omega⟩
            have hwd : ∀ x ∈ wordF c.vars ds, 0 ≤ x ∧ x ≤ 63 := word_doms (by rw [hl.out]; exact HV2.out) HDM.out
            have h7 : 7 ^ c.vars.length ≤ 7 ^ 4 := Nat.pow_le_pow_right (by omega) hk4
            have hCALL := inode w2.heap.size Wz.heap.size nbv lb c.vars.length cv ca cr cw cL c.vars.length va aa ra Aw c (wordF c.vars ds) HWL.out hk4 hwd (fun xs h1 h2 => satOk_all HV.out hl4 h1 h2) c.vars.length 0 [] wr (fun b => b = nbv ∨ b ∈ bs) (List.replicate c.vars.length []) none 0 0 (by omega) (by simp) (HoldR.nil _ _ _ _) (fun g hg => by cases hg) hD hNX hX hS0 (ginv_start _) (bd5_start _) (by omega)
            have HCALL := Lib.hid hCALL
            have HXX := Lib.hid (And.intro hX (And.intro hNX (And.intro hT.out hBwr)))
            clear hCALL hX hNX hD hS0 TN hBwr hwd h7 hT hO hM HTM HBM
            go_wp2_with fail
            refine HCALL.out.mono ?_
            rintro e w' ⟨a, N', Y, rfl, S', hY, K', G', -, B', R'⟩
            have HB' : Below w.heap.size w w' := (HB2.out.trans (HXX.out.2.2.2.mono (by omega))).trans (K'.below (fun b _ h => by have := (HXX.out.1 b h).1; omega) (by omega))
            rcases R' with ⟨ra1, rn⟩ | ⟨ri, rl, rn⟩
            · subst ra1
              have HE := Lib.hid (bdg_nil (c := c) (ds := ds) rn)
              clear S' hY K' G' B' rn HCALL
              go_wp2_with fail
              go_ret
              exact ⟨_, rfl, by rw [HE.out]; exact DgHR.nil _ _, HB'⟩
            · have h0 := ri.1
              have hd0 : decide (a < 0) = false := decide_eq_false (by have := ri.1; omega)
              have TB := K'.blk HXX.out.2.2.1 HXX.out.2.1.1
              have h7 : 7 ^ c.vars.length ≤ 7 ^ 4 := Nat.pow_le_pow_right (by omega) hk4
              have hCALL := inumbered Wz.heap.size nbv lb c.vars.length c.vars.length _ rfl Y N' a w' TB S' G' ri (by omega) hk4 (B'.mono (by omega))
              have HE := Lib.hid (nm_bdg (c := c) (ds := ds) (by rw [HD.out, hl.out, HV.out]; rfl) rfl G' rn ri rl)
              have HC2' := Lib.hid hCALL
              have HBB := Lib.hid HB'
              have hszz := HB'.size
              clear S' hY K' G' B' rn HCALL ri rl TB hCALL HB'
              go_wp2_with fail
              refine HC2'.out.mono ?_
              rintro e w'' ⟨v, rfl, hv, hb''⟩
              go_wp2_with fail
              go_ret
              exact ⟨v, rfl, by rw [← HE.out]; exact hv.base_ (by omega), bgo HBB.out hb''⟩
end Go.Proofs.Ytfmdgdamelkelaa
/- spec's draw for IsEntailed. -/
namespace Go.Proofs.Ytfmdgdamelkelaa
open Go.ChangeShapes Go.WideShapes Go.ChangeAt Go.RowKit
open Go.Shelf
set_option linter.unusedVariables false
set_option maxRecDepth 100000
attribute [local go_sem] Oper.semAt_some
theorem OwnCon.butG_ {w w' : World} {base g : Nat} {v : Value} {k : Con} (h : OwnCon w base v k) (hb : ButG g w.heap.size w w') (hg : g < base) : OwnCon w' base v k := by
  obtain ⟨vv, av, rv, e, k1, k2, k3⟩ := h
  exact ⟨vv, av, rv, e, OwnI.butG k1 hb hg, OwnI.butG k2 hb hg, OwnRows.butG k3 hb hg⟩
set_option maxHeartbeats 16000000 in
theorem drawIsEntailed (A : Option Addr) (n c : Nat) (bs : List Int) (w : World) (h : CodeA w w.heap.size A n c bs) :
    Calls Try.prog 25 #[.slice A n c] w fun e w' => ∃ (vk vd : Value) (k : Con) (ds : List Int), e = .returned (.tuple #[vk, vd]) ∧ OwnCon w' w.heap.size vk k ∧ OwnI 3 w' w.heap.size vd ds ∧ Below w.heap.size w w' := by
  obtain ⟨wa, hwa⟩ : ∃ wa, wa = w.alloc (.cells #[.int .i64 0, .slice none 0 0, .slice none 0 0, .int .i64 0, .slice none 0 0] 29) := ⟨_, rfl⟩
  have hba : Below w.heap.size w wa := by rw [hwa]; exact b_alloc _ _
  have hza : wa.heap.size = w.heap.size + 1 := by rw [hwa, size_alloc_]
  have HT : Hid (TBlk 29 wa w.heap.size #[.int .i64 0, .slice none 0 0, .slice none 0 0, .int .i64 0, .slice none 0 0]) := by rw [hwa]; exact TBlk.new _ _ _
  have HN := newReader A n c bs wa ⟨SlA.on ByteC.keeps ByteC.widens h.1 hba, h.2⟩
  have HBA := Lib.hid hba
  clear h hba
  go_enter Try.func25, Try.ntmps25
  go_wp2_with fail
  rw [← hwa]
  clear hwa
  refine HN.mono ?_
  rintro e w1 ⟨g, m, c', bs', rfl, hr, hb1, hg⟩
  have hbase := hr.base_le
  have HT1 := Lib.hid (HT.out.below_ hb1 HT.out.lt)
  have hsz1 := hb1.size
  go_wp2_with fail
  refine (constraintAndDomains2 _ g m c' 0 A bs' w1 hr (by omega)).mono ?_
  rintro e w6 ⟨vk, vd, kc, ds, q, rfl, ⟨mid, hmid, hoc, hlow⟩, hsm, hod, hd1, hd4, hdr, hq, hr6, hb6⟩
  have hb16 := hb6.below hbase hb1.size
  have HB6 := Lib.hid ((bgo HBA.out hb1).trans (hb16.mono (by omega)))
  have HT6 := Lib.hid (HT1.out.butG hb6 (by omega))
  have hsz6 := hb6.size
  have hoc0 := hoc
  obtain ⟨vv', av', rv', rfl, k1, k2, k3⟩ := hoc
  obtain ⟨A1', c1', rfl, -⟩ := k1.read
  obtain ⟨A2', c2', rfl, -⟩ := k2.read
  obtain ⟨A3', c3', rfl, -⟩ := read2 k3
  obtain ⟨Ad, cd, rfl, -⟩ := hod.read
  obtain ⟨nd, hnd⟩ : ∃ nd, ds.length = nd := ⟨_, rfl⟩
  have hod1 := hod.1
  rw [hnd] at hod1 hd1 hd4 hlow
  rw [hnd]
  obtain ⟨gd, rfl, hgd1, hgd2⟩ := (HoldR.of_own hod1).pos (by omega)
  have hgm : gd < mid := hlow gd rfl
  have HND := Lib.hid hnd
  obtain ⟨wf, hwf⟩ : ∃ wf, wf = w6.alloc (.cells #[.int .i64 kc.kind, .slice A1' kc.vars.length c1', .slice A2' kc.args.length c2', .int .i64 kc.bound, .slice A3' kc.rows.length c3'] 29) := ⟨_, rfl⟩
  have hal : Below w6.heap.size w6 wf := by rw [hwf]; exact b_alloc _ _
  have hszf : wf.heap.size = w6.heap.size + 1 := by rw [hwf, size_alloc_]
  have HT5 : Hid (TBlk 29 wf w6.heap.size #[.int .i64 kc.kind, .slice A1' kc.vars.length c1', .slice A2' kc.args.length c2', .int .i64 kc.bound, .slice A3' kc.rows.length c3']) := by rw [hwf]; exact TBlk.new _ _ _
  have HC5 := Lib.hid (OwnCon.below hoc0 hal)
  have HD5 := Lib.hid (own_below hod1 hal)
  have HTF := Lib.hid (HT6.out.below_ hal HT6.out.lt)
  have HBF := Lib.hid (HB6.out.trans (hal.mono (by omega)))
  have HR5 := Lib.hid (hr6.under hal (by omega))
  have HR0 := Lib.hid hnd
  have FIN := Lib.hid (fun (W' : World) (ds' : List Int) (q1 : OwnCon W' mid (.agg #[.int .i64 kc.kind, .slice A1' kc.vars.length c1', .slice A2' kc.args.length c2', .int .i64 kc.bound, .slice A3' kc.rows.length c3']) kc) (q2 : OwnI 3 W' w.heap.size (.slice (some ⟨gd, 0, none⟩) nd cd) ds') (q3 : TBlk 29 W' w.heap.size #[.int .i64 0, .slice none 0 0, .slice none 0 0, .int .i64 0, .slice none 0 0]) (q4 : Below w.heap.size w W') (wz : World) (hz : wz = (((((W'.setCell ⟨w.heap.size, 0, none⟩ (.int .i64 kc.kind)).setCell ⟨w.heap.size, 1, none⟩ (.slice A1' kc.vars.length c1')).setCell ⟨w.heap.size, 2, none⟩ (.slice A2' kc.args.length c2')).setCell ⟨w.heap.size, 3, none⟩ (.int .i64 kc.bound)).setCell ⟨w.heap.size, 4, none⟩ (.slice A3' kc.rows.length c3'))) =>
    (show TBlk 29 wz w.heap.size #[.int .i64 kc.kind, .slice A1' kc.vars.length c1', .slice A2' kc.args.length c2', .int .i64 kc.bound, .slice A3' kc.rows.length c3'] ∧ OwnCon wz w.heap.size (.agg #[.int .i64 kc.kind, .slice A1' kc.vars.length c1', .slice A2' kc.args.length c2', .int .i64 kc.bound, .slice A3' kc.rows.length c3']) kc ∧ OwnI 3 wz w.heap.size (.slice (some ⟨gd, 0, none⟩) nd cd) ds' ∧ Below w.heap.size w wz from by
      obtain ⟨u1, u2⟩ := OwnCon.laid0 q1 q3 rfl hz
      exact ⟨u1, OwnCon.base_ u2 (by omega), OwnI.laid5 q2 q3 rfl hz, below_laid q4 (Nat.le_refl _) hz⟩))
  have HOI := Lib.hid (show ∀ (W' : World) (ds' : List Int), ds'.length = nd → W'.ownsRow w1.heap.size 3 1 (.slice (some ⟨gd, 0, none⟩) nd cd) nd (ds'.map (.int .i64)) → OwnI 3 W' w.heap.size (.slice (some ⟨gd, 0, none⟩) nd cd) ds' from fun W' ds' hl ho => (OwnI.stays 3).base _ _ _ _ _ (show w.heap.size ≤ w1.heap.size by omega) ⟨by rw [hl]; exact ho, by omega⟩)
  clear k1 k2 k3 hoc0 hod hod1 hlow hal hb6 hr6 hsm hdr hb16 hnd
  have b0 := HT5.out.at_ 0 rfl
  have b1 := HT5.out.at_ 1 rfl
  have b2 := HT5.out.at_ 2 rfl
  have b3 := HT5.out.at_ 3 rfl
  have b4 := HT5.out.at_ 4 rfl
  have y0 := HTF.out.at_ 0 rfl
  have y1 := HTF.out.at_ 1 rfl
  have y2 := HTF.out.at_ 2 rfl
  have y3 := HTF.out.at_ 3 rfl
  have y4 := HTF.out.at_ 4 rfl
  have f0 := HTF.out.frozen 0
  have f1 := HTF.out.frozen 1
  have f2 := HTF.out.frozen 2
  have f3 := HTF.out.frozen 3
  have f4 := HTF.out.frozen 4
  have hgl : g < w1.heap.size := hg
  go_wp2_with fail
  rw [← hwf]
  clear hwf
  have hIR : IntR wf wf.heap.size (some ⟨gd, 0, none⟩) nd ds := by
    obtain ⟨A', c'', e, h⟩ := IntR.of_hold (HoldR.of_own HD5.out) (by omega)
    injection e with e1 e2 e3
    subst e1
    exact h
  have HIR := Lib.hid hIR
  have HCR : Hid (ConR wf wf.heap.size [.int .i64 kc.kind, .slice A1' kc.vars.length c1', .slice A2' kc.args.length c2', .int .i64 kc.bound, .slice A3' kc.rows.length c3'] kc) := by
    obtain ⟨us, eus, h⟩ := HC5.out.read
    injection eus with eus
    have := congrArg Array.toList eus
    simp only at this
    rw [this]
    exact h
  clear hIR
  refine (svalidDomainsF (some ⟨gd, 0, none⟩) nd cd ds wf HIR.out).mono ?_
  rintro e w' ⟨rfl, rfl⟩
  cases t0 : dokF ds
  · clear t0
    obtain ⟨wz, hwz⟩ : ∃ wz, wz = (((((wf.setCell ⟨w.heap.size, 0, none⟩ (.int .i64 kc.kind)).setCell ⟨w.heap.size, 1, none⟩ (.slice A1' kc.vars.length c1')).setCell ⟨w.heap.size, 2, none⟩ (.slice A2' kc.args.length c2')).setCell ⟨w.heap.size, 3, none⟩ (.int .i64 kc.bound)).setCell ⟨w.heap.size, 4, none⟩ (.slice A3' kc.rows.length c3')) := ⟨_, rfl⟩
    have HFIN := Lib.hid (FIN.out wf ds HC5.out (HOI.out wf ds HND.out HD5.out) HTF.out HBF.out wz hwz)
    have HWZ := Lib.hid hwz
    clear hwz
    go_wp2_with fail
    rw [← HWZ.out]
    obtain ⟨ht5, ho, hdI, hbf⟩ := HFIN.out
    have t0 := ht5.at_ 0 rfl
    have t1 := ht5.at_ 1 rfl
    have t2 := ht5.at_ 2 rfl
    have t3 := ht5.at_ 3 rfl
    have t4 := ht5.at_ 4 rfl
    refine bodyPost_ret (v := .tuple #[.agg #[.int .i64 kc.kind, .slice A1' kc.vars.length c1', .slice A2' kc.args.length c2', .int .i64 kc.bound, .slice A3' kc.rows.length c3'], .slice (some ⟨gd, 0, none⟩) nd cd]) ?_ rfl ?_
    · simp [results, Try.results25, go_sem, t0, t1, t2, t3, t4]
    · exact ⟨_, _, _, _, rfl, ho, hdI, hbf⟩
  · obtain ⟨-, -, hdoms⟩ := dok_parts t0
    have HDM := Lib.hid hdoms
    clear t0 hdoms
    go_wp2_with fail
    refine (svalidConstraint _ kc nd wf HCR.out).mono ?_
    rintro e w7 ⟨rfl, hb7⟩
    clear b0 b1 b2 b3 b4 y0 y1 y2 y3 y4 f0 f1 f2 f3 f4
    have HC7 := Lib.hid (OwnCon.below HC5.out hb7)
    have HD7 := Lib.hid (own_below HD5.out hb7)
    have HT7 := Lib.hid (HT5.out.below_ hb7 HT5.out.lt)
    have HTF7 := Lib.hid (HTF.out.below_ hb7 HTF.out.lt)
    have HBF7 := Lib.hid (bgo HBF.out hb7)
    have HR7 := Lib.hid (HR5.out.under hb7 (by omega))
    have hsw7 := (hb7).size
    clear hb7
    have b0 := HT7.out.at_ 0 rfl
    have b1 := HT7.out.at_ 1 rfl
    have b2 := HT7.out.at_ 2 rfl
    have b3 := HT7.out.at_ 3 rfl
    have b4 := HT7.out.at_ 4 rfl
    have y0 := HTF7.out.at_ 0 rfl
    have y1 := HTF7.out.at_ 1 rfl
    have y2 := HTF7.out.at_ 2 rfl
    have y3 := HTF7.out.at_ 3 rfl
    have y4 := HTF7.out.at_ 4 rfl
    have f0 := HTF7.out.frozen 0
    have f1 := HTF7.out.frozen 1
    have f2 := HTF7.out.frozen 2
    have f3 := HTF7.out.frozen 3
    have f4 := HTF7.out.frozen 4
    cases t1 : vconF kc (nd : Int)
    · clear t1
      obtain ⟨wz, hwz⟩ : ∃ wz, wz = (((((w7.setCell ⟨w.heap.size, 0, none⟩ (.int .i64 kc.kind)).setCell ⟨w.heap.size, 1, none⟩ (.slice A1' kc.vars.length c1')).setCell ⟨w.heap.size, 2, none⟩ (.slice A2' kc.args.length c2')).setCell ⟨w.heap.size, 3, none⟩ (.int .i64 kc.bound)).setCell ⟨w.heap.size, 4, none⟩ (.slice A3' kc.rows.length c3')) := ⟨_, rfl⟩
      have HFIN := Lib.hid (FIN.out w7 ds HC7.out (HOI.out w7 ds HND.out HD7.out) HTF7.out HBF7.out wz hwz)
      have HWZ := Lib.hid hwz
      clear hwz
      go_wp2_with fail
      rw [← HWZ.out]
      obtain ⟨ht5, ho, hdI, hbf⟩ := HFIN.out
      have t0 := ht5.at_ 0 rfl
      have t1 := ht5.at_ 1 rfl
      have t2 := ht5.at_ 2 rfl
      have t3 := ht5.at_ 3 rfl
      have t4 := ht5.at_ 4 rfl
      refine bodyPost_ret (v := .tuple #[.agg #[.int .i64 kc.kind, .slice A1' kc.vars.length c1', .slice A2' kc.args.length c2', .int .i64 kc.bound, .slice A3' kc.rows.length c3'], .slice (some ⟨gd, 0, none⟩) nd cd]) ?_ rfl ?_
      · simp [results, Try.results25, go_sem, t0, t1, t2, t3, t4]
      · exact ⟨_, _, _, _, rfl, ho, hdI, hbf⟩
    · have HV := Lib.hid t1
      obtain ⟨hv1, hv2, -⟩ := vcon_vars t1 hd4
      have HV2 := Lib.hid hv2
      clear t1 hv2
      go_wp2_with fail
      refine (pick _ g m c' q A bs' 2 w7 HR7.out (by omega)).mono ?_
      rintro e w8 ⟨r, rfl, ⟨-, hr⟩, hr8, hb8⟩
      obtain ⟨r0, r1⟩ := hr (by omega)
      clear b0 b1 b2 b3 b4 y0 y1 y2 y3 y4 f0 f1 f2 f3 f4
      have HC8 := Lib.hid (OwnCon.butG_ HC7.out hb8 (by omega))
      have HD8 := Lib.hid (own_butG HD7.out hb8 (by omega))
      have HT8 := Lib.hid (HT7.out.butG hb8 (by omega))
      have HTF8 := Lib.hid (HTF7.out.butG hb8 (by omega))
      have HBF8 := Lib.hid (HBF7.out.trans ((hb8).below (show w.heap.size ≤ g by omega) (show w.heap.size ≤ w7.heap.size by omega)))
      have hsw8 := (hb8).size
      have HR8 := Lib.hid hr8
      clear hb8 hr8 hr
      have b0 := HT8.out.at_ 0 rfl
      have b1 := HT8.out.at_ 1 rfl
      have b2 := HT8.out.at_ 2 rfl
      have b3 := HT8.out.at_ 3 rfl
      have b4 := HT8.out.at_ 4 rfl
      have y0 := HTF8.out.at_ 0 rfl
      have y1 := HTF8.out.at_ 1 rfl
      have y2 := HTF8.out.at_ 2 rfl
      have y3 := HTF8.out.at_ 3 rfl
      have y4 := HTF8.out.at_ 4 rfl
      have f0 := HTF8.out.frozen 0
      have f1 := HTF8.out.frozen 1
      have f2 := HTF8.out.frozen 2
      have f3 := HTF8.out.frozen 3
      have f4 := HTF8.out.frozen 4
      by_cases hr0 : r = 0
      · subst hr0
        have HCR8 : Hid (ConR w8 w8.heap.size [.int .i64 kc.kind, .slice A1' kc.vars.length c1', .slice A2' kc.args.length c2', .int .i64 kc.bound, .slice A3' kc.rows.length c3'] kc) := by
          obtain ⟨us, eus, h⟩ := HC8.out.read
          injection eus with eus
          have := congrArg Array.toList eus
          simp only at this
          rw [this]
          exact h
        have HIR8 : Hid (IntR w8 w8.heap.size (some ⟨gd, 0, none⟩) nd ds) := by
          obtain ⟨A', c'', e, h⟩ := IntR.of_hold (HoldR.of_own HD8.out) (by omega)
          injection e with e1 e2 e3
          subst e1
          exact h
        go_wp2_with fail
        refine (stuples _ kc _ nd cd ds w8 HCR8.out HIR8.out HDM.out HV.out hd4).mono ?_
        rintro e w9 ⟨v, rfl, hF, hb9⟩
        clear b0 b1 b2 b3 b4 y0 y1 y2 y3 y4 f0 f1 f2 f3 f4
        have HC9 := Lib.hid (OwnCon.below HC8.out hb9)
        have HD9 := Lib.hid (own_below HD8.out hb9)
        have HT9 := Lib.hid (HT8.out.below_ hb9 HT8.out.lt)
        have HTF9 := Lib.hid (HTF8.out.below_ hb9 HTF8.out.lt)
        have HBF9 := Lib.hid (bgo HBF8.out hb9)
        have HR9 := Lib.hid (HR8.out.under hb9 (by omega))
        have hsw9 := (hb9).size
        have b0 := HT9.out.at_ 0 rfl
        have b1 := HT9.out.at_ 1 rfl
        have b2 := HT9.out.at_ 2 rfl
        have b3 := HT9.out.at_ 3 rfl
        have b4 := HT9.out.at_ 4 rfl
        have y0 := HTF9.out.at_ 0 rfl
        have y1 := HTF9.out.at_ 1 rfl
        have y2 := HTF9.out.at_ 2 rfl
        have y3 := HTF9.out.at_ 3 rfl
        have y4 := HTF9.out.at_ 4 rfl
        have f0 := HTF9.out.frozen 0
        have f1 := HTF9.out.frozen 1
        have f2 := HTF9.out.frozen 2
        have f3 := HTF9.out.frozen 3
        have f4 := HTF9.out.frozen 4
        obtain ⟨L, hL⟩ : ∃ L, (allT (wordF kc.vars ds)).filter (satF kc) = L := ⟨_, rfl⟩
        rw [hL] at hF
        have HL := Lib.hid (show ∀ t ∈ L, t.length = kc.vars.length ∧ ∀ y ∈ t, 0 ≤ y ∧ y ≤ 5 from fun t ht => by
          rw [← hL] at ht
          obtain ⟨h1, h2⟩ := sat_tup HV.out hd4 (List.mem_filter.1 ht).1
          exact ⟨h2, h1.val⟩)
        have HF := Lib.hid hF
        obtain ⟨AL, cL, rfl, -⟩ := FoundS.rowK hF
        clear hL hb9 hF
        by_cases hl0 : 0 < L.length
        · have hl0z : (0 : Int) < (L.length : Int) := by omega
          have hLn : L.length ≤ 9223372036854775807 := HF.out.choose_spec.2.2.1
          go_wp2_with fail
          refine (pick _ g m c' (q + 1) A bs' L.length w9 HR9.out (by omega)).mono ?_
          rintro e wA ⟨r, rfl, ⟨-, hr⟩, hrA, hbA⟩
          obtain ⟨r0, r1⟩ := hr (by omega)
          obtain ⟨ri, rfl⟩ := Int.eq_ofNat_of_zero_le r0
          clear b0 b1 b2 b3 b4 y0 y1 y2 y3 y4 f0 f1 f2 f3 f4
          have HCA := Lib.hid (OwnCon.butG_ HC9.out hbA (by omega))
          have HDA := Lib.hid (own_butG HD9.out hbA (by omega))
          have HTA := Lib.hid (HT9.out.butG hbA (by omega))
          have HTFA := Lib.hid (HTF9.out.butG hbA (by omega))
          have HBFA := Lib.hid (HBF9.out.trans ((hbA).below (show w.heap.size ≤ g by omega) (show w.heap.size ≤ w9.heap.size by omega)))
          have hswA := (hbA).size
          have hri : ri < L.length := by omega
          obtain ⟨x, hx⟩ : ∃ x, L[ri]? = some x := ⟨_, List.getElem?_eq_getElem hri⟩
          obtain ⟨hxl, hx5⟩ := HL.out x (List.mem_of_getElem? hx)
          obtain ⟨us, u1, u2, u3, u4⟩ := id HF.out
          have hu : us[ri]? = some us[ri] := List.getElem?_eq_getElem (by omega)
          have hxo := OwnI.butG (u4 ri _ _ hu hx) hbA (by omega)
          have hlo := own_butG u2 hbA (by omega)
          obtain ⟨gl, rfl, -⟩ := (HoldR.of_own hlo).pos hl0
          obtain ⟨Ax, cx, exx, hxr⟩ := hxo.read
          rw [exx] at hxo hu
          have lc := (HoldR.of_own hlo).cellAt ri (by omega)
          rw [hu] at lc
          have HXO := Lib.hid hxo
          have HX5 := Lib.hid hx5
          have HXL := Lib.hid hxl
          have b0 := HTA.out.at_ 0 rfl
          have b1 := HTA.out.at_ 1 rfl
          have b2 := HTA.out.at_ 2 rfl
          have b3 := HTA.out.at_ 3 rfl
          have b4 := HTA.out.at_ 4 rfl
          have y0 := HTFA.out.at_ 0 rfl
          have y1 := HTFA.out.at_ 1 rfl
          have y2 := HTFA.out.at_ 2 rfl
          have y3 := HTFA.out.at_ 3 rfl
          have y4 := HTFA.out.at_ 4 rfl
          have f0 := HTFA.out.frozen 0
          have f1 := HTFA.out.frozen 1
          have f2 := HTFA.out.frozen 2
          have f3 := HTFA.out.frozen 3
          have f4 := HTFA.out.frozen 4
          clear hx hx5 u1 u2 u3 u4 hu hxo hlo hbA hrA hr exx hxr
          go_wp2_with fail
          have hx1 : 0 < x.length := by rw [HXL.out]; omega
          obtain ⟨gx, rfl, hgx, -⟩ := (HoldR.of_own HXO.out.1).pos hx1
          obtain ⟨vv2, av2, rv2, ev, k1, k2, k3⟩ := id HCA.out
          injection ev with ev
          injection ev with ev
          injection ev with _ ev
          injection ev with ev1 ev
          subst ev1
          obtain ⟨gv, rfl, hgv, -⟩ := (HoldR.of_own k1.1).pos (by omega)
          have HVO := Lib.hid k1
          have hgd8 : gd < w8.heap.size := by omega
          clear k1 k2 k3 ev lc
          clear b0 b1 b2 b3 b4 y0 y1 y2 y3 y4 f0 f1 f2 f3 f4
          go_loopw [9] (fun t9 wr => ∃ (j : Nat) (ds' : List Int), j ≤ x.length ∧ t9 = .int .i64 j ∧ Hid (ds'.length = nd) ∧ Hid (wr.ownsRow w1.heap.size 3 1 (.slice (some ⟨gd, 0, none⟩) nd cd) nd (ds'.map (.int .i64))) ∧ Hid (OwnCon wr mid (.agg #[.int .i64 kc.kind, .slice (some ⟨gv, 0, none⟩) kc.vars.length c1', .slice A2' kc.args.length c2', .int .i64 kc.bound, .slice A3' kc.rows.length c3']) kc) ∧ Hid (OwnI 3 wr mid (.slice (some ⟨gv, 0, none⟩) kc.vars.length c1') kc.vars) ∧ Hid (OwnI 3 wr w8.heap.size (.slice (some ⟨gx, 0, none⟩) x.length cx) x) ∧ Hid (TBlk 29 wr w6.heap.size #[.int .i64 kc.kind, .slice (some ⟨gv, 0, none⟩) kc.vars.length c1', .slice A2' kc.args.length c2', .int .i64 kc.bound, .slice A3' kc.rows.length c3']) ∧ Hid (TBlk 29 wr w.heap.size #[.int .i64 0, .slice none 0 0, .slice none 0 0, .int .i64 0, .slice none 0 0]) ∧ Hid (Below w.heap.size w wr)) (fun t _ => x.length - (intOf t).toNat)
          case atStart => exact ⟨0, ds, by omega, rfl, HND, HDA, HCA, HVO, HXO, HTA, HTFA, HBFA⟩
          case round =>
            obtain ⟨j, ds', hj, rfl, hdl, hO, hC, hV, hX, hT, hTF, hB⟩ := hrel
            rename World => wr
            by_cases hjx : j < x.length
            · have hjv : j < kc.vars.length := by have := HXL.out; omega
              obtain ⟨vj, hvj⟩ : ∃ v, kc.vars[j]? = some v := ⟨_, List.getElem?_eq_getElem hjv⟩
              obtain ⟨hv0, hvn⟩ := HV2.out vj (List.mem_of_getElem? hvj)
              obtain ⟨vn, rfl⟩ := Int.eq_ofNat_of_zero_le hv0
              obtain ⟨xj, hxj⟩ : ∃ v, x[j]? = some v := ⟨_, List.getElem?_eq_getElem hjx⟩
              obtain ⟨hx0, hx55⟩ := HX5.out xj (List.mem_of_getElem? hxj)
              have cv := (HoldR.of_own hV.out.1).cellAt j (by omega)
              rw [List.getElem?_map, hvj] at cv
              simp only [Option.map_some] at cv
              have cxx := (HoldR.of_own hX.out.1).cellAt j (by omega)
              rw [List.getElem?_map, hxj] at cxx
              simp only [Option.map_some] at cxx
              have hvnd : vn < nd := by omega
              obtain ⟨dz, hdz⟩ : ∃ z, ds'[vn]? = some z := ⟨_, List.getElem?_eq_getElem (by rw [hdl.out]; exact hvnd)⟩
              have cdd := (HoldR.of_own hO.out).cellAt vn (by omega)
              rw [List.getElem?_map, hdz] at cdd
              simp only [Option.map_some] at cdd
              have fdd := (HoldR.of_own hO.out).frozenAt vn
              have b1 := hT.out.at_ 1 rfl
              have hg6 : w6.heap.size ≠ gd := by omega
              have hS0 : (wr.drew.cell? ⟨w6.heap.size, 1, none⟩ = some (.slice (some ⟨gv, 0, none⟩) kc.vars.length c1') ∧ wr.drew.cell? ⟨gv, j, none⟩ = some (.int .i64 (vn : Int)) ∧ wr.drew.cell? ⟨gx, j, none⟩ = some (.int .i64 xj)) := ⟨b1, cv, cxx⟩
              have HG := Lib.hid (fun (y : Int) => (show ButG gd wr.heap.size wr (wr.drew.setCell ⟨gd, vn, none⟩ (.int .i64 y)) from (below_butG (below_drewN (Below.refl _ _) 1) gd).go (ButG.set gd wr.drew.heap.size vn wr.drew _)))
              have hSy : ∀ y : Int, ((wr.drew.setCell ⟨gd, vn, none⟩ (.int .i64 y)).cell? ⟨w6.heap.size, 1, none⟩ = some (.slice (some ⟨gv, 0, none⟩) kc.vars.length c1') ∧ (wr.drew.setCell ⟨gd, vn, none⟩ (.int .i64 y)).cell? ⟨gv, j, none⟩ = some (.int .i64 (vn : Int)) ∧ (wr.drew.setCell ⟨gd, vn, none⟩ (.int .i64 y)).cell? ⟨gx, j, none⟩ = some (.int .i64 xj)) := fun y => by
                refine ⟨(hT.out.butG (HG.out y) hg6).at_ 1 rfl, ?_, ?_⟩
                · have := (HoldR.of_own (own_butG hV.out.1 (HG.out y) hgm)).cellAt j (by omega)
                  rw [List.getElem?_map, hvj] at this
                  exact this
                · have := (HoldR.of_own (own_butG hX.out.1 (HG.out y) hgd8)).cellAt j (by omega)
                  rw [List.getElem?_map, hxj] at this
                  exact this
              have HREL := Lib.hid (fun (y : Int) => (show Hid ((ds'.set vn y).length = nd) ∧ Hid ((wr.drew.setCell ⟨gd, vn, none⟩ (.int .i64 y)).ownsRow w1.heap.size 3 1 (.slice (some ⟨gd, 0, none⟩) nd cd) nd ((ds'.set vn y).map (.int .i64))) ∧ Hid (OwnCon (wr.drew.setCell ⟨gd, vn, none⟩ (.int .i64 y)) mid (.agg #[.int .i64 kc.kind, .slice (some ⟨gv, 0, none⟩) kc.vars.length c1', .slice A2' kc.args.length c2', .int .i64 kc.bound, .slice A3' kc.rows.length c3']) kc) ∧ Hid (OwnI 3 (wr.drew.setCell ⟨gd, vn, none⟩ (.int .i64 y)) mid (.slice (some ⟨gv, 0, none⟩) kc.vars.length c1') kc.vars) ∧ Hid (OwnI 3 (wr.drew.setCell ⟨gd, vn, none⟩ (.int .i64 y)) w8.heap.size (.slice (some ⟨gx, 0, none⟩) x.length cx) x) ∧ Hid (TBlk 29 (wr.drew.setCell ⟨gd, vn, none⟩ (.int .i64 y)) w6.heap.size #[.int .i64 kc.kind, .slice (some ⟨gv, 0, none⟩) kc.vars.length c1', .slice A2' kc.args.length c2', .int .i64 kc.bound, .slice A3' kc.rows.length c3']) ∧ Hid (TBlk 29 (wr.drew.setCell ⟨gd, vn, none⟩ (.int .i64 y)) w.heap.size #[.int .i64 0, .slice none 0 0, .slice none 0 0, .int .i64 0, .slice none 0 0]) ∧ Hid (Below w.heap.size w (wr.drew.setCell ⟨gd, vn, none⟩ (.int .i64 y))) from
                ⟨Lib.hid (by rw [List.length_set]; exact hdl.out), Lib.hid (by
                  have h1 := ((own_below hO.out (below_drewN (Below.refl _ _) 1 : Below wr.heap.size wr wr.drew)).stored vn (.int .i64 y)).1
                  rw [← List.map_set] at h1
                  exact h1), Lib.hid (OwnCon.butG_ hC.out (HG.out y) hgm), Lib.hid (OwnI.butG hV.out (HG.out y) hgm), Lib.hid (OwnI.butG hX.out (HG.out y) hgd8), Lib.hid (hT.out.butG (HG.out y) hg6), Lib.hid (hTF.out.butG (HG.out y) (by omega)), Lib.hid (hB.out.trans ((HG.out y).below (show w.heap.size ≤ gd by omega) (show w.heap.size ≤ wr.heap.size from hB.out.size)))⟩))
              clear hvj hxj hdz hC hV hX hT hTF
              go_wp2_with fail
              go_region_held3 (fun w' => w'.cell? ⟨w6.heap.size, 1, none⟩ = some (.slice (some ⟨gv, 0, none⟩) kc.vars.length c1') ∧ w'.cell? ⟨gv, j, none⟩ = some (.int .i64 (vn : Int)) ∧ w'.cell? ⟨gx, j, none⟩ = some (.int .i64 xj))
                (first | with_reducible exact hS0 | exact hSy _)
                (fail)
              go_wp2_with fail
              go_roundw
              case rel => exact ⟨j + 1, _, by omega, by go_num, HREL.out _⟩
              case measure => simp [intOf]; omega
            · obtain rfl : j = x.length := by omega
              have b0 := hT.out.at_ 0 rfl
              have b1 := hT.out.at_ 1 rfl
              have b2 := hT.out.at_ 2 rfl
              have b3 := hT.out.at_ 3 rfl
              have b4 := hT.out.at_ 4 rfl
              have y0 := hTF.out.at_ 0 rfl
              have y1 := hTF.out.at_ 1 rfl
              have y2 := hTF.out.at_ 2 rfl
              have y3 := hTF.out.at_ 3 rfl
              have y4 := hTF.out.at_ 4 rfl
              have f0 := hTF.out.frozen 0
              have f1 := hTF.out.frozen 1
              have f2 := hTF.out.frozen 2
              have f3 := hTF.out.frozen 3
              have f4 := hTF.out.frozen 4
              obtain ⟨wz, hwz⟩ : ∃ wz, wz = (((((wr.setCell ⟨w.heap.size, 0, none⟩ (.int .i64 kc.kind)).setCell ⟨w.heap.size, 1, none⟩ (.slice (some ⟨gv, 0, none⟩) kc.vars.length c1')).setCell ⟨w.heap.size, 2, none⟩ (.slice A2' kc.args.length c2')).setCell ⟨w.heap.size, 3, none⟩ (.int .i64 kc.bound)).setCell ⟨w.heap.size, 4, none⟩ (.slice A3' kc.rows.length c3')) := ⟨_, rfl⟩
              have HFIN := Lib.hid (FIN.out wr ds' hC.out (HOI.out wr ds' hdl.out hO.out) hTF.out hB.out wz hwz)
              have HWZ := Lib.hid hwz
              clear hwz
              go_wp2_with fail
              rw [← HWZ.out]
              obtain ⟨ht5, ho, hdI, hbf⟩ := HFIN.out
              have t0 := ht5.at_ 0 rfl
              have t1 := ht5.at_ 1 rfl
              have t2 := ht5.at_ 2 rfl
              have t3 := ht5.at_ 3 rfl
              have t4 := ht5.at_ 4 rfl
              refine bodyPost_ret (v := .tuple #[.agg #[.int .i64 kc.kind, .slice (some ⟨gv, 0, none⟩) kc.vars.length c1', .slice A2' kc.args.length c2', .int .i64 kc.bound, .slice A3' kc.rows.length c3'], .slice (some ⟨gd, 0, none⟩) nd cd]) ?_ rfl ?_
              · simp [results, Try.results25, go_sem, t0, t1, t2, t3, t4]
              · exact ⟨_, _, _, _, rfl, ho, hdI, hbf⟩
        · have hl0z : ¬ (0 : Int) < (L.length : Int) := by omega
          obtain ⟨wz, hwz⟩ : ∃ wz, wz = (((((w9.setCell ⟨w.heap.size, 0, none⟩ (.int .i64 kc.kind)).setCell ⟨w.heap.size, 1, none⟩ (.slice A1' kc.vars.length c1')).setCell ⟨w.heap.size, 2, none⟩ (.slice A2' kc.args.length c2')).setCell ⟨w.heap.size, 3, none⟩ (.int .i64 kc.bound)).setCell ⟨w.heap.size, 4, none⟩ (.slice A3' kc.rows.length c3')) := ⟨_, rfl⟩
          have HFIN := Lib.hid (FIN.out w9 ds HC9.out (HOI.out w9 ds HND.out HD9.out) HTF9.out HBF9.out wz hwz)
          have HWZ := Lib.hid hwz
          clear hwz
          go_wp2_with fail
          rw [← HWZ.out]
          obtain ⟨ht5, ho, hdI, hbf⟩ := HFIN.out
          have t0 := ht5.at_ 0 rfl
          have t1 := ht5.at_ 1 rfl
          have t2 := ht5.at_ 2 rfl
          have t3 := ht5.at_ 3 rfl
          have t4 := ht5.at_ 4 rfl
          refine bodyPost_ret (v := .tuple #[.agg #[.int .i64 kc.kind, .slice A1' kc.vars.length c1', .slice A2' kc.args.length c2', .int .i64 kc.bound, .slice A3' kc.rows.length c3'], .slice (some ⟨gd, 0, none⟩) nd cd]) ?_ rfl ?_
          · simp [results, Try.results25, go_sem, t0, t1, t2, t3, t4]
          · exact ⟨_, _, _, _, rfl, ho, hdI, hbf⟩
      · have hr0z : (r == 0) = false := by simpa using hr0
        obtain ⟨wz, hwz⟩ : ∃ wz, wz = (((((w8.setCell ⟨w.heap.size, 0, none⟩ (.int .i64 kc.kind)).setCell ⟨w.heap.size, 1, none⟩ (.slice A1' kc.vars.length c1')).setCell ⟨w.heap.size, 2, none⟩ (.slice A2' kc.args.length c2')).setCell ⟨w.heap.size, 3, none⟩ (.int .i64 kc.bound)).setCell ⟨w.heap.size, 4, none⟩ (.slice A3' kc.rows.length c3')) := ⟨_, rfl⟩
        have HFIN := Lib.hid (FIN.out w8 ds HC8.out (HOI.out w8 ds HND.out HD8.out) HTF8.out HBF8.out wz hwz)
        have HWZ := Lib.hid hwz
        clear hwz
        go_wp2_with fail
        rw [← HWZ.out]
        obtain ⟨ht5, ho, hdI, hbf⟩ := HFIN.out
        have t0 := ht5.at_ 0 rfl
        have t1 := ht5.at_ 1 rfl
        have t2 := ht5.at_ 2 rfl
        have t3 := ht5.at_ 3 rfl
        have t4 := ht5.at_ 4 rfl
        refine bodyPost_ret (v := .tuple #[.agg #[.int .i64 kc.kind, .slice A1' kc.vars.length c1', .slice A2' kc.args.length c2', .int .i64 kc.bound, .slice A3' kc.rows.length c3'], .slice (some ⟨gd, 0, none⟩) nd cd]) ?_ rfl ?_
        · simp [results, Try.results25, go_sem, t0, t1, t2, t3, t4]
        · exact ⟨_, _, _, _, rfl, ho, hdI, hbf⟩
end Go.Proofs.Ytfmdgdamelkelaa
/- An entailed constraint has a full diagram: plain counts. No program in sight. -/
namespace Go.Proofs.Ytfmdgdamelkelaa
set_option linter.unusedVariables false
set_option maxRecDepth 100000

theorem flat_const {α β : Type} (f : α → List β) (m : Nat) : ∀ l : List α, (∀ x ∈ l, (f x).length = m) → (l.flatMap f).length = l.length * m
  | [], _ => by simp
  | x :: l, h => by
    rw [List.flatMap_cons, List.length_append, h x (by simp), flat_const f m l (fun y hy => h y (by simp [hy])), List.length_cons, Nat.succ_mul]
    omega
theorem allT_cons (d : Int) (ds : List Int) : (allT (d :: ds)).length = (valsTo d 6).length * (allT ds).length := by
  rw [allT, flat_const _ (allT ds).length _ (fun x _ => by rw [List.length_map])]
/-- the product of the first i sizes. -/
def preD (ws : List Int) : Nat → Int
  | 0 => 1
  | i + 1 => preD ws i * dsF (gat ws i)
theorem ds_val {d : Int} (h : 0 ≤ d ∧ d ≤ 63) : dsF d = ((valsTo d 6).length : Int) := by
  unfold dsF
  have hv : vdB d = true := inB_mk ⟨h.1, h.2⟩
  rw [hv]
  rfl
theorem ds_val6 {d : Int} (h : 0 ≤ d ∧ d ≤ 63) : 0 ≤ dsF d ∧ dsF d ≤ 6 := by
  rw [ds_val h]
  have := valsTo_len d 6
  omega
theorem preD_all (ws : List Int) (h : Doms ws) : ∀ m i, i + m = ws.length → preD ws i * ((allT (ws.drop i)).length : Int) = preD ws ws.length
  | 0, i, hi => by
    have e : i = ws.length := by omega
    rw [e, List.drop_length]
    simp [allT]
  | m + 1, i, hi => by
    have hil : i < ws.length := by omega
    rw [List.drop_eq_getElem_cons hil, allT_cons, ← preD_all ws h m (i + 1) (by omega), preD]
    have hg : gat ws i = ws[i] := gat_eq (List.getElem?_eq_getElem hil)
    rw [hg, ds_val (h _ (List.getElem_mem hil)), Int.natCast_mul, Int.mul_assoc]
theorem preD_bd (ws : List Int) (h : Doms ws) : ∀ i, i ≤ ws.length → 0 ≤ preD ws i ∧ preD ws i ≤ 6 ^ i
  | 0, _ => by simp [preD]
  | i + 1, hi => by
    obtain ⟨h0, h1⟩ := preD_bd ws h i (by omega)
    have hg : gat ws i = ws[i] := gat_eq (List.getElem?_eq_getElem (by omega))
    obtain ⟨k0, k1⟩ := ds_val6 (h _ (List.getElem_mem (show i < ws.length by omega)))
    rw [preD, hg, Int.pow_succ]
    exact ⟨Int.mul_nonneg h0 k0, Int.mul_le_mul h1 k1 k0 (Int.le_trans h0 h1)⟩
theorem preD_small {ws : List Int} (h : Doms ws) {i : Nat} (hi : i ≤ ws.length) (h4 : i ≤ 4) : 0 ≤ preD ws i ∧ preD ws i ≤ 1296 := by
  obtain ⟨h0, h1⟩ := preD_bd ws h i hi
  refine ⟨h0, Int.le_trans h1 ?_⟩
  match i, h4 with
  | 0, _ => decide
  | 1, _ => decide
  | 2, _ => decide
  | 3, _ => decide
  | 4, _ => decide
theorem ent_full {c : Con} {ds : List Int} (h : ientF c ds = true) : (preD (wordF c.vars ds) c.vars.length = 0 → bdgF c ds = []) ∧ (0 < preD (wordF c.vars ds) c.vars.length → bdgF c ds ≠ [] ∧ dcF (bdgF c ds) = preD (wordF c.vars ds) c.vars.length) := by
  unfold ientF at h
  simp only [Bool.and_eq_true] at h
  obtain ⟨h1, h2, h3⟩ := h
  obtain ⟨-, hl4, hdm⟩ := dok_parts h1
  obtain ⟨hv1, hv2, -⟩ := vcon_vars h2 hl4
  have hwd : Doms (wordF c.vars ds) := word_doms hv2 hdm
  have hn := preD_all (wordF c.vars ds) hwd (wordF c.vars ds).length 0 (by omega)
  have hp0 : preD (wordF c.vars ds) 0 = 1 := rfl
  rw [List.drop_zero, hp0, Int.one_mul, wordF_len] at hn
  have hall : allF c ds = allT (wordF c.vars ds) := by
    rw [← allF_eq]
    refine List.filter_eq_self.2 fun t ht => ?_
    unfold entF at h3
    exact List.all_eq_true.1 h3 t ht
  rw [← hn]
  refine ⟨fun h0 => bdg_nil ?_, fun h0 => ?_⟩
  · rw [hall]
    exact List.eq_nil_of_length_eq_zero (by omega)
  · have hne : allF c ds ≠ [] := fun e => by
      rw [hall] at e
      rw [e] at h0
      simp at h0
    have hb : bdgF c ds = bdL c.vars.length [allF c ds] := by
      unfold bdgF
      rw [h1, h2, Bool.and_self, if_pos rfl, if_neg hne]
    have hlay := allF_lay (c := c) (ds := ds) (by omega) hne
    refine ⟨fun e => ?_, ?_⟩
    · have := bd_len c.vars.length [allF c ds]
      rw [← hb, e] at this
      simp at this
      omega
    · unfold dcF
      rw [hb, bd_vdg hv1.1 (by omega) hlay, if_pos rfl]
      refine cntAt_of ?_
      rw [List.drop_zero, bd_cnt _ _ hlay, hall]
      rfl
theorem gat_word {vars ds : List Int} {i : Nat} {v : Int} (h : vars[i]? = some v) : gat (wordF vars ds) i = gat ds v.toNat := gat_eq (wordF_at h)
end Go.Proofs.Ytfmdgdamelkelaa
/- The result of impl's BuildDiagram: how it reads, and where its numbers lie. -/
namespace Go.Proofs.Ytfmdgdamelkelaa
open Go.ChangeShapes Go.WideShapes Go.ChangeAt Go.RowKit
open Go.Shelf
set_option linter.unusedVariables false
set_option maxRecDepth 100000

theorem hold_heap {w : World} {base n m c : Nat} {e : TypeId} {A : Option Addr} {xs : List Value} (h : HoldR w base e 1 (.slice A n c) m xs) : (n = 0 ∧ m = 0) ∨ ∃ (g : Nat) (cur : Array Value), A = some ⟨g, 0, none⟩ ∧ n = m ∧ base ≤ g ∧ g < w.heap.size ∧ w.heap[g]? = some (.cells cur e (0, 0)) ∧ ∀ j, j < m → cur[j]? = xs[j]? := by
  rcases h.2 with ⟨h1, h2⟩ | ⟨g, cap, cur, hv, hg, hh, hcap, hmax, ht⟩
  · injection h1 with _ e1 _
    exact .inl ⟨e1, h2⟩
  · injection hv with e1 e2 e3
    refine .inr ⟨g, cur, e1, e2, hg, (Array.getElem?_eq_some_iff.1 hh).1, hh, fun j hj => ?_⟩
    rw [← ht, List.getElem?_take, if_pos (by omega), Array.getElem?_toList]
theorem hold_slr {α : Type} {R : World → Nat → Value → α → Prop} {W : World} {lo : Nat} {e : TypeId} {v : Value} {xs : List α} {us : List Value} (h : HoldR W lo e 1 v xs.length us) (hl : xs.length ≤ 9223372036854775807) (hR : ∀ (i : Nat) u x, us[i]? = some u → xs[i]? = some x → R W W.heap.size u x) : RowC R W W.heap.size v xs := by
  have hul : us.length = xs.length := by have := h.1; omega
  obtain ⟨A, c, rfl⟩ := h.form
  refine ⟨A, c, rfl, rfl, hl, fun hn => ?_⟩
  rcases hold_heap h with ⟨e1, -⟩ | ⟨g, cur, rfl, -, -, hg, hh, hc⟩
  · omega
  · refine ⟨g, 0, rfl, hg, fun k x hx => ?_⟩
    have hk : k < xs.length := (List.getElem?_eq_some_iff.1 hx).1
    have hu : us[k]? = some us[k] := List.getElem?_eq_getElem (by omega)
    exact ⟨us[k], by rw [Nat.zero_add, cell_of_row W g k cur e _ hh, hc k hk, hu], hR k _ _ hu hx⟩
theorem DgHR.lays {W : World} {lo : Nat} {v : Value} {d : List (List (List Int))} (h : DgHR W lo v d) : RowC (RowC (RowC IntC)) W W.heap.size v d := by
  obtain ⟨gss, us, h1, ⟨h2, h3, h4⟩, h5, h6⟩ := h
  refine hold_slr h1 (by omega) (fun i u es hu he => ?_)
  have hi : i < d.length := (List.getElem?_eq_some_iff.1 he).1
  obtain ⟨rs, k1, ⟨k2, k3, k4⟩, k5⟩ := h4 i u es gss[i] hu he (List.getElem?_eq_getElem (by omega))
  refine hold_slr k1 (by omega) (fun j r x hr hx => ?_)
  have hj : j < es.length := (List.getElem?_eq_some_iff.1 hx).1
  obtain ⟨m1, m2⟩ := k4 j r x gss[i][j] hr hx (List.getElem?_eq_getElem (by omega))
  by_cases hxl : x.length ≤ 9223372036854775807
  · refine hold_slr m1 hxl (fun q u z hq hz => ?_)
    rw [List.getElem?_map, hz] at hq
    simp at hq
    exact hq.symm
  · exfalso
    rcases m1.2 with ⟨-, h0⟩ | ⟨g, cap, cur, -, -, -, hc, hm, -⟩
    · omega
    · unfold maxLen at hm; omega
theorem DgHR.same {W W' : World} {lo : Nat} {v : Value} {d : List (List (List Int))} (h : DgHR W lo v d) (hb : ∀ g, lo ≤ g → g < W.heap.size → W'.heap[g]? = W.heap[g]?) : DgHR W' lo v d := by
  obtain ⟨gss, us, h1, ⟨h2, h3, h4⟩, h5⟩ := h
  refine ⟨gss, us, h1.same fun g hg hlt => hb g (h1.geBase hg) hlt, ⟨h2, h3, fun i u es gs hu he hg => ?_⟩, h5⟩
  obtain ⟨rs, k1, k2, k3⟩ := h4 i u es gs hu he hg
  exact ⟨rs, k1.same fun g hg hlt => hb g (k1.geBase hg) hlt, k2.same fun g hg hlt => hb g (k2.lt g hg).1 hlt, k3⟩
theorem si_hold {W : World} {lo n g c : Nat} {A : Option Addr} {x : List Int} (h : HoldR W lo 3 1 (.slice A n c) x.length (x.map (.int .i64))) (hg : (Value.slice A n c).ownBlock = some g) (h6 : x.length = 6) : n = 6 ∧ SI lo W A n (seg g 6) := by
  rcases hold_heap h with ⟨-, h5⟩ | ⟨b, cur, rfl, e2, hb, hbw, hh, hc⟩
  · omega
  · injection hg with hg
    have hg' : b = g := hg
    subst hg'
    refine ⟨by omega, .inr ⟨b, cur, _, rfl, hb, hh, fun j hj => ?_, by rw [show n = 6 by omega]⟩⟩
    have hj' : j < x.length := by omega
    exact ⟨x[j], by rw [hc j (by omega), List.getElem?_map, List.getElem?_eq_getElem hj']; rfl⟩
theorem RowsH.sites {W : World} {lo n c : Nat} {A : Option Addr} {es : List (List Int)} {gs : List Nat} {rs : List Value} (h : RowsH W lo es gs rs) (h3 : HoldR W lo 22 1 (.slice A n c) es.length rs) (h6 : ∀ x ∈ es, x.length = 6) : n = es.length ∧ SRows lo W A n (gs.map (seg · 6)) := by
  obtain ⟨h1, h2, h5⟩ := h
  rcases hold_heap h3 with ⟨e1, e2⟩ | ⟨g, cur, rfl, e2, hb, hbw, hh, hc⟩
  · exact ⟨by omega, by rw [List.length_map]; omega, .inl e1⟩
  · refine ⟨e2, by rw [List.length_map]; omega, .inr ⟨g, cur, _, rfl, hh, fun j S hj => ?_⟩⟩
    rw [List.getElem?_map] at hj
    cases hgj : gs[j]? with
    | none => rw [hgj] at hj; simp at hj
    | some gg =>
      rw [hgj] at hj
      simp at hj
      subst hj
      have hjl : j < gs.length := (List.getElem?_eq_some_iff.1 hgj).1
      have k := h5 j rs[j] es[j] gg (List.getElem?_eq_getElem (by omega)) (List.getElem?_eq_getElem (by omega)) hgj
      obtain ⟨A', c', hv⟩ := k.1.form
      rw [hv] at k
      have q := si_hold k.1 k.2 (h6 _ (List.getElem_mem (by omega)))
      exact ⟨A', _, c', by rw [hc j (by omega), List.getElem?_eq_getElem (by omega), hv], q.2⟩
theorem segs_len (gs : List Nat) : (gs.map (seg · 6)).flatten.length = 6 * gs.length := by
  induction gs with
  | nil => rfl
  | cons g gs ih => rw [List.map_cons, List.flatten_cons, List.length_append, seg_len, ih, List.length_cons]; omega
theorem flat_bd {gss : List (List Nat)} {M : Nat} (h : ∀ gs ∈ gss, gs.length ≤ M) : gss.flatten.length ≤ gss.length * M := by
  induction gss with
  | nil => simp
  | cons g gs ih =>
    rw [List.flatten_cons, List.length_append, List.length_cons, Nat.succ_mul]
    have := h g (by simp)
    have := ih (fun x hx => h x (by simp [hx]))
    omega
theorem DgHR.sites {W : World} {lo n c : Nat} {A : Option Addr} {d : List (List (List Int))} (h : DgHR W lo (.slice A n c) d) (hs : DgSh d) : ∃ (Sss : List (List (List (Nat × Nat)))) (Ss : List (List (Nat × Nat))), Sss.map List.flatten = Ss ∧ SLays lo W A n Sss ∧ Ss.flatten.Nodup ∧ Ss.flatten.length ≤ 120000 ∧ n ≤ 4 := by
  obtain ⟨gss, us, h3, ⟨h1, h2, h5⟩, hn, -⟩ := h
  have h6 := hs.2
  refine ⟨gss.map fun gs => gs.map (seg · 6), _, rfl, ?_, ?_, ?_, ?_⟩
  · rcases hold_heap h3 with ⟨e1, e2⟩ | ⟨g, cur, rfl, e2, hb, hbw, hh, hc⟩
    · exact ⟨by rw [List.length_map]; omega, .inl e1⟩
    · refine ⟨by rw [List.length_map]; omega, .inr ⟨g, cur, _, rfl, hh, fun j S hj => ?_⟩⟩
      rw [List.getElem?_map] at hj
      cases hgj : gss[j]? with
      | none => rw [hgj] at hj; simp at hj
      | some gg =>
        rw [hgj] at hj
        simp at hj
        subst hj
        have hjl : j < gss.length := (List.getElem?_eq_some_iff.1 hgj).1
        obtain ⟨rs, k1, k2, k3⟩ := h5 j us[j] d[j] gg (List.getElem?_eq_getElem (by omega)) (List.getElem?_eq_getElem (by omega)) hgj
        obtain ⟨A', c', hv⟩ := k1.form
        rw [hv] at k1
        have hm := h6 _ (List.getElem_mem (show j < d.length by omega))
        have q := k2.sites k1 hm.2.2
        exact ⟨A', _, c', by rw [hc j (by omega), List.getElem?_eq_getElem (by omega), hv], by omega, q.2⟩
  · rw [sites_eq]; exact segs_nodup hn
  · rw [sites_eq, segs_len]
    have h7 := flat_bd (gss := gss) (M := 5000) (fun gs hgs => by
      obtain ⟨i, hi, e⟩ := List.getElem_of_mem hgs
      obtain ⟨rs, -, ⟨k2, -, -⟩, -⟩ := h5 i us[i] d[i] gs (List.getElem?_eq_getElem (by omega)) (List.getElem?_eq_getElem (by omega)) (by rw [List.getElem?_eq_getElem hi, e])
      have := h6 _ (List.getElem_mem (show i < d.length by omega))
      omega)
    have h8 := hs.1
    have h9 : gss.length * 5000 ≤ 4 * 5000 := Nat.mul_le_mul_right _ (by omega)
    omega
  · have h8 := hs.1
    rcases hold_heap h3 with ⟨e1, e2⟩ | ⟨g, cur, -, e2, -⟩ <;> omega
end Go.Proofs.Ytfmdgdamelkelaa
