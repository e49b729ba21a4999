/- The program's WithConstraint and WithoutConstraint. -/
import Derived.Test.YtejfnkbdmlijbaaDelC
import Derived.Test.YtejfnkbdmlijbaaWithS
namespace Go.Proofs.Ytejfnkbdmlijbaa
open Go.ChangeShapes Go.WideShapes Go.ChangeAt Go.RowKit
open Go.Shelf
set_option linter.unusedVariables false
set_option maxRecDepth 100000

/-- The cells of constraints that lie in a row. -/
def FlatC (w : World) (B : Nat) (uss : List (List Value)) (xs : List Con) : Prop := uss.length = xs.length ∧ (∀ u ∈ uss, u.length = 5) ∧ ∀ (i : Nat) u x, uss[i]? = some u → xs[i]? = some x → ConR w B u x
theorem flat_take5 {uss : List (List Value)} (h : ∀ u ∈ uss, u.length = 5) (j : Nat) : uss.flatten.take (j * 5) = (uss.take j).flatten := by
  induction uss generalizing j with
  | nil => simp
  | cons u uss ih =>
    cases j with
    | zero => simp
    | succ j =>
      have hu := h u (by simp)
      rw [List.flatten_cons, List.take_succ_cons, List.flatten_cons, ← ih (fun v hv => h v (by simp [hv])) j, Nat.succ_mul, List.take_append, hu, List.take_of_length_le (by omega), Nat.add_sub_cancel]
theorem flat_drop5 {uss : List (List Value)} (h : ∀ u ∈ uss, u.length = 5) (j : Nat) : uss.flatten.drop (j * 5) = (uss.drop j).flatten := by
  induction uss generalizing j with
  | nil => simp
  | cons u uss ih =>
    cases j with
    | zero => simp
    | succ j =>
      have hu := h u (by simp)
      rw [List.flatten_cons, List.drop_succ_cons, ← ih (fun v hv => h v (by simp [hv])) j, Nat.succ_mul, List.drop_append, hu, List.drop_of_length_le (by omega), Nat.add_sub_cancel, List.nil_append]
section
variable {w w' : World} {B B' n : Nat} {uss : List (List Value)} {xs : List Con}
theorem FlatC.one (h : FlatC w B uss xs) : ∀ u ∈ uss.flatten, u.oneCell' = true := by
  intro u hu
  obtain ⟨us, h1, h2⟩ := List.mem_flatten.1 hu
  obtain ⟨i, hi⟩ := List.mem_iff_getElem?.1 h1
  have hl := (List.getElem?_eq_some_iff.1 hi).1
  have hx : xs[i]? = some (xs[i]'(by rw [← h.1]; exact hl)) := List.getElem?_eq_getElem _
  obtain ⟨va, aa, ra, cv, ca, cr, e, -⟩ := h.2.2 i us _ hi hx
  rw [e] at h2
  simp at h2
  rcases h2 with rfl | rfl | rfl | rfl | rfl <;> rfl
theorem FlatC.keep (h : FlatC w B uss xs) (hk : ∀ p : Addr, p.block < B → w'.cell? p = w.cell? p) : FlatC w' B uss xs := ⟨h.1, h.2.1, fun i u x hu hx => ConR.keeps _ _ _ _ _ hk (h.2.2 i u x hu hx)⟩
theorem FlatC.more (h : FlatC w B uss xs) (hB : B ≤ B') : FlatC w B' uss xs := ⟨h.1, h.2.1, fun i u x hu hx => ConR.widens _ _ _ _ _ hB (h.2.2 i u x hu hx)⟩
theorem FlatC.snoc {u : List Value} {x : Con} (h : FlatC w B uss xs) (hx : ConR w B u x) : FlatC w B (uss ++ [u]) (xs ++ [x]) := by
  obtain ⟨va, aa, ra, cv, ca, cr, e, -⟩ := id hx
  refine ⟨by simp [h.1], fun v hv => ?_, fun i v y hv hy => ?_⟩
  · rcases List.mem_append.1 hv with h' | h'
    · exact h.2.1 v h'
    · rw [List.mem_singleton.1 h', e]; rfl
  · rcases Nat.lt_or_ge i uss.length with hi | hi
    · rw [List.getElem?_append_left hi] at hv
      rw [List.getElem?_append_left (by rw [← h.1]; exact hi)] at hy
      exact h.2.2 i v y hv hy
    · rw [List.getElem?_append_right hi] at hv
      rw [List.getElem?_append_right (by rw [← h.1]; exact hi), ← h.1] at hy
      have hi2 : i - uss.length = 0 := by
        have := (List.getElem?_eq_some_iff.1 hv).1
        simp at this; omega
      rw [hi2] at hv hy
      simp at hv hy
      rw [← hv, ← hy]; exact hx
theorem FlatC.erase (h : FlatC w B uss xs) (j : Nat) : FlatC w B (uss.eraseIdx j) (xs.eraseIdx j) := by
  refine ⟨?_, fun v hv => h.2.1 v (List.mem_of_mem_eraseIdx hv), fun i v y hv hy => ?_⟩
  · rw [List.length_eraseIdx, List.length_eraseIdx, h.1]
  · rw [List.getElem?_eraseIdx] at hv hy
    by_cases hi : i < j
    · rw [if_pos hi] at hv hy; exact h.2.2 i v y hv hy
    · rw [if_neg hi] at hv hy; exact h.2.2 (i + 1) v y hv hy
theorem FlatC.cut (h : FlatC w B uss xs) (j : Nat) : uss.flatten.take (j * 5) ++ uss.flatten.drop ((j + 1) * 5) = (uss.eraseIdx j).flatten := by
  rw [flat_take5 h.2.1, flat_drop5 h.2.1, List.eraseIdx_eq_take_drop_succ, List.flatten_append]
theorem FlatC.of {A : Option Addr} (h : ConsR w B A n xs) : ∃ uss, FlatC w B uss xs ∧ (∀ a, A = some a → ∀ t u, uss.flatten[t]? = some u → w.cell? (a.add t) = some u) ∧ (A = none → n = 0) := by
  rcases Nat.eq_zero_or_pos n with h0 | h0
  · have hx : xs = [] := List.eq_nil_of_length_eq_zero (by rw [h.len, h0])
    exact ⟨[], ⟨by rw [hx]; rfl, fun u hu => by simp at hu, fun i u x hu => by simp at hu⟩, fun a _ t u hu => by simp at hu, fun _ => h0⟩
  · obtain ⟨b, o, e, hb, hc⟩ := h.2.2 h0
    obtain ⟨uss, hl, hq⟩ := list_of n (fun i us => ∃ x, xs[i]? = some x ∧ us.length = 5 ∧ (∀ j u, us[j]? = some u → w.cell? ⟨b, o + i * 5 + j, none⟩ = some u) ∧ ConR w B us x) (fun i hi => by
      obtain ⟨b', o', x, us, e', _, hx, hul, hcc, hr⟩ := h.at_ hi
      rw [e] at e'
      injection e' with e'
      injection e' with e1 e2 e3
      subst e1 e2
      exact ⟨us, x, hx, hul, hcc, hr⟩)
    have h5 : ∀ u ∈ uss, u.length = 5 := fun u hu => by
      obtain ⟨i, hi⟩ := List.mem_iff_getElem?.1 hu
      obtain ⟨x, -, h5, -⟩ := hq i u hi
      exact h5
    refine ⟨uss, ⟨by rw [hl, h.len], h5, fun i u x hu hx => ?_⟩, fun a ha t u hu => ?_, fun hn => by rw [hn] at e; cases e⟩
    · obtain ⟨y, hy, -, -, hr⟩ := hq i u hu
      rw [hx] at hy
      injection hy with hy
      rw [hy]; exact hr
    · rw [e] at ha
      injection ha with ha
      subst ha
      have ht := (List.getElem?_eq_some_iff.1 hu).1
      rw [flat_len h5, hl] at ht
      have hi : t / 5 < uss.length := by omega
      have hg : uss[t / 5]? = some uss[t / 5] := List.getElem?_eq_getElem hi
      obtain ⟨x, -, hul, hcc, -⟩ := hq _ _ hg
      have hj : t % 5 < uss[t / 5].length := by rw [hul]; omega
      have hf := flat_at h5 hg (List.getElem?_eq_getElem hj)
      rw [show t / 5 * 5 + t % 5 = t by omega, hu] at hf
      have := hcc (t % 5) _ (List.getElem?_eq_getElem hj)
      rw [show o + t / 5 * 5 + t % 5 = o + t by omega] at this
      rw [Addr.add_lit, this]
      exact hf.symm
theorem FlatC.row {g : Nat} (h : FlatC w B uss xs) (hB : B ≤ B') (hc : ∀ t u, uss.flatten[t]? = some u → w.cell? ⟨g, t, none⟩ = some u) (hg : g < B') (hn : xs.length ≤ 9223372036854775807) : ConsR w B' (some ⟨g, 0, none⟩) xs.length xs := by
  refine ⟨rfl, hn, fun h0 => ⟨_, _, rfl, hg, fun i x hx => ?_⟩⟩
  have hi : i < uss.length := by rw [h.1]; exact (List.getElem?_eq_some_iff.1 hx).1
  have hu : uss[i]? = some uss[i] := List.getElem?_eq_getElem hi
  refine ⟨uss[i], h.2.1 _ (List.getElem_mem hi), fun j u hj => ?_, ConR.widens _ _ _ _ _ hB (h.2.2 i _ x hu hx)⟩
  rw [Nat.zero_add]
  exact hc _ _ (flat_at h.2.1 hu hj)
theorem FlatC.own {base : Nat} {v : Value} (h : FlatC w B uss xs) (hB : B ≤ w.heap.size) (ho : w.ownsRow base 35 5 v xs.length uss.flatten) (hn : xs.length ≤ 9223372036854775807) : ∃ A c, v = .slice A xs.length c ∧ ConsR w w.heap.size A xs.length xs ∧ xs.length ≤ c := by
  rcases ho.2 with ⟨rfl, h6⟩ | ⟨g, cap, cur, rfl, hg, hh, hcap, -⟩
  · exact ⟨none, 0, by rw [h6], ⟨rfl, hn, fun hn => absurd hn (by omega)⟩, by omega⟩
  · exact ⟨_, cap, rfl, h.row hB (fun t u hu => by have := ho.cells (g := g) rfl t u hu; rw [add_own] at this; exact this) (ho.lt g rfl).2 hn, hcap⟩
end
theorem TBlk.new2 (W : World) (o : Obj) (cs : Array Value) (t : TypeId) : TBlk t ((W.alloc o).alloc (.cells cs t)) (W.heap.size + 1) cs := by
  have := TBlk.new (W.alloc o) cs t
  rw [size_alloc_] at this
  exact this
theorem have_then {A B : Prop} (h : A) (k : A → B) : B := k h
theorem CMod.zero (w : World) (B : Nat) : CMod w B [.slice none 0 0, .slice none 0 0] ⟨[], []⟩ [] [] :=
  ⟨_, _, rfl, ⟨HoldR.nil _ _ _ _, by simp, rfl⟩, ⟨[], rfl, fun u hu => by simp at hu, World.ownsRow_nil _ _ _ _, by simp, fun i u x hu => by simp at hu⟩, rfl, by simp⟩
theorem addC_six {m : Mod} {x : Con} (h : vmodF (addC m x) = true) : (addC m x).cons.length ≤ 1048576 := by
  unfold vmodF at h
  simp at h
  omega
set_option maxHeartbeats 16000000 in
theorem iWith (us vs : List Value) (m : Mod) (x : Con) (w : World) (hm : ModR w w.heap.size us m) (hc : ConR w w.heap.size vs x) (sm : SmMod m) (sc : SmCon x) :
    Calls Try.prog 15 #[.agg us.toArray, .agg vs.toArray] w fun e w' => ∃ (rs : List Value) (D : List (Nat × Nat)) (xs : List CC), e = .returned (.tuple #[.agg rs.toArray, .bool (vmodF (addC m x))]) ∧ CMod w' w.heap.size rs (withM m x) D xs ∧ Fr w.heap.size w'.heap.size (flatM D xs) ∧ Below w.heap.size w w' := by
  obtain ⟨i1, hi1, hy0, hy1, hy2⟩ := info_parts (P := Try.prog) (e := 35) (z := .agg #[.int .i64 0, .slice none 0 0, .slice none 0 0, .int .i64 0, .slice none 0 0]) (size := 5) (bytes := 88) (by kernel_rfl)
  have HM := Lib.hid hm
  have HC := Lib.hid hc
  have SM := Lib.hid sm
  have SC := Lib.hid sc
  have s2 : m.cons.length ≤ 1048576 := sm.2.1
  clear sm sc
  obtain ⟨da, ca, cd, cc, rfl, g1, g2, k1, k2⟩ := hm
  obtain ⟨va, aa, ra, cv1, ca1, cr1, rfl, -⟩ := hc
  obtain ⟨uss, hfl, hfa, hfn⟩ := FlatC.of g2
  have FL := Lib.hid hfl
  have GD := Lib.hid g1
  have KD := Lib.hid k1
  obtain ⟨wa, hwa⟩ : ∃ wa, wa = w.alloc (.cells #[.slice da m.doms.length cd, .slice ca m.cons.length cc] 26) := ⟨_, rfl⟩
  obtain ⟨wc, hwc⟩ : ∃ wc, wc = wa.alloc (.cells #[.int .i64 x.kind, .slice va x.vars.length cv1, .slice aa x.args.length ca1, .int .i64 x.bound, .slice ra x.rows.length cr1] 35) := ⟨_, rfl⟩
  obtain ⟨wb, hwb⟩ : ∃ wb, wb = wc.alloc (.cells #[.slice none 0 0, .slice none 0 0] 26) := ⟨_, rfl⟩
  have hsa : wa.heap.size = w.heap.size + 1 := by rw [hwa, size_alloc_]
  have hsc : wc.heap.size = w.heap.size + 1 + 1 := by rw [hwc, size_alloc_, hsa]
  have hsb : wb.heap.size = w.heap.size + 1 + 1 + 1 := by rw [hwb, size_alloc_, hsc]
  have hb0 : Below w.heap.size w wa := by rw [hwa]; exact b_alloc _ _
  have hbc : Below wa.heap.size wa wc := by rw [hwc]; exact b_alloc _ _
  have hb1 : Below wc.heap.size wc wb := by rw [hwb]; exact b_alloc _ _
  have hb01 := bgo (bgo hb0 hbc) hb1
  have HA : Hid (TBlk 26 wb w.heap.size #[.slice da m.doms.length cd, .slice ca m.cons.length cc]) := (TBlk.below_ (by rw [hwa]; exact TBlk.new _ _ _) hbc (by omega)).below_ hb1 (by omega)
  have HC3 : Hid (TBlk 35 wb (w.heap.size + 1) #[.int .i64 x.kind, .slice va x.vars.length cv1, .slice aa x.args.length ca1, .int .i64 x.bound, .slice ra x.rows.length cr1]) := TBlk.below_ (w := wc) (by rw [hwc, ← hsa]; exact TBlk.new _ _ _) hb1 (by omega)
  have HR : Hid (TBlk 26 wb (w.heap.size + 1 + 1) #[.slice none 0 0, .slice none 0 0]) := by rw [hwb, ← hsc]; exact TBlk.new _ _ _
  have hclone : Hid (∀ W, Below wb.heap.size wb W → ∀ a, ca = some a → ∀ t u, uss.flatten[t]? = some u → W.cell? (a.add t) = some u) := by
    intro W hb a ha t u hu
    have h0 := hfa a ha t u hu
    have hlt := cell_lt h0
    exact (hb.cell (Nat.lt_of_lt_of_le hlt hb01.size)).trans ((hb01.cell hlt).trans h0)
  have hul : Hid (uss.flatten.length = m.cons.length * 5) := by
    show _ = _
    rw [flat_len hfl.2.1, hfl.1]
  have hS : ∀ w', Below wb.heap.size wb w' → (w'.cell? ⟨w.heap.size, 0, none⟩ = some (.slice da m.doms.length cd) ∧ w'.cell? ⟨w.heap.size, 1, none⟩ = some (.slice ca m.cons.length cc) ∧ w'.cell? ⟨w.heap.size + 1, 0, none⟩ = some (.int .i64 x.kind) ∧ w'.cell? ⟨w.heap.size + 1, 1, none⟩ = some (.slice va x.vars.length cv1) ∧ w'.cell? ⟨w.heap.size + 1, 2, none⟩ = some (.slice aa x.args.length ca1) ∧ w'.cell? ⟨w.heap.size + 1, 3, none⟩ = some (.int .i64 x.bound) ∧ w'.cell? ⟨w.heap.size + 1, 4, none⟩ = some (.slice ra x.rows.length cr1)) := by
    intro w' h
    have k := HA.out.below_ h (by omega)
    have q := HC3.out.below_ h (by omega)
    exact ⟨k.at_ 0 rfl, k.at_ 1 rfl, q.at_ 0 rfl, q.at_ 1 rfl, q.at_ 2 rfl, q.at_ 3 rfl, q.at_ 4 rfl⟩
  have hbd : Below wb.heap.size wb wb.drew := below_drewN (Below.refl _ _) 1
  have hS0 := hS _ hbd
  clear hb0 hbc hb1 hfa hfl g1 g2 k1 k2
  go_enter Try.func15, Try.ntmps15
  go_wp2_with fail
  rw [← hwa, ← hwc, ← hwb]
  clear hwa hwc hwb
  have HSB := Lib.hid hsb
  clear hsb hsa hsc
  rename_i K hK
  have KEY : ∀ (W : World) (A1 A7 : Option Addr) (c1 c7 gb g3 : Nat), W.ownsRow wb.heap.size 35 5 (.slice A7 (m.cons.length + 1) c7) (m.cons.length + 1) (uss.flatten ++ [.int .i64 x.kind, .slice va x.vars.length cv1, .slice aa x.args.length ca1, .int .i64 x.bound, .slice ra x.rows.length cr1]) → TBlk 26 W g3 #[.slice da m.doms.length cd, .slice A7 (m.cons.length + 1) c7] → wb.heap.size ≤ g3 → Below wb.heap.size wb W → K { tmps := #[.agg #[.slice da m.doms.length cd, .slice ca m.cons.length cc], .agg #[.int .i64 x.kind, .slice va x.vars.length cv1, .slice aa x.args.length ca1, .int .i64 x.bound, .slice ra x.rows.length cr1], .pointer (some ⟨w.heap.size, 0, none⟩), .pointer (some ⟨w.heap.size + 1, 0, none⟩), .pointer (some ⟨w.heap.size + 1 + 1, 0, none⟩), .bool false, .pointer (some ⟨g3, 0, none⟩), .pointer (some ⟨w.heap.size, 0, none⟩), .slice da m.doms.length cd, .pointer (some ⟨w.heap.size, 1, none⟩), .slice ca m.cons.length cc, .slice A1 m.cons.length c1, .agg #[.int .i64 x.kind, .slice va x.vars.length cv1, .slice aa x.args.length ca1, .int .i64 x.bound, .slice ra x.rows.length cr1], .slice (some ⟨gb, 0, none⟩) 1 1, .slice A7 (m.cons.length + 1) c7, .agg #[.slice da m.doms.length cd, .slice A7 (m.cons.length + 1) c7], undef, undef, undef, undef, undef, undef], defers := [] } W := by
    intro W A1 A7 c1 c7 gb g3 hown hT hg3 hbW
    refine hK _ _ ?_
    have hbw := hb01.trans (hbW.mono (by have := HSB.out; omega))
    have hkeep : ∀ p : Addr, p.block < w.heap.size → W.cell? p = w.cell? p := fun p hp => hbw.cell hp
    have hf2 := (FL.out.keep hkeep).snoc (u := [.int .i64 x.kind, .slice va x.vars.length cv1, .slice aa x.args.length ca1, .int .i64 x.bound, .slice ra x.rows.length cr1]) (ConR.keeps _ _ _ _ _ hkeep HC.out)
    have hln : (m.cons ++ [x]).length = m.cons.length + 1 := by rw [List.length_append]; rfl
    obtain ⟨A, c, e1, h1, h2⟩ := hf2.own (v := .slice A7 (m.cons.length + 1) c7) hbw.size (by rw [hln]; simpa using hown) (by rw [hln]; omega)
    have hmr : ModR W W.heap.size [.slice da m.doms.length cd, .slice A7 (m.cons.length + 1) c7] (addC m x) := by
      injection e1 with e1 e2 e3
      subst e1 e3
      refine ⟨da, A7, cd, c7, ?_, SlR.more IntC.widens (SlR.keep IntC.keeps GD.out hkeep) hbw.size, h1, KD.out, h2⟩
      show _ = [_, Value.slice A7 (m.cons ++ [x]).length c7]
      rw [hln]; rfl
    have HMR := Lib.hid hmr
    have HT := Lib.hid hT
    have m0 := hT.at_ 0 rfl
    have m1 := hT.at_ 1 rfl
    clear hS hS0 hf2 h1 h2 e1 hmr hkeep hown hT
    go_wp2_with fail
    refine (iValidModel _ (addC m x) _ HMR.out).mono ?_
    rintro e W9 ⟨rfl, hb9⟩
    have K9 := Lib.hid (HT.out.below_ hb9 HT.out.lt)
    have m0 := K9.out.at_ 0 rfl
    have m1 := K9.out.at_ 1 rfl
    have HM9 := Lib.hid (ModR.on HMR.out hb9)
    have b9 := bgo hbW hb9
    have hr := HR.out.below_ b9 (by have := HSB.out; omega)
    have q0 := hr.at_ 0 rfl
    have q1 := hr.at_ 1 rfl
    have f0 := hr.frozen 0
    have f1 := hr.frozen 1
    cases tv : vmodF (addC m x)
    · have HE := Lib.hid (show withM m x = ⟨[], []⟩ by unfold withM; rw [tv]; rfl)
      have TV := Lib.hid tv
      clear tv
      go_wp2_with fail
      obtain ⟨WF, hWF⟩ : ∃ WF, WF = (W9.setCell ⟨w.heap.size + 1 + 1, 0, none⟩ (.slice none 0 0)).setCell ⟨w.heap.size + 1 + 1, 1, none⟩ (.slice none 0 0) := ⟨_, rfl⟩
      have hqf : TBlk 26 WF (w.heap.size + 1 + 1) #[.slice none 0 0, .slice none 0 0] := by
        rw [hWF]
        exact (hr.store 0 _).store 1 _
      have hbf : Below w.heap.size w WF := by
        rw [hWF]
        refine (hb01.trans (b9.mono (by have := HSB.out; omega))).trans ?_
        repeat' (first | exact Below.refl _ _ | refine Below.setCell ?_ (by first | (simp; done) | (simp; omega)) _)
      rw [← hWF]
      have r0 := hqf.at_ 0 rfl
      have r1 := hqf.at_ 1 rfl
      clear hWF hqf hr
      go_wp2_with fail
      exact bodyPost_ret (v := .tuple #[.agg #[.slice none 0 0, .slice none 0 0], .bool false]) (by simp [results, Try.results15, go_sem, r0, r1]) rfl ⟨[.slice none 0 0, .slice none 0 0], [], [], by rw [TV.out], by rw [HE.out]; exact CMod.zero _ _, Fr.nil _ _, hbf⟩
    · have HE := Lib.hid (show withM m x = addC m x by unfold withM; rw [tv]; rfl)
      have TV := Lib.hid tv
      have SM2 := Lib.hid (show SmMod (addC m x) from ⟨SM.out.1, addC_six tv, fun y hy => by
        rcases List.mem_append.1 hy with h | h
        · exact SM.out.2.2 y h
        · rw [List.mem_singleton.1 h]; exact SC.out⟩)
      clear tv
      go_wp2_with fail
      refine (imodCopied _ (addC m x) _ HM9.out SM2.out).mono ?_
      rintro e W5 ⟨rs, D, xs, rfl, hcm, hfr, hB5⟩
      have hcm' := hcm
      obtain ⟨dv, cv, rfl, k1, k2, -⟩ := hcm'
      obtain ⟨Ad, cd2, rfl, -, -⟩ := k1.read
      obtain ⟨Ac, cc2, rfl⟩ := OwnK.form k2
      have b5 := bgo b9 hB5
      have hr := HR.out.below_ b5 (by have := HSB.out; omega)
      have q0 := hr.at_ 0 rfl
      have q1 := hr.at_ 1 rfl
      have f0 := hr.frozen 0
      have f1 := hr.frozen 1
      have HCM := Lib.hid hcm
      clear k1 k2 hcm
      go_wp2_with fail
      obtain ⟨WF, hWF⟩ : ∃ WF, WF = (W5.setCell ⟨w.heap.size + 1 + 1, 0, none⟩ (.slice Ad (addC m x).doms.length cd2)).setCell ⟨w.heap.size + 1 + 1, 1, none⟩ (.slice Ac xs.length cc2) := ⟨_, rfl⟩
      have hqf : TBlk 26 WF (w.heap.size + 1 + 1) #[.slice Ad (addC m x).doms.length cd2, .slice Ac xs.length cc2] := by
        rw [hWF]
        exact (hr.store 0 _).store 1 _
      have z9 := b9.size
      have hap : Apart W9.heap.size W5 WF := by
        rw [hWF]
        have := HSB.out
        exact ((Apart.refl _ _).set (by omega) 0 _).set (by omega) 1 _
      have hzf : WF.heap.size = W5.heap.size := by rw [hWF]; simp [World.setCell]
      have hbf : Below w.heap.size w WF := by
        rw [hWF]
        refine (hb01.trans (b5.mono (by have := HSB.out; omega))).trans ?_
        repeat' (first | exact Below.refl _ _ | refine Below.setCell ?_ (by first | (simp; done) | (simp; omega)) _)
      have hwz : w.heap.size ≤ W9.heap.size := by have := HSB.out; omega
      have FIN := Lib.hid (And.intro (CMod.base_ (HCM.out.apart hap) hwz) (And.intro (show Fr w.heap.size WF.heap.size (flatM D xs) from hfr.wide hwz (by omega)) hbf))
      rw [← hWF]
      have r0 := hqf.at_ 0 rfl
      have r1 := hqf.at_ 1 rfl
      clear hWF hqf hr hap hbf
      go_wp2_with fail
      exact bodyPost_ret (v := .tuple #[.agg #[.slice Ad (addC m x).doms.length cd2, .slice Ac xs.length cc2], .bool true]) (by simp [results, Try.results15, go_sem, r0, r1]) rfl ⟨[.slice Ad (addC m x).doms.length cd2, .slice Ac xs.length cc2], D, xs, by rw [TV.out], by rw [HE.out]; exact FIN.out.1, FIN.out.2.1, FIN.out.2.2⟩
  go_region_held3 (fun w' => w'.cell? ⟨w.heap.size, 0, none⟩ = some (.slice da m.doms.length cd) ∧ w'.cell? ⟨w.heap.size, 1, none⟩ = some (.slice ca m.cons.length cc) ∧ w'.cell? ⟨w.heap.size + 1, 0, none⟩ = some (.int .i64 x.kind) ∧ w'.cell? ⟨w.heap.size + 1, 1, none⟩ = some (.slice va x.vars.length cv1) ∧ w'.cell? ⟨w.heap.size + 1, 2, none⟩ = some (.slice aa x.args.length ca1) ∧ w'.cell? ⟨w.heap.size + 1, 3, none⟩ = some (.int .i64 x.bound) ∧ w'.cell? ⟨w.heap.size + 1, 4, none⟩ = some (.slice ra x.rows.length cr1))
    (first | with_reducible exact hS0 | (with_reducible refine hS _ ?_; (repeat' (first | with_reducible assumption | with_reducible exact Below.refl _ _ | with_reducible refine Below.drew_ ?_ | with_reducible refine Below.setCell ?_ (by first | (simp; done) | (simp; omega)) _ | with_reducible refine Below.alloc0 ?_ _))))
    (first
      | (refine step_append_any (by rfl) _ _ 24 (by rfl) wb.heap.size 35 i1 _ 5 88 Try.underlying24 hi1 hy0 hy1 hy2 rfl (by omega) (.slice A8 m.cons.length c8) m.cons.length uss.flatten (by rfl) (by (repeat' (first | with_reducible assumption | with_reducible refine own_drew ?_ | with_reducible refine own_below ?_ (b_alloc _ _)))) _ 1 [.int .i64 x.kind, .slice va x.vars.length cv1, .slice aa x.args.length ca1, .int .i64 x.bound, .slice ra x.rows.length cr1] (by exact ⟨_, rfl, src_blk (t := 35) (by (repeat' (first | with_reducible assumption | with_reducible exact TBlk.new _ _ _ | with_reducible exact TBlk.new2 _ _ _ _ | with_reducible refine TBlk.drew_ ?_ | with_reducible refine TBlk.on ?_ (b_alloc _ _)))) (by simp)⟩) (by simp [Value.oneCell']) (by unfold maxLen; omega) (by omega) (by first | omega | (simp; omega)) ?_
         intro v1 W7 hown hbw hgr _
         obtain ⟨A7, c7, rfl⟩ := (HoldR.of_own hown).form
         have hb7 : Below wb.heap.size wb W7 := Below.trans (by (repeat' (first | with_reducible assumption | with_reducible exact Below.refl _ _ | with_reducible refine Below.drew_ ?_ | with_reducible refine Below.setCell ?_ (by first | (simp; done) | (simp; omega)) _ | with_reducible refine Below.alloc0 ?_ _))) hbw
         have z7 := hb7.size
         first
           | (refine have_then (A := TBlk 26 W7 (wb.heap.size + 1) #[.slice none 0 0, .slice none 0 0]) ?_ ?_
              focus
                refine TBlk.grown (e := 35) (size := 5) (base := wb.heap.size) (n := m.cons.length) (v := .slice A8 m.cons.length c8) (xs := uss.flatten) ?_ ?_ ?_ hgr
                focus decide
                focus ((repeat' (first | with_reducible assumption | with_reducible exact TBlk.new _ _ _ | with_reducible exact TBlk.new2 _ _ _ _ | with_reducible refine TBlk.drew_ ?_ | with_reducible refine TBlk.on ?_ (b_alloc _ _))); done)
                (repeat' (first | with_reducible assumption | with_reducible refine own_drew ?_ | with_reducible refine own_below ?_ (b_alloc _ _)))
                done
              intro T7
              have d7 := T7.at_ 0 rfl
              have d8 := T7.at_ 1 rfl
              have f7 := fun j => T7.frozen j)
           | (refine have_then (A := TBlk 26 W7 wb.heap.size #[.slice none 0 0, .slice none 0 0]) ?_ ?_
              focus
                refine TBlk.grown (e := 35) (size := 5) (base := wb.heap.size) (n := m.cons.length) (v := .slice A8 m.cons.length c8) (xs := uss.flatten) ?_ ?_ ?_ hgr
                focus decide
                focus ((repeat' (first | with_reducible assumption | with_reducible exact TBlk.new _ _ _ | with_reducible exact TBlk.new2 _ _ _ _ | with_reducible refine TBlk.drew_ ?_ | with_reducible refine TBlk.on ?_ (b_alloc _ _))); done)
                (repeat' (first | with_reducible assumption | with_reducible refine own_drew ?_ | with_reducible refine own_below ?_ (b_alloc _ _)))
                done
              intro T7
              have d7 := T7.at_ 0 rfl
              have d8 := T7.at_ 1 rfl
              have f7 := fun j => T7.frozen j)
           | (refine have_then (A := TBlk 26 W7 (W8.heap.size + 1) #[.slice none 0 0, .slice none 0 0]) ?_ ?_
              focus
                refine TBlk.grown (e := 35) (size := 5) (base := wb.heap.size) (n := m.cons.length) (v := .slice A8 m.cons.length c8) (xs := uss.flatten) ?_ ?_ ?_ hgr
                focus decide
                focus ((repeat' (first | with_reducible assumption | with_reducible exact TBlk.new _ _ _ | with_reducible exact TBlk.new2 _ _ _ _ | with_reducible refine TBlk.drew_ ?_ | with_reducible refine TBlk.on ?_ (b_alloc _ _))); done)
                (repeat' (first | with_reducible assumption | with_reducible refine own_drew ?_ | with_reducible refine own_below ?_ (b_alloc _ _)))
                done
              intro T7
              have d7 := T7.at_ 0 rfl
              have d8 := T7.at_ 1 rfl
              have f7 := fun j => T7.frozen j)
           | (refine have_then (A := TBlk 26 W7 W8.heap.size #[.slice none 0 0, .slice none 0 0]) ?_ ?_
              focus
                refine TBlk.grown (e := 35) (size := 5) (base := wb.heap.size) (n := m.cons.length) (v := .slice A8 m.cons.length c8) (xs := uss.flatten) ?_ ?_ ?_ hgr
                focus decide
                focus ((repeat' (first | with_reducible assumption | with_reducible exact TBlk.new _ _ _ | with_reducible exact TBlk.new2 _ _ _ _ | with_reducible refine TBlk.drew_ ?_ | with_reducible refine TBlk.on ?_ (b_alloc _ _))); done)
                (repeat' (first | with_reducible assumption | with_reducible refine own_drew ?_ | with_reducible refine own_below ?_ (b_alloc _ _)))
                done
              intro T7
              have d7 := T7.at_ 0 rfl
              have d8 := T7.at_ 1 rfl
              have f7 := fun j => T7.frozen j)
           | skip)
      | (go_at_call 49
         refine (cloneCon ca m.cons.length cc uss.flatten _ hul.out (hclone.out _ (by (repeat' (first | with_reducible assumption | with_reducible exact Below.refl _ _ | with_reducible refine Below.drew_ ?_ | with_reducible refine Below.setCell ?_ (by first | (simp; done) | (simp; omega)) _ | with_reducible refine Below.alloc0 ?_ _)))) hfn FL.out.one s2).mono ?_
         rintro e W8 ⟨v8, rfl, ho0, hB8⟩
         obtain ⟨A8, c8, rfl⟩ := (HoldR.of_own ho0).form
         have hb8 := bgo (show Below wb.heap.size wb _ by (repeat' (first | with_reducible assumption | with_reducible exact Below.refl _ _ | with_reducible refine Below.drew_ ?_ | with_reducible refine Below.setCell ?_ (by first | (simp; done) | (simp; omega)) _ | with_reducible refine Below.alloc0 ?_ _))) hB8
         have z8 := hb8.size
         have ho8 := own_base ho0 (show Below wb.heap.size wb _ by (repeat' (first | with_reducible assumption | with_reducible exact Below.refl _ _ | with_reducible refine Below.drew_ ?_ | with_reducible refine Below.setCell ?_ (by first | (simp; done) | (simp; omega)) _ | with_reducible refine Below.alloc0 ?_ _))).size
         first
           | (refine have_then (A := TBlk 35 W8 wb.heap.size #[.int .i64 x.kind, .slice va x.vars.length cv1, .slice aa x.args.length ca1, .int .i64 x.bound, .slice ra x.rows.length cr1]) ?_ ?_
              focus (refine TBlk.on ?_ hB8; (repeat' (first | with_reducible assumption | with_reducible exact TBlk.new _ _ _ | with_reducible exact TBlk.new2 _ _ _ _ | with_reducible refine TBlk.drew_ ?_ | with_reducible refine TBlk.on ?_ (b_alloc _ _))); done)
              intro x0
              refine have_then (A := TBlk 26 W8 (wb.heap.size + 1) #[.slice none 0 0, .slice none 0 0]) ?_ ?_
              focus (refine TBlk.on ?_ hB8; (repeat' (first | with_reducible assumption | with_reducible exact TBlk.new _ _ _ | with_reducible exact TBlk.new2 _ _ _ _ | with_reducible refine TBlk.drew_ ?_ | with_reducible refine TBlk.on ?_ (b_alloc _ _))); done)
              intro x1)
           | (refine have_then (A := TBlk 26 W8 wb.heap.size #[.slice none 0 0, .slice none 0 0]) ?_ ?_
              focus (refine TBlk.on ?_ hB8; (repeat' (first | with_reducible assumption | with_reducible exact TBlk.new _ _ _ | with_reducible exact TBlk.new2 _ _ _ _ | with_reducible refine TBlk.drew_ ?_ | with_reducible refine TBlk.on ?_ (b_alloc _ _))); done)
              intro x0
              refine have_then (A := TBlk 35 W8 (wb.heap.size + 1) #[.int .i64 x.kind, .slice va x.vars.length cv1, .slice aa x.args.length ca1, .int .i64 x.bound, .slice ra x.rows.length cr1]) ?_ ?_
              focus (refine TBlk.on ?_ hB8; (repeat' (first | with_reducible assumption | with_reducible exact TBlk.new _ _ _ | with_reducible exact TBlk.new2 _ _ _ _ | with_reducible refine TBlk.drew_ ?_ | with_reducible refine TBlk.on ?_ (b_alloc _ _))); done)
              intro x1)
           | (refine have_then (A := TBlk 35 W8 wb.heap.size #[.int .i64 x.kind, .slice va x.vars.length cv1, .slice aa x.args.length ca1, .int .i64 x.bound, .slice ra x.rows.length cr1]) ?_ ?_
              focus (refine TBlk.on ?_ hB8; (repeat' (first | with_reducible assumption | with_reducible exact TBlk.new _ _ _ | with_reducible exact TBlk.new2 _ _ _ _ | with_reducible refine TBlk.drew_ ?_ | with_reducible refine TBlk.on ?_ (b_alloc _ _))); done)
              intro x0)
           | (refine have_then (A := TBlk 26 W8 wb.heap.size #[.slice none 0 0, .slice none 0 0]) ?_ ?_
              focus (refine TBlk.on ?_ hB8; (repeat' (first | with_reducible assumption | with_reducible exact TBlk.new _ _ _ | with_reducible exact TBlk.new2 _ _ _ _ | with_reducible refine TBlk.drew_ ?_ | with_reducible refine TBlk.on ?_ (b_alloc _ _))); done)
              intro x0)
           | skip
         clear ho0))
  all_goals first
    | exact KEY _ A8 A7 c8 c7 _ _ (own_shun (show (26 : TypeId) ≠ 35 by decide) 1 _ (T7.store 0 _) (own_shun (show (26 : TypeId) ≠ 35 by decide) 0 _ T7 hown)) ((T7.store 0 _).store 1 _) (by first | omega | simp) ((hb7.setCell (by first | (simp; done) | (simp; omega)) _).setCell (by first | (simp; done) | (simp; omega)) _)
    | exact KEY _ A8 A7 c8 c7 _ _ (own_below hown (b_alloc _ _)) (TBlk.new _ _ _) z7 (Below.alloc0 hb7 _)
theorem within_b0 (n lo hi : Int) (w : World) (b : Bool) (h : inB n lo hi = b) : Calls Try.prog 47 #[.int .i64 n, .int .i64 lo, .int .i64 hi] w fun e w' => e = .returned (.bool b) ∧ w = w' := by
  subst h
  refine (within n lo hi w).mono ?_
  rintro e w' ⟨rfl, rfl⟩
  exact ⟨rfl, rfl⟩
theorem delCon1 (g n cap j : Nat) (cells : List Value) (w : World) (hl : cells.length = n * 5) (hc : ∀ t u, cells[t]? = some u → w.cell? ⟨g, t, none⟩ = some u) (hf : ∀ t, w.frozen? ⟨g, t, none⟩ = false) (h1 : ∀ u ∈ cells, u.oneCell' = true) (hj : j < n) (hcap : n ≤ cap) (hm : cap ≤ 9223372036854775807) :
    Calls Try.prog 48 #[.slice (some ⟨g, 0, none⟩) n cap, .int .i64 j, .int .i64 ((j : Int) + 1)] w fun e w' => e = .returned (.slice (some ⟨g, 0, none⟩) (n - 1) cap) ∧ (∀ t u, (cells.take (j * 5) ++ cells.drop ((j + 1) * 5))[t]? = some u → w'.cell? ⟨g, t, none⟩ = some u) ∧ Below g w w' := by
  have h := delCon g n cap j cells w hl hc hf h1 hj hcap hm
  rw [Int.natCast_succ] at h
  exact h
theorem own_pos {w : World} {base n size : Nat} {e : TypeId} {v : Value} {xs : List Value} (h : w.ownsRow base e size v n xs) (hn : 0 < n) : ∃ g cap, v = .slice (some ⟨g, 0, none⟩) n cap ∧ base ≤ g ∧ g < w.heap.size ∧ n ≤ cap ∧ cap ≤ 9223372036854775807 ∧ (∀ t u, xs[t]? = some u → w.cell? ⟨g, t, none⟩ = some u) ∧ ∀ t, w.frozen? ⟨g, t, none⟩ = false := by
  rcases h.2 with ⟨-, h6⟩ | ⟨g, cap, cur, rfl, hg, hh, hcap, hmax, -⟩
  · omega
  · exact ⟨g, cap, rfl, hg, lt_heap hh, hcap, hmax, fun t u hu => by have := h.cells (g := g) rfl t u hu; rw [add_own] at this; exact this, fun t => frozen_of_row w g t _ _ hh⟩
set_option maxHeartbeats 8000000 in
theorem iWithout (us : List Value) (m : Mod) (i : Int) (w : World) (hm : ModR w w.heap.size us m) (sm : SmMod m) :
    Calls Try.prog 13 #[.agg us.toArray, .int .i64 i] w fun e w' => ∃ (rs : List Value) (D : List (Nat × Nat)) (xs : List CC), e = .returned (.tuple #[.agg rs.toArray, .bool (outOk m i)]) ∧ CMod w' w.heap.size rs (outM m i) D xs ∧ Fr w.heap.size w'.heap.size (flatM D xs) ∧ Below w.heap.size w w' := by
  have HM := Lib.hid hm
  have SM := Lib.hid sm
  have s2 : m.cons.length ≤ 1048576 := sm.2.1
  have hwr : IntKind.i64.wrap ((m.cons.length : Int) - 1) = (m.cons.length : Int) - 1 := by rw [IntKind.wrap_i64]; omega
  clear sm
  obtain ⟨da, ca, cd, cc, rfl, g1, g2, k1, k2⟩ := hm
  obtain ⟨uss, hfl, hfa, hfn⟩ := FlatC.of g2
  have FL := Lib.hid hfl
  have GD := Lib.hid g1
  have KD := Lib.hid k1
  obtain ⟨wa, hwa⟩ : ∃ wa, wa = w.alloc (.cells #[.slice da m.doms.length cd, .slice ca m.cons.length cc] 26) := ⟨_, rfl⟩
  obtain ⟨wb, hwb⟩ : ∃ wb, wb = wa.alloc (.cells #[.slice none 0 0, .slice none 0 0] 26) := ⟨_, rfl⟩
  have hsa : wa.heap.size = w.heap.size + 1 := by rw [hwa, size_alloc_]
  have hsb : wb.heap.size = w.heap.size + 1 + 1 := by rw [hwb, size_alloc_, hsa]
  have hb0 : Below w.heap.size w wa := by rw [hwa]; exact b_alloc _ _
  have hb1 : Below wa.heap.size wa wb := by rw [hwb]; exact b_alloc _ _
  have hb01 := bgo hb0 hb1
  have HA : Hid (TBlk 26 wb w.heap.size #[.slice da m.doms.length cd, .slice ca m.cons.length cc]) := TBlk.below_ (by rw [hwa]; exact TBlk.new _ _ _) hb1 (by omega)
  have HR : Hid (TBlk 26 wb (w.heap.size + 1) #[.slice none 0 0, .slice none 0 0]) := by rw [hwb, ← hsa]; exact TBlk.new _ _ _
  have GM := Lib.hid (ModR.widens _ _ _ _ _ hb01.size (ModR.keeps _ _ _ _ _ (fun p hp => hb01.cell hp) HM.out))
  have hclone : Hid (∀ W, Below wb.heap.size wb W → ∀ a, ca = some a → ∀ t u, uss.flatten[t]? = some u → W.cell? (a.add t) = some u) := by
    intro W hb a ha t u hu
    have h0 := hfa a ha t u hu
    have hlt := cell_lt h0
    exact (hb.cell (Nat.lt_of_lt_of_le hlt hb01.size)).trans ((hb01.cell hlt).trans h0)
  have hul : Hid (uss.flatten.length = m.cons.length * 5) := by
    show _ = _
    rw [flat_len hfl.2.1, hfl.1]
  have a0 : wb.cell? ⟨w.heap.size, 0, none⟩ = some (.slice da m.doms.length cd) := HA.out.at_ 0 rfl
  have a1 : wb.cell? ⟨w.heap.size, 1, none⟩ = some (.slice ca m.cons.length cc) := HA.out.at_ 1 rfl
  clear hb0 hb1 hfa hfl g1 g2 k1 k2
  have KNO : Hid (∀ W, Below wb.heap.size wb W → TBlk 26 W (w.heap.size + 1) #[.slice none 0 0, .slice none 0 0] ∧ Below w.heap.size w ((W.setCell ⟨w.heap.size + 1, 0, none⟩ (.slice none 0 0)).setCell ⟨w.heap.size + 1, 1, none⟩ (.slice none 0 0))) := by
    intro W hb
    refine ⟨HR.out.below_ hb (by omega), ?_⟩
    refine (hb01.trans (hb.mono (by omega))).trans ?_
    repeat' (first | exact Below.refl _ _ | refine Below.setCell ?_ (by simp) _)
  go_enter Try.func13, Try.ntmps13
  go_wp2_with fail
  rw [← hwa, ← hwb]
  clear hwa hwb
  have HSB := Lib.hid hsb
  clear hsb hsa
  go_wp2_with fail
  refine (iValidModel _ m _ GM.out).mono ?_
  rintro e W9 ⟨rfl, b9⟩
  have hA := HA.out.below_ b9 (by have := HSB.out; omega)
  have a0 := hA.at_ 0 rfl
  have a1 := hA.at_ 1 rfl
  obtain ⟨hr, hbf⟩ := KNO.out W9 b9
  have q0 := hr.at_ 0 rfl
  have q1 := hr.at_ 1 rfl
  have f0 := hr.frozen 0
  have f1 := hr.frozen 1
  cases tv : vmodF m
  · have HO := Lib.hid (show outOk m i = false by unfold outOk; rw [tv]; rfl)
    have HE := Lib.hid (show outM m i = ⟨[], []⟩ by unfold outM; rw [HO.out]; rfl)
    clear tv hwr
    go_wp2_with fail
    obtain ⟨WF, hWF⟩ : ∃ WF, WF = (W9.setCell ⟨w.heap.size + 1, 0, none⟩ (.slice none 0 0)).setCell ⟨w.heap.size + 1, 1, none⟩ (.slice none 0 0) := ⟨_, rfl⟩
    rw [← hWF] at hbf
    have hqf : TBlk 26 WF (w.heap.size + 1) #[.slice none 0 0, .slice none 0 0] := by
      rw [hWF]
      exact (hr.store 0 _).store 1 _
    rw [← hWF]
    have r0 := hqf.at_ 0 rfl
    have r1 := hqf.at_ 1 rfl
    clear hWF hqf hr
    go_wp2_with fail
    exact bodyPost_ret (v := .tuple #[.agg #[.slice none 0 0, .slice none 0 0], .bool false]) (by simp [results, Try.results13, go_sem, r0, r1]) rfl ⟨[.slice none 0 0, .slice none 0 0], [], [], by rw [HO.out], by rw [HE.out]; exact CMod.zero _ _, Fr.nil _ _, hbf⟩
  · have TV := Lib.hid tv
    clear tv
    go_wp2_with fail
    refine (within_b0 i 0 ((m.cons.length : Int) - 1) _ _ rfl).mono ?_
    rintro e w3 ⟨rfl, rfl⟩
    cases ti : inB i 0 ((m.cons.length : Int) - 1)
    · have HO := Lib.hid (show outOk m i = false by unfold outOk; rw [ti, TV.out]; rfl)
      have HE := Lib.hid (show outM m i = ⟨[], []⟩ by unfold outM; rw [HO.out]; rfl)
      clear ti hwr
      go_wp2_with fail
      obtain ⟨WF, hWF⟩ : ∃ WF, WF = (W9.setCell ⟨w.heap.size + 1, 0, none⟩ (.slice none 0 0)).setCell ⟨w.heap.size + 1, 1, none⟩ (.slice none 0 0) := ⟨_, rfl⟩
      rw [← hWF] at hbf
      have hqf : TBlk 26 WF (w.heap.size + 1) #[.slice none 0 0, .slice none 0 0] := by
        rw [hWF]
        exact (hr.store 0 _).store 1 _
      rw [← hWF]
      have r0 := hqf.at_ 0 rfl
      have r1 := hqf.at_ 1 rfl
      clear hWF hqf hr
      go_wp2_with fail
      exact bodyPost_ret (v := .tuple #[.agg #[.slice none 0 0, .slice none 0 0], .bool false]) (by simp [results, Try.results13, go_sem, r0, r1]) rfl ⟨[.slice none 0 0, .slice none 0 0], [], [], by rw [HO.out], by rw [HE.out]; exact CMod.zero _ _, Fr.nil _ _, hbf⟩
    · have HO := Lib.hid (show outOk m i = true by unfold outOk; rw [ti, TV.out]; rfl)
      have HE := Lib.hid (show outM m i = ⟨m.doms, m.cons.eraseIdx i.toNat⟩ by unfold outM; rw [HO.out]; rfl)
      have hi0 : ((i.toNat : Nat) : Int) = i ∧ i.toNat < m.cons.length := by unfold inB at ti; simp at ti; omega
      obtain ⟨j, hj⟩ : ∃ j : Nat, i.toNat = j := ⟨_, rfl⟩
      rw [hj] at hi0 HE
      obtain ⟨hi0, hjn⟩ := hi0
      subst hi0
      have hwj : IntKind.i64.wrap ((j : Int) + 1) = (j : Int) + 1 := by rw [IntKind.wrap_i64]; omega
      have SM2 := Lib.hid (show SmMod ⟨m.doms, m.cons.eraseIdx j⟩ from ⟨SM.out.1, by
        show (m.cons.eraseIdx j).length ≤ 1048576
        have := List.length_eraseIdx_le m.cons j
        omega, fun y hy => SM.out.2.2 y (List.mem_of_mem_eraseIdx hy)⟩)
      have hS : ∀ w', Below (w.heap.size + 1) wb w' → (w'.cell? ⟨w.heap.size, 0, none⟩ = some (.slice da m.doms.length cd) ∧ w'.cell? ⟨w.heap.size, 1, none⟩ = some (.slice ca m.cons.length cc)) := by
        intro w' h
        have k := HA.out.below_ h (by omega)
        exact ⟨k.at_ 0 rfl, k.at_ 1 rfl⟩
      have hbd : Below wb.heap.size wb W9.drew := Below.drew_ b9
      have hbd1 : Below (w.heap.size + 1) wb W9.drew := hbd.mono (by have := HSB.out; omega)
      have hS0 := hS _ hbd1
      have hlE : (m.cons.eraseIdx j).length = m.cons.length - 1 := by rw [List.length_eraseIdx, if_pos hjn]
      have HLE := Lib.hid hlE
      have z9 := b9.size
      clear ti hwr hj a0 a1 q0 q1 f0 f1 hlE hA hr hbf
      go_wp2_with fail
      go_region_held3 (fun w' => w'.cell? ⟨w.heap.size, 0, none⟩ = some (.slice da m.doms.length cd) ∧ w'.cell? ⟨w.heap.size, 1, none⟩ = some (.slice ca m.cons.length cc))
        (first | with_reducible exact hS0 | with_reducible exact hS _ hb8' | with_reducible exact hS _ hb7' | with_reducible exact hS _ hb5' | (with_reducible refine hS _ ?_; repeat' (first | with_reducible exact hb5' | with_reducible refine Below.setCell ?_ (by simp) _)))
        (first
          | (go_at_call 49
             refine (cloneCon ca m.cons.length cc uss.flatten _ hul.out (hclone.out _ hbd) hfn FL.out.one s2).mono ?_
             rintro e W8 ⟨v8, rfl, ho0, hB8⟩
             obtain ⟨g, cap, rfl, hg1, hg2, hcap, hmax, hcell, hfz⟩ := own_pos ho0 (by omega)
             have hb8 := bgo hbd hB8
             have hb8' : Below (w.heap.size + 1) wb W8 := hb8.mono (by have := HSB.out; omega)
             have HCE := Lib.hid hcell
             have hzd : wb.heap.size ≤ g := Nat.le_trans hbd.size hg1
             clear ho0 hcell)
          | (go_at_call 48
             refine (delCon1 g m.cons.length cap j uss.flatten _ hul.out HCE.out hfz FL.out.one hjn hcap hmax).mono ?_
             rintro e W7 ⟨rfl, hce7, hB7⟩
             have hb7 : Below wb.heap.size wb W7 := hb8.trans (hB7.mono hzd)
             have hb7' : Below (w.heap.size + 1) wb W7 := hb7.mono (by have := HSB.out; omega)
             have hkeep : ∀ p : Addr, p.block < w.heap.size → W7.cell? p = w.cell? p := fun p hp => (hb01.trans (hb7.mono (by have := HSB.out; omega))).cell hp
             have hwz7 : w.heap.size ≤ W7.heap.size := by have := HSB.out; have := hb7.size; omega
             have hg7 : g < W7.heap.size := Nat.lt_of_lt_of_le hg2 hB7.size
             have HM7 : Hid (ModR W7 W7.heap.size [.slice da m.doms.length cd, .slice (some ⟨g, 0, none⟩) (m.cons.length - 1) cap] ⟨m.doms, m.cons.eraseIdx j⟩) := by
               have hrow := ((FL.out.keep hkeep).erase j).row (g := g) hwz7 (fun t u hu => hce7 t u (by rw [FL.out.cut j]; exact hu)) hg7 (by rw [HLE.out]; omega)
               refine ⟨da, some ⟨g, 0, none⟩, cd, cap, ?_, SlR.more IntC.widens (SlR.keep IntC.keeps GD.out hkeep) hwz7, hrow, KD.out, ?_⟩
               · show _ = [_, Value.slice _ (m.cons.eraseIdx j).length cap]
                 rw [HLE.out]
               · show (m.cons.eraseIdx j).length ≤ cap
                 rw [HLE.out]; omega
             clear hce7 hkeep)
          | (go_at_call 50
             refine (imodCopied _ ⟨m.doms, m.cons.eraseIdx j⟩ _ HM7.out SM2.out).mono ?_
             rintro e W5 ⟨rs, D, xs, rfl, hcm, hfr, hB5⟩
             obtain ⟨dv, cv, rfl, k1, k2, -⟩ := id hcm
             obtain ⟨Ad, cd2, rfl, -, -⟩ := k1.read
             obtain ⟨Ac, cc2, rfl⟩ := OwnK.form k2
             have hb5 := bgo hb7 hB5
             have hb5' : Below (w.heap.size + 1) wb W5 := hb5.mono (by have := HSB.out; omega)
             have hr5 := HR.out.below_ hb5 (by have := HSB.out; omega)
             have q0 := hr5.at_ 0 rfl
             have q1 := hr5.at_ 1 rfl
             have f0 := hr5.frozen 0
             have f1 := hr5.frozen 1
             have HCM := Lib.hid hcm
             have HFR := Lib.hid hfr
             clear k1 k2 hcm hfr))
      rename_i hHeld
      clear hHeld q0 q1 f0 f1
      obtain ⟨WF, hWF⟩ : ∃ WF, WF = (W5.setCell ⟨w.heap.size + 1, 0, none⟩ (.slice Ad m.doms.length cd2)).setCell ⟨w.heap.size + 1, 1, none⟩ (.slice Ac xs.length cc2) := ⟨_, rfl⟩
      have hqf : TBlk 26 WF (w.heap.size + 1) #[.slice Ad m.doms.length cd2, .slice Ac xs.length cc2] := by
        rw [hWF]
        exact (hr5.store 0 _).store 1 _
      have z7 := hb7.size
      have hap : Apart W7.heap.size W5 WF := by
        rw [hWF]
        have := HSB.out
        exact ((Apart.refl _ _).set (by omega) 0 _).set (by omega) 1 _
      have hzf : WF.heap.size = W5.heap.size := by rw [hWF]; simp [World.setCell]
      have hbf : Below w.heap.size w WF := by
        rw [hWF]
        refine (hb01.trans (hb5.mono (by have := HSB.out; omega))).trans ?_
        repeat' (first | exact Below.refl _ _ | refine Below.setCell ?_ (by simp) _)
      have FIN := Lib.hid (And.intro (CMod.base_ (HCM.out.apart hap) hwz7) (And.intro (show Fr w.heap.size WF.heap.size (flatM D xs) from HFR.out.wide hwz7 (by omega)) hbf))
      rw [← hWF]
      have r0 := hqf.at_ 0 rfl
      have r1 := hqf.at_ 1 rfl
      clear hWF hqf hr5 hap hbf
      go_wp2_with fail
      exact bodyPost_ret (v := .tuple #[.agg #[.slice Ad m.doms.length cd2, .slice Ac xs.length cc2], .bool true]) (by simp [results, Try.results13, go_sem, r0, r1]) rfl ⟨[.slice Ad m.doms.length cd2, .slice Ac xs.length cc2], D, xs, by rw [HO.out], by rw [HE.out]; exact FIN.out.1, FIN.out.2.1, FIN.out.2.2⟩
end Go.Proofs.Ytejfnkbdmlijbaa
