/- Texts laid into one: MarkCF MarkD DgS MkB MkS. -/
import Derived.Test.YtfmdgdamelkelaaHiFnExactBuildDiagramA
import Derived.Test.YtfmdgdamelkelaaBdM
import Derived.Test.YtfmdgdamelkelaaMkT
/- The marks of a constraint that came in; cuts of a walk behind a region. -/
namespace Go.Proofs.Ytfmdgdamelkelaa
open Go.ChangeShapes Go.WideShapes Go.ChangeAt Go.RowKit
open Go.Shelf
set_option linter.unusedVariables false
set_option maxRecDepth 100000
/-- A constraint whose blocks lie from lo to below hi. -/
def HConV (w : World) (lo hi : Nat) (us : List Value) : Prop := ∃ kk va nv cv aa na ca b ra nr cr, us = [.int .i64 kk, .slice va nv cv, .slice aa na ca, .int .i64 b, .slice ra nr cr] ∧ HCon w lo hi va aa ra nv na nr
theorem HConV.keep {w w' : World} {lo hi : Nat} {us : List Value} (h : HConV w lo hi us) (k : Keep w w') : HConV w' lo hi us := by
  obtain ⟨kk, va, nv, cv, aa, na, ca, b, ra, nr, cr, e, h1⟩ := h
  exact ⟨kk, va, nv, cv, aa, na, ca, b, ra, nr, cr, e, h1.keep k⟩
theorem HConV.of_own {w : World} {base : Nat} {us : List Value} {c : Con} (h : OwnCon w base (.agg us.toArray) c) (hs : SmCon c) : HConV w base w.heap.size us := by
  obtain ⟨vv, av, rv, he, o1, o2, o3⟩ := h
  injection he with he
  have he2 : us = [.int .i64 c.kind, vv, av, .int .i64 c.bound, rv] := by simpa using congrArg Array.toList he
  obtain ⟨A1, c1, hv1, -⟩ := o1.read
  obtain ⟨A2, c2, hv2, -⟩ := o2.read
  obtain ⟨A3, c3, hv3, -⟩ := read2 o3
  rw [hv1] at o1 he2
  rw [hv2] at o2 he2
  rw [hv3] at o3 he2
  exact ⟨_, _, _, _, _, _, _, _, _, _, _, he2, hs.1, hs.2.1, hs.2.2.1, HI.of_own o1, HI.of_own o2, HRows.of_own o3 hs.2.2.2⟩
set_option maxHeartbeats 4000000 in
theorem markConT (us : List Value) (lo hi : Nat) (k : Int) (w : World) (h : HConV w lo hi us) (hlo : lo ≤ w.heap.size) (h0 : 0 ≤ k) (h1 : k ≤ 4611684918000000000) :
    Calls Try.prog 17 #[.agg us.toArray, .int .i64 k] w fun e w' => ∃ k' : Int, e = .returned (.int .i64 k') ∧ k ≤ k' ∧ k' ≤ k + 1099513724928 ∧ Touch lo hi w w' ∧ Keep w w' := by
  obtain ⟨kk, va, nv, cv, aa, na, ca, b, ra, nr, cr, rfl, s1, s2, s3, g1, g2, g3⟩ := h
  obtain ⟨wa, hwa⟩ : ∃ wa, wa = w.alloc (.cells #[.int .i64 kk, .slice va nv cv, .slice aa na ca, .int .i64 b, .slice ra nr cr] 29) := ⟨_, rfl⟩
  have hb0 : Below w.heap.size w wa := by rw [hwa]; exact b_alloc _ _
  have hsz : wa.heap.size = w.heap.size + 1 := by rw [hwa, size_alloc_]
  have ha : TBlk 29 wa w.heap.size #[.int .i64 kk, .slice va nv cv, .slice aa na ca, .int .i64 b, .slice ra nr cr] := by rw [hwa]; exact TBlk.new _ _ _
  have HA := Lib.hid ha
  have TA := Lib.hid (Touch.of_below (lo := lo) (hi := hi) hb0 hlo)
  have KA := Lib.hid (Keep.of_below hb0)
  have G1 := Lib.hid (g1.keep KA.out)
  have G2 := Lib.hid (g2.keep KA.out)
  have G3 := Lib.hid (g3.keep KA.out)
  have a1 : wa.cell? ⟨w.heap.size, 1, none⟩ = some (.slice va nv cv) := ha.at_ 1 rfl
  clear g1 g2 g3 ha hb0
  go_enter Try.func17, Try.ntmps17
  go_wp2_with fail
  rw [← hwa]
  clear hwa
  refine (markIntT va nv cv lo hi k wa G1.out (by omega) s1 h0 (by omega)).mono ?_
  rintro e w1 ⟨k1, rfl, p1, p2, ht1, hq1⟩
  obtain ⟨cs1, b1, b2, -⟩ := hq1 _ _ _ HA.out
  have a2 : w1.cell? ⟨w.heap.size, 2, none⟩ = some (.slice aa na ca) := by rw [cell_of_row w1 _ _ cs1 _ _ b1]; exact b2 2 _ _ _ rfl
  have z1 := ht1.1.size
  have S4 := Lib.hid (b2 4 _ _ _ rfl)
  have B1 := Lib.hid b1
  have TB := Lib.hid (TA.out.trans ht1)
  have KB := Lib.hid (KA.out.trans hq1)
  have G5 := Lib.hid (G2.out.keep hq1)
  have G6 := Lib.hid (G3.out.keep hq1)
  clear ht1 hq1 b1 b2 a1
  go_wp2_with fail
  refine (markIntT aa na ca lo hi k1 w1 G5.out (by omega) s2 (by omega) (by omega)).mono ?_
  rintro e w2 ⟨k2, rfl, p3, p4, ht2, hq2⟩
  obtain ⟨cs2, b3, b4, -⟩ := hq2 _ _ _ B1.out
  have a4 : w2.cell? ⟨w.heap.size, 4, none⟩ = some (.slice ra nr cr) := by rw [cell_of_row w2 _ _ cs2 _ _ b3]; exact b4 4 _ _ _ S4.out
  have z2 := ht2.1.size
  have TC := Lib.hid (TB.out.trans ht2)
  have KC := Lib.hid (KB.out.trans hq2)
  have G7 := Lib.hid (G6.out.keep hq2)
  clear ht2 hq2 b3 b4 a2
  go_wp2_with fail
  refine (markIntSST ra nr cr lo hi k2 w2 G7.out (by omega) s3 (by omega) (by omega)).mono ?_
  rintro e w3 ⟨k3, rfl, p5, p6, ht3, hq3⟩
  have TD := Lib.hid (TC.out.trans ht3)
  have KD := Lib.hid (KC.out.trans hq3)
  clear ht3 hq3
  go_wp2_with fail
  go_ret
  exact ⟨k3, rfl, by omega, by omega, TD.out, KD.out⟩
end Go.Proofs.Ytfmdgdamelkelaa
/- (printed by gmarkd.py) Which number cells a value holds, in the order in which they are marked; what marking leaves. No program in sight. -/
namespace Go.Proofs.Ytfmdgdamelkelaa
open Go.ChangeShapes Go.WideShapes Go.ChangeAt Go.RowKit
open Go.Shelf
set_option linter.unusedVariables false
set_option maxRecDepth 100000
attribute [local go_sem] Oper.semAt_some

/-- the cells of S hold k, k + 1, ..; every other cell is as it was. -/
structure Wr (lo : Nat) (w w' : World) (S : List (Nat × Nat)) (k : Int) : Prop where
  below : Below lo w w'
  keep : Keep w w'
  old : ∀ (b j : Nat), b < w.heap.size → (b, j) ∉ S → w'.cell? ⟨b, j, none⟩ = w.cell? ⟨b, j, none⟩
  set : S.Nodup → ∀ (i : Nat) s, S[i]? = some s → w'.cell? ⟨s.1, s.2, none⟩ = some (.int .i64 (k + i))
  lt : ∀ s ∈ S, s.1 < w'.heap.size
/-- the cells of S hold k, k + 1, .. -/
def Holds (w : World) (S : List (Nat × Nat)) (k : Int) : Prop := ∀ (i : Nat) s, S[i]? = some s → w.cell? ⟨s.1, s.2, none⟩ = some (.int .i64 (k + i))
section
variable {lo : Nat} {w w1 w2 w' : World} {S T : List (Nat × Nat)} {k : Int}
theorem Wr.refl (lo : Nat) (w : World) (k : Int) : Wr lo w w [] k := ⟨Below.refl _ _, Keep.refl _, fun _ _ _ _ => rfl, fun _ i s h => by simp at h, fun s h => by simp at h⟩
theorem Wr.of_below (hb : Below w.heap.size w w') (hl : lo ≤ w.heap.size) : Wr lo w w' [] k := ⟨hb.mono hl, Keep.of_below hb, fun b j hs _ => hb.cell (p := ⟨b, j, none⟩) hs, fun _ i s h => by simp at h, fun s h => by simp at h⟩
theorem Wr.trans {k2 : Int} (h : Wr lo w w1 S k) (g : Wr lo w1 w2 T k2) (hk : k2 = k + S.length) : Wr lo w w2 (S ++ T) k := by
  subst hk
  have hS := h.lt
  refine ⟨h.below.trans g.below, h.keep.trans g.keep, fun b j hb hn => ?_, fun hnd i s hi => ?_, fun s hs => (List.mem_append.1 hs).elim (fun h1 => Nat.lt_of_lt_of_le (h.lt s h1) g.below.size) (g.lt s)⟩
  · rw [List.mem_append, not_or] at hn
    exact (g.old b j (Nat.lt_of_lt_of_le hb h.below.size) hn.2).trans (h.old b j hb hn.1)
  · obtain ⟨n1, n2, n3⟩ := List.nodup_append.1 hnd
    rcases Nat.lt_or_ge i S.length with hl | hl
    · rw [List.getElem?_append_left hl] at hi
      have hm := List.mem_of_getElem? hi
      have := g.old s.1 s.2 (hS s hm) (fun hc => n3 s hm _ hc rfl)
      exact this.trans (h.set n1 i s hi)
    · rw [List.getElem?_append_right hl] at hi
      have := g.set n2 _ s hi
      rw [this]
      congr 2
      omega
theorem Wr.store {g j : Nat} {cs : Array Value} {t : TypeId} {x : Int} (hl : lo ≤ g) (hg : w.heap[g]? = some (.cells cs t (0, 0))) (hj : cs[j]? = some (.int .i64 x)) : Wr lo w (w.setCell ⟨g, j, none⟩ (.int .i64 k)) [(g, j)] k := by
  have hc : w.cell? ⟨g, j, none⟩ = some (.int .i64 x) := by rw [cell_of_row w g j cs t _ hg]; exact hj
  refine ⟨(Below.refl _ _).setCell (by simpa using hl) _, Keep.store hg hj, fun b j' hb hn => ?_, fun _ i s hi => ?_, fun s hs => by simp at hs; subst hs; simpa using lt_heap hg⟩
  · refine World.cell?_setCell_other _ _ _ _ (fun e => hn ?_)
    injection e with e1 e2
    rw [← e1, ← e2]; simp
  · match i, hi with
    | 0, hi =>
      simp at hi
      subst hi
      rw [World.cell?_setCell_same _ _ _ hc]
      simp
    | i + 1, hi => simp at hi
theorem Wr.nil_left (h : Wr lo w w1 [] k) (g : Wr lo w1 w2 T k) : Wr lo w w2 T k := by
  have := h.trans g (by simp)
  simpa using this
theorem Wr.nil_right {k2 : Int} (h : Wr lo w w1 S k) (g : Wr lo w1 w2 [] k2) : Wr lo w w2 S k :=
  ⟨h.below.trans g.below, h.keep.trans g.keep, fun b j hb hn => (g.old b j (Nat.lt_of_lt_of_le hb h.below.size) (by simp)).trans (h.old b j hb hn), fun hnd i s hi => (g.old s.1 s.2 (h.lt s (List.mem_of_getElem? hi)) (by simp)).trans (h.set hnd i s hi), fun s hs => Nat.lt_of_lt_of_le (h.lt s hs) g.below.size⟩
theorem Holds.of_wr (h : Wr lo w w' S k) (hn : S.Nodup) : Holds w' S k := h.set hn
theorem Holds.append (h : Holds w (S ++ T) k) : Holds w S k ∧ Holds w T (k + S.length) := by
  refine ⟨fun i s hi => h i s ?_, fun i s hi => ?_⟩
  · rw [List.getElem?_append_left (by
      rcases Nat.lt_or_ge i S.length with hl | hl
      · exact hl
      · rw [List.getElem?_eq_none hl] at hi; cases hi)]; exact hi
  · have := h (S.length + i) s (by rw [List.getElem?_append_right (by omega)]; rw [show S.length + i - S.length = i by omega]; exact hi)
    rw [this]
    congr 2
    omega
theorem Holds.below (h : Holds w S k) (hb : Below w.heap.size w w') (hS : ∀ s ∈ S, s.1 < w.heap.size) : Holds w' S k := fun i s hi => (hb.cell (p := ⟨s.1, s.2, none⟩) (hS s (List.mem_of_getElem? hi))).trans (h i s hi)
end
section
variable {lo n : Nat} {w w' : World} {A : Option Addr}
/-- the first n cells of block g. -/
def seg (g n : Nat) : List (Nat × Nat) := (List.range n).map fun j => (g, j)
theorem seg_len (g n : Nat) : (seg g n).length = n := by simp [seg]
theorem seg_at {g n j : Nat} (h : j < n) : (seg g n)[j]? = some (g, j) := by simp [seg, h]
theorem seg_take {g n j : Nat} (h : j ≤ n) : (seg g n).take j = seg g j := by
  unfold seg
  rw [← List.map_take, List.take_range, Nat.min_eq_left h]
theorem seg_succ (g j : Nat) : seg g (j + 1) = seg g j ++ [(g, j)] := by simp [seg, List.range_succ]
theorem take_snoc {α : Type} {S : List α} {j : Nat} {s : α} (h : S[j]? = some s) : S.take (j + 1) = S.take j ++ [s] := by rw [List.take_add_one, h]; rfl
theorem flat_snoc {α : Type} {Ss : List (List α)} {j : Nat} {S : List α} (h : Ss[j]? = some S) : (Ss.take (j + 1)).flatten = (Ss.take j).flatten ++ S := by rw [take_snoc h]; simp
theorem flat_le {α : Type} (Ss : List (List α)) (j : Nat) : (Ss.take j).flatten.length ≤ Ss.flatten.length := by
  have := congrArg (fun l => l.flatten.length) (List.take_append_drop j Ss)
  simp only [List.flatten_append, List.length_append] at this
  omega
/-- numbers, at S. -/
def SI (lo : Nat) (w : World) (A : Option Addr) (n : Nat) (S : List (Nat × Nat)) : Prop := (n = 0 ∧ S = []) ∨ ∃ (g : Nat) (cs : Array Value) (t : TypeId), A = some ⟨g, 0, none⟩ ∧ lo ≤ g ∧ w.heap[g]? = some (.cells cs t (0, 0)) ∧ (∀ j, j < n → ∃ x, cs[j]? = some (.int .i64 x)) ∧ S = seg g n
theorem SI.keep {S : List (Nat × Nat)} (h : SI lo w A n S) (k : Keep w w') : SI lo w' A n S := by
  rcases h with h | ⟨g, cs, t, e, h1, h3, h4, h5⟩
  · exact .inl h
  · obtain ⟨c1, k1, k2, k3⟩ := k g cs t h3
    refine .inr ⟨g, c1, t, e, h1, k1, fun j hj => ?_, h5⟩
    obtain ⟨x, hx⟩ := h4 j hj
    exact k3 j x hx
theorem SI.len {S : List (Nat × Nat)} (h : SI lo w A n S) : S.length = n := by
  rcases h with ⟨h1, h2⟩ | ⟨g, cs, t, e, h1, h3, h4, h5⟩
  · rw [h1, h2]; rfl
  · rw [h5, seg_len]
theorem SI.lt {S : List (Nat × Nat)} (h : SI lo w A n S) : ∀ s ∈ S, s.1 < w.heap.size := by
  rcases h with ⟨h1, h2⟩ | ⟨g, cs, t, e, h1, h3, h4, h5⟩
  · rw [h2]; simp
  · intro s hs
    rw [h5] at hs
    unfold seg at hs
    obtain ⟨j, -, rfl⟩ := List.mem_map.1 hs
    exact lt_heap h3
/-- rows of numbers, at Ss. -/
def SRows (lo : Nat) (w : World) (A : Option Addr) (n : Nat) (Ss : List (List (Nat × Nat))) : Prop := Ss.length = n ∧ (n = 0 ∨ ∃ (g : Nat) (cs : Array Value) (t : TypeId), A = some ⟨g, 0, none⟩ ∧ w.heap[g]? = some (.cells cs t (0, 0)) ∧ ∀ (j : Nat) S, Ss[j]? = some S → ∃ A' n' c', cs[j]? = some (.slice A' n' c') ∧ SI lo w A' n' S)
theorem SRows.keep {Ss : List (List (Nat × Nat))} (h : SRows lo w A n Ss) (k : Keep w w') : SRows lo w' A n Ss := by
  obtain ⟨hl, h⟩ := h
  refine ⟨hl, h.imp id ?_⟩
  rintro ⟨g, cs, t, e, h3, h4⟩
  obtain ⟨c1, k1, k2, k3⟩ := k g cs t h3
  refine ⟨g, c1, t, e, k1, fun j S hj => ?_⟩
  obtain ⟨A', n', c', a1, a3⟩ := h4 j S hj
  exact ⟨A', n', c', k2 j _ _ _ a1, a3.keep k⟩
theorem SRows.lt {Ss : List (List (Nat × Nat))} (h : SRows lo w A n Ss) : ∀ s ∈ Ss.flatten, s.1 < w.heap.size := by
  obtain ⟨hl, h⟩ := h
  intro s hs
  obtain ⟨S, hS, hs⟩ := List.mem_flatten.1 hs
  obtain ⟨j, hj⟩ := List.mem_iff_getElem?.1 hS
  rcases h with h | ⟨g, cs, t, e, h3, h4⟩
  · rw [List.length_eq_zero_iff.1 (hl.trans h)] at hS; simp at hS
  · obtain ⟨A', n', c', a1, a3⟩ := h4 j S hj
    exact a3.lt s hs
/-- layers of rows of numbers, at Sss. -/
def SLays (lo : Nat) (w : World) (A : Option Addr) (n : Nat) (Sss : List (List (List (Nat × Nat)))) : Prop := Sss.length = n ∧ (n = 0 ∨ ∃ (g : Nat) (cs : Array Value) (t : TypeId), A = some ⟨g, 0, none⟩ ∧ w.heap[g]? = some (.cells cs t (0, 0)) ∧ ∀ (j : Nat) Ss, Sss[j]? = some Ss → ∃ A' n' c', cs[j]? = some (.slice A' n' c') ∧ n' ≤ 1048576 ∧ SRows lo w A' n' Ss)
theorem SLays.keep {Sss : List (List (List (Nat × Nat)))} (h : SLays lo w A n Sss) (k : Keep w w') : SLays lo w' A n Sss := by
  obtain ⟨hl, h⟩ := h
  refine ⟨hl, h.imp id ?_⟩
  rintro ⟨g, cs, t, e, h3, h4⟩
  obtain ⟨c1, k1, k2, k3⟩ := k g cs t h3
  refine ⟨g, c1, t, e, k1, fun j S hj => ?_⟩
  obtain ⟨A', n', c', a1, a2, a3⟩ := h4 j S hj
  exact ⟨A', n', c', k2 j _ _ _ a1, a2, a3.keep k⟩
theorem SLays.lt {Sss : List (List (List (Nat × Nat)))} (h : SLays lo w A n Sss) : ∀ s ∈ (Sss.map List.flatten).flatten, s.1 < w.heap.size := by
  obtain ⟨hl, h⟩ := h
  intro s hs
  obtain ⟨S, hS, hs⟩ := List.mem_flatten.1 hs
  obtain ⟨T, hT, rfl⟩ := List.mem_map.1 hS
  obtain ⟨j, hj⟩ := List.mem_iff_getElem?.1 hT
  rcases h with h | ⟨g, cs, t, e, h3, h4⟩
  · rw [List.length_eq_zero_iff.1 (hl.trans h)] at hT; simp at hT
  · obtain ⟨A', n', c', a1, a2, a3⟩ := h4 j T hj
    exact a3.lt s hs
end
set_option maxHeartbeats 4000000 in
theorem markIntW (A : Option Addr) (n c lo : Nat) (k : Int) (S : List (Nat × Nat)) (w : World) (h : SI lo w A n S) (h0 : 0 ≤ k) (h1 : k + S.length ≤ 4611686018427387904) :
    Calls Try.prog 18 #[.slice A n c, .int .i64 k] w fun e w' => e = .returned (.int .i64 (k + S.length)) ∧ Wr lo w w' S k := by
  have hl := h.len
  rw [hl] at h1 ⊢
  have H := Lib.hid h
  have HL := Lib.hid hl
  clear h hl
  go_enter Try.func18, Try.ntmps18
  go_wp2_with fail
  go_loopw [1, 5] (fun t i wr => ∃ j : Nat, j ≤ n ∧ i = .int .i64 j ∧ t = .int .i64 (k + j) ∧ Hid (Wr lo w wr (S.take j) k)) (fun _ i _ => n - (intOf i).toNat)
  case atStart => exact ⟨0, by omega, rfl, by simp, Wr.refl _ _ _⟩
  case round =>
    obtain ⟨j, hj, rfl, rfl, hq⟩ := hrel
    by_cases hlt : j < n
    · rcases H.out.keep hq.out.keep with h | ⟨g, cs, t, rfl, hg1, hg3, hg4, hS⟩
      · omega
      obtain ⟨x, hx⟩ := hg4 j hlt
      have hc : wr.cell? ⟨g, j, none⟩ = some (.int .i64 x) := by rw [cell_of_row wr g j cs t _ hg3]; exact hx
      have hf := frozen_of_row wr g j cs t hg3
      have hs1 : S[j]? = some (g, j) := by rw [hS]; exact seg_at hlt
      have hK := Lib.hid (show Wr lo w (wr.setCell ⟨g, j, none⟩ (.int .i64 (k + j))) (S.take (j + 1)) k by
        rw [take_snoc hs1]
        exact hq.out.trans (Wr.store hg1 hg3 hx) (by rw [List.length_take, HL.out, Nat.min_eq_left (by omega)]))
      clear hg3 hg4 hx hS hs1
      have hadd : wrap64 (k + j + 1) = k + (j + 1 : Nat) := by rw [IntWalk.wrap64_in _ ⟨by omega, by omega⟩]; omega
      go_wp2_with fail
      go_roundw
      case rel => exact ⟨j + 1, by omega, by go_num, by simp; omega, hK⟩
      case measure => simp [intOf]; omega
    · obtain rfl : n = j := by omega
      have ht : S.take n = S := List.take_of_length_le (by rw [HL.out]; omega)
      rw [ht] at hq
      go_wp2_with fail
      go_ret
      exact ⟨rfl, hq.out⟩
set_option maxHeartbeats 4000000 in
theorem markIntSSW (A : Option Addr) (n c lo : Nat) (k : Int) (Ss : List (List (Nat × Nat))) (w : World) (h : SRows lo w A n Ss) (hn : n ≤ 1048576) (h0 : 0 ≤ k) (h1 : k + Ss.flatten.length ≤ 4611686018427387904) :
    Calls Try.prog 56 #[.slice A n c, .int .i64 k] w fun e w' => e = .returned (.int .i64 (k + Ss.flatten.length)) ∧ Wr lo w w' Ss.flatten k := by
  have H := Lib.hid h
  have HL := Lib.hid h.1
  have HB := Lib.hid (fun j => flat_le Ss j)
  clear h
  go_enter Try.func56, Try.ntmps56
  go_wp2_with fail
  go_loopw [1, 5] (fun t i wr => ∃ j : Nat, j ≤ n ∧ i = .int .i64 j ∧ t = .int .i64 (k + (Ss.take j).flatten.length) ∧ Hid (Wr lo w wr (Ss.take j).flatten k)) (fun _ i _ => n - (intOf i).toNat)
  case atStart => exact ⟨0, by omega, rfl, by simp, Wr.refl _ _ _⟩
  case round =>
    obtain ⟨j, hj, rfl, rfl, hq⟩ := hrel
    by_cases hlt : j < n
    · obtain ⟨-, h⟩ := H.out.keep hq.out.keep
      rcases h with h | ⟨g, cs, t, rfl, hg3, hg4⟩
      · omega
      obtain ⟨S, hS⟩ : ∃ S, Ss[j]? = some S := ⟨_, List.getElem?_eq_getElem (by rw [HL.out]; exact hlt)⟩
      obtain ⟨A', n', c', hx, hi'⟩ := hg4 j S hS
      have hc : wr.cell? ⟨g, j, none⟩ = some (.slice A' n' c') := by rw [cell_of_row wr g j cs t _ hg3]; exact hx
      have HI' := Lib.hid hi'
      have hfs := flat_snoc hS
      have hb1 := HB.out (j + 1)
      rw [hfs, List.length_append] at hb1
      have HFS := Lib.hid hfs
      obtain ⟨m, hm⟩ : ∃ m, (Ss.take j).flatten.length = m := ⟨_, rfl⟩
      rw [hm] at hb1 ⊢
      have HM := Lib.hid hm
      clear hg3 hg4 hx hi' hfs hm hS
      go_wp2_with fail
      refine (markIntW _ _ _ lo (k + m) S _ HI'.out (by omega) (by omega)).mono ?_
      rintro e w1 ⟨rfl, ht1⟩
      have hK := Lib.hid (show Wr lo w w1 (Ss.take (j + 1)).flatten k by rw [HFS.out]; exact hq.out.trans ht1 (by rw [HM.out]))
      have hmm : (Ss.take (j + 1)).flatten.length = m + S.length := by rw [HFS.out, List.length_append, HM.out]
      clear ht1 hc
      go_wp2_with fail
      go_roundw
      case rel => exact ⟨j + 1, by omega, by go_num, by rw [hmm]; simp; omega, hK⟩
      case measure => simp [intOf]; omega
    · obtain rfl : n = j := by omega
      have ht : Ss.take n = Ss := List.take_of_length_le (by rw [HL.out]; omega)
      rw [ht] at hq ⊢
      go_wp2_with fail
      go_ret
      exact ⟨rfl, hq.out⟩
set_option maxHeartbeats 4000000 in
theorem heldIntW (A : Option Addr) (n c lo : Nat) (k : Int) (S : List (Nat × Nat)) (w : World) (h : SI lo w A n S) (hh : Holds w S k) (h0 : 0 ≤ k) (h1 : k + S.length ≤ 4611686018427387904) :
    Calls Try.prog 42 #[.slice A n c, .int .i64 k] w fun e w' => e = .returned (.int .i64 (k + S.length)) ∧ Below w.heap.size w w' := by
  have hl := h.len
  rw [hl] at h1 ⊢
  have H := Lib.hid h
  have HH := Lib.hid hh
  clear h hl hh
  go_enter Try.func42, Try.ntmps42
  go_wp2_with fail
  go_loop [1, 5] (fun t i => ∃ j : Nat, j ≤ n ∧ i = .int .i64 j ∧ t = .int .i64 (k + j)) (fun _ i => n - (intOf i).toNat)
  case atStart => exact ⟨0, by omega, rfl, by simp⟩
  case round =>
    obtain ⟨j, hj, rfl, rfl⟩ := hrel
    by_cases hlt : j < n
    · rcases H.out with h | ⟨g, cs, t, rfl, hg1, hg3, hg4, hS⟩
      · omega
      have hc := HH.out j (g, j) (by rw [hS]; exact seg_at hlt)
      have hne : ((k + (j : Int)) != k + (j : Int)) = false := by simp
      have hadd : wrap64 (k + j + 1) = k + (j + 1 : Nat) := by rw [IntWalk.wrap64_in _ ⟨by omega, by omega⟩]; omega
      clear hg3 hg4 hS
      go_wp2_with fail
      go_round
      case rel => exact ⟨j + 1, by omega, by go_num, by simp; omega⟩
      case measure => simp [intOf]; omega
    · obtain rfl : n = j := by omega
      go_wp2_with fail
      go_ret
      exact ⟨rfl, Below.refl _ _⟩
set_option maxHeartbeats 4000000 in
theorem heldIntSSW (A : Option Addr) (n c lo : Nat) (k : Int) (Ss : List (List (Nat × Nat))) (w : World) (h : SRows lo w A n Ss) (hh : Holds w Ss.flatten k) (hn : n ≤ 1048576) (h0 : 0 ≤ k) (h1 : k + Ss.flatten.length ≤ 4611686018427387904) :
    Calls Try.prog 57 #[.slice A n c, .int .i64 k] w fun e w' => e = .returned (.int .i64 (k + Ss.flatten.length)) ∧ Below w.heap.size w w' := by
  have H := Lib.hid h
  have HL := Lib.hid h.1
  have HB := Lib.hid (fun j => flat_le Ss j)
  have HH := Lib.hid hh
  clear h hh
  go_enter Try.func57, Try.ntmps57
  go_wp2_with fail
  go_loopw [1, 5] (fun t i wr => ∃ j : Nat, j ≤ n ∧ i = .int .i64 j ∧ t = .int .i64 (k + (Ss.take j).flatten.length) ∧ Below w.heap.size w wr) (fun _ i _ => n - (intOf i).toNat)
  case atStart => exact ⟨0, by omega, rfl, by simp, Below.refl _ _⟩
  case round =>
    obtain ⟨j, hj, rfl, rfl, hq⟩ := hrel
    by_cases hlt : j < n
    · obtain ⟨-, h⟩ := H.out.keep (Keep.of_below hq)
      rcases h with h | ⟨g, cs, t, rfl, hg3, hg4⟩
      · omega
      obtain ⟨S, hS⟩ : ∃ S, Ss[j]? = some S := ⟨_, List.getElem?_eq_getElem (by rw [HL.out]; exact hlt)⟩
      obtain ⟨A', n', c', hx, hi'⟩ := hg4 j S hS
      have hc : wr.cell? ⟨g, j, none⟩ = some (.slice A' n' c') := by rw [cell_of_row wr g j cs t _ hg3]; exact hx
      have HI' := Lib.hid hi'
      have hfs := flat_snoc hS
      have hb1 := HB.out (j + 1)
      rw [hfs, List.length_append] at hb1
      have hhs : Holds wr S (k + (Ss.take j).flatten.length) := by
        have h2 := (HH.out.below hq H.out.lt)
        rw [← List.take_append_drop (j + 1) Ss, List.flatten_append, hfs, List.append_assoc] at h2
        exact h2.append.2.append.1
      have HHS := Lib.hid hhs
      have HFS := Lib.hid hfs
      obtain ⟨m, hm⟩ : ∃ m, (Ss.take j).flatten.length = m := ⟨_, rfl⟩
      rw [hm] at hb1 HHS ⊢
      have HM := Lib.hid hm
      clear hg3 hg4 hx hi' hfs hm hS hhs
      go_wp2_with fail
      refine (heldIntW _ _ _ lo (k + m) S _ HI'.out HHS.out (by omega) (by omega)).mono ?_
      rintro e w1 ⟨rfl, ht1⟩
      have hmm : (Ss.take (j + 1)).flatten.length = m + S.length := by rw [HFS.out, List.length_append, HM.out]
      have hb := hq.trans (ht1.mono hq.size)
      have hnn : decide (k + (m : Int) + (S.length : Int) < 0) = false := decide_eq_false (by omega)
      clear ht1 hc
      go_wp2_with fail
      go_roundw
      case rel => exact ⟨j + 1, by omega, by go_num, by rw [hmm]; simp; omega, hb⟩
      case measure => simp [intOf]; omega
    · obtain rfl : n = j := by omega
      have ht : Ss.take n = Ss := List.take_of_length_le (by rw [HL.out]; omega)
      rw [ht]
      go_wp2_with fail
      go_ret
      exact ⟨rfl, hq⟩
set_option maxHeartbeats 4000000 in
theorem markIntSSSW (A : Option Addr) (n c lo : Nat) (k : Int) (Sss : List (List (List (Nat × Nat)))) (Ss : List (List (Nat × Nat))) (hSe : Sss.map List.flatten = Ss) (w : World) (h : SLays lo w A n Sss) (hn : n ≤ 1048576) (h0 : 0 ≤ k) (h1 : k + Ss.flatten.length ≤ 4611686018427387904) :
    Calls Try.prog 19 #[.slice A n c, .int .i64 k] w fun e w' => e = .returned (.int .i64 (k + Ss.flatten.length)) ∧ Wr lo w w' Ss.flatten k := by
  have H := Lib.hid h
  have HSE := Lib.hid hSe
  have HL := Lib.hid h.1
  have HB := Lib.hid (fun j => flat_le Ss j)
  clear h hSe
  go_enter Try.func19, Try.ntmps19
  go_wp2_with fail
  go_loopw [1, 5] (fun t i wr => ∃ j : Nat, j ≤ n ∧ i = .int .i64 j ∧ t = .int .i64 (k + (Ss.take j).flatten.length) ∧ Hid (Wr lo w wr (Ss.take j).flatten k)) (fun _ i _ => n - (intOf i).toNat)
  case atStart => exact ⟨0, by omega, rfl, by simp, Wr.refl _ _ _⟩
  case round =>
    obtain ⟨j, hj, rfl, rfl, hq⟩ := hrel
    by_cases hlt : j < n
    · obtain ⟨-, h⟩ := H.out.keep hq.out.keep
      rcases h with h | ⟨g, cs, t, rfl, hg3, hg4⟩
      · omega
      obtain ⟨T, hT⟩ : ∃ T, Sss[j]? = some T := ⟨_, List.getElem?_eq_getElem (by rw [HL.out]; exact hlt)⟩
      obtain ⟨S, hS⟩ : ∃ S, Ss[j]? = some S := ⟨T.flatten, by rw [← HSE.out, List.getElem?_map, hT]; rfl⟩
      have hST : S = T.flatten := by rw [← HSE.out, List.getElem?_map, hT] at hS; simpa using hS.symm
      subst hST
      obtain ⟨A', n', c', hx, hn3, hi'⟩ := hg4 j T hT
      have hc : wr.cell? ⟨g, j, none⟩ = some (.slice A' n' c') := by rw [cell_of_row wr g j cs t _ hg3]; exact hx
      have HI' := Lib.hid hi'
      have hfs := flat_snoc hS
      have hb1 := HB.out (j + 1)
      rw [hfs, List.length_append] at hb1
      have HFS := Lib.hid hfs
      obtain ⟨m, hm⟩ : ∃ m, (Ss.take j).flatten.length = m := ⟨_, rfl⟩
      rw [hm] at hb1 ⊢
      have HM := Lib.hid hm
      clear hg3 hg4 hx hi' hfs hm hS
      go_wp2_with fail
      refine (markIntSSW _ _ _ lo (k + m) T _ HI'.out hn3 (by omega) (by omega)).mono ?_
      rintro e w1 ⟨rfl, ht1⟩
      have hK := Lib.hid (show Wr lo w w1 (Ss.take (j + 1)).flatten k by rw [HFS.out]; exact hq.out.trans ht1 (by rw [HM.out]))
      have hmm : (Ss.take (j + 1)).flatten.length = m + T.flatten.length := by rw [HFS.out, List.length_append, HM.out]
      clear ht1 hc
      go_wp2_with fail
      go_roundw
      case rel => exact ⟨j + 1, by omega, by go_num, by rw [hmm]; simp; omega, hK⟩
      case measure => simp [intOf]; omega
    · obtain rfl : n = j := by omega
      have ht : Ss.take n = Ss := List.take_of_length_le (by rw [← HSE.out, List.length_map, HL.out]; omega)
      rw [ht] at hq ⊢
      go_wp2_with fail
      go_ret
      exact ⟨rfl, hq.out⟩
set_option maxHeartbeats 4000000 in
theorem heldIntSSSW (A : Option Addr) (n c lo : Nat) (k : Int) (Sss : List (List (List (Nat × Nat)))) (Ss : List (List (Nat × Nat))) (hSe : Sss.map List.flatten = Ss) (w : World) (h : SLays lo w A n Sss) (hh : Holds w Ss.flatten k) (hn : n ≤ 1048576) (h0 : 0 ≤ k) (h1 : k + Ss.flatten.length ≤ 4611686018427387904) :
    Calls Try.prog 20 #[.slice A n c, .int .i64 k] w fun e w' => e = .returned (.int .i64 (k + Ss.flatten.length)) ∧ Below w.heap.size w w' := by
  have H := Lib.hid h
  have HSE := Lib.hid hSe
  have HL := Lib.hid h.1
  have HB := Lib.hid (fun j => flat_le Ss j)
  have HH := Lib.hid hh
  clear h hh hSe
  go_enter Try.func20, Try.ntmps20
  go_wp2_with fail
  go_loopw [1, 5] (fun t i wr => ∃ j : Nat, j ≤ n ∧ i = .int .i64 j ∧ t = .int .i64 (k + (Ss.take j).flatten.length) ∧ Below w.heap.size w wr) (fun _ i _ => n - (intOf i).toNat)
  case atStart => exact ⟨0, by omega, rfl, by simp, Below.refl _ _⟩
  case round =>
    obtain ⟨j, hj, rfl, rfl, hq⟩ := hrel
    by_cases hlt : j < n
    · obtain ⟨-, h⟩ := H.out.keep (Keep.of_below hq)
      rcases h with h | ⟨g, cs, t, rfl, hg3, hg4⟩
      · omega
      obtain ⟨T, hT⟩ : ∃ T, Sss[j]? = some T := ⟨_, List.getElem?_eq_getElem (by rw [HL.out]; exact hlt)⟩
      obtain ⟨S, hS⟩ : ∃ S, Ss[j]? = some S := ⟨T.flatten, by rw [← HSE.out, List.getElem?_map, hT]; rfl⟩
      have hST : S = T.flatten := by rw [← HSE.out, List.getElem?_map, hT] at hS; simpa using hS.symm
      subst hST
      obtain ⟨A', n', c', hx, hn3, hi'⟩ := hg4 j T hT
      have hc : wr.cell? ⟨g, j, none⟩ = some (.slice A' n' c') := by rw [cell_of_row wr g j cs t _ hg3]; exact hx
      have HI' := Lib.hid hi'
      have hfs := flat_snoc hS
      have hb1 := HB.out (j + 1)
      rw [hfs, List.length_append] at hb1
      have hhs : Holds wr T.flatten (k + (Ss.take j).flatten.length) := by
        have h2 := (HH.out.below hq (by rw [← HSE.out]; exact H.out.lt))
        rw [← List.take_append_drop (j + 1) Ss, List.flatten_append, hfs, List.append_assoc] at h2
        exact h2.append.2.append.1
      have HHS := Lib.hid hhs
      have HFS := Lib.hid hfs
      obtain ⟨m, hm⟩ : ∃ m, (Ss.take j).flatten.length = m := ⟨_, rfl⟩
      rw [hm] at hb1 HHS ⊢
      have HM := Lib.hid hm
      clear hg3 hg4 hx hi' hfs hm hS hhs
      go_wp2_with fail
      refine (heldIntSSW _ _ _ lo (k + m) T _ HI'.out HHS.out hn3 (by omega) (by omega)).mono ?_
      rintro e w1 ⟨rfl, ht1⟩
      have hmm : (Ss.take (j + 1)).flatten.length = m + T.flatten.length := by rw [HFS.out, List.length_append, HM.out]
      have hb := hq.trans (ht1.mono hq.size)
      have hnn : decide (k + (m : Int) + (T.flatten.length : Int) < 0) = false := decide_eq_false (by omega)
      clear ht1 hc
      go_wp2_with fail
      go_roundw
      case rel => exact ⟨j + 1, by omega, by go_num, by rw [hmm]; simp; omega, hb⟩
      case measure => simp [intOf]; omega
    · obtain rfl : n = j := by omega
      have ht : Ss.take n = Ss := List.take_of_length_le (by rw [← HSE.out, List.length_map, HL.out]; omega)
      rw [ht]
      go_wp2_with fail
      go_ret
      exact ⟨rfl, hq⟩
end Go.Proofs.Ytfmdgdamelkelaa
/- The sites of a diagram that BuildDiagram made. -/
namespace Go.Proofs.Ytfmdgdamelkelaa
open Go.ChangeShapes Go.WideShapes Go.ChangeAt Go.RowKit
open Go.Shelf
set_option linter.unusedVariables false
set_option maxRecDepth 100000

theorem si_own {W : World} {lo n g c : Nat} {A : Option Addr} {x : List Int} (h : OwnI 3 W lo (.slice A n c) x) (hg : (Value.slice A n c).ownBlock = some g) (h6 : x.length = 6) : n = 6 ∧ SI lo W A n (seg g 6) := by
  rcases own_heap h.1 with ⟨-, h5⟩ | ⟨b, cur, rfl, e2, hb, hbw, hh, hc⟩
  · omega
  · injection hg with hg
    have hg' : b = g := hg
    subst hg'
    refine ⟨by omega, .inr ⟨b, cur, _, rfl, hb, hh, fun j hj => ?_, by rw [show n = 6 by omega]⟩⟩
    have hj' : j < x.length := by omega
    exact ⟨x[j], by rw [hc j (by omega), List.getElem?_map, List.getElem?_eq_getElem hj']; rfl⟩
theorem RowsAt.sites {W : World} {lo n c : Nat} {A : Option Addr} {es : List (List Int)} {gs : List Nat} (h : RowsAt W lo (.slice A n c) es gs) (h6 : ∀ x ∈ es, x.length = 6) : n = es.length ∧ SRows lo W A n (gs.map (seg · 6)) := by
  obtain ⟨h1, rs, h2, h3, h4, h5⟩ := h
  rcases own_heap h3 with ⟨e1, e2⟩ | ⟨g, cur, rfl, e2, hb, hbw, hh, hc⟩
  · exact ⟨by omega, by rw [List.length_map]; omega, .inl e1⟩
  · refine ⟨e2, by rw [List.length_map]; omega, .inr ⟨g, cur, _, rfl, hh, fun j S hj => ?_⟩⟩
    rw [List.getElem?_map] at hj
    cases hgj : gs[j]? with
    | none => rw [hgj] at hj; simp at hj
    | some gg =>
      rw [hgj] at hj
      simp at hj
      subst hj
      have hjl : j < gs.length := (List.getElem?_eq_some_iff.1 hgj).1
      have k := h5 j rs[j] es[j] gg (List.getElem?_eq_getElem (by omega)) (List.getElem?_eq_getElem (by omega)) hgj
      obtain ⟨A', n', c', hv⟩ : ∃ A' n' c', rs[j] = .slice A' n' c' := by
        rcases k.1.1.2 with ⟨e, -⟩ | ⟨b, cap, cur, e, -⟩
        · exact ⟨_, _, _, e⟩
        · exact ⟨_, _, _, e⟩
      rw [hv] at k
      have q := si_own k.1 k.2 (h6 _ (List.getElem_mem (by omega)))
      exact ⟨A', n', c', by rw [hc j (by omega), List.getElem?_eq_getElem (by omega), hv], q.2⟩
theorem DgAt.sites {W : World} {lo n c : Nat} {A : Option Addr} {d : List (List (List Int))} {gss : List (List Nat)} (h : DgAt W lo (.slice A n c) d gss) (h6 : ∀ es ∈ d, es.length ≤ 1048576 ∧ ∀ x ∈ es, x.length = 6) : n = d.length ∧ SLays lo W A n (gss.map fun gs => gs.map (seg · 6)) := by
  obtain ⟨h1, rs, h2, h3, h4, h5⟩ := h
  rcases own_heap h3 with ⟨e1, e2⟩ | ⟨g, cur, rfl, e2, hb, hbw, hh, hc⟩
  · exact ⟨by omega, by rw [List.length_map]; omega, .inl e1⟩
  · refine ⟨e2, by rw [List.length_map]; omega, .inr ⟨g, cur, _, rfl, hh, fun j S hj => ?_⟩⟩
    rw [List.getElem?_map] at hj
    cases hgj : gss[j]? with
    | none => rw [hgj] at hj; simp at hj
    | some gg =>
      rw [hgj] at hj
      simp at hj
      subst hj
      have hjl : j < gss.length := (List.getElem?_eq_some_iff.1 hgj).1
      have k := h5 j rs[j] d[j] gg (List.getElem?_eq_getElem (by omega)) (List.getElem?_eq_getElem (by omega)) hgj
      obtain ⟨A', n', c', hv⟩ : ∃ A' n' c', rs[j] = .slice A' n' c' := by
        obtain ⟨-, us, -, k3, -⟩ := k
        rcases k3.2 with ⟨e, -⟩ | ⟨b, cap, cur, e, -⟩
        · exact ⟨_, _, _, e⟩
        · exact ⟨_, _, _, e⟩
      rw [hv] at k
      have hm := h6 _ (List.getElem_mem (show j < d.length by omega))
      have q := k.sites hm.2
      exact ⟨A', n', c', by rw [hc j (by omega), List.getElem?_eq_getElem (by omega), hv], by omega, q.2⟩
theorem seg_mem {g n : Nat} {s : Nat × Nat} (h : s ∈ seg g n) : s.1 = g := by
  unfold seg at h
  obtain ⟨j, -, rfl⟩ := List.mem_map.1 h
  rfl
theorem seg_nodup (g n : Nat) : (seg g n).Nodup := List.Pairwise.map _ (fun a b hab e => hab (by injection e)) List.nodup_range
theorem segs_nodup : ∀ {gs : List Nat}, gs.Nodup → (gs.map (seg · 6)).flatten.Nodup
  | [], _ => by simp
  | g :: gs, h => by
    obtain ⟨h1, h2⟩ := List.nodup_cons.1 h
    rw [List.map_cons, List.flatten_cons, List.nodup_append]
    refine ⟨seg_nodup g 6, segs_nodup h2, fun a ha b hb e => ?_⟩
    subst e
    obtain ⟨S, hS, hs⟩ := List.mem_flatten.1 hb
    obtain ⟨g', hg', rfl⟩ := List.mem_map.1 hS
    exact h1 (by rw [← seg_mem ha, seg_mem hs]; exact hg')
theorem sites_eq : ∀ (gss : List (List Nat)), ((gss.map fun gs => gs.map (seg · 6)).map List.flatten).flatten = (gss.flatten.map (seg · 6)).flatten
  | [] => rfl
  | gs :: gss => by
    have := sites_eq gss
    simp only [List.map_cons, List.flatten_cons, List.map_append, List.flatten_append]
    rw [this]
end Go.Proofs.Ytfmdgdamelkelaa
/- impl's BuildDiagram. -/
namespace Go.Proofs.Ytfmdgdamelkelaa
open Go.ChangeShapes Go.WideShapes Go.ChangeAt Go.RowKit
open Go.Shelf
set_option linter.unusedVariables false
set_option maxRecDepth 100000
attribute [local go_sem] Oper.semAt_some

theorem satOk_all {c : Con} {n : Nat} (hv : vconF c n = true) (h4 : n ≤ 4) {xs : List Int} (hl : xs.length = c.vars.length) (hx : ∀ y ∈ xs, 0 ≤ y ∧ y ≤ 5) : SatOk c xs := by
  obtain ⟨h1, h2, h3⟩ := vcon_vars hv h4
  exact ⟨hl, by omega, by omega, hx, h3⟩
theorem bdg_no {c : Con} {ds : List Int} (h : (dokF ds && vconF c ds.length) = false) : bdgF c ds = [] := by
  unfold bdgF; rw [h]; rfl
theorem bdg_nil {c : Con} {ds : List Int} (h : allF c ds = []) : bdgF c ds = [] := by
  unfold bdgF; rw [if_pos h]; split <;> rfl
/-- the numbered nodes are the diagram. -/
theorem nm_bdg {N : List (List (List Int))} {c : Con} {ds : List Int} {k : Nat} {root : Int} (hok : (dokF ds && vconF c ds.length) = true) (hk : c.vars.length = k) (hG : GInv N k) (hn : allF c ds ≠ []) (hI : IsN N k 0 root) (hL : lang N k 0 root = allF c ds) : nmL N k 0 [root] = bdgF c ds := by
  have h1 := nm_bd hG k 0 [root] (by omega) (fun a ha => by rw [List.mem_singleton.1 ha]; exact hI)
  rw [h1]
  unfold bdgF
  rw [hok, if_pos rfl, if_neg hn, hk]
  show bdL k [lang N k 0 root] = _
  rw [hL]
/-- the beginning: no node. -/
theorem ginv_start (k : Nat) : GInv (List.replicate k []) k := by
  refine ⟨by simp, fun i l a r hl hr => ?_, fun i l hl => ?_⟩
  · rw [List.getElem?_replicate] at hl
    split at hl
    · injection hl with hl; subst hl; simp at hr
    · cases hl
  · rw [List.getElem?_replicate] at hl
    split at hl
    · injection hl with hl; subst hl; simp
    · cases hl
theorem bd5_start (k : Nat) : Bd5 (List.replicate k []) 0 := fun l hl => by rw [(List.mem_replicate.1 hl).2]; simp
theorem info_rows : (Try.prog.info? 99).map (fun i => (i.zero, i.size, i.bytes)) = some (some (.slice none 0 0), 1, 24) := by kernel_rfl
theorem info_maps : (Try.prog.info? 67).map (fun i => (i.zero, i.size, i.bytes)) = some (some (.map none), 1, 8) := by kernel_rfl
/-- the maps made so far. -/
def Maps0 (W : World) (lo j : Nat) (ms : List Value) (bs : List Nat) : Prop := bs.length = j ∧ ms = bs.map (fun b => Value.map (some b)) ∧ bs.Nodup ∧ ∀ b ∈ bs, lo ≤ b ∧ EMap W b 0 []
theorem Maps0.nil (W : World) (lo : Nat) : Maps0 W lo 0 [] [] := ⟨rfl, rfl, by simp, by simp⟩
theorem Maps0.same {W W' : World} {lo j : Nat} {ms : List Value} {bs : List Nat} (h : Maps0 W lo j ms bs) (hb : ∀ b ∈ bs, b < W.heap.size → W'.heap[b]? = W.heap[b]?) : Maps0 W' lo j ms bs :=
  ⟨h.1, h.2.1, h.2.2.1, fun b hm => ⟨(h.2.2.2 b hm).1, (h.2.2.2 b hm).2.heap (hb b hm (h.2.2.2 b hm).2.lt)⟩⟩
theorem Maps0.snoc {W : World} {lo j : Nat} {ms : List Value} {bs : List Nat} (h : Maps0 W lo j ms bs) (hl : lo ≤ W.heap.size) : Maps0 (W.alloc (.map #[] 0)) lo (j + 1) (ms ++ [.map (some W.heap.size)]) (bs ++ [W.heap.size]) := by
  have h' := h.same (W' := W.alloc (.map #[] 0)) (fun b _ hlt => (b_alloc W _).block b hlt)
  refine ⟨by simp [h.1], by rw [h.2.1]; simp, ?_, fun b hb => ?_⟩
  · rw [List.nodup_append]
    refine ⟨h.2.2.1, by simp, fun a ha c hc e => ?_⟩
    have h1 := (h.2.2.2 a ha).2.lt
    rw [List.mem_singleton.1 hc] at e
    omega
  · rcases List.mem_append.1 hb with h1 | h1
    · exact h'.2.2.2 b h1
    · rw [List.mem_singleton.1 h1]
      exact ⟨hl, EMap.made W 0⟩
/-- the maker's state before the first node. -/
theorem mks_start {W : World} {lo k nb lb cl : Nat} {ms : List Value} {bs : List Nat} {Z : Array Value} (hN : TBlk 99 W nb Z) (hZ : Z.toList = List.replicate k (.slice none 0 0)) (hL : W.ownsRow lo 67 1 (.slice (some ⟨lb, 0, none⟩) k cl) k ms) (hM : Maps0 W lo k ms bs) :
    MkS W (fun b => b = nb ∨ b ∈ bs) nb lb (List.replicate k []) := by
  rcases hL.2 with ⟨h, -⟩ | ⟨g, cap, cur, h, -, hc, -, -, -, ht⟩
  · cases h
  · injection h with h
    injection h with h
    injection h with h1 h2
    subst h1
    obtain ⟨m1, m2, m3, m4⟩ := hM
    refine ⟨fun _ => .slice none 0 0, fun i => bs[i]?.getD 0, Z, cur, hN, hc, .inl rfl, fun i l hl => ?_, fun i j hi hj hne => ?_⟩
    · rw [List.getElem?_replicate] at hl
      split at hl
      · rename_i hik
        injection hl with hl
        subst hl
        have hb : bs[i]? = some bs[i] := List.getElem?_eq_getElem (by omega)
        refine ⟨?_, ?_, ⟨⟨none, 0, rfl⟩, by simp, ⟨by simp, .inl ⟨rfl, rfl⟩⟩⟩, ?_, ?_, fun g hg => by cases hg⟩
        · rw [← Array.getElem?_toList, hZ, List.getElem?_replicate, if_pos hik]
        · have h3 : (cur.toList.take (k * 1))[i]? = ms[i]? := by rw [ht]
          rw [List.getElem?_take, if_pos (by omega), Array.getElem?_toList] at h3
          rw [h3, m2, List.getElem?_map, hb]
          simp only [hb, Option.map_some, Option.getD_some]
        · simp only [hb, Option.getD_some]
          exact (m4 _ (List.mem_of_getElem? hb)).2
        · simp only [hb, Option.getD_some]
          exact .inr (List.mem_of_getElem? hb)
      · cases hl
    · rw [List.length_replicate] at hi hj
      refine ⟨fun e => ?_, fun g hg => by cases hg⟩
      have hbi : bs[i]? = some bs[i] := List.getElem?_eq_getElem (by omega)
      have hbj : bs[j]? = some bs[j] := List.getElem?_eq_getElem (by omega)
      simp only [hbi, hbj, Option.getD_some] at e
      exact hne ((List.getElem_inj m3).1 e)
theorem hold_not {w : World} {base n size g : Nat} {e t : TypeId} {v : Value} {xs : List Value} {cs : Array Value} (h : HoldR w base e size v n xs) (hg : v.ownBlock = some g) (hb : TBlk t w g cs) (he : e ≠ t) : False := by
  rcases h.2 with ⟨rfl, -⟩ | ⟨g', cap, cur, rfl, h2, h3, -⟩
  · cases hg
  · injection hg with hg
    subst hg
    rw [show w.heap[g']? = _ from hb] at h3
    injection h3 with h3
    injection h3 with h3 h4
    exact he h4.symm
set_option maxHeartbeats 8000000 in
theorem iBuildDiagram (us : List Value) (c : Con) (A : Option Addr) (n d : Nat) (ds : List Int) (w : World) (h : ConR w w.heap.size us c) (hx : IntR w w.heap.size A n ds) :
    Calls Try.prog 13 #[.agg us.toArray, .slice A n d] w fun e w' => ∃ v, e = .returned v ∧ DgHR w' w.heap.size v (bdgF c ds) ∧ Below w.heap.size w w' := by
  obtain ⟨i1, hi1, hx0, hx1, hx2⟩ := info_parts info_rows
  obtain ⟨i2, hi2, hy0, hy1, hy2⟩ := info_parts info_maps
  have hl := Lib.hid hx.len
  have HC0 := h
  obtain ⟨va, aa, ra, cv, ca, cr, rfl, -⟩ := h
  obtain ⟨wa, hwa⟩ : ∃ wa, wa = w.alloc (.cells #[.int .i64 c.kind, .slice va c.vars.length cv, .slice aa c.args.length ca, .int .i64 c.bound, .slice ra c.rows.length cr] 29) := ⟨_, rfl⟩
  have hb0 : Below w.heap.size w wa := by rw [hwa]; exact b_alloc _ _
  have hsz : wa.heap.size = w.heap.size + 1 := by rw [hwa, size_alloc_]
  have ha : TBlk 29 wa w.heap.size #[.int .i64 c.kind, .slice va c.vars.length cv, .slice aa c.args.length ca, .int .i64 c.bound, .slice ra c.rows.length cr] := by rw [hwa]; exact TBlk.new _ _ _
  have H := Lib.hid (ConR.on HC0 hb0)
  have GX := Lib.hid (IntR.on hx hb0)
  have HA := Lib.hid ha
  have HB0 := Lib.hid hb0
  clear HC0 hx ha hb0
  go_enter Try.func13, Try.ntmps13
  go_wp2_with fail
  rw [← hwa]
  clear hwa
  refine (domainsOk A n d ds wa GX.out).mono ?_
  rintro e w1 ⟨rfl, hb1⟩
  have HA1 := Lib.hid (HA.out.below_ hb1 HA.out.lt)
  have HC1 := Lib.hid (ConR.on H.out hb1)
  have HX1 := Lib.hid (IntR.on GX.out hb1)
  have HB1 := Lib.hid (bgo HB0.out hb1)
  have a0 := HA1.out.at_ 0 rfl
  have a1 := HA1.out.at_ 1 rfl
  have a2 := HA1.out.at_ 2 rfl
  have a3 := HA1.out.at_ 3 rfl
  have a4 := HA1.out.at_ 4 rfl
  clear hb1 HA H GX HB0
  cases t0 : dokF ds
  · have HE := Lib.hid (bdg_no (c := c) (ds := ds) (by rw [t0]; rfl))
    clear t0
    go_wp2_with fail
    go_ret
    exact ⟨_, rfl, by rw [HE.out]; exact DgHR.nil _ _, HB1.out⟩
  · obtain ⟨hl1, hl4, hdoms⟩ := dok_parts t0
    have HDM := Lib.hid hdoms
    have HD := Lib.hid t0
    rw [hl.out] at hl1 hl4
    clear t0 hdoms
    go_wp2_with fail
    refine (iValidConstraint _ c n w1 HC1.out).mono ?_
    rintro e w2 ⟨rfl, hb2⟩
    have HA2 := Lib.hid (HA1.out.below_ hb2 HA1.out.lt)
    have HC2 := Lib.hid (ConR.on HC1.out hb2)
    have HX2 := Lib.hid (IntR.on HX1.out hb2)
    have HB2 := Lib.hid (bgo HB1.out hb2)
    clear hb2 HA1 HC1 HX1 HB1 a0 a1 a2 a3 a4
    cases t1 : vconstF c (n : Int)
    · have HE := Lib.hid (bdg_no (c := c) (ds := ds) (by
        unfold vconstF at t1
        rw [hl.out, HD.out]
        have : inB (n : Int) 1 4 = true := by simp [inB]; omega
        rw [this] at t1
        exact t1))
      clear t1
      go_wp2_with fail
      go_ret
      exact ⟨_, rfl, by rw [HE.out]; exact DgHR.nil _ _, HB2.out⟩
    · have hv : vconF c (n : Int) = true := by
        unfold vconstF at t1
        simp only [Bool.and_eq_true] at t1
        exact t1.2
      obtain ⟨hv1, hv2, -⟩ := vcon_vars hv hl4
      have HV := Lib.hid hv
      have HV2 := Lib.hid hv2
      obtain ⟨k, hk⟩ : ∃ k, c.vars.length = k := ⟨_, rfl⟩
      rw [hk] at hv1
      have HK := Lib.hid hk
      have hk4 : k ≤ 4 := by omega
      have HWL := Lib.hid (show (wordF c.vars ds).length = k by rw [wordF_len, hk])
      have HA2k := HA2.out
      rw [hk] at HA2k
      have HAK := Lib.hid HA2k
      have hck := HC2.out
      rw [hk] at hck
      have HCK := Lib.hid hck
      obtain ⟨Z, hZ, hmk⟩ := make_blk1 (P := Try.prog) 63 99 i1 _ Try.underlying63 hi1 hx0 hx1 rfl k (by rw [hx2]; omega) (by unfold maxLen; omega)
      have HZ := Lib.hid hZ
      have hS : ∀ w', Below w2.heap.size w2 w' → w'.cell? ⟨w.heap.size, 0, none⟩ = some (.int .i64 c.kind) ∧ w'.cell? ⟨w.heap.size, 1, none⟩ = some (.slice va k cv) ∧ w'.cell? ⟨w.heap.size, 2, none⟩ = some (.slice aa c.args.length ca) ∧ w'.cell? ⟨w.heap.size, 3, none⟩ = some (.int .i64 c.bound) ∧ w'.cell? ⟨w.heap.size, 4, none⟩ = some (.slice ra c.rows.length cr) := fun w' h => by
        have k := HAK.out.below_ h HAK.out.lt
        exact ⟨k.at_ 0 rfl, k.at_ 1 rfl, k.at_ 2 rfl, k.at_ 3 rfl, k.at_ 4 rfl⟩
      have HSK := Lib.hid hS
      have hbd : Below w2.heap.size w2 w2.drew := below_drewN (Below.refl _ _) 1
      have hS0 := hS _ hbd
      have hbm : Below w2.heap.size w2 (w2.drew.alloc (.cells Z 99)) := hbd.trans (b_alloc w2.drew _)
      have hSm := hS _ hbm
      have b0 := HAK.out.at_ 0 rfl
      have b1 := HAK.out.at_ 1 rfl
      have b2 := HAK.out.at_ 2 rfl
      have b3 := HAK.out.at_ 3 rfl
      have b4 := HAK.out.at_ 4 rfl
      have hsw : w.heap.size < w2.heap.size := HAK.out.lt
      clear t1 hv hv2 hk HA2k hZ hS HA2 hck
      rw [HK.out]
      go_wp2_with fail
      refine wp_region_held_drew (S := fun w' => w'.cell? ⟨w.heap.size, 0, none⟩ = some (.int .i64 c.kind) ∧ w'.cell? ⟨w.heap.size, 1, none⟩ = some (.slice va k cv) ∧ w'.cell? ⟨w.heap.size, 2, none⟩ = some (.slice aa c.args.length ca) ∧ w'.cell? ⟨w.heap.size, 3, none⟩ = some (.int .i64 c.bound) ∧ w'.cell? ⟨w.heap.size, 4, none⟩ = some (.slice ra c.rows.length cr)) (by kernel_rfl) hS0 (fun hHeld => ?_)
      refine wpAnyH_take (i := 0) (oi := { dst := _, op := _, type := _, pos := _, after := _, guard := _ }) (v := ?va0) rfl (by kernel_rfl) (by kernel_rfl) (by kernel_rfl) (fun _ _ _ h => h) (Or.inl ⟨by rfl, ?ya0⟩) hHeld ?ra0
      case ya0 => (intro w hSw; (try dsimp only at hSw); go_simp; try with_reducible rfl)
      try simp only [Act.put, List.setIfInBounds_toArray, List.set_cons_zero, List.set_cons_succ]
      refine wpAnyH_take (i := 1) (oi := { dst := _, op := _, type := _, pos := _, after := _, guard := _ }) (v := ?va1) rfl (by kernel_rfl) (by kernel_rfl) (by kernel_rfl) (fun _ _ _ h => h) (Or.inl ⟨by rfl, ?ya1⟩) hHeld ?ra1
      case ya1 => (intro w hSw; (try dsimp only at hSw); go_simp; try with_reducible rfl)
      try simp only [Act.put, List.setIfInBounds_toArray, List.set_cons_zero, List.set_cons_succ]
      refine wpAnyH_take (i := 2) (oi := { dst := _, op := _, type := _, pos := _, after := _, guard := _ }) (v := ?va2) rfl (by kernel_rfl) (by kernel_rfl) (by kernel_rfl) (fun _ _ _ h => h) (Or.inl ⟨by rfl, ?ya2⟩) hHeld ?ra2
      case ya2 => (intro w hSw; (try dsimp only at hSw); go_simp; try with_reducible rfl)
      try simp only [Act.put, List.setIfInBounds_toArray, List.set_cons_zero, List.set_cons_succ]
      refine wpAnyH_take (i := 4) (oi := { dst := _, op := _, type := _, pos := _, after := _, guard := _ }) (v := ?va4) rfl (by kernel_rfl) (by kernel_rfl) (by kernel_rfl) (fun _ _ _ h => h) (Or.inl ⟨by rfl, ?ya4⟩) hHeld ?ra4
      case ya4 => (intro w hSw; (try dsimp only at hSw); go_simp; try with_reducible rfl)
      try simp only [Act.put, List.setIfInBounds_toArray, List.set_cons_zero, List.set_cons_succ]
      refine wpAnyH_take (i := 5) (oi := { dst := _, op := _, type := _, pos := _, after := _, guard := _ }) (v := ?va5) rfl (by kernel_rfl) (by kernel_rfl) (by kernel_rfl) (fun _ _ _ h => h) (Or.inl ⟨by rfl, ?ya5⟩) hHeld ?ra5
      case ya5 => (intro w hSw; (try dsimp only at hSw); go_simp; try with_reducible rfl)
      try simp only [Act.put, List.setIfInBounds_toArray, List.set_cons_zero, List.set_cons_succ]
      refine wpAnyH_take (i := 6) (oi := { dst := _, op := _, type := _, pos := _, after := _, guard := _ }) (v := ?va6) rfl (by kernel_rfl) (by kernel_rfl) (by kernel_rfl) (fun _ _ _ h => h) (Or.inl ⟨by rfl, ?ya6⟩) hHeld ?ra6
      case ya6 => (intro w hSw; (try dsimp only at hSw); go_simp; try with_reducible rfl)
      try simp only [Act.put, List.setIfInBounds_toArray, List.set_cons_zero, List.set_cons_succ]
      refine wpAnyH_ready (rs := [3, 7]) (by kernel_rfl) (by simp) ?_
      refine AllReadyH.cons (o := { dst := _, op := _, type := _, pos := _, after := _, guard := _ }) rfl (fun K hK => ?_) (AllReadyH.cons (o := { dst := _, op := _, type := _, pos := _, after := _, guard := _ }) rfl (fun K hK => ?_) AllReadyH.nil)
      · go_simp
        refine (iword _ c A n d ds w2.drew (ConR.on HCK.out hbd) (IntR.on HX2.out hbd) HV2.out (by rw [HK.out]; exact hk4)).mono ?_
        rintro e Wq ⟨v, rfl, ow, hBq⟩
        have ow1 := ow.1
        rw [HWL.out] at ow1
        obtain ⟨Aw, cw, rfl⟩ := (HoldR.of_own ow1).form
        have hb8 := bgo hbd hBq
        have hSq := HSK.out _ hb8
        obtain ⟨Wz, hWz⟩ : ∃ Wz, Wq.alloc (.cells Z 99) = Wz := ⟨_, rfl⟩
        obtain ⟨nbv, hnb⟩ : ∃ nbv, Wq.heap.size = nbv := ⟨_, rfl⟩
        have hbz : Below w2.heap.size w2 Wz := by rw [← hWz]; exact hb8.trans ((b_alloc Wq _).mono hb8.size)
        have TZ : TBlk 99 Wz nbv Z := by rw [← hWz, ← hnb]; exact TBlk.new _ _ _
        have hnw : w2.heap.size ≤ nbv := by rw [← hnb]; exact hb8.size
        have hwo := own_base (own_below ow1 (show Below Wq.heap.size Wq Wz by rw [← hWz]; exact b_alloc _ _)) hbd.size
        have hSz := HSK.out _ hbz
        have HBZ := Lib.hid (And.intro hbz (And.intro TZ (HoldR.of_own hwo)))
        clear ow ow1 hBq hb8 hbz TZ hwo
        refine hK.out _ _ ?_ (fun hHeld => ?_)
        · exact hSq
        clear hK K
        try simp only [Act.put, List.setIfInBounds_toArray, List.set_cons_zero, List.set_cons_succ]
        refine wpAnyH_ready (rs := [7]) (by kernel_rfl) (by simp) ?_
        refine AllReadyH.cons (o := { dst := _, op := _, type := _, pos := _, after := _, guard := _ }) rfl (fun K hK => ?_) AllReadyH.nil
        go_simp
        refine hK.out _ _ ?_ (fun hHeld => ?_)
        · exact hSz
        clear hK K
        try simp only [Act.put, List.setIfInBounds_toArray, List.set_cons_zero, List.set_cons_succ]
        refine wpAnyH_take (i := 8) (oi := { dst := _, op := _, type := _, pos := _, after := _, guard := _ }) (v := ?vd8) rfl (by kernel_rfl) (by kernel_rfl) (by kernel_rfl) (fun _ _ _ h => h) (Or.inl ⟨by rfl, ?yd8⟩) hHeld ?rd8
        case yd8 => (intro w hSw; (try dsimp only at hSw); go_simp; try with_reducible rfl)
        try simp only [Act.put, List.setIfInBounds_toArray, List.set_cons_zero, List.set_cons_succ]
        refine wpAnyH_ready (rs := [9]) (by kernel_rfl) (by simp) ?_
        refine AllReadyH.cons (o := { dst := _, op := _, type := _, pos := _, after := _, guard := _ }) rfl (fun K hK => ?_) AllReadyH.nil
        go_simp
        refine hK.out _ _ ?_ (fun hHeld => ?_)
        · exact HSK.out _ (HBZ.out.1.trans ((b_alloc Wz _).mono HBZ.out.1.size))
        clear hK K
        try simp only [Act.put, List.setIfInBounds_toArray, List.set_cons_zero, List.set_cons_succ]
        refine wpAnyH_take (i := 10) (oi := { dst := _, op := _, type := _, pos := _, after := _, guard := _ }) (v := ?vd10) rfl (by kernel_rfl) (by kernel_rfl) (by kernel_rfl) (fun _ _ _ h => h) (Or.inl ⟨by rfl, ?yd10⟩) hHeld ?rd10
        case yd10 => (intro w hSw; (try dsimp only at hSw); go_simp; try with_reducible rfl)
        try simp only [Act.put, List.setIfInBounds_toArray, List.set_cons_zero, List.set_cons_succ]
        refine wpAnyH_done (by kernel_rfl) ?_ _
        obtain ⟨wM, hwM⟩ : ∃ wM, Wz.alloc (.cells #[.int .i64 c.kind, .slice va k cv, .slice aa c.args.length ca, .int .i64 c.bound, .slice ra c.rows.length cr, .slice Aw k cw, .slice none 0 0, .slice (some ⟨nbv, 0, none⟩) k k] 66) = wM := ⟨_, rfl⟩
        have hsM : wM.heap.size = Wz.heap.size + 1 := by rw [← hwM, size_alloc_]
        have hbM : Below Wz.heap.size Wz wM := by rw [← hwM]; exact b_alloc _ _
        have TM : TBlk 66 wM Wz.heap.size #[.int .i64 c.kind, .slice va k cv, .slice aa c.args.length ca, .int .i64 c.bound, .slice ra c.rows.length cr, .slice Aw k cw, .slice none 0 0, .slice (some ⟨nbv, 0, none⟩) k k] := by rw [← hwM]; exact TBlk.new _ _ _
        have HTM := Lib.hid TM
        have HBM := Lib.hid hbM
        have hnz := HBZ.out.2.1.lt
        have hzz := HBZ.out.1.size
        have c1 : wM.cell? ⟨w.heap.size, 1, none⟩ = some (.slice va k cv) := (HAK.out.below_ (HBZ.out.1.trans (hbM.mono HBZ.out.1.size)) HAK.out.lt).at_ 1 rfl
        clear TM hbM hHeld b0 b1 b2 b3 b4 hS0 hSm hSz hmk
        go_wp2_with fail
        clear hwM c1
        go_loopw [30] (fun t30 wr => ∃ (j : Nat) (Lv : Value) (ms : List Value) (bs : List Nat), j ≤ k ∧ t30 = .int .i64 j ∧ Hid (TBlk 66 wr Wz.heap.size #[.int .i64 c.kind, .slice va k cv, .slice aa c.args.length ca, .int .i64 c.bound, .slice ra c.rows.length cr, .slice Aw k cw, Lv, .slice (some ⟨nbv, 0, none⟩) k k]) ∧ Hid (wr.ownsRow wM.heap.size 67 1 Lv j ms) ∧ Hid (Maps0 wr wM.heap.size j ms bs) ∧ Hid (Below Wz.heap.size Wz wr) ∧ wM.heap.size ≤ wr.heap.size) (fun i _ => k - (intOf i).toNat)
        case atStart => exact ⟨0, _, [], [], by omega, rfl, HTM, Lib.hid ⟨by simp, .inl ⟨rfl, rfl⟩⟩, Lib.hid (Maps0.nil _ _), HBM, Nat.le_refl _⟩
        case round =>
          obtain ⟨j, Lv, ms, bs, hj, rfl, hT, hO, hM, hB, hzr⟩ := hrel
          rename World => wr
          obtain ⟨AL, cL, rfl⟩ := (HoldR.of_own hO.out).form
          by_cases hjk : j < k
          · have c6 := hT.out.at_ 6 rfl
            have hmm := @run_makeMap Try.prog
            obtain ⟨wn, hwn⟩ : ∃ wn, wr.alloc (.map #[] 0) = wn := ⟨_, rfl⟩
            have hsn : wn.heap.size = wr.heap.size + 1 := by rw [← hwn, size_alloc_]
            have hbn : Below wr.heap.size wr wn := by rw [← hwn]; exact b_alloc _ _
            obtain ⟨ws, hws⟩ : ∃ ws, wn.alloc (.cells #[.map (some wr.heap.size)] 67) = ws := ⟨_, rfl⟩
            have hss : ws.heap.size = wr.heap.size + 2 := by rw [← hws, size_alloc_, hsn]
            have hbs : Below wr.heap.size wr ws := hbn.trans (by rw [← hws]; exact (b_alloc _ _).mono (by omega))
            have hMs : Maps0 ws wM.heap.size (j + 1) (ms ++ [.map (some wr.heap.size)]) (bs ++ [wr.heap.size]) := by
              have h1 := hM.out.snoc hzr
              rw [hwn] at h1
              exact h1.same (fun b _ hlt => by rw [← hws]; exact (b_alloc wn _).block b hlt)
            have sr : Src ws 1 (some ⟨wr.heap.size + 1, 0, none⟩) 1 1 [.map (some wr.heap.size)] := by
              rw [← hws, ← hsn]
              exact src_own (World.ownsRow_lit (e := 67) (size := 1) wn #[.map (some wr.heap.size)] 1 (Nat.le_refl _) (by decide) rfl)
            have oS := own_below hO.out hbs
            have HOS := Lib.hid oS
            have HMS := Lib.hid hMs
            have HBS := Lib.hid hbs
            have HT7 := Lib.hid (hT.out.below_ hbs hT.out.lt)
            clear hbn hbs hMs
            go_wp2_with (at_builtin; refine wpList_append_any rfl _ _ 64 rfl wM.heap.size 67 i2 _ 1 8 Try.underlying64 hi2 hy0 hy1 hy2 rfl (by decide) (.slice AL j cL) j ms rfl oS (some ⟨wr.heap.size + 1, 0, none⟩) 1 1 [.map (some wr.heap.size)] rfl sr (by simp [Value.oneCell']) (by unfold maxLen; omega) (by omega) (by omega) ?_; intro v7 w7 ho7 hb7 hg7 _; have t7 := HT7.out.below_ hb7 (show Wz.heap.size < wM.heap.size by omega); have d6 := t7.at_ 6 rfl; have e6 := t7.frozen 6; obtain ⟨A7, c7, rfl⟩ := (HoldR.of_own ho7).form)
            clear hws hwn sr oS
            go_roundw
            case rel =>
              have hs7 := hg7.size
              refine ⟨j + 1, .slice A7 (j + 1) c7, ms ++ [.map (some wr.heap.size)], bs ++ [wr.heap.size], by omega, by go_num, Lib.hid ?_, Lib.hid ?_, Lib.hid ?_, Lib.hid ?_, by simp; omega⟩
              · exact t7.store 6 (.slice A7 (j + 1) c7)
              · exact own_eq ho7 (fun g hg _ => Below.heap_setCell w7 ⟨Wz.heap.size, 6, none⟩ _ g (fun e => by
                  have e : g = Wz.heap.size := e
                  have := (HoldR.of_own ho7).geBase hg
                  omega))
              · refine (HMS.out.same (W' := w7) (fun b hb hlt => hg7.block b hlt (fun e => ?_))).same (fun b hb _ => Below.heap_setCell w7 ⟨Wz.heap.size, 6, none⟩ _ b (fun e => ?_))
                · exact own_notE HOS.out e.symm (HMS.out.2.2.2 b hb).2
                · have e : b = Wz.heap.size := e
                  have := (HMS.out.2.2.2 b hb).1
                  omega
              · have h1 : Below Wz.heap.size Wz w7 := (hB.out.trans (HBS.out.mono (by omega))).trans (hb7.mono (by omega))
                exact h1.setCell (Nat.le_refl _) _
            case measure => simp [intOf]; omega
          · obtain rfl : j = k := by omega
            have hk := HK.out
            subst hk
            obtain ⟨lb, rfl, hlb1, hlb2⟩ := (HoldR.of_own hO.out).pos (by omega)
            have hBwr : Below w2.heap.size w2 wr := HBZ.out.1.trans (hB.out.mono HBZ.out.1.size)
            have hbsz := hB.out.size
            have TN := HBZ.out.2.1.below_ hB.out HBZ.out.2.1.lt
            have hS0 := mks_start TN HZ.out hO.out hM.out
            have hD : MkD wr w2.heap.size Wz.heap.size c.vars.length cw _ c [.int .i64 c.kind, .slice va c.vars.length cv, .slice aa c.args.length ca, .int .i64 c.bound, .slice ra c.rows.length cr] (wordF c.vars ds) Aw := ⟨hT.out, ConR.keeps _ _ _ _ _ (fun p hp => hBwr.cell hp) HCK.out, (HBZ.out.2.2.base_ (Nat.zero_le _)).below hB.out, hBwr.size⟩
            have hX : ∀ b, (b = nbv ∨ b ∈ bs) → w2.heap.size ≤ b ∧ b < wr.heap.size := fun b hb => by
              rcases hb with hb | hb
              · rw [hb]; exact ⟨hnw, by omega⟩
              · have h1 := hM.out.2.2.2 b hb
                exact ⟨by have := h1.1; omega, h1.2.lt⟩
            have hNX : NX (fun b => b = nbv ∨ b ∈ bs) Wz.heap.size c.vars.length cw Aw := ⟨fun h => by
              rcases h with h | h
              · omega
              · have := (hM.out.2.2.2 Wz.heap.size h).1; omega, fun g hg h => by
              have hgl := HBZ.out.2.2.ownLt hg
              rcases h with h | h
              · subst h
                exact hold_not HBZ.out.2.2 hg HBZ.out.2.1 (by decide)
              · have := (hM.out.2.2.2 g h).1; omega⟩
            have hwd : ∀ x ∈ wordF c.vars ds, 0 ≤ x ∧ x ≤ 63 := word_doms (by rw [hl.out]; exact HV2.out) HDM.out
            have h7 : 7 ^ c.vars.length ≤ 7 ^ 4 := Nat.pow_le_pow_right (by omega) hk4
            have hCALL := inode w2.heap.size Wz.heap.size nbv lb c.vars.length cv ca cr cw cL c.vars.length va aa ra Aw c (wordF c.vars ds) HWL.out hk4 hwd (fun xs h1 h2 => satOk_all HV.out hl4 h1 h2) c.vars.length 0 [] wr (fun b => b = nbv ∨ b ∈ bs) (List.replicate c.vars.length []) none 0 0 (by omega) (by simp) (HoldR.nil _ _ _ _) (fun g hg => by cases hg) hD hNX hX hS0 (ginv_start _) (bd5_start _) (by omega)
            have HCALL := Lib.hid hCALL
            have HXX := Lib.hid (And.intro hX (And.intro hNX (And.intro hT.out hBwr)))
            clear hCALL hX hNX hD hS0 TN hBwr hwd h7 hT hO hM HTM HBM
            go_wp2_with fail
            refine HCALL.out.mono ?_
            rintro e w' ⟨a, N', Y, rfl, S', hY, K', G', -, B', R'⟩
            have HB' : Below w.heap.size w w' := (HB2.out.trans (HXX.out.2.2.2.mono (by omega))).trans (K'.below (fun b _ h => by have := (HXX.out.1 b h).1; omega) (by omega))
            rcases R' with ⟨ra1, rn⟩ | ⟨ri, rl, rn⟩
            · subst ra1
              have HE := Lib.hid (bdg_nil (c := c) (ds := ds) rn)
              clear S' hY K' G' B' rn HCALL
              go_wp2_with fail
              go_ret
              exact ⟨_, rfl, by rw [HE.out]; exact DgHR.nil _ _, HB'⟩
            · have h0 := ri.1
              have hd0 : decide (a < 0) = false := decide_eq_false (by have := ri.1; omega)
              have TB := K'.blk HXX.out.2.2.1 HXX.out.2.1.1
              have h7 : 7 ^ c.vars.length ≤ 7 ^ 4 := Nat.pow_le_pow_right (by omega) hk4
              have hCALL := inumbered Wz.heap.size nbv lb c.vars.length c.vars.length _ rfl Y N' a w' TB S' G' ri (by omega) hk4 (B'.mono (by omega))
              have HE := Lib.hid (nm_bdg (c := c) (ds := ds) (by rw [HD.out, hl.out, HV.out]; rfl) rfl G' rn ri rl)
              have HC2' := Lib.hid hCALL
              have HBB := Lib.hid HB'
              have hszz := HB'.size
              clear S' hY K' G' B' rn HCALL ri rl TB hCALL HB'
              go_wp2_with fail
              refine HC2'.out.mono ?_
              rintro e w'' ⟨v, rfl, hv, hb''⟩
              go_wp2_with fail
              go_ret
              exact ⟨v, rfl, by rw [← HE.out]; exact hv.base_ (by omega), bgo HBB.out hb''⟩
      · go_simp
        refine hK.out _ _ ?_ (fun hHeld => ?_)
        · exact hSm
        clear hK K
        try simp only [Act.put, List.setIfInBounds_toArray, List.set_cons_zero, List.set_cons_succ]
        refine wpAnyH_ready (rs := [3]) (by kernel_rfl) (by simp) ?_
        refine AllReadyH.cons (o := { dst := _, op := _, type := _, pos := _, after := _, guard := _ }) rfl (fun K hK => ?_) AllReadyH.nil
        go_simp
        refine (iword _ c A n d ds (w2.drew.alloc (.cells Z 99)) (ConR.on HCK.out hbm) (IntR.on HX2.out hbm) HV2.out (by rw [HK.out]; exact hk4)).mono ?_
        rintro e Wz ⟨v, rfl, ow, hBq⟩
        have ow1 := ow.1
        rw [HWL.out] at ow1
        obtain ⟨Aw, cw, rfl⟩ := (HoldR.of_own ow1).form
        have hbz := bgo hbm hBq
        obtain ⟨nbv, hnb⟩ : ∃ nbv, w2.heap.size = nbv := ⟨_, rfl⟩
        have TZ : TBlk 99 Wz nbv Z := by rw [← hnb]; exact (TBlk.new w2.drew Z 99).below_ hBq (TBlk.new w2.drew Z 99).lt
        have hnw : w2.heap.size ≤ nbv := by omega
        have hwo := own_base ow1 (show w2.heap.size ≤ (w2.drew.alloc (.cells Z 99)).heap.size by exact hbm.size)
        have hSz := HSK.out _ hbz
        have HBZ := Lib.hid (And.intro hbz (And.intro TZ (HoldR.of_own hwo)))
        clear ow ow1 hBq hbz TZ hwo
        refine hK.out _ _ ?_ (fun hHeld => ?_)
        · exact hSz
        clear hK K
        try simp only [Act.put, List.setIfInBounds_toArray, List.set_cons_zero, List.set_cons_succ]
        refine wpAnyH_take (i := 8) (oi := { dst := _, op := _, type := _, pos := _, after := _, guard := _ }) (v := ?ve8) rfl (by kernel_rfl) (by kernel_rfl) (by kernel_rfl) (fun _ _ _ h => h) (Or.inl ⟨by rfl, ?ye8⟩) hHeld ?re8
        case ye8 => (intro w hSw; (try dsimp only at hSw); go_simp; try with_reducible rfl)
        try simp only [Act.put, List.setIfInBounds_toArray, List.set_cons_zero, List.set_cons_succ]
        refine wpAnyH_ready (rs := [9]) (by kernel_rfl) (by simp) ?_
        refine AllReadyH.cons (o := { dst := _, op := _, type := _, pos := _, after := _, guard := _ }) rfl (fun K hK => ?_) AllReadyH.nil
        go_simp
        refine hK.out _ _ ?_ (fun hHeld => ?_)
        · exact HSK.out _ (HBZ.out.1.trans ((b_alloc Wz _).mono HBZ.out.1.size))
        clear hK K
        try simp only [Act.put, List.setIfInBounds_toArray, List.set_cons_zero, List.set_cons_succ]
        refine wpAnyH_take (i := 10) (oi := { dst := _, op := _, type := _, pos := _, after := _, guard := _ }) (v := ?ve10) rfl (by kernel_rfl) (by kernel_rfl) (by kernel_rfl) (fun _ _ _ h => h) (Or.inl ⟨by rfl, ?ye10⟩) hHeld ?re10
        case ye10 => (intro w hSw; (try dsimp only at hSw); go_simp; try with_reducible rfl)
        try simp only [Act.put, List.setIfInBounds_toArray, List.set_cons_zero, List.set_cons_succ]
        refine wpAnyH_done (by kernel_rfl) ?_ _
        obtain ⟨wM, hwM⟩ : ∃ wM, Wz.alloc (.cells #[.int .i64 c.kind, .slice va k cv, .slice aa c.args.length ca, .int .i64 c.bound, .slice ra c.rows.length cr, .slice Aw k cw, .slice none 0 0, .slice (some ⟨nbv, 0, none⟩) k k] 66) = wM := ⟨_, rfl⟩
        have hsM : wM.heap.size = Wz.heap.size + 1 := by rw [← hwM, size_alloc_]
        have hbM : Below Wz.heap.size Wz wM := by rw [← hwM]; exact b_alloc _ _
        have TM : TBlk 66 wM Wz.heap.size #[.int .i64 c.kind, .slice va k cv, .slice aa c.args.length ca, .int .i64 c.bound, .slice ra c.rows.length cr, .slice Aw k cw, .slice none 0 0, .slice (some ⟨nbv, 0, none⟩) k k] := by rw [← hwM]; exact TBlk.new _ _ _
        have HTM := Lib.hid TM
        have HBM := Lib.hid hbM
        have hnz := HBZ.out.2.1.lt
        have hzz := HBZ.out.1.size
        have c1 : wM.cell? ⟨w.heap.size, 1, none⟩ = some (.slice va k cv) := (HAK.out.below_ (HBZ.out.1.trans (hbM.mono HBZ.out.1.size)) HAK.out.lt).at_ 1 rfl
        clear TM hbM hHeld b0 b1 b2 b3 b4 hS0 hSm hSz hmk
        go_wp2_with fail
        clear hwM c1
        go_loopw [30] (fun t30 wr => ∃ (j : Nat) (Lv : Value) (ms : List Value) (bs : List Nat), j ≤ k ∧ t30 = .int .i64 j ∧ Hid (TBlk 66 wr Wz.heap.size #[.int .i64 c.kind, .slice va k cv, .slice aa c.args.length ca, .int .i64 c.bound, .slice ra c.rows.length cr, .slice Aw k cw, Lv, .slice (some ⟨nbv, 0, none⟩) k k]) ∧ Hid (wr.ownsRow wM.heap.size 67 1 Lv j ms) ∧ Hid (Maps0 wr wM.heap.size j ms bs) ∧ Hid (Below Wz.heap.size Wz wr) ∧ wM.heap.size ≤ wr.heap.size) (fun i _ => k - (intOf i).toNat)
        case atStart => exact ⟨0, _, [], [], by omega, rfl, HTM, Lib.hid ⟨by simp, .inl ⟨rfl, rfl⟩⟩, Lib.hid (Maps0.nil _ _), HBM, Nat.le_refl _⟩
        case round =>
          obtain ⟨j, Lv, ms, bs, hj, rfl, hT, hO, hM, hB, hzr⟩ := hrel
          rename World => wr
          obtain ⟨AL, cL, rfl⟩ := (HoldR.of_own hO.out).form
          by_cases hjk : j < k
          · have c6 := hT.out.at_ 6 rfl
            have hmm := @run_makeMap Try.prog
            obtain ⟨wn, hwn⟩ : ∃ wn, wr.alloc (.map #[] 0) = wn := ⟨_, rfl⟩
            have hsn : wn.heap.size = wr.heap.size + 1 := by rw [← hwn, size_alloc_]
            have hbn : Below wr.heap.size wr wn := by rw [← hwn]; exact b_alloc _ _
            obtain ⟨ws, hws⟩ : ∃ ws, wn.alloc (.cells #[.map (some wr.heap.size)] 67) = ws := ⟨_, rfl⟩
            have hss : ws.heap.size = wr.heap.size + 2 := by rw [← hws, size_alloc_, hsn]
            have hbs : Below wr.heap.size wr ws := hbn.trans (by rw [← hws]; exact (b_alloc _ _).mono (by omega))
            have hMs : Maps0 ws wM.heap.size (j + 1) (ms ++ [.map (some wr.heap.size)]) (bs ++ [wr.heap.size]) := by
              have h1 := hM.out.snoc hzr
              rw [hwn] at h1
              exact h1.same (fun b _ hlt => by rw [← hws]; exact (b_alloc wn _).block b hlt)
            have sr : Src ws 1 (some ⟨wr.heap.size + 1, 0, none⟩) 1 1 [.map (some wr.heap.size)] := by
              rw [← hws, ← hsn]
              exact src_own (World.ownsRow_lit (e := 67) (size := 1) wn #[.map (some wr.heap.size)] 1 (Nat.le_refl _) (by decide) rfl)
            have oS := own_below hO.out hbs
            have HOS := Lib.hid oS
            have HMS := Lib.hid hMs
            have HBS := Lib.hid hbs
            have HT7 := Lib.hid (hT.out.below_ hbs hT.out.lt)
            clear hbn hbs hMs
            go_wp2_with (at_builtin; refine wpList_append_any rfl _ _ 64 rfl wM.heap.size 67 i2 _ 1 8 Try.underlying64 hi2 hy0 hy1 hy2 rfl (by decide) (.slice AL j cL) j ms rfl oS (some ⟨wr.heap.size + 1, 0, none⟩) 1 1 [.map (some wr.heap.size)] rfl sr (by simp [Value.oneCell']) (by unfold maxLen; omega) (by omega) (by omega) ?_; intro v7 w7 ho7 hb7 hg7 _; have t7 := HT7.out.below_ hb7 (show Wz.heap.size < wM.heap.size by omega); have d6 := t7.at_ 6 rfl; have e6 := t7.frozen 6; obtain ⟨A7, c7, rfl⟩ := (HoldR.of_own ho7).form)
            clear hws hwn sr oS
            go_roundw
            case rel =>
              have hs7 := hg7.size
              refine ⟨j + 1, .slice A7 (j + 1) c7, ms ++ [.map (some wr.heap.size)], bs ++ [wr.heap.size], by omega, by go_num, Lib.hid ?_, Lib.hid ?_, Lib.hid ?_, Lib.hid ?_, by simp; omega⟩
              · exact t7.store 6 (.slice A7 (j + 1) c7)
              · exact own_eq ho7 (fun g hg _ => Below.heap_setCell w7 ⟨Wz.heap.size, 6, none⟩ _ g (fun e => by
                  have e : g = Wz.heap.size := e
                  have := (HoldR.of_own ho7).geBase hg
                  omega))
              · refine (HMS.out.same (W' := w7) (fun b hb hlt => hg7.block b hlt (fun e => ?_))).same (fun b hb _ => Below.heap_setCell w7 ⟨Wz.heap.size, 6, none⟩ _ b (fun e => ?_))
                · exact own_notE HOS.out e.symm (HMS.out.2.2.2 b hb).2
                · have e : b = Wz.heap.size := e
                  have := (HMS.out.2.2.2 b hb).1
                  omega
              · have h1 : Below Wz.heap.size Wz w7 := (hB.out.trans (HBS.out.mono (by omega))).trans (hb7.mono (by omega))
                exact h1.setCell (Nat.le_refl _) _
            case measure => simp [intOf]; omega
          · obtain rfl : j = k := by omega
            have hk := HK.out
            subst hk
            obtain ⟨lb, rfl, hlb1, hlb2⟩ := (HoldR.of_own hO.out).pos (by omega)
            have hBwr : Below w2.heap.size w2 wr := HBZ.out.1.trans (hB.out.mono HBZ.out.1.size)
            have hbsz := hB.out.size
            have TN := HBZ.out.2.1.below_ hB.out HBZ.out.2.1.lt
            have hS0 := mks_start TN HZ.out hO.out hM.out
            have hD : MkD wr w2.heap.size Wz.heap.size c.vars.length cw _ c [.int .i64 c.kind, .slice va c.vars.length cv, .slice aa c.args.length ca, .int .i64 c.bound, .slice ra c.rows.length cr] (wordF c.vars ds) Aw := ⟨hT.out, ConR.keeps _ _ _ _ _ (fun p hp => hBwr.cell hp) HCK.out, (HBZ.out.2.2.base_ (Nat.zero_le _)).below hB.out, hBwr.size⟩
            have hX : ∀ b, (b = nbv ∨ b ∈ bs) → w2.heap.size ≤ b ∧ b < wr.heap.size := fun b hb => by
              rcases hb with hb | hb
              · rw [hb]; exact ⟨hnw, by omega⟩
              · have h1 := hM.out.2.2.2 b hb
                exact ⟨by have := h1.1; omega, h1.2.lt⟩
            have hNX : NX (fun b => b = nbv ∨ b ∈ bs) Wz.heap.size c.vars.length cw Aw := ⟨fun h => by
              rcases h with h | h
              · omega
              · have := (hM.out.2.2.2 Wz.heap.size h).1; omega, fun g hg h => by
              have hgl := HBZ.out.2.2.ownLt hg
              rcases h with h | h
              · subst h
                exact hold_not HBZ.out.2.2 hg HBZ.out.2.1 (by decide)
              · have := (hM.out.2.2.2 g h).1; omega⟩
            have hwd : ∀ x ∈ wordF c.vars ds, 0 ≤ x ∧ x ≤ 63 := word_doms (by rw [hl.out]; exact HV2.out) HDM.out
            have h7 : 7 ^ c.vars.length ≤ 7 ^ 4 := Nat.pow_le_pow_right (by omega) hk4
            have hCALL := inode w2.heap.size Wz.heap.size nbv lb c.vars.length cv ca cr cw cL c.vars.length va aa ra Aw c (wordF c.vars ds) HWL.out hk4 hwd (fun xs h1 h2 => satOk_all HV.out hl4 h1 h2) c.vars.length 0 [] wr (fun b => b = nbv ∨ b ∈ bs) (List.replicate c.vars.length []) none 0 0 (by omega) (by simp) (HoldR.nil _ _ _ _) (fun g hg => by cases hg) hD hNX hX hS0 (ginv_start _) (bd5_start _) (by omega)
            have HCALL := Lib.hid hCALL
            have HXX := Lib.hid (And.intro hX (And.intro hNX (And.intro hT.out hBwr)))
            clear hCALL hX hNX hD hS0 TN hBwr hwd h7 hT hO hM HTM HBM
            go_wp2_with fail
            refine HCALL.out.mono ?_
            rintro e w' ⟨a, N', Y, rfl, S', hY, K', G', -, B', R'⟩
            have HB' : Below w.heap.size w w' := (HB2.out.trans (HXX.out.2.2.2.mono (by omega))).trans (K'.below (fun b _ h => by have := (HXX.out.1 b h).1; omega) (by omega))
            rcases R' with ⟨ra1, rn⟩ | ⟨ri, rl, rn⟩
            · subst ra1
              have HE := Lib.hid (bdg_nil (c := c) (ds := ds) rn)
              clear S' hY K' G' B' rn HCALL
              go_wp2_with fail
              go_ret
              exact ⟨_, rfl, by rw [HE.out]; exact DgHR.nil _ _, HB'⟩
            · have h0 := ri.1
              have hd0 : decide (a < 0) = false := decide_eq_false (by have := ri.1; omega)
              have TB := K'.blk HXX.out.2.2.1 HXX.out.2.1.1
              have h7 : 7 ^ c.vars.length ≤ 7 ^ 4 := Nat.pow_le_pow_right (by omega) hk4
              have hCALL := inumbered Wz.heap.size nbv lb c.vars.length c.vars.length _ rfl Y N' a w' TB S' G' ri (by omega) hk4 (B'.mono (by omega))
              have HE := Lib.hid (nm_bdg (c := c) (ds := ds) (by rw [HD.out, hl.out, HV.out]; rfl) rfl G' rn ri rl)
              have HC2' := Lib.hid hCALL
              have HBB := Lib.hid HB'
              have hszz := HB'.size
              clear S' hY K' G' B' rn HCALL ri rl TB hCALL HB'
              go_wp2_with fail
              refine HC2'.out.mono ?_
              rintro e w'' ⟨v, rfl, hv, hb''⟩
              go_wp2_with fail
              go_ret
              exact ⟨v, rfl, by rw [← HE.out]; exact hv.base_ (by omega), bgo HBB.out hb''⟩
end Go.Proofs.Ytfmdgdamelkelaa
/- The result of impl's BuildDiagram: how it reads, and where its numbers lie. -/
namespace Go.Proofs.Ytfmdgdamelkelaa
open Go.ChangeShapes Go.WideShapes Go.ChangeAt Go.RowKit
open Go.Shelf
set_option linter.unusedVariables false
set_option maxRecDepth 100000

theorem hold_heap {w : World} {base n m c : Nat} {e : TypeId} {A : Option Addr} {xs : List Value} (h : HoldR w base e 1 (.slice A n c) m xs) : (n = 0 ∧ m = 0) ∨ ∃ (g : Nat) (cur : Array Value), A = some ⟨g, 0, none⟩ ∧ n = m ∧ base ≤ g ∧ g < w.heap.size ∧ w.heap[g]? = some (.cells cur e (0, 0)) ∧ ∀ j, j < m → cur[j]? = xs[j]? := by
  rcases h.2 with ⟨h1, h2⟩ | ⟨g, cap, cur, hv, hg, hh, hcap, hmax, ht⟩
  · injection h1 with _ e1 _
    exact .inl ⟨e1, h2⟩
  · injection hv with e1 e2 e3
    refine .inr ⟨g, cur, e1, e2, hg, (Array.getElem?_eq_some_iff.1 hh).1, hh, fun j hj => ?_⟩
    rw [← ht, List.getElem?_take, if_pos (by omega), Array.getElem?_toList]
theorem hold_slr {α : Type} {R : World → Nat → Value → α → Prop} {W : World} {lo : Nat} {e : TypeId} {v : Value} {xs : List α} {us : List Value} (h : HoldR W lo e 1 v xs.length us) (hl : xs.length ≤ 9223372036854775807) (hR : ∀ (i : Nat) u x, us[i]? = some u → xs[i]? = some x → R W W.heap.size u x) : RowC R W W.heap.size v xs := by
  have hul : us.length = xs.length := by have := h.1; omega
  obtain ⟨A, c, rfl⟩ := h.form
  refine ⟨A, c, rfl, rfl, hl, fun hn => ?_⟩
  rcases hold_heap h with ⟨e1, -⟩ | ⟨g, cur, rfl, -, -, hg, hh, hc⟩
  · omega
  · refine ⟨g, 0, rfl, hg, fun k x hx => ?_⟩
    have hk : k < xs.length := (List.getElem?_eq_some_iff.1 hx).1
    have hu : us[k]? = some us[k] := List.getElem?_eq_getElem (by omega)
    exact ⟨us[k], by rw [Nat.zero_add, cell_of_row W g k cur e _ hh, hc k hk, hu], hR k _ _ hu hx⟩
theorem DgHR.lays {W : World} {lo : Nat} {v : Value} {d : List (List (List Int))} (h : DgHR W lo v d) : RowC (RowC (RowC IntC)) W W.heap.size v d := by
  obtain ⟨gss, us, h1, ⟨h2, h3, h4⟩, h5, h6⟩ := h
  refine hold_slr h1 (by omega) (fun i u es hu he => ?_)
  have hi : i < d.length := (List.getElem?_eq_some_iff.1 he).1
  obtain ⟨rs, k1, ⟨k2, k3, k4⟩, k5⟩ := h4 i u es gss[i] hu he (List.getElem?_eq_getElem (by omega))
  refine hold_slr k1 (by omega) (fun j r x hr hx => ?_)
  have hj : j < es.length := (List.getElem?_eq_some_iff.1 hx).1
  obtain ⟨m1, m2⟩ := k4 j r x gss[i][j] hr hx (List.getElem?_eq_getElem (by omega))
  by_cases hxl : x.length ≤ 9223372036854775807
  · refine hold_slr m1 hxl (fun q u z hq hz => ?_)
    rw [List.getElem?_map, hz] at hq
    simp at hq
    exact hq.symm
  · exfalso
    rcases m1.2 with ⟨-, h0⟩ | ⟨g, cap, cur, -, -, -, hc, hm, -⟩
    · omega
    · unfold maxLen at hm; omega
theorem DgHR.same {W W' : World} {lo : Nat} {v : Value} {d : List (List (List Int))} (h : DgHR W lo v d) (hb : ∀ g, lo ≤ g → g < W.heap.size → W'.heap[g]? = W.heap[g]?) : DgHR W' lo v d := by
  obtain ⟨gss, us, h1, ⟨h2, h3, h4⟩, h5⟩ := h
  refine ⟨gss, us, h1.same fun g hg hlt => hb g (h1.geBase hg) hlt, ⟨h2, h3, fun i u es gs hu he hg => ?_⟩, h5⟩
  obtain ⟨rs, k1, k2, k3⟩ := h4 i u es gs hu he hg
  exact ⟨rs, k1.same fun g hg hlt => hb g (k1.geBase hg) hlt, k2.same fun g hg hlt => hb g (k2.lt g hg).1 hlt, k3⟩
theorem si_hold {W : World} {lo n g c : Nat} {A : Option Addr} {x : List Int} (h : HoldR W lo 3 1 (.slice A n c) x.length (x.map (.int .i64))) (hg : (Value.slice A n c).ownBlock = some g) (h6 : x.length = 6) : n = 6 ∧ SI lo W A n (seg g 6) := by
  rcases hold_heap h with ⟨-, h5⟩ | ⟨b, cur, rfl, e2, hb, hbw, hh, hc⟩
  · omega
  · injection hg with hg
    have hg' : b = g := hg
    subst hg'
    refine ⟨by omega, .inr ⟨b, cur, _, rfl, hb, hh, fun j hj => ?_, by rw [show n = 6 by omega]⟩⟩
    have hj' : j < x.length := by omega
    exact ⟨x[j], by rw [hc j (by omega), List.getElem?_map, List.getElem?_eq_getElem hj']; rfl⟩
theorem RowsH.sites {W : World} {lo n c : Nat} {A : Option Addr} {es : List (List Int)} {gs : List Nat} {rs : List Value} (h : RowsH W lo es gs rs) (h3 : HoldR W lo 22 1 (.slice A n c) es.length rs) (h6 : ∀ x ∈ es, x.length = 6) : n = es.length ∧ SRows lo W A n (gs.map (seg · 6)) := by
  obtain ⟨h1, h2, h5⟩ := h
  rcases hold_heap h3 with ⟨e1, e2⟩ | ⟨g, cur, rfl, e2, hb, hbw, hh, hc⟩
  · exact ⟨by omega, by rw [List.length_map]; omega, .inl e1⟩
  · refine ⟨e2, by rw [List.length_map]; omega, .inr ⟨g, cur, _, rfl, hh, fun j S hj => ?_⟩⟩
    rw [List.getElem?_map] at hj
    cases hgj : gs[j]? with
    | none => rw [hgj] at hj; simp at hj
    | some gg =>
      rw [hgj] at hj
      simp at hj
      subst hj
      have hjl : j < gs.length := (List.getElem?_eq_some_iff.1 hgj).1
      have k := h5 j rs[j] es[j] gg (List.getElem?_eq_getElem (by omega)) (List.getElem?_eq_getElem (by omega)) hgj
      obtain ⟨A', c', hv⟩ := k.1.form
      rw [hv] at k
      have q := si_hold k.1 k.2 (h6 _ (List.getElem_mem (by omega)))
      exact ⟨A', _, c', by rw [hc j (by omega), List.getElem?_eq_getElem (by omega), hv], q.2⟩
theorem segs_len (gs : List Nat) : (gs.map (seg · 6)).flatten.length = 6 * gs.length := by
  induction gs with
  | nil => rfl
  | cons g gs ih => rw [List.map_cons, List.flatten_cons, List.length_append, seg_len, ih, List.length_cons]; omega
theorem flat_bd {gss : List (List Nat)} {M : Nat} (h : ∀ gs ∈ gss, gs.length ≤ M) : gss.flatten.length ≤ gss.length * M := by
  induction gss with
  | nil => simp
  | cons g gs ih =>
    rw [List.flatten_cons, List.length_append, List.length_cons, Nat.succ_mul]
    have := h g (by simp)
    have := ih (fun x hx => h x (by simp [hx]))
    omega
theorem DgHR.sites {W : World} {lo n c : Nat} {A : Option Addr} {d : List (List (List Int))} (h : DgHR W lo (.slice A n c) d) (hs : DgSh d) : ∃ (Sss : List (List (List (Nat × Nat)))) (Ss : List (List (Nat × Nat))), Sss.map List.flatten = Ss ∧ SLays lo W A n Sss ∧ Ss.flatten.Nodup ∧ Ss.flatten.length ≤ 120000 ∧ n ≤ 4 := by
  obtain ⟨gss, us, h3, ⟨h1, h2, h5⟩, hn, -⟩ := h
  have h6 := hs.2
  refine ⟨gss.map fun gs => gs.map (seg · 6), _, rfl, ?_, ?_, ?_, ?_⟩
  · rcases hold_heap h3 with ⟨e1, e2⟩ | ⟨g, cur, rfl, e2, hb, hbw, hh, hc⟩
    · exact ⟨by rw [List.length_map]; omega, .inl e1⟩
    · refine ⟨by rw [List.length_map]; omega, .inr ⟨g, cur, _, rfl, hh, fun j S hj => ?_⟩⟩
      rw [List.getElem?_map] at hj
      cases hgj : gss[j]? with
      | none => rw [hgj] at hj; simp at hj
      | some gg =>
        rw [hgj] at hj
        simp at hj
        subst hj
        have hjl : j < gss.length := (List.getElem?_eq_some_iff.1 hgj).1
        obtain ⟨rs, k1, k2, k3⟩ := h5 j us[j] d[j] gg (List.getElem?_eq_getElem (by omega)) (List.getElem?_eq_getElem (by omega)) hgj
        obtain ⟨A', c', hv⟩ := k1.form
        rw [hv] at k1
        have hm := h6 _ (List.getElem_mem (show j < d.length by omega))
        have q := k2.sites k1 hm.2.2
        exact ⟨A', _, c', by rw [hc j (by omega), List.getElem?_eq_getElem (by omega), hv], by omega, q.2⟩
  · rw [sites_eq]; exact segs_nodup hn
  · rw [sites_eq, segs_len]
    have h7 := flat_bd (gss := gss) (M := 5000) (fun gs hgs => by
      obtain ⟨i, hi, e⟩ := List.getElem_of_mem hgs
      obtain ⟨rs, -, ⟨k2, -, -⟩, -⟩ := h5 i us[i] d[i] gs (List.getElem?_eq_getElem (by omega)) (List.getElem?_eq_getElem (by omega)) (by rw [List.getElem?_eq_getElem hi, e])
      have := h6 _ (List.getElem_mem (show i < d.length by omega))
      omega)
    have h8 := hs.1
    have h9 : gss.length * 5000 ≤ 4 * 5000 := Nat.mul_le_mul_right _ (by omega)
    omega
  · have h8 := hs.1
    rcases hold_heap h3 with ⟨e1, e2⟩ | ⟨g, cur, -, e2, -⟩ <;> omega
end Go.Proofs.Ytfmdgdamelkelaa
