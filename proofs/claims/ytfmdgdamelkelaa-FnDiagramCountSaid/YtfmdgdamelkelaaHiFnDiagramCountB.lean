/- Texts laid into one: MarkD DgW DgX. -/
import Derived.Test.YtfmdgdamelkelaaHiFnDiagramCountA
import Derived.Deep.Cut
/- (printed by gmarkd.py) Which number cells a value holds, in the order in which they are marked; what marking leaves. No program in sight. -/
namespace Go.Proofs.Ytfmdgdamelkelaa
open Go.ChangeShapes Go.WideShapes Go.ChangeAt Go.RowKit
open Go.Shelf
set_option linter.unusedVariables false
set_option maxRecDepth 100000
attribute [local go_sem] Oper.semAt_some

/-- the cells of S hold k, k + 1, ..; every other cell is as it was. -/
structure Wr (lo : Nat) (w w' : World) (S : List (Nat × Nat)) (k : Int) : Prop where
  below : Below lo w w'
  keep : Keep w w'
  old : ∀ (b j : Nat), b < w.heap.size → (b, j) ∉ S → w'.cell? ⟨b, j, none⟩ = w.cell? ⟨b, j, none⟩
  set : S.Nodup → ∀ (i : Nat) s, S[i]? = some s → w'.cell? ⟨s.1, s.2, none⟩ = some (.int .i64 (k + i))
  lt : ∀ s ∈ S, s.1 < w'.heap.size
/-- the cells of S hold k, k + 1, .. -/
def Holds (w : World) (S : List (Nat × Nat)) (k : Int) : Prop := ∀ (i : Nat) s, S[i]? = some s → w.cell? ⟨s.1, s.2, none⟩ = some (.int .i64 (k + i))
section
variable {lo : Nat} {w w1 w2 w' : World} {S T : List (Nat × Nat)} {k : Int}
theorem Wr.refl (lo : Nat) (w : World) (k : Int) : Wr lo w w [] k := ⟨Below.refl _ _, Keep.refl _, fun _ _ _ _ => rfl, fun _ i s h => by simp at h, fun s h => by simp at h⟩
theorem Wr.of_below (hb : Below w.heap.size w w') (hl : lo ≤ w.heap.size) : Wr lo w w' [] k := ⟨hb.mono hl, Keep.of_below hb, fun b j hs _ => hb.cell (p := ⟨b, j, none⟩) hs, fun _ i s h => by simp at h, fun s h => by simp at h⟩
theorem Wr.trans {k2 : Int} (h : Wr lo w w1 S k) (g : Wr lo w1 w2 T k2) (hk : k2 = k + S.length) : Wr lo w w2 (S ++ T) k := by
  subst hk
  have hS := h.lt
  refine ⟨h.below.trans g.below, h.keep.trans g.keep, fun b j hb hn => ?_, fun hnd i s hi => ?_, fun s hs => (List.mem_append.1 hs).elim (fun h1 => Nat.lt_of_lt_of_le (h.lt s h1) g.below.size) (g.lt s)⟩
  · rw [List.mem_append, not_or] at hn
    exact (g.old b j (Nat.lt_of_lt_of_le hb h.below.size) hn.2).trans (h.old b j hb hn.1)
  · obtain ⟨n1, n2, n3⟩ := List.nodup_append.1 hnd
    rcases Nat.lt_or_ge i S.length with hl | hl
    · rw [List.getElem?_append_left hl] at hi
      have hm := List.mem_of_getElem? hi
      have := g.old s.1 s.2 (hS s hm) (fun hc => n3 s hm _ hc rfl)
      exact this.trans (h.set n1 i s hi)
    · rw [List.getElem?_append_right hl] at hi
      have := g.set n2 _ s hi
      rw [this]
      congr 2
      omega
theorem Wr.store {g j : Nat} {cs : Array Value} {t : TypeId} {x : Int} (hl : lo ≤ g) (hg : w.heap[g]? = some (.cells cs t (0, 0))) (hj : cs[j]? = some (.int .i64 x)) : Wr lo w (w.setCell ⟨g, j, none⟩ (.int .i64 k)) [(g, j)] k := by
  have hc : w.cell? ⟨g, j, none⟩ = some (.int .i64 x) := by rw [cell_of_row w g j cs t _ hg]; exact hj
  refine ⟨(Below.refl _ _).setCell (by simpa using hl) _, Keep.store hg hj, fun b j' hb hn => ?_, fun _ i s hi => ?_, fun s hs => by simp at hs; subst hs; simpa using lt_heap hg⟩
  · refine World.cell?_setCell_other _ _ _ _ (fun e => hn ?_)
    injection e with e1 e2
    rw [← e1, ← e2]; simp
  · match i, hi with
    | 0, hi =>
      simp at hi
      subst hi
      rw [World.cell?_setCell_same _ _ _ hc]
      simp
    | i + 1, hi => simp at hi
theorem Wr.nil_left (h : Wr lo w w1 [] k) (g : Wr lo w1 w2 T k) : Wr lo w w2 T k := by
  have := h.trans g (by simp)
  simpa using this
theorem Wr.nil_right {k2 : Int} (h : Wr lo w w1 S k) (g : Wr lo w1 w2 [] k2) : Wr lo w w2 S k :=
  ⟨h.below.trans g.below, h.keep.trans g.keep, fun b j hb hn => (g.old b j (Nat.lt_of_lt_of_le hb h.below.size) (by simp)).trans (h.old b j hb hn), fun hnd i s hi => (g.old s.1 s.2 (h.lt s (List.mem_of_getElem? hi)) (by simp)).trans (h.set hnd i s hi), fun s hs => Nat.lt_of_lt_of_le (h.lt s hs) g.below.size⟩
theorem Holds.of_wr (h : Wr lo w w' S k) (hn : S.Nodup) : Holds w' S k := h.set hn
theorem Holds.append (h : Holds w (S ++ T) k) : Holds w S k ∧ Holds w T (k + S.length) := by
  refine ⟨fun i s hi => h i s ?_, fun i s hi => ?_⟩
  · rw [List.getElem?_append_left (by
      rcases Nat.lt_or_ge i S.length with hl | hl
      · exact hl
      · rw [List.getElem?_eq_none hl] at hi; cases hi)]; exact hi
  · have := h (S.length + i) s (by rw [List.getElem?_append_right (by omega)]; rw [show S.length + i - S.length = i by omega]; exact hi)
    rw [this]
    congr 2
    omega
theorem Holds.below (h : Holds w S k) (hb : Below w.heap.size w w') (hS : ∀ s ∈ S, s.1 < w.heap.size) : Holds w' S k := fun i s hi => (hb.cell (p := ⟨s.1, s.2, none⟩) (hS s (List.mem_of_getElem? hi))).trans (h i s hi)
end
section
variable {lo n : Nat} {w w' : World} {A : Option Addr}
/-- the first n cells of block g. -/
def seg (g n : Nat) : List (Nat × Nat) := (List.range n).map fun j => (g, j)
theorem seg_len (g n : Nat) : (seg g n).length = n := by simp [seg]
theorem seg_at {g n j : Nat} (h : j < n) : (seg g n)[j]? = some (g, j) := by simp [seg, h]
theorem seg_take {g n j : Nat} (h : j ≤ n) : (seg g n).take j = seg g j := by
  unfold seg
  rw [← List.map_take, List.take_range, Nat.min_eq_left h]
theorem seg_succ (g j : Nat) : seg g (j + 1) = seg g j ++ [(g, j)] := by simp [seg, List.range_succ]
theorem take_snoc {α : Type} {S : List α} {j : Nat} {s : α} (h : S[j]? = some s) : S.take (j + 1) = S.take j ++ [s] := by rw [List.take_add_one, h]; rfl
theorem flat_snoc {α : Type} {Ss : List (List α)} {j : Nat} {S : List α} (h : Ss[j]? = some S) : (Ss.take (j + 1)).flatten = (Ss.take j).flatten ++ S := by rw [take_snoc h]; simp
theorem flat_le {α : Type} (Ss : List (List α)) (j : Nat) : (Ss.take j).flatten.length ≤ Ss.flatten.length := by
  have := congrArg (fun l => l.flatten.length) (List.take_append_drop j Ss)
  simp only [List.flatten_append, List.length_append] at this
  omega
/-- numbers, at S. -/
def SI (lo : Nat) (w : World) (A : Option Addr) (n : Nat) (S : List (Nat × Nat)) : Prop := (n = 0 ∧ S = []) ∨ ∃ (g : Nat) (cs : Array Value) (t : TypeId), A = some ⟨g, 0, none⟩ ∧ lo ≤ g ∧ w.heap[g]? = some (.cells cs t (0, 0)) ∧ (∀ j, j < n → ∃ x, cs[j]? = some (.int .i64 x)) ∧ S = seg g n
theorem SI.keep {S : List (Nat × Nat)} (h : SI lo w A n S) (k : Keep w w') : SI lo w' A n S := by
  rcases h with h | ⟨g, cs, t, e, h1, h3, h4, h5⟩
  · exact .inl h
  · obtain ⟨c1, k1, k2, k3⟩ := k g cs t h3
    refine .inr ⟨g, c1, t, e, h1, k1, fun j hj => ?_, h5⟩
    obtain ⟨x, hx⟩ := h4 j hj
    exact k3 j x hx
theorem SI.len {S : List (Nat × Nat)} (h : SI lo w A n S) : S.length = n := by
  rcases h with ⟨h1, h2⟩ | ⟨g, cs, t, e, h1, h3, h4, h5⟩
  · rw [h1, h2]; rfl
  · rw [h5, seg_len]
theorem SI.lt {S : List (Nat × Nat)} (h : SI lo w A n S) : ∀ s ∈ S, s.1 < w.heap.size := by
  rcases h with ⟨h1, h2⟩ | ⟨g, cs, t, e, h1, h3, h4, h5⟩
  · rw [h2]; simp
  · intro s hs
    rw [h5] at hs
    unfold seg at hs
    obtain ⟨j, -, rfl⟩ := List.mem_map.1 hs
    exact lt_heap h3
/-- rows of numbers, at Ss. -/
def SRows (lo : Nat) (w : World) (A : Option Addr) (n : Nat) (Ss : List (List (Nat × Nat))) : Prop := Ss.length = n ∧ (n = 0 ∨ ∃ (g : Nat) (cs : Array Value) (t : TypeId), A = some ⟨g, 0, none⟩ ∧ w.heap[g]? = some (.cells cs t (0, 0)) ∧ ∀ (j : Nat) S, Ss[j]? = some S → ∃ A' n' c', cs[j]? = some (.slice A' n' c') ∧ SI lo w A' n' S)
theorem SRows.keep {Ss : List (List (Nat × Nat))} (h : SRows lo w A n Ss) (k : Keep w w') : SRows lo w' A n Ss := by
  obtain ⟨hl, h⟩ := h
  refine ⟨hl, h.imp id ?_⟩
  rintro ⟨g, cs, t, e, h3, h4⟩
  obtain ⟨c1, k1, k2, k3⟩ := k g cs t h3
  refine ⟨g, c1, t, e, k1, fun j S hj => ?_⟩
  obtain ⟨A', n', c', a1, a3⟩ := h4 j S hj
  exact ⟨A', n', c', k2 j _ _ _ a1, a3.keep k⟩
theorem SRows.lt {Ss : List (List (Nat × Nat))} (h : SRows lo w A n Ss) : ∀ s ∈ Ss.flatten, s.1 < w.heap.size := by
  obtain ⟨hl, h⟩ := h
  intro s hs
  obtain ⟨S, hS, hs⟩ := List.mem_flatten.1 hs
  obtain ⟨j, hj⟩ := List.mem_iff_getElem?.1 hS
  rcases h with h | ⟨g, cs, t, e, h3, h4⟩
  · rw [List.length_eq_zero_iff.1 (hl.trans h)] at hS; simp at hS
  · obtain ⟨A', n', c', a1, a3⟩ := h4 j S hj
    exact a3.lt s hs
/-- layers of rows of numbers, at Sss. -/
def SLays (lo : Nat) (w : World) (A : Option Addr) (n : Nat) (Sss : List (List (List (Nat × Nat)))) : Prop := Sss.length = n ∧ (n = 0 ∨ ∃ (g : Nat) (cs : Array Value) (t : TypeId), A = some ⟨g, 0, none⟩ ∧ w.heap[g]? = some (.cells cs t (0, 0)) ∧ ∀ (j : Nat) Ss, Sss[j]? = some Ss → ∃ A' n' c', cs[j]? = some (.slice A' n' c') ∧ n' ≤ 1048576 ∧ SRows lo w A' n' Ss)
theorem SLays.keep {Sss : List (List (List (Nat × Nat)))} (h : SLays lo w A n Sss) (k : Keep w w') : SLays lo w' A n Sss := by
  obtain ⟨hl, h⟩ := h
  refine ⟨hl, h.imp id ?_⟩
  rintro ⟨g, cs, t, e, h3, h4⟩
  obtain ⟨c1, k1, k2, k3⟩ := k g cs t h3
  refine ⟨g, c1, t, e, k1, fun j S hj => ?_⟩
  obtain ⟨A', n', c', a1, a2, a3⟩ := h4 j S hj
  exact ⟨A', n', c', k2 j _ _ _ a1, a2, a3.keep k⟩
theorem SLays.lt {Sss : List (List (List (Nat × Nat)))} (h : SLays lo w A n Sss) : ∀ s ∈ (Sss.map List.flatten).flatten, s.1 < w.heap.size := by
  obtain ⟨hl, h⟩ := h
  intro s hs
  obtain ⟨S, hS, hs⟩ := List.mem_flatten.1 hs
  obtain ⟨T, hT, rfl⟩ := List.mem_map.1 hS
  obtain ⟨j, hj⟩ := List.mem_iff_getElem?.1 hT
  rcases h with h | ⟨g, cs, t, e, h3, h4⟩
  · rw [List.length_eq_zero_iff.1 (hl.trans h)] at hT; simp at hT
  · obtain ⟨A', n', c', a1, a2, a3⟩ := h4 j T hj
    exact a3.lt s hs
end
set_option maxHeartbeats 4000000 in
theorem markIntW (A : Option Addr) (n c lo : Nat) (k : Int) (S : List (Nat × Nat)) (w : World) (h : SI lo w A n S) (h0 : 0 ≤ k) (h1 : k + S.length ≤ 4611686018427387904) :
    Calls Try.prog 18 #[.slice A n c, .int .i64 k] w fun e w' => e = .returned (.int .i64 (k + S.length)) ∧ Wr lo w w' S k := by
  have hl := h.len
  rw [hl] at h1 ⊢
  have H := Lib.hid h
  have HL := Lib.hid hl
  clear h hl
  go_enter Try.func18, Try.ntmps18
  go_wp2_with fail
  go_loopw [1, 5] (fun t i wr => ∃ j : Nat, j ≤ n ∧ i = .int .i64 j ∧ t = .int .i64 (k + j) ∧ Hid (Wr lo w wr (S.take j) k)) (fun _ i _ => n - (intOf i).toNat)
  case atStart => exact ⟨0, by omega, rfl, by simp, Wr.refl _ _ _⟩
  case round =>
    obtain ⟨j, hj, rfl, rfl, hq⟩ := hrel
    by_cases hlt : j < n
    · rcases H.out.keep hq.out.keep with h | ⟨g, cs, t, rfl, hg1, hg3, hg4, hS⟩
      · omega
      obtain ⟨x, hx⟩ := hg4 j hlt
      have hc : wr.cell? ⟨g, j, none⟩ = some (.int .i64 x) := by rw [cell_of_row wr g j cs t _ hg3]; exact hx
      have hf := frozen_of_row wr g j cs t hg3
      have hs1 : S[j]? = some (g, j) := by rw [hS]; exact seg_at hlt
      have hK := Lib.hid (show Wr lo w (wr.setCell ⟨g, j, none⟩ (.int .i64 (k + j))) (S.take (j + 1)) k by
        rw [take_snoc hs1]
        exact hq.out.trans (Wr.store hg1 hg3 hx) (by rw [List.length_take, HL.out, Nat.min_eq_left (by omega)]))
      clear hg3 hg4 hx hS hs1
      have hadd : wrap64 (k + j + 1) = k + (j + 1 : Nat) := by rw [IntWalk.wrap64_in _ ⟨by omega, by omega⟩]; omega
      go_wp2_with fail
      go_roundw
      case rel => exact ⟨j + 1, by omega, by go_num, by simp; omega, hK⟩
      case measure => simp [intOf]; omega
    · obtain rfl : n = j := by omega
      have ht : S.take n = S := List.take_of_length_le (by rw [HL.out]; omega)
      rw [ht] at hq
      go_wp2_with fail
      go_ret
      exact ⟨rfl, hq.out⟩
set_option maxHeartbeats 4000000 in
theorem markIntSSW (A : Option Addr) (n c lo : Nat) (k : Int) (Ss : List (List (Nat × Nat))) (w : World) (h : SRows lo w A n Ss) (hn : n ≤ 1048576) (h0 : 0 ≤ k) (h1 : k + Ss.flatten.length ≤ 4611686018427387904) :
    Calls Try.prog 56 #[.slice A n c, .int .i64 k] w fun e w' => e = .returned (.int .i64 (k + Ss.flatten.length)) ∧ Wr lo w w' Ss.flatten k := by
  have H := Lib.hid h
  have HL := Lib.hid h.1
  have HB := Lib.hid (fun j => flat_le Ss j)
  clear h
  go_enter Try.func56, Try.ntmps56
  go_wp2_with fail
  go_loopw [1, 5] (fun t i wr => ∃ j : Nat, j ≤ n ∧ i = .int .i64 j ∧ t = .int .i64 (k + (Ss.take j).flatten.length) ∧ Hid (Wr lo w wr (Ss.take j).flatten k)) (fun _ i _ => n - (intOf i).toNat)
  case atStart => exact ⟨0, by omega, rfl, by simp, Wr.refl _ _ _⟩
  case round =>
    obtain ⟨j, hj, rfl, rfl, hq⟩ := hrel
    by_cases hlt : j < n
    · obtain ⟨-, h⟩ := H.out.keep hq.out.keep
      rcases h with h | ⟨g, cs, t, rfl, hg3, hg4⟩
      · omega
      obtain ⟨S, hS⟩ : ∃ S, Ss[j]? = some S := ⟨_, List.getElem?_eq_getElem (by rw [HL.out]; exact hlt)⟩
      obtain ⟨A', n', c', hx, hi'⟩ := hg4 j S hS
      have hc : wr.cell? ⟨g, j, none⟩ = some (.slice A' n' c') := by rw [cell_of_row wr g j cs t _ hg3]; exact hx
      have HI' := Lib.hid hi'
      have hfs := flat_snoc hS
      have hb1 := HB.out (j + 1)
      rw [hfs, List.length_append] at hb1
      have HFS := Lib.hid hfs
      obtain ⟨m, hm⟩ : ∃ m, (Ss.take j).flatten.length = m := ⟨_, rfl⟩
      rw [hm] at hb1 ⊢
      have HM := Lib.hid hm
      clear hg3 hg4 hx hi' hfs hm hS
      go_wp2_with fail
      refine (markIntW _ _ _ lo (k + m) S _ HI'.out (by omega) (by omega)).mono ?_
      rintro e w1 ⟨rfl, ht1⟩
      have hK := Lib.hid (show Wr lo w w1 (Ss.take (j + 1)).flatten k by rw [HFS.out]; exact hq.out.trans ht1 (by rw [HM.out]))
      have hmm : (Ss.take (j + 1)).flatten.length = m + S.length := by rw [HFS.out, List.length_append, HM.out]
      clear ht1 hc
      go_wp2_with fail
      go_roundw
      case rel => exact ⟨j + 1, by omega, by go_num, by rw [hmm]; simp; omega, hK⟩
      case measure => simp [intOf]; omega
    · obtain rfl : n = j := by omega
      have ht : Ss.take n = Ss := List.take_of_length_le (by rw [HL.out]; omega)
      rw [ht] at hq ⊢
      go_wp2_with fail
      go_ret
      exact ⟨rfl, hq.out⟩
set_option maxHeartbeats 4000000 in
theorem heldIntW (A : Option Addr) (n c lo : Nat) (k : Int) (S : List (Nat × Nat)) (w : World) (h : SI lo w A n S) (hh : Holds w S k) (h0 : 0 ≤ k) (h1 : k + S.length ≤ 4611686018427387904) :
    Calls Try.prog 42 #[.slice A n c, .int .i64 k] w fun e w' => e = .returned (.int .i64 (k + S.length)) ∧ Below w.heap.size w w' := by
  have hl := h.len
  rw [hl] at h1 ⊢
  have H := Lib.hid h
  have HH := Lib.hid hh
  clear h hl hh
  go_enter Try.func42, Try.ntmps42
  go_wp2_with fail
  go_loop [1, 5] (fun t i => ∃ j : Nat, j ≤ n ∧ i = .int .i64 j ∧ t = .int .i64 (k + j)) (fun _ i => n - (intOf i).toNat)
  case atStart => exact ⟨0, by omega, rfl, by simp⟩
  case round =>
    obtain ⟨j, hj, rfl, rfl⟩ := hrel
    by_cases hlt : j < n
    · rcases H.out with h | ⟨g, cs, t, rfl, hg1, hg3, hg4, hS⟩
      · omega
      have hc := HH.out j (g, j) (by rw [hS]; exact seg_at hlt)
      have hne : ((k + (j : Int)) != k + (j : Int)) = false := by simp
      have hadd : wrap64 (k + j + 1) = k + (j + 1 : Nat) := by rw [IntWalk.wrap64_in _ ⟨by omega, by omega⟩]; omega
      clear hg3 hg4 hS
      go_wp2_with fail
      go_round
      case rel => exact ⟨j + 1, by omega, by go_num, by simp; omega⟩
      case measure => simp [intOf]; omega
    · obtain rfl : n = j := by omega
      go_wp2_with fail
      go_ret
      exact ⟨rfl, Below.refl _ _⟩
set_option maxHeartbeats 4000000 in
theorem heldIntSSW (A : Option Addr) (n c lo : Nat) (k : Int) (Ss : List (List (Nat × Nat))) (w : World) (h : SRows lo w A n Ss) (hh : Holds w Ss.flatten k) (hn : n ≤ 1048576) (h0 : 0 ≤ k) (h1 : k + Ss.flatten.length ≤ 4611686018427387904) :
    Calls Try.prog 57 #[.slice A n c, .int .i64 k] w fun e w' => e = .returned (.int .i64 (k + Ss.flatten.length)) ∧ Below w.heap.size w w' := by
  have H := Lib.hid h
  have HL := Lib.hid h.1
  have HB := Lib.hid (fun j => flat_le Ss j)
  have HH := Lib.hid hh
  clear h hh
  go_enter Try.func57, Try.ntmps57
  go_wp2_with fail
  go_loopw [1, 5] (fun t i wr => ∃ j : Nat, j ≤ n ∧ i = .int .i64 j ∧ t = .int .i64 (k + (Ss.take j).flatten.length) ∧ Below w.heap.size w wr) (fun _ i _ => n - (intOf i).toNat)
  case atStart => exact ⟨0, by omega, rfl, by simp, Below.refl _ _⟩
  case round =>
    obtain ⟨j, hj, rfl, rfl, hq⟩ := hrel
    by_cases hlt : j < n
    · obtain ⟨-, h⟩ := H.out.keep (Keep.of_below hq)
      rcases h with h | ⟨g, cs, t, rfl, hg3, hg4⟩
      · omega
      obtain ⟨S, hS⟩ : ∃ S, Ss[j]? = some S := ⟨_, List.getElem?_eq_getElem (by rw [HL.out]; exact hlt)⟩
      obtain ⟨A', n', c', hx, hi'⟩ := hg4 j S hS
      have hc : wr.cell? ⟨g, j, none⟩ = some (.slice A' n' c') := by rw [cell_of_row wr g j cs t _ hg3]; exact hx
      have HI' := Lib.hid hi'
      have hfs := flat_snoc hS
      have hb1 := HB.out (j + 1)
      rw [hfs, List.length_append] at hb1
      have hhs : Holds wr S (k + (Ss.take j).flatten.length) := by
        have h2 := (HH.out.below hq H.out.lt)
        rw [← List.take_append_drop (j + 1) Ss, List.flatten_append, hfs, List.append_assoc] at h2
        exact h2.append.2.append.1
      have HHS := Lib.hid hhs
      have HFS := Lib.hid hfs
      obtain ⟨m, hm⟩ : ∃ m, (Ss.take j).flatten.length = m := ⟨_, rfl⟩
      rw [hm] at hb1 HHS ⊢
      have HM := Lib.hid hm
      clear hg3 hg4 hx hi' hfs hm hS hhs
      go_wp2_with fail
      refine (heldIntW _ _ _ lo (k + m) S _ HI'.out HHS.out (by omega) (by omega)).mono ?_
      rintro e w1 ⟨rfl, ht1⟩
      have hmm : (Ss.take (j + 1)).flatten.length = m + S.length := by rw [HFS.out, List.length_append, HM.out]
      have hb := hq.trans (ht1.mono hq.size)
      have hnn : decide (k + (m : Int) + (S.length : Int) < 0) = false := decide_eq_false (by omega)
      clear ht1 hc
      go_wp2_with fail
      go_roundw
      case rel => exact ⟨j + 1, by omega, by go_num, by rw [hmm]; simp; omega, hb⟩
      case measure => simp [intOf]; omega
    · obtain rfl : n = j := by omega
      have ht : Ss.take n = Ss := List.take_of_length_le (by rw [HL.out]; omega)
      rw [ht]
      go_wp2_with fail
      go_ret
      exact ⟨rfl, hq⟩
set_option maxHeartbeats 4000000 in
theorem markIntSSSW (A : Option Addr) (n c lo : Nat) (k : Int) (Sss : List (List (List (Nat × Nat)))) (Ss : List (List (Nat × Nat))) (hSe : Sss.map List.flatten = Ss) (w : World) (h : SLays lo w A n Sss) (hn : n ≤ 1048576) (h0 : 0 ≤ k) (h1 : k + Ss.flatten.length ≤ 4611686018427387904) :
    Calls Try.prog 19 #[.slice A n c, .int .i64 k] w fun e w' => e = .returned (.int .i64 (k + Ss.flatten.length)) ∧ Wr lo w w' Ss.flatten k := by
  have H := Lib.hid h
  have HSE := Lib.hid hSe
  have HL := Lib.hid h.1
  have HB := Lib.hid (fun j => flat_le Ss j)
  clear h hSe
  go_enter Try.func19, Try.ntmps19
  go_wp2_with fail
  go_loopw [1, 5] (fun t i wr => ∃ j : Nat, j ≤ n ∧ i = .int .i64 j ∧ t = .int .i64 (k + (Ss.take j).flatten.length) ∧ Hid (Wr lo w wr (Ss.take j).flatten k)) (fun _ i _ => n - (intOf i).toNat)
  case atStart => exact ⟨0, by omega, rfl, by simp, Wr.refl _ _ _⟩
  case round =>
    obtain ⟨j, hj, rfl, rfl, hq⟩ := hrel
    by_cases hlt : j < n
    · obtain ⟨-, h⟩ := H.out.keep hq.out.keep
      rcases h with h | ⟨g, cs, t, rfl, hg3, hg4⟩
      · omega
      obtain ⟨T, hT⟩ : ∃ T, Sss[j]? = some T := ⟨_, List.getElem?_eq_getElem (by rw [HL.out]; exact hlt)⟩
      obtain ⟨S, hS⟩ : ∃ S, Ss[j]? = some S := ⟨T.flatten, by rw [← HSE.out, List.getElem?_map, hT]; rfl⟩
      have hST : S = T.flatten := by rw [← HSE.out, List.getElem?_map, hT] at hS; simpa using hS.symm
      subst hST
      obtain ⟨A', n', c', hx, hn3, hi'⟩ := hg4 j T hT
      have hc : wr.cell? ⟨g, j, none⟩ = some (.slice A' n' c') := by rw [cell_of_row wr g j cs t _ hg3]; exact hx
      have HI' := Lib.hid hi'
      have hfs := flat_snoc hS
      have hb1 := HB.out (j + 1)
      rw [hfs, List.length_append] at hb1
      have HFS := Lib.hid hfs
      obtain ⟨m, hm⟩ : ∃ m, (Ss.take j).flatten.length = m := ⟨_, rfl⟩
      rw [hm] at hb1 ⊢
      have HM := Lib.hid hm
      clear hg3 hg4 hx hi' hfs hm hS
      go_wp2_with fail
      refine (markIntSSW _ _ _ lo (k + m) T _ HI'.out hn3 (by omega) (by omega)).mono ?_
      rintro e w1 ⟨rfl, ht1⟩
      have hK := Lib.hid (show Wr lo w w1 (Ss.take (j + 1)).flatten k by rw [HFS.out]; exact hq.out.trans ht1 (by rw [HM.out]))
      have hmm : (Ss.take (j + 1)).flatten.length = m + T.flatten.length := by rw [HFS.out, List.length_append, HM.out]
      clear ht1 hc
      go_wp2_with fail
      go_roundw
      case rel => exact ⟨j + 1, by omega, by go_num, by rw [hmm]; simp; omega, hK⟩
      case measure => simp [intOf]; omega
    · obtain rfl : n = j := by omega
      have ht : Ss.take n = Ss := List.take_of_length_le (by rw [← HSE.out, List.length_map, HL.out]; omega)
      rw [ht] at hq ⊢
      go_wp2_with fail
      go_ret
      exact ⟨rfl, hq.out⟩
set_option maxHeartbeats 4000000 in
theorem heldIntSSSW (A : Option Addr) (n c lo : Nat) (k : Int) (Sss : List (List (List (Nat × Nat)))) (Ss : List (List (Nat × Nat))) (hSe : Sss.map List.flatten = Ss) (w : World) (h : SLays lo w A n Sss) (hh : Holds w Ss.flatten k) (hn : n ≤ 1048576) (h0 : 0 ≤ k) (h1 : k + Ss.flatten.length ≤ 4611686018427387904) :
    Calls Try.prog 20 #[.slice A n c, .int .i64 k] w fun e w' => e = .returned (.int .i64 (k + Ss.flatten.length)) ∧ Below w.heap.size w w' := by
  have H := Lib.hid h
  have HSE := Lib.hid hSe
  have HL := Lib.hid h.1
  have HB := Lib.hid (fun j => flat_le Ss j)
  have HH := Lib.hid hh
  clear h hh hSe
  go_enter Try.func20, Try.ntmps20
  go_wp2_with fail
  go_loopw [1, 5] (fun t i wr => ∃ j : Nat, j ≤ n ∧ i = .int .i64 j ∧ t = .int .i64 (k + (Ss.take j).flatten.length) ∧ Below w.heap.size w wr) (fun _ i _ => n - (intOf i).toNat)
  case atStart => exact ⟨0, by omega, rfl, by simp, Below.refl _ _⟩
  case round =>
    obtain ⟨j, hj, rfl, rfl, hq⟩ := hrel
    by_cases hlt : j < n
    · obtain ⟨-, h⟩ := H.out.keep (Keep.of_below hq)
      rcases h with h | ⟨g, cs, t, rfl, hg3, hg4⟩
      · omega
      obtain ⟨T, hT⟩ : ∃ T, Sss[j]? = some T := ⟨_, List.getElem?_eq_getElem (by rw [HL.out]; exact hlt)⟩
      obtain ⟨S, hS⟩ : ∃ S, Ss[j]? = some S := ⟨T.flatten, by rw [← HSE.out, List.getElem?_map, hT]; rfl⟩
      have hST : S = T.flatten := by rw [← HSE.out, List.getElem?_map, hT] at hS; simpa using hS.symm
      subst hST
      obtain ⟨A', n', c', hx, hn3, hi'⟩ := hg4 j T hT
      have hc : wr.cell? ⟨g, j, none⟩ = some (.slice A' n' c') := by rw [cell_of_row wr g j cs t _ hg3]; exact hx
      have HI' := Lib.hid hi'
      have hfs := flat_snoc hS
      have hb1 := HB.out (j + 1)
      rw [hfs, List.length_append] at hb1
      have hhs : Holds wr T.flatten (k + (Ss.take j).flatten.length) := by
        have h2 := (HH.out.below hq (by rw [← HSE.out]; exact H.out.lt))
        rw [← List.take_append_drop (j + 1) Ss, List.flatten_append, hfs, List.append_assoc] at h2
        exact h2.append.2.append.1
      have HHS := Lib.hid hhs
      have HFS := Lib.hid hfs
      obtain ⟨m, hm⟩ : ∃ m, (Ss.take j).flatten.length = m := ⟨_, rfl⟩
      rw [hm] at hb1 HHS ⊢
      have HM := Lib.hid hm
      clear hg3 hg4 hx hi' hfs hm hS hhs
      go_wp2_with fail
      refine (heldIntSSW _ _ _ lo (k + m) T _ HI'.out HHS.out hn3 (by omega) (by omega)).mono ?_
      rintro e w1 ⟨rfl, ht1⟩
      have hmm : (Ss.take (j + 1)).flatten.length = m + T.flatten.length := by rw [HFS.out, List.length_append, HM.out]
      have hb := hq.trans (ht1.mono hq.size)
      have hnn : decide (k + (m : Int) + (T.flatten.length : Int) < 0) = false := decide_eq_false (by omega)
      clear ht1 hc
      go_wp2_with fail
      go_roundw
      case rel => exact ⟨j + 1, by omega, by go_num, by rw [hmm]; simp; omega, hb⟩
      case measure => simp [intOf]; omega
    · obtain rfl : n = j := by omega
      have ht : Ss.take n = Ss := List.take_of_length_le (by rw [← HSE.out, List.length_map, HL.out]; omega)
      rw [ht]
      go_wp2_with fail
      go_ret
      exact ⟨rfl, hq⟩
end Go.Proofs.Ytfmdgdamelkelaa
/- spec's anyDiagram and the draws of diagrams. -/
namespace Go.Proofs.Ytfmdgdamelkelaa
open Go.ChangeShapes Go.WideShapes Go.ChangeAt Go.RowKit
open Go.Shelf
set_option linter.unusedVariables false
set_option maxRecDepth 100000
attribute [local go_sem] Oper.semAt_some

theorem OwnD.butG {w w' : World} {base g : Nat} {v : Value} {d : List (List (List Int))} (h : OwnD w base v d) (hb : ButG g w.heap.size w w') (hg : g < base) : OwnD w' base v d := by
  obtain ⟨us, h1, h2, h3, h4⟩ := h
  exact ⟨us, h1, own_butG h2 hb hg, h3, fun i u x hu hx => OwnRows.butG (h4 i u x hu hx) hb hg⟩
theorem OwnD.lays {w : World} {base : Nat} {v : Value} {d : List (List (List Int))} (h : OwnD w base v d) : RowC (RowC (RowC IntC)) w w.heap.size v d := OwnOf.read (fun w base v x hx => OwnOf.read (fun w base v x hx => hx.read) hx) h
theorem own_some {w : World} {B n m c : Nat} {e : TypeId} {A : Option Addr} {xs : List Value} (h : w.ownsRow B e 1 (.slice A n c) m xs) (hm : 0 < m) : ∃ (g : Nat) (cur : Array Value), A = some ⟨g, 0, none⟩ ∧ n = m ∧ TBlk e w g cur ∧ B ≤ g ∧ ∀ (j : Nat) u, xs[j]? = some u → cur[j]? = some u := by
  rcases own_heap h with ⟨-, h0⟩ | ⟨g, cur, e1, e2, hg, hgw, hh, hc⟩
  · omega
  · refine ⟨g, cur, e1, e2, hh, hg, fun j u hu => ?_⟩
    have hj : j < xs.length := (List.getElem?_eq_some_iff.1 hu).1
    rw [hc j (by have := h.1; omega)]
    exact hu
/-- the way to one row. -/
theorem OwnD.site {w : World} {B n c i k : Nat} {A : Option Addr} {d : List (List (List Int))} {es : List (List Int)} {x : List Int} (h : OwnD w B (.slice A n c) d) (hi : d[i]? = some es) (hk : es[k]? = some x) (hx : 0 < x.length) :
    ∃ (b1 b2 gD c2 c3 : Nat) (c1' c2' c3' : Array Value), A = some ⟨b1, 0, none⟩ ∧ TBlk 23 w b1 c1' ∧ TBlk 22 w b2 c2' ∧ TBlk 3 w gD c3' ∧ B ≤ b1 ∧ B ≤ b2 ∧ B ≤ gD ∧ c1'[i]? = some (.slice (some ⟨b2, 0, none⟩) es.length c2) ∧ c2'[k]? = some (.slice (some ⟨gD, 0, none⟩) x.length c3) ∧ ∀ j, j < x.length → ∃ z, c3'[j]? = some (.int .i64 z) := by
  have hil := (List.getElem?_eq_some_iff.1 hi).1
  have hkl := (List.getElem?_eq_some_iff.1 hk).1
  obtain ⟨us, h1, h2, h3, h4⟩ := h
  obtain ⟨b1, c1', rfl, -, t1, g1, f1⟩ := own_some h2 (by omega)
  have hu : us[i]? = some us[i] := List.getElem?_eq_getElem (by omega)
  have q1 := f1 i _ hu
  have k1 := h4 i _ _ hu hi
  obtain ⟨A2, c2, e2⟩ := (OwnOf.read (fun w base v x hx => hx.read) k1 : RowC (RowC IntC) w w.heap.size us[i] es)
  obtain ⟨rs, r1, r2, r3, r4⟩ := k1
  rw [e2.1] at r2 q1
  obtain ⟨b2, c2', rfl, -, t2, g2, f2⟩ := own_some r2 (by omega)
  have hr : rs[k]? = some rs[k] := List.getElem?_eq_getElem (by omega)
  have q2 := f2 k _ hr
  have k2 := r4 k _ _ hr hk
  obtain ⟨A3, c3, e3⟩ := k2.read
  have k3 := k2.1
  rw [e3.1] at k3 q2
  obtain ⟨gD, c3', rfl, -, t3, g3, f3⟩ := own_some k3 hx
  exact ⟨b1, b2, gD, c2, c3, c1', c2', c3', rfl, t1, t2, t3, g1, g2, g3, q1, q2, fun j hj => ⟨x[j], f3 j _ (by rw [List.getElem?_map, List.getElem?_eq_getElem hj]; rfl)⟩⟩
set_option maxHeartbeats 16000000 in
theorem anyDiagram (base g n c p : Nat) (A : Option Addr) (bs : List Int) (w : World) (h : Rd w base g A n c bs p) (hp : p ≤ 700000) :
    Calls Try.prog 68 #[.pointer (some ⟨g, 0, none⟩)] w fun e w' => ∃ (v : Value) (d : List (List (List Int))) (q : Nat), e = .returned v ∧ OwnD w' w.heap.size v d ∧ DgSh d ∧ q ≤ p + 400 ∧ Rd w' base g A n c bs q ∧ ButG g w.heap.size w w' := by
  obtain ⟨i0, hi0, hz0, hz1, hz2⟩ := info_parts info_int
  have hg : g < w.heap.size := (Array.getElem?_eq_some_iff.1 h.block).1
  have hG := Lib.hid hg
  have HC := Lib.hid (constraintAndDomains base g n c p A bs w h hp)
  clear h
  go_enter Try.func68, Try.ntmps68
  go_wp2_with fail
  refine HC.out.mono ?_
  rintro e w6 ⟨vk, vd, kc, ds, q, rfl, hoc, hsm, hod, hd1, hd4, hdr, hq, hr6, hb6⟩
  have hz6 := hb6.size
  obtain ⟨vv', av', rv', rfl, k1, k2, k3⟩ := hoc
  obtain ⟨A1', c1', rfl, -⟩ := k1.read
  obtain ⟨A2', c2', rfl, -⟩ := k2.read
  obtain ⟨A3', c3', rfl, -⟩ := read2 k3
  obtain ⟨Ad, cd, rfl, -⟩ := hod.read
  obtain ⟨wf, hwf⟩ : ∃ wf, wf = w6.alloc (.cells #[.int .i64 kc.kind, .slice A1' kc.vars.length c1', .slice A2' kc.args.length c2', .int .i64 kc.bound, .slice A3' kc.rows.length c3'] 29) := ⟨_, rfl⟩
  have hal : Below w6.heap.size w6 wf := by rw [hwf]; exact b_alloc _ _
  have hT : CBlk wf w6.heap.size (.int .i64 kc.kind) (.slice A1' kc.vars.length c1') (.slice A2' kc.args.length c2') (.int .i64 kc.bound) (.slice A3' kc.rows.length c3') := by rw [hwf]; exact CBlk.new w6 _ _ _ _ _
  obtain ⟨a0, a1, a2, a3, a4⟩ := hT.cells
  have hoC : OwnCon wf w.heap.size (.agg #[.int .i64 kc.kind, .slice A1' kc.vars.length c1', .slice A2' kc.args.length c2', .int .i64 kc.bound, .slice A3' kc.rows.length c3']) kc := OwnCon.below ⟨_, _, _, rfl, k1, k2, k3⟩ hal
  obtain ⟨us, eus, hCR⟩ := hoC.read
  obtain rfl : us = [.int .i64 kc.kind, .slice A1' kc.vars.length c1', .slice A2' kc.args.length c2', .int .i64 kc.bound, .slice A3' kc.rows.length c3'] := by
    injection eus with eus
    exact (congrArg Array.toList eus).symm
  obtain ⟨Ad', cd', ed, hIR⟩ := ((OwnI.stays 3).below _ _ _ _ _ hal hod).read
  injection ed with e1 e2 e3
  subst e1 e3
  have HBD := Lib.hid (sBuildDiagram _ kc Ad ds.length cd ds wf hCR hIR)
  have HB6 := Lib.hid (hb6.go (below_butG hal g))
  have HR6 := Lib.hid (hr6.under hal (by omega))
  have hzf := hal.size
  clear k1 k2 k3 hsm hod hdr hoC hal hb6 hr6 HC hT hCR hIR eus
  go_upto_region 2 with (fail)
  rw [← hwf]
  clear hwf
  go_wp2_with fail
  refine HBD.out.mono ?_
  rintro e w7 ⟨v, rfl, hD, hb7⟩
  clear HBD a0 a1 a2 a3 a4
  have hz7 := hb7.size
  obtain ⟨gss, hA, -⟩ := hD
  have hDO : OwnD w7 w.heap.size v (bdgF kc ds) := (OwnOf.stays (OwnOf.stays (OwnI.stays 3))).base _ _ _ _ _ (show w.heap.size ≤ wf.heap.size by omega) hA.read
  have hDS := bdg_sh kc ds
  obtain ⟨d, hd⟩ : ∃ d, bdgF kc ds = d := ⟨_, rfl⟩
  rw [hd] at hDO hDS
  clear hd hA gss
  have HDO := Lib.hid hDO
  have HDS := Lib.hid hDS
  have HB7 := Lib.hid (HB6.out.go (below_butG hb7 g))
  have HR7 := Lib.hid (HR6.out.under hb7 (by omega))
  obtain ⟨Av, cv, rfl, hLR⟩ := OwnOf.read (fun w base v x hx => OwnOf.read (fun w base v x hx => hx.read) hx) hDO
  have hd4' := hDS.1
  clear hDO hDS hb7 HB6 HR6
  by_cases hdl : 0 < d.length
  · go_wp2_with fail
    refine (pick base g n c q A bs _ w7 HR7.out (by omega)).mono ?_
    rintro e w8 ⟨r, rfl, ⟨-, hr⟩, hd8, hb8⟩
    obtain ⟨r0, r1⟩ := hr (by omega)
    obtain ⟨i, rfl⟩ := Int.eq_ofNat_of_zero_le r0
    have HDO8 := Lib.hid (HDO.out.butG hb8 hG.out)
    have HB8 := Lib.hid (HB7.out.go hb8)
    have HR8 := Lib.hid hd8
    obtain ⟨Av', cv', ev, hL8⟩ := HDO8.out.lays
    injection ev with e1 e2 e3
    subst e1 e3
    obtain ⟨b1, o1, es, u1, rfl, hb1, hes, hc1, A1, c1, rfl, hL1⟩ := SlR.at_ hL8 (show i < d.length by omega)
    have hes3 := HDS.out.2 es (List.mem_of_getElem? hes)
    have HES := Lib.hid hes
    have he1 := hes3.1
    clear hr hd8 hb8 hL8 hes hL1 HDO HB7 HR7 hLR
    go_wp2_with fail
    refine (pick base g n c (q + 1) A bs _ w8 HR8.out (by omega)).mono ?_
    rintro e w9 ⟨r, rfl, ⟨-, hr⟩, hd9, hb9⟩
    obtain ⟨r0, r1⟩ := hr (by omega)
    obtain ⟨k, rfl⟩ := Int.eq_ofNat_of_zero_le r0
    have HDO9 := Lib.hid (HDO8.out.butG hb9 hG.out)
    have HB9 := Lib.hid (HB8.out.go hb9)
    have HR9 := Lib.hid hd9
    clear hr hd9 hb9 HDO8 HB8 HR8 hc1
    go_wp2_with fail
    refine (pick base g n c (q + 1 + 1) A bs 4 w9 HR9.out (by omega)).mono ?_
    rintro e w10 ⟨r, rfl, -, hd10, hb10⟩
    have HDO10 := Lib.hid (HDO9.out.butG hb10 hG.out)
    have HB10 := Lib.hid (HB9.out.go hb10)
    have HR10 := Lib.hid hd10
    clear hd10 hb10 HDO9 HB9 HR9
    by_cases h0 : r = 0
    · subst h0
      obtain ⟨x, hx⟩ : ∃ x, es[k]? = some x := ⟨_, List.getElem?_eq_getElem (by omega)⟩
      have hx6 := hes3.2.2 x (List.mem_of_getElem? hx)
      obtain ⟨e1, e2, gD, c2, c3, q1, q2, q3, eA, t1, t2, t3, g1, g2, g3, f1, f2, f3⟩ := HDO10.out.site HES.out hx (by omega)
      rw [hx6] at f2 f3
      injection eA with eA
      injection eA with eA1 eA2
      subst eA1 eA2
      have hgl := hG.out
      have hz10 := HB10.out.size
      have hne1 : b1 ≠ gD := t1.ne t3 (by decide)
      have hne2 : e2 ≠ gD := t2.ne t3 (by decide)
      have HT := Lib.hid (And.intro t1 (And.intro t2 t3))
      have HF3 := Lib.hid f3
      have hS : ∀ w', ButG g w10.heap.size w10 w' → w'.cell? ⟨b1, i, none⟩ = some (.slice (some ⟨e2, 0, none⟩) es.length c2) ∧ w'.cell? ⟨e2, k, none⟩ = some (.slice (some ⟨gD, 0, none⟩) 6 c3) := fun w' h => ⟨(HT.out.1.butG h (by omega)).at_ i f1, (HT.out.2.1.butG h (by omega)).at_ k f2⟩
      have HS := Lib.hid hS
      have KEY := Lib.hid (fun (W7 : World) (j : Nat) (y : Int) (hj : j < 6) (hB : ButG g w10.heap.size w10 W7) =>
        (show (∃ z, W7.cell? ⟨gD, j, none⟩ = some (.int .i64 z)) ∧ W7.frozen? ⟨gD, j, none⟩ = false ∧ ((W7.setCell ⟨gD, j, none⟩ (.int .i64 y)).cell? ⟨b1, i, none⟩ = some (.slice (some ⟨e2, 0, none⟩) es.length c2) ∧ (W7.setCell ⟨gD, j, none⟩ (.int .i64 y)).cell? ⟨e2, k, none⟩ = some (.slice (some ⟨gD, 0, none⟩) 6 c3)) from by
          have hb7 := HT.out.2.2.butG hB (by omega)
          obtain ⟨z, hz⟩ := HF3.out j hj
          exact ⟨⟨z, hb7.at_ j hz⟩, hb7.frozen j, ((HT.out.1.butG hB (by omega)).far (g := gD) (j := j) (u := .int .i64 y) hne1).at_ i f1, ((HT.out.2.1.butG hB (by omega)).far (g := gD) (j := j) (u := .int .i64 y) hne2).at_ k f2⟩))
      have hbd : ButG g w10.heap.size w10 w10.drew := below_butG (below_drewN (Below.refl _ _) 1) g
      have hS0 := HS.out _ hbd
      have hrd : Rd w10.drew base g A n c bs (q + 1 + 1 + 1) := HR10.out.drewN 1
      have hzd : w10.drew.heap.size = w10.heap.size := rfl
      have hik : i < d.length := by omega
      have hikz : (i : Int) < (d.length : Int) := by omega
      have hkz : (k : Int) < (es.length : Int) := by omega
      clear hS f1 f2 f3 t1 t2 t3 hx
      go_wp2_with fail
      go_region_held3 (fun w' => w'.cell? ⟨b1, i, none⟩ = some (.slice (some ⟨e2, 0, none⟩) es.length c2) ∧ w'.cell? ⟨e2, k, none⟩ = some (.slice (some ⟨gD, 0, none⟩) 6 c3))
        (first | with_reducible exact hS0 | with_reducible assumption)
        (first
          | (go_at_call 61
             refine (pick base g n c (q + 1 + 1 + 1) A bs 6 w10.drew hrd (by omega)).mono ?_
             rintro e W7 ⟨r1, rfl, ⟨-, hr⟩, hd7, hb7⟩
             have hB7 := hbd.go hb7
             have hS7 := HS.out _ hB7
             obtain ⟨r10, r11⟩ := hr (by omega)
             obtain ⟨j, rfl⟩ := Int.eq_ofNat_of_zero_le r10
             have hjn : j < 6 := by omega
             obtain ⟨⟨z7, hz7⟩, hf7, hS8⟩ := KEY.out W7 j (-1) hjn hB7
             clear hr r10))
      all_goals
        have hBk := HT.out.2.2.butG hB7 (show gD ≠ g by omega)
        obtain ⟨d', od, sd⟩ := OwnD.any (j := j) (-1) hBk (HDO10.out.butG hB7 hgl) HDS.out
        have BZ := (HB10.out.go hB7).setHi (b := gD) g3 j (.int .i64 (-1))
        have DZ := hd7.set (b := gD) (by omega) j (.int .i64 (-1))
        have HALL := Lib.hid (And.intro od (And.intro sd (And.intro BZ DZ)))
        obtain ⟨wz, hwz⟩ : ∃ wz, W7.setCell ⟨gD, j, none⟩ (.int .i64 (-1)) = wz := ⟨_, rfl⟩
        rw [hwz] at HALL ⊢
        clear hwz od sd BZ DZ hBk hd7 hB7 hS7 hS8 hz7 hf7 hS0
        go_wp2_with fail
        go_ret
        exact ⟨_, d', q + 1 + 1 + 1 + 1, rfl, HALL.out.1, HALL.out.2.1, by omega, HALL.out.2.2.2, HALL.out.2.2.1⟩
    · by_cases h1 : r = 1
      · subst h1
        obtain ⟨x, hx⟩ : ∃ x, es[k]? = some x := ⟨_, List.getElem?_eq_getElem (by omega)⟩
        have hx6 := hes3.2.2 x (List.mem_of_getElem? hx)
        obtain ⟨e1, e2, gD, c2, c3, q1, q2, q3, eA, t1, t2, t3, g1, g2, g3, f1, f2, f3⟩ := HDO10.out.site HES.out hx (by omega)
        rw [hx6] at f2 f3
        injection eA with eA
        injection eA with eA1 eA2
        subst eA1 eA2
        have hgl := hG.out
        have hz10 := HB10.out.size
        have hne1 : b1 ≠ gD := t1.ne t3 (by decide)
        have hne2 : e2 ≠ gD := t2.ne t3 (by decide)
        have HT := Lib.hid (And.intro t1 (And.intro t2 t3))
        have HF3 := Lib.hid f3
        have hS : ∀ w', ButG g w10.heap.size w10 w' → w'.cell? ⟨b1, i, none⟩ = some (.slice (some ⟨e2, 0, none⟩) es.length c2) ∧ w'.cell? ⟨e2, k, none⟩ = some (.slice (some ⟨gD, 0, none⟩) 6 c3) := fun w' h => ⟨(HT.out.1.butG h (by omega)).at_ i f1, (HT.out.2.1.butG h (by omega)).at_ k f2⟩
        have HS := Lib.hid hS
        have KEY := Lib.hid (fun (W7 : World) (j : Nat) (y : Int) (hj : j < 6) (hB : ButG g w10.heap.size w10 W7) =>
          (show (∃ z, W7.cell? ⟨gD, j, none⟩ = some (.int .i64 z)) ∧ W7.frozen? ⟨gD, j, none⟩ = false ∧ ((W7.setCell ⟨gD, j, none⟩ (.int .i64 y)).cell? ⟨b1, i, none⟩ = some (.slice (some ⟨e2, 0, none⟩) es.length c2) ∧ (W7.setCell ⟨gD, j, none⟩ (.int .i64 y)).cell? ⟨e2, k, none⟩ = some (.slice (some ⟨gD, 0, none⟩) 6 c3)) from by
            have hb7 := HT.out.2.2.butG hB (by omega)
            obtain ⟨z, hz⟩ := HF3.out j hj
            exact ⟨⟨z, hb7.at_ j hz⟩, hb7.frozen j, ((HT.out.1.butG hB (by omega)).far (g := gD) (j := j) (u := .int .i64 y) hne1).at_ i f1, ((HT.out.2.1.butG hB (by omega)).far (g := gD) (j := j) (u := .int .i64 y) hne2).at_ k f2⟩))
        have hbd : ButG g w10.heap.size w10 w10.drew := below_butG (below_drewN (Below.refl _ _) 1) g
        have hS0 := HS.out _ hbd
        have hrd : Rd w10.drew base g A n c bs (q + 1 + 1 + 1) := HR10.out.drewN 1
        have hzd : w10.drew.heap.size = w10.heap.size := rfl
        have hik : i < d.length := by omega
        have hikz : (i : Int) < (d.length : Int) := by omega
        have hkz : (k : Int) < (es.length : Int) := by omega
        clear hS f1 f2 f3 t1 t2 t3 hx
        have hbA : ButG g w10.heap.size w10 (w10.drew.alloc (.cells #[.int .i64 0, .int .i64 7, .int .i64 (-2)] 3)) := hbd.go (below_butG (b_alloc _ _) g)
        have hSA := HS.out _ hbA
        have hrA : Rd (w10.drew.alloc (.cells #[.int .i64 0, .int .i64 7, .int .i64 (-2)] 3)) base g A n c bs (q + 1 + 1 + 1) := hrd.under (b_alloc _ _) (by omega)
        have hTL : TBlk 3 (w10.drew.alloc (.cells #[.int .i64 0, .int .i64 7, .int .i64 (-2)] 3)) w10.heap.size (ints [0, 7, -2]) := TBlk.new _ _ _
        go_wp2_with fail
        go_region_held3 (fun w' => w'.cell? ⟨b1, i, none⟩ = some (.slice (some ⟨e2, 0, none⟩) es.length c2) ∧ w'.cell? ⟨e2, k, none⟩ = some (.slice (some ⟨gD, 0, none⟩) 6 c3))
          (first | with_reducible exact hS0 | with_reducible exact hSA | with_reducible assumption | exact hSA)
          (first
            | (go_at_call 61
               first
                 | (refine (pick base g n c (q + 1 + 1 + 1) A bs 6 w10.drew hrd (by omega)).mono ?_
                    rintro e W6 ⟨r1, rfl, ⟨-, hr⟩, hd6, hb6⟩
                    have hB6 := hbd.go hb6
                    have hS6 := HS.out _ hB6
                    have hBL : ButG g w10.heap.size w10 (W6.alloc (.cells #[.int .i64 0, .int .i64 7, .int .i64 (-2)] 3)) := hB6.go (below_butG (b_alloc _ _) g)
                    have hSL := HS.out _ hBL
                    have hzW := hB6.size
                    have hdL : Rd (W6.alloc (.cells #[.int .i64 0, .int .i64 7, .int .i64 (-2)] 3)) base g A n c bs (q + 1 + 1 + 1 + 1) := hd6.under (b_alloc _ _) (by omega)
                    have hTl : TBlk 3 (W6.alloc (.cells #[.int .i64 0, .int .i64 7, .int .i64 (-2)] 3)) W6.heap.size (ints [0, 7, -2]) := TBlk.new _ _ _
                    obtain ⟨r10, r11⟩ := hr (by omega)
                    obtain ⟨j, rfl⟩ := Int.eq_ofNat_of_zero_le r10
                    have hjn : j < 6 := by omega
                    clear hr r10)
                 | (refine (pick base g n c (q + 1 + 1 + 1) A bs 6 (w10.drew.alloc (.cells #[.int .i64 0, .int .i64 7, .int .i64 (-2)] 3)) hrA (by omega)).mono ?_
                    rintro e W6 ⟨r1, rfl, ⟨-, hr⟩, hd6, hb6⟩
                    have hB6 := hbA.go hb6
                    have hS6 := HS.out _ hB6
                    have hzW := hB6.size
                    have hTl := hTL.butG hb6 (show w10.heap.size ≠ g by omega)
                    obtain ⟨r10, r11⟩ := hr (by omega)
                    obtain ⟨j, rfl⟩ := Int.eq_ofNat_of_zero_le r10
                    have hjn : j < 6 := by omega
                    clear hr r10))
            | (go_at_call 111
               first
                 | (refine (one base g n c (q + 1 + 1 + 1 + 1) W6.heap.size 3 3 A bs [0, 7, -2] (W6.alloc (.cells #[.int .i64 0, .int .i64 7, .int .i64 (-2)] 3)) hdL (by omega) rfl (by omega) (by omega) (by omega) hTl.lt (fun i x hx => hTl.at_ i (ints_at hx))).mono ?_
                    rintro e W7 ⟨y1, rfl, -, hd7, hb7⟩
                    have hB7 := hBL.go hb7
                    have hS7 := HS.out _ hB7
                    obtain ⟨⟨z7, hz7⟩, hf7, hS8⟩ := KEY.out W7 j y1 hjn hB7)
                 | (refine (one base g n c (q + 1 + 1 + 1 + 1) w10.heap.size 3 3 A bs [0, 7, -2] W6 hd6 (by omega) rfl (by omega) (by omega) (by omega) hTl.lt (fun i x hx => hTl.at_ i (ints_at hx))).mono ?_
                    rintro e W7 ⟨y1, rfl, -, hd7, hb7⟩
                    have hB7 := hB6.go hb7
                    have hS7 := HS.out _ hB7
                    obtain ⟨⟨z7, hz7⟩, hf7, hS8⟩ := KEY.out W7 j y1 hjn hB7)))
        all_goals
          have hBk := HT.out.2.2.butG hB7 (show gD ≠ g by omega)
          obtain ⟨d', od, sd⟩ := OwnD.any (j := j) (y1) hBk (HDO10.out.butG hB7 hgl) HDS.out
          have BZ := (HB10.out.go hB7).setHi (b := gD) g3 j (.int .i64 (y1))
          have DZ := hd7.set (b := gD) (by omega) j (.int .i64 (y1))
          have HALL := Lib.hid (And.intro od (And.intro sd (And.intro BZ DZ)))
          obtain ⟨wz, hwz⟩ : ∃ wz, W7.setCell ⟨gD, j, none⟩ (.int .i64 (y1)) = wz := ⟨_, rfl⟩
          rw [hwz] at HALL ⊢
          clear hwz od sd BZ DZ hBk hd7 hB7 hS7 hS8 hz7 hf7 hS0
          go_wp2_with fail
          go_ret
          exact ⟨_, d', q + 1 + 1 + 1 + 1 + 1, rfl, HALL.out.1, HALL.out.2.1, by omega, HALL.out.2.2.2, HALL.out.2.2.1⟩
      · have t0 : (r == 0) = false := by simpa using h0
        have t1 : (r == 1) = false := by simpa using h1
        go_wp2_with fail
        go_ret
        exact ⟨_, d, q + 1 + 1 + 1, rfl, HDO10.out, HDS.out, by omega, HR10.out, HB10.out⟩
  · go_wp2_with fail
    go_ret
    exact ⟨_, d, q, rfl, HDO.out, HDS.out, by omega, HR7.out, HB7.out⟩
end Go.Proofs.Ytfmdgdamelkelaa
/- spec's draws of diagrams: DrawDiagramCount, DrawDiagramAccepts. -/
namespace Go.Proofs.Ytfmdgdamelkelaa
open Go.ChangeShapes Go.WideShapes Go.ChangeAt Go.RowKit
open Go.Shelf
set_option linter.unusedVariables false
set_option maxRecDepth 100000
attribute [local go_sem] Oper.semAt_some

theorem drawDiagramCount (A : Option Addr) (n c : Nat) (bs : List Int) (w : World) (h : CodeA w w.heap.size A n c bs) :
    Calls Try.prog 37 #[.slice A n c] w fun e w' => ∃ (v : Value) (d : List (List (List Int))), e = .returned v ∧ OwnD w' w.heap.size v d ∧ DgSh d ∧ Below w.heap.size w w' := by
  have HN := newReader A n c bs w h
  clear h
  go_enter Try.func37, Try.ntmps37
  go_wp2_with fail
  refine HN.mono ?_
  rintro e w1 ⟨g, m, c', bs', rfl, hr, hb1, hg⟩
  have hbase := hr.base_le
  have hz1 := hb1.size
  go_wp2_with fail
  refine (anyDiagram _ g m c' 0 A bs' w1 hr (by omega)).mono ?_
  rintro e w2 ⟨v, d, q, rfl, ho, hs, hq, hr2, hb2⟩
  go_wp2_with fail
  go_ret
  have hb12 := hb2.below hbase hb1.size
  have hb := hb1.trans (hb12.mono (by omega))
  exact ⟨v, d, rfl, (OwnOf.stays (OwnOf.stays (OwnI.stays 3))).base _ _ _ _ _ (show w.heap.size ≤ w1.heap.size by omega) ho, hs, hb⟩
theorem drawDiagramAccepts (A : Option Addr) (n c : Nat) (bs : List Int) (w : World) (h : CodeA w w.heap.size A n c bs) :
    Calls Try.prog 30 #[.slice A n c] w fun e w' => ∃ (v vx : Value) (d : List (List (List Int))) (xs : List Int), e = .returned (.tuple #[v, vx]) ∧ OwnD w' w.heap.size v d ∧ DgSh d ∧ xs.length = d.length ∧ InM 6 xs ∧ OwnI 3 w' w.heap.size vx xs ∧ Below w.heap.size w w' := by
  have HN := newReader A n c bs w h
  clear h
  go_enter Try.func30, Try.ntmps30
  go_wp2_with fail
  refine HN.mono ?_
  rintro e w1 ⟨g, m, c', bs', rfl, hr, hb1, hg⟩
  have hbase := hr.base_le
  have hz1 := hb1.size
  go_wp2_with fail
  refine (anyDiagram _ g m c' 0 A bs' w1 hr (by omega)).mono ?_
  rintro e w2 ⟨v, d, q, rfl, ho, hs, hq, hr2, hb2⟩
  obtain ⟨Av, cv, rfl, -⟩ := ho.lays
  have hs4 := hs.1
  have HO := Lib.hid ho
  have HS := Lib.hid hs
  have HB := Lib.hid hb2
  have hz2 := hb2.size
  clear ho hs hb2
  go_wp2_with fail
  refine (randomRow _ g m c' q A bs' d.length w2 hr2 (by omega) (by omega)).mono ?_
  rintro e w3 ⟨vx, xs, rfl, hvn, hxl, hxm, hxo, hr3, hb3⟩
  have hO3 := HO.out.butG hb3 hg
  have hB3 := HB.out.go hb3
  have hb12 := hB3.below hbase hb1.size
  have hb := hb1.trans (hb12.mono (by omega))
  have hox : OwnI 3 w3 w2.heap.size vx xs := ⟨by rw [hxl]; exact hxo, by omega⟩
  obtain ⟨Ax, cx, rfl, -⟩ := hox.read
  clear hxo hr3 hb3 hvn
  go_wp2_with fail
  refine bodyPost_ret (v := .tuple #[.slice Av d.length cv, .slice Ax d.length cx]) (by simp [results, Try.results30, go_sem]) rfl ?_
  exact ⟨_, _, d, xs, by rw [← hxl], (OwnOf.stays (OwnOf.stays (OwnI.stays 3))).base _ _ _ _ _ (show w.heap.size ≤ w1.heap.size by omega) hO3, HS.out, hxl, hxm, (OwnI.stays 3).base _ _ _ _ _ (show w.heap.size ≤ w2.heap.size by omega) hox, hb⟩
end Go.Proofs.Ytfmdgdamelkelaa
