/- Copies of numbers; the current domains of a store; marks on stores. -/
import Derived.Test.YtjpcdbdaimonlaaVsto
import Derived.Test.YtjpcdbdaimonlaaTouch
namespace Go.Proofs.Ytjpcdbdaimonlaa
open Go.ChangeShapes Go.WideShapes Go.ChangeAt Go.RowKit
open Go.Shelf
set_option linter.unusedVariables false
set_option maxRecDepth 100000

/-- Numbers in memory as what an append takes. -/
theorem IntR.src {w : World} {B n c : Nat} {A : Option Addr} {xs : List Int} (h : IntR w B A n xs) (h0 : 0 < n) : Src w 1 A n c (xs.map (.int .i64)) := by
  obtain ⟨h1, -, h2⟩ := h
  obtain ⟨b, o, rfl, hb, hc⟩ := h2 h0
  refine .inr ⟨_, rfl, by rw [List.length_map, h1]; omega, fun j u hj => ?_⟩
  rw [List.getElem?_map] at hj
  cases hx : xs[j]? with
  | none => rw [hx] at hj; cases hj
  | some x =>
    rw [hx] at hj
    obtain ⟨u', hu, he⟩ := hc j x hx
    simp only [Option.map_some, Option.some.injEq] at hj
    rw [← hj, Addr.add_lit]
    rw [hu, he]
set_option maxHeartbeats 4000000 in
theorem scopyR (A : Option Addr) (n c : Nat) (xs : List Int) (w : World) (h : IntR w w.heap.size A n xs) (h0 : 0 < n) (hn : n ≤ 1048576) :
    Calls Try.prog 35 #[.slice A n c] w fun e w' => ∃ v', e = .returned v' ∧ OwnI 3 w' w.heap.size v' xs ∧ Below w.heap.size w w' := by
  obtain ⟨i0, hi0, hz0, hz1, hz2⟩ := info_parts info_int
  have hl := Lib.hid h.len
  have ol : (w.alloc (.cells #[] 3)).ownsRow w.heap.size 3 1 (.slice (some ⟨w.heap.size, 0, none⟩) 0 0) 0 [] := World.ownsRow_lit w #[] 0 (Nat.le_refl _) (by decide) rfl
  have hs : Src (w.alloc (.cells #[] 3)) 1 A n c (xs.map (.int .i64)) := (IntR.on h (b_alloc w (.cells #[] 3))).src h0
  clear h
  go_enter Try.func35, Try.ntmps35
  go_wp2_with (at_builtin; refine wpList_append_any rfl _ _ 23 rfl w.heap.size 3 i0 _ 1 8 Try.underlying23 hi0 hz0 hz1 hz2 rfl (by decide) (.slice (some ⟨w.heap.size, 0, none⟩) 0 0) _ _ rfl ol _ _ _ _ rfl hs (by simp [Value.oneCell']) (by unfold maxLen; omega) (by omega) (by rw [size_alloc_]; omega) ?_; intro v1 w1 ho1 hb1 _ _)
  have ho2 : OwnI 3 w1 w.heap.size v1 xs := ⟨by rw [hl.out]; simpa using ho1, by rw [hl.out]; omega⟩
  go_ret
  exact ⟨v1, rfl, ho2, (b_alloc _ _).trans hb1⟩
set_option maxHeartbeats 4000000 in
theorem cloneR (A : Option Addr) (n c : Nat) (xs : List Int) (w : World) (h : IntR w w.heap.size A n xs) (h0 : 0 < n) (hn : n ≤ 1048576) :
    Calls Try.prog 48 #[.slice A n c] w fun e w' => ∃ v', e = .returned v' ∧ OwnI 3 w' w.heap.size v' xs ∧ Below w.heap.size w w' := by
  obtain ⟨i0, hi0, hz0, hz1, hz2⟩ := info_parts info_int
  have hl := Lib.hid h.len
  have ol : (w.alloc (.cells #[] 3)).ownsRow w.heap.size 3 1 (.slice (some ⟨w.heap.size, 0, none⟩) 0 0) 0 [] := World.ownsRow_lit w #[] 0 (Nat.le_refl _) (by decide) rfl
  have hs : Src (w.alloc (.cells #[] 3)) 1 A n c (xs.map (.int .i64)) := (IntR.on h (b_alloc w (.cells #[] 3))).src h0
  obtain ⟨b, o, rfl, -⟩ := h.2.2 h0
  clear h
  have q22 : ∀ (w : World) (a : Option Addr) (n c n' c' : Nat), (binOp .eql 23 (.slice a n c) (.slice none n' c')).run Try.prog w = .ok (.bool a.isNone) w := fun w a n c n' c' => Lib.run_eql_slice_nil w _ _ a n c n' c' Try.underlying23
  have u22 : ∀ w, Sem.run Try.prog (underlying 23) w = .ok (TypeDesc.slice 3) w := run_underlying Try.underlying23
  go_enter Try.func48, Try.ntmps48
  go_wp2_with (at_builtin; refine wpList_append_any rfl _ _ 23 rfl w.heap.size 3 i0 _ 1 8 Try.underlying23 hi0 hz0 hz1 hz2 rfl (by decide) (.slice (some ⟨w.heap.size, 0, none⟩) 0 0) _ _ rfl ol _ _ _ _ rfl hs (by simp [Value.oneCell']) (by unfold maxLen; omega) (by omega) (by rw [size_alloc_]; omega) ?_; intro v1 w1 ho1 hb1 _ _)
  have ho2 : OwnI 3 w1 w.heap.size v1 xs := ⟨by rw [hl.out]; simpa using ho1, by rw [hl.out]; omega⟩
  go_ret
  exact ⟨v1, rfl, ho2, (b_alloc _ _).trans hb1⟩
set_option maxHeartbeats 4000000 in
theorem icopiedR (A : Option Addr) (n c : Nat) (xs : List Int) (w : World) (h : IntR w w.heap.size A n xs) (h0 : 0 < n) (hn : n ≤ 1048576) :
    Calls Try.prog 31 #[.slice A n c] w fun e w' => ∃ v', e = .returned v' ∧ HoldR w' w.heap.size 3 1 v' n (xs.map (.int .i64)) ∧ Below w.heap.size w w' := by
  have hl := Lib.hid h.len
  have H := Lib.hid h
  clear h
  go_enter Try.func31, Try.ntmps31
  go_wp2_with fail
  refine (cloneR _ _ _ xs _ H.out h0 hn).mono ?_
  rintro e w1 ⟨v, rfl, ho, hb⟩
  obtain ⟨A1, c1, rfl, -⟩ := IntR.of_own ho.1 ho.2
  have hh := HoldR.of_own ho.1
  rw [hl.out] at hh
  have HH := Lib.hid hh
  have hl2 := hl.out
  rw [hl2]
  clear hh ho hl2
  go_wp2_with fail
  refine (clipInt _ _ _ _ _ _ HH.out).mono ?_
  rintro e w2 ⟨rfl, rfl⟩
  go_wp2_with fail
  go_ret
  exact ⟨_, rfl, HH.out.clip, hb⟩
def curF (s : Sto) : List Int := if vstoF s = true then (s.levels[s.levels.length - 1]?).getD [] else []
theorem cur_last {s : Sto} (h : vstoF s = true) : ∃ d, s.levels[s.levels.length - 1]? = some d ∧ curF s = d ∧ 1 ≤ d.length ∧ d.length ≤ 4 ∧ 1 ≤ s.levels.length ∧ s.levels.length ≤ 12 := by
  have h' := h
  unfold vstoF at h
  simp only [Bool.and_eq_true, List.all_eq_true] at h
  have h3 := inB_true h.2.2
  have hlt : s.levels.length - 1 < s.levels.length := by omega
  have hd : s.levels[s.levels.length - 1]? = some s.levels[s.levels.length - 1] := List.getElem?_eq_getElem hlt
  have h4 := h.1 _ (List.getElem_mem hlt)
  unfold lvlF dokF at h4
  simp only [Bool.and_eq_true] at h4
  have h5 := inB_true h4.2.1
  exact ⟨_, hd, by unfold curF; rw [if_pos h', hd]; rfl, by omega, by omega, by omega, by omega⟩
theorem curF_no {s : Sto} (h : vstoF s = false) : curF s = [] := if_neg (by rw [h]; decide)
theorem curF_len (s : Sto) : (curF s).length ≤ 4 := by
  cases h : vstoF s
  · rw [curF_no h]; simp
  · obtain ⟨d, -, e, -, h4, -⟩ := cur_last h
    rw [e]; exact h4
/-- A store whose blocks lie from lo to below hi. -/
def HSto (w : World) (lo hi : Nat) (us : List Value) : Prop := ∃ u v la nl lc, us = [u, v, .slice la nl lc] ∧ nl ≤ 1048576 ∧ HMod w lo hi [u, v] ∧ HRows w lo hi la nl
theorem HSto.keep {w w' : World} {lo hi : Nat} {us : List Value} (h : HSto w lo hi us) (k : Keep w w') : HSto w' lo hi us := by
  obtain ⟨u, v, la, nl, lc, e, h1, h2, h3⟩ := h
  exact ⟨u, v, la, nl, lc, e, h1, h2.keep k, h3.keep k⟩
theorem HSto.of_own {w : World} {base : Nat} {us : List Value} {s : Sto} (h : OwnSto w base (.agg us.toArray) s) (hs : SmSto s) : HSto w base w.heap.size us := by
  obtain ⟨dv, cv, lv, he, o1, o2⟩ := h
  injection he with he
  have he2 : us = [dv, cv, lv] := by simpa using congrArg Array.toList he
  obtain ⟨A2, c2, rfl, -⟩ := read2 o2
  exact ⟨dv, cv, A2, _, c2, he2, hs.2.1, HMod.of_own (us := [dv, cv]) o1 hs.1, HRows.of_own o2 hs.2.2⟩
end Go.Proofs.Ytjpcdbdaimonlaa
