/- The draw of two rows, and what the law of Distance asks. -/
import Derived.Test.YtldpcocnhpeadaaDrawI
namespace Go.Proofs.Ytldpcocnhpeadaa
open Go.ChangeShapes Go.WideShapes Go.ChangeAt Go.RowKit
open Go.Shelf
set_option linter.unusedVariables false
set_option maxRecDepth 100000

theorem ButG.setAt {g B : Nat} {w w' : World} (h : ButG g B w w') {b j : Nat} (hb : B ≤ b) (u : Value) : ButG g B w (w'.setCell ⟨b, j, none⟩ u) :=
  ⟨h.os, h.tape, h.output, by simpa using h.size, fun k hk hg => by rw [Below.heap_setCell _ _ _ _ (by simp; omega)]; exact h.block k hk hg⟩
theorem InM.set {m x : Int} {xs : List Int} {i : Nat} (h : InM m xs) (hx : 0 ≤ x ∧ x < m) : InM m (xs.set i x) := fun y hy => by
  rcases List.mem_or_eq_of_mem_set hy with h1 | h1
  · exact h y h1
  · rw [h1]; exact hx
theorem Rd.set {w : World} {base g n c p b j : Nat} {A : Option Addr} {bs : List Int} {u : Value} (h : Rd w base g A n c bs p) (hb : g < b) : Rd (w.setCell ⟨b, j, none⟩ u) base g A n c bs p :=
  ⟨by rw [Below.heap_setCell _ _ _ _ (by simp; omega)]; exact h.block, h.base_le, h.bytes.keep ByteC.keeps fun q hq => World.cell?_setCell_other w ⟨b, j, none⟩ q _ (fun e => by subst e; have := h.base_le; simp at hq; omega), h.small⟩
theorem own_slice {w : World} {base n : Nat} {e : TypeId} {v : Value} {xs : List Value} (h : w.ownsRow base e 1 v n xs) : ∃ A c, v = .slice A n c := by
  rcases h.2 with ⟨h1, h2⟩ | ⟨g, cap, cur, h1, _⟩
  · exact ⟨none, 0, by rw [h1, h2]⟩
  · exact ⟨_, _, h1⟩
theorem own_pos {w : World} {base n : Nat} {e : TypeId} {A : Option Addr} {c : Nat} {xs : List Value} (h : w.ownsRow base e 1 (.slice A n c) n xs) (hn : 0 < n) : ∃ g, A = some ⟨g, 0, none⟩ ∧ base ≤ g := by
  rcases h.2 with ⟨_, h2⟩ | ⟨g, cap, cur, h1, h2, _⟩
  · omega
  · injection h1 with e1 e2 e3
    exact ⟨g, e1, h2⟩
theorem drawDistance (A : Option Addr) (n c : Nat) (bs : List Int) (w : World) (h : CodeA w w.heap.size A n c bs) :
    Calls Try.prog 13 #[.slice A n c] w fun e w' => ∃ (v1 v2 : Value) (xs ys : List Int), e = .returned (.tuple #[v1, v2]) ∧ v1 ≠ .slice none 0 0 ∧ (InM 6 xs ∧ InM 6 ys ∧ xs.length ≤ 4 ∧ ys.length ≤ 5) ∧ w'.ownsRow w.heap.size 3 1 v1 xs.length (xs.map (.int .i64)) ∧ w'.ownsRow w.heap.size 3 1 v2 ys.length (ys.map (.int .i64)) ∧ Below w.heap.size w w' := by
  obtain ⟨i0, hi0, hz0, hz1, hz2⟩ := info_parts info_int
  have HN := newReader A n c bs w h
  go_enter Try.func13, Try.ntmps13
  go_wp2_with fail
  refine HN.mono ?_
  rintro e w1 ⟨g, m, c', bs', rfl, hr, hb1, hg⟩
  go_wp2_with fail
  refine (pick _ g m c' 0 A bs' 5 w1 hr (by omega)).mono ?_
  rintro e w2 ⟨r, rfl, ⟨-, hr2⟩, hq2, hb2⟩
  obtain ⟨r0, r1⟩ := hr2 (by omega)
  obtain ⟨k, rfl⟩ := Int.eq_ofNat_of_zero_le r0
  have hk5 : k < 5 := by omega
  clear hr r0 r1 hr2
  go_wp2_with fail
  refine (randomRow _ g m c' 1 A bs' k w2 hq2 (by omega) (by omega)).mono ?_
  rintro e w3 ⟨v1, xs, rfl, hnn, hl1, hi1, ho1, hq3, hb3⟩
  subst hl1
  clear hq2
  go_wp2_with fail
  refine (copyInts _ _ _ _ _ ho1 (by omega)).mono ?_
  rintro e w4 ⟨v2, rfl, ho2, hb4⟩
  have s1 := hb1.size
  have s2 := hb2.size
  have s3 := hb3.size
  have s4 := hb4.size
  have hq4 := hq3.under hb4 (by omega)
  clear hq3
  obtain ⟨B, d, rfl⟩ := own_slice ho2
  have ho1' := Lib.hid ho1
  have hb34 := below_butG hb4 g
  have hi1' := Lib.hid hi1
  have HNN := Lib.hid hnn
  clear hnn
  have hB4 : Below w.heap.size w w4 := hb1.trans ((hb2.below (base := w.heap.size) hq4.base_le s1).trans ((hb3.below hq4.base_le (Nat.le_trans s1 s2)).trans (hb4.mono (by omega))))
  clear hb1 hb2 hb3 hb4 ho1 HN h
  have hlen := Lib.hid (rfl : xs.length = xs.length)
  clear hlen
  go_wp2_with fail
  go_loopw [7] (fun i wr => ∃ (k q : Nat) (ys : List Int), q ≤ 1 + xs.length + 2 * k ∧ k ≤ xs.length ∧ i = .int .i64 k ∧ Hid (ys.length = xs.length) ∧ Hid (InM 6 ys) ∧ Hid (wr.ownsRow w3.heap.size 3 1 (.slice B xs.length d) xs.length (ys.map (.int .i64))) ∧ Rd wr w.heap.size g A m c' bs' q ∧ ButG g w3.heap.size w4 wr) (fun i _ => xs.length - (intOf i).toNat)
  case atStart => exact ⟨0, _, xs, by omega, by omega, rfl, Lib.hid rfl, hi1', ho2, hq4, ButG.refl _ _ _⟩
  case round =>
    obtain ⟨k, q, ys, hqk, hk, rfl, hl, hin, hq, hr, hb⟩ := hrel
    clear ho2 hq4
    have s5 := hb.size
    by_cases hlt : k < xs.length
    · go_wp2_with fail
      refine (pick _ g m c' q A bs' 3 _ hr (by omega)).mono ?_
      rintro e w5 ⟨r, rfl, -, hr5, hb5⟩
      have s6 := hb5.size
      have HQ5 := Lib.hid (own_butG hq.out hb5 (by omega))
      have hB5 := hb.trans (hb5.mono (B' := w3.heap.size) (by omega))
      clear hq hr
      by_cases h0 : r = 0
      · subst h0
        go_wp2_with fail
        refine (pick _ g m c' (q + 1) A bs' 6 _ hr5 (by omega)).mono ?_
        rintro e w6 ⟨r, rfl, ⟨-, hr2⟩, hr6, hb6⟩
        have hr3 := hr2 (by omega)
        clear hr2
        have s7 := hb6.size
        have hq6 := own_butG HQ5.out hb6 (by omega)
        have hB6 := hB5.trans (hb6.mono (B' := w3.heap.size) (by omega))
        obtain ⟨gb, rfl, hgb⟩ := own_pos hq6 (by omega)
        have hco := hq6.cellAt k (by omega)
        have hfo := hq6.frozenAt k
        obtain ⟨y, hy⟩ : ∃ y, ys[k]? = some y := ⟨_, List.getElem?_eq_getElem (by rw [hl.out]; exact hlt)⟩
        rw [List.getElem?_map, hy] at hco
        simp only [Option.map_some] at hco
        have HY := Lib.hid hy
        have HQ6 := Lib.hid hq6
        clear hy hq6 hr5 HQ5
        go_wp2_with fail
        go_roundw
        case rel => exact ⟨k + 1, q + 1 + 1, ys.set k r, by omega, by omega, by go_num, by rw [List.length_set]; exact hl.out, hin.out.set hr3, by have := (HQ6.out.stored k (.int .i64 r)).1; rw [← List.map_set] at this; exact this, hr6.set (by omega), hB6.setAt hgb _⟩
        case measure => simp [intOf]; omega
      · have hne : (r == 0) = false := by simpa using h0
        go_wp2_with fail
        go_roundw
        case rel => exact ⟨k + 1, q + 1, ys, by omega, by omega, by go_num, hl.out, hin.out, HQ5.out, hr5, hB5⟩
        case measure => simp [intOf]; omega
    · obtain rfl : k = xs.length := by omega
      go_wp2_with fail
      refine (pick _ g m c' q A bs' 8 _ hr (by omega)).mono ?_
      rintro e w5 ⟨r, rfl, -, hr5, hb5⟩
      have s6 := hb5.size
      have hq5 := own_butG hq.out hb5 (by omega)
      have hB5 := hb.trans (hb5.mono (B' := w3.heap.size) (by omega))
      have ha5 := own_butG ho1'.out (hb34.trans hB5) (by omega)
      have hB : Below w.heap.size w w5 := hB4.trans (hB5.below hr5.base_le (by omega))
      by_cases h0 : r = 0
      · subst h0
        go_wp2_with (at_builtin; refine wpList_append_own _ rfl _ _ 23 rfl w3.heap.size 3 i0 _ 1 8 Try.underlying23 hi0 hz0 hz1 hz2 rfl (by decide) (.slice B xs.length d) _ _ rfl (hq5.alloc _) ⟨w5.heap.size, 0, none⟩ 1 1 [.int .i64 1] rfl rfl (cell_one_new _ _ _) (by simp [Value.oneCell']) (by unfold maxLen; omega) (by omega) (by rw [size_alloc_]; omega) ?_; intro v1' w6 hown hgr _)
        have hr1 := hq5.lt
        have hbw : Below w3.heap.size w5 w6 := ((Below.refl _ _).alloc (by omega) _).grown hgr (by rw [size_alloc_]; omega) (fun g hg => (hr1 g hg).1)
        have hown2 : w6.ownsRow w3.heap.size 3 1 v1' (xs.length + 1) ((ys ++ [1]).map (.int .i64)) := by simpa using hown
        have ha6 := own_butG ho1'.out ((hb34.trans hB5).trans (below_butG hbw g)) (by omega)
        have hB6 := hB.trans (hbw.mono (by omega))
        have hl2 : (ys ++ [1]).length = xs.length + 1 := by rw [List.length_append, hl.out]; rfl
        exact bodyPost_ret (v := .tuple #[v1, v1']) (by simp [results, Try.results13, go_sem]) rfl ⟨v1, v1', xs, ys ++ [1], rfl, HNN.out, ⟨hi1'.out, hin.out.snoc (by omega), by omega, by omega⟩, own_base ha6 (by omega), by rw [hl2]; exact own_base hown2 (by omega), hB6⟩
      · have hne : (r == 0) = false := by simpa using h0
        go_wp2_with fail
        have hl2 := hl.out
        exact bodyPost_ret (v := .tuple #[v1, .slice B xs.length d]) (by simp [results, Try.results13, go_sem]) rfl ⟨v1, _, xs, ys, rfl, HNN.out, ⟨hi1'.out, hin.out, by omega, by omega⟩, own_base ha5 (by omega), by rw [hl2]; exact own_base hq5 (by omega), hB⟩
end Go.Proofs.Ytldpcocnhpeadaa
