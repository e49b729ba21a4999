/- The library's Clone and Delete at constraints, cell by cell. -/
import Derived.Test.YtejfnkbdmlijbaaCopyM
import Derived.Lib.SliceRun
import Derived.Lib.SlBuf
namespace Go.Proofs.Ytejfnkbdmlijbaa
open Go.ChangeShapes Go.WideShapes Go.ChangeAt Go.RowKit
open Go.Shelf
set_option linter.unusedVariables false
set_option maxRecDepth 100000

theorem run_clear_one {P : Program} (w : World) (t e ty : TypeId) (z : Value) (ht : P.underlying t = some (.slice e)) (hv : ∀ w, (zeroValue e).run P w = .ok z w) (zs : List Value) (hz : z.cells.toList = zs) (h1 : ∀ u ∈ zs, u.oneCell' = true) (b o c : Nat)
    (hc : ∀ j, j < zs.length → (w.cell? ⟨b, o + j, none⟩).isSome = true) (hf : ∀ j, j < zs.length → w.frozen? ⟨b, o + j, none⟩ = false) :
    (Builtin.clear_ #[t] ty #[.slice (some ⟨b, o, none⟩) 1 c]).run P w = .ok (.tuple #[]) (w.setCells b o zs) := by
  have hzc : (Builtin.zeroCells z.cells 1).toList = zs := by
    rw [← hz]
    apply List.ext_getElem
    · simp [Builtin.zeroCells]
    · intro i h1 h2
      have h2' : i < z.cells.size := by simpa using h2
      simp [Builtin.zeroCells, Nat.mod_eq_of_lt h2']
      exact getElem!_pos z.cells i h2'
  have hst := run_storeCells_cells (P := P) b o zs 0 w (by simpa using hc) (by simpa using hf) h1
  simp only [Nat.add_zero] at hst
  simp [Builtin.clear_, run_underlying ht, hv, hzc, hst]
set_option maxHeartbeats 8000000 in
theorem delCon (g n cap j : Nat) (cells : List Value) (w : World) (hl : cells.length = n * 5) (hc : ∀ t u, cells[t]? = some u → w.cell? ⟨g, t, none⟩ = some u) (hf : ∀ t, w.frozen? ⟨g, t, none⟩ = false) (h1 : ∀ u ∈ cells, u.oneCell' = true) (hj : j < n) (hcap : n ≤ cap) (hm : cap ≤ 9223372036854775807) :
    Calls Try.prog 48 #[.slice (some ⟨g, 0, none⟩) n cap, .int .i64 j, .int .i64 ((j + 1 : Nat) : Int)] w fun e w' => e = .returned (.slice (some ⟨g, 0, none⟩) (n - 1) cap) ∧ (∀ t u, (cells.take (j * 5) ++ cells.drop ((j + 1) * 5))[t]? = some u → w'.cell? ⟨g, t, none⟩ = some u) ∧ Below g w w' := by
  obtain ⟨i0, hi0, hz0, hz1, hz2⟩ := info_parts (P := Try.prog) (e := 35) (z := .agg #[.int .i64 0, .slice none 0 0, .slice none 0 0, .int .i64 0, .slice none 0 0]) (size := 5) (bytes := 88) (by kernel_rfl)
  have hzv : ∀ w, (zeroValue 35).run Try.prog w = .ok (.agg #[.int .i64 0, .slice none 0 0, .slice none 0 0, .int .i64 0, .slice none 0 0]) w := fun w => by simp [zeroValue, typeInfo, hi0, hz0]
  obtain ⟨news, hnews⟩ : ∃ news, news = cells.drop ((j + 1) * 5) := ⟨_, rfl⟩
  have hlen : news.length = (n - (j + 1)) * 5 := by rw [hnews, List.length_drop, hl, Nat.sub_mul]
  have hget : ∀ t u, news[t]? = some u → w.cell? ⟨g, (j + 1) * 5 + t, none⟩ = some u := fun t u hu => hc _ u (by rw [hnews, List.getElem?_drop] at hu; exact hu)
  obtain ⟨A, hA, hsrc⟩ : ∃ A : Addr, (if cap = j + 1 then some (⟨g, 0, none⟩ : Addr) else some ⟨g, (j + 1) * 5, none⟩) = some A ∧ Hid (∀ t u, news[t]? = some u → w.drew.cell? (A.add t) = some u) := by
    by_cases h : cap = j + 1
    · refine ⟨⟨g, 0, none⟩, by simp [h], fun t u hu => ?_⟩
      have h0 : news.length = 0 := by rw [hlen]; omega
      rw [List.length_eq_zero_iff.1 h0] at hu
      simp at hu
    · refine ⟨⟨g, (j + 1) * 5, none⟩, by simp [h], fun t u hu => ?_⟩
      rw [Addr.add_lit]
      exact hget t u hu
  have s1 : Hid (news.length = (n - (j + 1)) * 5) := hlen
  have s2 : Hid (∀ u ∈ news, u.oneCell' = true) := fun u hu => h1 u (List.mem_of_mem_drop (by rw [hnews] at hu; exact hu))
  have hsome : ∀ t, t < n * 5 → (w.cell? ⟨g, t, none⟩).isSome = true := fun t ht => by rw [hc t _ (List.getElem?_eq_getElem (by omega))]; rfl
  have s3 : Hid (∀ t, t < news.length → (w.drew.cell? ⟨g, 0 + j * 5 + t, none⟩).isSome = true ∧ w.drew.frozen? ⟨g, 0 + j * 5 + t, none⟩ = false) := fun t ht => by
    rw [hlen] at ht
    exact ⟨hsome _ (by omega), hf _⟩
  obtain ⟨W1, hW1⟩ : ∃ W1, W1 = w.drew.setCells g (0 + j * 5) news := ⟨_, rfl⟩
  have hW : Hid (W1 = w.drew.setCells g (0 + j * 5) news) := hW1
  have fW1 : ∀ t, W1.frozen? ⟨g, t, none⟩ = false := fun t => by rw [hW1, World.frozen?_setCells]; exact hf t
  have sW1 : ∀ t, t < n * 5 → (W1.cell? ⟨g, t, none⟩).isSome = true := fun t ht => by rw [hW1]; exact World.isSome_setCells g news _ _ _ (hsome t ht)
  have bW1 : Hid (Below g w W1) := by rw [hW1]; exact Go.Lib.below_setCells g (Nat.le_refl _) _ _ (Below.drew_ (Below.refl _ _))
  have cW1 : Hid (∀ t u, (cells.take (j * 5) ++ cells.drop ((j + 1) * 5))[t]? = some u → W1.cell? ⟨g, t, none⟩ = some u) := by
    intro t u hu
    have hlt : (cells.take (j * 5)).length = j * 5 := by rw [List.length_take, hl]; omega
    rcases Nat.lt_or_ge t (j * 5) with h | h
    · rw [List.getElem?_append_left (by omega), List.getElem?_take_of_lt h] at hu
      rw [hW1, World.cell?_setCells_out _ _ _ _ _ (fun _ _ => .inl (by show t < _; omega))]
      exact hc t u hu
    · rw [List.getElem?_append_right (by omega), hlt, ← hnews] at hu
      have hk := (List.getElem?_eq_some_iff.1 hu).1
      have := World.cell?_setCells_in g news (0 + j * 5) w.drew (fun k hk => (s3.out k hk).1) (t - j * 5) hk
      rw [show (0 + j * 5 + (t - j * 5)) = t by omega] at this
      rw [hW1, this, ← List.getElem?_eq_getElem hk]
      exact hu
  have hcl : ∀ ty, (Builtin.clear_ #[ 24 ] ty #[.slice (some ⟨g, (j + (n - (j + 1))) * 5, none⟩) 1 (cap - (j + (n - (j + 1))))]).run Try.prog W1 = .ok (.tuple #[]) (W1.setCells g ((j + (n - (j + 1))) * 5) [.int .i64 0, .slice none 0 0, .slice none 0 0, .int .i64 0, .slice none 0 0]) := fun ty =>
    run_clear_one W1 24 35 ty _ Try.underlying24 hzv [.int .i64 0, .slice none 0 0, .slice none 0 0, .int .i64 0, .slice none 0 0] rfl (by simp [Value.oneCell']) g _ _ (fun k hk => sW1 _ (by simp at hk; omega)) (fun k hk => fW1 _)
  have tq : ((j : Int) == ((j + 1 : Nat) : Int)) = false := by simp; omega
  have e1 : n - (j + (n - (j + 1))) = 1 := by omega
  have e2 : Hid (j + (n - (j + 1)) = n - 1) := by show _ = _; omega
  have CL := Lib.hid hl
  have hjc : j ≤ cap := by omega
  have hjn : j ≤ n := by omega
  have hjc1 : j + 1 ≤ cap := by omega
  have hjn1 : j + 1 ≤ n := by omega
  have hjI : (j : Int) + 1 ≤ n := by omega
  have hjI2 : (j : Int) + 1 ≤ cap := by omega
  have hjI3 : (0 : Int) ≤ (j : Int) + 1 := by omega
  have hjT : ((j : Int) + 1).toNat = j + 1 := by omega
  clear hW1 fW1 sW1 hlen hget hnews hsome hzv hc hl
  go_enter Try.func48, Try.ntmps48
  go_wp2_with fail
  go_region_law (refine step_append_room rfl (.tmp 22) (.tmp 25) 24 rfl 35 i0 5 Try.underlying24 hi0 hz1 g 0 j cap (by simp [Act.eval, Act.put]) A (n - (j + 1)) (cap - (j + 1)) news (by simp [Act.eval, Act.put]) s1.out hsrc.out s2.out (by omega) s3.out ?_; rw [← hW.out])
  go_wp2
  go_ret
  refine ⟨by show _ = _; exact congrArg (fun q => Ending.returned (Value.slice (some ⟨g, 0, none⟩) q cap)) e2.out, fun t u hu => ?_, Go.Lib.below_setCells g (Nat.le_refl _) _ _ bW1.out⟩
  have ht := (List.getElem?_eq_some_iff.1 hu).1
  rw [List.length_append, List.length_take, List.length_drop, CL.out] at ht
  rw [World.cell?_setCells_out _ _ _ _ _ (fun _ _ => .inl (by show t < _; have := e2.out; omega))]
  exact cW1.out t u hu
set_option maxHeartbeats 4000000 in
theorem cloneCon (A : Option Addr) (n c : Nat) (cells : List Value) (w : World) (hl : cells.length = n * 5) (hA : ∀ a, A = some a → ∀ t u, cells[t]? = some u → w.cell? (a.add t) = some u) (hAn : A = none → n = 0) (h1 : ∀ u ∈ cells, u.oneCell' = true) (hn : n ≤ 1048576) :
    Calls Try.prog 49 #[.slice A n c] w fun e w' => ∃ v', e = .returned v' ∧ w'.ownsRow w.heap.size 35 5 v' n cells ∧ Below w.heap.size w w' := by
  obtain ⟨i0, hi0, hz0, hz1, hz2⟩ := info_parts (P := Try.prog) (e := 35) (z := .agg #[.int .i64 0, .slice none 0 0, .slice none 0 0, .int .i64 0, .slice none 0 0]) (size := 5) (bytes := 88) (by kernel_rfl)
  have q22 : ∀ (w : World) (a : Option Addr) (n c n' c' : Nat), (binOp .eql 24 (.slice a n c) (.slice none n' c')).run Try.prog w = .ok (.bool a.isNone) w := fun w a n c n' c' => Lib.run_eql_slice_nil w _ _ a n c n' c' Try.underlying24
  have u22 : ∀ w, Sem.run Try.prog (underlying 24) w = .ok (TypeDesc.slice 35) w := run_underlying Try.underlying24
  cases A with
  | none =>
    obtain rfl : n = 0 := hAn rfl
    have hx : cells = [] := List.eq_nil_of_length_eq_zero (by simpa using hl)
    subst hx
    clear hA hAn hl
    go_enter Try.func49, Try.ntmps49
    go_wp2_with fail
    go_ret
    exact ⟨_, rfl, World.ownsRow_nil _ _ _ _, Below.refl _ _⟩
  | some ad =>
    have ol : (w.alloc (.cells #[] 35)).ownsRow w.heap.size 35 5 (.slice (some ⟨w.heap.size, 0, none⟩) 0 0) 0 [] := World.ownsRow_lit w #[] 0 (Nat.le_refl _) (by decide) rfl
    have hs : Src0 (w.alloc (.cells #[] 35)) 5 (some ad) n c cells := .inr ⟨ad, rfl, hl, fun t u hu => by
      have := hA ad rfl t u hu
      exact ((b_alloc w (.cells #[] 35)).cell (cell_lt this)).trans this⟩
    have H1 := Lib.hid h1
    clear hA hAn hl h1
    go_enter Try.func49, Try.ntmps49
    go_wp2_with (at_builtin; refine wpList_append_any0 rfl _ _ 24 rfl w.heap.size 35 i0 _ 5 88 Try.underlying24 hi0 hz0 hz1 hz2 rfl (by decide) (.slice (some ⟨w.heap.size, 0, none⟩) 0 0) _ _ rfl ol _ _ _ _ rfl hs H1.out (by unfold maxLen; omega) (by omega) (by rw [size_alloc_]; omega) ?_; intro v1 w1 ho1 hb1 _ hnn1)
    have ho2 : w1.ownsRow w.heap.size 35 5 v1 n cells := by simpa using ho1
    go_ret
    exact ⟨v1, rfl, ho2, (b_alloc _ _).trans hb1⟩
end Go.Proofs.Ytejfnkbdmlijbaa
