/- Containment of clauses. -/
import Derived.Test.YtldpcocnhpeadaaMergeC
import Derived.Test.YtldpcocnhpeadaaHolds
namespace Go.Proofs.Ytldpcocnhpeadaa
open Go.ChangeShapes Go.WideShapes Go.ChangeAt Go.RowKit
open Go.Shelf
set_option linter.unusedVariables false
set_option maxRecDepth 100000

theorem indexLitV (A : Option Addr) (n c : Nat) (xs : List Ltl) (l : Ltl) (w : World) (h : LitR w w.heap.size A n xs) :
    Calls Try.prog 102 #[.slice A n c, .agg #[.int .i64 l.var, .int .i64 l.val, .bool l.neg]] w fun e w' => ∃ j : Int, e = .returned (.int .i64 j) ∧ decide (0 ≤ j) = decide (l ∈ xs) ∧ Below w.heap.size w w' := by
  have hn := h.le
  have hl := Lib.hid h.len
  go_enter Try.func102, Try.ntmps102
  go_wp2_with fail
  go_loopw [8] (fun i wr => ∃ k : Nat, k ≤ n ∧ i = .int .i64 k ∧ Hid (AllB (fun x => !decide (l = x)) xs k) ∧ Below (w.heap.size + 1) (w.alloc (.cells #[.int .i64 l.var, .int .i64 l.val, .bool l.neg] 41)) wr) (fun i _ => n - (intOf i).toNat)
  case atStart => exact ⟨0, by omega, rfl, AllB.zero _ _, Below.refl _ _⟩
  case round =>
    obtain ⟨k, hk, rfl, hq, hb1⟩ := hrel
    have hb : Below w.heap.size w wr := (b_alloc _ _).trans (hb1.mono (by omega))
    by_cases hlt : k < n
    · obtain ⟨ab, ao, x, rfl, hab, hxk, hc0, hc1, hc2⟩ := LitR.at_ (h.below LitC.keeps hb) hlt
      have HX := Lib.hid hxk
      clear hxk
      have l0 : wr.cell? ⟨w.heap.size, 0, none⟩ = some (.int .i64 l.var) := (hb1.cell (p := ⟨_, _, none⟩) (by show w.heap.size < _; omega)).trans (by rw [World.cell?_alloc_at _ _ _ _ rfl]; rfl)
      have l1 : wr.cell? ⟨w.heap.size, 1, none⟩ = some (.int .i64 l.val) := (hb1.cell (p := ⟨_, _, none⟩) (by show w.heap.size < _; omega)).trans (by rw [World.cell?_alloc_at _ _ _ _ rfl]; rfl)
      have l2 : wr.cell? ⟨w.heap.size, 2, none⟩ = some (.bool l.neg) := (hb1.cell (p := ⟨_, _, none⟩) (by show w.heap.size < _; omega)).trans (by rw [World.cell?_alloc_at _ _ _ _ rfl]; rfl)
      have hgu := lit_guard
      cases he : decide (l = x)
      · have heq := fun w => lit_eql l x w false he
        have HE := Lib.hid he
        clear he
        go_wp2_with fail
        go_quiet (fail)
        go_wp2_with fail
        go_roundw
        case rel => exact ⟨k + 1, by omega, by go_num, AllB.succ hq.out HX.out (by simp [HE.out]), below_drewN hb1 _⟩
        case measure => simp [intOf]; omega
      · have heq := fun w => lit_eql l x w true he
        have HE := Lib.hid he
        clear he
        go_wp2_with fail
        go_quiet (fail)
        go_wp2_with fail
        go_ret
        refine ⟨k, rfl, ?_, below_drewN hb _⟩
        have hm : l ∈ xs := by rw [of_decide_eq_true HE.out]; exact List.mem_of_getElem? HX.out
        rw [decide_eq_true hm]
        simp
    · obtain rfl : k = n := by omega
      go_wp2_with fail
      go_ret
      refine ⟨-1, rfl, ?_, hb⟩
      have := AllB.done hq.out (Nat.le_of_eq hl.out)
      have h2 : ¬ l ∈ xs := fun hm => by
        rw [List.all_eq_true] at this
        have := this l hm
        simp at this
      rw [decide_eq_false h2]
      decide
theorem containsLitV (A : Option Addr) (n c : Nat) (xs : List Ltl) (l : Ltl) (w : World) (h : LitR w w.heap.size A n xs) :
    Calls Try.prog 62 #[.slice A n c, .agg #[.int .i64 l.var, .int .i64 l.val, .bool l.neg]] w fun e w' => e = .returned (.bool (decide (l ∈ xs))) ∧ Below w.heap.size w w' := by
  have hb0 := b_alloc w (.cells #[.int .i64 l.var, .int .i64 l.val, .bool l.neg] 41)
  have H := Lib.hid (h.on hb0)
  clear h
  go_enter Try.func62, Try.ntmps62
  go_wp2_with fail
  refine (indexLitV A n c xs l _ H.out).mono ?_
  rintro e w1 ⟨j, rfl, hj, hb⟩
  have HJ := Lib.hid hj
  clear hj
  go_wp2_with fail
  go_ret
  exact ⟨ret_bool HJ.out, bgo hb0 hb⟩
theorem iSubsumesC (x : Ltl) (B : Option Addr) (m d : Nat) (ys : List Ltl) (b1 : Nat) (w : World) (hb1 : b1 < w.heap.size) (hy : LitR w w.heap.size B m ys) (hc : w.cell? ⟨b1, 0, none⟩ = some (.slice B m d)) :
    Calls Try.prog 61 (#[.agg #[.int .i64 x.var, .int .i64 x.val, .bool x.neg]] ++ #[.pointer (some ⟨b1, 0, none⟩)]) w fun e w' => e = .returned (.bool (!decide (x ∈ ys))) ∧ Below w.heap.size w w' := by
  have hb0 := b_alloc w (.cells #[.int .i64 x.var, .int .i64 x.val, .bool x.neg] 41)
  have HY := Lib.hid (hy.on hb0)
  clear hy
  go_enter Try.func61, Try.ntmps61
  go_wp2_with fail
  refine (containsLitV _ _ _ _ x _ HY.out).mono ?_
  rintro e w1 ⟨rfl, hb⟩
  go_wp2_with fail
  go_ret
  exact ⟨rfl, bgo hb0 hb⟩
theorem iSubsumes (A B : Option Addr) (k : Int) (n m c d : Nat) (xs ys : List Ltl) (w : World) (h : LitR w w.heap.size A n xs) (hy : LitR w w.heap.size B m ys) :
    Calls Try.prog 20 #[.int .i64 k, .slice A n c, .slice B m d] w fun e w' => e = .returned (.bool (subF xs ys k)) ∧ Below w.heap.size w w' := by
  have hb0 := b_alloc w (.cells #[.slice B m d] 32)
  have HY := Lib.hid (hy.on hb0)
  have HL := Lib.hid (h.on hb0)
  have hcell : (w.alloc (.cells #[.slice B m d] 32)).cell? ⟨w.heap.size, 0, none⟩ = some (.slice B m d) := by rw [World.cell?_alloc_at _ _ _ _ rfl]; rfl
  have hs0 : w.heap.size < (w.alloc (.cells #[.slice B m d] 32)).heap.size := by rw [size_alloc_]; omega
  cases h1 : vcF xs k
  · have e : subF xs ys k = false := by unfold subF; rw [h1]; rfl
    rw [e]
    have H1 := Lib.hid h1
    clear h1 e hs0 hcell
    go_enter Try.func20, Try.ntmps20
    go_wp2_with fail
    refine (iValidClause _ _ _ _ _ _ HL.out).mono ?_
    rw [H1.out]
    rintro e w1 ⟨rfl, hb⟩
    go_wp2_with fail
    go_ret
    exact ⟨rfl, bgo hb0 hb⟩
  · cases h2 : vcF ys k
    · have e : subF xs ys k = false := by unfold subF; rw [h1, h2]; rfl
      rw [e]
      have H1 := Lib.hid h1
      have H2 := Lib.hid h2
      clear h1 h2 e
      go_enter Try.func20, Try.ntmps20
      go_wp2_with fail
      refine (iValidClause _ _ _ _ _ _ HL.out).mono ?_
      rw [H1.out]
      rintro e w1 ⟨rfl, hb⟩
      have hcell1 := (hb.cell (p := ⟨w.heap.size, 0, none⟩) hs0).trans hcell
      clear hcell hs0
      go_wp2_with fail
      refine (iValidClause _ _ _ _ _ _ (HY.out.on hb)).mono ?_
      rw [H2.out]
      rintro e w2 ⟨rfl, hb2⟩
      go_wp2_with fail
      go_ret
      exact ⟨rfl, bgo (bgo hb0 hb) hb2⟩
    · have e : subF xs ys k = !xs.any fun l => !decide (l ∈ ys) := by
        unfold subF; rw [h1, h2, List.all_eq_not_any_not]; rfl
      rw [e]
      have H1 := Lib.hid h1
      have H2 := Lib.hid h2
      clear h1 h2 e
      go_enter Try.func20, Try.ntmps20
      go_wp2_with fail
      refine (iValidClause _ _ _ _ _ _ HL.out).mono ?_
      rw [H1.out]
      rintro e w1 ⟨rfl, hb⟩
      have hcell1 := (hb.cell (p := ⟨w.heap.size, 0, none⟩) hs0).trans hcell
      have hs1 := Nat.lt_of_lt_of_le hs0 hb.size
      clear hcell hs0
      go_wp2_with fail
      refine (iValidClause _ _ _ _ _ _ (HY.out.on hb)).mono ?_
      rw [H2.out]
      rintro e w2 ⟨rfl, hb2⟩
      have hcell2 := (hb2.cell (p := ⟨w.heap.size, 0, none⟩) hs1).trans hcell1
      have hs2 := Nat.lt_of_lt_of_le hs1 hb2.size
      clear hcell1 hs1
      have HB := Lib.hid (bgo hb hb2)
      have HC := Lib.hid (containsFuncLit A n c xs 61 #[.pointer (some ⟨w.heap.size, 0, none⟩)] (fun l => !decide (l ∈ ys)) w2 (enters_of Try.func61 (by kernel_rfl) rfl) (HL.out.on HB.out) (fun i x W hx hW => iSubsumesC x B m d ys _ W (Nat.lt_of_lt_of_le hs2 hW.size) ((HY.out.on HB.out).on hW) ((hW.cell (p := ⟨w.heap.size, 0, none⟩) hs2).trans hcell2)))
      clear hcell2 hs2
      go_wp2_with fail
      refine HC.out.mono ?_
      rintro e w3 ⟨rfl, hb3⟩
      go_wp2_with fail
      go_ret
      exact ⟨rfl, bgo (bgo hb0 HB.out) hb3⟩
theorem sSubsumes (b1 b2 n m : Nat) (k : Int) (v u : Value) (xs ys : List Ltl) (w : World) (hx : w.ownsRow b1 41 3 v n (xs.flatMap ltlCs)) (hlx : xs.length = n) (hy : w.ownsRow b2 41 3 u m (ys.flatMap ltlCs)) (hly : ys.length = m) (hn : n ≤ 9223372036854775807) (hm : m ≤ 9223372036854775807) :
    Calls Try.prog 18 #[.int .i64 k, v, u] w fun e w' => e = .returned (.bool (subF xs ys k)) ∧ Below w.heap.size w w' := by
  have ox := Lib.hid hx
  have oy := Lib.hid hy
  have HLX := Lib.hid hlx
  have HLY := Lib.hid hly
  obtain ⟨A, c, rfl, rx⟩ := LitR.of_own hlx hx hn
  obtain ⟨B, d, rfl, ry⟩ := LitR.of_own hly hy hm
  clear hx hy hlx hly
  cases h1 : vcF xs k
  · have e : subF xs ys k = false := by unfold subF; rw [h1]; rfl
    rw [e]
    have H1 := Lib.hid h1
    clear h1 e
    go_enter Try.func18, Try.ntmps18
    go_wp2_with fail
    refine (sValidClause _ _ _ _ _ _ rx).mono ?_
    rw [H1.out]
    rintro e w1 ⟨rfl, hb⟩
    go_wp2_with fail
    go_ret
    exact ⟨rfl, hb⟩
  · cases h2 : vcF ys k
    · have e : subF xs ys k = false := by unfold subF; rw [h1, h2]; rfl
      rw [e]
      have H1 := Lib.hid h1
      have H2 := Lib.hid h2
      clear h1 h2 e
      go_enter Try.func18, Try.ntmps18
      go_wp2_with fail
      refine (sValidClause _ _ _ _ _ _ rx).mono ?_
      rw [H1.out]
      rintro e w1 ⟨rfl, hb⟩
      go_wp2_with fail
      refine (sValidClause _ _ _ _ _ _ (ry.on hb)).mono ?_
      rw [H2.out]
      rintro e w2 ⟨rfl, hb2⟩
      go_wp2_with fail
      go_ret
      exact ⟨rfl, bgo hb hb2⟩
    · have hsub : decide ((mergeL ys xs).length = ys.length) = subF xs ys k := by rw [mergeL_sub (asc_of_vcF h2)]; unfold subF; rw [h1, h2]; rfl
      have hx12 : xs.length ≤ 12 := by unfold vcF vclF at h1; simp only [Bool.and_eq_true] at h1; exact of_decide_eq_true h1.2.2
      have hy12 : ys.length ≤ 12 := by unfold vcF vclF at h2; simp only [Bool.and_eq_true] at h2; exact of_decide_eq_true h2.2.2
      have hml := mergeL_len ys xs
      have hxn := HLX.out
      have hym := HLY.out
      have hn12 : n ≤ 12 := by omega
      have hm12 : m ≤ 12 := by omega
      have hbe : (((mergeL ys xs).length : Int) == (m : Int)) = decide ((mergeL ys xs).length = ys.length) := by
        rw [hym]
        by_cases hq : (mergeL ys xs).length = m
        · simp [hq]
        · rw [decide_eq_false hq]; simp; omega
      rw [hsub] at hbe
      have HBE := Lib.hid hbe
      have H1 := Lib.hid h1
      have H2 := Lib.hid h2
      clear h1 h2 hsub hbe hx12 hy12 hxn hym
      go_enter Try.func18, Try.ntmps18
      go_wp2_with fail
      refine (sValidClause _ _ _ _ _ _ rx).mono ?_
      rw [H1.out]
      rintro e w1 ⟨rfl, hb⟩
      go_wp2_with fail
      refine (sValidClause _ _ _ _ _ _ (ry.on hb)).mono ?_
      rw [H2.out]
      rintro e w2 ⟨rfl, hb2⟩
      go_wp2_with fail
      refine (mergeClauses _ _ _ _ _ _ ys xs _ (own_below oy.out (bgo hb hb2)) HLY.out (own_below ox.out (bgo hb hb2)) HLX.out (by omega)).mono ?_
      rintro e w3 ⟨v3, rfl, -, ho3, hb3⟩
      obtain ⟨M, cm, rfl⟩ := own_form ho3
      clear ho3
      go_wp2_with fail
      go_ret
      exact ⟨ret_bool HBE.out, bgo (bgo hb hb2) hb3⟩
end Go.Proofs.Ytldpcocnhpeadaa
