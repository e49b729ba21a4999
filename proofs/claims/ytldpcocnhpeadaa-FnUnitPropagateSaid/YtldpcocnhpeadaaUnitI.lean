/- Unit propagation of one clause by the program. -/
import Derived.Test.YtldpcocnhpeadaaUnitS
namespace Go.Proofs.Ytldpcocnhpeadaa
open Go.ChangeShapes Go.WideShapes Go.ChangeAt Go.RowKit
open Go.Shelf
set_option linter.unusedVariables false
set_option maxRecDepth 100000

set_option maxHeartbeats 4000000 in
theorem limited (b0 n : Nat) (v : Value) (ds : List Int) (j : Nat) (y e : Int) (w : World) (h : HoldR w b0 3 1 v n (ds.map (.int .i64))) (hn : n ≤ 1048576) (hj : j < n) (hy : ds[j]? = some y) :
    Calls Try.prog 110 #[v, .int .i64 j, .int .i64 e] w fun r w' => ∃ v', r = .returned v' ∧ HoldR w' w.heap.size 3 1 v' n ((ds.set j (bits .and .i64 y e)).map (.int .i64)) ∧ Below w.heap.size w w' := by
  have HC := Lib.hid (icopied b0 n v ds w h hn)
  have HY := Lib.hid hy
  clear h hy
  go_enter Try.func110, Try.ntmps110
  go_wp2_with fail
  refine HC.out.mono ?_
  rintro r w1 ⟨v1, rfl, h1, hb⟩
  obtain ⟨A, c, rfl⟩ := h1.form
  obtain ⟨g, rfl, hg, hgw⟩ := h1.pos (by omega)
  have hco := h1.cellAt j (by omega)
  rw [List.getElem?_map, HY.out] at hco
  simp only [Option.map_some] at hco
  have hfo := h1.frozenAt j
  have H1 := Lib.hid h1
  clear h1 HC
  go_wp2_with fail
  go_ret
  exact ⟨_, rfl, by rw [List.map_set]; exact H1.out.stored j _, hb.setCell (by simpa using hg) _⟩
/-- A literal in a block of its own. -/
def LBlk (w : World) (b : Nat) (q : Ltl) : Prop := w.heap[b]? = some (.cells #[.int .i64 q.var, .int .i64 q.val, .bool q.neg] 41 (0, 0))
theorem LBlk.cells {w : World} {b : Nat} {q : Ltl} (h : LBlk w b q) : w.cell? ⟨b, 0, none⟩ = some (.int .i64 q.var) ∧ w.cell? ⟨b, 1, none⟩ = some (.int .i64 q.val) ∧ w.cell? ⟨b, 2, none⟩ = some (.bool q.neg) := by
  refine ⟨?_, ?_, ?_⟩ <;> rw [cell_of_row w b _ _ _ _ h] <;> rfl
theorem LBlk.frozen {w : World} {b : Nat} {q : Ltl} (h : LBlk w b q) (j : Nat) : w.frozen? ⟨b, j, none⟩ = false := frozen_of_row w b j _ _ h
theorem LBlk.set {w : World} {b : Nat} {q x : Ltl} (h : LBlk w b q) : LBlk (((w.setCell ⟨b, 0, none⟩ (.int .i64 x.var)).setCell ⟨b, 1, none⟩ (.int .i64 x.val)).setCell ⟨b, 2, none⟩ (.bool x.neg)) b x := by
  unfold LBlk at h ⊢
  simp [World.setCell, Array.getElem?_modify, h]
theorem LBlk.below {w w' : World} {b B : Nat} {q : Ltl} (h : LBlk w b q) (hb : Below B w w') (hB : b < B) : LBlk w' b q := (hb.block b hB).trans h
theorem LBlk.lt {w : World} {b : Nat} {q : Ltl} (h : LBlk w b q) : b < w.heap.size := (Array.getElem?_eq_some_iff.1 h).1
theorem itrues_b (x : Ltl) (w : World) (h0 : 0 ≤ x.val) (h1 : x.val ≤ 5) (d : Int) (hd : truesF x = d) : Calls Try.prog 72 #[.agg #[.int .i64 x.var, .int .i64 x.val, .bool x.neg]] w fun e w' => e = .returned (.int .i64 d) ∧ Below w.heap.size w w' := by
  subst hd; exact itrues x w h0 h1
set_option maxHeartbeats 4000000 in
theorem iunit (b0 : Nat) (A B : Option Addr) (n m c d : Nat) (xs : List Ltl) (ds : List Int) (w : World) (h : LitR w w.heap.size A n xs) (hy : HoldR w b0 3 1 (.slice B m d) m (ds.map (.int .i64))) (hn : n ≤ 12) (hm : m ≤ 4) (hl : ds.length = m) (hv : ∀ x ∈ xs, 0 ≤ x.var ∧ x.var < m ∧ 0 ≤ x.val ∧ x.val ≤ 5) (hd : ∀ d ∈ ds, 0 ≤ d ∧ d ≤ 63) :
    Calls Try.prog 80 #[.slice A n c, .slice B m d] w fun e w' => ∃ v, e = .returned v ∧ HoldR w' w.heap.size 3 1 v m ((upL xs ds).map (.int .i64)) ∧ Below w.heap.size w w' := by
  have hlx := Lib.hid h.len
  have HL := Lib.hid hl
  have HV := Lib.hid hv
  have HD := Lib.hid hd
  obtain ⟨B', d', e', ry⟩ := IntR.of_hold hy (by omega)
  injection e' with e1 e2 e3
  subst e1 e3
  have HY := Lib.hid hy
  clear hy hl hv hd
  obtain ⟨i0, hi0, hz0, hz1, hz2⟩ := info_parts info_int
  go_enter Try.func80, Try.ntmps80
  go_wp2_with fail
  have hl0 : LBlk (w.alloc (.cells #[.int .i64 0, .int .i64 0, .bool false] 41)) w.heap.size ⟨0, 0, false⟩ := by unfold LBlk; exact heap_alloc_new w _
  go_loopw [6, 12] (fun t i wr => ∃ (k : Nat) (os : List Ltl) (q : Ltl), k ≤ n ∧ i = .int .i64 k ∧ t = .int .i64 os.length ∧ os.length ≤ k ∧ Hid ((xs.take k).filter (openL ds) = os) ∧ Hid (os ≠ [] → os.getLast? = some q) ∧ LBlk wr w.heap.size q ∧ Below w.heap.size w wr) (fun _ i _ => n - (intOf i).toNat)
  case atStart => exact ⟨0, [], ⟨0, 0, false⟩, by omega, rfl, rfl, by simp, Lib.hid rfl, Lib.hid (fun h => absurd rfl h), hl0, b_alloc _ _⟩
  case round =>
    obtain ⟨k, os, q, hk, rfl, rfl, hok, hos, hla, hlb, hb⟩ := hrel
    clear hl0
    have hwr := hb.size
    have hlt0 := hlb.lt
    by_cases hlt : k < n
    · obtain ⟨ab, ao, x, rfl, hab, hxk, hc0, hc1, hc2⟩ := LitR.at_ (h.below LitC.keeps hb) hlt
      obtain ⟨xv0, xv1, xv2, xv3⟩ := HV.out x (List.mem_of_getElem? hxk)
      obtain ⟨j, hj⟩ : ∃ j : Nat, x.var = (j : Int) := ⟨x.var.toNat, by omega⟩
      have hjm : j < m := by omega
      obtain ⟨bb, bo, y, rfl, hbb, hyk, hcy⟩ := IntR.at_ (ry.below IntC.keeps hb) hjm
      have hop : openL ds x = (bits .and .i64 y (truesF x) != 0) := by unfold openL; rw [hj, Int.toNat_natCast, hyk]; rfl
      have hyd := HD.out y (List.mem_of_getElem? hyk)
      obtain ⟨t, ht⟩ : ∃ t, truesF x = t := ⟨_, rfl⟩
      have htb := trues_bd x xv2 xv3
      rw [ht] at hop htb
      have hfs := filter_snoc (openL ds) hxk
      rw [hop] at hfs
      have HFS := Lib.hid hfs
      have HXK := Lib.hid hxk
      have HT := Lib.hid ht
      have HJ := Lib.hid hj
      rw [hj] at hc0
      clear hxk hyk hop hfs ht
      have hsa := le_alloc wr (.cells #[.int .i64 (j : Int), .int .i64 x.val, .bool x.neg] 41)
      have hsb : wr.heap.size < (wr.alloc (.cells #[.int .i64 (j : Int), .int .i64 x.val, .bool x.neg] 41)).heap.size := by rw [size_alloc_]; omega
      have q0 : ∀ p : Later (wr.alloc (.cells #[.int .i64 (j : Int), .int .i64 x.val, .bool x.neg] 41)), p.val.cell? ⟨wr.heap.size, 0, none⟩ = some (.int .i64 j) := fun p => p.cell hsb (by rw [World.cell?_alloc_at _ _ _ _ rfl]; rfl)
      have q1 : ∀ p : Later (wr.alloc (.cells #[.int .i64 (j : Int), .int .i64 x.val, .bool x.neg] 41)), p.val.cell? ⟨wr.heap.size, 1, none⟩ = some (.int .i64 x.val) := fun p => p.cell hsb (by rw [World.cell?_alloc_at _ _ _ _ rfl]; rfl)
      have q2 : ∀ p : Later (wr.alloc (.cells #[.int .i64 (j : Int), .int .i64 x.val, .bool x.neg] 41)), p.val.cell? ⟨wr.heap.size, 2, none⟩ = some (.bool x.neg) := fun p => p.cell hsb (by rw [World.cell?_alloc_at _ _ _ _ rfl]; rfl)
      have q3 : ∀ p : Later (wr.alloc (.cells #[.int .i64 (j : Int), .int .i64 x.val, .bool x.neg] 41)), p.val.cell? ⟨bb, bo + j, none⟩ = some (.int .i64 y) := fun p => p.cell (by omega) (by rw [World.cell?_alloc_past _ _ _ (by omega)]; exact hcy)
      have hld : ∀ W : World, Calls Try.prog 72 #[.agg #[.int .i64 (j : Int), .int .i64 x.val, .bool x.neg]] W fun e w' => e = .returned (.int .i64 t) ∧ Below W.heap.size W w' := fun W => by
        have := itrues_b x W xv2 xv3 t HT.out
        rw [hj] at this
        exact this
      have HLD := Lib.hid hld
      have HLB := Lib.hid hlb
      clear hld hj hlb
      cases hp : (bits .and .i64 y t != 0)
      · have hp2 : (bits .and .i64 y t == 0) = true := by simpa using hp
        rw [hp] at HFS
        go_wp2_with fail
        refine wp_region_later (by kernel_rfl) (by kernel_rfl) ?_
        repeat (go_big_quiet_step (first | (go_at_call 72; exact calls_later (HLD.out _))))
        refine wpQuiet_nil ?_
        intro w5 hw'
        obtain ⟨⟨w6, hb5⟩, hw''⟩ := hw'
        subst hw''
        have hb6 : Below wr.heap.size wr w5 := bgo (b_alloc _ _) hb5
        go_wp2_with fail
        go_roundw
        case rel => exact ⟨k + 1, os, q, by omega, by go_num, rfl, by omega, Lib.hid (by rw [HFS.out, hos.out]; simp), hla, HLB.out.below hb6 hlt0, hb.trans (hb6.mono hwr)⟩
        case measure => simp [intOf]; omega
      · have hp2 : (bits .and .i64 y t == 0) = false := by simpa using hp
        rw [hp] at HFS
        go_wp2_with fail
        refine wp_region_later (by kernel_rfl) (by kernel_rfl) ?_
        repeat (go_big_quiet_step (first | (go_at_call 72; exact calls_later (HLD.out _))))
        refine wpQuiet_nil ?_
        intro w5 hw'
        obtain ⟨⟨w6, hb5⟩, hw''⟩ := hw'
        subst hw''
        have hb6 : Below wr.heap.size wr w5 := bgo (b_alloc _ _) hb5
        have hlb5 := HLB.out.below hb6 hlt0
        obtain ⟨l0, l1, l2⟩ := hlb5.cells
        have f0 := hlb5.frozen 0
        have f1 := hlb5.frozen 1
        have f2 := hlb5.frozen 2
        have s0 := (hb5.cell (p := ⟨wr.heap.size, 0, none⟩) hsb).trans (show _ = some (Value.int .i64 (j : Int)) by rw [World.cell?_alloc_at _ _ _ _ rfl]; rfl)
        have s1 := (hb5.cell (p := ⟨wr.heap.size, 1, none⟩) hsb).trans (show _ = some (Value.int .i64 x.val) by rw [World.cell?_alloc_at _ _ _ _ rfl]; rfl)
        have s2 := (hb5.cell (p := ⟨wr.heap.size, 2, none⟩) hsb).trans (show _ = some (Value.bool x.neg) by rw [World.cell?_alloc_at _ _ _ _ rfl]; rfl)
        have HLB5 := Lib.hid hlb5
        have hb7 := hb.trans (hb6.mono hwr)
        have hset := hlb5.set (x := x)
        rw [HJ.out] at hset
        have HS := Lib.hid hset
        clear hlb5 q0 q1 q2 q3 hcy hb5 hset
        go_wp2_with fail
        go_roundw
        case rel => exact ⟨k + 1, os ++ [x], x, by omega, by go_num, by simp, by simp; omega, Lib.hid (by rw [HFS.out, hos.out]; rfl), Lib.hid (fun _ => by simp), HS.out, ((hb7.setCell (by simp) _).setCell (by simp) _).setCell (by simp) _⟩
        case measure => simp [intOf]; omega
    · obtain rfl : k = n := by omega
      match os, hos, hla, hok with
      | [], hos, hla, hok =>
        have hz : (([] : List Ltl).length : Int) = 0 := rfl
        rw [hz]
        clear hz
        go_wp2_with (refine wpList_make_full _ rfl (.tmp 33) (.tmp 33) _ rfl wr.heap.size 3 i0 _ 1 Try.underlying23 hi0 hz0 hz1 .i64 .i64 m m m rfl rfl rfl rfl (by rw [hz2]; omega) (by unfold maxLen; omega) (Nat.le_refl _) ?_; intro w7 hown hgr)
        have hb7 : Below wr.heap.size wr w7 := (Below.refl _ _).grown hgr (Nat.le_refl _) (by simp)
        have he : (upL xs ds).map (Value.int .i64) = (madeCells (Value.int .i64 0).cells (m * 1)).toList := by
          rw [upL_none hlx.out hos.out, HL.out, Nat.mul_one]
          show _ = (madeCells #[Value.int .i64 0] m).toList
          rw [toList_madeCells_one, List.map_replicate]
        go_ret
        exact ⟨_, rfl, by rw [he]; exact (HoldR.of_own hown).base_ hwr, hb.trans (hb7.mono hwr)⟩
      | [l], hos, hla, hok =>
        have hz : (([l] : List Ltl).length : Int) = 1 := rfl
        rw [hz]
        clear hz
        have hql : q = l := by have := hla.out (by simp); simpa using this.symm
        subst hql
        have hmem : q ∈ xs := by
          have h1 : q ∈ (xs.take k).filter (openL ds) := by rw [hos.out]; simp
          exact List.mem_of_mem_take (List.mem_filter.1 h1).1
        obtain ⟨xv0, xv1, xv2, xv3⟩ := HV.out q hmem
        obtain ⟨j, hj⟩ : ∃ j : Nat, q.var = (j : Int) := ⟨q.var.toNat, by omega⟩
        have hjm : j < m := by omega
        obtain ⟨y, hy⟩ : ∃ y, ds[j]? = some y := ⟨_, List.getElem?_eq_getElem (by rw [HL.out]; exact hjm)⟩
        have hup := upL_one hlx.out hos.out
        rw [hj, Int.toNat_natCast, hy] at hup
        have HUP := Lib.hid hup
        obtain ⟨l0, l1, l2⟩ := hlb.cells
        rw [hj] at l0
        have hld : ∀ W : World, Calls Try.prog 72 #[.agg #[.int .i64 (j : Int), .int .i64 q.val, .bool q.neg]] W fun e w' => e = .returned (.int .i64 (truesF q)) ∧ Below W.heap.size W w' := fun W => by
          have := itrues q W xv2 xv3
          rw [hj] at this
          exact this
        have HLD := Lib.hid hld
        have HLIM := Lib.hid fun (W : World) (hW : Below w.heap.size w W) => limited b0 m (.slice B m d) ds j y (truesF q) W (HY.out.below hW) (by omega) hjm hy
        clear hup hld hy hj
        have q0 : ∀ p : Later wr, p.val.cell? ⟨w.heap.size, 0, none⟩ = some (.int .i64 j) := fun p => p.cell hlt0 l0
        have q1 : ∀ p : Later wr, p.val.cell? ⟨w.heap.size, 1, none⟩ = some (.int .i64 q.val) := fun p => p.cell hlt0 l1
        have q2 : ∀ p : Later wr, p.val.cell? ⟨w.heap.size, 2, none⟩ = some (.bool q.neg) := fun p => p.cell hlt0 l2
        go_wp2_with fail
        refine wp_region_later_tail 5 (by kernel_rfl) (by kernel_rfl) ?_
        simp only [List.take_succ_cons, List.take_zero, List.drop_succ_cons, List.drop_zero]
        repeat (go_big_quiet_step (first | (go_at_call 72; exact calls_later (HLD.out _))))
        refine wpQuiet_nil ?_
        intro w5 hw'
        obtain ⟨⟨w6, hb5⟩, hw''⟩ := hw'
        subst hw''
        clear q0 q1 q2 l0 l1 l2
        have hb6 := hb.trans (hb5.mono hwr)
        go_wp2_with fail
        refine (HLIM.out _ hb6).mono ?_
        rintro e w7 ⟨v, rfl, ho, hb7⟩
        have HO := Lib.hid (ho.base_ (base' := w.heap.size) hb6.size)
        clear ho
        go_wp2_with fail
        go_ret
        exact ⟨v, rfl, by rw [HUP.out]; exact HO.out, bgo hb6 hb7⟩
      | l :: l2 :: os, hos, hla, hok =>
        obtain ⟨z, hz⟩ : ∃ z : Int, ((l :: l2 :: os).length : Int) = z := ⟨_, rfl⟩
        rw [hz]
        have hz2' : (2 : Int) ≤ z := by rw [← hz]; simp; omega
        have hza : (z == 0) = false := by simp; omega
        have hzb : (z == 1) = false := by simp; omega
        have HCP := Lib.hid (icopied b0 m (.slice B m d) ds wr (HY.out.below hb) (by omega))
        have HUP := Lib.hid (upL_many hlx.out hos.out)
        clear hz hos hla hok
        go_wp2_with fail
        refine HCP.out.mono ?_
        rintro e w7 ⟨v, rfl, ho, hb7⟩
        have HO := Lib.hid (ho.base_ (base' := w.heap.size) hwr)
        clear ho
        go_wp2_with fail
        go_ret
        exact ⟨v, rfl, by rw [HUP.out]; exact HO.out, hb.trans (hb7.mono hwr)⟩
theorem iUnitPropagate (b0 : Nat) (A B : Option Addr) (n m c d : Nat) (xs : List Ltl) (ds : List Int) (w : World) (h : LitR w w.heap.size A n xs) (hy : HoldR w b0 3 1 (.slice B m d) m (ds.map (.int .i64))) (hm0 : m ≤ 9223372036854775807) :
    Calls Try.prog 31 #[.slice A n c, .slice B m d] w fun e w' => ∃ v, e = .returned v ∧ HoldR w' w.heap.size 3 1 v (upF xs ds).length ((upF xs ds).map (.int .i64)) ∧ Below w.heap.size w w' := by
  have hlm : ds.length = m := by have := hy.1; simpa using this
  have hln := h.len
  have hy2 := hy
  obtain ⟨B', d', e', ry⟩ := IntR.of_hold hy2 hm0
  injection e' with e1 e2 e3
  subst e1 e3
  clear hy2
  have HY := Lib.hid hy
  clear hy
  cases h1 : doF ds
  · have e : upF xs ds = [] := by unfold upF; rw [h1]; rfl
    rw [e]
    have H1 := Lib.hid h1
    clear h1 e
    go_enter Try.func31, Try.ntmps31
    go_wp2_with fail
    refine (idomainsOk _ _ _ _ _ ry).mono ?_
    rw [H1.out]
    rintro e w1 ⟨rfl, hb⟩
    go_wp2_with fail
    go_ret
    exact ⟨_, rfl, HoldR.nil _ _ _ _, hb⟩
  · have hdv := doF_vals h1
    cases h2 : vcF xs m
    · have e : upF xs ds = [] := by unfold upF; rw [h1, hlm, h2]; rfl
      rw [e]
      have H1 := Lib.hid h1
      have H2 := Lib.hid h2
      clear h1 h2 e hdv
      go_enter Try.func31, Try.ntmps31
      go_wp2_with fail
      refine (idomainsOk _ _ _ _ _ ry).mono ?_
      rw [H1.out]
      rintro e w1 ⟨rfl, hb⟩
      go_wp2_with fail
      refine (iValidClause _ _ _ _ _ _ (h.on hb)).mono ?_
      rw [H2.out]
      rintro e w2 ⟨rfl, hb2⟩
      go_wp2_with fail
      go_ret
      exact ⟨_, rfl, HoldR.nil _ _ _ _, bgo hb hb2⟩
    · have e : upF xs ds = upL xs ds := by unfold upF; rw [h1, hlm, h2]; rfl
      have el : (upL xs ds).length = m := by rw [upL_len, hlm]
      rw [e, el]
      have hvals := vcF_vals (xs := xs) (m := m) h2
      have hx12 : xs.length ≤ 12 := by unfold vcF vclF at h2; simp only [Bool.and_eq_true] at h2; exact of_decide_eq_true h2.2.2
      have HCF := Lib.hid fun (W : World) (hW : Below w.heap.size w W) => iunit b0 A B n m c d xs ds W (h.on hW) (HY.out.below hW) (by omega) (by omega) hlm hvals hdv.2.2
      have H1 := Lib.hid h1
      have H2 := Lib.hid h2
      clear h1 h2 e el hdv hvals hx12 hlm hln
      go_enter Try.func31, Try.ntmps31
      go_wp2_with fail
      refine (idomainsOk _ _ _ _ _ ry).mono ?_
      rw [H1.out]
      rintro e w1 ⟨rfl, hb⟩
      go_wp2_with fail
      refine (iValidClause _ _ _ _ _ _ (h.on hb)).mono ?_
      rw [H2.out]
      rintro e w2 ⟨rfl, hb2⟩
      go_wp2_with fail
      refine (HCF.out _ (bgo hb hb2)).mono ?_
      rintro e w3 ⟨v, rfl, ho, hb3⟩
      have HO := Lib.hid (ho.base_ (base' := w.heap.size) (bgo hb hb2).size)
      clear ho
      go_wp2_with fail
      go_ret
      exact ⟨v, rfl, HO.out, bgo (bgo hb hb2) hb3⟩
end Go.Proofs.Ytldpcocnhpeadaa
