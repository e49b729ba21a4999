/- Unit propagation of one clause by the reference. -/
import Derived.Test.YtldpcocnhpeadaaUnit
import Derived.Test.YtldpcocnhpeadaaDrawI
import Derived.Test.YtldpcocnhpeadaaTail
namespace Go.Proofs.Ytldpcocnhpeadaa
open Go.ChangeShapes Go.WideShapes Go.ChangeAt Go.RowKit
open Go.Shelf
set_option linter.unusedVariables false
set_option maxRecDepth 100000

theorem literalDomain_b (x : Ltl) (w : World) (h0 : 0 ≤ x.val) (h1 : x.val ≤ 5) (d : Int) (hd : truesF x = d) : Calls Try.prog 109 #[.agg #[.int .i64 x.var, .int .i64 x.val, .bool x.neg]] w fun e w' => e = .returned (.int .i64 d) ∧ Below w.heap.size w w' := by
  subst hd; exact literalDomain x w h0 h1
set_option maxHeartbeats 4000000 in
theorem clauseFilter (b0 : Nat) (A B : Option Addr) (n m c d : Nat) (xs : List Ltl) (ds : List Int) (w : World) (h : LitR w w.heap.size A n xs) (hy : w.ownsRow b0 3 1 (.slice B m d) m (ds.map (.int .i64))) (hn : n ≤ 12) (hm : m ≤ 4) (hl : ds.length = m) (hv : ∀ x ∈ xs, 0 ≤ x.var ∧ x.var < m ∧ 0 ≤ x.val ∧ x.val ≤ 5) (hd : ∀ d ∈ ds, 0 ≤ d ∧ d ≤ 63) :
    Calls Try.prog 78 #[.slice A n c, .slice B m d] w fun e w' => ∃ v, e = .returned v ∧ w'.ownsRow w.heap.size 3 1 v m ((upL xs ds).map (.int .i64)) ∧ Below w.heap.size w w' := by
  have hlx := Lib.hid h.len
  have HL := Lib.hid hl
  have HV := Lib.hid hv
  have HD := Lib.hid hd
  have hc := copyInts b0 m (.slice B m d) ds w hy (by omega)
  obtain ⟨B', d', e', ry, -⟩ := IntR.of_own hy (by omega)
  injection e' with e1 e2 e3
  subst e1 e3
  have HC := Lib.hid hc
  clear hc hy hl hv hd
  obtain ⟨i0, hi0, hz0, hz1, hz2⟩ := info_parts info_int
  go_enter Try.func78, Try.ntmps78
  go_wp2_with fail
  refine HC.out.mono ?_
  rintro e w1 ⟨v, rfl, ho, hb1⟩
  obtain ⟨C, cc, rfl⟩ := (HoldR.of_own ho).form
  have HO := Lib.hid ho
  clear ho
  go_wp2_with fail
  go_loopw [6, 7] (fun o i wr => ∃ (k : Nat) (oi : Int), k ≤ n ∧ i = .int .i64 k ∧ o = .int .i64 oi ∧ ((oi = -1 ∧ Hid ((xs.take k).filter (openL ds) = [])) ∨ ∃ (j : Nat) (l : Ltl), oi = (j : Int) ∧ j < k ∧ Hid (xs[j]? = some l) ∧ Hid ((xs.take k).filter (openL ds) = [l])) ∧ Below w1.heap.size w1 wr) (fun _ i _ => n - (intOf i).toNat)
  case atStart => exact ⟨0, -1, by omega, rfl, rfl, .inl ⟨rfl, Lib.hid rfl⟩, Below.refl _ _⟩
  case round =>
    obtain ⟨k, oi, hk, rfl, rfl, hor, hb⟩ := hrel
    have hbw := bgo hb1 hb
    have hwr := hbw.size
    by_cases hlt : k < n
    · obtain ⟨ab, ao, x, rfl, hab, hxk, hc0, hc1, hc2⟩ := LitR.at_ (h.below LitC.keeps hbw) hlt
      obtain ⟨xv0, xv1, xv2, xv3⟩ := HV.out x (List.mem_of_getElem? hxk)
      obtain ⟨j, hj⟩ : ∃ j : Nat, x.var = (j : Int) := ⟨x.var.toNat, by omega⟩
      have hjm : j < m := by omega
      obtain ⟨bb, bo, y, rfl, hbb, hyk, hcy⟩ := IntR.at_ (ry.below IntC.keeps hbw) hjm
      have hop : openL ds x = (bits .and .i64 y (truesF x) != 0) := by unfold openL; rw [hj, Int.toNat_natCast, hyk]; rfl
      have hyd := HD.out y (List.mem_of_getElem? hyk)
      obtain ⟨t, ht⟩ : ∃ t, truesF x = t := ⟨_, rfl⟩
      have htb := trues_bd x xv2 xv3
      rw [ht] at hop htb
      have hfs := filter_snoc (openL ds) hxk
      rw [hop] at hfs
      have HFS := Lib.hid hfs
      have HXK := Lib.hid hxk
      have HT := Lib.hid ht
      rw [hj] at hc0
      clear hxk hyk hop hfs ht
      have q0 : ∀ p : Later wr, p.val.cell? ⟨ab, ao + k * 3, none⟩ = some (.int .i64 j) := fun p => p.cell (by omega) hc0
      have q1 : ∀ p : Later wr, p.val.cell? ⟨ab, ao + k * 3 + 1, none⟩ = some (.int .i64 x.val) := fun p => p.cell (by omega) hc1
      have q2 : ∀ p : Later wr, p.val.cell? ⟨ab, ao + k * 3 + 2, none⟩ = some (.bool x.neg) := fun p => p.cell (by omega) hc2
      have q3 : ∀ p : Later wr, p.val.cell? ⟨bb, bo + j, none⟩ = some (.int .i64 y) := fun p => p.cell (by omega) hcy
      have hld : ∀ W : World, Calls Try.prog 109 #[.agg #[.int .i64 (j : Int), .int .i64 x.val, .bool x.neg]] W fun e w' => e = .returned (.int .i64 t) ∧ Below W.heap.size W w' := fun W => by
        have := literalDomain_b x W xv2 xv3 t HT.out
        rw [hj] at this
        exact this
      have HLD := Lib.hid hld
      clear hld
      cases hp : (bits .and .i64 y t != 0)
      · have hp2 : (bits .and .i64 y t == 0) = true := by simpa using hp
        rw [hp] at HFS
        go_wp2_with fail
        refine wp_region_later (by kernel_rfl) (by kernel_rfl) ?_
        repeat (go_big_quiet_step (first | (go_at_call 109; exact calls_later (HLD.out _))))
        refine wpQuiet_nil ?_
        intro w5 hw'
        obtain ⟨⟨w6, hb5⟩, hw''⟩ := hw'
        subst hw''
        go_wp2_with fail
        go_roundw
        case rel =>
          refine ⟨k + 1, oi, by omega, by go_num, rfl, ?_, bgo hb hb5⟩
          rcases hor with ⟨h1, h2⟩ | ⟨j', l, h1, h2, h3, h4⟩
          · exact .inl ⟨h1, Lib.hid (by rw [HFS.out, h2.out]; simp)⟩
          · exact .inr ⟨j', l, h1, by omega, h3, Lib.hid (by rw [HFS.out, h4.out]; simp)⟩
        case measure => simp [intOf]; omega
      · have hp2 : (bits .and .i64 y t == 0) = false := by simpa using hp
        rw [hp] at HFS
        rcases hor with ⟨rfl, h2⟩ | ⟨j', l, rfl, h2, h3, h4⟩
        · go_wp2_with fail
          refine wp_region_later (by kernel_rfl) (by kernel_rfl) ?_
          repeat (go_big_quiet_step (first | (go_at_call 109; exact calls_later (HLD.out _))))
          refine wpQuiet_nil ?_
          intro w5 hw'
          obtain ⟨⟨w6, hb5⟩, hw''⟩ := hw'
          subst hw''
          go_wp2_with fail
          go_roundw
          case rel => exact ⟨k + 1, k, by omega, by go_num, rfl, .inr ⟨k, x, rfl, by omega, HXK, Lib.hid (by rw [HFS.out, h2.out]; rfl)⟩, bgo hb hb5⟩
          case measure => simp [intOf]; omega
        · have hj0 : (0 : Int) ≤ (j' : Int) := by omega
          go_wp2_with fail
          refine wp_region_later (by kernel_rfl) (by kernel_rfl) ?_
          repeat (go_big_quiet_step (first | (go_at_call 109; exact calls_later (HLD.out _))))
          refine wpQuiet_nil ?_
          intro w5 hw'
          obtain ⟨⟨w6, hb5⟩, hw''⟩ := hw'
          subst hw''
          go_wp2_with fail
          go_ret
          refine ⟨_, rfl, ?_, bgo hb1 (bgo hb hb5)⟩
          have he : upL xs ds = ds := upL_two (k := k + 1) (by rw [HFS.out, h4.out]; rfl)
          rw [he]
          exact own_below HO.out (bgo hb hb5)
    · obtain rfl : k = n := by omega
      rcases hor with ⟨rfl, h2⟩ | ⟨j', l, rfl, h2, h3, h4⟩
      · have hb2 := bgo hb1 hb
        go_wp2_with (refine wpList_make_full _ rfl (.tmp 38) (.tmp 38) _ rfl wr.heap.size 3 i0 _ 1 Try.underlying23 hi0 hz0 hz1 .i64 .i64 m m m rfl rfl rfl rfl (by rw [hz2]; omega) (by unfold maxLen; omega) (Nat.le_refl _) ?_; intro w7 hown hgr)
        have hb7 : Below wr.heap.size wr w7 := (Below.refl _ _).grown hgr (Nat.le_refl _) (by simp)
        have he : (upL xs ds).map (Value.int .i64) = (madeCells (Value.int .i64 0).cells (m * 1)).toList := by
          rw [upL_none hlx.out h2.out, HL.out, Nat.mul_one]
          show _ = (madeCells #[Value.int .i64 0] m).toList
          rw [toList_madeCells_one, List.map_replicate]
        go_ret
        exact ⟨_, rfl, by rw [he]; exact own_base hown hwr, bgo hb2 hb7⟩
      · obtain ⟨ab, ao, l', rfl, hab, hlk, hc0, hc1, hc2⟩ := LitR.at_ (i := j') (h.below LitC.keeps hbw) (by omega)
        have hll : l' = l := by rw [h3.out] at hlk; injection hlk with hlk; exact hlk.symm
        subst hll
        obtain ⟨xv0, xv1, xv2, xv3⟩ := HV.out l' (List.mem_of_getElem? hlk)
        obtain ⟨j, hj⟩ : ∃ j : Nat, l'.var = (j : Int) := ⟨l'.var.toNat, by omega⟩
        have hjm : j < m := by omega
        have ho := own_below HO.out hb
        obtain ⟨gc, rfl, hgc⟩ : ∃ gc, C = some ⟨gc, 0, none⟩ ∧ w.heap.size ≤ gc := by
          obtain ⟨gc, e, h1, _⟩ := (HoldR.of_own ho).pos (by omega)
          exact ⟨gc, e, h1⟩
        have hco := ho.cellAt j (by omega)
        have hfo := ho.frozenAt j
        obtain ⟨y, hy⟩ : ∃ y, ds[j]? = some y := ⟨_, List.getElem?_eq_getElem (by rw [HL.out]; exact hjm)⟩
        rw [List.getElem?_map, hy] at hco
        simp only [Option.map_some] at hco
        have hup := upL_one hlx.out h4.out
        rw [hj, Int.toNat_natCast, hy] at hup
        have HUP := Lib.hid hup
        have hgw : gc < wr.heap.size := (ho.lt gc rfl).2
        rw [hj] at hc0
        have hld : ∀ W : World, Calls Try.prog 109 #[.agg #[.int .i64 (j : Int), .int .i64 l'.val, .bool l'.neg]] W fun e w' => e = .returned (.int .i64 (truesF l')) ∧ Below W.heap.size W w' := fun W => by
          have := literalDomain l' W xv2 xv3
          rw [hj] at this
          exact this
        have HLD := Lib.hid hld
        have HO2 := Lib.hid ho
        have hjk : (j' : Int) < (k : Int) := by omega
        have hjj : (j : Int) < (m : Int) := by omega
        clear hup hld ho hy hlk hbw
        go_wp2_with fail
        have q0 : ∀ p : Later wr, p.val.cell? ⟨ab, ao + j' * 3, none⟩ = some (.int .i64 j) := fun p => p.cell (by omega) hc0
        have q1 : ∀ p : Later wr, p.val.cell? ⟨ab, ao + j' * 3 + 1, none⟩ = some (.int .i64 l'.val) := fun p => p.cell (by omega) hc1
        have q2 : ∀ p : Later wr, p.val.cell? ⟨ab, ao + j' * 3 + 2, none⟩ = some (.bool l'.neg) := fun p => p.cell (by omega) hc2
        have q3 : ∀ p : Later wr, p.val.cell? ⟨gc, j, none⟩ = some (.int .i64 y) := fun p => p.cell hgw hco
        refine wp_region_later_tail 20 (by kernel_rfl) (by kernel_rfl) ?_
        simp only [List.take_succ_cons, List.take_zero, List.drop_succ_cons, List.drop_zero]
        repeat (go_big_quiet_step (first | (go_at_call 109; exact calls_later (HLD.out _))))
        refine wpQuiet_nil ?_
        intro w5 hw'
        obtain ⟨⟨w6, hb5⟩, hw''⟩ := hw'
        subst hw''
        have hco5 := (hb5.cell (p := ⟨gc, j, none⟩) hgw).trans hco
        have hfo5 := (World.frozen?_of_block (a := ⟨gc, j, none⟩) (hb5.block gc hgw)).trans hfo
        have HO6 := Lib.hid (own_below HO2.out hb5)
        have hb6 := bgo hb1 (bgo hb hb5)
        clear q0 q1 q2 q3 hco hfo HO2 hc0 hc1 hc2 hb5
        go_wp2_with fail
        go_ret
        exact ⟨_, rfl, by rw [HUP.out, List.map_set]; exact (HO6.out.stored j _).1, hb6.setCell (by simpa using hgc) _⟩
theorem sUnitPropagate (b0 : Nat) (A B : Option Addr) (n m c d : Nat) (xs : List Ltl) (ds : List Int) (w : World) (h : LitR w w.heap.size A n xs) (hy : w.ownsRow b0 3 1 (.slice B m d) m (ds.map (.int .i64))) :
    Calls Try.prog 29 #[.slice A n c, .slice B m d] w fun e w' => ∃ v, e = .returned v ∧ w'.ownsRow w.heap.size 3 1 v (upF xs ds).length ((upF xs ds).map (.int .i64)) ∧ Below w.heap.size w w' := by
  have hlm : ds.length = m := by have := hy.1; simpa using this
  have hln := h.len
  have hm0 : m ≤ 9223372036854775807 := by
    rcases hy.2 with ⟨_, h0⟩ | ⟨g, cap, cur, _, _, _, h4, h5, _⟩
    · omega
    · unfold maxLen at h5; omega
  have hy2 := hy
  obtain ⟨B', d', e', ry, -⟩ := IntR.of_own hy2 hm0
  injection e' with e1 e2 e3
  subst e1 e3
  clear hy2
  have HY := Lib.hid hy
  clear hy
  cases h1 : doF ds
  · have e : upF xs ds = [] := by unfold upF; rw [h1]; rfl
    rw [e]
    have H1 := Lib.hid h1
    clear h1 e
    go_enter Try.func29, Try.ntmps29
    go_wp2_with fail
    refine (svalidDomains _ _ _ _ _ ry).mono ?_
    rw [H1.out]
    rintro e w1 ⟨rfl, hb⟩
    go_wp2_with fail
    go_ret
    exact ⟨_, rfl, World.ownsRow_nil _ _ _ _, hb⟩
  · have hdv := doF_vals h1
    have hm1 : inB (m : Int) 1 4 = true := inB_mk (by omega)
    have hvc : vcF xs m = vclF xs m := by unfold vcF; rw [hm1]; rfl
    cases h2 : vclF xs m
    · have e : upF xs ds = [] := by unfold upF; rw [h1, hlm, hvc, h2]; rfl
      rw [e]
      have H1 := Lib.hid h1
      have H2 := Lib.hid h2
      clear h1 h2 e hdv hvc hm1
      go_enter Try.func29, Try.ntmps29
      go_wp2_with fail
      refine (svalidDomains _ _ _ _ _ ry).mono ?_
      rw [H1.out]
      rintro e w1 ⟨rfl, hb⟩
      go_wp2_with fail
      refine (svalidClause _ _ _ _ _ _ (h.on hb)).mono ?_
      rw [H2.out]
      rintro e w2 ⟨rfl, hb2⟩
      go_wp2_with fail
      go_ret
      exact ⟨_, rfl, World.ownsRow_nil _ _ _ _, bgo hb hb2⟩
    · have e : upF xs ds = upL xs ds := by unfold upF; rw [h1, hlm, hvc, h2]; rfl
      have el : (upL xs ds).length = m := by rw [upL_len, hlm]
      rw [e, el]
      have hvals := vcF_vals (xs := xs) (m := m) (by rw [hvc, h2])
      have hx12 : xs.length ≤ 12 := by unfold vclF at h2; simp only [Bool.and_eq_true] at h2; exact of_decide_eq_true h2.2
      have HCF := Lib.hid fun (W : World) (hW : Below w.heap.size w W) => clauseFilter b0 A B n m c d xs ds W (h.on hW) (own_below HY.out hW) (by omega) (by omega) hlm hvals hdv.2.2
      have H1 := Lib.hid h1
      have H2 := Lib.hid h2
      clear h1 h2 e el hdv hvc hm1 hvals hx12 hlm hln
      go_enter Try.func29, Try.ntmps29
      go_wp2_with fail
      refine (svalidDomains _ _ _ _ _ ry).mono ?_
      rw [H1.out]
      rintro e w1 ⟨rfl, hb⟩
      go_wp2_with fail
      refine (svalidClause _ _ _ _ _ _ (h.on hb)).mono ?_
      rw [H2.out]
      rintro e w2 ⟨rfl, hb2⟩
      go_wp2_with fail
      refine (HCF.out _ (bgo hb hb2)).mono ?_
      rintro e w3 ⟨v, rfl, ho, hb3⟩
      have HO := Lib.hid (own_base (base' := w.heap.size) ho (bgo hb hb2).size)
      clear ho
      go_wp2_with fail
      go_ret
      exact ⟨v, rfl, HO.out, bgo (bgo hb hb2) hb3⟩
end Go.Proofs.Ytldpcocnhpeadaa
