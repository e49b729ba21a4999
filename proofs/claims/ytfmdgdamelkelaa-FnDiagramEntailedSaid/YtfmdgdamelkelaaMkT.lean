/- (*maker).numbered. -/
import Derived.Test.YtfmdgdamelkelaaMkH
namespace Go.Proofs.Ytfmdgdamelkelaa
open Go.ChangeShapes Go.WideShapes Go.ChangeAt Go.RowKit
open Go.Shelf
set_option linter.unusedVariables false
set_option maxRecDepth 100000
attribute [local go_sem] Oper.semAt_some

theorem info_ints : (Try.prog.info? 22).map (fun i => (i.zero, i.size, i.bytes)) = some (some (.slice none 0 0), 1, 24) := by kernel_rfl
theorem info_lays : (Try.prog.info? 23).map (fun i => (i.zero, i.size, i.bytes)) = some (some (.slice none 0 0), 1, 24) := by kernel_rfl
theorem indexIntQ (A : Option Addr) (n c : Nat) (xs : List Int) (v : Int) (w : World) (h : IntR w w.heap.size A n xs) (hm : v ∈ xs) :
    Calls Try.prog 92 #[.slice A n c, .int .i64 v] w fun e w' => ∃ j : Nat, e = .returned (.int .i64 (j : Int)) ∧ xs[j]? = some v ∧ Below w.heap.size w w' := by
  have hn := h.le
  have hl := Lib.hid h.len
  have HM := Lib.hid hm
  clear hm
  go_enter Try.func92, Try.ntmps92
  go_wp2_with fail
  go_loopw [8] (fun i wr => ∃ k : Nat, k ≤ n ∧ i = .int .i64 k ∧ Hid (AllB (fun x => !(v == x)) xs k) ∧ Below w.heap.size w wr) (fun i _ => n - (intOf i).toNat)
  case atStart => exact ⟨0, by omega, rfl, AllB.zero _ _, Below.refl _ _⟩
  case round =>
    obtain ⟨k, hk, rfl, hq, hb⟩ := hrel
    by_cases hlt : k < n
    · obtain ⟨ab, ao, x, rfl, hab, hxk, hcx⟩ := IntR.at_ (h.below IntC.keeps hb) hlt
      have HX := Lib.hid hxk
      clear hxk
      cases he : (v == x)
      · have HE := Lib.hid he
        go_wp2_with fail
        go_roundw
        case rel => exact ⟨k + 1, by omega, by go_num, AllB.succ hq.out HX.out (by simp only [HE.out]; rfl), hb⟩
        case measure => simp [intOf]; omega
      · have HE := Lib.hid he
        go_wp2_with fail
        go_ret
        exact ⟨k, rfl, by rw [beq_iff_eq.1 HE.out]; exact HX.out, hb⟩
    · exfalso
      obtain rfl : k = n := by omega
      have h1 := AllB.done hq.out (Nat.le_of_eq hl.out)
      rw [List.all_eq_true] at h1
      have := h1 v HM.out
      simp at this
theorem cloneIntS (g o n c : Nat) (xs : List Int) (w : World) (hl : xs.length = n) (hn : n ≤ 1048576) (h : ∀ j u, (xs.map (Value.int .i64))[j]? = some u → w.cell? ((⟨g, o, none⟩ : Addr).add j) = some u) (hg : g < w.heap.size) :
    Calls Try.prog 90 #[.slice (some ⟨g, o, none⟩) n c] w fun e w' => ∃ v', e = .returned v' ∧ w'.ownsRow w.heap.size 3 1 v' n (xs.map (.int .i64)) ∧ Below w.heap.size w w' := by
  obtain ⟨i0, hi0, hz0, hz1, hz2⟩ := info_parts info_int
  have ol : (w.alloc (.cells #[] 3)).ownsRow w.heap.size 3 1 (.slice (some ⟨w.heap.size, 0, none⟩) 0 0) 0 [] := World.ownsRow_lit w #[] 0 (Nat.le_refl _) (by decide) rfl
  have hs : Src (w.alloc (.cells #[] 3)) 1 (some ⟨g, o, none⟩) n c (xs.map (.int .i64)) := .inr ⟨_, rfl, by simp [hl], fun j u hj => ((b_alloc w (.cells #[] 3)).cell (by rw [block_of_add]; exact hg)).trans (h j u hj)⟩
  clear h
  have q22 : ∀ (w : World) (a : Option Addr) (n c n' c' : Nat), (binOp .eql 22 (.slice a n c) (.slice none n' c')).run Try.prog w = .ok (.bool a.isNone) w := fun w a n c n' c' => Lib.run_eql_slice_nil w _ _ a n c n' c' Try.underlying22
  have u22 : ∀ w, Sem.run Try.prog (underlying 22) w = .ok (TypeDesc.slice 3) w := run_underlying Try.underlying22
  go_enter Try.func90, Try.ntmps90
  go_wp2_with (at_builtin; refine wpList_append_any rfl _ _ 22 rfl w.heap.size 3 i0 _ 1 8 Try.underlying22 hi0 hz0 hz1 hz2 rfl (by decide) (.slice (some ⟨w.heap.size, 0, none⟩) 0 0) _ _ rfl ol _ _ _ _ rfl hs (by simp [Value.oneCell']) (by unfold maxLen; omega) (by omega) (by rw [size_alloc_]; omega) ?_; intro v1 w1 ho1 hb1 _ _)
  have ho2 : w1.ownsRow w.heap.size 3 1 v1 n (xs.map (.int .i64)) := by simpa using ho1
  go_ret
  exact ⟨v1, rfl, ho2, (b_alloc _ _).trans hb1⟩
theorem clipLays (A : Option Addr) (n c : Nat) (w : World) (hnc : n ≤ c) :
    Calls Try.prog 94 #[.slice A n c] w fun e w' => e = .returned (.slice A n n) ∧ w = w' := by
  have hnc2 : (n : Int) ≤ (c : Int) := by omega
  go_enter Try.func94, Try.ntmps94
  go_wp2_with fail
  go_ret
  exact ⟨rfl, rfl⟩
theorem RowsH.grown {W W' : World} {lo base n : Nat} {es : List (List Int)} {gs : List Nat} {rs : List Value} {v : Value} {ys : List Value} (h : RowsH W lo es gs rs) (hv : W.ownsRow base 22 1 v n ys) (hg : W.grownBy W' v.ownBlock) : RowsH W' lo es gs rs :=
  h.same fun g hm hlt => hg.block g hlt (fun e => by
    obtain ⟨q, hq, eq⟩ := List.getElem_of_mem hm
    have h1 := h.1
    have h2 := h.2.1
    obtain ⟨m1, m2⟩ := h.2.2 q rs[q] es[q] g (List.getElem?_eq_getElem (by omega)) (List.getElem?_eq_getElem (by omega)) (by rw [List.getElem?_eq_getElem hq, eq])
    rcases m1.2 with ⟨h0, -⟩ | ⟨g', cap, cur, h0, -, h3, -⟩
    · rw [h0] at m2; cases m2
    · rw [h0] at m2
      injection m2 with m2
      subst m2
      exact own_not hv e.symm (show TBlk 3 W g' cur from h3) (by decide))
set_option maxHeartbeats 8000000 in
theorem inumbered (mb nb lb k cn : Nat) (bx : Array Value) (hbx : bx[7]? = some (.slice (some ⟨nb, 0, none⟩) k cn)) (X : Nat → Prop) (N : List (List (List Int))) (root : Int) (w : World) (hT : TBlk 66 w mb bx) (hS : MkS w X nb lb N) (hG : GInv N k) (hroot : IsN N k 0 root) (hk1 : 1 ≤ k) (hk4 : k ≤ 4) (hB5 : Bd5 N 100000) :
    Calls Try.prog 54 #[.pointer (some ⟨mb, 0, none⟩), .int .i64 root] w fun e w' => ∃ v, e = .returned v ∧ DgHR w' w.heap.size v (nmL N k 0 [root]) ∧ Below w.heap.size w w' := by
  obtain ⟨i0, hi0, hz0, hz1, hz2⟩ := info_parts info_int
  obtain ⟨i1, hi1, hx0, hx1, hx2⟩ := info_parts info_ints
  obtain ⟨i2, hi2, hy0, hy1, hy2⟩ := info_parts info_lays
  obtain ⟨wa, hwa⟩ : ∃ wa, w.alloc (.cells #[] 23) = wa := ⟨_, rfl⟩
  obtain ⟨wb, hwb⟩ : ∃ wb, wa.alloc (.cells #[.int .i64 root] 3) = wb := ⟨_, rfl⟩
  have hsa : wa.heap.size = w.heap.size + 1 := by rw [← hwa, size_alloc_]
  have hba : Below w.heap.size w wa := by rw [← hwa]; exact b_alloc _ _
  have hbb : Below wa.heap.size wa wb := by rw [← hwb]; exact b_alloc _ _
  have hwab : Below w.heap.size w wb := hba.trans (hbb.mono (by omega))
  have oa : wa.ownsRow w.heap.size 23 1 (.slice (some ⟨w.heap.size, 0, none⟩) 0 0) 0 [] := by rw [← hwa]; exact World.ownsRow_lit w #[] 0 (Nat.le_refl _) (by decide) rfl
  have ob : wb.ownsRow wa.heap.size 3 1 (.slice (some ⟨wa.heap.size, 0, none⟩) 1 1) 1 [.int .i64 root] := by rw [← hwb]; exact World.ownsRow_lit wa #[.int .i64 root] 1 (Nat.le_refl _) (by decide) rfl
  have HOA := Lib.hid (own_below oa hbb)
  rw [hsa] at ob
  have HOB := Lib.hid ((HoldR.of_own ob).base_ (show w.heap.size ≤ w.heap.size + 1 by omega))
  have hTb := hT.below_ hwab hT.lt
  have b7 := hTb.at_ 7 hbx
  have HT := Lib.hid hT
  have HS := Lib.hid hS
  have HG := Lib.hid hG
  have HBX := Lib.hid hbx
  have HAB := Lib.hid hwab
  have HR0 := Lib.hid (show ∀ a ∈ [root], IsN N k 0 a from fun a ha => by rw [List.mem_singleton.1 ha]; exact hroot)
  have HB5 := Lib.hid hB5
  have hmlt := hT.lt
  clear hT hS hG hbx hba hbb oa ob hTb hwab hroot hB5
  go_enter Try.func54, Try.ntmps54
  go_wp2_with fail
  clear hwa hwb
  go_loopw [5, 6, 23] (fun ov mv t23 wr => ∃ (i : Nat) (v u : Value) (d : List (List (List Int))) (gss : List (List Nat)) (us : List Value) (met : List Int), i ≤ k ∧ t23 = .int .i64 i ∧ v = ov ∧ u = mv ∧ d.length = i ∧ Hid (wr.ownsRow w.heap.size 23 1 v i us) ∧ Hid (LaysH wr w.heap.size d gss us) ∧ Hid (gss.flatten.Nodup) ∧ Hid (HoldR wr w.heap.size 3 1 u met.length (met.map (.int .i64))) ∧ Hid (∀ a ∈ met, IsN N k i a) ∧ Hid (d ++ nmL N (k - i) i met = nmL N k 0 [root]) ∧ Hid (met.length ≤ 6 ^ i) ∧ Hid (Below w.heap.size w wr)) (fun _ _ i _ => k - (intOf i).toNat)
  case atStart => exact ⟨0, _, _, [], [], [], [root], by omega, rfl, rfl, rfl, rfl, HOA, Lib.hid (LaysH.nil _ _), Lib.hid (by simp), HOB, HR0, Lib.hid (by simp), Lib.hid (by simp), HAB⟩
  case round =>
    obtain ⟨i, v, u, d, gss, us, met, hi, rfl, rfl, rfl, hdl, hO, hL, hN, hM, hI, hE, hlen, hb⟩ := hrel
    rename World => wr
    clear HOA HOB HAB HR0 b7 hsa
    have hbw := hb.out.size
    by_cases hlt : i < k
    · obtain ⟨Ao, co, rfl⟩ := (HoldR.of_own hO.out).form
      obtain ⟨nm, hnm⟩ : ∃ nm, met.length = nm := ⟨_, rfl⟩
      have hM' := hM.out
      rw [hnm] at hM'
      obtain ⟨Am, cm, rfl⟩ := hM'.form
      have hmet : IntR wr wr.heap.size Am nm met := by
        obtain ⟨A', c', e, h⟩ := IntR.of_hold hM' (by
          have := hlen.out
          rw [hnm] at this
          have h6 : 6 ^ i ≤ 6 ^ 4 := Nat.pow_le_pow_right (by omega) (by omega)
          omega)
        injection e with e1 e2 e3
        subst e1
        exact h
      have hnm6 : nm ≤ 1296 := by
        have := hlen.out
        rw [hnm] at this
        have h6 : 6 ^ i ≤ 6 ^ 4 := Nat.pow_le_pow_right (by omega) (by omega)
        omega
      have HMET := Lib.hid hmet
      have HNM := Lib.hid hnm
      have TB := HT.out.below_ hb.out HT.out.lt
      have b7 := TB.at_ 7 HBX.out
      obtain ⟨wn, hwn⟩ : ∃ wn, wr.alloc (.cells #[] 3) = wn := ⟨_, rfl⟩
      have hsn : wn.heap.size = wr.heap.size + 1 := by rw [← hwn, size_alloc_]
      have hbn : Below wr.heap.size wr wn := by rw [← hwn]; exact b_alloc _ _
      have on : wn.ownsRow wr.heap.size 3 1 (.slice (some ⟨wr.heap.size, 0, none⟩) 0 0) 0 [] := by rw [← hwn]; exact World.ownsRow_lit wr #[] 0 (Nat.le_refl _) (by decide) rfl
      have HON := Lib.hid on
      have HBN := Lib.hid hbn
      clear hM' hmet hnm TB hbn on
      go_wp2_with (at_make; go_loud (refine wpList_make_own _ rfl (.const (.int .i64 0)) (.tmp 28) _ rfl wn.heap.size 22 i1 _ 1 Try.underlying23 hi1 hx0 hx1 .i64 .i64 _ nm rfl rfl rfl (by rw [hx2]; omega) (by unfold maxLen; omega) (Nat.le_refl _) ?_); intro w3 ho hgr)
      clear hwn
      have hb3 : Below wr.heap.size wr w3 := HBN.out.trans (((Below.refl wn.heap.size wn).grown hgr (Nat.le_refl _) (by simp)).mono (by omega))
      have HP0 := Lib.hid (own_grown (r := none) HON.out hgr (fun b hb => by cases hb))
      rw [hsn] at ho
      have HQ0 := Lib.hid (own_base ho (show wr.heap.size ≤ wr.heap.size + 1 by omega))
      have HB3 := Lib.hid hb3
      obtain ⟨last, hlast⟩ : ∃ last, decide (i + 1 = k) = last := ⟨_, rfl⟩
      have HLAST := Lib.hid hlast
      clear hb3 hgr ho hlast
      go_loopw [8, 9, 32] (fun nv lv t32 wq => ∃ (j : Nat) (p q : Value) (gs : List Nat) (rs : List Value), j ≤ nm ∧ t32 = .int .i64 j ∧ p = nv ∧ q = lv ∧ Hid (wq.ownsRow wr.heap.size 3 1 p (nxB last N i met j).length ((nxB last N i met j).map (.int .i64))) ∧ Hid (wq.ownsRow wr.heap.size 22 1 q j rs) ∧ Hid (RowsH wq wr.heap.size ((met.take j).map (finR last N i met)) gs rs) ∧ Hid gs.Nodup ∧ Hid (∀ g, p.ownBlock = some g → g ∉ gs) ∧ Hid (Below wr.heap.size wr wq)) (fun _ _ i _ => nm - (intOf i).toNat)
      case atStart =>
        refine ⟨0, _, _, [], [], by omega, rfl, rfl, rfl, ?_, HQ0, Lib.hid (RowsH.nil _ _), Lib.hid (by simp), Lib.hid (fun g _ h => by simp at h), HB3⟩
        have : nxB last N i met 0 = [] := by unfold nxB; cases last <;> rfl
        rw [this]
        exact HP0
      case round =>
        obtain ⟨j, p, q, gs, rs, hj, rfl, rfl, rfl, hP, hQ, hR, hGN, hPG, hbq⟩ := hrel
        rename World => wq
        have hqr := hbq.out.size
        by_cases hjn : j < nm
        · obtain ⟨a', ha'⟩ : ∃ a, met[j]? = some a := ⟨_, List.getElem?_eq_getElem (by rw [HNM.out]; exact hjn)⟩
          have hIa := hI.out a' (List.mem_of_getElem? ha')
          obtain ⟨an, rfl⟩ := Int.eq_ofNat_of_zero_le hIa.1
          obtain ⟨l, r, hl, hr⟩ := hIa.get (by omega)
          rw [Int.toNat_natCast] at hr
          obtain ⟨hr6, hredge, -⟩ := HG.out.ok i l an r hl hr
          have hal := (List.getElem?_eq_some_iff.1 hr).1
          have hwq : Below w.heap.size w wq := hb.out.trans (hbq.out.mono hbw)
          obtain ⟨v0, b0, zs, cs, q1, -, q3, -, ⟨⟨Av, cv, rfl⟩, q52, q53⟩, -⟩ := (HS.out.below hwq).at_ hl
          have hh0 := HoldR.of_own q53
          obtain ⟨gv, rfl, -, hgv⟩ := hh0.pos (by omega)
          have ncell := q1.at_ i q3
          have hlen5 := HB5.out l (List.mem_of_getElem? hl)
          have hcells : ∀ q u, (r.map (Value.int .i64))[q]? = some u → wq.cell? ((⟨gv, an * 6, none⟩ : Addr).add q) = some u := fun q u hu => by
            have h1 := flat_at (uss := l.map (List.map (Value.int .i64))) (m := 6) (fun z hz => by
              obtain ⟨y, hy, rfl⟩ := List.mem_map.1 hz
              rw [List.length_map]; exact q52 y hy) (i := an) (j := q) (u := r.map (Value.int .i64)) (y := u) (by rw [List.getElem?_map, hr]; rfl) hu
            have h2 := hh0.cells _ u h1
            rw [add_own] at h2
            rw [show (⟨gv, an * 6, none⟩ : Addr).add q = ⟨gv, an * 6 + q, none⟩ by simp [Addr.add]]
            exact h2
          obtain ⟨ab, ao, a2, ea, hab, ha2, hca⟩ := IntR.at_ (HMET.out.on hbq.out) hjn
          subst ea
          rw [ha'] at ha2
          injection ha2 with ha2
          subst ha2
          have TB := HT.out.below_ hwq HT.out.lt
          have b7q := TB.at_ 7 HBX.out
          have hanz : ((an : Nat) : Int) < (l.length : Int) := by omega
          have HL := Lib.hid hl
          have HR := Lib.hid hr
          have HA := Lib.hid ha'
          have HRE := Lib.hid hredge
          have HC := Lib.hid hcells
          have HTB := Lib.hid TB
          clear hIa hl hr hredge hwq q1 q3 q52 q53 hh0 hcells ha' TB
          go_wp2_with fail
          refine (cloneIntS gv (an * 6) 6 6 r wq hr6 (by omega) HC.out hgv).mono ?_
          rintro e w2 ⟨v2, rfl, o2, hb2⟩
          obtain ⟨A2, c2, rfl⟩ := (HoldR.of_own o2).form
          obtain ⟨rb, rfl, hrb1, hrb2⟩ := (HoldR.of_own o2).pos (by omega)
          have HO2 := Lib.hid o2
          have HB2 := Lib.hid hb2
          have hs2 := hb2.size
          have HP2 := Lib.hid (own_below hP.out hb2)
          obtain ⟨F, hF⟩ : ∃ F, finR last N i met (an : Int) = F := ⟨_, rfl⟩
          have hF6 : F.length = 6 := by rw [← hF]; exact fin_len hr6 HL.out HR.out
          have HF := Lib.hid hF
          have TB2 := HTB.out.below_ hb2 HTB.out.lt
          have HTB2 := Lib.hid TB2
          clear o2 hb2 hF TB2
          go_wp2_with fail
          go_loopw [8, 49] (fun nv t49 wz => ∃ (v : Nat) (p' : Value), v ≤ 6 ∧ t49 = .int .i64 v ∧ p' = nv ∧ w2.heap.size ≤ wz.heap.size ∧ Hid (wz.ownsRow wr.heap.size 3 1 p' (nxA last N i met j (an : Int) v).length ((nxA last N i met j (an : Int) v).map (.int .i64))) ∧ Hid (wz.ownsRow wq.heap.size 3 1 (.slice (some ⟨rb, 0, none⟩) 6 c2) 6 ((F.take v ++ r.drop v).map (.int .i64))) ∧ Hid (p'.ownBlock = p.ownBlock ∨ ∃ g, p'.ownBlock = some g ∧ w2.heap.size ≤ g) ∧ Hid (Kp (fun b => b = rb ∨ p.ownBlock = some b) w2 wz)) (fun _ i _ => 6 - (intOf i).toNat)
          case atStart => exact ⟨0, p, by omega, rfl, rfl, Nat.le_refl _, HP2, by simpa using HO2, Lib.hid (.inl rfl), Lib.hid (Kp.refl _ _)⟩
          case round =>
            obtain ⟨v, p', hv, rfl, rfl, hsz, hP3, hO3, hpb, hK3⟩ := hrel
            rename World => wz
            have hmb3 : ¬ (mb = rb ∨ p.ownBlock = some mb) := fun h => by
              rcases h with h | h
              · omega
              · have := (HoldR.of_own hP.out).geBase h; omega
            have TB3 := hK3.out.blk HTB2.out hmb3
            by_cases hv6 : v < 6
            · obtain ⟨x, hx⟩ : ∃ x, r[v]? = some x := ⟨_, List.getElem?_eq_getElem (by omega)⟩
              have hxe := HRE.out v x hx
              have hx1 : x = -1 ∨ 0 ≤ x := hxe.imp id (fun h => h.1)
              have hat := takeAt hF6 hr6 hv6
              rw [hx] at hat
              have c3 := (HoldR.of_own hO3.out).cellAt v (by omega)
              rw [List.getElem?_map, hat] at c3
              simp only [Option.map_some] at c3
              have f3 := (HoldR.of_own hO3.out).frozenAt v
              have b73 := TB3.at_ 7 HBX.out
              have HX := Lib.hid hx
              clear hat hmb3 hxe
              by_cases hx0 : x < 0
              · have hst := fin_stay (j := j) (met := met) (last := last) HL.out HR.out HX.out hv6 hx1 (.inr hx0)
                rw [HF.out] at hst
                have HST := Lib.hid hst
                have hd0 : decide (x < 0) = true := decide_eq_true hx0
                clear hst hx1
                go_wp2_with fail
                go_roundw
                case rel => exact ⟨v + 1, p', by omega, by go_num, rfl, hsz, by rw [HST.out.2]; exact hP3, by rw [← takeStay hF6 hr6 hv6 HST.out.1 HX.out]; exact hO3, hpb, hK3⟩
                case measure => simp [intOf]; omega
              · have hd0 : decide (x < 0) = false := decide_eq_false hx0
                by_cases hl1 : i + 1 = k
                · have hlt1 : last = true := by rw [← HLAST.out]; exact decide_eq_true hl1
                  have hst := fin_stay (j := j) (met := met) (last := last) HL.out HR.out HX.out hv6 hx1 (.inl hlt1)
                  rw [HF.out] at hst
                  have HST := Lib.hid hst
                  have hik : ((i : Int) == (k : Int) - 1) = true := by simp; omega
                  clear hst hx1 hlt1
                  go_wp2_with fail
                  go_roundw
                  case rel => exact ⟨v + 1, p', by omega, by go_num, rfl, hsz, by rw [HST.out.2]; exact hP3, by rw [← takeStay hF6 hr6 hv6 HST.out.1 HX.out]; exact hO3, hpb, hK3⟩
                  case measure => simp [intOf]; omega
                · have hlf1 : last = false := by rw [← HLAST.out]; exact decide_eq_false hl1
                  have hik : ((i : Int) == (k : Int) - 1) = false := by simp; omega
                  subst hlf1
                  obtain ⟨hgo1, hgo2⟩ := fin_go (i := i) (met := met) (j := j) HL.out HR.out HX.out hv6 (by omega) HA.out
                  rw [HF.out] at hgo2
                  obtain ⟨C, hC⟩ : ∃ C, nxA false N i met j (an : Int) v = C := ⟨_, rfl⟩
                  obtain ⟨C', hC'⟩ : ∃ C', nxA false N i met j (an : Int) (v + 1) = C' := ⟨_, rfl⟩
                  have hClen := nxA_len false N i met j (an : Int) v
                  rw [hC] at hgo1 hClen hP3
                  rw [hC'] at hgo1 hgo2
                  have hprb : ∀ g, p'.ownBlock = some g → g ≠ rb := fun g hg e => by
                    rcases hpb.out with h | ⟨g', h, h'⟩
                    · rw [h] at hg
                      have := ownLt hP.out hg
                      omega
                    · rw [h] at hg
                      injection hg with hg
                      omega
                  obtain ⟨A3, c3', rfl⟩ := (HoldR.of_own hP3.out).form
                  obtain ⟨A3', c3'', ea3, hIC⟩ := IntR.of_hold (HoldR.of_own hP3.out) (by omega)
                  injection ea3 with ea1 ea2 ea3
                  subst ea1 ea3
                  have HG1 := Lib.hid hgo1
                  have HG2 := Lib.hid hgo2
                  have HC' := Lib.hid hC'
                  have HPRB := Lib.hid hprb
                  have HIC := Lib.hid hIC
                  clear hgo1 hgo2 hC hC' hprb hIC hx1
                  go_wp2_with fail
                  refine (containsInt A3 C.length c3' C x wz HIC.out).mono ?_
                  rintro e w4 ⟨rfl, hb4⟩
                  have HI4 := Lib.hid (HIC.out.on hb4)
                  have hP4 := own_below hP3.out hb4
                  have hO4 := own_below hO3.out hb4
                  have hK4 := Lib.hid (hK3.out.go (Kp.of (X := fun _ => False) hb4) (fun _ _ h => h.elim))
                  have hs4 := hb4.size
                  clear HIC hb4 c3 f3
                  by_cases hmem : x ∈ C
                  · have hde : decide (x ∈ C) = true := decide_eq_true hmem
                    rw [hde]
                    have hCC : C' = C := by rw [HG1.out, addO, if_pos hmem]
                    go_wp2_with fail
                    refine (indexIntQ A3 C.length c3' C x w4 HI4.out hmem).mono ?_
                    rintro e w5 ⟨q, rfl, hq, hb5⟩
                    have hFv := HG2.out q (by rw [hCC]; exact hq)
                    have hP5 := own_below hP4 hb5
                    have hO5 := own_below hO4 hb5
                    have hs5 := hb5.size
                    have c5 := (HoldR.of_own hO5).cellAt v (by omega)
                    rw [List.getElem?_map, takeAt hF6 hr6 hv6, HX.out] at c5
                    simp only [Option.map_some] at c5
                    have f5 := (HoldR.of_own hO5).frozenAt v
                    have HREL := Lib.hid (show ∀ w6, w5.setCell ⟨rb, v, none⟩ (.int .i64 (q : Int)) = w6 → w6.heap.size = w5.heap.size ∧ Hid (w6.ownsRow wr.heap.size 3 1 (.slice A3 C.length c3') C'.length (C'.map (.int .i64))) ∧ Hid (w6.ownsRow wq.heap.size 3 1 (.slice (some ⟨rb, 0, none⟩) 6 c2) 6 ((F.take (v + 1) ++ r.drop (v + 1)).map (.int .i64))) ∧ Hid (Kp (fun b => b = rb ∨ p.ownBlock = some b) w2 w6) from fun w6 hw6 => by
                      subst hw6
                      refine ⟨by simp, Lib.hid ?_, Lib.hid ?_, Lib.hid ?_⟩
                      · rw [hCC]
                        exact own_eq hP5 (fun g hg _ => Below.heap_setCell w5 ⟨rb, v, none⟩ _ g (HPRB.out g hg))
                      · have h1 := (hO5.stored v (.int .i64 (q : Int))).1
                        rw [← List.map_set, takeSet hF6 hr6 hv6 hFv] at h1
                        exact h1
                      · exact (hK4.out.go (Kp.of (X := fun _ => False) hb5) (fun _ _ h => h.elim)).set (.inl (.inl rfl)) v _)
                    clear hP4 hO4 hP5 hO5 hb5 hq hFv HI4 hmem hde hCC
                    go_wp2_with fail
                    obtain ⟨hs6, k1, k2, k3⟩ := HREL.out _ rfl
                    go_roundw
                    case rel => exact ⟨v + 1, _, by omega, by go_num, rfl, by omega, by rw [HC'.out]; exact k1, k2, hpb, k3⟩
                    case measure => simp [intOf]; omega
                  · have hde : decide (x ∈ C) = false := decide_eq_false hmem
                    rw [hde]
                    have hCC : C' = C ++ [x] := by rw [HG1.out, addO, if_neg hmem]
                    obtain ⟨ws, hws⟩ : ∃ ws, w4.alloc (.cells #[.int .i64 x] 3) = ws := ⟨_, rfl⟩
                    have hss : ws.heap.size = w4.heap.size + 1 := by rw [← hws, size_alloc_]
                    have hbs : Below w4.heap.size w4 ws := by rw [← hws]; exact b_alloc _ _
                    have hcs : ∀ j u, [Value.int .i64 x][j]? = some u → ws.cell? ((⟨w4.heap.size, 0, none⟩ : Addr).add j) = some u := by
                      rw [← hws]
                      exact cell_one_new _ _ _
                    have oS := own_below hP4 hbs
                    have HBS := Lib.hid hbs
                    have HOS := Lib.hid oS
                    have HCC := Lib.hid hCC
                    clear hbs hmem hde hCC
                    go_wp2_with (at_builtin; refine wpList_append_blk rfl _ _ 22 rfl wr.heap.size 3 i0 _ 1 8 Try.underlying22 hi0 hz0 hz1 hz2 rfl (by decide) (.slice A3 C.length c3') C.length (C.map (.int .i64)) rfl oS ⟨w4.heap.size, 0, none⟩ 1 1 [.int .i64 x] rfl rfl hcs (by simp [Value.oneCell']) (by unfold maxLen; omega) (by omega) (by omega) ?_; intro v7 w7 ho7 hb7 hg7 hk7; obtain ⟨A7, c7, rfl⟩ := (HoldR.of_own ho7).form)
                    have hl7 : C'.length = C.length + 1 := by rw [HCC.out]; simp
                    have hP7 : w7.ownsRow wr.heap.size 3 1 (.slice A7 (C.length + 1) c7) (C.length + 1) (C'.map (.int .i64)) := by
                      rw [HCC.out, List.map_append]; exact ho7
                    obtain ⟨A7', c7', ea7, hI7⟩ := IntR.of_hold (HoldR.of_own hP7) (by omega)
                    injection ea7 with ea1 ea2 ea3
                    subst ea1 ea3
                    have hO7 := own_grown (own_below hO4 HBS.out) hg7 (fun b hb e => by
                      injection e with e
                      exact HPRB.out b hb e.symm)
                    have hK7 := (hK4.out.go (Kp.of (X := fun _ => False) HBS.out) (fun _ _ h => h.elim)).go (Y := fun b => (Value.slice A3 C.length c3').ownBlock = some b) ⟨hg7.os, hg7.tape, hg7.output, hg7.size, fun b hb hx => hg7.block b hb (fun e => hx e.symm)⟩ (fun b hb h => by
                      rcases hpb.out with h1 | ⟨g', h1, h2⟩
                      · exact .inr (h1 ▸ h)
                      · rw [h1] at h
                        injection h with h
                        omega)
                    have hpb7 : (Value.slice A7 (C.length + 1) c7).ownBlock = p.ownBlock ∨ ∃ g, (Value.slice A7 (C.length + 1) c7).ownBlock = some g ∧ w2.heap.size ≤ g := by
                      rcases hk7 with h | h
                      · rw [h]; exact hpb.out
                      · exact .inr ⟨_, h, by omega⟩
                    have hprb7 : ∀ g, (Value.slice A7 (C.length + 1) c7).ownBlock = some g → g ≠ rb := fun g hg => by
                      rcases hk7 with h | h
                      · rw [h] at hg; exact HPRB.out g hg
                      · rw [h] at hg
                        injection hg with hg
                        omega
                    have hs7 := hg7.size
                    have HI7 := Lib.hid hI7
                    have HK7 := Lib.hid hK7
                    have HPB7 := Lib.hid hpb7
                    have HPR7 := Lib.hid hprb7
                    have hcm : x ∈ C' := by rw [HCC.out]; simp
                    clear hws hcs oS ho7 hb7 hg7 hk7 hI7 hK7 hpb7 hprb7 hP4 hO4 HI4 HOS
                    go_wp2_with fail
                    refine (indexIntQ A7 (C.length + 1) c7 C' x w7 HI7.out hcm).mono ?_
                    rintro e w5 ⟨q, rfl, hq, hb5⟩
                    have hFv := HG2.out q hq
                    have hP5 := own_below hP7 hb5
                    have hO5 := own_below hO7 hb5
                    have hs5 := hb5.size
                    have c5 := (HoldR.of_own hO5).cellAt v (by omega)
                    rw [List.getElem?_map, takeAt hF6 hr6 hv6, HX.out] at c5
                    simp only [Option.map_some] at c5
                    have f5 := (HoldR.of_own hO5).frozenAt v
                    have HREL := Lib.hid (show ∀ w6, w5.setCell ⟨rb, v, none⟩ (.int .i64 (q : Int)) = w6 → w6.heap.size = w5.heap.size ∧ Hid (w6.ownsRow wr.heap.size 3 1 (.slice A7 (C.length + 1) c7) C'.length (C'.map (.int .i64))) ∧ Hid (w6.ownsRow wq.heap.size 3 1 (.slice (some ⟨rb, 0, none⟩) 6 c2) 6 ((F.take (v + 1) ++ r.drop (v + 1)).map (.int .i64))) ∧ Hid (Kp (fun b => b = rb ∨ p.ownBlock = some b) w2 w6) from fun w6 hw6 => by
                      subst hw6
                      refine ⟨by simp, Lib.hid ?_, Lib.hid ?_, Lib.hid ?_⟩
                      · rw [hl7]
                        exact own_eq hP5 (fun g hg _ => Below.heap_setCell w5 ⟨rb, v, none⟩ _ g (HPR7.out g hg))
                      · have h1 := (hO5.stored v (.int .i64 (q : Int))).1
                        rw [← List.map_set, takeSet hF6 hr6 hv6 hFv] at h1
                        exact h1
                      · exact (HK7.out.go (Kp.of (X := fun _ => False) hb5) (fun _ _ h => h.elim)).set (.inl (.inl rfl)) v _)
                    clear hP7 hO7 hP5 hO5 hb5 hq hFv HI7 hcm HK7
                    go_wp2_with fail
                    obtain ⟨hs6, k1, k2, k3⟩ := HREL.out _ rfl
                    go_roundw
                    case rel => exact ⟨v + 1, _, by omega, by go_num, rfl, by omega, by rw [HC'.out]; exact k1, k2, HPB7, k3⟩
                    case measure => simp [intOf]; omega
            · obtain rfl : v = 6 := by omega
              have hFr : F.take 6 ++ r.drop 6 = F := by rw [← hF6, List.take_length, hF6, ← hr6, List.drop_length, List.append_nil]
              have hO3' := hO3.out
              rw [hFr] at hO3'
              have hH3 := HoldR.of_own hO3'
              rw [nxA_done HA.out] at hP3
              obtain ⟨Al, cl, rfl⟩ := (HoldR.of_own hQ.out).form
              have hQl : wz.ownsRow wr.heap.size 22 1 (.slice Al j cl) j rs := own_eq (own_below hQ.out HB2.out) (fun g hg hlt => hK3.out.block g hlt (fun h => by
                rcases h with h | h
                · subst h
                  exact own_ne (by decide) (own_below hQ.out HB2.out) HO2.out g rfl hg
                · exact own_ne (by decide) (own_below hQ.out HB2.out) HP2.out g h hg))
              have hRz : RowsH wz wr.heap.size ((met.take j).map (finR last N i met)) gs rs := (hR.out.same (fun g _ hlt => HB2.out.block g hlt)).same (fun g hg hlt => hK3.out.block g hlt (fun h => by
                rcases h with h | h
                · subst h
                  have := (hR.out.lt _ hg).2
                  omega
                · exact hPG.out g h hg))
              have hbz : Below wr.heap.size wr wz := (hbq.out.trans (HB2.out.mono hqr)).trans (hK3.out.below (fun b _ h => by
                rcases h with h | h
                · omega
                · exact (HoldR.of_own hP.out).geBase h) (by omega))
              have HH3 := Lib.hid hH3
              have HQL := Lib.hid hQl
              have HRZ := Lib.hid hRz
              have HBZ := Lib.hid hbz
              obtain ⟨ws, hws⟩ : ∃ ws, wz.alloc (.cells #[.slice (some ⟨rb, 0, none⟩) 6 6] 22) = ws := ⟨_, rfl⟩
              have hss : ws.heap.size = wz.heap.size + 1 := by rw [← hws, size_alloc_]
              have hbs : Below wz.heap.size wz ws := by rw [← hws]; exact b_alloc _ _
              have sr : Src ws 1 (some ⟨wz.heap.size, 0, none⟩) 1 1 [.slice (some ⟨rb, 0, none⟩) 6 6] := by
                rw [← hws]
                exact src_own (World.ownsRow_lit (e := 22) (size := 1) wz #[.slice (some ⟨rb, 0, none⟩) 6 6] 1 (Nat.le_refl _) (by decide) rfl)
              have oS := own_below hQl hbs
              have HBS := Lib.hid hbs
              have HOS := Lib.hid oS
              clear hFr hO3' hH3 hQl hRz hbz hbs TB3 hmb3
              go_wp2_with fail
              refine (clipInt (some ⟨rb, 0, none⟩) 6 c2 wq.heap.size (F.map (.int .i64)) wz HH3.out).mono ?_
              rintro e w' ⟨rfl, rfl⟩
              go_wp2_with (at_builtin; refine wpList_append_any rfl _ _ 23 rfl wr.heap.size 22 i1 _ 1 24 Try.underlying23 hi1 hx0 hx1 hx2 rfl (by decide) (.slice Al j cl) j rs rfl oS (some ⟨wz.heap.size, 0, none⟩) 1 1 [.slice (some ⟨rb, 0, none⟩) 6 6] rfl sr (by simp [Value.oneCell']) (by unfold maxLen; omega) (by omega) (by omega) ?_; intro v7 w7 ho7 hb7 hg7 _)
              clear hws sr oS
              go_roundw
              case rel =>
                have htk : (met.take (j + 1)).map (finR last N i met) = (met.take j).map (finR last N i met) ++ [F] := by
                  rw [List.take_add_one, HA.out, List.map_append, ← HF.out]; rfl
                have hrg : rb ∉ gs := fun h => by have := (hR.out.lt rb h).2; omega
                refine ⟨j + 1, _, v7, gs ++ [rb], rs ++ [.slice (some ⟨rb, 0, none⟩) 6 6], by omega, by go_num, rfl, rfl, Lib.hid ?_, Lib.hid ho7, Lib.hid ?_, Lib.hid ?_, Lib.hid ?_, Lib.hid ?_⟩
                · exact own_grown (own_below hP3.out HBS.out) hg7 (own_ne (by decide) (own_below hP3.out HBS.out) HOS.out)
                · rw [htk]
                  refine ((HRZ.out.same (fun g _ hlt => HBS.out.block g hlt)).snoc ?_ rfl).grown HOS.out hg7
                  rw [hF6]
                  exact (HH3.out.clip.base_ hqr).below HBS.out
                · rw [List.nodup_append]
                  refine ⟨hGN.out, by simp, fun a ha c hc e => ?_⟩
                  rw [List.mem_singleton.1 hc] at e
                  exact hrg (e ▸ ha)
                · intro g hg hm
                  rcases hpb.out with h | ⟨g', h, h'⟩
                  · rw [h] at hg
                    rcases List.mem_append.1 hm with h2 | h2
                    · exact hPG.out g hg h2
                    · rw [List.mem_singleton.1 h2] at hg
                      have := ownLt hP.out hg
                      omega
                  · rw [h] at hg
                    injection hg with hg
                    rcases List.mem_append.1 hm with h2 | h2
                    · have := (hR.out.lt g h2).2
                      omega
                    · have := List.mem_singleton.1 h2
                      omega
                · exact (HBZ.out.trans (HBS.out.mono (by omega))).trans hb7
              case measure => simp [intOf]; omega
        · obtain rfl : j = nm := by omega
          obtain ⟨Aq, cq, rfl⟩ := (HoldR.of_own hQ.out).form
          obtain ⟨Ap, cp, rfl⟩ := (HoldR.of_own hP.out).form
          have hOq := own_below hO.out hbq.out
          obtain ⟨ws, hws⟩ : ∃ ws, wq.alloc (.cells #[.slice Aq j cq] 23) = ws := ⟨_, rfl⟩
          have hss : ws.heap.size = wq.heap.size + 1 := by rw [← hws, size_alloc_]
          have hbs : Below wq.heap.size wq ws := by rw [← hws]; exact b_alloc _ _
          have sr : Src ws 1 (some ⟨wq.heap.size, 0, none⟩) 1 1 [.slice Aq j cq] := by
            rw [← hws]
            exact src_own (World.ownsRow_lit (e := 23) (size := 1) wq #[.slice Aq j cq] 1 (Nat.le_refl _) (by decide) rfl)
          have o3 := own_below hOq hbs
          have HBS := Lib.hid hbs
          have HO3 := Lib.hid o3
          clear hOq hbs
          go_wp2_with (at_builtin; refine wpList_append_any rfl _ _ 27 rfl w.heap.size 23 i2 _ 1 24 Try.underlying27 hi2 hy0 hy1 hy2 rfl (by decide) (.slice Ao i co) i us rfl o3 (some ⟨wq.heap.size, 0, none⟩) 1 1 [.slice Aq j cq] rfl sr (by simp [Value.oneCell']) (by unfold maxLen; omega) (by omega) (by omega) ?_; intro v7 w7 ho7 hb7 hg7 _)
          clear hws sr o3
          go_roundw
          case rel =>
            have hml : met.length = j := HNM.out
            have hmt : met.take j = met := by rw [← hml]; exact List.take_length
            refine ⟨i + 1, v7, _, d ++ [met.map (finR last N i met)], gss ++ [gs], us ++ [.slice Aq j cq], nxB last N i met j, by omega, by go_num, rfl, rfl, by simp [hdl], Lib.hid ho7, Lib.hid ?_, Lib.hid ?_, Lib.hid ?_, Lib.hid ?_, Lib.hid ?_, Lib.hid ?_, Lib.hid ?_⟩
            · have h1 := (hL.out.below hbq.out).below HBS.out
              have h2 := ((HoldR.of_own hQ.out).base_ hbw).below HBS.out
              have h3 := (hR.out.same (W' := ws) (fun g _ hlt => HBS.out.block g hlt)).base_ hbw
              rw [hmt] at h3
              exact (h1.snoc (by rw [List.length_map, hml]; exact h2) h3 (by rw [List.length_map, hml]; omega)).grown HO3.out hg7
            · rw [List.flatten_append, List.flatten_cons, List.flatten_nil, List.append_nil, List.nodup_append]
              refine ⟨hN.out, hGN.out, fun a ha c hc e => ?_⟩
              have h1 := (hL.out.lt a ha).2
              have h2 := (hR.out.lt c hc).1
              omega
            · exact (HoldR.of_own (own_grown (own_below hP.out HBS.out) hg7 (own_ne (by decide) (own_below hP.out HBS.out) HO3.out))).base_ hbw
            · have h1 := met_nxB (met := met) HG.out hlt hI.out
              rw [HLAST.out, hml] at h1
              exact h1
            · have h1 := hE.out
              rw [show k - i = (k - (i + 1)) + 1 by omega, nm_step (k := k) (by omega), HLAST.out, hml] at h1
              rw [List.append_assoc]
              exact h1
            · have h1 := nxB_len last N i met j
              have h2 := hlen.out
              rw [hml] at h2
              rw [Nat.pow_succ]
              omega
            · exact ((hb.out.trans (hbq.out.mono hbw)).trans (HBS.out.mono (by omega))).trans hb7
          case measure => simp [intOf]; omega
    · obtain rfl : i = k := by omega
      obtain ⟨Ao, co, rfl⟩ := (HoldR.of_own hO.out).form
      have hco := (HoldR.of_own hO.out).capLe
      have HRET := Lib.hid (show DgHR wr w.heap.size (.slice Ao i i) (nmL N i 0 [root]) from by
        have h1 := hE.out
        rw [Nat.sub_self, nmL, List.append_nil] at h1
        rw [← h1]
        exact ⟨gss, us, by rw [hdl]; exact (HoldR.of_own hO.out).clip, hL.out, hN.out, by omega⟩)
      go_wp2_with fail
      refine (clipLays Ao i co wr hco).mono ?_
      rintro e w' ⟨rfl, rfl⟩
      go_wp2_with fail
      go_ret
      exact ⟨_, rfl, HRET.out, hb.out⟩
end Go.Proofs.Ytfmdgdamelkelaa
