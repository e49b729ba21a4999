/- Backjump. -/
import Derived.Test.YtcghhnajjmnkkaaCopyV
import Derived.Test.YtcghhnajjmnkkaaVsto
namespace Go.Proofs.Ytcghhnajjmnkkaa
open Go.ChangeShapes Go.WideShapes Go.ChangeAt Go.RowKit
open Go.Shelf
set_option linter.unusedVariables false
set_option linter.unusedSimpArgs false
set_option maxRecDepth 100000

def jumpOk (s : Sto) (l : Int) : Bool := vstoF s && inB l 0 ((s.levels.length : Int) - 1)
def jumpS (s : Sto) (l : Int) : Sto := if vstoF s then (if inB l 0 ((s.levels.length : Int) - 1) then ⟨s.model, s.levels.take (l.toNat + 1)⟩ else s) else ⟨⟨[], []⟩, []⟩
theorem StoR.zero (w : World) (B : Nat) : StoR w B [.slice none 0 0, .slice none 0 0, .slice none 0 0] ⟨⟨[], []⟩, []⟩ :=
  ⟨_, _, none, 0, rfl, ⟨none, none, 0, 0, rfl, SlR.nil_ _ _ _, ⟨rfl, by simp, fun h => absurd h (by simp)⟩, by simp, by simp⟩, SlR.nil_ _ _ _, by simp⟩
theorem OwnSto.readL {w : World} {B : Nat} {us : List Value} {s : Sto} (h : OwnSto w B (.agg us.toArray) s) : StoR w w.heap.size us s := by
  obtain ⟨vs, e, hr⟩ := OwnSto.read h
  injection e with e
  rw [List.toArray_inj e]; exact hr
theorem OwnSto.apart {w w' : World} {base : Nat} {v : Value} {s : Sto} (h : OwnSto w base v s) (ha : Apart base w w') : OwnSto w' base v s := by
  obtain ⟨dv, cv, lv, e, h1, h2⟩ := h
  exact ⟨dv, cv, lv, e, h1.apart ha, OwnRows.apart h2 ha⟩
theorem SlR.cut {α : Type} {R : World → Nat → Value → α → Prop} {w : World} {B n m : Nat} {A : Option Addr} {xs : List α} (h : SlR R w B A n xs) (hm : m ≤ n) : SlR R w B A m (xs.take m) := by
  refine ⟨by rw [List.length_take, h.len]; omega, by have := h.le; omega, fun h0 => ?_⟩
  obtain ⟨b, o, e, hb, hc⟩ := h.2.2 (by omega)
  refine ⟨b, o, e, hb, fun k x hx => hc k x ?_⟩
  have hk := (List.getElem?_eq_some_iff.1 hx).1
  rw [List.length_take] at hk
  rwa [List.getElem?_take_of_lt (by omega)] at hx
/-- Fresh rows, of whatever capacity below their block. -/
def HRsH (w : World) (base : Nat) (v : Value) (rows : List (List Int × List (Nat × Nat))) : Prop := ∃ us : List Value, us.length = rows.length ∧ HoldR w base 22 1 v rows.length us ∧ rows.length ≤ 9223372036854775807 ∧ ∀ (i : Nat) u x, us[i]? = some u → rows[i]? = some x → HIn w base u x
theorem HRs.toH {w : World} {base : Nat} {v : Value} {rows : List (List Int × List (Nat × Nat))} (h : HRs w base v rows) : HRsH w base v rows := by
  obtain ⟨us, h1, h2, h3, h4⟩ := h
  exact ⟨us, h1, HoldR.of_own h2, h3, h4⟩
section
variable {w w' : World} {base : Nat} {v : Value} {rows : List (List Int × List (Nat × Nat))}
theorem HRsH.below (h : HRsH w base v rows) (hb : Below w.heap.size w w') : HRsH w' base v rows := by
  obtain ⟨us, h1, h2, h3, h4⟩ := h
  exact ⟨us, h1, h2.below hb, h3, fun i u x hu hx => (h4 i u x hu hx).below hb⟩
theorem HRsH.base_ {base' : Nat} (h : HRsH w base v rows) (hb : base' ≤ base) : HRsH w base' v rows := by
  obtain ⟨us, h1, h2, h3, h4⟩ := h
  exact ⟨us, h1, h2.base_ hb, h3, fun i u x hu hx => (h4 i u x hu hx).base_ hb⟩
theorem HoldR.apart {e : TypeId} {size n : Nat} {xs : List Value} (h : HoldR w base e size v n xs) (ha : Apart base w w') : HoldR w' base e size v n xs :=
  ⟨h.1, h.2.imp id fun ⟨g, cap, cur, h1, h2, h3, r⟩ => ⟨g, cap, cur, h1, h2, (ha.2 g h2 (lt_heap h3)).trans h3, r⟩⟩
theorem HRsH.apart (h : HRsH w base v rows) (ha : Apart base w w') : HRsH w' base v rows := by
  obtain ⟨us, h1, h2, h3, h4⟩ := h
  exact ⟨us, h1, HoldR.apart h2 ha, h3, fun i u x hu hx => (h4 i u x hu hx).apart ha⟩
theorem HRsH.form (h : HRsH w base v rows) : ∃ A c, v = .slice A rows.length c ∧ rows.length ≤ c := by
  obtain ⟨us, h1, h2, -⟩ := h
  obtain ⟨A, c, rfl⟩ := h2.form
  exact ⟨A, c, rfl, h2.capLe⟩
theorem HRsH.read {A : Option Addr} {c : Nat} (h : HRsH w base (.slice A rows.length c) rows) : SlR (RowC IntC) w w.heap.size A rows.length (rows.map Prod.fst) := by
  obtain ⟨us, h1, h2, h3, h4⟩ := h
  refine ⟨by simp, h3, fun h0 => ?_⟩
  obtain ⟨g, e, hg, hgw⟩ := h2.pos h0
  subst e
  refine ⟨_, _, rfl, hgw, fun k x hx => ?_⟩
  rw [List.getElem?_map] at hx
  obtain ⟨p, hp, rfl⟩ := Option.map_eq_some_iff.1 hx
  have hk := (List.getElem?_eq_some_iff.1 hp).1
  have hu : us[k]? = some us[k] := List.getElem?_eq_getElem (by omega)
  refine ⟨us[k], ?_, ?_⟩
  · rw [Nat.zero_add, h2.cellAt k (by omega), hu]
  · obtain ⟨A', c', e', r, hc⟩ := (h4 k _ _ hu hp).read
    exact ⟨A', c', e', r⟩
theorem HRsH.cut {g n c m : Nat} (h : HRsH w base (.slice (some ⟨g, 0, none⟩) n c) rows) (hm : m ≤ rows.length) : HRsH w base (.slice (some ⟨g, 0, none⟩) m m) (rows.take m) := by
  obtain ⟨us, h1, h2, h3, h4⟩ := h
  have hl : (rows.take m).length = m := by rw [List.length_take]; omega
  refine ⟨us.take m, by rw [List.length_take, List.length_take, h1], ?_, by omega, fun i u x hu hx => ?_⟩
  · rw [hl]
    refine ⟨by rw [List.length_take]; omega, .inr ?_⟩
    rcases h2.2 with ⟨e, -⟩ | ⟨g', cap, cur, e, hg, hh, hc, hmx, ht⟩
    · cases e
    · injection e with e1 e2 e3
      injection e1 with e1
      injection e1 with e1 _ _
      subst e1
      refine ⟨g, m, cur, rfl, hg, hh, Nat.le_refl _, by omega, ?_⟩
      simp only [Nat.mul_one] at ht ⊢
      rw [← ht, List.take_take]
      congr 1
      omega
  · have hi := (List.getElem?_eq_some_iff.1 hx).1
    rw [List.length_take] at hi
    rw [List.getElem?_take_of_lt (by omega)] at hu hx
    exact h4 i u x hu hx
end
/-- A copied store; its levels may be cut. -/
def CStoH (w : World) (base : Nat) (us : List Value) (s : Sto) (D : List (Nat × Nat)) (xs : List CC) (rows : List (List Int × List (Nat × Nat))) : Prop := ∃ dv cv lv, us = [dv, cv, lv] ∧ CMod w base [dv, cv] s.model D xs ∧ HRsH w base lv rows ∧ rows.map Prod.fst = s.levels ∧ rows.length ≤ 1048576
theorem CSto.toH {w : World} {base : Nat} {us : List Value} {s : Sto} {D : List (Nat × Nat)} {xs : List CC} {rows : List (List Int × List (Nat × Nat))} (h : CSto w base us s D xs rows) : CStoH w base us s D xs rows := by
  obtain ⟨dv, cv, lv, e, h1, h2, r⟩ := h
  exact ⟨dv, cv, lv, e, h1, HRs.toH h2, r⟩
section
variable {w w' : World} {base : Nat} {us : List Value} {s : Sto} {D : List (Nat × Nat)} {xs : List CC} {rows : List (List Int × List (Nat × Nat))}
theorem CStoH.below (h : CStoH w base us s D xs rows) (hb : Below w.heap.size w w') : CStoH w' base us s D xs rows := by
  obtain ⟨dv, cv, lv, e, h1, h2, r⟩ := h
  exact ⟨dv, cv, lv, e, h1.below hb, h2.below hb, r⟩
theorem CStoH.base_ {base' : Nat} (h : CStoH w base us s D xs rows) (hb : base' ≤ base) : CStoH w base' us s D xs rows := by
  obtain ⟨dv, cv, lv, e, h1, h2, r⟩ := h
  exact ⟨dv, cv, lv, e, h1.base_ hb, h2.base_ hb, r⟩
theorem CStoH.apart (h : CStoH w base us s D xs rows) (ha : Apart base w w') : CStoH w' base us s D xs rows := by
  obtain ⟨dv, cv, lv, e, h1, h2, r⟩ := h
  exact ⟨dv, cv, lv, e, h1.apart ha, h2.apart ha, r⟩
theorem CStoH.read (h : CStoH w base us s D xs rows) : StoR w w.heap.size us s := by
  obtain ⟨dv, cv, lv, e, h1, h2, h3, -⟩ := h
  have hl : rows.length = s.levels.length := by rw [← h3, List.length_map]
  obtain ⟨A, c, rfl, hcap⟩ := h2.form
  have r3 := h2.read
  rw [h3, hl] at r3
  exact ⟨dv, cv, A, c, by rw [e, hl], h1.read, r3, by omega⟩
theorem CStoH.zero (w : World) (B : Nat) : CStoH w B [.slice none 0 0, .slice none 0 0, .slice none 0 0] ⟨⟨[], []⟩, []⟩ [] [] [] :=
  ⟨_, _, _, rfl, CMod.zero _ _, ⟨[], rfl, HoldR.nil _ _ _ _, by simp, fun i u x hu => by simp at hu⟩, rfl, by simp⟩
theorem flatS_take (D : List (Nat × Nat)) (xs : List CC) (rows : List (List Int × List (Nat × Nat))) (m : Nat) : ∃ R, flatS D xs rows = flatS D xs (rows.take m) ++ R := by
  refine ⟨((rows.drop m).map Prod.snd).flatten, ?_⟩
  unfold flatS
  rw [List.append_assoc, ← List.flatten_append, ← List.map_append, List.take_append_drop]
theorem Fr.left {lo hi : Nat} {L R : List (Nat × Nat)} (h : Fr lo hi (L ++ R)) : Fr lo hi L := by
  refine ⟨?_, fun p hp => h.2 p (List.mem_append_left _ hp)⟩
  have := h.1
  rw [List.map_append, List.nodup_append] at this
  exact this.1
end
theorem clipRows (A : Option Addr) (n c : Nat) (w : World) (hnc : n ≤ c) :
    Calls Try.prog 63 #[.slice A n c] w fun e w' => e = .returned (.slice A n n) ∧ w = w' := by
  have hnc2 : (n : Int) ≤ (c : Int) := by omega
  go_enter Try.func63, Try.ntmps63
  go_wp2_with fail
  go_ret
  exact ⟨rfl, rfl⟩
set_option maxHeartbeats 8000000 in
theorem sBackjump (us : List Value) (s : Sto) (l : Int) (w : World) (hst : StoR w w.heap.size us s) (sm : SmSto s) :
    Calls Try.prog 22 #[.agg us.toArray, .int .i64 l] w fun e w' => ∃ rs : List Value, e = .returned (.tuple #[.agg rs.toArray, .bool (jumpOk s l)]) ∧ StoR w' w'.heap.size rs (jumpS s l) ∧ Below w.heap.size w w' := by
  have SM := Lib.hid sm
  have s2 : s.levels.length ≤ 1048576 := sm.2.1
  have hwr : IntKind.i64.wrap ((s.levels.length : Int) - 1) = (s.levels.length : Int) - 1 := by rw [IntKind.wrap_i64]; omega
  clear sm
  have HS0 := Lib.hid hst
  obtain ⟨da, nd, cd, ca, nc, cc, la, nl, lc, rfl⟩ : ∃ (da : Option Addr) (nd cd : Nat) (ca : Option Addr) (nc cc : Nat) (la : Option Addr) (nl lc : Nat), us = [.slice da nd cd, .slice ca nc cc, .slice la nl lc] := by
    obtain ⟨u, v, la, lc, rfl, hm, -⟩ := hst
    obtain ⟨da, ca, nd, cd, nc, cc, e⟩ := hm.two
    simp only [List.cons.injEq, and_true] at e
    obtain ⟨rfl, rfl⟩ := e
    exact ⟨_, _, _, _, _, _, _, _, _, rfl⟩
  have hnl : s.levels.length = nl := by
    obtain ⟨u, v, la, lc, e, -⟩ := hst
    simp only [List.cons.injEq, Value.slice.injEq, and_true] at e
    omega
  have HNL := Lib.hid hnl
  rw [hnl] at s2 hwr
  clear hnl hst
  obtain ⟨wa, hwa⟩ : ∃ wa, wa = w.alloc (.cells #[.slice da nd cd, .slice ca nc cc, .slice la nl lc] 50) := ⟨_, rfl⟩
  obtain ⟨wb, hwb⟩ : ∃ wb, wb = wa.alloc (.cells #[.slice none 0 0, .slice none 0 0, .slice none 0 0] 50) := ⟨_, rfl⟩
  have hsa : wa.heap.size = w.heap.size + 1 := by rw [hwa, size_alloc_]
  have hsb : wb.heap.size = w.heap.size + 1 + 1 := by rw [hwb, size_alloc_, hsa]
  have hb0 : Below w.heap.size w wa := by rw [hwa]; exact b_alloc _ _
  have hb1 : Below wa.heap.size wa wb := by rw [hwb]; exact b_alloc _ _
  have hb01 := bgo hb0 hb1
  have HA : Hid (TBlk 50 wb w.heap.size #[.slice da nd cd, .slice ca nc cc, .slice la nl lc]) := TBlk.below_ (by rw [hwa]; exact TBlk.new _ _ _) hb1 (by omega)
  have HR : Hid (TBlk 50 wb (w.heap.size + 1) #[.slice none 0 0, .slice none 0 0, .slice none 0 0]) := by rw [hwb, ← hsa]; exact TBlk.new _ _ _
  have GM := Lib.hid (StoR.widens _ _ _ _ _ hb01.size (StoR.keeps _ _ _ _ _ (fun p hp => hb01.cell hp) HS0.out))
  have a0 : wb.cell? ⟨w.heap.size, 0, none⟩ = some (.slice da nd cd) := HA.out.at_ 0 rfl
  have a1 : wb.cell? ⟨w.heap.size, 1, none⟩ = some (.slice ca nc cc) := HA.out.at_ 1 rfl
  have a2 : wb.cell? ⟨w.heap.size, 2, none⟩ = some (.slice la nl lc) := HA.out.at_ 2 rfl
  clear hb0 hb1
  go_enter Try.func22, Try.ntmps22
  go_wp2_with fail
  rw [← hwa, ← hwb]
  clear hwa hwb
  have HSB := Lib.hid hsb
  clear hsb hsa
  -- the end: what is in the result's box
  have KEND : Hid (∀ W, Below wb.heap.size wb W → ∀ x0 x1 x2, Below w.heap.size w (((W.setCell ⟨w.heap.size + 1, 0, none⟩ x0).setCell ⟨w.heap.size + 1, 1, none⟩ x1).setCell ⟨w.heap.size + 1, 2, none⟩ x2) ∧ Apart wb.heap.size W (((W.setCell ⟨w.heap.size + 1, 0, none⟩ x0).setCell ⟨w.heap.size + 1, 1, none⟩ x1).setCell ⟨w.heap.size + 1, 2, none⟩ x2) ∧ (((W.setCell ⟨w.heap.size + 1, 0, none⟩ x0).setCell ⟨w.heap.size + 1, 1, none⟩ x1).setCell ⟨w.heap.size + 1, 2, none⟩ x2).heap.size = W.heap.size ∧ TBlk 50 (((W.setCell ⟨w.heap.size + 1, 0, none⟩ x0).setCell ⟨w.heap.size + 1, 1, none⟩ x1).setCell ⟨w.heap.size + 1, 2, none⟩ x2) (w.heap.size + 1) #[x0, x1, x2]) := by
    intro W hb x0 x1 x2
    have hz := HSB.out
    have hr := HR.out.below_ hb (by omega)
    refine ⟨?_, ((((Apart.refl _ _).set (by omega) 0 _).set (by omega) 1 _).set (by omega) 2 _), by simp [World.setCell], ((hr.store 0 _).store 1 _).store 2 _⟩
    refine (hb01.trans (hb.mono (by omega))).trans ?_
    repeat' (first | exact Below.refl _ _ | refine Below.setCell ?_ (by simp) _)
  go_wp2_with fail
  refine (svalidStore _ s _ GM.out).mono ?_
  rintro e W9 ⟨rfl, b9⟩
  have hA := HA.out.below_ b9 (by have := HSB.out; omega)
  have a0 := hA.at_ 0 rfl
  have a1 := hA.at_ 1 rfl
  have a2 := hA.at_ 2 rfl
  have hr := HR.out.below_ b9 (by have := HSB.out; omega)
  have p0 := hr.at_ 0 rfl
  have p1 := hr.at_ 1 rfl
  have p2 := hr.at_ 2 rfl
  have f0 := hr.frozen 0
  have f1 := hr.frozen 1
  have f2 := hr.frozen 2
  cases tv : vstoF s
  · have HO := Lib.hid (show jumpOk s l = false by unfold jumpOk; rw [tv]; rfl)
    have HE := Lib.hid (show jumpS s l = ⟨⟨[], []⟩, []⟩ by unfold jumpS; rw [tv]; rfl)
    clear tv hwr
    go_wp2_with fail
    obtain ⟨e1, e2, e3, e4⟩ := KEND.out W9 b9 (.slice none 0 0) (.slice none 0 0) (.slice none 0 0)
    obtain ⟨WF, hWF⟩ : ∃ WF, WF = ((W9.setCell ⟨w.heap.size + 1, 0, none⟩ (.slice none 0 0)).setCell ⟨w.heap.size + 1, 1, none⟩ (.slice none 0 0)).setCell ⟨w.heap.size + 1, 2, none⟩ (.slice none 0 0) := ⟨_, rfl⟩
    rw [← hWF] at e1 e2 e3 e4 ⊢
    have r0 := e4.at_ 0 rfl
    have r1 := e4.at_ 1 rfl
    have r2 := e4.at_ 2 rfl
    clear hWF hr e2 e3 e4
    go_wp2_with fail
    exact bodyPost_ret (v := .tuple #[.agg #[.slice none 0 0, .slice none 0 0, .slice none 0 0], .bool false]) (by simp [results, Try.results22, go_sem, r0, r1, r2]) rfl ⟨[.slice none 0 0, .slice none 0 0, .slice none 0 0], by rw [HO.out], by rw [HE.out]; exact StoR.zero _ _, e1⟩
  · have TV := Lib.hid tv
    clear tv p0 p1 p2 f0 f1 f2
    go_wp2_with fail
    refine (scopySto _ s _ (StoR.widens _ _ _ _ _ b9.size (StoR.keeps _ _ _ _ _ (fun p hp => b9.cell hp) GM.out)) SM.out).mono ?_
    rintro e W8 ⟨rs8, rfl, h8, hB8⟩
    obtain ⟨A, n, c, B, kk, d, L, q, rfl⟩ : ∃ (A : Option Addr) (n c : Nat) (B : Option Addr) (kk d : Nat) (L : Option Addr) (q : Nat), rs8 = [.slice A n c, .slice B kk d, .slice L nl q] := by
      obtain ⟨u, v, la, lc, e, hm, -⟩ := OwnSto.readL h8
      obtain ⟨da, ca, nd, cd, nc, cc, e2⟩ := hm.two
      simp only [List.cons.injEq, and_true] at e2
      obtain ⟨rfl, rfl⟩ := e2
      rw [HNL.out] at e
      exact ⟨_, _, _, _, _, _, _, _, e⟩
    have H8 := Lib.hid h8
    clear h8
    have hz9 := b9.size
    have b8 := bgo b9 hB8
    obtain ⟨g3, hg⟩ : ∃ g3, g3 = W8.heap.size := ⟨_, rfl⟩
    have hA8 := HA.out.below_ b8 (by have := HSB.out; omega)
    have a2 : (W8.alloc (.cells #[.slice A n c, .slice B kk d, .slice L nl q] 50)).cell? ⟨w.heap.size, 2, none⟩ = some (.slice la nl lc) := (hA8.on (b_alloc _ _)).at_ 2 rfl
    clear hA8
    go_wp2_with fail
    obtain ⟨W, hW⟩ : ∃ W, W = W8.alloc (.cells #[.slice A n c, .slice B kk d, .slice L nl q] 50) := ⟨_, rfl⟩
    have HT : Hid (TBlk 50 W g3 #[.slice A n c, .slice B kk d, .slice L nl q]) := by rw [hW, hg]; exact TBlk.new _ _ _
    have hbW : Below wb.heap.size wb W := by rw [hW]; exact bgo b8 (b_alloc _ _)
    skip
    have hg3 : wb.heap.size ≤ g3 := by rw [hg]; exact b8.size
    have HWD := Lib.hid hW
    rw [← hW, ← hg]
    have hgd : W8.heap.size ≤ g3 := by rw [hg]; exact Nat.le_refl _
    clear hW hg
    refine (inRange_b l 0 ((nl : Int) - 1) _ _ rfl).mono ?_
    rintro e w3 ⟨rfl, rfl⟩
    have m0 := HT.out.at_ 0 rfl
    have m1 := HT.out.at_ 1 rfl
    have m2 := HT.out.at_ 2 rfl
    have hzw : w.heap.size + 1 < W9.heap.size := by have := HSB.out; omega
    have hr := HR.out.below_ hbW (by have := HSB.out; omega)
    cases ti : inB l 0 ((nl : Int) - 1)
    · have HO := Lib.hid (show jumpOk s l = false by unfold jumpOk; rw [TV.out, HNL.out, ti]; rfl)
      have HE := Lib.hid (show jumpS s l = s by unfold jumpS; rw [TV.out, HNL.out, ti]; rfl)
      have p0 := hr.at_ 0 rfl
      have p1 := hr.at_ 1 rfl
      have p2 := hr.at_ 2 rfl
      have f0 := hr.frozen 0
      have f1 := hr.frozen 1
      have f2 := hr.frozen 2
      clear ti hwr
      go_wp2_with fail
      obtain ⟨e1, -, e3, e4⟩ := KEND.out W hbW (.slice A n c) (.slice B kk d) (.slice L nl q)
      obtain ⟨WF, hWF⟩ : ∃ WF, WF = ((W.setCell ⟨w.heap.size + 1, 0, none⟩ (.slice A n c)).setCell ⟨w.heap.size + 1, 1, none⟩ (.slice B kk d)).setCell ⟨w.heap.size + 1, 2, none⟩ (.slice L nl q) := ⟨_, rfl⟩
      have hap : Apart W9.heap.size W8 WF := by
        rw [hWF, HWD.out]
        exact ((((Apart.refl _ _).alloc _).set2 (.inl hzw) 0 _).set2 (.inl hzw) 1 _).set2 (.inl hzw) 2 _
      rw [← hWF] at e1 e3 e4 ⊢
      have r0 := e4.at_ 0 rfl
      have r1 := e4.at_ 1 rfl
      have r2 := e4.at_ 2 rfl
      have hz8 : W8.heap.size ≤ WF.heap.size := hap.1
      have FIN := Lib.hid (And.intro (OwnSto.readL (OwnSto.apart H8.out hap)) e1)
      clear hWF hr e3 e4 hap e1
      go_wp2_with fail
      exact bodyPost_ret (v := .tuple #[.agg #[.slice A n c, .slice B kk d, .slice L nl q], .bool false]) (by simp [results, Try.results22, go_sem, r0, r1, r2]) rfl ⟨[.slice A n c, .slice B kk d, .slice L nl q], by rw [HO.out], by rw [HE.out]; exact FIN.out.1, FIN.out.2⟩
    · have HO := Lib.hid (show jumpOk s l = true by unfold jumpOk; rw [TV.out, HNL.out, ti]; rfl)
      have hl0 : ((l.toNat : Nat) : Int) = l ∧ l.toNat < nl := by unfold inB at ti; simp at ti; omega
      have HE := Lib.hid (show jumpS s l = ⟨s.model, s.levels.take (l.toNat + 1)⟩ by unfold jumpS; rw [TV.out, HNL.out, ti]; rfl)
      obtain ⟨j, hj⟩ : ∃ j : Nat, l.toNat = j := ⟨_, rfl⟩
      rw [hj] at hl0 HE
      obtain ⟨hl0, hjn⟩ := hl0
      subst hl0
      have hwj : IntKind.i64.wrap ((j : Int) + 1) = (j : Int) + 1 := by rw [IntKind.wrap_i64]; omega
      obtain ⟨gL, rfl, hnq⟩ : ∃ gL, L = some ⟨gL, 0, none⟩ ∧ nl ≤ q := by
        obtain ⟨dv, cv, lv, e, -, us, -, ho, -⟩ := id H8.out
        injection e with e
        have e2 := List.toArray_inj e
        simp only [List.cons.injEq, and_true] at e2
        rw [← e2.2.2, HNL.out] at ho
        obtain ⟨g, cap, e3, -, -, h5, -⟩ := own_pos ho (by omega)
        injection e3 with e4 e5 e6
        exact ⟨g, e4, by omega⟩
      have hjq : j + 1 ≤ q := by omega
      have hjqI : (j : Int) + 1 ≤ (q : Int) := by omega
      have hjT : ((j : Int) + 1).toNat = j + 1 := by omega
      have hj0 : (0 : Int) ≤ (j : Int) + 1 := by omega
      have ff := HT.out.frozen 2
      have hge : w.heap.size + 1 ≠ g3 := by have := HSB.out; omega
      have HT2 := Lib.hid (HT.out.store 2 (.slice (some ⟨gL, 0, none⟩) (j + 1) q))
      have hr2 := hr.far (j := 2) (u := .slice (some ⟨gL, 0, none⟩) (j + 1) q) hge
      have t0 : (W.setCell ⟨g3, 2, none⟩ (.slice (some ⟨gL, 0, none⟩) (j + 1) q)).cell? ⟨g3, 0, none⟩ = some (.slice A n c) := HT2.out.at_ 0 rfl
      have t1 : (W.setCell ⟨g3, 2, none⟩ (.slice (some ⟨gL, 0, none⟩) (j + 1) q)).cell? ⟨g3, 1, none⟩ = some (.slice B kk d) := HT2.out.at_ 1 rfl
      have t2 : (W.setCell ⟨g3, 2, none⟩ (.slice (some ⟨gL, 0, none⟩) (j + 1) q)).cell? ⟨g3, 2, none⟩ = some (.slice (some ⟨gL, 0, none⟩) (j + 1) q) := HT2.out.at_ 2 rfl
      have p0 := hr2.at_ 0 rfl
      have p1 := hr2.at_ 1 rfl
      have p2 := hr2.at_ 2 rfl
      have f0 := hr2.frozen 0
      have f1 := hr2.frozen 1
      have f2 := hr2.frozen 2
      have hb2 : Below wb.heap.size wb (W.setCell ⟨g3, 2, none⟩ (.slice (some ⟨gL, 0, none⟩) (j + 1) q)) := hbW.setCell hg3 _
      clear ti hwr hj m0 m1 hr
      go_wp2_with fail
      obtain ⟨e1, -, e3, e4⟩ := KEND.out _ hb2 (.slice A n c) (.slice B kk d) (.slice (some ⟨gL, 0, none⟩) (j + 1) q)
      obtain ⟨WF, hWF⟩ : ∃ WF, WF = (((W.setCell ⟨g3, 2, none⟩ (.slice (some ⟨gL, 0, none⟩) (j + 1) q)).setCell ⟨w.heap.size + 1, 0, none⟩ (.slice A n c)).setCell ⟨w.heap.size + 1, 1, none⟩ (.slice B kk d)).setCell ⟨w.heap.size + 1, 2, none⟩ (.slice (some ⟨gL, 0, none⟩) (j + 1) q) := ⟨_, rfl⟩
      have hap : Apart W9.heap.size W8 WF := by
        rw [hWF, HWD.out]
        exact (((((Apart.refl _ _).alloc _).set2 (.inr hgd) 2 _).set2 (.inl hzw) 0 _).set2 (.inl hzw) 1 _).set2 (.inl hzw) 2 _
      rw [← hWF] at e1 e3 e4 ⊢
      have r0 := e4.at_ 0 rfl
      have r1 := e4.at_ 1 rfl
      have r2 := e4.at_ 2 rfl
      have hz8 : W8.heap.size ≤ WF.heap.size := hap.1
      have hrd : StoR WF WF.heap.size [.slice A n c, .slice B kk d, .slice (some ⟨gL, 0, none⟩) (j + 1) q] ⟨s.model, s.levels.take (j + 1)⟩ := by
        obtain ⟨u, v, la, lc, e, k1, k2, -⟩ := OwnSto.readL (OwnSto.apart H8.out hap)
        simp only [List.cons.injEq, Value.slice.injEq, and_true] at e
        obtain ⟨rfl, rfl, rfl, e5, rfl⟩ := e
        have hlt : (s.levels.take (j + 1)).length = j + 1 := by rw [List.length_take, HNL.out]; omega
        refine ⟨_, _, some ⟨gL, 0, none⟩, q, ?_, k1, ?_, ?_⟩
        · show _ = [_, _, Value.slice _ (s.levels.take (j + 1)).length q]
          rw [hlt]
        · show SlR _ _ _ _ (s.levels.take (j + 1)).length _
          rw [hlt]
          exact SlR.cut k2 (by rw [HNL.out]; omega)
        · show (s.levels.take (j + 1)).length ≤ q
          rw [hlt]; exact hjq
      have FIN := Lib.hid (And.intro hrd e1)
      clear hrd
      clear hWF hr2 e3 e4 hap e1 t0 t1 t2 p0 p1 p2 f0 f1 f2 hb2
      go_wp2_with fail
      exact bodyPost_ret (v := .tuple #[.agg #[.slice A n c, .slice B kk d, .slice (some ⟨gL, 0, none⟩) (j + 1) q], .bool true]) (by simp [results, Try.results22, go_sem, r0, r1, r2]) rfl ⟨[.slice A n c, .slice B kk d, .slice (some ⟨gL, 0, none⟩) (j + 1) q], by rw [HO.out], by rw [HE.out]; exact FIN.out.1, FIN.out.2⟩
set_option maxHeartbeats 8000000 in
theorem iBackjump (us : List Value) (s : Sto) (l : Int) (w : World) (hst : StoR w w.heap.size us s) (sm : SmSto s) :
    Calls Try.prog 24 #[.agg us.toArray, .int .i64 l] w fun e w' => ∃ (rs : List Value) (D : List (Nat × Nat)) (xs : List CC) (rows : List (List Int × List (Nat × Nat))), e = .returned (.tuple #[.agg rs.toArray, .bool (jumpOk s l)]) ∧ CStoH w' w.heap.size rs (jumpS s l) D xs rows ∧ Fr w.heap.size w'.heap.size (flatS D xs rows) ∧ Below w.heap.size w w' := by
  have SM := Lib.hid sm
  have s2 : s.levels.length ≤ 1048576 := sm.2.1
  have hwr : IntKind.i64.wrap ((s.levels.length : Int) - 1) = (s.levels.length : Int) - 1 := by rw [IntKind.wrap_i64]; omega
  clear sm
  have HS0 := Lib.hid hst
  obtain ⟨da, nd, cd, ca, nc, cc, la, nl, lc, rfl⟩ : ∃ (da : Option Addr) (nd cd : Nat) (ca : Option Addr) (nc cc : Nat) (la : Option Addr) (nl lc : Nat), us = [.slice da nd cd, .slice ca nc cc, .slice la nl lc] := by
    obtain ⟨u, v, la, lc, rfl, hm, -⟩ := hst
    obtain ⟨da, ca, nd, cd, nc, cc, e⟩ := hm.two
    simp only [List.cons.injEq, and_true] at e
    obtain ⟨rfl, rfl⟩ := e
    exact ⟨_, _, _, _, _, _, _, _, _, rfl⟩
  have hnl : s.levels.length = nl := by
    obtain ⟨u, v, la, lc, e, -⟩ := hst
    simp only [List.cons.injEq, Value.slice.injEq, and_true] at e
    omega
  have HNL := Lib.hid hnl
  rw [hnl] at s2 hwr
  clear hnl hst
  obtain ⟨wa, hwa⟩ : ∃ wa, wa = w.alloc (.cells #[.slice da nd cd, .slice ca nc cc, .slice la nl lc] 50) := ⟨_, rfl⟩
  obtain ⟨wb, hwb⟩ : ∃ wb, wb = wa.alloc (.cells #[.slice none 0 0, .slice none 0 0, .slice none 0 0] 50) := ⟨_, rfl⟩
  have hsa : wa.heap.size = w.heap.size + 1 := by rw [hwa, size_alloc_]
  have hsb : wb.heap.size = w.heap.size + 1 + 1 := by rw [hwb, size_alloc_, hsa]
  have hb0 : Below w.heap.size w wa := by rw [hwa]; exact b_alloc _ _
  have hb1 : Below wa.heap.size wa wb := by rw [hwb]; exact b_alloc _ _
  have hb01 := bgo hb0 hb1
  have HA : Hid (TBlk 50 wb w.heap.size #[.slice da nd cd, .slice ca nc cc, .slice la nl lc]) := TBlk.below_ (by rw [hwa]; exact TBlk.new _ _ _) hb1 (by omega)
  have HR : Hid (TBlk 50 wb (w.heap.size + 1) #[.slice none 0 0, .slice none 0 0, .slice none 0 0]) := by rw [hwb, ← hsa]; exact TBlk.new _ _ _
  have GM := Lib.hid (StoR.widens _ _ _ _ _ hb01.size (StoR.keeps _ _ _ _ _ (fun p hp => hb01.cell hp) HS0.out))
  have a0 : wb.cell? ⟨w.heap.size, 0, none⟩ = some (.slice da nd cd) := HA.out.at_ 0 rfl
  have a1 : wb.cell? ⟨w.heap.size, 1, none⟩ = some (.slice ca nc cc) := HA.out.at_ 1 rfl
  have a2 : wb.cell? ⟨w.heap.size, 2, none⟩ = some (.slice la nl lc) := HA.out.at_ 2 rfl
  clear hb0 hb1
  go_enter Try.func24, Try.ntmps24
  go_wp2_with fail
  rw [← hwa, ← hwb]
  clear hwa hwb
  have HSB := Lib.hid hsb
  clear hsb hsa
  -- the end: what is in the result's box
  have KEND : Hid (∀ W, Below wb.heap.size wb W → ∀ x0 x1 x2, Below w.heap.size w (((W.setCell ⟨w.heap.size + 1, 0, none⟩ x0).setCell ⟨w.heap.size + 1, 1, none⟩ x1).setCell ⟨w.heap.size + 1, 2, none⟩ x2) ∧ Apart wb.heap.size W (((W.setCell ⟨w.heap.size + 1, 0, none⟩ x0).setCell ⟨w.heap.size + 1, 1, none⟩ x1).setCell ⟨w.heap.size + 1, 2, none⟩ x2) ∧ (((W.setCell ⟨w.heap.size + 1, 0, none⟩ x0).setCell ⟨w.heap.size + 1, 1, none⟩ x1).setCell ⟨w.heap.size + 1, 2, none⟩ x2).heap.size = W.heap.size ∧ TBlk 50 (((W.setCell ⟨w.heap.size + 1, 0, none⟩ x0).setCell ⟨w.heap.size + 1, 1, none⟩ x1).setCell ⟨w.heap.size + 1, 2, none⟩ x2) (w.heap.size + 1) #[x0, x1, x2]) := by
    intro W hb x0 x1 x2
    have hz := HSB.out
    have hr := HR.out.below_ hb (by omega)
    refine ⟨?_, ((((Apart.refl _ _).set (by omega) 0 _).set (by omega) 1 _).set (by omega) 2 _), by simp [World.setCell], ((hr.store 0 _).store 1 _).store 2 _⟩
    refine (hb01.trans (hb.mono (by omega))).trans ?_
    repeat' (first | exact Below.refl _ _ | refine Below.setCell ?_ (by simp) _)
  go_wp2_with fail
  refine (iValidStore _ s _ GM.out).mono ?_
  rintro e W9 ⟨rfl, b9⟩
  have hA := HA.out.below_ b9 (by have := HSB.out; omega)
  have a0 := hA.at_ 0 rfl
  have a1 := hA.at_ 1 rfl
  have a2 := hA.at_ 2 rfl
  have hr := HR.out.below_ b9 (by have := HSB.out; omega)
  have p0 := hr.at_ 0 rfl
  have p1 := hr.at_ 1 rfl
  have p2 := hr.at_ 2 rfl
  have f0 := hr.frozen 0
  have f1 := hr.frozen 1
  have f2 := hr.frozen 2
  cases tv : vstoF s
  · have HO := Lib.hid (show jumpOk s l = false by unfold jumpOk; rw [tv]; rfl)
    have HE := Lib.hid (show jumpS s l = ⟨⟨[], []⟩, []⟩ by unfold jumpS; rw [tv]; rfl)
    clear tv hwr
    go_wp2_with fail
    obtain ⟨e1, e2, e3, e4⟩ := KEND.out W9 b9 (.slice none 0 0) (.slice none 0 0) (.slice none 0 0)
    obtain ⟨WF, hWF⟩ : ∃ WF, WF = ((W9.setCell ⟨w.heap.size + 1, 0, none⟩ (.slice none 0 0)).setCell ⟨w.heap.size + 1, 1, none⟩ (.slice none 0 0)).setCell ⟨w.heap.size + 1, 2, none⟩ (.slice none 0 0) := ⟨_, rfl⟩
    rw [← hWF] at e1 e2 e3 e4 ⊢
    have r0 := e4.at_ 0 rfl
    have r1 := e4.at_ 1 rfl
    have r2 := e4.at_ 2 rfl
    clear hWF hr e2 e3 e4
    go_wp2_with fail
    exact bodyPost_ret (v := .tuple #[.agg #[.slice none 0 0, .slice none 0 0, .slice none 0 0], .bool false]) (by simp [results, Try.results24, go_sem, r0, r1, r2]) rfl ⟨[.slice none 0 0, .slice none 0 0, .slice none 0 0], [], [], [], by rw [HO.out], by rw [HE.out]; exact CStoH.zero _ _, Fr.nil _ _, e1⟩
  · have TV := Lib.hid tv
    clear tv p0 p1 p2 f0 f1 f2
    go_wp2_with fail
    refine (istoCopied _ s _ (StoR.widens _ _ _ _ _ b9.size (StoR.keeps _ _ _ _ _ (fun p hp => b9.cell hp) GM.out)) SM.out).mono ?_
    rintro e W8 ⟨rs8, D, xs, rows, rfl, h8, F8, hB8⟩
    obtain ⟨A, n, c, B, kk, d, L, q, rfl⟩ : ∃ (A : Option Addr) (n c : Nat) (B : Option Addr) (kk d : Nat) (L : Option Addr) (q : Nat), rs8 = [.slice A n c, .slice B kk d, .slice L nl q] := by
      obtain ⟨u, v, la, lc, e, hm, -⟩ := CSto.read h8
      obtain ⟨da, ca, nd, cd, nc, cc, e2⟩ := hm.two
      simp only [List.cons.injEq, and_true] at e2
      obtain ⟨rfl, rfl⟩ := e2
      rw [HNL.out] at e
      exact ⟨_, _, _, _, _, _, _, _, e⟩
    have H8 := Lib.hid h8
    clear h8
    have hz9 := b9.size
    have b8 := bgo b9 hB8
    obtain ⟨g3, hg⟩ : ∃ g3, g3 = W8.heap.size := ⟨_, rfl⟩
    have hA8 := HA.out.below_ b8 (by have := HSB.out; omega)
    have a2 : (W8.alloc (.cells #[.slice A n c, .slice B kk d, .slice L nl q] 50)).cell? ⟨w.heap.size, 2, none⟩ = some (.slice la nl lc) := (hA8.on (b_alloc _ _)).at_ 2 rfl
    clear hA8
    go_wp2_with fail
    obtain ⟨W, hW⟩ : ∃ W, W = W8.alloc (.cells #[.slice A n c, .slice B kk d, .slice L nl q] 50) := ⟨_, rfl⟩
    have HT : Hid (TBlk 50 W g3 #[.slice A n c, .slice B kk d, .slice L nl q]) := by rw [hW, hg]; exact TBlk.new _ _ _
    have hbW : Below wb.heap.size wb W := by rw [hW]; exact bgo b8 (b_alloc _ _)
    skip
    have hg3 : wb.heap.size ≤ g3 := by rw [hg]; exact b8.size
    have HWD := Lib.hid hW
    rw [← hW, ← hg]
    have hgd : W8.heap.size ≤ g3 := by rw [hg]; exact Nat.le_refl _
    clear hW hg
    refine (within_b0 l 0 ((nl : Int) - 1) _ _ rfl).mono ?_
    rintro e w3 ⟨rfl, rfl⟩
    have m0 := HT.out.at_ 0 rfl
    have m1 := HT.out.at_ 1 rfl
    have m2 := HT.out.at_ 2 rfl
    have hzw : w.heap.size + 1 < W9.heap.size := by have := HSB.out; omega
    have hr := HR.out.below_ hbW (by have := HSB.out; omega)
    cases ti : inB l 0 ((nl : Int) - 1)
    · have HO := Lib.hid (show jumpOk s l = false by unfold jumpOk; rw [TV.out, HNL.out, ti]; rfl)
      have HE := Lib.hid (show jumpS s l = s by unfold jumpS; rw [TV.out, HNL.out, ti]; rfl)
      have p0 := hr.at_ 0 rfl
      have p1 := hr.at_ 1 rfl
      have p2 := hr.at_ 2 rfl
      have f0 := hr.frozen 0
      have f1 := hr.frozen 1
      have f2 := hr.frozen 2
      clear ti hwr
      go_wp2_with fail
      obtain ⟨e1, -, e3, e4⟩ := KEND.out W hbW (.slice A n c) (.slice B kk d) (.slice L nl q)
      obtain ⟨WF, hWF⟩ : ∃ WF, WF = ((W.setCell ⟨w.heap.size + 1, 0, none⟩ (.slice A n c)).setCell ⟨w.heap.size + 1, 1, none⟩ (.slice B kk d)).setCell ⟨w.heap.size + 1, 2, none⟩ (.slice L nl q) := ⟨_, rfl⟩
      have hap : Apart W9.heap.size W8 WF := by
        rw [hWF, HWD.out]
        exact ((((Apart.refl _ _).alloc _).set2 (.inl hzw) 0 _).set2 (.inl hzw) 1 _).set2 (.inl hzw) 2 _
      rw [← hWF] at e1 e3 e4 ⊢
      have r0 := e4.at_ 0 rfl
      have r1 := e4.at_ 1 rfl
      have r2 := e4.at_ 2 rfl
      have hz8 : W8.heap.size ≤ WF.heap.size := hap.1
      have FIN := Lib.hid (And.intro (CStoH.base_ (CSto.toH (CSto.apart H8.out hap)) (show w.heap.size ≤ W9.heap.size by omega)) (And.intro (show Fr w.heap.size WF.heap.size (flatS D xs rows) from F8.wide (by omega) hz8) e1))
      clear hWF hr e3 e4 hap e1
      go_wp2_with fail
      exact bodyPost_ret (v := .tuple #[.agg #[.slice A n c, .slice B kk d, .slice L nl q], .bool false]) (by simp [results, Try.results24, go_sem, r0, r1, r2]) rfl ⟨[.slice A n c, .slice B kk d, .slice L nl q], D, xs, rows, by rw [HO.out], by rw [HE.out]; exact FIN.out.1, FIN.out.2.1, FIN.out.2.2⟩
    · have HO := Lib.hid (show jumpOk s l = true by unfold jumpOk; rw [TV.out, HNL.out, ti]; rfl)
      have hl0 : ((l.toNat : Nat) : Int) = l ∧ l.toNat < nl := by unfold inB at ti; simp at ti; omega
      have HE := Lib.hid (show jumpS s l = ⟨s.model, s.levels.take (l.toNat + 1)⟩ by unfold jumpS; rw [TV.out, HNL.out, ti]; rfl)
      obtain ⟨j, hj⟩ : ∃ j : Nat, l.toNat = j := ⟨_, rfl⟩
      rw [hj] at hl0 HE
      obtain ⟨hl0, hjn⟩ := hl0
      subst hl0
      have hwj : IntKind.i64.wrap ((j : Int) + 1) = (j : Int) + 1 := by rw [IntKind.wrap_i64]; omega
      obtain ⟨gL, rfl, hnq⟩ : ∃ gL, L = some ⟨gL, 0, none⟩ ∧ nl ≤ q := by
        obtain ⟨dv, cv, lv, e, -, ⟨us, -, ho, -⟩, h6, -⟩ := id H8.out
        simp only [List.cons.injEq, and_true] at e
        have hlr : rows.length = nl := by rw [← HNL.out, ← h6, List.length_map]
        rw [← e.2.2, hlr] at ho
        obtain ⟨g, cap, e3, -, -, h5, -⟩ := own_pos ho (by omega)
        injection e3 with e4 e5 e6
        exact ⟨g, e4, by omega⟩
      have hjq : j + 1 ≤ q := by omega
      have hjqI : (j : Int) + 1 ≤ (q : Int) := by omega
      have hjT : ((j : Int) + 1).toNat = j + 1 := by omega
      have hj0 : (0 : Int) ≤ (j : Int) + 1 := by omega
      have ff := HT.out.frozen 2
      have hge : w.heap.size + 1 ≠ g3 := by have := HSB.out; omega
      have HT2 := Lib.hid (HT.out.store 2 (.slice (some ⟨gL, 0, none⟩) (j + 1) (j + 1)))
      have hr2 := hr.far (j := 2) (u := .slice (some ⟨gL, 0, none⟩) (j + 1) (j + 1)) hge
      have t0 : (W.setCell ⟨g3, 2, none⟩ (.slice (some ⟨gL, 0, none⟩) (j + 1) (j + 1))).cell? ⟨g3, 0, none⟩ = some (.slice A n c) := HT2.out.at_ 0 rfl
      have t1 : (W.setCell ⟨g3, 2, none⟩ (.slice (some ⟨gL, 0, none⟩) (j + 1) (j + 1))).cell? ⟨g3, 1, none⟩ = some (.slice B kk d) := HT2.out.at_ 1 rfl
      have t2 : (W.setCell ⟨g3, 2, none⟩ (.slice (some ⟨gL, 0, none⟩) (j + 1) (j + 1))).cell? ⟨g3, 2, none⟩ = some (.slice (some ⟨gL, 0, none⟩) (j + 1) (j + 1)) := HT2.out.at_ 2 rfl
      have p0 := hr2.at_ 0 rfl
      have p1 := hr2.at_ 1 rfl
      have p2 := hr2.at_ 2 rfl
      have f0 := hr2.frozen 0
      have f1 := hr2.frozen 1
      have f2 := hr2.frozen 2
      have hb2 : Below wb.heap.size wb (W.setCell ⟨g3, 2, none⟩ (.slice (some ⟨gL, 0, none⟩) (j + 1) (j + 1))) := hbW.setCell hg3 _
      clear ti hwr hj m0 m1 hr
      go_wp2_with fail
      refine (clipRows _ _ _ _ hjq).mono ?_
      rintro e w4 ⟨rfl, rfl⟩
      go_wp2_with fail
      obtain ⟨e1, -, e3, e4⟩ := KEND.out _ hb2 (.slice A n c) (.slice B kk d) (.slice (some ⟨gL, 0, none⟩) (j + 1) (j + 1))
      obtain ⟨WF, hWF⟩ : ∃ WF, WF = (((W.setCell ⟨g3, 2, none⟩ (.slice (some ⟨gL, 0, none⟩) (j + 1) (j + 1))).setCell ⟨w.heap.size + 1, 0, none⟩ (.slice A n c)).setCell ⟨w.heap.size + 1, 1, none⟩ (.slice B kk d)).setCell ⟨w.heap.size + 1, 2, none⟩ (.slice (some ⟨gL, 0, none⟩) (j + 1) (j + 1)) := ⟨_, rfl⟩
      have hap : Apart W9.heap.size W8 WF := by
        rw [hWF, HWD.out]
        exact (((((Apart.refl _ _).alloc _).set2 (.inr hgd) 2 _).set2 (.inl hzw) 0 _).set2 (.inl hzw) 1 _).set2 (.inl hzw) 2 _
      rw [← hWF] at e1 e3 e4 ⊢
      have r0 := e4.at_ 0 rfl
      have r1 := e4.at_ 1 rfl
      have r2 := e4.at_ 2 rfl
      have hz8 : W8.heap.size ≤ WF.heap.size := hap.1
      have hlr : rows.length = nl := by
        obtain ⟨dv, cv, lv, e, -, -, h6, -⟩ := id H8.out
        rw [← HNL.out, ← h6, List.length_map]
      obtain ⟨R, hR⟩ := flatS_take D xs rows (j + 1)
      have hcs : CStoH WF W9.heap.size [.slice A n c, .slice B kk d, .slice (some ⟨gL, 0, none⟩) (j + 1) (j + 1)] ⟨s.model, s.levels.take (j + 1)⟩ D xs (rows.take (j + 1)) := by
        obtain ⟨dv, cv, lv, e, k1, k2, k3, k4⟩ := CSto.apart H8.out hap
        simp only [List.cons.injEq, and_true] at e
        obtain ⟨rfl, rfl, rfl⟩ := e
        exact ⟨_, _, _, rfl, k1, (HRs.toH k2).cut (by omega), by rw [List.map_take, k3], by rw [List.length_take]; omega⟩
      have FIN := Lib.hid (And.intro (CStoH.base_ hcs (show w.heap.size ≤ W9.heap.size by omega)) (And.intro (show Fr w.heap.size WF.heap.size (flatS D xs (rows.take (j + 1))) from Fr.left (R := R) (by rw [← hR]; exact F8.wide (by omega) hz8)) e1))
      clear hcs
      clear hWF hr2 e3 e4 hap e1 t0 t1 t2 p0 p1 p2 f0 f1 f2 hb2
      go_wp2_with fail
      exact bodyPost_ret (v := .tuple #[.agg #[.slice A n c, .slice B kk d, .slice (some ⟨gL, 0, none⟩) (j + 1) (j + 1)], .bool true]) (by simp [results, Try.results24, go_sem, r0, r1, r2]) rfl ⟨[.slice A n c, .slice B kk d, .slice (some ⟨gL, 0, none⟩) (j + 1) (j + 1)], D, xs, rows.take (j + 1), by rw [HO.out], by rw [HE.out]; exact FIN.out.1, FIN.out.2.1, FIN.out.2.2⟩
end Go.Proofs.Ytcghhnajjmnkkaa
