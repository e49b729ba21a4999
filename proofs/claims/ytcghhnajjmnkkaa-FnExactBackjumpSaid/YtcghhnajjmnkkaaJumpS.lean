/- The sites of a copied store, and their marks. -/
import Derived.Test.YtcghhnajjmnkkaaJump
import Derived.Test.YtcghhnajjmnkkaaCopyS
namespace Go.Proofs.Ytcghhnajjmnkkaa
open Go.ChangeShapes Go.WideShapes Go.ChangeAt Go.RowKit
open Go.Shelf
set_option linter.unusedVariables false
set_option linter.unusedSimpArgs false
set_option maxRecDepth 100000
section
variable {w w' : World} {base : Nat}
theorem CMod.site2 {us : List Value} {m : Mod} {D : List (Nat × Nat)} {xs : List CC} (h : CMod w base us m D xs) (hf : Fr base w.heap.size (flatM D xs)) : ∃ S, SMod base w us S ∧ S.Nodup ∧ S.length ≤ 2305843009213693952 ∧ ∀ s ∈ S, s.1 < w.heap.size ∧ ((∃ p ∈ flatM D xs, p.1 = s.1) ∨ ∃ cs, w.heap[s.1]? = some (.cells cs 37 (0, 0))) := by
  obtain ⟨dv, cv, e, h1, h2, h3, h4⟩ := h
  obtain ⟨A1, c1, rfl, -⟩ := h1.read
  obtain ⟨A2, c2, rfl, -, -⟩ := OwnK.read (R := fun w B u (x : CC) => ConR w B u x.con) (fun _ _ _ _ h => CCon.read h) h2
  obtain ⟨g, k1, k2, k3⟩ := CCons.site h2 h4
  have hs := h1.site
  have hlen : (csites g 0 (xs.map CC.site)).length ≤ 1152923703632199680 := by
    have := csites_len_le (i := 0) k2
    rw [List.length_map] at this
    have : xs.length * 1099513724930 ≤ 1048576 * 1099513724930 := Nat.mul_le_mul_right _ h4
    omega
  have hD : (sgs D).length ≤ 1048576 := h1.len
  have hint : ∀ p ∈ flatM D xs, ∃ cs, w.heap[p.1]? = some (.cells cs 3 (0, 0)) := by
    intro p hp
    rcases List.mem_append.1 hp with hp | hp
    · exact h1.int p hp
    · obtain ⟨x, hx, hp⟩ := List.mem_flatMap.1 hp
      obtain ⟨uss, u1, u0, u2, -, u4⟩ := h2
      obtain ⟨i, hi⟩ := List.mem_iff_getElem?.1 hx
      have hlt : i < xs.length := by
        rcases Nat.lt_or_ge i xs.length with h | h
        · exact h
        · rw [List.getElem?_eq_none h] at hi; cases hi
      obtain ⟨vv, av, rv, rows, -, q1, q2, q3, q4, q5, q6⟩ := u4 i uss[i] x (List.getElem?_eq_getElem (by omega)) hi
      rcases List.mem_append.1 hp with hp | hp
      · exact q1.int p hp
      rcases List.mem_append.1 hp with hp | hp
      · exact q2.int p hp
      · rw [← q5] at hp
        obtain ⟨L, hL, hp⟩ := List.mem_flatten.1 hp
        obtain ⟨r, hr, rfl⟩ := List.mem_map.1 hL
        obtain ⟨vs, v1, v2, -, v4⟩ := q3
        obtain ⟨j, hj⟩ := List.mem_iff_getElem?.1 hr
        have hlt2 : j < rows.length := by
          rcases Nat.lt_or_ge j rows.length with h | h
          · exact h
          · rw [List.getElem?_eq_none h] at hj; cases hj
        exact (v4 j vs[j] r (List.getElem?_eq_getElem (by omega)) hj).int p hp
  refine ⟨sgs D ++ csites g 0 (xs.map CC.site), ⟨A1, _, c1, A2, _, c2, _, g, _, e, hs, k1, rfl⟩, ?_, by rw [List.length_append]; omega, fun s hs => ?_⟩
  · rcases k3 with k3 | ⟨cs, k3⟩
    · have : xs = [] := List.eq_nil_of_length_eq_zero k3
      subst this
      rw [List.map_nil]
      show (sgs D ++ []).Nodup
      rw [List.append_nil]
      have := hf.1
      unfold flatM at this
      simp at this
      exact sgs_nodup this
    · refine sites_nodup hf.1 fun p hp e => ?_
      obtain ⟨cs2, h2⟩ := hint p hp
      rw [e, k3] at h2
      injection h2 with h2
      injection h2 with _ h2 _
      exact absurd h2 (by decide)
  · have hc : (sgs D ++ csites g 0 (xs.map CC.site)).count s ≠ 0 := fun h0 => List.count_eq_zero.1 h0 hs
    rw [List.count_append, csites_count] at hc
    by_cases hg : (gs g 0 xs.length).count s = 0
    · have : (sgs (flatM D xs)).count s ≠ 0 := by unfold flatM; rw [sgs_append, List.count_append]; omega
      have hm : s ∈ sgs (flatM D xs) := by
        by_cases hm : s ∈ sgs (flatM D xs)
        · exact hm
        · exact absurd (List.count_eq_zero.2 hm) this
      obtain ⟨p, hp, e⟩ := List.mem_map.1 (mem_sgs hm)
      exact ⟨by rw [← e]; exact (hf.2 p hp).2, .inl ⟨p, hp, e⟩⟩
    · have hm := List.count_pos_iff.1 (Nat.pos_of_ne_zero hg)
      rw [(gs_mem hm).1]
      rcases k3 with k3 | ⟨cs, k3⟩
      · rw [k3] at hm; simp [gs] at hm
      · exact ⟨lt_heap k3, .inr ⟨cs, k3⟩⟩

theorem sgs_flat (Ls : List (List (Nat × Nat))) : (Ls.map sgs).flatten = sgs Ls.flatten := by
  induction Ls with
  | nil => rfl
  | cons L Ls ih => rw [List.map_cons, List.flatten_cons, List.flatten_cons, ih, sgs_append]
theorem HRsH.site {A : Option Addr} {n c : Nat} {rows : List (List Int × List (Nat × Nat))} (h : HRsH w base (.slice A n c) rows) (hn : n = rows.length) : SRows base w A n ((rows.map Prod.snd).map sgs) ∧ (∀ S ∈ (rows.map Prod.snd).map sgs, S.length ≤ 1048576) ∧ ∀ p ∈ (rows.map Prod.snd).flatten, ∃ cs, w.heap[p.1]? = some (.cells cs 3 (0, 0)) := by
  obtain ⟨us, h1, h2, -, h4⟩ := h
  have hrow : ∀ p ∈ rows, ∃ u, HIn w base u p := fun p hp => by
    obtain ⟨i, hi⟩ := List.mem_iff_getElem?.1 hp
    have hlt := (List.getElem?_eq_some_iff.1 hi).1
    exact ⟨us[i], h4 i us[i] p (List.getElem?_eq_getElem (by omega)) hi⟩
  refine ⟨⟨by rw [List.length_map, List.length_map, hn], ?_⟩, fun S hS => ?_, fun p hp => ?_⟩
  · rcases h2.2 with ⟨e, e0⟩ | ⟨g, cap, cur, e, hg, hh, hc, hmx, ht⟩
    · exact .inl (by omega)
    · injection e with e1 e2 e3
      refine .inr ⟨g, cur, _, e1, hh, fun j S hj => ?_⟩
      rw [List.map_map, List.getElem?_map] at hj
      obtain ⟨p, hp, rfl⟩ := Option.map_eq_some_iff.1 hj
      have hlt := (List.getElem?_eq_some_iff.1 hp).1
      have hu : us[j]? = some us[j] := List.getElem?_eq_getElem (by omega)
      have hI := h4 j us[j] p hu hp
      obtain ⟨A', c', e', -⟩ := hI.read
      rw [e'] at hI
      have hcj := take_at ht (show j < rows.length * 1 by omega)
      exact ⟨A', _, c', by rw [hcj, hu, e'], hI.site⟩
  · rw [List.map_map] at hS
    obtain ⟨p, hp, rfl⟩ := List.mem_map.1 hS
    obtain ⟨u, hu⟩ := hrow p hp
    exact hu.len
  · obtain ⟨L, hL, hp⟩ := List.mem_flatten.1 hp
    obtain ⟨r, hr, rfl⟩ := List.mem_map.1 hL
    obtain ⟨u, hu⟩ := hrow r hr
    exact hu.int p hp
end
/-- The sites of a store. -/
def SSto (lo : Nat) (w : World) (us : List Value) (S : List (Nat × Nat)) : Prop := ∃ u v la n c SM Ss, us = [u, v, .slice la n c] ∧ SMod lo w [u, v] SM ∧ SRows lo w la n Ss ∧ n ≤ 1048576 ∧ S = SM ++ Ss.flatten
theorem SSto.keep {lo : Nat} {w w' : World} {us : List Value} {S : List (Nat × Nat)} (h : SSto lo w us S) (k : Keep w w') : SSto lo w' us S := by
  obtain ⟨u, v, la, n, c, SM, Ss, e, h1, h2, h3, h4⟩ := h
  exact ⟨u, v, la, n, c, SM, Ss, e, h1.keep k, h2.keep k, h3, h4⟩
theorem CStoH.site {w : World} {base : Nat} {us : List Value} {s : Sto} {D : List (Nat × Nat)} {xs : List CC} {rows : List (List Int × List (Nat × Nat))} (h : CStoH w base us s D xs rows) (hf : Fr base w.heap.size (flatS D xs rows)) : ∃ S, SSto base w us S ∧ S.Nodup ∧ S.length ≤ 2305844108725321728 ∧ ∀ s ∈ S, s.1 < w.heap.size := by
  obtain ⟨dv, cv, lv, e, h1, h2, h3, h4⟩ := h
  obtain ⟨A, c, rfl, hcap⟩ := h2.form
  obtain ⟨k1, k2, k3⟩ := h2.site rfl
  obtain ⟨S1, m1, m2, m3, m4⟩ := CMod.site2 h1 (Fr.left (R := (rows.map Prod.snd).flatten) hf)
  have hfl := sgs_flat (rows.map Prod.snd)
  have hlen : ∀ Ls : List (List (Nat × Nat)), (∀ S ∈ Ls, S.length ≤ 1048576) → Ls.flatten.length ≤ Ls.length * 1048576 := by
    intro Ls
    induction Ls with
    | nil => intro _; simp
    | cons L Ls ih =>
      intro hL
      rw [List.flatten_cons, List.length_append, List.length_cons, Nat.succ_mul]
      have := hL L (by simp)
      have := ih (fun S hS => hL S (by simp [hS]))
      omega
  have hl2 := hlen _ k2
  rw [List.length_map, List.length_map] at hl2
  have hl3 : rows.length * 1048576 ≤ 1048576 * 1048576 := Nat.mul_le_mul_right _ h4
  have hnd2 : (((rows.map Prod.snd).map sgs).flatten).Nodup := by
    rw [hfl]
    refine sgs_nodup ?_
    have := hf.1
    unfold flatS at this
    rw [List.map_append, List.nodup_append] at this
    exact this.2.1
  have hin : ∀ t ∈ ((rows.map Prod.snd).map sgs).flatten, ∃ p ∈ (rows.map Prod.snd).flatten, p.1 = t.1 := by
    intro t ht
    rw [hfl] at ht
    obtain ⟨p, hp, e⟩ := List.mem_map.1 (mem_sgs ht)
    exact ⟨p, hp, e⟩
  refine ⟨S1 ++ ((rows.map Prod.snd).map sgs).flatten, ⟨dv, cv, A, _, c, S1, _, e, m1, k1, h4, rfl⟩, ?_, by rw [List.length_append]; omega, fun s hs => ?_⟩
  · rw [List.nodup_append]
    refine ⟨m2, hnd2, fun a ha b hb e => ?_⟩
    subst e
    obtain ⟨p, hp, e⟩ := hin _ hb
    rcases (m4 _ ha).2 with ⟨q, hq, e2⟩ | ⟨cs, hcs⟩
    · have := hf.1
      unfold flatS at this
      rw [List.map_append, List.nodup_append] at this
      exact this.2.2 q.1 (List.mem_map_of_mem hq) p.1 (List.mem_map_of_mem hp) (by rw [e2, e])
    · obtain ⟨cs2, h5⟩ := k3 p hp
      rw [e, hcs] at h5
      injection h5 with h5
      injection h5 with _ h5 _
      exact absurd h5 (by decide)
  · rcases List.mem_append.1 hs with h | h
    · exact (m4 s h).1
    · obtain ⟨p, hp, e⟩ := hin _ h
      obtain ⟨cs2, h5⟩ := k3 p hp
      rw [← e]
      exact lt_heap h5
set_option maxHeartbeats 4000000 in
theorem markStoreW (us : List Value) (lo : Nat) (k : Int) (S : List (Nat × Nat)) (w : World) (h : SSto lo w us S) (hlo : lo ≤ w.heap.size) (h0 : 0 ≤ k) (h1 : k + S.length ≤ 4611686018427387904) :
    Calls Try.prog 26 #[.agg us.toArray, .int .i64 k] w fun e w' => e = .returned (.int .i64 (k + S.length)) ∧ Wr lo w w' S k := by
  obtain ⟨u, v, la, n, c, SM, Ss, rfl, g1, g2, g3, rfl⟩ := h
  obtain ⟨da, nd, cd, ca, nc, cc, rfl, rfl⟩ : ∃ (da : Option Addr) (nd cd : Nat) (ca : Option Addr) (nc cc : Nat), u = .slice da nd cd ∧ v = .slice ca nc cc := by
    obtain ⟨da, nd, cd, ca, nc, cc, D, g, ps, e, -⟩ := g1
    simp only [List.cons.injEq, and_true] at e
    exact ⟨da, nd, cd, ca, nc, cc, e.1, e.2⟩
  rw [List.length_append] at h1 ⊢
  obtain ⟨N, hN⟩ : ∃ N, Ss.flatten.length = N := ⟨_, rfl⟩
  rw [hN] at h1 ⊢
  have HN := Lib.hid hN
  clear hN
  obtain ⟨wa, hwa⟩ : ∃ wa, wa = w.alloc (.cells #[.slice da nd cd, .slice ca nc cc, .slice la n c] 50) := ⟨_, rfl⟩
  have hb0 : Below w.heap.size w wa := by rw [hwa]; exact b_alloc _ _
  have ha : TBlk 50 wa w.heap.size #[.slice da nd cd, .slice ca nc cc, .slice la n c] := by rw [hwa]; exact TBlk.new _ _ _
  have HA := Lib.hid ha
  have TA := Lib.hid (Wr.of_below (lo := lo) (k := k) hb0 hlo)
  have G3 := Lib.hid (g1.keep TA.out.keep)
  have G4 := Lib.hid (g2.keep TA.out.keep)
  have a0 : wa.cell? ⟨w.heap.size, 0, none⟩ = some (.slice da nd cd) := ha.at_ 0 rfl
  have a1 : wa.cell? ⟨w.heap.size, 1, none⟩ = some (.slice ca nc cc) := ha.at_ 1 rfl
  have hlo2 : lo ≤ wa.heap.size := Nat.le_trans hlo hb0.size
  clear g1 g2 ha hb0
  go_enter Try.func26, Try.ntmps26
  go_wp2_with fail
  rw [← hwa]
  clear hwa
  refine (markModelW [.slice da nd cd, .slice ca nc cc] lo k SM wa G3.out hlo2 h0 (by omega)).mono ?_
  rintro e w1 ⟨rfl, ht1⟩
  obtain ⟨cs1, b1, b2, -⟩ := ht1.keep _ _ _ HA.out
  have a2 : w1.cell? ⟨w.heap.size, 2, none⟩ = some (.slice la n c) := by rw [cell_of_row w1 _ _ cs1 _ _ b1]; exact b2 2 _ _ _ rfl
  have TB := Lib.hid (TA.out.nil_left ht1)
  have G5 := Lib.hid (G4.out.keep ht1.keep)
  clear ht1 b1 b2 a0 a1
  go_wp2_with fail
  refine (markIntSSW la n c lo _ Ss w1 G5.out g3 (by omega) (by have := HN.out; omega)).mono ?_
  rintro e w2 ⟨he, ht2⟩
  rw [HN.out] at he
  subst he
  have TC := Lib.hid (TB.out.trans ht2 rfl)
  clear ht2
  go_wp2_with fail
  go_ret
  exact ⟨by rw [show k + (SM.length : Int) + (N : Int) = k + ((SM.length + N : Nat) : Int) by omega]; rfl, TC.out⟩
set_option maxHeartbeats 4000000 in
theorem heldStoreW (us : List Value) (lo : Nat) (k : Int) (S : List (Nat × Nat)) (w : World) (h : SSto lo w us S) (hh : Holds w S k) (hlt : ∀ s ∈ S, s.1 < w.heap.size) (h0 : 0 ≤ k) (h1 : k + S.length ≤ 4611686018427387904) :
    Calls Try.prog 27 #[.agg us.toArray, .int .i64 k] w fun e w' => e = .returned (.int .i64 (k + S.length)) ∧ Below w.heap.size w w' := by
  obtain ⟨u, v, la, n, c, SM, Ss, rfl, g1, g2, g3, rfl⟩ := h
  obtain ⟨da, nd, cd, ca, nc, cc, rfl, rfl⟩ : ∃ (da : Option Addr) (nd cd : Nat) (ca : Option Addr) (nc cc : Nat), u = .slice da nd cd ∧ v = .slice ca nc cc := by
    obtain ⟨da, nd, cd, ca, nc, cc, D, g, ps, e, -⟩ := g1
    simp only [List.cons.injEq, and_true] at e
    exact ⟨da, nd, cd, ca, nc, cc, e.1, e.2⟩
  rw [List.length_append] at h1 ⊢
  obtain ⟨N, hN⟩ : ∃ N, Ss.flatten.length = N := ⟨_, rfl⟩
  rw [hN] at h1 ⊢
  have HN := Lib.hid hN
  clear hN
  obtain ⟨wa, hwa⟩ : ∃ wa, wa = w.alloc (.cells #[.slice da nd cd, .slice ca nc cc, .slice la n c] 50) := ⟨_, rfl⟩
  have hb0 : Below w.heap.size w wa := by rw [hwa]; exact b_alloc _ _
  have hsz : wa.heap.size = w.heap.size + 1 := by rw [hwa, size_alloc_]
  have ha : TBlk 50 wa w.heap.size #[.slice da nd cd, .slice ca nc cc, .slice la n c] := by rw [hwa]; exact TBlk.new _ _ _
  obtain ⟨hd, hcs⟩ := (hh.below hb0 hlt).append
  have G3 := Lib.hid (g1.keep (Keep.of_below hb0))
  have G4 := Lib.hid (g2.keep (Keep.of_below hb0))
  have HD := Lib.hid hd
  have HC := Lib.hid hcs
  have HL := Lib.hid (show ∀ s ∈ SM, s.1 < wa.heap.size from fun s hs => by have := hlt s (List.mem_append_left _ hs); omega)
  have HT := Lib.hid (show ∀ s ∈ Ss.flatten, s.1 < wa.heap.size from fun s hs => by have := hlt s (List.mem_append_right _ hs); omega)
  have a0 : wa.cell? ⟨w.heap.size, 0, none⟩ = some (.slice da nd cd) := ha.at_ 0 rfl
  have a1 : wa.cell? ⟨w.heap.size, 1, none⟩ = some (.slice ca nc cc) := ha.at_ 1 rfl
  have A2 := Lib.hid (ha.at_ 2 rfl)
  clear g1 g2 ha hh hd hcs hlt
  go_enter Try.func27, Try.ntmps27
  go_wp2_with fail
  rw [← hwa]
  clear hwa
  refine (heldModelW [.slice da nd cd, .slice ca nc cc] lo k SM wa G3.out HD.out HL.out h0 (by omega)).mono ?_
  rintro e w1 ⟨rfl, ht1⟩
  have a2 : w1.cell? ⟨w.heap.size, 2, none⟩ = some (.slice la n c) := (ht1.cell (p := ⟨w.heap.size, 2, none⟩) (show w.heap.size < _ by omega)).trans A2.out
  have hn1 : decide (k + (SM.length : Int) < 0) = false := decide_eq_false (by omega)
  have B1 := hb0.trans (ht1.mono (by omega))
  have HC1 := Lib.hid (HC.out.below ht1 HT.out)
  have G5 := Lib.hid (G4.out.keep (Keep.of_below ht1))
  clear ht1 hb0 a0 a1 A2 HC G4 G3 HD
  go_wp2_with fail
  refine (heldIntSSW la n c lo _ Ss w1 G5.out HC1.out g3 (by omega) (by have := HN.out; omega)).mono ?_
  rintro e w2 ⟨he, ht2⟩
  rw [HN.out] at he
  subst he
  have hn2 : decide (k + (SM.length : Int) + (N : Int) < 0) = false := decide_eq_false (by omega)
  have B2 := B1.trans (ht2.mono B1.size)
  clear ht2 B1
  go_wp2_with fail
  go_ret
  exact ⟨by rw [show k + (SM.length : Int) + (N : Int) = k + ((SM.length + N : Nat) : Int) by omega]; rfl, B2⟩
end Go.Proofs.Ytcghhnajjmnkkaa
