/- Draws of clauses. -/
import Derived.Test.YtjkgndedffildaaDrawI
import Derived.Test.YtjkgndedffildaaDrawA
import Derived.Test.YtjkgndedffildaaDist
import Derived.Test.YtjkgndedffildaaMergeC
namespace Go.Proofs.Ytjkgndedffildaa
open Go.ChangeShapes Go.WideShapes Go.ChangeAt Go.RowKit
open Go.Shelf
set_option linter.unusedVariables false
set_option maxRecDepth 100000

theorem randomClause (base g n c p : Nat) (A : Option Addr) (bs : List Int) (m : Nat) (w : World) (h : Rd w base g A n c bs p) (hp : p ≤ 1000000) (hm : m ≤ 1000) (hm1 : 1 ≤ m) :
    Calls Try.prog 50 #[.pointer (some ⟨g, 0, none⟩), .int .i64 m] w fun e w' => ∃ (v : Value) (xs : List Ltl) (q : Nat), e = .returned v ∧ v ≠ .slice none 0 0 ∧ xs.length ≤ 3 ∧ q ≤ p + 10 ∧ w'.ownsRow w.heap.size 30 3 v xs.length (xs.flatMap ltlCs) ∧ Rd w' base g A n c bs q ∧ ButG g w.heap.size w w' := by
  have hg : g < w.heap.size := (Array.getElem?_eq_some_iff.1 h.block).1
  have ho : (w.alloc (.cells #[] 30)).ownsRow w.heap.size 30 3 (.slice (some ⟨w.heap.size, 0, none⟩) 0 0) 0 (([] : List Ltl).flatMap ltlCs) := World.ownsRow_lit w #[] 0 (Nat.le_refl _) (by decide) rfl
  have hb0 : ButG g w.heap.size w (w.alloc (.cells #[] 30)) := below_butG (b_alloc _ _) g
  have hr0 : Rd (w.alloc (.cells #[] 30)) base g A n c bs p := h.below (b_alloc _ _) (Nat.le_trans h.base_le (Nat.le_of_lt hg))
  have hG := Lib.hid hg
  clear h
  go_enter Try.func50, Try.ntmps50
  go_wp2_with fail
  refine (pick base g n c p A bs 4 _ hr0 (by omega)).mono ?_
  rintro e w1 ⟨r, rfl, ⟨-, hr⟩, hr1, hb1⟩
  obtain ⟨r0, r1⟩ := hr (by omega)
  obtain ⟨k0, rfl⟩ := Int.eq_ofNat_of_zero_le r0
  have ho1 := own_butG ho hb1 hg
  have hb01 := hb0.go hb1
  have hk0 : k0 ≤ 3 := by omega
  clear hr r0 r1 hr0 ho hb0 hb1
  go_wp2_with fail
  go_loopw [5, 6] (fun v i wr => ∃ (k q : Nat) (v' : Value) (zs : List Ltl), k ≤ k0 ∧ i = .int .i64 k ∧ v' = v ∧ Hid (v' ≠ .slice none 0 0) ∧ zs.length + k ≤ k0 ∧ q + 3 * k ≤ p + 10 ∧ Hid (wr.ownsRow w.heap.size 30 3 v' zs.length (zs.flatMap ltlCs)) ∧ Rd wr base g A n c bs q ∧ ButG g w.heap.size w wr) (fun _ i _ => (intOf i).toNat)
  case atStart => exact ⟨k0, _, _, [], by omega, rfl, rfl, Lib.hid (by simp), by simp, by omega, ho1, hr1, hb01⟩
  case round =>
    obtain ⟨k, q, v, zs, hk, rfl, rfl, hnn, hzl, hqk, hq, hr, hb⟩ := hrel
    clear ho1 hr1 hb01
    have hsz := hb.size
    by_cases hlt : 0 < k
    · have hki : (0 : Int) < (k : Int) := by omega
      go_wp2_with fail
      refine (pick base g n c q A bs m _ hr (by omega)).mono ?_
      rintro e w2 ⟨r2, rfl, -, hr2, hb2⟩
      have hs2 := hb2.size
      go_wp2_with fail
      refine (pick base g n c (q + 1) A bs 4 _ hr2 (by omega)).mono ?_
      rintro e w3 ⟨r3, rfl, -, hr3, hb3⟩
      have hs3 := hb3.size
      go_wp2_with fail
      refine (pick base g n c (q + 1 + 1) A bs 2 _ hr3 (by omega)).mono ?_
      rintro e w4 ⟨r4, rfl, -, hr4, hb4⟩
      have hs4 := hb4.size
      have hb24 := (hb2.go hb3).go hb4
      have hq4 := own_butG hq.out hb24 (by have := hG.out; omega)
      have hB4 := hb.go hb24
      obtain ⟨b4, hb4e⟩ : ∃ b4, b4 = (r4 == 0) := ⟨_, rfl⟩
      have olit : (w4.alloc (.cells #[.int .i64 r2, .int .i64 r3, .bool (r4 == 0)] 30)).ownsRow w4.heap.size 30 3 (.slice (some ⟨w4.heap.size, 0, none⟩) 1 1) 1 (([⟨r2, r3, r4 == 0⟩] : List Ltl).flatMap ltlCs) := World.ownsRow_lit w4 #[.int .i64 r2, .int .i64 r3, .bool (r4 == 0)] 1 (Nat.le_refl _) (by decide) rfl
      have hmc := mergeClauses _ _ _ _ _ _ zs [⟨r2, r3, r4 == 0⟩] _ (own_below hq4 (b_alloc w4 (.cells #[.int .i64 r2, .int .i64 r3, .bool (r4 == 0)] 30))) rfl olit rfl (by omega)
      have HMC := Lib.hid hmc
      clear hmc olit hb4e b4
      go_wp2_with fail
      refine HMC.out.mono ?_
      rintro e w5 ⟨v5, rfl, hnn5, ho5, hb5⟩
      have hml := mergeL_len zs [⟨r2, r3, r4 == 0⟩]
      have hml1 : (mergeL zs [⟨r2, r3, r4 == 0⟩]).length ≤ zs.length + 1 := hml.2
      have hb45 : Below w4.heap.size w4 w5 := bgo (b_alloc _ _) hb5
      have hs45 := le_alloc w4 (.cells #[.int .i64 r2, .int .i64 r3, .bool (r4 == 0)] 30)
      have hg4 : g < w4.heap.size := by have := hG.out; omega
      have hr5 := hr4.under hb45 hg4
      have hB5 := hB4.go (below_butG hb45 g)
      clear hml hr4 hB4
      go_wp2_with fail
      go_roundw
      case rel => exact ⟨k - 1, q + 1 + 1 + 1, v5, _, by omega, by go_num, rfl, hnn5, by omega, by omega, own_base ho5 (by omega), hr5, hB5⟩
      case measure => simp [intOf]; omega
    · obtain rfl : k = 0 := by omega
      have hki : decide ((0 : Int) < ((0 : Nat) : Int)) = false := by decide
      go_wp2_with fail
      go_ret
      exact ⟨_, zs, q, rfl, hnn.out, by omega, by omega, hq.out, hr, hb⟩
theorem own_far {w w' : World} {base size n b c : Nat} {e : TypeId} {xs : List Value} {r : Option Nat} (h : w.ownsRow base e size (.slice (some ⟨b, 0, none⟩) n c) n xs) (hg : w.grownBy w' r) (hne : some b ≠ r) : w'.ownsRow base e size (.slice (some ⟨b, 0, none⟩) n c) n xs := by
  refine ⟨h.1, ?_⟩
  rcases h.2 with ⟨h1, _⟩ | ⟨g, cap, cur, h1, h2, h3, r⟩
  · cases h1
  · injection h1 with e1 e2 e3
    injection e1 with e1
    injection e1 with e1
    subst e1
    exact .inr ⟨b, cap, cur, by rw [e3], h2, (hg.block b (Array.getElem?_eq_some_iff.1 h3).1 hne).trans h3, r⟩
set_option maxHeartbeats 4000000 in
theorem anyClause (base g n c p : Nat) (A : Option Addr) (bs : List Int) (m : Nat) (w : World) (h : Rd w base g A n c bs p) (hp : p ≤ 900000) (hm : m ≤ 1000) (hm1 : 1 ≤ m) :
    Calls Try.prog 32 #[.pointer (some ⟨g, 0, none⟩), .int .i64 m] w fun e w' => ∃ (v : Value) (xs : List Ltl) (q : Nat), e = .returned v ∧ v ≠ .slice none 0 0 ∧ xs.length ≤ 4 ∧ q ≤ p + 20 ∧ w'.ownsRow w.heap.size 30 3 v xs.length (xs.flatMap ltlCs) ∧ Rd w' base g A n c bs q ∧ ButG g w.heap.size w w' := by
  obtain ⟨i0, hi0, hz0, hz1, hz2⟩ := info_parts info_lit
  have hg : g < w.heap.size := (Array.getElem?_eq_some_iff.1 h.block).1
  have H := Lib.hid h
  clear h
  go_enter Try.func32, Try.ntmps32
  go_wp2_with fail
  refine (randomClause base g n c p A bs m _ H.out (by omega) hm hm1).mono ?_
  rintro e w1 ⟨v, xs, q, rfl, hnn, hxl, hq, ho, hr, hb⟩
  have hs1 := hb.size
  obtain ⟨gx, cx, rfl, hg1, hg2, hcx, hcx2⟩ := own_some ho hnn
  clear hnn
  go_wp2_with fail
  refine (pick base g n c q A bs 16 _ hr (by omega)).mono ?_
  rintro e w2 ⟨r, rfl, -, hr2, hb2⟩
  have hs2 := hb2.size
  have ho2 := own_butG ho hb2 (by omega)
  have hB2 := hb.go hb2
  clear ho hr hb hb2
  by_cases h0 : r = 0
  · subst h0
    go_wp2_with fail
    have hN0 : (w2.alloc (.cells #[.int .i64 (-1), .int .i64 m] 3)).heap.size = w2.heap.size + 1 := size_alloc_ _ _
    have hc0 : ∀ i x, ([-1, (m : Int)] : List Int)[i]? = some x → (w2.alloc (.cells #[.int .i64 (-1), .int .i64 m] 3)).cell? ⟨w2.heap.size, i, none⟩ = some (.int .i64 x) := fun i x hx => by
      rw [World.cell?_alloc_at _ _ _ _ rfl]
      match i, hx with
      | 0, hx => simp at hx; subst hx; rfl
      | 1, hx => simp at hx; subst hx; rfl
      | i + 2, hx => simp at hx
    refine (one base g n c (q + 1) w2.heap.size 2 2 A bs [-1, m] _ (hr2.under (b_alloc _ _) (by omega)) (by omega) rfl (by omega) (by omega) (by omega) (by omega) hc0).mono ?_
    rintro e w3 ⟨x1, rfl, -, hr3, hb3⟩
    have hb23 := (below_butG (b_alloc w2 (.cells #[.int .i64 (-1), .int .i64 m] 3)) g).go hb3
    have hs3 := hb23.size
    clear hc0 hN0 hb3
    go_wp2_with fail
    have hN0 : (w3.alloc (.cells #[.int .i64 0, .int .i64 6] 3)).heap.size = w3.heap.size + 1 := size_alloc_ _ _
    have hc0 : ∀ i x, ([0, 6] : List Int)[i]? = some x → (w3.alloc (.cells #[.int .i64 0, .int .i64 6] 3)).cell? ⟨w3.heap.size, i, none⟩ = some (.int .i64 x) := fun i x hx => by
      rw [World.cell?_alloc_at _ _ _ _ rfl]
      match i, hx with
      | 0, hx => simp at hx; subst hx; rfl
      | 1, hx => simp at hx; subst hx; rfl
      | i + 2, hx => simp at hx
    refine (one base g n c (q + 1 + 1) w3.heap.size 2 2 A bs [0, 6] _ (hr3.under (b_alloc _ _) (by omega)) (by omega) rfl (by omega) (by omega) (by omega) (by omega) hc0).mono ?_
    rintro e w4 ⟨x2, rfl, -, hr4, hb4⟩
    have hb24 := hb23.go ((below_butG (b_alloc w3 (.cells #[.int .i64 0, .int .i64 6] 3)) g).go hb4)
    have hs4 := hb24.size
    have ho4 := own_butG ho2 hb24 (by omega)
    have hB4 := hB2.go hb24
    have olit : (w4.alloc (.cells #[.int .i64 x1, .int .i64 x2, .bool false] 30)).ownsRow w4.heap.size 30 3 (.slice (some ⟨w4.heap.size, 0, none⟩) 1 1) 1 [.int .i64 x1, .int .i64 x2, .bool false] := World.ownsRow_lit w4 #[.int .i64 x1, .int .i64 x2, .bool false] 1 (Nat.le_refl _) (by decide) rfl
    have hsl := src_own olit
    clear hc0 hN0 hb4 hb23 hr2 hr3 ho2 hB2 hb24 olit
    go_wp2_with (at_builtin; refine wpList_append_any rfl _ _ 26 rfl w.heap.size 30 i0 _ 3 24 Try.underlying26 hi0 hz0 hz1 hz2 rfl (by decide) (.slice (some ⟨gx, 0, none⟩) xs.length cx) _ _ rfl (own_below ho4 (b_alloc _ _)) _ _ _ _ rfl hsl (by simp [Value.oneCell']) (by unfold maxLen; omega) (by omega) (by rw [size_alloc_]; omega) ?_; intro v5 w5 ho5 hb5 hg5 hnn5)
    have hb45 : Below w.heap.size w4 w5 := ((Below.refl _ _).alloc (by omega) _).trans hb5
    go_ret
    exact ⟨v5, xs ++ [⟨x1, x2, false⟩], _, rfl, hnn5 (by simp), by simp; omega, by omega, by rw [List.flatMap_append, List.length_append]; exact ho5, hr4.under hb45 hg, hB4.trans (below_butG hb45 g)⟩
  · by_cases h1 : r = 1
    · subst h1
      by_cases hl : 1 < xs.length
      · obtain ⟨nx, hnx⟩ : ∃ nx, xs.length = nx := ⟨_, rfl⟩
        rw [hnx] at ho2 hl hxl hcx ⊢
        obtain ⟨x0, hx0⟩ : ∃ x0, xs[0]? = some x0 := ⟨_, List.getElem?_eq_getElem (by omega)⟩
        obtain ⟨c0, c1, c2⟩ := own_lit ho2 hx0
        rw [Nat.zero_mul] at c0 c1 c2
        have HX0 := Lib.hid hx0
        have HNX := Lib.hid hnx
        clear hx0 hnx
        have hxi : (1 : Int) < (nx : Int) := by omega
        have hx0i : (0 : Int) < (nx : Int) := by omega
        have hxnn : 0 < nx := by omega
        have hx1i : (1 : Int) ≤ (nx : Int) := by omega
        have hci : (nx : Int) ≤ (cx : Int) := by omega
        have hcx1 : ¬ (cx = 1) := by omega
        have hgx2 : gx < w2.heap.size := by omega
        have hw2s : w.heap.size ≤ w2.heap.size := by omega
        have kE : ∀ W : World, w2.heap.size ≤ W.heap.size → (W.alloc (.cells #[] 30)).ownsRow w2.heap.size 30 3 (.slice (some ⟨W.heap.size, 0, none⟩) 0 0) 0 [] := fun W hW => World.ownsRow_lit W #[] 0 hW (by decide) rfl
        have kO : ∀ W : World, w2.heap.size ≤ W.heap.size → (W.alloc (.cells #[.int .i64 x0.var, .int .i64 x0.val, .bool x0.neg] 30)).ownsRow w2.heap.size 30 3 (.slice (some ⟨W.heap.size, 0, none⟩) 1 1) 1 [.int .i64 x0.var, .int .i64 x0.val, .bool x0.neg] := fun W hW => World.ownsRow_lit W #[.int .i64 x0.var, .int .i64 x0.val, .bool x0.neg] 1 hW (by decide) rfl
        have b1 : Below w2.heap.size w2 (w2.alloc (.cells #[] 30)).drew := (b_alloc w2 _).drew
        have b2 : Below w2.heap.size w2 ((w2.alloc (.cells #[] 30)).alloc (.cells #[.int .i64 x0.var, .int .i64 x0.val, .bool x0.neg] 30)).drew := (b_alloc2 w2 _ _).drew
        have b3 : Below w2.heap.size w2 ((w2.alloc (.cells #[.int .i64 x0.var, .int .i64 x0.val, .bool x0.neg] 30)).alloc (.cells #[] 30)).drew := (b_alloc2 w2 _ _).drew
        have k1 := (kE w2 (Nat.le_refl _)).drew
        have k2 := (own_below (kE w2 (Nat.le_refl _)) (b_alloc _ (.cells #[.int .i64 x0.var, .int .i64 x0.val, .bool x0.neg] 30))).drew
        have k3 : ((w2.alloc (.cells #[.int .i64 x0.var, .int .i64 x0.val, .bool x0.neg] 30)).alloc (.cells #[] 30)).drew.ownsRow w2.heap.size 30 3 (.slice (some ⟨w2.heap.size + 1, 0, none⟩) 0 0) 0 [] := by
          have := (kE (w2.alloc (.cells #[.int .i64 x0.var, .int .i64 x0.val, .bool x0.neg] 30)) (le_alloc _ _)).drew
          rw [size_alloc_] at this
          exact this
        have o2 : ((w2.alloc (.cells #[] 30)).alloc (.cells #[.int .i64 x0.var, .int .i64 x0.val, .bool x0.neg] 30)).drew.ownsRow w2.heap.size 30 3 (.slice (some ⟨w2.heap.size + 1, 0, none⟩) 1 1) 1 [.int .i64 x0.var, .int .i64 x0.val, .bool x0.neg] := by
          have := (kO (w2.alloc (.cells #[] 30)) (le_alloc _ _)).drew
          rw [size_alloc_] at this
          exact this
        have o3 := (own_below (kO w2 (Nat.le_refl _)) (b_alloc _ (.cells #[] 30))).drew
        have K1 := Lib.hid k1
        have K2 := Lib.hid k2
        have K3 := Lib.hid k3
        have O2 := Lib.hid o2
        have O3 := Lib.hid o3
        have B1 := Lib.hid b1
        have B2 := Lib.hid b2
        have B3 := Lib.hid b3
        have KO := Lib.hid kO
        have HO2 := Lib.hid ho2
        have HB2 := Lib.hid hB2
        have HR2 := Lib.hid hr2
        clear k1 k2 k3 o2 o3 b1 b2 b3 kO kE ho2 hB2 hr2 h0
        go_wp2_with fail
        go_region_held3 (fun w' => w'.cell? ⟨gx, 0, none⟩ = some (.int .i64 x0.var) ∧ w'.cell? ⟨gx, 1, none⟩ = some (.int .i64 x0.val) ∧ w'.cell? ⟨gx, 2, none⟩ = some (.bool x0.neg))
          (first | go_keep | exact ⟨(t3.cell (p := ⟨gx, _, none⟩) hgx2).trans c0, (t3.cell (p := ⟨gx, _, none⟩) hgx2).trans c1, (t3.cell (p := ⟨gx, _, none⟩) hgx2).trans c2⟩ | exact ⟨(t4.cell (p := ⟨gx, _, none⟩) hgx2).trans c0, (t4.cell (p := ⟨gx, _, none⟩) hgx2).trans c1, (t4.cell (p := ⟨gx, _, none⟩) hgx2).trans c2⟩)
          (first | (refine step_append_any (by rfl) _ _ 26 (by rfl) w2.heap.size 30 i0 _ 3 24 Try.underlying26 hi0 hz0 hz1 hz2 rfl (by omega) (.slice (some ⟨w2.heap.size, 0, none⟩) 0 0) 0 [] (by rfl) K1.out (some ⟨gx, 3, none⟩) (nx - 1) ((xs.flatMap ltlCs).drop 3) (by exact ⟨_, rfl, src_drop (k := 1) (own_below HO2.out B1.out) (by omega)⟩) (fun u hu => lits_one xs u (List.mem_of_mem_drop hu)) (by unfold maxLen; omega) (by omega) (by simp <;> omega) ?_; intro v3 w3 ho3 hb3 hg3 hn3; have t3 := B1.out.trans hb3) | (refine step_append_any (by rfl) _ _ 26 (by rfl) w2.heap.size 30 i0 _ 3 24 Try.underlying26 hi0 hz0 hz1 hz2 rfl (by omega) (.slice (some ⟨w2.heap.size, 0, none⟩) 0 0) 0 [] (by rfl) K2.out (some ⟨gx, 3, none⟩) (nx - 1) ((xs.flatMap ltlCs).drop 3) (by exact ⟨_, rfl, src_drop (k := 1) (own_below HO2.out B2.out) (by omega)⟩) (fun u hu => lits_one xs u (List.mem_of_mem_drop hu)) (by unfold maxLen; omega) (by omega) (by simp <;> omega) ?_; intro v3 w3 ho3 hb3 hg3 hn3; have t3 := B2.out.trans hb3; have o5 := own_far O2.out hg3 (by simp [Value.ownBlock])) | (refine step_append_any (by rfl) _ _ 26 (by rfl) w2.heap.size 30 i0 _ 3 24 Try.underlying26 hi0 hz0 hz1 hz2 rfl (by omega) (.slice (some ⟨w2.heap.size + 1, 0, none⟩) 0 0) 0 [] (by rfl) K3.out (some ⟨gx, 3, none⟩) (nx - 1) ((xs.flatMap ltlCs).drop 3) (by exact ⟨_, rfl, src_drop (k := 1) (own_below HO2.out B3.out) (by omega)⟩) (fun u hu => lits_one xs u (List.mem_of_mem_drop hu)) (by unfold maxLen; omega) (by omega) (by simp <;> omega) ?_; intro v3 w3 ho3 hb3 hg3 hn3; have t3 := B3.out.trans hb3; have o5 := own_far O3.out hg3 (by simp [Value.ownBlock])) | (refine step_append_any (by rfl) _ _ 26 (by rfl) w2.heap.size 30 i0 _ 3 24 Try.underlying26 hi0 hz0 hz1 hz2 rfl (by omega) v3 _ _ (by rfl) (own_below ho3 (b_alloc w3 (.cells #[.int .i64 x0.var, .int .i64 x0.val, .bool x0.neg] 30))) (some ⟨w3.heap.size, 0, none⟩) 1 [.int .i64 x0.var, .int .i64 x0.val, .bool x0.neg] (by exact ⟨_, rfl, src_own (KO.out w3 t3.size)⟩) (by simp [Value.oneCell']) (by unfold maxLen; omega) (by omega) (Nat.le_trans t3.size (le_alloc _ _)) ?_; intro v4 w4 ho4 hb4 hg4 hn4; have t4 := (t3.trans ((b_alloc w3 (.cells #[.int .i64 x0.var, .int .i64 x0.val, .bool x0.neg] 30)).mono t3.size)).trans hb4) | (refine step_append_any (by rfl) _ _ 26 (by rfl) w2.heap.size 30 i0 _ 3 24 Try.underlying26 hi0 hz0 hz1 hz2 rfl (by omega) v3 _ _ (by rfl) ho3 _ 1 [.int .i64 x0.var, .int .i64 x0.val, .bool x0.neg] (by exact ⟨_, rfl, src_own o5⟩) (by simp [Value.oneCell']) (by unfold maxLen; omega) (by omega) t3.size ?_; intro v4 w4 ho4 hb4 hg4 hn4; have t4 := t3.trans hb4))
        all_goals
          have hl2 : (xs.drop 1 ++ [x0]).length = 0 + (nx - 1) + 1 := by have := HNX.out; simp; omega
          have hfl : (xs.drop 1 ++ [x0]).flatMap ltlCs = [] ++ (xs.flatMap ltlCs).drop 3 ++ [.int .i64 x0.var, .int .i64 x0.val, .bool x0.neg] := by
            rw [List.flatMap_append, ← lits_drop xs 1]
            rfl
          have hr4 := HR2.out.under t4 (by omega)
          have hB4 := HB2.out.go (below_butG t4 g)
          have ho5 : w4.ownsRow w.heap.size 30 3 v4 (xs.drop 1 ++ [x0]).length ((xs.drop 1 ++ [x0]).flatMap ltlCs) := by rw [hl2, hfl]; exact own_base ho4 hw2s
          have HO5 := Lib.hid ho5
          have hnn4 := Lib.hid (hn4 (hn3 (by simp)))
          have hl3 : (xs.drop 1 ++ [x0]).length ≤ 4 := by omega
          clear hl2 hfl ho5 t3 t4 ho3 ho4 hb3 hb4 hg3 hg4
          go_wp2_with fail
          go_ret
          exact ⟨v4, xs.drop 1 ++ [x0], _, rfl, hnn4.out, hl3, by omega, HO5.out, hr4, hB4⟩
      · go_wp2_with fail
        go_ret
        exact ⟨_, xs, _, rfl, by simp, by omega, by omega, ho2, hr2, hB2⟩
    · have hb0 : (r == 0) = false := by simpa using h0
      have hb1 : (r == 1) = false := by simpa using h1
      go_wp2_with fail
      go_ret
      exact ⟨_, xs, _, rfl, by simp, by omega, by omega, ho2, hr2, hB2⟩
end Go.Proofs.Ytjkgndedffildaa
