/- The text of a number, and of a list of numbers: plain, and spec's functions. -/
import Derived.Test.YtfoodlhfmcfjeaaDoorStrS
namespace Go.Proofs.YtfoodlhfmcfjeaaDoor
open Go.ChangeShapes Go.WideShapes Go.ChangeAt Go.RowKit
open Go.Shelf
set_option linter.unusedVariables false
set_option linter.unusedSimpArgs false
set_option maxRecDepth 100000

theorem decD_small {n : Nat} (h : n < 10) : Lib.decDigits n = dig n := by rw [Lib.decDigits, dif_pos h]; rfl
theorem decD_big {n : Nat} (h : ¬ n < 10) : Lib.decDigits n = Lib.decDigits (n / 10) ++ dig (n % 10) := by rw [Lib.decDigits, dif_neg h]; rfl
theorem decD_len : ∀ f n : Nat, n < 10 ^ (f + 1) → 1 ≤ (Lib.decDigits n).length ∧ (Lib.decDigits n).length ≤ f + 1
  | 0, n, h => by rw [decD_small (by omega)]; simp [dig]
  | f + 1, n, h => by
    by_cases h1 : n < 10
    · rw [decD_small h1]; simp [dig]
    · have := decD_len f (n / 10) (by rw [Nat.div_lt_iff_lt_mul (by omega)]; rw [Nat.pow_succ] at h; exact h)
      rw [decD_big h1, List.length_append]
      simp only [dig, List.length_singleton]
      omega
theorem itoa_nat (n : Nat) : Lib.itoa (n : Int) = Lib.decDigits n := by unfold Lib.itoa; rw [if_neg (by omega)]; simp
theorem itoa_neg {n : Int} (h : n < 0) : Lib.itoa n = 45 :: Lib.decDigits n.natAbs := by unfold Lib.itoa; rw [if_pos h]
theorem itoa_len {n : Int} (h0 : -999 ≤ n) (h1 : n ≤ 999) : 1 ≤ (Lib.itoa n).length ∧ (Lib.itoa n).length ≤ 4 := by
  by_cases h : n < 0
  · rw [itoa_neg h, List.length_cons]
    have := decD_len 2 n.natAbs (by omega)
    omega
  · obtain ⟨k, rfl⟩ := Int.eq_ofNat_of_zero_le (by omega : 0 ≤ n)
    rw [itoa_nat]
    have := decD_len 2 k (by omega)
    omega
/-- the text of a list of numbers. -/
def joinI (xs : List Int) : List UInt8 := Lib.join (xs.map Lib.itoa) [44]
def listF (xs : List Int) : List UInt8 := if xs = [] then [45] else joinI xs
/-- small numbers. -/
def Sm9 (xs : List Int) : Prop := ∀ x ∈ xs, -999 ≤ x ∧ x ≤ 999
theorem joinI_nil : joinI [] = [] := rfl
theorem joinI_snoc (xs : List Int) (x : Int) : joinI (xs ++ [x]) = (if xs = [] then [] else joinI xs ++ [44]) ++ Lib.itoa x := by
  unfold joinI
  cases xs with
  | nil => simp [Lib.join_one]
  | cons y r =>
    rw [if_neg (by simp), List.map_append, List.map_cons, List.cons_append, Lib.join_cons, Lib.join_cons]
    simp [Lib.joinTail, List.append_assoc]
theorem joinI_len : ∀ {xs : List Int}, Sm9 xs → (joinI xs).length ≤ 5 * xs.length ∧ (xs ≠ [] → joinI xs ≠ [])
  | [], _ => by simp [joinI, Lib.join_nil]
  | x :: r, h => by
    unfold joinI
    rw [List.map_cons, Lib.join_cons, List.length_append, Lib.joinTail_length]
    have h1 := itoa_len (h x (by simp)).1 (h x (by simp)).2
    have h2 : ∀ l : List Int, (∀ y ∈ l, -999 ≤ y ∧ y ≤ 999) → Lib.lens (l.map Lib.itoa) ≤ 4 * l.length := by
      intro l
      induction l with
      | nil => intro _; simp [Lib.lens]
      | cons z t ih =>
        intro hh
        have := ih (fun y hy => hh y (by simp [hy]))
        have h3 := itoa_len (hh z (by simp)).1 (hh z (by simp)).2
        simp only [Lib.lens, List.map_cons, List.sum_cons, List.length_cons] at this ⊢
        omega
    have h4 := h2 r (fun y hy => h y (by simp [hy]))
    refine ⟨by simp only [List.length_map, List.length_cons, List.length_nil]; omega, fun _ e => ?_⟩
    have := congrArg List.length e
    rw [List.length_append] at this
    simp only [List.length_nil] at this
    omega
theorem listF_len {xs : List Int} (h : Sm9 xs) : (listF xs).length ≤ 5 * xs.length + 1 := by
  unfold listF
  split
  · simp
  · have := (joinI_len h).1; omega
theorem conv_digW (W : World) (g : Nat) (v : Nat) (hv : v < 10) (h : W.cell? ⟨g, 0, none⟩ = some (.int .u8 (48 + (v : Int)))) : (convert 40 9 (.slice (some ⟨g, 0, none⟩) 1 1)).run Tryd.prog W = .ok ((.string (bs (dig v)))) W := by
  refine run_convert_bytes_back _ _ _ 5 _ 1 (dig v) Tryd.underlying40 Tryd.underlying5 Tryd.underlying9 ?_
  intro j hj
  have h1 : j < 1 := hj
  obtain rfl : j = 0 := by omega
  rw [dig_cell v hv]
  exact h
set_option maxHeartbeats 1500000 in
theorem sfmtNat : ∀ (f n : Nat) (w : World), n < 10 ^ (f + 1) → n ≤ 999 →
    Calls Tryd.prog 45 #[.int .i64 n] w fun e w' => e = .returned (.string (bs (Lib.decDigits n))) ∧ Below w.heap.size w w' := by
  intro f
  induction f with
  | zero =>
    intro n w hn h9
    rw [decD_small (by omega)]
    exact formatInt1 n (by omega) w
  | succ f ih =>
    intro n w hn h9
    by_cases h10 : n < 10
    · rw [decD_small h10]
      exact formatInt1 n h10 w
    have hn2 : n / 10 < 10 ^ (f + 1) := by rw [Nat.div_lt_iff_lt_mul (by omega)]; rw [Nat.pow_succ] at hn; exact hn
    have HIH := Lib.hid (fun W : World => ih (n / 10) W hn2 (by omega))
    have HD := Lib.hid (decD_big h10)
    obtain ⟨q, hq⟩ : ∃ q, n / 10 = q := ⟨_, rfl⟩
    obtain ⟨r, hr⟩ : ∃ r, n % 10 = r := ⟨_, rfl⟩
    have hr10 : r < 10 := by omega
    have h1 : decide ((n : Int) < -9223372036854775807) = false := decide_eq_false (by omega)
    have h2 : decide ((n : Int) < 0) = false := decide_eq_false (by omega)
    have h3 : decide ((n : Int) < 10) = false := decide_eq_false (by omega)
    have h3' : decide (n < 10) = false := decide_eq_false (by omega)
    have e1 : (n : Int).tdiv 10 = (q : Int) := by rw [Int.tdiv_eq_ediv_of_nonneg (by omega)]; omega
    have e2 : (n : Int).tmod 10 = (r : Int) := by rw [Int.tmod_eq_emod_of_nonneg (by omega)]; omega
    have e3 : (n : Int) / 10 = (q : Int) := by omega
    have e4 : (n : Int) % 10 = (r : Int) := by omega
    rw [hq, hr] at HD
    rw [hq] at HIH
    have hqn : q ≤ 99 := by omega
    have HL := Lib.hid (show (bs (Lib.decDigits q)).size ≤ 4 by rw [bs_size]; have := (decD_len 2 q (by omega)).2; omega)
    clear hq hr ih hn hn2
    have hw1 : IntKind.i64.wrap (q : Int) = (q : Int) := by rw [IntKind.wrap_i64]; omega
    have hw2 : IntKind.i64.wrap (48 + (r : Int)) = 48 + (r : Int) := by rw [IntKind.wrap_i64]; omega
    have hw3 : IntKind.u8.wrap (48 + (r : Int)) = 48 + (r : Int) := by simp [IntKind.wrap, IntKind.bits]; omega
    have hs1 := HL.out
    have hs2 : (bs (dig r)).size = 1 := by rw [bs_size]; rfl
    have hs3 : ¬ (9223372036854775807 < (bs (Lib.decDigits q)).size + 1) := by omega
    obtain ⟨WL, hWL⟩ : ∃ WL, w.drew.alloc (.cells #[.int .u8 (48 + (r : Int))] 5) = WL := ⟨_, rfl⟩
    have hbd : Below w.heap.size w w.drew := below_drewN (Below.refl _ _) 1
    have hbL : Below w.heap.size w WL := by rw [← hWL]; exact hbd.trans ((b_alloc w.drew _).mono hbd.size)
    have TL : TBlk 5 WL w.heap.size #[.int .u8 (48 + (r : Int))] := by rw [← hWL]; exact TBlk.new w.drew _ _
    have hcvL := conv_digW WL w.heap.size r hr10 (TL.at_ 0 rfl)
    have HTL := Lib.hid TL
    clear TL
    go_enter Tryd.func45, Tryd.ntmps45
    go_wp2_with fail
    go_region_law (first
      | (go_simp
         go_at_call 45
         with_reducible refine (HIH.out w.drew).mono ?_
         rintro e W6 ⟨rfl, b6⟩
         obtain ⟨V6, hV6⟩ : ∃ V6, W6.alloc (.cells #[.int .u8 (48 + (r : Int))] 5) = V6 := ⟨_, rfl⟩
         have T6 : TBlk 5 V6 W6.heap.size #[.int .u8 (48 + (r : Int))] := by rw [← hV6]; exact TBlk.new _ _ _
         have hcv6 := conv_digW V6 W6.heap.size r hr10 (T6.at_ 0 rfl)
         have hbF : Below w.heap.size w V6 := by rw [← hV6]; exact (hbd.trans (b6.mono hbd.size)).trans ((b_alloc W6 _).mono b6.size)
         clear T6)
      | (go_simp
         go_at_call 45
         with_reducible refine (HIH.out WL).mono ?_
         rintro e W6 ⟨rfl, b6⟩
         have hcv6 := conv_digW W6 w.heap.size r hr10 ((HTL.out.below_ b6 HTL.out.lt).at_ 0 rfl)
         have hbF : Below w.heap.size w W6 := hbL.trans (b6.mono hbL.size)))
    all_goals
      go_wp2_with fail
      go_ret
      exact ⟨(by rw [HD.out, ← bs_app] : Ending.returned (.string (bs (Lib.decDigits q) ++ bs (dig r))) = .returned (.string (bs (Lib.decDigits n)))), hbF⟩
set_option maxHeartbeats 1500000 in
theorem sfmt (n : Int) (w : World) (h0 : -999 ≤ n) (h1 : n ≤ 999) :
    Calls Tryd.prog 45 #[.int .i64 n] w fun e w' => e = .returned (.string (bs (Lib.itoa n))) ∧ Below w.heap.size w w' := by
  by_cases hn : n < 0
  · have HE := Lib.hid (itoa_neg hn)
    obtain ⟨k, hk⟩ : ∃ k, n.natAbs = k := ⟨_, rfl⟩
    rw [hk] at HE
    have hw : IntKind.i64.wrap (-n) = (k : Int) := by rw [IntKind.wrap_i64]; omega
    have h2 : decide (n < -9223372036854775807) = false := decide_eq_false (by omega)
    have h3 : decide (n < 0) = true := decide_eq_true hn
    have hs1 : (bs (Lib.decDigits k)).size ≤ 4 := by rw [bs_size]; have := (decD_len 2 k (by omega)).2; omega
    have hk9 : k ≤ 999 := by omega
    clear hk hn
    go_enter Tryd.func45, Tryd.ntmps45
    go_wp2_with fail
    refine (sfmtNat 2 k w (by omega) hk9).mono ?_
    rintro e w1 ⟨rfl, hb⟩
    go_wp2_with fail
    go_ret
    exact ⟨(by rw [HE.out, show (⟨#[45]⟩ : ByteArray) = bs [45] from rfl, bs_app]; rfl : Ending.returned (.string (⟨#[45]⟩ ++ bs (Lib.decDigits k))) = .returned (.string (bs (Lib.itoa n)))), hb⟩
  · obtain ⟨k, rfl⟩ := Int.eq_ofNat_of_zero_le (by omega : 0 ≤ n)
    rw [itoa_nat]
    exact sfmtNat 2 k w (by omega) (by omega)
set_option maxHeartbeats 1500000 in
theorem sformatInts (A : Option Addr) (n c : Nat) (xs : List Int) (w : World) (h : IntR w w.heap.size A n xs) (h9 : Sm9 xs) (hl : xs.length ≤ 1048576) :
    Calls Tryd.prog 47 #[.slice A n c] w fun e w' => e = .returned (.string (bs (listF xs))) ∧ Below w.heap.size w w' := by
  have hn : xs.length = n := h.len
  have HX := Lib.hid h
  have H9 := Lib.hid h9
  have HN := Lib.hid hn
  have HT : Hid (∀ k, (joinI (xs.take k)).length ≤ 5 * 1048576) := fun k => by
    have h2 : Sm9 (xs.take k) := fun x hx => h9 x (List.mem_of_mem_take hx)
    have := (joinI_len h2).1
    have h3 : (xs.take k).length ≤ xs.length := by rw [List.length_take]; omega
    omega
  have HNE : Hid (∀ k, 0 < k → k ≤ n → joinI (xs.take k) ≠ []) := fun k hk hkn => (joinI_len (xs := xs.take k) (fun x hx => h9 x (List.mem_of_mem_take hx))).2 (fun e => by
    have := congrArg List.length e
    rw [List.length_take] at this
    simp only [List.length_nil] at this
    omega)
  have hnn : n ≤ 1048576 := by omega
  clear h h9 hn hl
  go_enter Tryd.func47, Tryd.ntmps47
  go_wp2_with fail
  go_loopw [3, 4] (fun v i wr => ∃ k : Nat, k ≤ n ∧ i = .int .i64 k ∧ v = .string (bs (joinI (xs.take k))) ∧ Below w.heap.size w wr) (fun _ i _ => n - (intOf i).toNat)
  case atStart => exact ⟨0, by omega, rfl, rfl, Below.refl _ _⟩
  case round =>
    obtain ⟨k, hk, rfl, rfl, hb⟩ := hrel
    rename World => wr
    by_cases hlt : k < n
    · obtain ⟨ab, ao, x, u, rfl, hab, hxk, hcx, rfl⟩ := SlR.at_ (SlR.on IntC.keeps IntC.widens HX.out hb) hlt
      have hx9 := H9.out x (List.mem_of_getElem? hxk)
      have HS := Lib.hid (show joinI (xs.take (k + 1)) = (if xs.take k = [] then [] else joinI (xs.take k) ++ [44]) ++ Lib.itoa x by rw [← joinI_snoc, List.take_add_one, hxk]; rfl)
      have hs1 : (bs (joinI (xs.take k))).size ≤ 5 * 1048576 := by rw [bs_size]; exact HT.out k
      have hs2 : (bs (Lib.itoa x)).size ≤ 4 := by rw [bs_size]; exact (itoa_len hx9.1 hx9.2).2
      have hg1 : decide ((k : Int) < (n : Int)) = true := decide_eq_true (by omega)
      by_cases hk0 : k = 0
      · have hgk : decide ((0 : Int) < (k : Int)) = false := decide_eq_false (by omega)
        have hgk' : decide (0 < k) = false := decide_eq_false (by omega)
        have HE := Lib.hid (show bs (joinI (xs.take k)) ++ bs (Lib.itoa x) = bs (joinI (xs.take (k + 1))) by rw [HS.out, hk0, bs_app]; rfl)
        clear hxk hk0
        go_wp2_with fail
        refine (sfmt x _ hx9.1 hx9.2).mono ?_
        rintro e w1 ⟨rfl, hb1⟩
        go_wp2_with fail
        go_roundw
        case rel => exact ⟨k + 1, by omega, by go_num, by rw [← HE.out], hb.trans (hb1.mono hb.size)⟩
        case measure => simp [intOf]; omega
      · have hgk : decide ((0 : Int) < (k : Int)) = true := decide_eq_true (by omega)
        have hgk' : decide (0 < k) = true := decide_eq_true (by omega)
        have hte : ¬ (xs.take k = []) := fun e => HNE.out k (by omega) hk (by rw [e]; rfl)
        have HE := Lib.hid (show bs (joinI (xs.take k)) ++ ⟨#[44]⟩ ++ bs (Lib.itoa x) = bs (joinI (xs.take (k + 1))) by
          rw [HS.out, if_neg hte, show (⟨#[44]⟩ : ByteArray) = bs [44] from rfl, bs_app, bs_app])
        clear hxk hte
        go_wp2_with fail
        refine (sfmt x _ hx9.1 hx9.2).mono ?_
        rintro e w1 ⟨rfl, hb1⟩
        go_wp2_with fail
        go_roundw
        case rel => exact ⟨k + 1, by omega, by go_num, by rw [← HE.out], hb.trans (hb1.mono hb.size)⟩
        case measure => simp [intOf]; omega
    · obtain rfl : k = n := by omega
      have hg1 : decide ((k : Int) < (k : Int)) = false := decide_eq_false (by omega)
      have htk : xs.take k = xs := by rw [← HN.out]; exact List.take_length
      by_cases hk0 : k = 0
      · have hx0 : xs = [] := List.eq_nil_of_length_eq_zero (by rw [HN.out]; exact hk0)
        have HF := Lib.hid (show listF xs = [45] by unfold listF; rw [if_pos hx0])
        have hem : (bs (joinI (xs.take k))).toList.isEmpty = true := by rw [htk, hx0, bs_list]; rfl
        clear htk hx0 hk0
        go_wp2_with fail
        go_ret
        exact ⟨by rw [HF.out]; rfl, hb⟩
      · have hne := HNE.out k (by omega) (Nat.le_refl _)
        have HF := Lib.hid (show bs (listF xs) = bs (joinI (xs.take k)) by rw [htk]; unfold listF; rw [if_neg (fun e => by rw [e] at htk; rw [← HN.out, e] at hk0; exact hk0 rfl)])
        have hem : (bs (joinI (xs.take k))).toList.isEmpty = false := by rw [bs_list]; cases h : joinI (xs.take k) with
          | nil => exact absurd h hne
          | cons _ _ => rfl
        clear htk hne
        go_wp2_with fail
        go_ret
        exact ⟨by first | (rw [HF.out]; done) | (rw [HF.out]; rfl) | (simp [HF.out]; done), hb⟩
end Go.Proofs.YtfoodlhfmcfjeaaDoor
