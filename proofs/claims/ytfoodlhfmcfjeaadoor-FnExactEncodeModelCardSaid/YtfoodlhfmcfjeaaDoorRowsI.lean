/- Slices of slices of ints: copies, comparisons, sizes. -/
import Derived.Test.YtfoodlhfmcfjeaaDoorInts
namespace Go.Proofs.YtfoodlhfmcfjeaaDoor
open Go.ChangeShapes Go.WideShapes Go.ChangeAt Go.RowKit
open Go.Shelf
set_option linter.unusedVariables false
set_option maxRecDepth 100000

theorem toIntS_own (A : Option Addr) (n c : Nat) (xs : List Int) (w : World) (h : SlA IntC w w.heap.size A n xs) (hn : n ≤ 1048576) :
    Calls Tryd.prog 13 #[.slice A n c] w fun e w' => ∃ v, e = .returned v ∧ OwnI 3 w' w.heap.size v xs ∧ Below w.heap.size w w' :=
  (toIntS A n c xs w h hn).mono fun e w' ⟨v, he, ho, hb⟩ => ⟨v, he, ⟨by rw [h.len]; exact ho, by rw [h.len]; omega⟩, hb⟩
theorem toIntSS (A : Option Addr) (n c : Nat) (xs : List (List Int)) (w : World) (h : SlA (RowA IntC) w w.heap.size A n xs) (hn : n ≤ 1048576) (hs : ∀ x ∈ xs, x.length ≤ 1048576) :
    Calls Tryd.prog 48 #[.slice A n c] w fun e w' => ∃ v, e = .returned v ∧ OwnOf 22 (OwnI 3) w' w.heap.size v xs ∧ Below w.heap.size w w' := by
  obtain ⟨i0, hi0, hz0, hz1, hz2⟩ := info_parts (P := Tryd.prog) (e := 22) (z := .slice none 0 0) (size := 1) (bytes := 24) (by kernel_rfl)
  have HS := Lib.hid hs
  clear hs
  go_enter Tryd.func48, Tryd.ntmps48
  go_wp2_with (refine wpList_make_full _ rfl (.tmp 6) (.tmp 6) _ rfl w.heap.size 22 i0 _ 1 Tryd.underlying48 hi0 hz0 hz1 .i64 .i64 n n n rfl rfl rfl rfl (by rw [hz2]; omega) (by unfold maxLen; omega) (Nat.le_refl _) ?_; intro w1 hown hgr)
  have hb1 : Below w.heap.size w w1 := (Below.refl _ _).grown hgr (Nat.le_refl _) (by simp)
  have hlen := Lib.hid h.len
  have hown' : w1.ownsRow w.heap.size 22 1 (.slice (some ⟨w.heap.size, 0, none⟩) n n) n ([] ++ List.replicate (n - 0) (.slice none 0 0)) := by
    have e : (madeCells (Value.slice none 0 0).cells (n * 1)).toList = List.replicate n (.slice none 0 0) := by rw [Nat.mul_one]; exact toList_madeCells_one _ _
    rw [List.nil_append, Nat.sub_zero, ← e]; exact hown
  clear hown hgr
  go_loopw [4] (fun i wr => ∃ k : Nat, k ≤ n ∧ i = .int .i64 k ∧ Hid (∃ us : List Value, us.length = k ∧ wr.ownsRow w.heap.size 22 1 (.slice (some ⟨w.heap.size, 0, none⟩) n n) n (us ++ List.replicate (n - k) (.slice none 0 0)) ∧ ∀ (i : Nat) u x, us[i]? = some u → xs[i]? = some x → (OwnI 3) wr w.heap.size u x) ∧ Below w.heap.size w wr) (fun i _ => n - (intOf i).toNat)
  case atStart => exact ⟨0, by omega, rfl, ⟨[], rfl, hown', fun i u x hu => by simp at hu⟩, hb1⟩
  case round =>
    obtain ⟨k, hk, rfl, hq, hb⟩ := hrel
    clear hown' hb1
    obtain ⟨us, hul, ho, hin⟩ := hq.out
    by_cases hlt : k < n
    · obtain ⟨ad, x, u, rfl, hab, hxk, hcx, A', c', rfl, hx⟩ := SlA.at_ (h.below (RowA.keeps IntC.keeps) hb) hlt
      have hxm : x ∈ xs := List.mem_of_getElem? hxk
      have hsm := HS.out x hxm
      have HSM := Lib.hid hsm
      have HX := Lib.hid hxk
      have HU := Lib.hid hul
      have HO := Lib.hid ho
      have HI := Lib.hid hin
      clear hxk hq hul ho hin hsm
      go_wp2_with fail
      refine (toIntS_own A' _ c' x wr (hx.more IntC.widens hb.size) HSM.out).mono ?_
      rintro e w2 ⟨v, rfl, hv, hb2⟩
      have ho2 := own_below HO.out hb2
      have hco := ho2.cellAt k (by omega)
      rw [fillU_at HU.out hlt] at hco
      have hfo := ho2.frozenAt k
      obtain ⟨cur, hblk⟩ := own_block ho2
      have ho3 := (ho2.stored k v).1
      rw [fillU_set HU.out hlt] at ho3
      have hb3 : Below w.heap.size w (w2.setCell ⟨w.heap.size, k, none⟩ v) := (bgo hb hb2).setCell (by simp) _
      have hin3 : ∀ (i : Nat) u x, (us ++ [v])[i]? = some u → xs[i]? = some x → (OwnI 3) (w2.setCell ⟨w.heap.size, k, none⟩ v) w.heap.size u x := by
        intro i u y hu hy
        rcases Nat.lt_or_ge i k with hi | hi
        · rw [List.getElem?_append_left (by rw [HU.out]; exact hi)] at hu
          exact OwnI.shuns (t := 22) (by decide) _ _ _ _ _ k _ _ v hblk ((OwnI.stays 3).below _ _ _ _ _ hb2 (HI.out i u y hu hy))
        · have hik : i = k := by
            rcases Nat.lt_or_ge i (k + 1) with h1 | h1
            · omega
            · rw [List.getElem?_eq_none (by simp [HU.out]; omega)] at hu; cases hu
          subst hik
          rw [List.getElem?_append_right (by rw [HU.out]; omega), HU.out, Nat.sub_self] at hu
          simp at hu
          subst hu
          rw [HX.out] at hy
          injection hy with hy
          subst hy
          exact OwnI.shuns (t := 22) (by decide) _ _ _ _ _ i _ _ v hblk ((OwnI.stays 3).base _ _ _ _ _ hb.size hv)
      have hvs : ∃ A c, v = .slice A x.length c := by obtain ⟨A, c, e, _⟩ := hv.read; exact ⟨A, c, e⟩
      obtain ⟨A2, c2, rfl⟩ := hvs
      have HC := Lib.hid ho3
      have HD := Lib.hid hin3
      clear ho2 ho3 hin3 hblk hv
      go_wp2_with fail
      go_roundw
      case rel => exact ⟨k + 1, by omega, by go_num, ⟨us ++ [.slice A2 x.length c2], by simp [HU.out], HC.out, HD.out⟩, hb3⟩
      case measure => simp [intOf]; omega
    · obtain rfl : k = n := by omega
      have hfin : OwnOf 22 (OwnI 3) wr w.heap.size (.slice (some ⟨w.heap.size, 0, none⟩) k k) xs := by
        refine ⟨us, by rw [hul, hlen.out], ?_, by rw [hlen.out]; omega, hin⟩
        rw [hlen.out]
        simpa using ho
      have HF := Lib.hid hfin
      clear hfin ho hin hul hq
      go_wp2_with fail
      go_ret
      exact ⟨_, rfl, HF.out, hb⟩
theorem eqIntS_b (A B : Option Addr) (n m c d : Nat) (xs ys : List Int) (w : World) (b : Bool) (h : decide (xs = ys) = b) (hx : SlR IntC w w.heap.size A n xs) (hy : SlR IntC w w.heap.size B m ys) :
    Calls Tryd.prog 20 #[.slice A n c, .slice B m d] w fun e w' => e = .returned (.bool b) ∧ Below w.heap.size w w' := by
  subst h; exact eqIntS A B n m c d xs ys w hx hy
theorem eqIntSS (A B : Option Addr) (n m c d : Nat) (xs ys : List (List Int)) (w : World) (hx : SlR (RowC IntC) w w.heap.size A n xs) (hy : SlR (RowC IntC) w w.heap.size B m ys) :
    Calls Tryd.prog 58 #[.slice A n c, .slice B m d] w fun e w' => e = .returned (.bool (decide (xs = ys))) ∧ Below w.heap.size w w' := by
  have hn := hx.le
  have hm := hy.le
  have hlx := Lib.hid hx.len
  have hly := Lib.hid hy.len
  by_cases hnm : n = m
  · subst hnm
    have hne : ((n : Int) != (n : Int)) = false := by simp
    go_enter Tryd.func58, Tryd.ntmps58
    go_wp2_with fail
    go_loopw [5] (fun i wr => ∃ k : Nat, k ≤ n ∧ i = .int .i64 k ∧ Hid (EqB xs ys k) ∧ Below w.heap.size w wr) (fun i _ => n - (intOf i).toNat)
    case atStart => exact ⟨0, by omega, rfl, EqB.zero _ _, Below.refl _ _⟩
    case round =>
      obtain ⟨k, hk, rfl, hq, hb⟩ := hrel
      by_cases hlt : k < n
      · obtain ⟨ab, ao, x, u, rfl, hab, hxk, hcx, A1, c1, rfl, hx1⟩ := SlR.at_ (hx.below (RowC.keeps IntC.keeps) hb) hlt
        obtain ⟨bb, bo, y, u, rfl, hbb, hyk, hcy, B1, d1, rfl, hy1⟩ := SlR.at_ (hy.below (RowC.keeps IntC.keeps) hb) hlt
        have HX := Lib.hid hxk
        have HY := Lib.hid hyk
        clear hxk hyk
        have hw := hb.size
        have HX1 := Lib.hid (hx1.more IntC.widens hw)
        have HY1 := Lib.hid (hy1.more IntC.widens hw)
        have q0 : ∀ p : Later wr, p.val.cell? ⟨ab, ao + k, none⟩ = some (.slice A1 x.length c1) := fun p => p.cell (by omega) hcx
        have r0 : ∀ p : Later wr, p.val.cell? ⟨bb, bo + k, none⟩ = some (.slice B1 y.length d1) := fun p => p.cell (by omega) hcy
        clear hx1 hy1
        cases he : decide (x = y)
        · have HE := Lib.hid he
          clear he
          go_wp2_with fail
          refine wp_region_later (by kernel_rfl) (by kernel_rfl) ?_
          repeat (go_big_quiet_step (first | (go_at_call 20; exact calls_later (eqIntS_b _ _ _ _ _ _ x y _ _ HE.out (SlR.on IntC.keeps IntC.widens HX1.out (Later.below _)) (SlR.on IntC.keeps IntC.widens HY1.out (Later.below _))))))
          refine wpQuiet_nil ?_
          intro w5 hw'
          obtain ⟨⟨w6, hb5⟩, hw''⟩ := hw'
          subst hw''
          go_wp2_with fail
          go_ret
          exact ⟨ret_bool (decide_eq_false (ne_of_at HX.out HY.out (of_decide_eq_false HE.out))).symm, bgo hb hb5⟩
        · have HE := Lib.hid he
          clear he
          go_wp2_with fail
          refine wp_region_later (by kernel_rfl) (by kernel_rfl) ?_
          repeat (go_big_quiet_step (first | (go_at_call 20; exact calls_later (eqIntS_b _ _ _ _ _ _ x y _ _ HE.out (SlR.on IntC.keeps IntC.widens HX1.out (Later.below _)) (SlR.on IntC.keeps IntC.widens HY1.out (Later.below _))))))
          refine wpQuiet_nil ?_
          intro w5 hw'
          obtain ⟨⟨w6, hb5⟩, hw''⟩ := hw'
          subst hw''
          go_wp2_with fail
          go_roundw
          case rel => exact ⟨k + 1, by omega, by go_num, EqB.succ hq.out (by rw [HX.out, HY.out, of_decide_eq_true HE.out]), bgo hb hb5⟩
          case measure => simp [intOf]; omega
      · obtain rfl : k = n := by omega
        go_wp2_with fail
        go_ret
        exact ⟨ret_bool (decide_eq_true (EqB.done hq.out hlx.out hly.out)).symm, hb⟩
  · have hne : ((n : Int) != (m : Int)) = true := by simp; omega
    have HN := Lib.hid hnm
    clear hnm
    go_enter Tryd.func58, Tryd.ntmps58
    go_wp2_with fail
    go_ret
    exact ⟨ret_bool (decide_eq_false (fun h => HN.out (by rw [← hlx.out, ← hly.out, h]))).symm, Below.refl _ _⟩
theorem szIntS (A : Option Addr) (n c : Nat) (xs : List Int) (left : Int) (w : World) (h : SlA IntC w w.heap.size A n xs) (h0 : 0 ≤ left) (h1 : left ≤ 1048576) :
    Calls Tryd.prog 9 #[.slice A n c, .int .i64 left] w fun e w' => ∃ r : Int, e = .returned (.int .i64 r) ∧ (r = -1 ∨ 0 ≤ r ∧ r ≤ left ∧ Sm1 xs) ∧ Below w.heap.size w w' := by
  have hn := h.le
  have hl := Lib.hid h.len
  by_cases h : left - (n : Int) < 0
  · go_enter Tryd.func9, Tryd.ntmps9
    go_wp2
    go_ret
    exact ⟨-1, rfl, .inl rfl, Below.refl _ _⟩
  · go_enter Tryd.func9, Tryd.ntmps9
    go_wp2
    go_ret
    exact ⟨left - n, rfl, .inr ⟨by omega, by omega, by rw [Sm1, hl.out]; omega⟩, Below.refl _ _⟩
theorem szIntSS (A : Option Addr) (n c : Nat) (xs : List (List Int)) (left : Int) (w : World) (h : SlA (RowA IntC) w w.heap.size A n xs) (h0 : 0 ≤ left) (h1 : left ≤ 1048576) :
    Calls Tryd.prog 40 #[.slice A n c, .int .i64 left] w fun e w' => ∃ r : Int, e = .returned (.int .i64 r) ∧ (r = -1 ∨ 0 ≤ r ∧ r ≤ left ∧ SmS Sm1 xs) ∧ Below w.heap.size w w' := by
  have hn := h.le
  have hl := Lib.hid h.len
  by_cases hlt0 : left - (n : Int) < 0
  · go_enter Tryd.func40, Tryd.ntmps40
    go_wp2_with fail
    go_ret
    exact ⟨-1, rfl, .inl rfl, Below.refl _ _⟩
  · go_enter Tryd.func40, Tryd.ntmps40
    go_wp2_with fail
    go_loopw [1, 5] (fun t i wr => ∃ (k : Nat) (r : Int), k ≤ n ∧ i = .int .i64 k ∧ t = .int .i64 r ∧ 0 ≤ r ∧ r ≤ left ∧ Hid (AllP Sm1 xs k) ∧ Below w.heap.size w wr) (fun _ i _ => n - (intOf i).toNat)
    case atStart => exact ⟨0, left - n, by omega, rfl, rfl, by omega, by omega, AllP.zero _ _, Below.refl _ _⟩
    case round =>
      obtain ⟨k, r, hk, rfl, rfl, hr0, hr1, hq, hb⟩ := hrel
      by_cases hlt : k < n
      · obtain ⟨ad, x, u, rfl, hab, hxk, hcx, A1, c1, rfl, hx1⟩ := SlA.at_ (h.below (RowA.keeps IntC.keeps) hb) hlt
        have HX := Lib.hid hxk
        clear hxk
        go_wp2_with fail
        refine (szIntS A1 _ c1 x r _ (hx1.more IntC.widens hb.size) hr0 (by omega)).mono ?_
        rintro e w2 ⟨r2, rfl, hr, hb2⟩
        rcases hr with rfl | ⟨hr2, hr3, hs⟩
        · go_wp2_with fail
          go_ret
          exact ⟨-1, rfl, .inl rfl, bgo hb hb2⟩
        · have HS := Lib.hid hs
          clear hs
          go_wp2_with fail
          go_roundw
          case rel => exact ⟨k + 1, r2, by omega, by go_num, rfl, hr2, by omega, AllP.succ hq.out HX.out HS.out, bgo hb hb2⟩
          case measure => simp [intOf]; omega
      · obtain rfl : k = n := by omega
        go_wp2_with fail
        go_ret
        exact ⟨r, rfl, .inr ⟨hr0, hr1, by rw [SmS, hl.out]; exact ⟨by omega, AllP.done hq.out (Nat.le_of_eq hl.out)⟩⟩, hb⟩
theorem indexRow (A : Option Addr) (n c : Nat) (xs : List (List Int)) (g : Nat) (lb : Array Value) (p : List Int → Bool) (w : World) (eg : ∀ args w, (callFunc g args).run Tryd.prog w = .ok (.enter g args) w)
    (h : RowsR w w.heap.size A n xs) (hp : ∀ (k : Nat) x W A1 c1, xs[k]? = some x → Below w.heap.size w W → IntR W W.heap.size A1 x.length x → Calls Tryd.prog g (#[.slice A1 x.length c1] ++ lb) W fun e W' => e = .returned (.bool (p x)) ∧ Below W.heap.size W W') :
    Calls Tryd.prog 75 #[.slice A n c, .func (.func g) #[] lb] w fun e w' => ∃ j : Int, e = .returned (.int .i64 j) ∧ decide (0 ≤ j) = xs.any p ∧ Below w.heap.size w w' := by
  have hn := h.le
  have hl := Lib.hid h.len
  have HP := Lib.hid hp
  clear hp
  go_enter Tryd.func75, Tryd.ntmps75
  go_wp2_with fail
  go_loopw [8] (fun i wr => ∃ k : Nat, k ≤ n ∧ i = .int .i64 k ∧ Hid (AllB (fun x => !p x) xs k) ∧ Below w.heap.size w wr) (fun i _ => n - (intOf i).toNat)
  case atStart => exact ⟨0, by omega, rfl, AllB.zero _ _, Below.refl _ _⟩
  case round =>
    obtain ⟨k, hk, rfl, hq, hb⟩ := hrel
    by_cases hlt : k < n
    · obtain ⟨ab, ao, x, u, rfl, hab, hxk, hcx, A1, c1, rfl, hx1⟩ := SlR.at_ (h.below (RowC.keeps IntC.keeps) hb) hlt
      have HX := Lib.hid hxk
      have HX1 := Lib.hid (hx1.more IntC.widens hb.size)
      clear hxk hx1
      cases hpx : p x
      · have HF := Lib.hid hpx
        clear hpx
        go_wp2_with fail
        refine (HP.out k x _ A1 c1 HX.out hb HX1.out).mono ?_
        rw [HF.out]
        rintro e w1 ⟨rfl, hb1⟩
        go_wp2_with fail
        go_roundw
        case rel => exact ⟨k + 1, by omega, by go_num, AllB.succ hq.out HX.out (by simp [HF.out]), bgo hb hb1⟩
        case measure => simp [intOf]; omega
      · have HF := Lib.hid hpx
        clear hpx
        go_wp2_with fail
        refine (HP.out k x _ A1 c1 HX.out hb HX1.out).mono ?_
        rw [HF.out]
        rintro e w1 ⟨rfl, hb1⟩
        go_wp2_with fail
        go_ret
        refine ⟨k, rfl, ?_, bgo hb hb1⟩
        have : xs.any p = true := List.any_eq_true.2 ⟨x, List.mem_of_getElem? HX.out, HF.out⟩
        rw [this]
        simp
    · obtain rfl : k = n := by omega
      go_wp2_with fail
      go_ret
      refine ⟨-1, rfl, ?_, hb⟩
      have := AllB.done hq.out (Nat.le_of_eq hl.out)
      rw [List.all_eq_not_any_not] at this
      simp only [Bool.not_not] at this
      have h2 : xs.any p = false := by simpa using this
      rw [h2]
      decide
theorem containsFuncRow (A : Option Addr) (n c : Nat) (xs : List (List Int)) (g : Nat) (lb : Array Value) (p : List Int → Bool) (w : World) (eg : ∀ args w, (callFunc g args).run Tryd.prog w = .ok (.enter g args) w)
    (h : RowsR w w.heap.size A n xs) (hp : ∀ (k : Nat) x W A1 c1, xs[k]? = some x → Below w.heap.size w W → IntR W W.heap.size A1 x.length x → Calls Tryd.prog g (#[.slice A1 x.length c1] ++ lb) W fun e W' => e = .returned (.bool (p x)) ∧ Below W.heap.size W W') :
    Calls Tryd.prog 68 #[.slice A n c, .func (.func g) #[] lb] w fun e w' => e = .returned (.bool (xs.any p)) ∧ Below w.heap.size w w' := by
  have HP := Lib.hid hp
  have HE := Lib.hid eg
  clear hp eg
  go_enter Tryd.func68, Tryd.ntmps68
  go_wp2_with fail
  refine (indexRow A n c xs g lb p w HE.out h HP.out).mono ?_
  rintro e w1 ⟨j, rfl, hj, hb⟩
  have HJ := Lib.hid hj
  clear hj
  go_wp2_with fail
  go_ret
  exact ⟨ret_bool HJ.out, hb⟩
theorem RowsR.on {w w' : World} {n : Nat} {A : Option Addr} {xs : List (List Int)} (h : SlR (RowC IntC) w w.heap.size A n xs) (hb : Below w.heap.size w w') : SlR (RowC IntC) w' w'.heap.size A n xs := SlR.on (RowC.keeps IntC.keeps) (RowC.widens IntC.widens) h hb
theorem LayR.on {w w' : World} {n : Nat} {A : Option Addr} {xs : List (List (List Int))} (h : SlR (RowC (RowC IntC)) w w.heap.size A n xs) (hb : Below w.heap.size w w') : SlR (RowC (RowC IntC)) w' w'.heap.size A n xs := SlR.on (RowC.keeps (RowC.keeps IntC.keeps)) (RowC.widens (RowC.widens IntC.widens)) h hb
theorem LayA.on {w w' : World} {n : Nat} {A : Option Addr} {xs : List (List (List Int))} (h : SlA (RowA (RowA IntC)) w w.heap.size A n xs) (hb : Below w.heap.size w w') : SlA (RowA (RowA IntC)) w' w'.heap.size A n xs := SlA.on (RowA.keeps (RowA.keeps IntC.keeps)) (RowA.widens (RowA.widens IntC.widens)) h hb
theorem read3 {e2 e1 e0 : TypeId} {w : World} {base : Nat} {v : Value} {xs : List (List (List Int))} (h : OwnOf e2 (OwnOf e1 (OwnI e0)) w base v xs) : ∃ A c, v = .slice A xs.length c ∧ SlR (RowC (RowC IntC)) w w.heap.size A xs.length xs :=
  OwnOf.read (fun _ _ _ _ h => OwnOf.read (fun _ _ _ _ h => OwnI.read h) h) h
theorem read2 {e1 e0 : TypeId} {w : World} {base : Nat} {v : Value} {xs : List (List Int)} (h : OwnOf e1 (OwnI e0) w base v xs) : ∃ A c, v = .slice A xs.length c ∧ SlR (RowC IntC) w w.heap.size A xs.length xs :=
  OwnOf.read (fun _ _ _ _ h => OwnI.read h) h
end Go.Proofs.YtfoodlhfmcfjeaaDoor
