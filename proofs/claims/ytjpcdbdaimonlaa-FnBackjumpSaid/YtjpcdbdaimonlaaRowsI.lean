/- Slices of slices of ints: copies, comparisons, sizes. -/
import Derived.Test.YtjpcdbdaimonlaaInts
namespace Go.Proofs.Ytjpcdbdaimonlaa
open Go.ChangeShapes Go.WideShapes Go.ChangeAt Go.RowKit
open Go.Shelf
set_option linter.unusedVariables false
set_option maxRecDepth 100000

theorem indexRow (A : Option Addr) (n c : Nat) (xs : List (List Int)) (g : Nat) (lb : Array Value) (p : List Int → Bool) (w : World) (eg : ∀ args w, (callFunc g args).run Try.prog w = .ok (.enter g args) w)
    (h : RowsR w w.heap.size A n xs) (hp : ∀ (k : Nat) x W A1 c1, xs[k]? = some x → Below w.heap.size w W → IntR W W.heap.size A1 x.length x → Calls Try.prog g (#[.slice A1 x.length c1] ++ lb) W fun e W' => e = .returned (.bool (p x)) ∧ Below W.heap.size W W') :
    Calls Try.prog 39 #[.slice A n c, .func (.func g) #[] lb] w fun e w' => ∃ j : Int, e = .returned (.int .i64 j) ∧ decide (0 ≤ j) = xs.any p ∧ Below w.heap.size w w' := by
  have hn := h.le
  have hl := Lib.hid h.len
  have HP := Lib.hid hp
  clear hp
  go_enter Try.func39, Try.ntmps39
  go_wp2_with fail
  go_loopw [8] (fun i wr => ∃ k : Nat, k ≤ n ∧ i = .int .i64 k ∧ Hid (AllB (fun x => !p x) xs k) ∧ Below w.heap.size w wr) (fun i _ => n - (intOf i).toNat)
  case atStart => exact ⟨0, by omega, rfl, AllB.zero _ _, Below.refl _ _⟩
  case round =>
    obtain ⟨k, hk, rfl, hq, hb⟩ := hrel
    by_cases hlt : k < n
    · obtain ⟨ab, ao, x, u, rfl, hab, hxk, hcx, A1, c1, rfl, hx1⟩ := SlR.at_ (h.below (RowC.keeps IntC.keeps) hb) hlt
      have HX := Lib.hid hxk
      have HX1 := Lib.hid (hx1.more IntC.widens hb.size)
      clear hxk hx1
      cases hpx : p x
      · have HF := Lib.hid hpx
        clear hpx
        go_wp2_with fail
        refine (HP.out k x _ A1 c1 HX.out hb HX1.out).mono ?_
        rw [HF.out]
        rintro e w1 ⟨rfl, hb1⟩
        go_wp2_with fail
        go_roundw
        case rel => exact ⟨k + 1, by omega, by go_num, AllB.succ hq.out HX.out (by simp [HF.out]), bgo hb hb1⟩
        case measure => simp [intOf]; omega
      · have HF := Lib.hid hpx
        clear hpx
        go_wp2_with fail
        refine (HP.out k x _ A1 c1 HX.out hb HX1.out).mono ?_
        rw [HF.out]
        rintro e w1 ⟨rfl, hb1⟩
        go_wp2_with fail
        go_ret
        refine ⟨k, rfl, ?_, bgo hb hb1⟩
        have : xs.any p = true := List.any_eq_true.2 ⟨x, List.mem_of_getElem? HX.out, HF.out⟩
        rw [this]
        simp
    · obtain rfl : k = n := by omega
      go_wp2_with fail
      go_ret
      refine ⟨-1, rfl, ?_, hb⟩
      have := AllB.done hq.out (Nat.le_of_eq hl.out)
      rw [List.all_eq_not_any_not] at this
      simp only [Bool.not_not] at this
      have h2 : xs.any p = false := by simpa using this
      rw [h2]
      decide
theorem containsFuncRow (A : Option Addr) (n c : Nat) (xs : List (List Int)) (g : Nat) (lb : Array Value) (p : List Int → Bool) (w : World) (eg : ∀ args w, (callFunc g args).run Try.prog w = .ok (.enter g args) w)
    (h : RowsR w w.heap.size A n xs) (hp : ∀ (k : Nat) x W A1 c1, xs[k]? = some x → Below w.heap.size w W → IntR W W.heap.size A1 x.length x → Calls Try.prog g (#[.slice A1 x.length c1] ++ lb) W fun e W' => e = .returned (.bool (p x)) ∧ Below W.heap.size W W') :
    Calls Try.prog 21 #[.slice A n c, .func (.func g) #[] lb] w fun e w' => e = .returned (.bool (xs.any p)) ∧ Below w.heap.size w w' := by
  have HP := Lib.hid hp
  have HE := Lib.hid eg
  clear hp eg
  go_enter Try.func21, Try.ntmps21
  go_wp2_with fail
  refine (indexRow A n c xs g lb p w HE.out h HP.out).mono ?_
  rintro e w1 ⟨j, rfl, hj, hb⟩
  have HJ := Lib.hid hj
  clear hj
  go_wp2_with fail
  go_ret
  exact ⟨ret_bool HJ.out, hb⟩
theorem RowsR.on {w w' : World} {n : Nat} {A : Option Addr} {xs : List (List Int)} (h : SlR (RowC IntC) w w.heap.size A n xs) (hb : Below w.heap.size w w') : SlR (RowC IntC) w' w'.heap.size A n xs := SlR.on (RowC.keeps IntC.keeps) (RowC.widens IntC.widens) h hb
theorem LayR.on {w w' : World} {n : Nat} {A : Option Addr} {xs : List (List (List Int))} (h : SlR (RowC (RowC IntC)) w w.heap.size A n xs) (hb : Below w.heap.size w w') : SlR (RowC (RowC IntC)) w' w'.heap.size A n xs := SlR.on (RowC.keeps (RowC.keeps IntC.keeps)) (RowC.widens (RowC.widens IntC.widens)) h hb
theorem LayA.on {w w' : World} {n : Nat} {A : Option Addr} {xs : List (List (List Int))} (h : SlA (RowA (RowA IntC)) w w.heap.size A n xs) (hb : Below w.heap.size w w') : SlA (RowA (RowA IntC)) w' w'.heap.size A n xs := SlA.on (RowA.keeps (RowA.keeps IntC.keeps)) (RowA.widens (RowA.widens IntC.widens)) h hb
theorem read3 {e2 e1 e0 : TypeId} {w : World} {base : Nat} {v : Value} {xs : List (List (List Int))} (h : OwnOf e2 (OwnOf e1 (OwnI e0)) w base v xs) : ∃ A c, v = .slice A xs.length c ∧ SlR (RowC (RowC IntC)) w w.heap.size A xs.length xs :=
  OwnOf.read (fun _ _ _ _ h => OwnOf.read (fun _ _ _ _ h => OwnI.read h) h) h
theorem read2 {e1 e0 : TypeId} {w : World} {base : Nat} {v : Value} {xs : List (List Int)} (h : OwnOf e1 (OwnI e0) w base v xs) : ∃ A c, v = .slice A xs.length c ∧ SlR (RowC IntC) w w.heap.size A xs.length xs :=
  OwnOf.read (fun _ _ _ _ h => OwnI.read h) h
end Go.Proofs.Ytjpcdbdaimonlaa
