/- Draws of single domains. -/
import Derived.Test.YtjkgndedffildaaDraw
import Derived.Test.YtjkgndedffildaaInts
namespace Go.Proofs.Ytjkgndedffildaa
open Go.ChangeShapes Go.WideShapes Go.ChangeAt Go.RowKit
open Go.Shelf
set_option linter.unusedVariables false
set_option maxRecDepth 100000

theorem one (base g n c p b m c2 : Nat) (A : Option Addr) (bs : List Int) (xs : List Int) (w : World) (h : Rd w base g A n c bs p) (hp : p ≤ 1048576) (hl : xs.length = m) (hm : 0 < m) (hm2 : m ≤ 1000) (hb : b ≠ g) (hbw : b < w.heap.size) (hc : ∀ i x, xs[i]? = some x → w.cell? ⟨b, i, none⟩ = some (.int .i64 x)) :
    Calls Try.prog 51 #[.pointer (some ⟨g, 0, none⟩), .slice (some ⟨b, 0, none⟩) m c2] w fun e w' => ∃ x : Int, e = .returned (.int .i64 x) ∧ x ∈ xs ∧ Rd w' base g A n c bs (p + 1) ∧ ButG g w.heap.size w w' := by
  have HP := Lib.hid (fun k : Int => pick base g n c p A bs k w h hp)
  have HC := Lib.hid hc
  clear h hc
  go_enter Try.func51, Try.ntmps51
  go_wp2_with fail
  refine (HP.out _).mono ?_
  rintro e w1 ⟨r, rfl, ⟨-, hr⟩, hr1, hb1⟩
  obtain ⟨r0, rm⟩ := hr (by omega)
  obtain ⟨i, rfl⟩ := Int.eq_ofNat_of_zero_le r0
  obtain ⟨x, hx⟩ : ∃ x, xs[i]? = some x := ⟨_, List.getElem?_eq_getElem (by omega)⟩
  have hcell : w1.cell? ⟨b, i, none⟩ = some (.int .i64 x) := (World.cell?_of_block (w := w) (a := ⟨b, i, none⟩) (hb1.block b hbw hb)).trans (HC.out i x hx)
  have him : i < m := by omega
  have HX := Lib.hid hx
  clear hx hr r0
  go_wp2_with fail
  go_ret
  exact ⟨x, rfl, List.mem_of_getElem? HX.out, hr1, hb1⟩
end Go.Proofs.Ytjkgndedffildaa
