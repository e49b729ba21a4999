/- Valid models. -/
import Derived.Test.YtfmdgdamelkelaaBox
import Derived.Test.YtfmdgdamelkelaaVcon
import Derived.Test.YtfmdgdamelkelaaFits
namespace Go.Proofs.Ytfmdgdamelkelaa
open Go.ChangeShapes Go.WideShapes Go.ChangeAt Go.RowKit
open Go.Shelf
set_option linter.unusedVariables false
set_option maxRecDepth 100000

def vmodF (m : Mod) : Bool := (m.doms.all vdB) && ((m.cons.all fun c => vconF c m.doms.length) && (inB m.doms.length 1 4 && decide ((m.cons.length : Int) ≤ 6)))
theorem ConR.at_ {w : World} {B n i : Nat} {A : Option Addr} {xs : List Con} (h : ConsR w B A n xs) (hi : i < n) : ∃ b o c va aa ra cv ca cr, A = some ⟨b, o, none⟩ ∧ b < B ∧ xs[i]? = some c ∧
    w.cell? ⟨b, o + i * 5, none⟩ = some (.int .i64 c.kind) ∧ w.cell? ⟨b, o + i * 5 + 1, none⟩ = some (.slice va c.vars.length cv) ∧ w.cell? ⟨b, o + i * 5 + 2, none⟩ = some (.slice aa c.args.length ca) ∧ w.cell? ⟨b, o + i * 5 + 3, none⟩ = some (.int .i64 c.bound) ∧ w.cell? ⟨b, o + i * 5 + 4, none⟩ = some (.slice ra c.rows.length cr) ∧
    ConR w B [.int .i64 c.kind, .slice va c.vars.length cv, .slice aa c.args.length ca, .int .i64 c.bound, .slice ra c.rows.length cr] c := by
  obtain ⟨b, o, c, us, e, hb, hx, hl, hu, hr⟩ := SlK.at_ h hi
  obtain ⟨va, aa, ra, cv, ca, cr, rfl, q⟩ := hr
  exact ⟨b, o, c, va, aa, ra, cv, ca, cr, e, hb, hx, hu 0 _ rfl, hu 1 _ rfl, hu 2 _ rfl, hu 3 _ rfl, hu 4 _ rfl, va, aa, ra, cv, ca, cr, rfl, q⟩
def dokF (xs : List Int) : Bool := inB (xs.length : Int) 1 4 && xs.all fun x => inB x 0 63
set_option maxHeartbeats 4000000 in
theorem domainsOk (A : Option Addr) (n c : Nat) (xs : List Int) (w : World) (h : IntR w w.heap.size A n xs) :
    Calls Try.prog 50 #[.slice A n c] w fun e w' => e = .returned (.bool (dokF xs)) ∧ Below w.heap.size w w' := by
  have hl := Lib.hid h.len
  have H := Lib.hid h
  clear h
  go_enter Try.func50, Try.ntmps50
  go_wp2_with fail
  refine (within _ _ _ _).mono ?_
  rintro e w' ⟨rfl, rfl⟩
  cases t0 : inB (n : Int) 1 4
  · have HE := Lib.hid (show dokF xs = false by unfold dokF; rw [hl.out, t0]; rfl)
    clear t0
    go_wp2_with fail
    go_ret
    exact ⟨ret_bool HE.out.symm, Below.refl _ _⟩
  have HE := Lib.hid (show dokF xs = xs.all fun x => inB x 0 63 by unfold dokF; rw [hl.out, t0]; rfl)
  clear t0
  go_wp2_with fail
  refine (allIn _ _ _ _ _ _ _ H.out).mono ?_
  rintro e w1 ⟨rfl, hb1⟩
  go_wp2_with fail
  go_ret
  exact ⟨ret_bool HE.out.symm, hb1⟩
end Go.Proofs.Ytfmdgdamelkelaa
