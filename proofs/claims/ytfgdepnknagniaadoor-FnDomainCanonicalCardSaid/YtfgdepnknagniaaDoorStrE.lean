/- EncodeDomain and DecodeDomain, impl's and spec's. -/
import Derived.Test.YtfgdepnknagniaaDoorStrS
namespace Go.Proofs.YtfgdepnknagniaaDoor
open Go.ChangeShapes Go.WideShapes Go.ChangeAt Go.RowKit
open Go.Shelf
set_option linter.unusedVariables false
set_option maxRecDepth 100000

/-- the text of a domain, or none. -/
def encO (d : Int) : List UInt8 := if vdB d = true then encF d else []
theorem iEncodeDomain (d : Int) (w : World) :
    Calls Tryd.prog 8 #[.int .i64 d] w fun e w' => e = .returned (.string (bs (encO d))) ∧ Below w.heap.size w w' := by
  cases hv : vdB d
  · have HE := Lib.hid (show encO d = [] by unfold encO; rw [hv]; rfl)
    go_enter Tryd.func8, Tryd.ntmps8
    go_wp2_with (go_at_call 12; refine (iValidDomain _ _).mono ?_; rw [hv]; rintro e w' ⟨rfl, rfl⟩)
    go_ret
    exact ⟨by rw [HE.out]; rfl, Below.refl _ _⟩
  · have HE := Lib.hid (show encO d = encF d by unfold encO; rw [hv]; rfl)
    have hb := inB_true hv
    go_enter Tryd.func8, Tryd.ntmps8
    go_wp2_with (go_at_call 12; refine (iValidDomain _ _).mono ?_; rw [hv]; rintro e w' ⟨rfl, rfl⟩)
    refine (encode d hb.1 hb.2 _).mono ?_
    rintro e w1 ⟨rfl, hb1⟩
    go_wp2_with fail
    go_ret
    exact ⟨by rw [HE.out]; rfl, hb1⟩
theorem sEncodeDomain (d : Int) (w : World) :
    Calls Tryd.prog 7 #[.int .i64 d] w fun e w' => e = .returned (.string (bs (encO d))) ∧ Below w.heap.size w w' := by
  cases hv : vdB d
  · have HE := Lib.hid (show encO d = [] by unfold encO; rw [hv]; rfl)
    go_enter Tryd.func7, Tryd.ntmps7
    go_wp2_with (go_at_call 14; refine (svalidDomain _ _).mono ?_; rw [hv]; rintro e w' ⟨rfl, rfl⟩)
    go_ret
    exact ⟨by rw [HE.out]; rfl, Below.refl _ _⟩
  · have HE := Lib.hid (show encO d = encF d by unfold encO; rw [hv]; rfl)
    have hb := inB_true hv
    go_enter Tryd.func7, Tryd.ntmps7
    go_wp2_with (go_at_call 14; refine (svalidDomain _ _).mono ?_; rw [hv]; rintro e w' ⟨rfl, rfl⟩)
    refine (format d hb.1 hb.2 _).mono ?_
    rintro e w1 ⟨rfl, hb1⟩
    go_wp2_with fail
    go_ret
    exact ⟨by rw [HE.out]; rfl, hb1⟩
end Go.Proofs.YtfgdepnknagniaaDoor
