/- IsEntailed. -/
import Derived.Test.YtejfnkbdmlijbaaTup2
import Derived.Test.YtejfnkbdmlijbaaSatI
import Derived.Test.YtejfnkbdmlijbaaSolI
namespace Go.Proofs.Ytejfnkbdmlijbaa
open Go.ChangeShapes Go.WideShapes Go.ChangeAt Go.RowKit
open Go.Shelf
set_option linter.unusedVariables false
set_option maxRecDepth 100000
attribute [local go_sem] Oper.semAt_some

set_option maxHeartbeats 4000000 in
theorem svalidDomainsF (A : Option Addr) (n c : Nat) (xs : List Int) (w : World) (h : IntR w w.heap.size A n xs) :
    Calls Try.prog 62 #[.slice A n c] w fun e w' => e = .returned (.bool (dokF xs)) ∧ w = w' := by
  have hn := h.le
  have hl := Lib.hid h.len
  go_enter Try.func62, Try.ntmps62
  go_wp2_with fail
  go_loop [3] (fun i => ∃ k : Nat, k ≤ n ∧ i = .int .i64 k ∧ Hid (AllB vdB xs k)) (fun i => n - (intOf i).toNat)
  case atStart => exact ⟨0, by omega, rfl, AllB.zero _ _⟩
  case round =>
    obtain ⟨k, hk, rfl, hq⟩ := hrel
    by_cases hlt : k < n
    · obtain ⟨ab, ao, x, rfl, hab, hxk, hcx⟩ := IntR.at_ h hlt
      have HXK := Lib.hid hxk
      clear hxk
      go_wp2_with fail
      refine (svalidDomain _ _).mono ?_
      rintro e w' ⟨rfl, rfl⟩
      cases hv : vdB x
      · have HE := Lib.hid (show dokF xs = false by unfold dokF; rw [show (xs.all fun x => inB x 0 63) = xs.all vdB from rfl, all_no (f := vdB) HXK.out hv]; simp)
        clear hv
        go_wp2_with fail
        go_ret
        exact ⟨ret_bool HE.out.symm, rfl⟩
      · have HV := Lib.hid hv
        clear hv
        go_wp2_with fail
        go_round
        case rel => exact ⟨k + 1, by omega, by go_num, AllB.succ hq.out HXK.out HV.out⟩
        case measure => simp [intOf]; omega
    · obtain rfl : k = n := by omega
      have HE := Lib.hid (show dokF xs = inB k 1 4 by unfold dokF; rw [show (xs.all fun x => inB x 0 63) = xs.all vdB from rfl, AllB.done hq.out (Nat.le_of_eq hl.out), hl.out]; simp)
      go_wp2_with fail
      refine (inRange _ _ _ _).mono ?_
      rintro e w' ⟨rfl, rfl⟩
      go_wp2_with fail
      go_ret
      exact ⟨ret_bool HE.out.symm, rfl⟩
theorem svalidDomainsF_b (A : Option Addr) (n c : Nat) (xs : List Int) (w : World) (b : Bool) (hb : dokF xs = b) (h : IntR w w.heap.size A n xs) :
    Calls Try.prog 62 #[.slice A n c] w fun e w' => e = .returned (.bool b) ∧ w = w' := by
  subst hb; exact svalidDomainsF A n c xs w h
/-- all tuples satisfy c. -/
def entF (c : Con) (ds : List Int) : Bool := (allT (wordF c.vars ds)).all (satF c)
def ientF (c : Con) (ds : List Int) : Bool := dokF ds && (vconF c ds.length && entF c ds)
theorem dok_parts {ds : List Int} (h : dokF ds = true) : 1 ≤ ds.length ∧ ds.length ≤ 4 ∧ Doms ds := by
  unfold dokF at h
  simp only [Bool.and_eq_true, List.all_eq_true] at h
  have := inB_true h.1
  exact ⟨by omega, by omega, fun x hx => inB_true (h.2 x hx)⟩
theorem word_doms {vars ds : List Int} (hv : ∀ v ∈ vars, 0 ≤ v ∧ v < (ds.length : Int)) (h : Doms ds) : Doms (wordF vars ds) := by
  intro x hx
  unfold wordF at hx
  obtain ⟨u, hu, rfl⟩ := List.mem_map.1 hx
  have := hv u hu
  exact h _ (gat_in (by omega))
theorem sat_tup {c : Con} {n : Nat} {ds t : List Int} (hv : vconF c n = true) (h4 : n ≤ 4) (ht : t ∈ allT (wordF c.vars ds)) : SatOk c t ∧ t.length = c.vars.length := by
  obtain ⟨h1, h2, h3⟩ := vcon_vars hv h4
  obtain ⟨hl, hm⟩ := mem_allT.1 ht
  rw [wordF_len] at hl
  refine ⟨⟨hl, by omega, by omega, fun v hv => ?_, h3⟩, hl⟩
  obtain ⟨k, hk, e⟩ := List.getElem_of_mem hv
  have := hm k (gat (wordF c.vars ds) k) v (by rw [gat_eq (List.getElem?_eq_getElem (by rw [wordF_len]; omega))]; exact List.getElem?_eq_getElem _) (by rw [List.getElem?_eq_getElem hk, e])
  omega
theorem results_cell1 {fn : Func} {p : Tmp} {ty : TypeId} (h : fn.results = #[.cell p ty]) (tmps : Array Value) (w : World) (a : Addr) (v : Value) (hp : tmps.getD p undef = .pointer (some a)) (hd : ∀ w, (isAgg ty).run Try.prog w = .ok false w) (hl : w.cell? a = some v) :
    (results fn tmps).run Try.prog w = .ok v w := by
  have hp' : tmps[p]?.getD undef = .pointer (some a) := by simpa using hp
  simp [results, h, hp', asAddr, loadVar, Sem.run_bind, hd, run_load, hl, Result.andThen]
theorem intR_blk {w : World} {g m : Nat} {cs : Array Value} {t : List Int} (hb : TBlk 3 w g cs) (hc : ∀ (j : Nat) v, t[j]? = some v → cs[j]? = some (.int .i64 v)) (hl : t.length = m) (hm : m ≤ 4) : IntR w w.heap.size (some ⟨g, 0, none⟩) m t :=
  ⟨hl, by omega, fun _ => ⟨g, 0, rfl, hb.lt, fun k x hx => ⟨_, by rw [Nat.zero_add]; exact hb.at_ k (hc k x hx), rfl⟩⟩⟩
end Go.Proofs.Ytejfnkbdmlijbaa
