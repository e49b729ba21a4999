/- Counting paths of a diagram: the plain law, spec's functions. -/
import Derived.Test.YtfmdgdamelkelaaDiag
import Derived.Test.YtfmdgdamelkelaaDiag2
namespace Go.Proofs.Ytfmdgdamelkelaa
open Go.ChangeShapes Go.WideShapes Go.ChangeAt Go.RowKit
open Go.Shelf
set_option linter.unusedVariables false
set_option maxRecDepth 100000

/-- the paths from one node's first k edges, cs the paths from the next layer's nodes (as an int is). -/
def sumTo (cs row : List Int) : Nat → Int
  | 0 => 0
  | k + 1 => if 0 ≤ row[k]?.getD (-1) then wrap64 (sumTo cs row k + cs[(row[k]?.getD 0).toNat]?.getD 0) else sumTo cs row k
theorem sumTo_yes {cs row : List Int} {k : Nat} {x c : Int} (hx : row[k]? = some x) (h0 : 0 ≤ x) (hc : cs[x.toNat]? = some c) : sumTo cs row (k + 1) = wrap64 (sumTo cs row k + c) := by
  rw [sumTo, hx]
  simp only [Option.getD_some]
  rw [if_pos h0, hc]
  rfl
theorem sumTo_no {cs row : List Int} {k : Nat} {x : Int} (hx : row[k]? = some x) (h0 : ¬ 0 ≤ x) : sumTo cs row (k + 1) = sumTo cs row k := by
  rw [sumTo, hx]
  simp only [Option.getD_some]
  rw [if_neg h0]
def cntL (cs : List Int) (l : List (List Int)) : List Int := l.map fun r => sumTo cs r 6
/-- the paths from each node of the first layer of a rest of a diagram. -/
def cnt : List (List (List Int)) → List Int
  | [] => [1]
  | l :: ls => cntL (cnt ls) l
theorem cnt_drop {d : List (List (List Int))} {i : Nat} {l : List (List Int)} (hl : d[i]? = some l) : cnt (d.drop i) = cntL (cnt (d.drop (i + 1))) l := by
  have hi : i < d.length := by
    rcases Nat.lt_or_ge i d.length with h | h
    · exact h
    · rw [List.getElem?_eq_none h] at hl; cases hl
  rw [List.drop_eq_getElem_cons hi, cnt]
  rw [List.getElem?_eq_getElem hi] at hl
  injection hl with hl
  rw [hl]
theorem cnt_end {d : List (List (List Int))} {i : Nat} (h : d.length ≤ i) : cnt (d.drop i) = [1] := by rw [List.drop_eq_nil_of_le h]; rfl
theorem cnt_len {d : List (List (List Int))} {i : Nat} {l : List (List Int)} (hl : d[i]? = some l) : (cnt (d.drop i)).length = l.length := by rw [cnt_drop hl]; simp [cntL]
theorem cnt_at {d : List (List (List Int))} {i k : Nat} {l : List (List Int)} {r : List Int} (hl : d[i]? = some l) (hr : l[k]? = some r) : (cnt (d.drop i))[k]? = some (sumTo (cnt (d.drop (i + 1))) r 6) := by
  rw [cnt_drop hl, cntL, List.getElem?_map, hr]; rfl
theorem cnt_le {d : List (List (List Int))} (h : vdgF d = true) (i : Nat) : (cnt (d.drop i)).length ≤ 216 := by
  cases h1 : d[i]? with
  | some l => rw [cnt_len h1]; exact (vdg_layer h h1).2.1
  | none => rw [cnt_end (List.getElem?_eq_none_iff.1 h1)]; decide
def cntAt (d : List (List (List Int))) (i a : Nat) : Int := (cnt (d.drop i))[a]?.getD 0
theorem cntAt_of {d : List (List (List Int))} {i a : Nat} {c : Int} (h : (cnt (d.drop i))[a]? = some c) : cntAt d i a = c := by unfold cntAt; rw [h]; rfl
/-- an edge of a valid diagram leads to a node. -/
theorem edge_ok {d : List (List (List Int))} (h : vdgF d = true) {i k v : Nat} {l : List (List Int)} {r : List Int} {x : Int} (hl : d[i]? = some l) (hr : l[k]? = some r) (hx : r[v]? = some x) (h0 : 0 ≤ x) :
    ∃ c, (cnt (d.drop (i + 1)))[x.toNat]? = some c ∧ (∀ l2, d[i + 1]? = some l2 → x.toNat < l2.length) ∧ (d.length ≤ i + 1 → x = 0) := by
  obtain ⟨-, -, h3⟩ := vdg_layer h hl
  obtain ⟨-, h4⟩ := h3 r (List.mem_of_getElem? hr)
  have h5 := (h4 x (List.mem_of_getElem? hx)).2
  cases h6 : d[i + 1]? with
  | some l2 =>
    rw [lastF_some h6] at h5
    have hlt : x.toNat < (cnt (d.drop (i + 1))).length := by rw [cnt_len h6]; omega
    refine ⟨_, List.getElem?_eq_getElem hlt, fun l3 h7 => ?_, fun h7 => ?_⟩
    · injection h7 with h7; subst h7; omega
    · rw [List.getElem?_eq_none h7] at h6; cases h6
  | none =>
    have h7 : d.length ≤ i + 1 := List.getElem?_eq_none_iff.1 h6
    have h8 : lastF d i = 0 := lastF_none rfl (by omega)
    rw [h8] at h5
    have hx0 : x = 0 := by omega
    refine ⟨1, ?_, (fun l3 h9 => by cases h9), fun _ => hx0⟩
    rw [cnt_end h7, hx0]; rfl
theorem cnt_first {d : List (List (List Int))} (h : vdgF d = true) : ∃ l c, d[0]? = some l ∧ l.length = 1 ∧ (cnt d)[0]? = some c ∧ cntAt d 0 0 = c := by
  have h1 : inB d.length 1 4 = true ∧ firstOne d = true := by
    unfold vdgF at h
    simp only [Bool.and_eq_true] at h
    exact h.1
  have h2 := inB_true h1.1
  have h3 : 0 < d.length := by omega
  have h4 : d[0]? = some d[0] := List.getElem?_eq_getElem h3
  have h5 : (d[0]).length = 1 := by
    have := h1.2
    unfold firstOne at this
    rw [h4] at this
    simpa using this
  have h6 := cnt_len h4
  have h7 : (cnt (d.drop 0))[0]? = some (cnt (d.drop 0))[0] := List.getElem?_eq_getElem (by omega)
  exact ⟨_, _, h4, h5, h7, cntAt_of h7⟩
def dcF (d : List (List (List Int))) : Int := if vdgF d then cntAt d 0 0 else -1
set_option maxHeartbeats 4000000 in
theorem spathsFrom (A : Option Addr) (n c : Nat) (d : List (List (List Int))) (hv : vdgF d = true) : ∀ (m i a : Nat) (w : World), i + m = n → (∀ l, d[i]? = some l → a < l.length) → (i = n → a = 0) → LayersR w w.heap.size A n d →
    Calls Try.prog 79 #[.slice A n c, .int .i64 i, .int .i64 a] w fun e w' => e = .returned (.int .i64 (cntAt d i a)) ∧ w = w' := by
  intro m
  induction m with
  | zero =>
    intro i a w him ha h0 h
    have hl := h.len
    obtain rfl : i = n := by omega
    obtain rfl := h0 rfl
    have e : cntAt d i 0 = 1 := by unfold cntAt; rw [cnt_end (by omega)]; rfl
    rw [e]
    clear e hl ha h0
    go_enter Try.func79, Try.ntmps79
    go_wp2_with fail
    go_ret
    exact ⟨rfl, rfl⟩
  | succ m ih =>
    intro i a w him ha h0 h
    have hin : i < n := by omega
    have hn := h.le
    have hne : ((i : Int) == (n : Int)) = false := by simp; omega
    obtain ⟨ab, ao, l, u, rfl, hab, hxk, hcx, A1, c1, rfl, hl0⟩ := SlR.at_ h hin
    have hal := ha l hxk
    have hll := hl0.le
    obtain ⟨lb, lo, r, u, rfl, hlb, hr, hcr, A2, c2, rfl, hr1⟩ := SlR.at_ hl0 hal
    have hr6 := ((vdg_layer hv hxk).2.2 r (List.mem_of_getElem? hr)).1
    have hca := cnt_at hxk hr
    rw [cntAt_of hca]
    rw [hr6] at hcr hr1
    have HXK := Lib.hid hxk
    have HR := Lib.hid hr
    have HN := Lib.hid him
    have HV := Lib.hid hv
    have hal2 : (a : Int) < (l.length : Int) := by omega
    clear hxk hr hr6 hca ha h0 him
    go_enter Try.func79, Try.ntmps79
    go_wp2_with fail
    go_loop [7, 8] (fun t v => ∃ k : Nat, k ≤ 6 ∧ v = .int .i64 k ∧ t = .int .i64 (sumTo (cnt (d.drop (i + 1))) r k)) (fun _ v => 6 - (intOf v).toNat)
    case atStart => exact ⟨0, by omega, rfl, rfl⟩
    case round =>
      obtain ⟨k, hk, rfl, rfl⟩ := hrel
      by_cases hlt : k < 6
      · obtain ⟨rb, ro, x, rfl, hrb, hxk, hce⟩ := IntR.at_ hr1 hlt
        by_cases hx0 : 0 ≤ x
        · obtain ⟨cc, hcc, he1, he2⟩ := edge_ok HV.out HXK.out HR.out hxk hx0
          obtain ⟨a2, ha2⟩ : ∃ a2 : Nat, x = (a2 : Int) := ⟨x.toNat, by omega⟩
          subst ha2
          rw [Int.toNat_natCast] at hcc he1
          have hs := sumTo_yes (cs := cnt (d.drop (i + 1))) hxk hx0 (by rw [Int.toNat_natCast]; exact hcc)
          have HC := Lib.hid (cntAt_of hcc)
          have HS := Lib.hid hs
          have HE := Lib.hid (ih (i + 1) a2 w (by have := HN.out; omega) he1 (fun h1 => by have := he2 (by rw [h.len]; omega); omega) h)
          clear hs hxk hcc he1 he2 hx0
          go_wp2_with fail
          refine (HE.out).mono ?_
          rw [HC.out]
          rintro e w' ⟨rfl, rfl⟩
          go_wp2_with fail
          go_round
          case rel => exact ⟨k + 1, by omega, by go_num, by rw [HS.out]⟩
          case measure => simp [intOf]; omega
        · have hs := sumTo_no (cs := cnt (d.drop (i + 1))) hxk hx0
          have HS := Lib.hid hs
          clear hs hxk
          go_wp2_with fail
          go_round
          case rel => exact ⟨k + 1, by omega, by go_num, by rw [HS.out]⟩
          case measure => simp [intOf]; omega
      · obtain rfl : k = 6 := by omega
        go_wp2_with fail
        go_ret
        exact ⟨rfl, rfl⟩
theorem sDiagramCount (A : Option Addr) (n c : Nat) (d : List (List (List Int))) (w : World) (h : LayersR w w.heap.size A n d) :
    Calls Try.prog 38 #[.slice A n c] w fun e w' => e = .returned (.int .i64 (dcF d)) ∧ Below w.heap.size w w' := by
  cases hv : vdgF d
  · have e : dcF d = -1 := by unfold dcF; rw [hv]; rfl
    rw [e]
    have HV := Lib.hid hv
    clear hv e
    go_enter Try.func38, Try.ntmps38
    go_wp2_with fail
    refine (svalidDiagram _ _ _ _ _ h).mono ?_
    rw [HV.out]
    rintro e w2 ⟨rfl, hb2⟩
    go_wp2_with fail
    go_ret
    exact ⟨rfl, hb2⟩
  · have e : dcF d = cntAt d 0 0 := by unfold dcF; rw [hv]; rfl
    rw [e]
    have HV := Lib.hid hv
    obtain ⟨l, cc, hl, hl1, -, -⟩ := cnt_first hv
    have HP := Lib.hid (fun w h => spathsFrom A n c d HV.out n 0 0 w (by omega) (fun l2 h2 => by rw [hl] at h2; injection h2 with h2; subst h2; omega) (fun _ => rfl) h)
    clear hv e hl hl1
    go_enter Try.func38, Try.ntmps38
    go_wp2_with fail
    refine (svalidDiagram _ _ _ _ _ h).mono ?_
    rw [HV.out]
    rintro e w2 ⟨rfl, hb2⟩
    go_wp2_with fail
    refine (HP.out _ (SlR.on (RowC.keeps (RowC.keeps IntC.keeps)) (RowC.widens (RowC.widens IntC.widens)) h hb2)).mono ?_
    rintro e w3 ⟨rfl, rfl⟩
    go_wp2_with fail
    go_ret
    exact ⟨rfl, hb2⟩
end Go.Proofs.Ytfmdgdamelkelaa
