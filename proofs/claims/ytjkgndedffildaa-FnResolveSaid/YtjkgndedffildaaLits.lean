/- Functions over literals and clauses return what plain Lean functions say. -/
import Derived.Test.YtjkgndedffildaaInts
import Derived.Test.YtjkgndedffildaaOpen
import Derived.Maps.Own
import Derived.Maps.OwnOps
import Derived.StillTailTactics
namespace Go.Proofs.Ytjkgndedffildaa
open Go.ChangeShapes Go.WideShapes Go.ChangeAt Go.RowKit
open Go.Shelf
set_option linter.unusedVariables false
set_option maxRecDepth 100000

theorem toLiteral (l : Ltl) (w : World) : Calls Try.prog 8 #[.agg #[.int .i64 l.var, .int .i64 l.val, .bool l.neg]] w fun e w' => e = .returned (.agg #[.int .i64 l.var, .int .i64 l.val, .bool l.neg]) ∧ Below w.heap.size w w' := by
  go_enter Try.func8, Try.ntmps8
  go_wp2
  exact bodyPost_ret (v := .agg #[.int .i64 l.var, .int .i64 l.val, .bool l.neg]) (by simp [results, Try.results8, go_sem]) rfl ⟨rfl, b_alloc3 _ _ _ _⟩
theorem eqLiteral (a b : Ltl) (w : World) : Calls Try.prog 29 #[.agg #[.int .i64 a.var, .int .i64 a.val, .bool a.neg], .agg #[.int .i64 b.var, .int .i64 b.val, .bool b.neg]] w fun e w' => e = .returned (.bool (decide (a = b))) ∧ Below w.heap.size w w' := by
  go_enter Try.func29, Try.ntmps29
  go_wp2
  all_goals
    go_ret
    refine ⟨ret_bool ?_, b_alloc2 _ _ _⟩
    cases a
    cases b
    simp_all
theorem literalLess (a b : Ltl) (w : World) : Calls Try.prog 43 #[.agg #[.int .i64 a.var, .int .i64 a.val, .bool a.neg], .agg #[.int .i64 b.var, .int .i64 b.val, .bool b.neg]] w fun e w' => e = .returned (.bool (ltlLess a b)) ∧ Below w.heap.size w w' := by
  have h1 : (a.var != b.var) = !decide (a.var = b.var) := rfl
  have h2 : (a.val != b.val) = !decide (a.val = b.val) := rfl
  by_cases e1 : a.var = b.var
  · by_cases e2 : a.val = b.val
    · have e : ltlLess a b = (!a.neg && b.neg) := by simp [ltlLess, e1, e2]
      rw [e]
      have n1 : (a.var != b.var) = false := by simp [e1]
      have n2 : (a.val != b.val) = false := by simp [e2]
      clear e e1 e2 h1 h2
      cases h : a.neg
      · go_enter Try.func43, Try.ntmps43
        go_wp2
        go_ret
        exact ⟨ret_bool (by simp), b_alloc2 _ _ _⟩
      · go_enter Try.func43, Try.ntmps43
        go_wp2
        go_ret
        exact ⟨ret_bool (by simp), b_alloc2 _ _ _⟩
    · have e : ltlLess a b = decide (a.val < b.val) := by simp [ltlLess, e1, e2]
      rw [e]
      have n1 : (a.var != b.var) = false := by simp [e1]
      have n2 : (a.val != b.val) = true := by simp [e2]
      clear e e1 e2 h1 h2
      go_enter Try.func43, Try.ntmps43
      go_wp2
      go_ret
      exact ⟨rfl, b_alloc2 _ _ _⟩
  · have e : ltlLess a b = decide (a.var < b.var) := by simp [ltlLess, e1]
    rw [e]
    have n1 : (a.var != b.var) = true := by simp [e1]
    clear e e1 h1 h2
    go_enter Try.func43, Try.ntmps43
    go_wp2
    go_ret
    exact ⟨rfl, b_alloc2 _ _ _⟩
theorem szLiteralS (A : Option Addr) (n c : Nat) (left : Int) (w : World) (hn : n ≤ 9223372036854775807) (h0 : 0 ≤ left) (h1 : left ≤ 1048576) :
    Calls Try.prog 5 #[.slice A n c, .int .i64 left] w fun e w' => ∃ r : Int, e = .returned (.int .i64 r) ∧ (r = -1 ∨ 0 ≤ r ∧ r ≤ left ∧ n ≤ 1048576) ∧ Below w.heap.size w w' := by
  by_cases h : left - (n : Int) < 0
  · go_enter Try.func5, Try.ntmps5
    go_wp2
    go_ret
    exact ⟨-1, rfl, .inl rfl, Below.refl _ _⟩
  · go_enter Try.func5, Try.ntmps5
    go_wp2
    go_ret
    exact ⟨left - n, rfl, .inr ⟨by omega, by omega, by omega⟩, Below.refl _ _⟩
theorem info_lit : (Try.prog.info? 30).map (fun i => (i.zero, i.size, i.bytes)) = some (some (.agg #[.int .i64 0, .int .i64 0, .bool false]), 3, 24) := by kernel_rfl
abbrev LitA (w : World) (B : Nat) (A : Option Addr) (n : Nat) (xs : List Ltl) : Prop := SlKA LitC 3 w B A n xs
theorem LitA.on {w w' : World} {n : Nat} {A : Option Addr} {xs : List Ltl} (h : LitA w w.heap.size A n xs) (hb : Below w.heap.size w w') : LitA w' w'.heap.size A n xs := SlKA.on LitC.keeps LitC.widens h hb
theorem gives_litA : Gives Try.prog 24 LitC := gives_lit Try.underlying24 (by kernel_rfl) rfl rfl rfl (by kernel_rfl) (by kernel_rfl) (by kernel_rfl) Try.underlying3 Try.underlying3 Try.underlying4
theorem open_litS {H : Type} {enc : TypeId × Value → H} {W : World} {base : Nat} {v : Value} {d : DataW H} {p : List MemPlace} (hv : Value.okWide Try.prog W .any base 22 v) (h : DataW.Trod enc Try.prog W 0 (fun _ => true) true 22 v d p) :
    ∃ (A : Option Addr) (n c : Nat) (xs : List Ltl), v = .slice A n c ∧ LitA W W.heap.size A n xs := open_sl Try.underlying22 (by kernel_rfl) (by omega) gives_litA hv h
theorem toLiteralS (A : Option Addr) (n c : Nat) (xs : List Ltl) (w : World) (h : LitA w w.heap.size A n xs) (hn : n ≤ 1048576) :
    Calls Try.prog 7 #[.slice A n c] w fun e w' => ∃ v, e = .returned v ∧ w'.ownsRow w.heap.size 30 3 v n (xs.flatMap ltlCs) ∧ Below w.heap.size w w' := by
  obtain ⟨i0, hi0, hz0, hz1, hz2⟩ := info_parts info_lit
  go_enter Try.func7, Try.ntmps7
  go_wp2_with (refine wpList_make_full _ rfl (.tmp 6) (.tmp 6) _ rfl w.heap.size 30 i0 _ 3 Try.underlying26 hi0 hz0 hz1 .i64 .i64 n n n rfl rfl rfl rfl (by rw [hz2]; omega) (by unfold maxLen; omega) (Nat.le_refl _) ?_; intro w1 hown hgr)
  have hb1 : Below w.heap.size w w1 := (Below.refl _ _).grown hgr (Nat.le_refl _) (by simp)
  have hsz : w.heap.size < w1.heap.size := (hown.lt _ rfl).2
  have hlen := Lib.hid h.len
  have hown' : w1.ownsRow w.heap.size 30 3 (.slice (some ⟨w.heap.size, 0, none⟩) n n) n (fillK ltlCs [.int .i64 0, .int .i64 0, .bool false] xs n 0) := by
    rw [fillK_zero]
    have e : (madeCells (Value.agg #[.int .i64 0, .int .i64 0, .bool false]).cells (n * 3)).toList = (List.replicate n [Value.int .i64 0, .int .i64 0, .bool false]).flatten := madeCells_rep _ _ _ rfl (by omega)
    rw [← e]; exact hown
  clear hown hgr
  go_loopw [4] (fun i wr => ∃ k : Nat, k ≤ n ∧ i = .int .i64 k ∧ Hid (wr.ownsRow w.heap.size 30 3 (.slice (some ⟨w.heap.size, 0, none⟩) n n) n (fillK ltlCs [.int .i64 0, .int .i64 0, .bool false] xs n k)) ∧ Below w.heap.size w wr) (fun i _ => n - (intOf i).toNat)
  case atStart => exact ⟨0, by omega, rfl, hown', hb1⟩
  case round =>
    obtain ⟨k, hk, rfl, hq, hb⟩ := hrel
    clear hown' hb1
    by_cases hlt : k < n
    · obtain ⟨ad, x, us, rfl, hab, hxk, hul, hcx, rfl⟩ := SlKA.at_ (h.below LitC.keeps hb) hlt
      obtain ⟨hc0, hc1, hc2⟩ := cells3 hcx
      have HX := Lib.hid hxk
      clear hxk hcx
      go_wp2_with fail
      refine (toLiteral x _).mono ?_
      rintro e w2 ⟨rfl, hb2⟩
      obtain ⟨d0, d1, d2, f0, f1, f2, ho⟩ := fill3 (f := ltlCs) (fun _ => rfl) rfl hlen.out hlt HX.out (own_below hq.out hb2)
      have HO := Lib.hid ho
      clear ho
      go_wp2_with fail
      go_roundw
      case rel => exact ⟨k + 1, by omega, by go_num, HO.out, (((bgo hb hb2).setCell (by simp) _).setCell (by simp) _).setCell (by simp) _⟩
      case measure => simp [intOf]; omega
    · obtain rfl : k = n := by omega
      go_wp2_with fail
      go_ret
      exact ⟨_, rfl, by rw [← fillK_done ltlCs [.int .i64 0, .int .i64 0, .bool false] hlen.out]; exact hq.out, hb⟩
theorem cmpCompare (x y : Int) (w : World) : Calls Try.prog 53 #[.int .i64 x, .int .i64 y] w fun e w' => e = .returned (.int .i64 (cmpI x y)) ∧ w' = w := by
  by_cases h1 : x < y
  · have e : cmpI x y = -1 := by simp [cmpI, h1]
    rw [e]
    clear e
    go_enter Try.func53, Try.ntmps53
    go_wp2
    go_ret
    exact ⟨rfl, rfl⟩
  · by_cases h2 : y < x
    · have e : cmpI x y = 1 := by simp [cmpI, h1, h2]
      rw [e]
      clear e
      go_enter Try.func53, Try.ntmps53
      go_wp2
      go_ret
      exact ⟨rfl, rfl⟩
    · have e : cmpI x y = 0 := by simp [cmpI, h1, h2]
      rw [e]
      clear e
      go_enter Try.func53, Try.ntmps53
      go_wp2
      go_ret
      exact ⟨rfl, rfl⟩
theorem cmpOr (A : Option Addr) (n c : Nat) (xs : List Int) (w : World) (h : IntR w w.heap.size A n xs) :
    Calls Try.prog 52 #[.slice A n c] w fun e w' => e = .returned (.int .i64 (orF xs)) ∧ Below w.heap.size w w' := by
  have hn := h.le
  have hl := Lib.hid h.len
  go_enter Try.func52, Try.ntmps52
  go_wp2_with fail
  go_loopw [8] (fun i wr => ∃ k : Nat, k ≤ n ∧ i = .int .i64 k ∧ Hid (AllB (fun y => y == 0) xs k) ∧ Below w.heap.size w wr) (fun i _ => n - (intOf i).toNat)
  case atStart => exact ⟨0, by omega, rfl, AllB.zero _ _, Below.refl _ _⟩
  case round =>
    obtain ⟨k, hk, rfl, hq, hb⟩ := hrel
    by_cases hlt : k < n
    · obtain ⟨ab, ao, x, rfl, hab, hxk, hcx⟩ := IntR.at_ (h.below IntC.keeps hb) hlt
      have HX := Lib.hid hxk
      clear hxk
      by_cases hx0 : x = 0
      · subst hx0
        have hne : ((0 : Int) != 0) = false := rfl
        go_wp2_with fail
        go_roundw
        case rel => exact ⟨k + 1, by omega, by go_num, AllB.succ hq.out HX.out rfl, hb⟩
        case measure => simp [intOf]; omega
      · have hne : (x != 0) = true := by simpa using hx0
        have H0 := Lib.hid hx0
        clear hx0
        go_wp2_with fail
        go_ret
        exact ⟨ret_int (orF_at hq.out HX.out H0.out).symm, hb⟩
    · obtain rfl : k = n := by omega
      go_wp2_with fail
      go_ret
      exact ⟨ret_int (orF_zero (AllB.done hq.out (Nat.le_of_eq hl.out))).symm, hb⟩
theorem icompare (a b : Ltl) (w : World) : Calls Try.prog 35 #[.agg #[.int .i64 a.var, .int .i64 a.val, .bool a.neg], .agg #[.int .i64 b.var, .int .i64 b.val, .bool b.neg]] w fun e w' => e = .returned (.int .i64 (cmpL a b)) ∧ Below w.heap.size w w' := by
  have hmm := @run_makeMap Try.prog
  have hm0 := World.ownsMap_made (H := Unit) ((w.alloc (.cells #[.int .i64 a.var, .int .i64 a.val, .bool a.neg] 30)).alloc (.cells #[.int .i64 b.var, .int .i64 b.val, .bool b.neg] 30)) Try.prog 4 (plainElem Try.prog 3)
  obtain ⟨w3, hrun, ho3, hg3⟩ := hm0.update (Maps.bool_keyed Try.underlying4) Try.underlying72 (by decide) (Maps.keyOf_bool_mk Try.underlying4 true) (plainElem_int Try.underlying3 (a := 1) (by decide))
  have hsz : ((w.alloc (.cells #[.int .i64 a.var, .int .i64 a.val, .bool a.neg] 30)).alloc (.cells #[.int .i64 b.var, .int .i64 b.val, .bool b.neg] 30)).heap.size = w.heap.size + 1 + 1 := by rw [size_alloc_, size_alloc_]
  have hBm : Below w.heap.size w (((w.alloc (.cells #[.int .i64 a.var, .int .i64 a.val, .bool a.neg] 30)).alloc (.cells #[.int .i64 b.var, .int .i64 b.val, .bool b.neg] 30)).alloc (.map #[] 0)) := b_alloc3 _ _ _ _
  have hB3 : Below w.heap.size w w3 := hBm.grown hg3 hBm.size (fun k e => by injection e with e; rw [← e, hsz]; omega)
  have hB4 : Below (w.heap.size + 1 + 1) ((w.alloc (.cells #[.int .i64 a.var, .int .i64 a.val, .bool a.neg] 30)).alloc (.cells #[.int .i64 b.var, .int .i64 b.val, .bool b.neg] 30)) w3 :=
    ((Below.refl _ _).alloc (by rw [hsz]; omega) _).grown hg3 (by rw [size_alloc_, hsz]; omega) (fun k e => by injection e with e; rw [← e, hsz]; omega)
  rw [hsz] at hrun ho3
  have ca0 : w3.cell? ⟨w.heap.size, 0, none⟩ = some (.int .i64 a.var) := (hB4.cell (p := ⟨_, _, none⟩) (by show w.heap.size < _; omega)).trans (by rw [World.cell?_alloc_past _ _ _ (by rw [size_alloc_]; omega), World.cell?_alloc_at _ _ _ _ rfl]; rfl)
  have ca1 : w3.cell? ⟨w.heap.size, 1, none⟩ = some (.int .i64 a.val) := (hB4.cell (p := ⟨_, _, none⟩) (by show w.heap.size < _; omega)).trans (by rw [World.cell?_alloc_past _ _ _ (by rw [size_alloc_]; omega), World.cell?_alloc_at _ _ _ _ rfl]; rfl)
  have ca2 : w3.cell? ⟨w.heap.size, 2, none⟩ = some (.bool a.neg) := (hB4.cell (p := ⟨_, _, none⟩) (by show w.heap.size < _; omega)).trans (by rw [World.cell?_alloc_past _ _ _ (by rw [size_alloc_]; omega), World.cell?_alloc_at _ _ _ _ rfl]; rfl)
  have cb0 : w3.cell? ⟨w.heap.size + 1, 0, none⟩ = some (.int .i64 b.var) := (hB4.cell (p := ⟨_, _, none⟩) (by show w.heap.size + 1 < _; omega)).trans (by rw [World.cell?_alloc_at _ _ _ _ (size_alloc_ _ _).symm]; rfl)
  have cb1 : w3.cell? ⟨w.heap.size + 1, 1, none⟩ = some (.int .i64 b.val) := (hB4.cell (p := ⟨_, _, none⟩) (by show w.heap.size + 1 < _; omega)).trans (by rw [World.cell?_alloc_at _ _ _ _ (size_alloc_ _ _).symm]; rfl)
  have cb2 : w3.cell? ⟨w.heap.size + 1, 2, none⟩ = some (.bool b.neg) := (hB4.cell (p := ⟨_, _, none⟩) (by show w.heap.size + 1 < _; omega)).trans (by rw [World.cell?_alloc_at _ _ _ _ (size_alloc_ _ _).symm]; rfl)
  have hz : ∀ w', (zeroValue 3).run Try.prog w' = .ok (.int .i64 0) w' := fun w' => by kernel_rfl
  have hlk : ∀ x : Bool, (Instr.lookup 72 (.map (some (w.heap.size + 1 + 1))) (.bool x) false).run Try.prog w3.drew = .ok (.int .i64 (bitI x)) w3.drew := fun x => by
    obtain ⟨c, h1, h2, _⟩ := ho3.drew.lookup_int (Maps.bool_keyed Try.underlying4) Try.underlying72 Try.underlying3 (hz _) (Maps.keyOf_bool_mk Try.underlying4 x)
    rw [h1]
    have e : (((DataW.map [] : DataW Unit).put (.bool true) (.lit (.int .i64 1))).atKey (.bool x) (.lit (.int .i64 0))) = .lit (.int .i64 (bitI x)) := by cases x <;> rfl
    rw [e] at h2
    injection h2 with h2
    injection h2 with _ h2
    rw [h2]
  clear hz hg3 hBm hB4 ho3 hsz hm0
  go_enter Try.func35, Try.ntmps35
  go_wp2_with fail
  refine wp_region_still_tail 19 (by kernel_rfl) (by kernel_rfl) ?_
  simp only [List.take_succ_cons, List.take_zero, List.drop_succ_cons, List.drop_zero]
  repeat still_step
  still_call (cmpCompare _ _ _)
  repeat still_step
  still_call (cmpCompare _ _ _)
  repeat still_step
  still_call (cmpCompare _ _ _)
  refine wpStill_nil ?_
  change wpList _ _ _ _ _ w3.drew
  have hB5 : Below w.heap.size w w3.drew := hB3.drew
  generalize w3.drew = w4 at hB5 ⊢
  clear hrun hB3 ca0 ca1 ca2 cb0 cb1 cb2 hlk hmm
  have hb6 := b_alloc w4 (.cells #[.int .i64 (cmpI a.var b.var), .int .i64 (cmpI a.val b.val), .int .i64 (cmpI (bitI a.neg) (bitI b.neg))] 3)
  have hr : IntR (w4.alloc (.cells #[.int .i64 (cmpI a.var b.var), .int .i64 (cmpI a.val b.val), .int .i64 (cmpI (bitI a.neg) (bitI b.neg))] 3)) (w4.alloc (.cells #[.int .i64 (cmpI a.var b.var), .int .i64 (cmpI a.val b.val), .int .i64 (cmpI (bitI a.neg) (bitI b.neg))] 3)).heap.size (some ⟨w4.heap.size, 0, none⟩) 3 [cmpI a.var b.var, cmpI a.val b.val, cmpI (bitI a.neg) (bitI b.neg)] := by
    refine ⟨rfl, by omega, fun _ => ⟨_, _, rfl, by rw [size_alloc_]; omega, fun k x hx => ⟨_, ?_, rfl⟩⟩⟩
    rw [World.cell?_alloc_at _ _ _ _ rfl]
    match k, hx with
    | 0, hx => simp at hx; subst hx; rfl
    | 1, hx => simp at hx; subst hx; rfl
    | 2, hx => simp at hx; subst hx; rfl
    | k + 3, hx => simp at hx
  have HR := Lib.hid hr
  clear hr
  go_wp2_with fail
  refine (cmpOr _ _ _ _ _ HR.out).mono ?_
  rintro e w5 ⟨rfl, hb7⟩
  go_wp2_with fail
  go_ret
  exact ⟨rfl, hB5.trans ((bgo hb6 hb7).mono hB5.size)⟩
theorem inRange_b (n lo hi : Int) (w : World) (b : Bool) (h : inB n lo hi = b) : Calls Try.prog 41 #[.int .i64 n, .int .i64 lo, .int .i64 hi] w fun e w' => e = .returned (.bool b) ∧ w = w' := by
  subst h; exact inRange n lo hi w
theorem literalLess_b (x y : Ltl) (w : World) (b : Bool) (h : ltlLess x y = b) : Calls Try.prog 43 #[.agg #[.int .i64 x.var, .int .i64 x.val, .bool x.neg], .agg #[.int .i64 y.var, .int .i64 y.val, .bool y.neg]] w fun e w' => e = .returned (.bool b) ∧ Below w.heap.size w w' := by
  subst h; exact literalLess x y w
theorem svalidClause (A : Option Addr) (n c : Nat) (m : Int) (xs : List Ltl) (w : World) (h : LitR w w.heap.size A n xs) :
    Calls Try.prog 42 #[.slice A n c, .int .i64 m] w fun e w' => e = .returned (.bool (vclF xs m)) ∧ Below w.heap.size w w' := by
  have hn := h.le
  have hl := Lib.hid h.len
  go_enter Try.func42, Try.ntmps42
  go_wp2_with fail
  go_loopw [5] (fun i wr => ∃ k : Nat, k ≤ n ∧ i = .int .i64 k ∧ Hid (OkTo xs (wrap64 (m - 1)) k) ∧ Below w.heap.size w wr) (fun i _ => n - (intOf i).toNat)
  case atStart => exact ⟨0, by omega, rfl, OkTo.zero _ _, Below.refl _ _⟩
  case round =>
    obtain ⟨k, hk, rfl, hq, hb⟩ := hrel
    by_cases hlt : k < n
    · obtain ⟨ab, ao, x, rfl, hab, hxk, hc0, hc1, hc2⟩ := LitR.at_ (h.below LitC.keeps hb) hlt
      have HX := Lib.hid hxk
      clear hxk
      have hw := hb.size
      have q0 : ∀ p : Later wr, p.val.cell? ⟨ab, ao + k * 3, none⟩ = some (.int .i64 x.var) := fun p => p.cell (by omega) hc0
      have q1 : ∀ p : Later wr, p.val.cell? ⟨ab, ao + k * 3 + 1, none⟩ = some (.int .i64 x.val) := fun p => p.cell (by omega) hc1
      have q2 : ∀ p : Later wr, p.val.cell? ⟨ab, ao + k * 3 + 2, none⟩ = some (.bool x.neg) := fun p => p.cell (by omega) hc2
      cases h1 : inB x.var 0 (wrap64 (m - 1))
      · have H1 := Lib.hid h1
        clear h1
        go_wp2_with fail
        refine wp_region_later (by kernel_rfl) (by kernel_rfl) ?_
        repeat (go_big_quiet_step (first | (go_at_call 41; exact calls_later_same (inRange_b _ _ _ _ _ H1.out))))
        refine wpQuiet_nil ?_
        intro w5 hw'
        obtain ⟨⟨w6, hb5⟩, hw''⟩ := hw'
        subst hw''
        go_wp2_with fail
        go_ret
        exact ⟨ret_bool (vclF_no hl.out hlt (okAt_f HX.out (by rw [H1.out]; rfl))).symm, bgo hb hb5⟩
      · have H1 := Lib.hid h1
        clear h1
        cases h2 : inB x.val 0 5
        · have H2 := Lib.hid h2
          clear h2
          go_wp2_with fail
          refine wp_region_later (by kernel_rfl) (by kernel_rfl) ?_
          repeat (go_big_quiet_step (first | (go_at_call 41; exact calls_later_same (inRange_b _ _ _ _ _ H1.out)) | (go_at_call 41; exact calls_later_same (inRange_b _ _ _ _ _ H2.out))))
          refine wpQuiet_nil ?_
          intro w5 hw'
          obtain ⟨⟨w6, hb5⟩, hw''⟩ := hw'
          subst hw''
          go_wp2_with fail
          go_ret
          exact ⟨ret_bool (vclF_no hl.out hlt (okAt_f HX.out (by rw [H1.out, H2.out]; rfl))).symm, bgo hb hb5⟩
        · have H2 := Lib.hid h2
          clear h2
          by_cases hk0 : k = 0
          · have hd : decide ((0 : Int) < (k : Int)) = false := by simp; omega
            have hd2 : decide (0 < k) = false := by simp; omega
            have H0 := Lib.hid hk0
            clear hk0
            go_wp2_with fail
            refine wp_region_later (by kernel_rfl) (by kernel_rfl) ?_
            repeat (go_big_quiet_step (first | (go_at_call 41; exact calls_later_same (inRange_b _ _ _ _ _ H1.out)) | (go_at_call 41; exact calls_later_same (inRange_b _ _ _ _ _ H2.out))))
            refine wpQuiet_nil ?_
            intro w5 hw'
            obtain ⟨⟨w6, hb5⟩, hw''⟩ := hw'
            subst hw''
            go_wp2_with fail
            go_roundw
            case rel => exact ⟨k + 1, by omega, by go_num, OkTo.succ hq.out ((okAt_z H0.out HX.out).trans (by rw [H1.out, H2.out]; rfl)), bgo hb hb5⟩
            case measure => simp [intOf]; omega
          · have hd : decide ((0 : Int) < (k : Int)) = true := by simp; omega
            have hd2 : decide (0 < k) = true := by simp; omega
            obtain ⟨ab', ao', y, he, -, hyk, hy0, hy1, hy2⟩ := LitR.at_ (i := k - 1) (h.below LitC.keeps hb) (by omega)
            injection he with he
            injection he with e1 e2
            subst e1 e2
            have HY := Lib.hid hyk
            clear hyk
            have r0 : ∀ p : Later wr, p.val.cell? ⟨ab, ao + (k - 1) * 3, none⟩ = some (.int .i64 y.var) := fun p => p.cell (by omega) hy0
            have r1 : ∀ p : Later wr, p.val.cell? ⟨ab, ao + (k - 1) * 3 + 1, none⟩ = some (.int .i64 y.val) := fun p => p.cell (by omega) hy1
            have r2 : ∀ p : Later wr, p.val.cell? ⟨ab, ao + (k - 1) * 3 + 2, none⟩ = some (.bool y.neg) := fun p => p.cell (by omega) hy2
            cases h4 : ltlLess y x
            · have H4 := Lib.hid h4
              clear h4
              go_wp2_with fail
              refine wp_region_later (by kernel_rfl) (by kernel_rfl) ?_
              repeat (go_big_quiet_step (first | (go_at_call 41; exact calls_later_same (inRange_b _ _ _ _ _ H1.out)) | (go_at_call 41; exact calls_later_same (inRange_b _ _ _ _ _ H2.out)) | (go_at_call 43; exact calls_later (literalLess_b _ _ _ _ H4.out))))
              refine wpQuiet_nil ?_
              intro w5 hw'
              obtain ⟨⟨w6, hb5⟩, hw''⟩ := hw'
              subst hw''
              go_wp2_with fail
              go_ret
              exact ⟨ret_bool (vclF_no hl.out hlt ((okAt_p (by omega) HX.out HY.out).trans (by rw [H1.out, H2.out, H4.out]; rfl))).symm, bgo hb hb5⟩
            · have H4 := Lib.hid h4
              clear h4
              go_wp2_with fail
              refine wp_region_later (by kernel_rfl) (by kernel_rfl) ?_
              repeat (go_big_quiet_step (first | (go_at_call 41; exact calls_later_same (inRange_b _ _ _ _ _ H1.out)) | (go_at_call 41; exact calls_later_same (inRange_b _ _ _ _ _ H2.out)) | (go_at_call 43; exact calls_later (literalLess_b _ _ _ _ H4.out))))
              refine wpQuiet_nil ?_
              intro w5 hw'
              obtain ⟨⟨w6, hb5⟩, hw''⟩ := hw'
              subst hw''
              go_wp2_with fail
              go_roundw
              case rel => exact ⟨k + 1, by omega, by go_num, OkTo.succ hq.out ((okAt_p (by omega) HX.out HY.out).trans (by rw [H1.out, H2.out, H4.out]; rfl)), bgo hb hb5⟩
              case measure => simp [intOf]; omega
    · obtain rfl : k = n := by omega
      go_wp2_with fail
      go_ret
      refine ⟨ret_bool ?_, hb⟩
      unfold vclF
      rw [OkTo.done hq.out hl.out, hl.out]
      simp
      omega
theorem eqLiteral_b (a b : Ltl) (w : World) (r : Bool) (h : decide (a = b) = r) : Calls Try.prog 29 #[.agg #[.int .i64 a.var, .int .i64 a.val, .bool a.neg], .agg #[.int .i64 b.var, .int .i64 b.val, .bool b.neg]] w fun e w' => e = .returned (.bool r) ∧ Below w.heap.size w w' := by
  subst h; exact eqLiteral a b w
theorem eqLiteralS (A B : Option Addr) (n m c d : Nat) (xs ys : List Ltl) (w : World) (hx : LitR w w.heap.size A n xs) (hy : LitR w w.heap.size B m ys) :
    Calls Try.prog 10 #[.slice A n c, .slice B m d] w fun e w' => e = .returned (.bool (decide (xs = ys))) ∧ Below w.heap.size w w' := by
  have hn := hx.le
  have hm := hy.le
  have hlx := Lib.hid hx.len
  have hly := Lib.hid hy.len
  by_cases hnm : n = m
  · subst hnm
    have hne : ((n : Int) != (n : Int)) = false := by simp
    go_enter Try.func10, Try.ntmps10
    go_wp2_with fail
    go_loopw [5] (fun i wr => ∃ k : Nat, k ≤ n ∧ i = .int .i64 k ∧ Hid (EqB xs ys k) ∧ Below w.heap.size w wr) (fun i _ => n - (intOf i).toNat)
    case atStart => exact ⟨0, by omega, rfl, EqB.zero _ _, Below.refl _ _⟩
    case round =>
      obtain ⟨k, hk, rfl, hq, hb⟩ := hrel
      by_cases hlt : k < n
      · obtain ⟨ab, ao, x, rfl, hab, hxk, hx0, hx1, hx2⟩ := LitR.at_ (hx.below LitC.keeps hb) hlt
        obtain ⟨bb, bo, y, rfl, hbb, hyk, hy0, hy1, hy2⟩ := LitR.at_ (hy.below LitC.keeps hb) hlt
        have HX := Lib.hid hxk
        have HY := Lib.hid hyk
        clear hxk hyk
        have hw := hb.size
        have q0 : ∀ p : Later wr, p.val.cell? ⟨ab, ao + k * 3, none⟩ = some (.int .i64 x.var) := fun p => p.cell (by omega) hx0
        have q1 : ∀ p : Later wr, p.val.cell? ⟨ab, ao + k * 3 + 1, none⟩ = some (.int .i64 x.val) := fun p => p.cell (by omega) hx1
        have q2 : ∀ p : Later wr, p.val.cell? ⟨ab, ao + k * 3 + 2, none⟩ = some (.bool x.neg) := fun p => p.cell (by omega) hx2
        have r0 : ∀ p : Later wr, p.val.cell? ⟨bb, bo + k * 3, none⟩ = some (.int .i64 y.var) := fun p => p.cell (by omega) hy0
        have r1 : ∀ p : Later wr, p.val.cell? ⟨bb, bo + k * 3 + 1, none⟩ = some (.int .i64 y.val) := fun p => p.cell (by omega) hy1
        have r2 : ∀ p : Later wr, p.val.cell? ⟨bb, bo + k * 3 + 2, none⟩ = some (.bool y.neg) := fun p => p.cell (by omega) hy2
        cases he : decide (x = y)
        · have HE := Lib.hid he
          clear he
          go_wp2_with fail
          refine wp_region_later (by kernel_rfl) (by kernel_rfl) ?_
          repeat (go_big_quiet_step (first | (go_at_call 29; exact calls_later (eqLiteral_b _ _ _ _ HE.out))))
          refine wpQuiet_nil ?_
          intro w5 hw'
          obtain ⟨⟨w6, hb5⟩, hw''⟩ := hw'
          subst hw''
          go_wp2_with fail
          go_ret
          exact ⟨ret_bool (decide_eq_false (ne_of_at HX.out HY.out (of_decide_eq_false HE.out))).symm, bgo hb hb5⟩
        · have HE := Lib.hid he
          clear he
          go_wp2_with fail
          refine wp_region_later (by kernel_rfl) (by kernel_rfl) ?_
          repeat (go_big_quiet_step (first | (go_at_call 29; exact calls_later (eqLiteral_b _ _ _ _ HE.out))))
          refine wpQuiet_nil ?_
          intro w5 hw'
          obtain ⟨⟨w6, hb5⟩, hw''⟩ := hw'
          subst hw''
          go_wp2_with fail
          go_roundw
          case rel => exact ⟨k + 1, by omega, by go_num, EqB.succ hq.out (by rw [HX.out, HY.out, of_decide_eq_true HE.out]), bgo hb hb5⟩
          case measure => simp [intOf]; omega
      · obtain rfl : k = n := by omega
        go_wp2_with fail
        go_ret
        exact ⟨ret_bool (decide_eq_true (EqB.done hq.out hlx.out hly.out)).symm, hb⟩
  · have hne : ((n : Int) != (m : Int)) = true := by simp; omega
    have HN := Lib.hid hnm
    clear hnm
    go_enter Try.func10, Try.ntmps10
    go_wp2_with fail
    go_ret
    exact ⟨ret_bool (decide_eq_false (fun h => HN.out (by rw [← hlx.out, ← hly.out, h]))).symm, Below.refl _ _⟩
end Go.Proofs.Ytjkgndedffildaa
