/- What impl's Resolve calls: the library at literals. -/
import Derived.Test.YtjkgndedffildaaSrt
import Derived.Test.YtjkgndedffildaaResS
import Derived.Lib.SliceRun
namespace Go.Proofs.Ytjkgndedffildaa
open Go.ChangeShapes Go.WideShapes Go.ChangeAt Go.RowKit
open Go.Shelf
set_option linter.unusedVariables false
set_option maxRecDepth 100000

theorem inegated (l : Ltl) (w : World) : Calls Try.prog 22 #[.agg #[.int .i64 l.var, .int .i64 l.val, .bool l.neg]] w fun e w' => e = .returned (.agg #[.int .i64 l.var, .int .i64 l.val, .bool !l.neg]) ∧ Below w.heap.size w w' := by
  go_enter Try.func22, Try.ntmps22
  go_wp2_with fail
  have hB : Below w.heap.size w ((w.alloc (.cells #[.int .i64 l.var, .int .i64 l.val, .bool !l.neg] 30)).alloc (.cells #[.int .i64 l.var, .int .i64 l.val, .bool !l.neg] 30)) := (b_alloc _ _).trans ((b_alloc _ _).mono (by rw [size_alloc_]; omega))
  have hT := TBlk.new (w.alloc (.cells #[.int .i64 l.var, .int .i64 l.val, .bool !l.neg] 30)) #[.int .i64 l.var, .int .i64 l.val, .bool !l.neg] 30
  rw [size_alloc_] at hT
  have c0 := hT.at_ 0 rfl
  have c1 := hT.at_ 1 rfl
  have c2 := hT.at_ 2 rfl
  simp only [List.getElem_toArray, List.getElem_cons_zero, List.getElem_cons_succ] at c0 c1 c2
  refine bodyPost_ret (v := .agg #[.int .i64 l.var, .int .i64 l.val, .bool !l.neg]) ?_ rfl ⟨rfl, hB⟩
  simp [results, Try.results22, go_sem, asAddr, loadVar, c0, c1, c2]
theorem iother (l : Ltl) (w : World) : Calls Try.prog 23 #[.agg #[.int .i64 l.var, .int .i64 l.val, .bool l.neg]] w fun e w' => e = .returned (.func (.func 24) #[] #[.pointer (some ⟨w.heap.size, 0, none⟩)]) ∧ w' = w.alloc (.cells #[.int .i64 l.var, .int .i64 l.val, .bool l.neg] 30) := by
  go_enter Try.func23, Try.ntmps23
  go_wp2_with fail
  go_ret
  exact ⟨rfl, rfl⟩
theorem iother1 (x l : Ltl) (b : Nat) (w : World) (hT : TBlk 30 w b #[.int .i64 l.var, .int .i64 l.val, .bool l.neg]) : Calls Try.prog 24 (#[.agg #[.int .i64 x.var, .int .i64 x.val, .bool x.neg]] ++ #[.pointer (some ⟨b, 0, none⟩)]) w fun e w' => e = .returned (.bool (decide (x = l))) ∧ Below w.heap.size w w' := by
  have hT1 := hT.alloc_ (.cells #[.int .i64 x.var, .int .i64 x.val, .bool x.neg] 30)
  have q0 := hT1.at_ 0 rfl
  have q1 := hT1.at_ 1 rfl
  have q2 := hT1.at_ 2 rfl
  simp only [List.getElem_toArray, List.getElem_cons_zero, List.getElem_cons_succ] at q0 q1 q2
  obtain ⟨r, hr⟩ : ∃ r, decide (x = l) = r := ⟨_, rfl⟩
  have heq := fun w => lit_eql x l w r hr
  have hgu := lit_guard
  rw [hr]
  clear hT hT1 hr
  go_enter Try.func24, Try.ntmps24
  go_wp2_with fail
  go_ret
  exact ⟨rfl, b_alloc _ _⟩
/-- block g holds the literals ys at its head. -/
def LBk (w : World) (g n : Nat) (ys : List Ltl) : Prop := ∃ cur : Array Value, TBlk 30 w g cur ∧ ys.length = n ∧ cur.toList.take (n * 3) = ys.flatMap ltlCs
theorem ltl3 : ∀ x, (ltlCs x).length = 3 := fun _ => rfl
section
variable {w w' : World} {g n : Nat} {ys : List Ltl}
theorem LBk.of_hold {base c : Nat} (h : HoldR w base 30 3 (.slice (some ⟨g, 0, none⟩) n c) n (ys.flatMap ltlCs)) (hl : ys.length = n) : LBk w g n ys ∧ base ≤ g ∧ n ≤ c ∧ c ≤ maxLen := by
  rcases h.2 with ⟨h1, h2⟩ | ⟨g', cap, cur, h1, h2, h3, h4, h5, h6⟩
  · cases h1
  · injection h1 with e1 e2 e3
    injection e1 with e1
    injection e1 with e1
    subst e1 e3
    exact ⟨⟨cur, h3, hl, h6⟩, h2, h4, h5⟩
theorem LBk.hold {base c : Nat} (h : LBk w g n ys) (hb : base ≤ g) (hc : n ≤ c) (hm : c ≤ maxLen) : HoldR w base 30 3 (.slice (some ⟨g, 0, none⟩) n c) n (ys.flatMap ltlCs) := by
  obtain ⟨cur, h1, h2, h3⟩ := h
  exact ⟨by rw [flatMap_len ltlCs 3 ltl3, h2], .inr ⟨g, c, cur, rfl, hb, h1, hc, hm, h3⟩⟩
theorem LBk.heap (h : LBk w g n ys) (hb : w'.heap[g]? = w.heap[g]?) : LBk w' g n ys := by obtain ⟨cur, h1, h2⟩ := h; exact ⟨cur, hb.trans h1, h2⟩
theorem LBk.lt (h : LBk w g n ys) : g < w.heap.size := by obtain ⟨cur, h1, h2⟩ := h; exact h1.lt
theorem LBk.size {cur : Array Value} (h3 : cur.toList.take (n * 3) = ys.flatMap ltlCs) (h2 : ys.length = n) : n * 3 ≤ cur.size := by
  have := congrArg List.length h3
  rw [List.length_take, flatMap_len ltlCs 3 ltl3, h2] at this
  simp at this; omega
theorem LBk.cell (h : LBk w g n ys) {i j : Nat} {x : Ltl} (hx : ys[i]? = some x) (hj : j < 3) : w.cell? ⟨g, i * 3 + j, none⟩ = (ltlCs x)[j]? := by
  obtain ⟨cur, h1, h2, h3⟩ := h
  have hi : i < n := by rw [← h2]; exact (List.getElem?_eq_some_iff.1 hx).1
  have := flatMap_at ltlCs 3 ltl3 ys hx hj
  rw [← h3, List.getElem?_take_of_lt (by omega), Array.getElem?_toList] at this
  rw [← this]
  rw [cell_of_row w g _ cur _ _ h1]
theorem LBk.frozen (h : LBk w g n ys) (j : Nat) : w.frozen? ⟨g, j, none⟩ = false := by obtain ⟨cur, h1, h2⟩ := h; exact h1.frozen j
theorem LBk.cells (h : LBk w g n ys) {i : Nat} {x : Ltl} (hx : ys[i]? = some x) : w.cell? ⟨g, i * 3, none⟩ = some (.int .i64 x.var) ∧ w.cell? ⟨g, i * 3 + 1, none⟩ = some (.int .i64 x.val) ∧ w.cell? ⟨g, i * 3 + 2, none⟩ = some (.bool x.neg) :=
  ⟨h.cell (j := 0) hx (by omega), h.cell (j := 1) hx (by omega), h.cell (j := 2) hx (by omega)⟩
theorem LBk.some_ (h : LBk w g n ys) {t : Nat} (ht : t < n * 3) : (w.cell? ⟨g, t, none⟩).isSome = true := by
  obtain ⟨cur, h1, h2, h3⟩ := h
  have := LBk.size h3 h2
  rw [cell_of_row w g t cur _ _ h1, Array.getElem?_eq_getElem (by omega)]; rfl
/-- one literal is stored. -/
theorem LBk.put (h : LBk w g n ys) (i : Nat) (x : Ltl) : LBk (((w.setCell ⟨g, i * 3, none⟩ (.int .i64 x.var)).setCell ⟨g, i * 3 + 1, none⟩ (.int .i64 x.val)).setCell ⟨g, i * 3 + 2, none⟩ (.bool x.neg)) g n (ys.set i x) := by
  obtain ⟨cur, h1, h2, h3⟩ := h
  have hs := LBk.size h3 h2
  refine ⟨_, ((h1.store (i * 3) _).store (i * 3 + 1) _).store (i * 3 + 2) _, by simpa using h2, ?_⟩
  refine List.ext_getElem? fun t => ?_
  rw [List.getElem?_take]
  split
  · rename_i ht
    have hq : t / 3 < ys.length := by omega
    have hy : ys[t / 3]? = some ys[t / 3] := List.getElem?_eq_getElem hq
    have hold := flatMap_at ltlCs 3 ltl3 ys hy (show t % 3 < 3 by omega)
    rw [show t / 3 * 3 + t % 3 = t by omega, ← h3, List.getElem?_take_of_lt ht, Array.getElem?_toList] at hold
    rw [Array.getElem?_toList]
    by_cases e : t / 3 = i
    · have hy2 : (ys.set i x)[t / 3]? = some x := by rw [e, List.getElem?_set_self (by omega)]
      have hnew := flatMap_at ltlCs 3 ltl3 (ys.set i x) hy2 (show t % 3 < 3 by omega)
      rw [show t / 3 * 3 + t % 3 = t by omega] at hnew
      rw [hnew]
      have h012 : t = i * 3 ∨ t = i * 3 + 1 ∨ t = i * 3 + 2 := by omega
      rcases h012 with r | r | r
      · rw [Array.getElem?_setIfInBounds_ne (by omega), Array.getElem?_setIfInBounds_ne (by omega), r, Array.getElem?_setIfInBounds_self, if_pos (by omega), show i * 3 % 3 = 0 by omega]; rfl
      · rw [Array.getElem?_setIfInBounds_ne (by omega), r, Array.getElem?_setIfInBounds_self, if_pos (by simp; omega), show (i * 3 + 1) % 3 = 1 by omega]; rfl
      · rw [r, Array.getElem?_setIfInBounds_self, if_pos (by simp; omega), show (i * 3 + 2) % 3 = 2 by omega]; rfl
    · have hy2 : (ys.set i x)[t / 3]? = some ys[t / 3] := by rw [List.getElem?_set_ne (fun e2 => e e2.symm), hy]
      have hnew := flatMap_at ltlCs 3 ltl3 (ys.set i x) hy2 (show t % 3 < 3 by omega)
      rw [show t / 3 * 3 + t % 3 = t by omega] at hnew
      rw [hnew, Array.getElem?_setIfInBounds_ne (by omega), Array.getElem?_setIfInBounds_ne (by omega), Array.getElem?_setIfInBounds_ne (by omega), hold]
  · rename_i ht
    rw [List.getElem?_eq_none (by rw [flatMap_len ltlCs 3 ltl3]; simp; omega)]
theorem setCells_blk {t : TypeId} {g : Nat} : ∀ (vs : List Value) (o : Nat) (w : World) (cur : Array Value), TBlk t w g cur → (∃ cur' : Array Value, TBlk t (w.setCells g o vs) g cur' ∧ ∀ j, j < o → cur'[j]? = cur[j]?) ∧ w.grownBy (w.setCells g o vs) (some g)
  | [], o, w, cur, h => ⟨⟨cur, h, fun _ _ => rfl⟩, grown_refl _ _⟩
  | v :: r, o, w, cur, h => by
    obtain ⟨⟨cur', h1, h2⟩, h3⟩ := setCells_blk r (o + 1) (w.setCell ⟨g, o, none⟩ v) _ (h.store o v)
    rw [World.setCells]
    refine ⟨⟨cur', h1, fun j hj => (h2 j (by omega)).trans (Array.getElem?_setIfInBounds_ne (by omega))⟩, ⟨h3.os, h3.tape, h3.output, ?_, fun k hk hne => ?_⟩⟩
    · have := h3.size; exact Nat.le_trans (by simp) this
    · exact (h3.block k (by simpa using hk) hne).trans (Below.heap_setCell w ⟨g, o, none⟩ v k (fun e => hne (by rw [e])))
/-- the tail is cleared, the head stays. -/
theorem LBk.clear (h : LBk w g n ys) {m : Nat} (hm : m < n) (t e : TypeId) (z : Value) (ht : Try.prog.underlying t = some (.slice e)) (hz : ∀ w, (zeroValue e).run Try.prog w = .ok z w) (hz3 : z.cells.size = 3) (h1 : ∀ u ∈ z.cells, u.oneCell' = true) (c : Nat) :
    ∃ w', (∀ ty, (Builtin.clear_ #[t] ty #[.slice (some ⟨g, m * 3, none⟩) (n - m) c]).run Try.prog w = .ok (.tuple #[]) w') ∧ LBk w' g m (ys.take m) ∧ w.grownBy w' (some g) := by
  have hzs : (Builtin.zeroCells z.cells (n - m)).toList.length = (n - m) * 3 := by simp [Builtin.zeroCells, hz3]
  have hst := run_storeCells_cells (P := Try.prog) g (m * 3) (Builtin.zeroCells z.cells (n - m)).toList 0 w (fun j hj => by
    rw [hzs] at hj
    simpa using h.some_ (t := m * 3 + j) (by omega)) (fun j hj => by simpa using h.frozen (m * 3 + j)) (fun v hv => by
    simp only [Builtin.zeroCells, Array.toList_map, List.mem_map] at hv
    obtain ⟨q, hq, rfl⟩ := hv
    exact h1 _ (by
      have : q % z.cells.size < z.cells.size := Nat.mod_lt _ (by omega)
      rw [getElem!_pos z.cells _ this]; exact Array.getElem_mem this))
  obtain ⟨cur, g1, g2, g3⟩ := h
  obtain ⟨⟨cur', k1, k2⟩, k3⟩ := setCells_blk (Builtin.zeroCells z.cells (n - m)).toList (m * 3) w cur g1
  refine ⟨w.setCells g (m * 3) (Builtin.zeroCells z.cells (n - m)).toList, ?_, ⟨cur', k1, by simp [g2]; omega, ?_⟩, k3⟩
  · intro ty
    simp only [Nat.add_zero] at hst
    obtain ⟨q, hq⟩ : ∃ q, n - m = q + 1 := ⟨n - m - 1, by omega⟩
    rw [hq] at hst ⊢
    simp [Builtin.clear_, run_underlying ht, hz, hst]
  · have hs := LBk.size g3 g2
    refine List.ext_getElem? fun t => ?_
    rw [List.getElem?_take]
    split
    · rename_i htt
      rw [Array.getElem?_toList, k2 t htt]
      have hy : (ys.take m)[t / 3]? = some (ys[t / 3]'(by omega)) := by rw [List.getElem?_take_of_lt (by omega)]; exact List.getElem?_eq_getElem _
      have hy2 : ys[t / 3]? = some (ys[t / 3]'(by omega)) := List.getElem?_eq_getElem _
      have h5 := flatMap_at ltlCs 3 ltl3 _ hy (show t % 3 < 3 by omega)
      have h6 := flatMap_at ltlCs 3 ltl3 _ hy2 (show t % 3 < 3 by omega)
      rw [show t / 3 * 3 + t % 3 = t by omega] at h5 h6
      rw [h5, ← h6, ← g3, List.getElem?_take_of_lt (by omega), Array.getElem?_toList]
    · rw [List.getElem?_eq_none (by rw [flatMap_len ltlCs 3 ltl3]; simp; omega)]
end
theorem gro_trans {w w1 w2 : World} {g : Nat} (h : w.grownBy w1 (some g)) (k : w1.grownBy w2 (some g)) : w.grownBy w2 (some g) :=
  ⟨k.os.trans h.os, k.tape.trans h.tape, k.output.trans h.output, Nat.le_trans h.size k.size, fun i hi hne => (k.block i (Nat.lt_of_lt_of_le hi h.size) hne).trans (h.block i hi hne)⟩
theorem gro_below {w w1 : World} (g : Nat) (h : Below w.heap.size w w1) : w.grownBy w1 (some g) := ⟨h.os, h.tape, h.output, h.size, fun i hi _ => h.block i hi⟩
theorem gro_set (w : World) (g j : Nat) (v : Value) : w.grownBy (w.setCell ⟨g, j, none⟩ v) (some g) := ⟨rfl, rfl, rfl, by simp, fun k hk hne => Below.heap_setCell w ⟨g, j, none⟩ v k (fun e => hne (by rw [e]))⟩
theorem gro_down {w w1 : World} {g B : Nat} (h : w.grownBy w1 (some g)) (hB : B ≤ g) (hBs : B ≤ w.heap.size) : Below B w w1 := ⟨h.os, h.tape, h.output, h.size, fun i hi => h.block i (by omega) (fun e => by injection e; omega)⟩
theorem indexLitX (A : Option Addr) (n c : Nat) (xs : List Ltl) (g : Nat) (lb : Array Value) (p : Ltl → Bool) (w : World) (eg : ∀ args w, (callFunc g args).run Try.prog w = .ok (.enter g args) w)
    (h : LitR w w.heap.size A n xs) (hp : ∀ x W, Below w.heap.size w W → Calls Try.prog g (#[.agg #[.int .i64 x.var, .int .i64 x.val, .bool x.neg]] ++ lb) W fun e W' => e = .returned (.bool (p x)) ∧ Below W.heap.size W W') :
    Calls Try.prog 49 #[.slice A n c, .func (.func g) #[] lb] w fun e w' => Below w.heap.size w w' ∧ ((e = .returned (.int .i64 (-1)) ∧ ∀ x ∈ xs, p x = false) ∨ ∃ (k : Nat) (x : Ltl), e = .returned (.int .i64 k) ∧ xs[k]? = some x ∧ p x = true ∧ AllB (fun x => !p x) xs k) := by
  have hn := h.le
  have hl := Lib.hid h.len
  have HP := Lib.hid hp
  clear hp
  go_enter Try.func49, Try.ntmps49
  go_wp2_with fail
  go_loopw [8] (fun i wr => ∃ k : Nat, k ≤ n ∧ i = .int .i64 k ∧ Hid (AllB (fun x => !p x) xs k) ∧ Below w.heap.size w wr) (fun i _ => n - (intOf i).toNat)
  case atStart => exact ⟨0, by omega, rfl, AllB.zero _ _, Below.refl _ _⟩
  case round =>
    obtain ⟨k, hk, rfl, hq, hb⟩ := hrel
    by_cases hlt : k < n
    · obtain ⟨ab, ao, x, rfl, hab, hxk, hc0, hc1, hc2⟩ := LitR.at_ (h.below LitC.keeps hb) hlt
      have HX := Lib.hid hxk
      clear hxk
      cases hpx : p x
      · have HF := Lib.hid hpx
        clear hpx
        go_wp2_with fail
        refine (HP.out x _ hb).mono ?_
        rw [HF.out]
        rintro e w1 ⟨rfl, hb1⟩
        go_wp2_with fail
        go_roundw
        case rel => exact ⟨k + 1, by omega, by go_num, AllB.succ hq.out HX.out (by simp [HF.out]), bgo hb hb1⟩
        case measure => simp [intOf]; omega
      · have HF := Lib.hid hpx
        clear hpx
        go_wp2_with fail
        refine (HP.out x _ hb).mono ?_
        rw [HF.out]
        rintro e w1 ⟨rfl, hb1⟩
        go_wp2_with fail
        go_ret
        exact ⟨bgo hb hb1, .inr ⟨k, x, rfl, HX.out, HF.out, hq.out⟩⟩
    · obtain rfl : k = n := by omega
      go_wp2_with fail
      go_ret
      refine ⟨hb, .inl ⟨rfl, ?_⟩⟩
      have := AllB.done hq.out (Nat.le_of_eq hl.out)
      rw [List.all_eq_true] at this
      exact fun x hx => by simpa using this x hx
theorem fil_take {xs : List Ltl} {p : Ltl → Bool} {j : Nat} {x : Ltl} (hx : xs[j]? = some x) : (xs.take (j + 1)).filter (fun x => !p x) = if p x = true then (xs.take j).filter (fun x => !p x) else (xs.take j).filter (fun x => !p x) ++ [x] := by
  rw [List.take_add_one, hx, List.filter_append]
  cases h : p x <;> simp [h]
theorem fil_lt {xs : List Ltl} {p : Ltl → Bool} {k : Nat} {x : Ltl} (hx : xs[k]? = some x) (h : AllB (fun x => !p x) xs k) : (xs.take k).filter (fun x => !p x) = xs.take k := by
  refine List.filter_eq_self.2 fun y hy => ?_
  obtain ⟨i, hi, e⟩ := List.getElem_of_mem hy
  rw [List.length_take] at hi
  rw [List.getElem_take] at e
  exact h i y (by omega) (by rw [List.getElem?_eq_getElem (by omega), e])
set_option maxHeartbeats 4000000 in
theorem deleteLit (base gb n c : Nat) (xs : List Ltl) (g : Nat) (lb : Array Value) (p : Ltl → Bool) (w : World) (eg : ∀ args w, (callFunc g args).run Try.prog w = .ok (.enter g args) w)
    (h : HoldR w base 30 3 (.slice (some ⟨gb, 0, none⟩) n c) n (xs.flatMap ltlCs)) (hl : xs.length = n) (hn : n ≤ 1000) (hp : ∀ x W, w.grownBy W (some gb) → Calls Try.prog g (#[.agg #[.int .i64 x.var, .int .i64 x.val, .bool x.neg]] ++ lb) W fun e W' => e = .returned (.bool (p x)) ∧ Below W.heap.size W W') :
    Calls Try.prog 27 #[.slice (some ⟨gb, 0, none⟩) n c, .func (.func g) #[] lb] w fun e w' => e = .returned (.slice (some ⟨gb, 0, none⟩) (xs.filter fun x => !p x).length c) ∧ HoldR w' base 30 3 (.slice (some ⟨gb, 0, none⟩) (xs.filter fun x => !p x).length c) (xs.filter fun x => !p x).length ((xs.filter fun x => !p x).flatMap ltlCs) ∧ w.grownBy w' (some gb) := by
  obtain ⟨hL, hbg, hnc, hcm⟩ := LBk.of_hold h hl
  obtain ⟨A', c', e', hr⟩ := LitR.of_hold hl h (by omega)
  injection e' with e1 e2 e3
  subst e1 e3
  have hcm2 : c ≤ 9223372036854775807 := hcm
  have HP := Lib.hid hp
  have HG := Lib.hid eg
  have HXL := Lib.hid hl
  have HL := Lib.hid hL
  have HH := Lib.hid h
  clear hp hl h hL
  go_enter Try.func27, Try.ntmps27
  go_wp2_with fail
  refine (indexLitX _ n c xs g lb p w HG.out hr (fun x W hb => HP.out x W (gro_below gb hb))).mono ?_
  rintro e W1 ⟨hB1, ⟨rfl, hnone⟩ | ⟨k, x, rfl, hxk, hpx, hall⟩⟩
  · have hfx : (xs.filter fun x => !p x) = xs := List.filter_eq_self.2 fun y hy => by rw [hnone y hy]; rfl
    have HF := Lib.hid hfx
    clear hnone hfx hr
    go_wp2_with fail
    go_ret
    rw [HF.out, HXL.out]
    exact ⟨rfl, HoldR.below HH.out hB1, gro_below gb hB1⟩
  · have hkn : k < n := by rw [← HXL.out]; exact (List.getElem?_eq_some_iff.1 hxk).1
    have HK := Lib.hid (And.intro hxk (And.intro hpx hall))
    have hkm : ((k : Int) == -1) = false := by rw [beq_eq_false_iff_ne]; omega
    clear hxk hpx hall hr
    go_wp2_with fail
    clear hkm
    go_loopw [5, 6] (fun t5 t6 wr => ∃ (i j : Nat) (ys : List Ltl), i < j ∧ j ≤ n ∧ t5 = .int .i64 i ∧ t6 = .int .i64 j ∧ Hid (LBk wr gb n ys) ∧ Hid (ys.take i = (xs.take j).filter fun x => !p x) ∧ Hid (∀ q, j ≤ q → ys[q]? = xs[q]?) ∧ Hid (i ≤ n) ∧ Hid (w.grownBy wr (some gb))) (fun _ t6 _ => n - (intOf t6).toNat)
    case atStart =>
      refine ⟨k, k + 1, xs, by omega, by omega, rfl, rfl, HL.out.heap (hB1.block _ HL.out.lt), Lib.hid ?_, Lib.hid fun q _ => rfl, Lib.hid (by omega), gro_below gb hB1⟩
      rw [fil_take HK.out.1, if_pos HK.out.2.1, fil_lt HK.out.1 HK.out.2.2]
    case round =>
      obtain ⟨i, j, ys, hij, hjn, rfl, rfl, hLB, htk, hdr, hin, hgr⟩ := hrel
      by_cases hlt : j < n
      · obtain ⟨y, hy⟩ : ∃ y, xs[j]? = some y := ⟨_, List.getElem?_eq_getElem (by have := HXL.out; omega)⟩
        have hyy : ys[j]? = some y := by rw [hdr.out j (Nat.le_refl _)]; exact hy
        obtain ⟨c0, c1, c2⟩ := hLB.out.cells hyy
        have HY := Lib.hid hy
        have hgl := hLB.out.lt
        clear hy hyy
        have hbA : Below wr.heap.size wr (wr.alloc (.cells #[.int .i64 y.var, .int .i64 y.val, .bool y.neg] 30)) := b_alloc _ _
        have htA : TBlk 30 (wr.alloc (.cells #[.int .i64 y.var, .int .i64 y.val, .bool y.neg] 30)) wr.heap.size #[.int .i64 y.var, .int .i64 y.val, .bool y.neg] := TBlk.new _ _ _
        have hgA := gro_trans hgr.out (gro_below gb hbA)
        cases hpy : p y
        · have HF := Lib.hid hpy
          clear hpy
          go_wp2_with fail
          refine (HP.out y _ hgA).mono ?_
          rw [HF.out]
          rintro e w1 ⟨rfl, hb1⟩
          have hb2 := bgo hbA hb1
          have hLB1 := hLB.out.heap (hb2.block _ hgl)
          have hT1 := htA.below_ hb1 htA.lt
          have q0 := hT1.at_ 0 rfl
          have q1 := hT1.at_ 1 rfl
          have q2 := hT1.at_ 2 rfl
          simp only [List.getElem_toArray, List.getElem_cons_zero, List.getElem_cons_succ] at q0 q1 q2
          obtain ⟨z, hz⟩ : ∃ z, ys[i]? = some z := ⟨_, List.getElem?_eq_getElem (by have := hLB1.choose_spec.2.1; omega)⟩
          obtain ⟨d0, d1, d2⟩ := hLB1.cells hz
          have f0 := hLB1.frozen (i * 3)
          have f1 := hLB1.frozen (i * 3 + 1)
          have f2 := hLB1.frozen (i * 3 + 2)
          have hLN := Lib.hid (hLB1.put i y)
          have hgN := Lib.hid (gro_trans (gro_trans (gro_trans (gro_trans hgA (gro_below gb hb1)) (gro_set w1 gb (i * 3) (.int .i64 y.var))) (gro_set _ gb (i * 3 + 1) (.int .i64 y.val))) (gro_set _ gb (i * 3 + 2) (.bool y.neg)))
          have htN : Hid ((ys.set i y).take (i + 1) = (xs.take (j + 1)).filter fun x => !p x) := Lib.hid (by
            rw [fil_take HY.out, HF.out, if_neg (by decide), ← htk.out, List.take_add_one, List.getElem?_set_self (List.getElem?_eq_some_iff.1 hz).1, List.take_set_of_le (Nat.le_refl _)]; rfl)
          have hdN : Hid (∀ q, j + 1 ≤ q → (ys.set i y)[q]? = xs[q]?) := Lib.hid fun q hq => by rw [List.getElem?_set_ne (by omega)]; exact hdr.out q (by omega)
          clear hLB1 hT1 hb2 hb1 hbA htA hgA hz c0 c1 c2
          go_wp2_with fail
          go_roundw
          case rel => exact ⟨i + 1, j + 1, ys.set i y, by omega, by omega, by go_num, by go_num, hLN.out, htN.out, hdN.out, Lib.hid (by omega), hgN.out⟩
          case measure => simp [intOf]; omega
        · have HF := Lib.hid hpy
          clear hpy
          go_wp2_with fail
          refine (HP.out y _ hgA).mono ?_
          rw [HF.out]
          rintro e w1 ⟨rfl, hb1⟩
          have hLN := Lib.hid (hLB.out.heap ((bgo hbA hb1).block _ hgl))
          have hgN := Lib.hid (gro_trans hgA (gro_below gb hb1))
          clear hb1 hbA htA hgA
          go_wp2_with fail
          go_roundw
          case rel => exact ⟨i, j + 1, ys, by omega, by omega, rfl, by go_num, hLN.out, by rw [fil_take HY.out, if_pos HF.out]; exact htk.out, Lib.hid fun q hq => hdr.out q (by omega), hin, hgN.out⟩
          case measure => simp [intOf]; omega
      · obtain rfl : j = n := by omega
        have hzv : ∀ w, (zeroValue 30).run Try.prog w = .ok (.agg #[.int .i64 0, .int .i64 0, .bool false]) w := fun w => by
          obtain ⟨i0, hi0, hz0, -, -⟩ := info_parts info_lit
          simp [zeroValue, typeInfo, hi0, hz0]
        obtain ⟨W5, hcl, hL5, hg5⟩ := hLB.out.clear (m := i) (by omega) 26 30 _ Try.underlying26 hzv rfl (by intro u hu; simp [Value.cells] at hu; rcases hu with rfl | rfl <;> rfl) (c - i)
        have hci : ¬ (c = i) := by omega
        have hic : i ≤ c := by omega
        have hLN := Lib.hid hL5
        have hgN := Lib.hid (gro_trans hgr.out hg5)
        have hfin : Hid (ys.take i = xs.filter fun x => !p x) := Lib.hid (by rw [htk.out, List.take_of_length_le (by have := HXL.out; omega)])
        have hlen : Hid (i = (xs.filter fun x => !p x).length) := Lib.hid (by rw [← hfin.out, List.length_take]; have := hLB.out.choose_spec.2.1; omega)
        clear hL5 hg5 hzv
        go_wp2_with fail
        go_ret
        have := hLN.out.hold hbg (by omega) hcm
        rw [hfin.out] at this
        rw [← hlen.out]
        exact ⟨rfl, this, hgN.out⟩
theorem cloneLit (b0 n : Nat) (v : Value) (xs : List Ltl) (w : World) (h : HoldR w b0 30 3 v n (xs.flatMap ltlCs)) (hn : n ≤ 1048576) :
    Calls Try.prog 28 #[v] w fun e w' => ∃ v', e = .returned v' ∧ HoldR w' w.heap.size 30 3 v' n (xs.flatMap ltlCs) ∧ Below w.heap.size w w' := by
  obtain ⟨i0, hi0, hz0, hz1, hz2⟩ := info_parts info_lit
  have hlen : xs.length = n := by have := h.1; rw [flatMap_len ltlCs 3 (fun _ => rfl)] at this; omega
  rcases h.2 with ⟨rfl, rfl⟩ | ⟨g, cap, cur, rfl, -⟩
  · obtain rfl : xs = [] := List.eq_nil_of_length_eq_zero hlen
    have q22 : ∀ (w : World) (a : Option Addr) (n c n' c' : Nat), (binOp .eql 26 (.slice a n c) (.slice none n' c')).run Try.prog w = .ok (.bool a.isNone) w := fun w a n c n' c' => Lib.run_eql_slice_nil w _ _ a n c n' c' Try.underlying26
    have u22 : ∀ w, Sem.run Try.prog (underlying 26) w = .ok (TypeDesc.slice 30) w := run_underlying Try.underlying26
    go_enter Try.func28, Try.ntmps28
    go_wp2_with fail
    go_ret
    exact ⟨_, rfl, HoldR.nil _ _ _ _, Below.refl _ _⟩
  · have ol : (w.alloc (.cells #[] 30)).ownsRow w.heap.size 30 3 (.slice (some ⟨w.heap.size, 0, none⟩) 0 0) 0 [] := World.ownsRow_lit w #[] 0 (Nat.le_refl _) (by decide) rfl
    have hs := (h.below (b_alloc w (.cells #[] 30))).src
    clear h
    have q22 : ∀ (w : World) (a : Option Addr) (n c n' c' : Nat), (binOp .eql 26 (.slice a n c) (.slice none n' c')).run Try.prog w = .ok (.bool a.isNone) w := fun w a n c n' c' => Lib.run_eql_slice_nil w _ _ a n c n' c' Try.underlying26
    have u22 : ∀ w, Sem.run Try.prog (underlying 26) w = .ok (TypeDesc.slice 30) w := run_underlying Try.underlying26
    go_enter Try.func28, Try.ntmps28
    go_wp2_with (at_builtin; refine wpList_append_any rfl _ _ 26 rfl w.heap.size 30 i0 _ 3 24 Try.underlying26 hi0 hz0 hz1 hz2 rfl (by decide) (.slice (some ⟨w.heap.size, 0, none⟩) 0 0) _ _ rfl ol _ _ _ _ rfl hs (lits_one xs) (by unfold maxLen; omega) (by omega) (by rw [size_alloc_]; omega) ?_; intro v1 w1 ho1 hb1 _ _)
    have ho2 : w1.ownsRow w.heap.size 30 3 v1 n (xs.flatMap ltlCs) := by simpa using ho1
    go_ret
    exact ⟨v1, rfl, HoldR.of_own ho2, (b_alloc _ _).trans hb1⟩
theorem clipLit (A : Option Addr) (n c b0 : Nat) (xs : List Value) (w : World) (h : HoldR w b0 30 3 (.slice A n c) n xs) :
    Calls Try.prog 46 #[.slice A n c] w fun e w' => e = .returned (.slice A n n) ∧ w = w' := by
  have hnc := h.capLe
  have hnc2 : (n : Int) ≤ (c : Int) := by omega
  clear h
  go_enter Try.func46, Try.ntmps46
  go_wp2_with fail
  go_ret
  exact ⟨rfl, rfl⟩
end Go.Proofs.Ytjkgndedffildaa
