/- impl's iterator over the tuples of domains. -/
import Derived.Test.YtfmdgdamelkelaaTupP
import Derived.Test.YtfmdgdamelkelaaRange
import Derived.Test.YtfmdgdamelkelaaDvals
import Derived.ArgAppend
namespace Go.Proofs.Ytfmdgdamelkelaa
open Go.ChangeShapes Go.WideShapes Go.ChangeAt Go.RowKit
open Go.Shelf
set_option linter.unusedVariables false
set_option maxRecDepth 100000
attribute [local go_sem] Oper.semAt_some

/-- All blocks from L on, but a and b, lie as they lay. -/
def KB (L a b : Nat) (W W' : World) : Prop := W.heap.size ≤ W'.heap.size ∧ ∀ k, L ≤ k → k < W.heap.size → k ≠ a → k ≠ b → W'.heap[k]? = W.heap[k]?
/-- All blocks from L on lie as they lay. -/
def KHi (L : Nat) (W W' : World) : Prop := W.heap.size ≤ W'.heap.size ∧ ∀ k, L ≤ k → k < W.heap.size → W'.heap[k]? = W.heap[k]?
theorem KHi.kb {L : Nat} {W W' : World} (h : KHi L W W') (a b : Nat) : KB L a b W W' := ⟨h.1, fun k h1 h2 _ _ => h.2 k h1 h2⟩
theorem KB.refl (L a b : Nat) (W : World) : KB L a b W W := ⟨Nat.le_refl _, fun _ _ _ _ _ => rfl⟩
theorem KB.trans {L a b : Nat} {W W1 W2 : World} (h : KB L a b W W1) (k : KB L a b W1 W2) : KB L a b W W2 := ⟨Nat.le_trans h.1 k.1, fun i h1 h2 h3 h4 => (k.2 i h1 (Nat.lt_of_lt_of_le h2 h.1) h3 h4).trans (h.2 i h1 h2 h3 h4)⟩
theorem Below.kb {L a b : Nat} {W W' : World} (h : Below W.heap.size W W') : KB L a b W W' := ⟨h.size, fun k _ h2 _ _ => h.block k h2⟩
theorem KB.set {L a b j : Nat} (W : World) (u : Value) : KB L a b W (W.setCell ⟨a, j, none⟩ u) := ⟨by simp, fun k _ _ h3 _ => Below.heap_setCell W ⟨a, j, none⟩ u k h3⟩
theorem KB.set2 {L a b j : Nat} (W : World) (u : Value) : KB L a b W (W.setCell ⟨b, j, none⟩ u) := ⟨by simp, fun k _ _ _ h4 => Below.heap_setCell W ⟨b, j, none⟩ u k h4⟩
theorem TBlk.kb {L a b g : Nat} {W W' : World} {t : TypeId} {cs : Array Value} (h : TBlk t W g cs) (k : KB L a b W W') (hL : L ≤ g) (ha : g ≠ a) (hb : g ≠ b) : TBlk t W' g cs := (k.2 g hL h.lt ha hb).trans h
theorem TBlk.khi {L g : Nat} {W W' : World} {t : TypeId} {cs : Array Value} (h : TBlk t W g cs) (k : KHi L W W') (hL : L ≤ g) : TBlk t W' g cs := (k.2 g hL h.lt).trans h
/-- The iterator's own blocks, t being the values at hand. -/
structure It (L bX bD bY bF g m l : Nat) (t : List Int) (W : World) : Prop where
  x : TBlk 22 W bX #[.slice (some ⟨g, 0, none⟩) t.length m]
  cs : ∃ cs : Array Value, cs.size = m ∧ TBlk 3 W g cs ∧ ∀ (j : Nat) v, t[j]? = some v → cs[j]? = some (.int .i64 v)
  y : TBlk 56 W bY #[.func (.yield l) #[] #[]]
  f : TBlk 95 W bF #[.func (.func 99) #[] #[.pointer (some ⟨bX, 0, none⟩), .pointer (some ⟨bD, 0, none⟩), .pointer (some ⟨bY, 0, none⟩), .pointer (some ⟨bF, 0, none⟩)]]
  lo : L ≤ bX ∧ L ≤ g ∧ L ≤ bY ∧ L ≤ bF
section
variable {L bX bD bY bF g m l : Nat} {t : List Int} {W W' : World}
theorem It.khi (h : It L bX bD bY bF g m l t W) (k : KHi L W W') : It L bX bD bY bF g m l t W' := by
  obtain ⟨cs, h1, h2, h3⟩ := h.cs
  exact ⟨h.x.khi k h.lo.1, ⟨cs, h1, h2.khi k h.lo.2.1, h3⟩, h.y.khi k h.lo.2.2.1, h.f.khi k h.lo.2.2.2, h.lo⟩
theorem It.on (h : It L bX bD bY bF g m l t W) (hb : Below W.heap.size W W') : It L bX bD bY bF g m l t W' := h.khi ⟨hb.size, fun k _ h2 => hb.block k h2⟩
theorem It.xg (h : It L bX bD bY bF g m l t W) : bX ≠ g := by
  obtain ⟨cs, h1, h2, h3⟩ := h.cs
  exact h.x.ne h2 (by decide)
theorem It.xy (h : It L bX bD bY bF g m l t W) : bY ≠ bX := h.y.ne h.x (by decide)
theorem It.xf (h : It L bX bD bY bF g m l t W) : bF ≠ bX := h.f.ne h.x (by decide)
theorem It.gy (h : It L bX bD bY bF g m l t W) : bY ≠ g := by
  obtain ⟨cs, h1, h2, h3⟩ := h.cs
  exact h.y.ne h2 (by decide)
theorem It.gf (h : It L bX bD bY bF g m l t W) : bF ≠ g := by
  obtain ⟨cs, h1, h2, h3⟩ := h.cs
  exact h.f.ne h2 (by decide)
/-- one value more. -/
theorem It.push (h : It L bX bD bY bF g m l t W) (hm : t.length < m) (v : Int) : It L bX bD bY bF g m l (t ++ [v]) ((W.setCell ⟨g, t.length, none⟩ (.int .i64 v)).setCell ⟨bX, 0, none⟩ (.slice (some ⟨g, 0, none⟩) (t.length + 1) m)) := by
  obtain ⟨cs, h1, h2, h3⟩ := h.cs
  refine ⟨?_, ⟨cs.setIfInBounds t.length (.int .i64 v), by rw [Array.size_setIfInBounds, h1], (h2.store t.length _).far h.xg.symm, fun j x hj => ?_⟩, (h.y.far h.gy).far h.xy, (h.f.far h.gf).far h.xf, h.lo⟩
  · have := (h.x.far (g := g) (j := t.length) (u := .int .i64 v) h.xg).store 0 (.slice (some ⟨g, 0, none⟩) (t.length + 1) m)
    rw [List.length_append]
    exact this
  · rcases Nat.lt_or_ge j t.length with hlt | hge
    · rw [Array.getElem?_setIfInBounds_ne (by omega)]
      rw [List.getElem?_append_left hlt] at hj
      exact h3 j x hj
    · rw [List.getElem?_append_right hge] at hj
      have hj0 : j = t.length := by
        rcases Nat.lt_or_ge (j - t.length) 1 with h4 | h4
        · omega
        · rw [List.getElem?_eq_none (by simpa using h4)] at hj; cases hj
      subst hj0
      rw [Nat.sub_self] at hj
      simp at hj
      subst hj
      rw [Array.getElem?_setIfInBounds_self_of_lt (by omega)]
/-- one value less. -/
theorem It.pop {v : Int} (h : It L bX bD bY bF g m l (t ++ [v]) W) : It L bX bD bY bF g m l t (W.setCell ⟨bX, 0, none⟩ (.slice (some ⟨g, 0, none⟩) t.length m)) := by
  obtain ⟨cs, h1, h2, h3⟩ := h.cs
  refine ⟨h.x.store 0 _, ⟨cs, h1, h2.far h.xg.symm, fun j x hj => h3 j x (by
    have hlt : j < t.length := by
      rcases Nat.lt_or_ge j t.length with h4 | h4
      · exact h4
      · rw [List.getElem?_eq_none h4] at hj; cases hj
    rw [List.getElem?_append_left hlt]; exact hj)⟩, h.y.far h.xy, h.f.far h.xf, h.lo⟩
end
/-- v stands at each place of t in that place's domain. -/
def PreDs (ds t : List Int) : Prop := ∀ (j : Nat) d v, ds[j]? = some d → t[j]? = some v → v ∈ valsTo d 6
theorem PreDs.push {ds t : List Int} {d v : Int} (h : PreDs ds t) (hd : ds[t.length]? = some d) (hv : v ∈ valsTo d 6) : PreDs ds (t ++ [v]) := by
  intro j e x hj hx
  rcases Nat.lt_or_ge j t.length with h1 | h1
  · rw [List.getElem?_append_left h1] at hx
    exact h j e x hj hx
  · rw [List.getElem?_append_right h1] at hx
    have hj0 : j = t.length := by
      rcases Nat.lt_or_ge (j - t.length) 1 with h4 | h4
      · omega
      · rw [List.getElem?_eq_none (by simpa using h4)] at hx; cases hx
    subst hj0
    rw [Nat.sub_self] at hx
    simp at hx
    rw [hd] at hj
    injection hj with hj
    subst hx hj
    exact hv
theorem PreDs.mem {ds t : List Int} (h : PreDs ds t) (hl : t.length = ds.length) : t ∈ allT ds :=
  mem_allT.2 ⟨hl, fun j d v hj hv => by have := valsTo_mem (h j d v hj hv); exact ⟨this.1, by omega, this.2.2⟩⟩
/-- a fresh row of ints, as a block. -/
theorem own_blk_int {w : World} {base n : Nat} {v : Value} {xs : List Int} (h : w.ownsRow base 3 1 v n (xs.map (.int .i64))) (hn : 0 < n) : ∃ gv c cur, v = .slice (some ⟨gv, 0, none⟩) n c ∧ base ≤ gv ∧ TBlk 3 w gv cur ∧ ∀ (k : Nat) x, xs[k]? = some x → cur[k]? = some (.int .i64 x) := by
  rcases h.2 with ⟨rfl, h2⟩ | ⟨gv, cap, cur, rfl, hg, hh, hcap, hmax, hsz, ht⟩
  · omega
  · refine ⟨gv, cap, cur, rfl, hg, hh, fun k x hx => ?_⟩
    have := h.cells (g := gv) rfl k _ (by rw [List.getElem?_map, hx]; rfl)
    rw [add_own] at this
    rw [cell_of_row w gv k cur _ _ hh] at this
    exact this
/-- what an append with room leaves. -/
theorem run_push1 (ty : TypeId) (i0 : TypeInfo) (hi0 : Try.prog.info? 3 = some i0) (hz1 : i0.size = 1) {w : World} {g k m : Nat} {x : Int} {cs : Array Value} (hc : TBlk 3 w g cs) (hk : k < m) (hm : cs.size = m) (hg : g < w.heap.size) :
    Sem.run Try.prog (Builtin.append_ #[ 22, 22 ] ty #[.slice (some ⟨g, 0, none⟩) k m, .slice (some ⟨w.heap.size, 0, none⟩) 1 1]) (w.alloc (.cells #[.int .i64 x] 3)) = .ok (.slice (some ⟨g, 0, none⟩) (k + 1) m) ((w.alloc (.cells #[.int .i64 x] 3)).setCell ⟨g, k, none⟩ (.int .i64 x)) := by
  have h := run_append_room_cells (P := Try.prog) (w.alloc (.cells #[.int .i64 x] 3)) 22 ty 3 i0 Try.underlying22 hi0 g 0 k m ⟨w.heap.size, 0, none⟩ 1 1 [.int .i64 x] (by simp [hz1]) (cell_one_new _ _ _) (by simp [Value.oneCell']) (by omega)
    (fun j hj => by
      have hj0 : j = 0 := by simpa using hj
      subst hj0
      rw [hz1, Nat.mul_one, Nat.zero_add, Nat.add_zero, (hc.alloc_ _).at_ k (Array.getElem?_eq_getElem (by omega))]; rfl)
    (fun j hj => by
      have hj0 : j = 0 := by simpa using hj
      subst hj0
      rw [hz1, Nat.mul_one, Nat.zero_add, Nat.add_zero]; exact (hc.alloc_ _).frozen k)
  rw [h, hz1, Nat.mul_one, Nat.zero_add]
  simp [World.setCells]
/-- append of one int where there is room, for the walk. -/
theorem wpList_push {ops : Array Oper} {rest : List Oper} {o : Oper} {a : Act} {Q : Exit → Act → World → Prop} (i0 : TypeInfo) (hi0 : Try.prog.info? 3 = some i0) (hz1 : i0.size = 1) (hgd : o.guard = none) (s x : Operand) (ho : o.op = .call { callee := .builtin .append, args := #[s, x], argTypes := #[ 22, 22 ] })
    {w : World} {g k m : Nat} {v : Int} {cs : Array Value} (hs : a.eval s = .slice (some ⟨g, 0, none⟩) k m) (hx : a.eval x = .slice (some ⟨w.heap.size, 0, none⟩) 1 1) (hc : TBlk 3 w g cs) (hk : k < m) (hm : cs.size = m)
    (h : ∀ W', W' = (w.alloc (.cells #[.int .i64 v] 3)).setCell ⟨g, k, none⟩ (.int .i64 v) → wpList Try.prog ops Q rest (a.put o.dst (.slice (some ⟨g, 0, none⟩) (k + 1) m)) W') : wpList Try.prog ops Q (o :: rest) a (w.alloc (.cells #[.int .i64 v] 3)) := by
  refine wpList_plain hgd fun K hK => ?_
  have hrun := run_push1 o.type i0 hi0 hz1 (x := v) hc hk hm hc.lt
  unfold Oper.wp execOp
  simp only [ho, resolve, invoke, builtin, Sem.run_bind, Sem.run_pure, Result.andThen_ok, List.map_toArray, List.map_cons, List.map_nil, hs, hx, hrun]
  exact hK _ _ (h _ rfl)
set_option maxHeartbeats 4000000 in
theorem from1 (L bX bD bY bF g m l db dof cd : Nat) (ds : List Int) (hds : Doms ds) (hm : ds.length = m) (hm4 : m ≤ 4) (J : List (List Int) → World → Prop) (Jx : World → Prop)
    (hJb : ∀ vis W W', J vis W → Below L W W' → J vis W')
    (hJd : ∀ vis W, J vis W → W.cell? ⟨bD, 0, none⟩ = some (.slice (some ⟨db, dof, none⟩) m cd) ∧ ∀ (j : Nat) x, ds[j]? = some x → W.cell? ⟨db, dof + j, none⟩ = some (.int .i64 x))
    (hY : ∀ mm vis t W, J vis W → t ∈ allT ds → It L bX bD bY bF g m l t W → YieldAt Fence.wide mm Try.prog l #[.slice (some ⟨g, 0, none⟩) m m] W fun e W' => (e = .returned (.bool true) ∧ J (vis ++ [t]) W' ∧ KHi L W W') ∨ (e = .returned (.bool false) ∧ Jx W')) :
    ∀ (r : Nat) (t : List Int) (vis : List (List Int)) (W : World), t.length + r = m → PreDs ds t → It L bX bD bY bF g m l t W → J vis W → L ≤ W.heap.size →
    Calls Try.prog 99 #[.pointer (some ⟨bX, 0, none⟩), .pointer (some ⟨bD, 0, none⟩), .pointer (some ⟨bY, 0, none⟩), .pointer (some ⟨bF, 0, none⟩)] W fun e W' => (e = .returned (.bool true) ∧ J (vis ++ extT ds t) W' ∧ It L bX bD bY bF g m l t W' ∧ KB L bX g W W') ∨ (e = .returned (.bool false) ∧ Jx W') := by
  obtain ⟨i0, hi0, hz0, hz1, hz2⟩ := info_parts info_int
  intro r
  induction r with
  | zero =>
    intro t vis W htr hpre hit hJ hL
    obtain rfl : t.length = m := by omega
    have hmem := hpre.mem (by omega)
    have hext := extT_full (ds := ds) (t := t) (by omega)
    rw [hext]
    obtain ⟨hd1, -⟩ := hJd vis W hJ
    have hx := hit.x.at_ 0 rfl
    have hy0 := hit.y.at_ 0 rfl
    obtain ⟨fn, tmps, assign, body, hy, hR⟩ := hY 4 vis t W hJ hmem hit
    have HIT := Lib.hid hit
    have HM := Lib.hid hm
    clear hext hmem hpre hm hds htr hit
    refine (callsIn_wide (n := 5)).1 ?_
    refine callsIn_of_wp Try.func99 rfl trivial ?_ rfl
    simp only [Try.ntmps99, List.size_toArray, List.length_cons, List.length_nil, Nat.reduceAdd, Nat.reduceSub, Array.replicate_succ, Array.replicate_zero, List.push_toArray, List.append_toArray, List.nil_append, List.cons_append]
    gi_wp2
    refine hR.mono ?_
    rintro e W3 (⟨rfl, hJ3, hk3⟩ | ⟨rfl, hJ3⟩)
    · have HJ3 := Lib.hid hJ3
      clear hJ3
      gi_wp2
      go_ret
      exact .inl ⟨rfl, HJ3.out, HIT.out.khi hk3, hk3.kb _ _⟩
    · have HJ3 := Lib.hid hJ3
      clear hJ3
      gi_wp2
      go_ret
      exact .inr ⟨rfl, HJ3.out⟩
  | succ r ih =>
    intro t vis W htr hpre hit hJ hL
    have htm : t.length < m := by omega
    have hne : ((t.length : Int) == (m : Int)) = false := by simp; omega
    obtain ⟨hd1, hd2⟩ := hJd vis W hJ
    obtain ⟨d, hd⟩ : ∃ d, ds[t.length]? = some d := ⟨_, List.getElem?_eq_getElem (by omega)⟩
    have hdd := hd2 _ _ hd
    have hd63 := hds d (List.mem_of_getElem? hd)
    obtain ⟨y, rfl⟩ := dom_fin hd63.1 hd63.2
    have hx : W.cell? ⟨bX, 0, none⟩ = some (.slice (some ⟨g, 0, none⟩) t.length m) := hit.x.at_ 0 rfl
    have HIT := Lib.hid hit
    have HPRE := Lib.hid hpre
    have HD := Lib.hid hd
    have HDS := Lib.hid hds
    have HM := Lib.hid hm
    have HJ := Lib.hid hJ
    obtain ⟨k, hk⟩ : ∃ k, k = t.length := ⟨_, rfl⟩
    rw [← hk] at hx hdd htm hne
    have HK := Lib.hid hk
    have HTR := Lib.hid htr
    have hval := fun W' : World => valuesOf y W'
    clear hpre hm hds hit hd hJ hd2 htr hk hval
    refine (callsIn_wide (n := 5)).1 ?_
    refine callsIn_of_wp Try.func99 rfl trivial ?_ rfl
    refine wpIn_wide.2 ?_
    simp only [Try.ntmps99, List.size_toArray, List.length_cons, List.length_nil, Nat.reduceAdd, Nat.reduceSub, Array.replicate_succ, Array.replicate_zero, List.push_toArray, List.append_toArray, List.nil_append, List.cons_append]
    go_wp2_with fail
    refine (valuesOf y _).mono ?_
    rintro e w5 ⟨v, rfl, ho, hb5⟩
    obtain ⟨vs, hvs⟩ : ∃ vs, vs = valsTo (y.val : Int) 6 := ⟨_, rfl⟩
    rw [← hvs] at ho
    have hvl : vs.length ≤ 6 := by rw [hvs]; exact valsTo_len _ _
    have HVS := Lib.hid hvs
    have hL5 : L ≤ w5.heap.size := Nat.le_trans hL hb5.size
    have hsz5 := hb5.size
    have hit5 := HIT.out.on hb5
    have hJ5 := hJb _ _ _ HJ.out (hb5.mono hL)
    have hkb5 : KB L bX g W w5 := Below.kb hb5
    have HB5 := Lib.hid hkb5
    have hxlt := HIT.out.x.lt
    have hglt : g < W.heap.size := by obtain ⟨cs, h1, h2, h3⟩ := HIT.out.cs; exact h2.lt
    have hlo := HIT.out.lo
    obtain ⟨A, c, rfl, hr, -⟩ := IntR.of_own ho (by omega)
    have hown := Lib.hid ho
    clear hd1 hdd hx hvs hb5 HIT HJ hkb5 ho
    go_wp2_with fail
    go_loopw [22] (fun t22 wr => ∃ q : Nat, q ≤ vs.length ∧ t22 = .int .i64 q ∧ Hid (J (vis ++ extK ds t vs q) wr) ∧ Hid (It L bX bD bY bF g m l t wr) ∧ Hid (KB L bX g w5 wr)) (fun t22 _ => vs.length - (intOf t22).toNat)
    case atStart => exact ⟨0, by omega, rfl, by rw [extK_zero, List.append_nil]; exact hJ5, hit5, KB.refl _ _ _ _⟩
    case round =>
      obtain ⟨q, hq, rfl, hJq, hitq, hkq⟩ := hrel
      clear hJ5 hit5 hr
      by_cases hlt : q < vs.length
      · obtain ⟨gv, cv, cur, e1, hgv, hblk, hcur⟩ := own_blk_int hown.out (by omega)
        injection e1 with e1 e2 e3
        subst e1
        subst e3
        have hvq : vs[q]? = some vs[q] := List.getElem?_eq_getElem hlt
        obtain ⟨x, hxq⟩ : ∃ x, x = vs[q] := ⟨_, rfl⟩
        rw [← hxq] at hvq
        have hbq : TBlk 3 wr gv cur := hblk.kb hkq.out (by omega) (by omega) (by omega)
        have hcq := hbq.at_ q (hcur q x hvq)
        have hx1 : wr.cell? ⟨bX, 0, none⟩ = some (.slice (some ⟨g, 0, none⟩) k m) := by rw [HK.out]; exact hitq.out.x.at_ 0 rfl
        obtain ⟨cs, hcs1, hcs2, hcs3⟩ := hitq.out.cs
        have hxm : x ∈ vs := List.mem_of_getElem? hvq
        have KEY : ∀ W6, W6 = (wr.alloc (.cells #[.int .i64 x] 3)).setCell ⟨g, k, none⟩ (.int .i64 x) → (W6.cell? ⟨bX, 0, none⟩ = some (.slice (some ⟨g, 0, none⟩) k m) ∧ W6.frozen? ⟨bX, 0, none⟩ = false ∧ (W6.setCell ⟨bX, 0, none⟩ (.slice (some ⟨g, 0, none⟩) (k + 1) m)).cell? ⟨bF, 0, none⟩ = some (.func (.func 99) #[] #[.pointer (some ⟨bX, 0, none⟩), .pointer (some ⟨bD, 0, none⟩), .pointer (some ⟨bY, 0, none⟩), .pointer (some ⟨bF, 0, none⟩)])) ∧
            Hid (It L bX bD bY bF g m l (t ++ [x]) (W6.setCell ⟨bX, 0, none⟩ (.slice (some ⟨g, 0, none⟩) (k + 1) m)) ∧ J (vis ++ extK ds t vs q) (W6.setCell ⟨bX, 0, none⟩ (.slice (some ⟨g, 0, none⟩) (k + 1) m)) ∧ KB L bX g w5 (W6.setCell ⟨bX, 0, none⟩ (.slice (some ⟨g, 0, none⟩) (k + 1) m)) ∧ L ≤ (W6.setCell ⟨bX, 0, none⟩ (.slice (some ⟨g, 0, none⟩) (k + 1) m)).heap.size) := by
          rintro W6 rfl
          have hLr : L ≤ wr.heap.size := Nat.le_trans hL5 hkq.out.1
          have ha := hitq.out.on (b_alloc wr (.cells #[.int .i64 x] 3))
          have hXs := ha.x.far (g := g) (j := k) (u := .int .i64 x) ha.xg
          have hp := ha.push (by rw [← HK.out]; exact htm) x
          rw [← HK.out] at hp hXs
          refine ⟨⟨hXs.at_ 0 rfl, hXs.frozen 0, hp.f.at_ 0 rfl⟩, hp, hJb _ _ _ hJq.out ((((Below.refl _ _).alloc hLr _).setCell (p := ⟨g, k, none⟩) hlo.2.1 _).setCell (p := ⟨bX, 0, none⟩) hlo.1 _), ((hkq.out.trans (Below.kb (b_alloc _ _))).trans (KB.set2 _ _)).trans (KB.set _ _), ?_⟩
          simp; omega
        have HKEY := Lib.hid KEY
        have HVQ := Lib.hid hvq
        clear hxq hvq hblk hcur hbq hcs3 KEY
        go_wp2_with (at_builtin; refine wpList_push i0 hi0 hz1 rfl _ _ rfl (v := x) rfl rfl hcs2 htm hcs1 ?_; intro W6 hW6; obtain ⟨⟨hX1, hX2, hX3⟩, HIT6⟩ := HKEY.out W6 hW6; clear hW6 HKEY)
        obtain ⟨W7, hW7⟩ : ∃ W7, W6.setCell ⟨bX, 0, none⟩ (.slice (some ⟨g, 0, none⟩) (k + 1) m) = W7 := ⟨_, rfl⟩
        rw [hW7] at HIT6 hX3 ⊢
        obtain ⟨hit7, hJ7, hkb7, hL7⟩ := HIT6.out
        refine (ih (t ++ [x]) _ _ (by rw [List.length_append, List.length_singleton]; have := HTR.out; omega) (HPRE.out.push HD.out (by rw [← HVS.out]; exact List.mem_of_getElem? HVQ.out)) hit7 hJ7 hL7).mono ?_
        rintro e w8 (⟨rfl, hJ8, hit8, hkb8⟩ | ⟨rfl, hJx⟩)
        · have hX4 : w8.cell? ⟨bX, 0, none⟩ = some (.slice (some ⟨g, 0, none⟩) (k + 1) m) := by
            have := hit8.x.at_ 0 rfl
            rw [List.length_append, List.length_singleton, ← HK.out] at this
            exact this
          have hX5 := hit8.x.frozen 0
          have hX6 : w8.cell? ⟨bX, 0, none⟩ = some (.slice (some ⟨g, 0, none⟩) (k + 1) m) := hX4
          have HJ8 := Lib.hid hJ8
          have HIT8 := Lib.hid hit8
          have HKB8 := Lib.hid (hkb7.trans hkb8)
          clear hit7 hJ7 hkb7 hX3 hW7 HIT6 hX1 hX2 hJ8 hit8 hkb8 hcs2 hcq hx1
          go_wp2_with fail
          go_roundw
          case rel =>
            refine ⟨q + 1, by omega, by go_num, ?_, ?_, HKB8.out.trans (KB.set _ _)⟩
            · rw [extK_succ HVQ.out, ← List.append_assoc]
              exact hJb _ _ _ HJ8.out ((Below.refl _ _).setCell (p := ⟨bX, 0, none⟩) hlo.1 _)
            · rw [HK.out]; exact HIT8.out.pop
          case measure => simp [intOf]; omega
        · have HJX := Lib.hid hJx
          clear hit7 hJ7 hkb7 hX3 hW7 HIT6 hX1 hX2 hcs2 hcq hx1 hJx
          go_wp2_with fail
          go_ret
          exact .inr ⟨rfl, HJX.out⟩
      · obtain rfl : q = vs.length := by omega
        go_wp2_with fail
        go_ret
        refine .inl ⟨rfl, ?_, hitq.out, HB5.out.trans hkq.out⟩
        have := hJq.out
        rw [HVS.out, extK_done HD.out] at this
        exact this
end Go.Proofs.Ytfmdgdamelkelaa
