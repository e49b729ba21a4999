/- A loop over a function, walked directly: the loop's two blocks between two rounds; a round out of its body's walk. No program in sight. -/
import Derived.RangeFuncCalls
import Derived.RangeFuncLeaves
import Derived.RangeFuncFrom
import Derived.RangeFuncNested
import Derived.Shelf.Abstract
import Derived.Shelf.RegionOpen
import Derived.OwnWalkIn
import Derived.TacticsInMore
import Derived.LoopNIn
import Derived.LoopIn
import Derived.OrdersHeld
import Derived.Deep.RegionHeld3
import Derived.StillTailTactics
import Derived.Test.YtfmdgdamelkelaaMem
namespace Go.Proofs.Ytfmdgdamelkelaa
open Go.RowKit
set_option linter.unusedVariables false
set_option maxRecDepth 100000

/-- Between two rounds: the loop's record at B + 1, the block for deferred calls at B. -/
def Rdy (B : Nat) (r : Loop) (W : World) : Prop := W.heap[B + 1]? = some (.loop r) ∧ W.heap[B]? = some (.deferred (some []))
/-- In a round. -/
def Bsy (B : Nat) (r : Loop) (W : World) : Prop := W.heap[B + 1]? = some (.loop { r with state := .busy }) ∧ W.heap[B]? = some (.deferred (some []))
/-- A round has left by the jump c. -/
def Don (B : Nat) (r : Loop) (c : Code) (W : World) : Prop := W.heap[B + 1]? = some (.loop { r with state := .done, pending := some c }) ∧ W.heap[B]? = some (.deferred (some []))
theorem put_heap_same {W : World} {l : Nat} {o o' : Obj} (h : W.heap[l]? = some o) : (W.putObj l o').heap[l]? = some o' := World.putObj_heap_same (Array.getElem?_eq_some_iff.1 h).1
theorem put_cell {W : World} {l : Nat} {o : Obj} {p : Addr} (hp : p.block ≠ l) : (W.putObj l o).cell? p = W.cell? p := World.cell?_of_block (World.putObj_heap_other (by omega))
theorem put_frozen {W : World} {l : Nat} {o : Obj} {p : Addr} (hp : p.block ≠ l) : (W.putObj l o).frozen? p = W.frozen? p := World.frozen?_of_block (World.putObj_heap_other (by omega))
theorem put_below {W : World} {l B : Nat} {o : Obj} (o' : Obj) (h : W.heap[l]? = some o) (hB : B ≤ l) : Below B W (W.putObj l o') :=
  (Below.refl B W).grown (grownBy_putObj' W l o') (by have := (Array.getElem?_eq_some_iff.1 h).1; omega) (fun k e => by cases e; exact hB)
theorem put_size (W : World) (l : Nat) (o : Obj) : (W.putObj l o).heap.size = W.heap.size := by simp
theorem TBlk.put_ {t : TypeId} {w : World} {b : Nat} {cs : Array Value} {l : Nat} {o o' : Obj} (h : TBlk t w b cs) (hl : w.heap[l]? = some o) (ho : o.isCells = false) : TBlk t (w.putObj l o') b cs := by
  have hne : b ≠ l := fun e => by
    subst e
    have h' : w.heap[b]? = some (.cells cs t (0, 0)) := h
    rw [h'] at hl
    injection hl with hl
    subst hl
    cases ho
  exact (World.putObj_heap_other (by omega)).trans h
theorem Rdy.busy {B : Nat} {r : Loop} {W : World} (h : Rdy B r W) : Bsy B r (W.putObj (B + 1) (.loop { r with state := .busy })) :=
  ⟨put_heap_same h.1, (World.putObj_heap_other (by omega)).trans h.2⟩
theorem Bsy.ready {B : Nat} {r : Loop} {W : World} (h : Bsy B r W) : Rdy B r (W.putObj (B + 1) (.loop r)) :=
  ⟨put_heap_same h.1, (World.putObj_heap_other (by omega)).trans h.2⟩
theorem Bsy.done {B : Nat} {r : Loop} {W : World} (c : Code) (h : Bsy B r W) : Don B r c (W.putObj (B + 1) (.loop { r with state := .done, pending := some c })) :=
  ⟨put_heap_same h.1, (World.putObj_heap_other (by omega)).trans h.2⟩
theorem Rdy.kept {B : Nat} {r : Loop} {W W' : World} (h : Rdy B r W) (hk : KeepsFrom B W W') : Rdy B r W' := ⟨hk.same _ _ (by omega) h.1 rfl, hk.same _ _ (Nat.le_refl _) h.2 rfl⟩
theorem Bsy.kept {B : Nat} {r : Loop} {W W' : World} (h : Bsy B r W) (hk : KeepsFrom B W W') : Bsy B r W' := ⟨hk.same _ _ (by omega) h.1 rfl, hk.same _ _ (Nat.le_refl _) h.2 rfl⟩
theorem Rdy.below {B : Nat} {r : Loop} {W W' : World} (h : Rdy B r W) {k : Nat} (hk : B + 1 < k) (hb : Below k W W') : Rdy B r W' := ⟨(hb.block _ hk).trans h.1, (hb.block _ (by omega)).trans h.2⟩

/-- How a round's body may be left, and what is then said of the call of yield. -/
def RndPost (B : Nat) (r : Loop) (R : Ending → World → Prop) : Exit → Act → World → Prop
  | .normal, _, W => Bsy B r W ∧ R (.returned (.bool true)) (W.putObj (B + 1) (.loop r))
  | .ret, _, W => Bsy B r W ∧ R (.returned (.bool false)) (W.putObj (B + 1) (.loop { r with state := .done, pending := some .ret }))
  | .exit id, _, W => Bsy B r W ∧ R (.returned (.bool false)) (W.putObj (B + 1) (.loop { r with state := .done, pending := some (.exit id) }))
  | _, _, _ => False
/-- One call of yield, out of the walk of the loop's body. -/
theorem yield_direct {P : Program} {B m : Nat} {r : Loop} {W : World} {args : Array Value} {R : Ending → World → Prop} {a1 : Act} {assign body : Code} {tmps : Array Value} {ps : Array Tmp} (hr : Rdy B r W) (h1 : r.state = .ready) (h2 : r.pending = none) (h3 : r.tmps = tmps) (h4 : r.params = ps) (h5 : r.assign = assign) (h6 : r.body = body) (hs : args.size = ps.size)
    (hassign : ∀ K : Act → World → Prop, K a1 W → assign.wpIn (Fence.wide.inRound (B + 1)) m P (Exit.then K (fun _ _ _ => False)) { tmps := (ps.zip args).foldl (fun t (p, v) => t.setIfInBounds p v) tmps, defers := [] } W)
    (hbody : body.wpIn (Fence.wide.inRound (B + 1)) m P (RndPost B r R) a1 (W.putObj (B + 1) (.loop { r with state := .busy }))) : YieldAt Fence.wide m P (B + 1) args W R := by
  subst h3 h4 h5 h6
  refine ⟨r.fn, _, r.assign, r.body, run_yield hr.1 hs, roundIn_of_wpIn trivial (hassign _ ⟨_, run_beginRound hr.1 h1, ?_⟩)⟩
  refine wpIn_mono hbody ?_
  rintro e a3 W3 hp
  have hready : ({ r with state := .ready, pending := none } : Loop) = r := by cases r; simp_all
  cases e with
  | normal =>
    obtain ⟨hb, hR⟩ := hp
    have hend := run_endRound (P := P) none hb.1
    simp only [Option.isNone_none, if_true] at hend
    exact ⟨_, _, hend, by simpa only [hready] using hR⟩
  | ret =>
    obtain ⟨hb, hR⟩ := hp
    exact ⟨_, _, run_endRound (P := P) (some .ret) hb.1, hR⟩
  | exit id =>
    obtain ⟨hb, hR⟩ := hp
    exact ⟨_, _, run_endRound (P := P) (some (.exit id)) hb.1, hR⟩
  | goto t => exact hp.elim
  | panic ch => exact hp.elim
  | outgrown => exact hp.elim
/-- A loop over a function, out of the iterator's call. -/
theorem wp_range_direct {P : Program} {n : Nat} {g : Operand} {ps : Array Tmp} {assign body : Code} {Q : Exit → Act → World → Prop} {a : Act} {w : World} {gf : Nat} {lb : Array Value} (hg : a.eval g = .func (.func gf) #[] lb) (eg : ∀ args w, (callFunc gf args).run P w = .ok (.enter gf args) w)
    (hcall : ∀ r : Loop, r.state = .ready → r.pending = none → r.tmps = a.tmps → r.params = ps → r.assign = assign → r.body = body → CallsIn Fence.wide (n - 1) P gf (#[.func (.yield (w.heap.size + 1)) #[] #[]] ++ lb) ((w.alloc (.deferred (some []))).alloc (.loop r)) fun e W' => (∃ v, e = .returned v) ∧
      ((Rdy w.heap.size r W' ∧ Q .normal { a with defers := { target := .collected w.heap.size, args := #[] } :: a.defers } (W'.putObj (w.heap.size + 1) (.loop { r with state := .exhausted, pending := none }))) ∨
       (∃ c, Don w.heap.size r c W' ∧ c.wpIn Fence.wide n P Q { a with defers := { target := .collected w.heap.size, args := #[] } :: a.defers } (W'.putObj (w.heap.size + 1) (.loop { r with state := .exhausted, pending := some c }))))) :
    (Code.rangeFunc g ps assign body).wpIn Fence.wide n P Q a w := by
  refine wpIn_rangeFunc ?_
  intro fn hfn
  have hro : Fence.wide.round = none := rfl
  rw [hro]
  obtain ⟨r, hrec⟩ : ∃ r : Loop, r = { state := .ready, pending := none, fn, tmps := a.tmps, params := ps, assign, body, defers := w.heap.size } := ⟨_, rfl⟩
  have hc := hcall r (by rw [hrec]) (by rw [hrec]) (by rw [hrec]) (by rw [hrec]) (by rw [hrec]) (by rw [hrec])
  have h1 : r.state = .ready := by rw [hrec]
  have h2 : r.pending = none := by rw [hrec]
  refine ⟨w.heap.size + 1, [{ target := .collected w.heap.size, args := #[] }], (w.alloc (.deferred (some []))).alloc (.loop r), { target := .fn (.func gf) lb, args := #[.func (.yield (w.heap.size + 1)) #[] #[]] }, (w.alloc (.deferred (some []))).alloc (.loop r), gf,
    #[.func (.yield (w.heap.size + 1)) #[] #[]] ++ lb, (w.alloc (.deferred (some []))).alloc (.loop r), ?_, ?_, fun _ _ => trivial, ?_, fun h => by simp [Fence.wide] at h, ?_⟩
  · rw [hrec]; exact run_enterLoop_outer _ _ _ _ _
  · simp only [resolve, hg]
    simp [go_sem]
  · simp [invoke, go_sem, eg]
  · refine hc.mono ?_
    rintro e W2 ⟨⟨v, rfl⟩, (⟨hr, hq⟩ | ⟨c, hd, hq⟩)⟩
    · exact ⟨none, _, by have := run_endLoop (P := P) hr.1 (by rw [h1]; simp); rw [h2] at this; exact this, hq⟩
    · exact ⟨some c, _, by exact run_endLoop (P := P) hd.1 (by simp), hq⟩

section
variable {P : Program} {ops : Array Oper} {Q : Exit → Act → World → Prop} {md : Region.Mode} {S : World → Prop} {l n : Nat}
/-- No deferred call among the operations. -/
def noDefer (ops : Array Oper) : Bool := ops.toList.all fun o => match o.op with | .defer _ => false | _ => true
theorem noDefer_at (h : noDefer ops = true) (i : Nat) (o : Oper) (ho : ops[i]? = some o) : ∀ c, o.op ≠ .defer c := by
  intro c hc
  have h1 := List.all_eq_true.1 h o (by
    have : ops.toList[i]? = some o := by simpa using ho
    exact List.mem_of_getElem? this)
  rw [hc] at h1
  cases h1
/-- Whatever runs outside of a round runs in it, deferred calls aside. -/
theorem wpOp_inRound {i : Nat} {K : Act → World → Prop} {a : Act} {w : World} (hd : ∀ (o : Oper), ops[i]? = some o → ∀ c, o.op ≠ .defer c) (hL : ¬ LetsOut Q) (h : wpOp P ops Q i K a w) : wpOpIn (Fence.wide.inRound l) n P ops Q i K a w := by
  unfold wpOp at h
  unfold wpOpIn
  cases ho : ops[i]? with
  | none => simpa [ho] using h
  | some o =>
    simp only [ho] at h ⊢
    split
    · rename_i hw
      simp only [hw, if_true] at h
      have h1 : o.wp P a w K Q := h.resolve_right fun h2 => hL h2.2
      unfold Oper.wp at h1
      refine ⟨fun _ _ => trivial, ?_⟩
      show o.uponIn (Fence.wide.inRound l) n P a K Q ((o.semAt (some l) a.eval).run P w)
      rw [Oper.semAt_some l _ _ (hd o ho)]
      generalize (execOp a.eval o).run P w = res at h1 ⊢
      cases res with
      | ok x w' =>
        cases x <;> simp only [Oper.upon] at h1 <;> simp only [Oper.uponIn]
        case value v => exact h1
        case skip => exact h1
        case defer d => exact h1
        case enter f args => exact ⟨fun h => by simp [Fence.wide] at h, callsIn_wide.2 h1⟩
        case row row args => exact ⟨fun h => by simp [Fence.wide] at h, fun c cs _ => let ⟨v, w', r, s⟩ := h1 c cs; ⟨v, w', r, stepsIn_wide.2 s⟩⟩
      | halt x w' => cases x <;> simp only [Oper.upon] at h1 <;> simp only [Oper.uponIn] <;> exact h1
    · rename_i hw
      simp only [hw] at h
      exact ⟨fun _ _ => trivial, h⟩
theorem wpAny_inRound (hd : noDefer ops = true) (hL : ¬ LetsOut Q) : ∀ (fuel : Nat) (listed : Array Bool) (a : Act) (w : World), wpAny P md ops Q fuel listed a w → wpAnyIn (Fence.wide.inRound l) n P md ops Q fuel listed a w
  | 0, _, _, _, h => h
  | fuel + 1, _, _, _, h => ⟨h.1, fun i hi => wpOp_inRound (noDefer_at hd i) hL (wpOp_mono (fun a' w' h' => wpAny_inRound hd hL fuel _ a' w' h') (h.2 i hi))⟩
/-- A region that draws its order, in a round. -/
theorem wpIn_region_held_round {id : Nat} {a : Act} {w : World} (hm : P.follows .mixedOrders = true) (hd : noDefer ops = true) (hL : ¬ LetsOut Q) (hS : S w.drew)
    (h : S w.drew → wpAnyH P .any ops Q S ops.size (Array.replicate ops.size false) a w.drew) : (Code.region id ops true).wpIn (Fence.wide.inRound l) n P Q a w :=
  wpIn_region_any hm (wpAny_inRound hd hL _ _ _ _ (wpAny_of_held _ _ _ _ (h hS)))
/-- A region that reads ahead of its last operations, in a round. -/
theorem wpIn_region_tail_round {id : Nat} {a : Act} {w : World} {lo : List Oper} (k : Nat) (hm : P.follows .mixedOrders = true) (hd : noDefer lo.toArray = true) (hL : ¬ LetsOut Q) (hB : Region.lexTailB .any lo.toArray k = true)
    (h : wpStill P lo.toArray { w with drawn := w.drawn + 1 } (fun a' => wpList P lo.toArray Q (lo.drop k) a' { w with drawn := w.drawn + 1 }) (lo.take k) a) : (Code.region id lo.toArray true).wpIn (Fence.wide.inRound l) n P Q a w := by
  refine wpIn_region_any hm (wpAny_inRound hd hL _ _ _ _ ?_)
  simp only [Region.lexTailB, Bool.and_eq_true, decide_eq_true_eq] at hB
  obtain ⟨⟨⟨⟨hsel, hn⟩, hs⟩, hc⟩, hlex⟩ := hB
  have hn' : k < lo.length := by simpa using hn
  have htl : (lo.take k).length = k := by simp; omega
  have hdl : (lo.drop k).length = lo.toArray.size - k := by simp
  have inv0 : HeadInv .any lo.toArray k (Array.replicate lo.toArray.size false) :=
    ⟨by simp, fun j oj _ hl => (by rw [getD_replicate_false] at hl; cases hl), fun t _ ht => getD_in (by simpa using ht) (getD_replicate_false _ _)⟩
  have H := wpAnyL_lex (md := .any) (g := lo.toArray.size - k) hsel hs hc hn (lo.take k) 0 _ a (fun j hj => by
    have hj' : j < k := by rw [htl] at hj; exact hj
    simp [hj']) (by simpa using htl) inv0 (by rw [htl]; exact hlex) h
  have := wpAny_of_head (Q' := Q) (g := lo.toArray.size - k) (fun listed a' hL => by
    have := wpAny_of_seq (md := .any) (Q' := Q) (lo.drop k) k listed a' { w with drawn := w.drawn + 1 } (fun j => by simp [List.getElem?_drop]) (by rw [hdl]; exact hL.1) hL.2
    rwa [hdl] at this) _ _ _ H
  rw [htl, show k + (lo.toArray.size - k) = lo.toArray.size by omega] at this
  exact this
end
end Go.Proofs.Ytfmdgdamelkelaa
