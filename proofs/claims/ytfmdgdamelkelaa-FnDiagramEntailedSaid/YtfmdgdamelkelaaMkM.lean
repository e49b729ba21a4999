/- The maker's memory: nodes by layers, maps by layers. -/
import Derived.Test.YtfmdgdamelkelaaMkE
import Derived.Test.YtfmdgdamelkelaaHold
import Derived.Test.YtfmdgdamelkelaaBdM
namespace Go.Proofs.Ytfmdgdamelkelaa
open Go.ChangeShapes Go.WideShapes Go.ChangeAt Go.RowKit
open Go.Shelf
set_option linter.unusedVariables false
set_option maxRecDepth 100000

/-- all blocks but those of X stay. -/
structure Kp (X : Nat → Prop) (w w' : World) : Prop where
  os : w'.os = w.os
  tape : w'.tape = w.tape
  output : w'.output = w.output
  size : w.heap.size ≤ w'.heap.size
  block : ∀ b, b < w.heap.size → ¬ X b → w'.heap[b]? = w.heap[b]?
theorem Kp.refl (X : Nat → Prop) (w : World) : Kp X w w := ⟨rfl, rfl, rfl, Nat.le_refl _, fun _ _ _ => rfl⟩
theorem Kp.of {X : Nat → Prop} {w w' : World} (h : Below w.heap.size w w') : Kp X w w' := ⟨h.os, h.tape, h.output, h.size, fun b hb _ => h.block b hb⟩
theorem Kp.go {X Y : Nat → Prop} {w w1 w2 : World} (h : Kp X w w1) (k : Kp Y w1 w2) (hY : ∀ b, b < w.heap.size → Y b → X b) : Kp X w w2 :=
  ⟨k.os.trans h.os, k.tape.trans h.tape, k.output.trans h.output, Nat.le_trans h.size k.size, fun b hb hx => (k.block b (Nat.lt_of_lt_of_le hb h.size) (fun hy => hx (hY b hb hy))).trans (h.block b hb hx)⟩
theorem Kp.set {X : Nat → Prop} {w w' : World} (h : Kp X w w') {b : Nat} (hb : X b ∨ w.heap.size ≤ b) (j : Nat) (u : Value) : Kp X w (w'.setCell ⟨b, j, none⟩ u) :=
  ⟨h.os, h.tape, h.output, by simpa using h.size, fun c hc hx => (Below.heap_setCell w' ⟨b, j, none⟩ u c (fun e => by
    have e : c = b := e
    subst e
    rcases hb with hb | hb
    · exact hx hb
    · omega)).trans (h.block c hc hx)⟩
theorem Kp.below {X : Nat → Prop} {w w' : World} {B : Nat} (h : Kp X w w') (hX : ∀ b, b < w.heap.size → X b → B ≤ b) (hB : B ≤ w.heap.size) : Below B w w' :=
  ⟨h.os, h.tape, h.output, h.size, fun b hb => h.block b (by omega) (fun hx => by have := hX b (by omega) hx; omega)⟩
theorem Kp.blk {X : Nat → Prop} {w w' : World} {t : TypeId} {b : Nat} {cs : Array Value} (h : Kp X w w') (hb : TBlk t w b cs) (hx : ¬ X b) : TBlk t w' b cs := (h.block b hb.lt hx).trans hb
theorem HoldR.kp {X : Nat → Prop} {w w' : World} {base n size : Nat} {e : TypeId} {v : Value} {xs : List Value} (h : HoldR w base e size v n xs) (hk : Kp X w w') (hx : ∀ g, v.ownBlock = some g → ¬ X g) : HoldR w' base e size v n xs :=
  ⟨h.1, h.2.imp id fun ⟨g, cap, cur, h1, h2, h3, r⟩ => ⟨g, cap, cur, h1, h2, (hk.block g (Array.getElem?_eq_some_iff.1 h3).1 (hx g (by rw [h1]; rfl))).trans h3, r⟩⟩
theorem own_eq {w w' : World} {base n size : Nat} {e : TypeId} {v : Value} {xs : List Value} (h : w.ownsRow base e size v n xs) (hb : ∀ g, v.ownBlock = some g → g < w.heap.size → w'.heap[g]? = w.heap[g]?) : w'.ownsRow base e size v n xs :=
  ⟨h.1, h.2.imp id fun ⟨g, cap, cur, h1, h2, h3, r⟩ => ⟨g, cap, cur, h1, h2, (hb g (by rw [h1]; rfl) (Array.getElem?_eq_some_iff.1 h3).1).trans h3, r⟩⟩
theorem ownLt {w : World} {base n size g : Nat} {e : TypeId} {v : Value} {xs : List Value} (h : w.ownsRow base e size v n xs) (hg : v.ownBlock = some g) : g < w.heap.size := by
  rcases h.2 with ⟨rfl, -⟩ | ⟨g', cap, cur, rfl, h2, h3, -⟩
  · cases hg
  · injection hg with hg; subst hg; exact (Array.getElem?_eq_some_iff.1 h3).1
theorem own_not {w : World} {base n size g : Nat} {e t : TypeId} {v : Value} {xs : List Value} {cs : Array Value} (h : w.ownsRow base e size v n xs) (hg : v.ownBlock = some g) (hb : TBlk t w g cs) (he : e ≠ t) : False := by
  rcases h.2 with ⟨rfl, -⟩ | ⟨g', cap, cur, rfl, h2, h3, -⟩
  · cases hg
  · injection hg with hg
    subst hg
    rw [show w.heap[g']? = _ from hb] at h3
    injection h3 with h3
    injection h3 with h3 h4
    exact he h4.symm
theorem own_notE {w : World} {base n size g m : Nat} {e : TypeId} {v : Value} {xs : List Value} {l : List (List Int)} (h : w.ownsRow base e size v n xs) (hg : v.ownBlock = some g) (hb : EMap w g m l) : False := by
  rcases h.2 with ⟨rfl, -⟩ | ⟨g', cap, cur, rfl, h2, h3, -⟩
  · cases hg
  · injection hg with hg
    subst hg
    obtain ⟨es, clock, k1, -⟩ := hb
    rw [k1] at h3
    cases h3
/-- a layer's nodes. -/
def RowE (w : World) (v : Value) (l : List (List Int)) : Prop := (∃ A c, v = .slice A l.length c) ∧ (∀ r ∈ l, r.length = 6) ∧ w.ownsRow 0 97 6 v l.length ((l.map (List.map (Value.int .i64))).flatten)
def MkS (w : World) (X : Nat → Prop) (nb lb : Nat) (N : List (List (List Int))) : Prop := ∃ (V : Nat → Value) (Bm : Nat → Nat) (zs cs : Array Value),
  TBlk 99 w nb zs ∧ TBlk 67 w lb cs ∧ X nb ∧
  (∀ (i : Nat) l, N[i]? = some l → zs[i]? = some (V i) ∧ cs[i]? = some (.map (some (Bm i))) ∧ RowE w (V i) l ∧ EMap w (Bm i) l.length l ∧ X (Bm i) ∧ ∀ g, (V i).ownBlock = some g → X g) ∧
  ∀ i j, i < N.length → j < N.length → i ≠ j → Bm i ≠ Bm j ∧ ∀ g, (V i).ownBlock = some g → (V j).ownBlock ≠ some g
theorem MkS.same {w w' : World} {X : Nat → Prop} {nb lb : Nat} {N : List (List (List Int))} (h : MkS w X nb lb N) (hb : ∀ b, b < w.heap.size → b = lb ∨ X b → w'.heap[b]? = w.heap[b]?) : MkS w' X nb lb N := by
  obtain ⟨V, Bm, zs, cs, h1, h2, h3, h4, h5⟩ := h
  refine ⟨V, Bm, zs, cs, (hb nb h1.lt (.inr h3)).trans h1, (hb lb h2.lt (.inl rfl)).trans h2, h3, fun i l hl => ?_, h5⟩
  obtain ⟨k1, k2, ⟨k3, k4, k5⟩, k6, k7, k8⟩ := h4 i l hl
  exact ⟨k1, k2, ⟨k3, k4, own_eq k5 fun g hg hlt => hb g hlt (.inr (k8 g hg))⟩, k6.heap (hb _ k6.lt (.inr k7)), k7, k8⟩
theorem MkS.below {w w' : World} {X : Nat → Prop} {nb lb : Nat} {N : List (List (List Int))} (h : MkS w X nb lb N) (hb : Below w.heap.size w w') : MkS w' X nb lb N := h.same fun b hlt _ => hb.block b hlt
theorem MkS.set {w : World} {X : Nat → Prop} {nb lb g : Nat} {N : List (List (List Int))} (h : MkS w X nb lb N) (hg : ¬ X g) (hl : lb ≠ g) (j : Nat) (u : Value) : MkS (w.setCell ⟨g, j, none⟩ u) X nb lb N :=
  h.same fun b _ hb => Below.heap_setCell w ⟨g, j, none⟩ u b (fun e => by
    have e : b = g := e
    subst e
    rcases hb with hb | hb
    · exact hl hb.symm
    · exact hg hb)
theorem MkS.lb_blk {w : World} {X : Nat → Prop} {nb lb : Nat} {N : List (List (List Int))} (h : MkS w X nb lb N) : ∃ cs, TBlk 67 w lb cs := by
  obtain ⟨V, Bm, zs, cs, h1, h2, -⟩ := h; exact ⟨cs, h2⟩
/-- layer i, and what one more node makes of the state. -/
theorem MkS.at_ {w : World} {X : Nat → Prop} {nb lb i : Nat} {N : List (List (List Int))} {l : List (List Int)} (h : MkS w X nb lb N) (hl : N[i]? = some l) :
    ∃ (v : Value) (b : Nat) (zs cs : Array Value), TBlk 99 w nb zs ∧ TBlk 67 w lb cs ∧ zs[i]? = some v ∧ cs[i]? = some (.map (some b)) ∧ RowE w v l ∧ EMap w b l.length l ∧ X b ∧ X nb ∧ (∀ g, v.ownBlock = some g → X g) ∧
      ∀ (wf : World) (v' : Value) (r : List Int), TBlk 99 wf nb (zs.setIfInBounds i v') → TBlk 67 wf lb cs → RowE wf v' (l ++ [r]) → EMap wf b (l.length + 1) (l ++ [r]) → (v'.ownBlock = v.ownBlock ∨ ∃ g, v'.ownBlock = some g ∧ w.heap.size ≤ g) →
        (∀ g, g < w.heap.size → X g → g ≠ nb → g ≠ b → v.ownBlock ≠ some g → wf.heap[g]? = w.heap[g]?) → MkS wf (fun g => X g ∨ v'.ownBlock = some g) nb lb (N.set i (l ++ [r])) := by
  obtain ⟨V, Bm, zs, cs, h1, h2, h3, h4, h5⟩ := h
  obtain ⟨k1, k2, k3, k4, k5, k6⟩ := h4 i l hl
  have hi : i < N.length := (List.getElem?_eq_some_iff.1 hl).1
  refine ⟨V i, Bm i, zs, cs, h1, h2, k1, k2, k3, k4, k5, h3, k6, fun wf v' r c1 c2 c3 c4 c5 c6 => ?_⟩
  obtain ⟨V', hV1, hV2⟩ : ∃ V' : Nat → Value, V' i = v' ∧ ∀ j, j ≠ i → V' j = V j := ⟨fun j => if j = i then v' else V j, by simp, fun j h => by simp [h]⟩
  refine ⟨V', Bm, zs.setIfInBounds i v', cs, c1, c2, .inl h3, fun j m hm => ?_, fun a j ha hj hne => ?_⟩
  · rw [List.getElem?_set] at hm
    by_cases e : j = i
    · subst e
      rw [if_pos rfl, if_pos hi] at hm
      injection hm with hm
      subst hm
      have hz : j < zs.size := (Array.getElem?_eq_some_iff.1 k1).1
      refine ⟨by rw [hV1, Array.getElem?_setIfInBounds_self, if_pos hz], k2, by rw [hV1]; exact c3, by simpa using c4, .inl k5, fun g hg => ?_⟩
      rw [hV1] at hg
      exact .inr hg
    · rw [if_neg (fun e' => e e'.symm)] at hm
      obtain ⟨q1, q2, ⟨q3, q4, q5⟩, q6, q7, q8⟩ := h4 j m hm
      have hj : j < N.length := (List.getElem?_eq_some_iff.1 hm).1
      obtain ⟨d1, d2⟩ := h5 j i hj hi e
      rw [hV2 j e]
      exact ⟨by rw [Array.getElem?_setIfInBounds_ne (fun e' => e e'.symm)]; exact q1, q2, ⟨q3, q4, own_eq q5 fun g hg hlt => c6 g hlt (q8 g hg) (fun e' => by subst e'; exact own_not q5 hg h1 (by decide)) (fun e' => by subst e'; exact own_notE q5 hg k4) (fun h7 => d2 g hg h7)⟩, q6.heap (c6 _ q6.lt q7 (fun e' => q6.ne h1 e') d1 (fun hg => own_notE k3.2.2 hg q6)), .inl q7, fun g hg => .inl (q8 g hg)⟩
  · rw [List.length_set] at ha hj
    obtain ⟨d1, d2⟩ := h5 a j ha hj hne
    refine ⟨d1, fun g hg => ?_⟩
    have hw : ∀ q, q < N.length → ∀ g, (V q).ownBlock = some g → g < w.heap.size := fun q hq g hg => by
      obtain ⟨-, -, ⟨-, -, q5⟩, -⟩ := h4 q _ (List.getElem?_eq_getElem hq)
      exact ownLt q5 hg
    by_cases e : a = i
    · subst e
      rw [hV1] at hg
      rw [hV2 j (fun e' => hne e'.symm)]
      rcases c5 with c5 | ⟨g', c5, c7⟩
      · rw [c5] at hg; exact d2 g hg
      · rw [c5] at hg
        injection hg with hg
        subst hg
        intro h6
        have := hw j hj _ h6
        omega
    · by_cases e2 : j = i
      · subst e2
        rw [hV2 a e] at hg
        rw [hV1]
        rcases c5 with c5 | ⟨g', c5, c7⟩
        · rw [c5]; exact d2 g hg
        · rw [c5]
          intro h6
          injection h6 with h6
          subst h6
          have := hw a ha _ hg
          omega
      · rw [hV2 a e] at hg
        rw [hV2 j e2]
        exact d2 g hg
section
variable {P : Program} {w : World} {o : Oper} {a : Act} {Q : Exit → Act → World → Prop}
/-- append to my slice at a step of a region; it tells where the new one lies. -/
theorem step_append_blk {ops : Array Oper} {K : Act → World → Prop} {E : Prop} (hgd : o.guard = none) (s x : Operand) (t : TypeId)
    (ho : o.op = .call { callee := .builtin .append, args := #[s, x], argTypes := #[t, t] })
    (base : Nat) (e : TypeId) (i : TypeInfo) (z : Value) (size bytes : Nat) (ht : P.underlying t = some (.slice e)) (hi : P.info? e = some i) (hz : i.zero = some z)
    (hsize : i.size = size) (hby : i.bytes = bytes) (hzs : z.cells.size = size) (hsz : 0 < size)
    (v : Value) (n : Nat) (xs : List Value) (hs : a.eval s = v) (hown : w.ownsRow base e size v n xs)
    (ad : Addr) (m c : Nat) (news : List Value) (hx : a.eval x = .slice (some ad) m c) (hl : news.length = m * size) (hc : ∀ j u, news[j]? = some u → w.cell? (ad.add j) = some u) (h1 : ∀ u ∈ news, u.oneCell' = true)
    (h63 : n + m ≤ maxLen) (hbytes : (n + m) * bytes ≤ 140737488355328) (hbase : base ≤ w.heap.size)
    (h : ∀ v' w', w'.ownsRow base e size v' (n + m) (xs ++ news) → Below base w w' → w.grownBy w' v.ownBlock → (v'.ownBlock = v.ownBlock ∨ v'.ownBlock = some w.heap.size) → K (a.put o.dst v') w') :
    if Region.wanted o (yielded ops a.tmps) = true then Oper.wp P o a w K Q else E := by
  have hw : Region.wanted o (yielded ops a.tmps) = true := by simp [Region.wanted, hgd]
  rw [if_pos hw]
  obtain ⟨v', w', hr, h2, h3, h4, h5⟩ := run_append_own_at (P := P) w base t o.type e i z size bytes ht hi hz hsize hby hzs hsz v n xs hown ad m c news hl hc h1 h63 hbytes hbase
  unfold Oper.wp execOp
  simp only [ho, resolve, invoke, builtin, Sem.run_bind, Sem.run_pure, Result.andThen_ok, List.map_toArray, List.map_cons, List.map_nil, hs, hx, hr]
  exact h v' w' h2 ((Below.refl _ _).grown h3 hbase (fun g hg => (hown.lt g hg).1)) h3 h5
end
theorem cloneIntO (b0 n : Nat) (v : Value) (xs : List Int) (w : World) (h : HoldR w b0 3 1 v n (xs.map (.int .i64))) (hn : n ≤ 1048576) :
    Calls Try.prog 90 #[v] w fun e w' => ∃ v', e = .returned v' ∧ w'.ownsRow w.heap.size 3 1 v' n (xs.map (.int .i64)) ∧ Below w.heap.size w w' := by
  obtain ⟨i0, hi0, hz0, hz1, hz2⟩ := info_parts info_int
  have hlen : xs.length = n := by have := h.1; simpa using this
  rcases h.2 with ⟨rfl, rfl⟩ | ⟨g, cap, cur, rfl, -⟩
  · obtain rfl : xs = [] := List.eq_nil_of_length_eq_zero hlen
    have q22 : ∀ (w : World) (a : Option Addr) (n c n' c' : Nat), (binOp .eql 22 (.slice a n c) (.slice none n' c')).run Try.prog w = .ok (.bool a.isNone) w := fun w a n c n' c' => Lib.run_eql_slice_nil w _ _ a n c n' c' Try.underlying22
    have u22 : ∀ w, Sem.run Try.prog (underlying 22) w = .ok (TypeDesc.slice 3) w := run_underlying Try.underlying22
    go_enter Try.func90, Try.ntmps90
    go_wp2_with fail
    go_ret
    exact ⟨_, rfl, ⟨by simp, .inl ⟨rfl, rfl⟩⟩, Below.refl _ _⟩
  · have ol : (w.alloc (.cells #[] 3)).ownsRow w.heap.size 3 1 (.slice (some ⟨w.heap.size, 0, none⟩) 0 0) 0 [] := World.ownsRow_lit w #[] 0 (Nat.le_refl _) (by decide) rfl
    have hs := (h.below (b_alloc w (.cells #[] 3))).src
    clear h
    have q22 : ∀ (w : World) (a : Option Addr) (n c n' c' : Nat), (binOp .eql 22 (.slice a n c) (.slice none n' c')).run Try.prog w = .ok (.bool a.isNone) w := fun w a n c n' c' => Lib.run_eql_slice_nil w _ _ a n c n' c' Try.underlying22
    have u22 : ∀ w, Sem.run Try.prog (underlying 22) w = .ok (TypeDesc.slice 3) w := run_underlying Try.underlying22
    go_enter Try.func90, Try.ntmps90
    go_wp2_with (at_builtin; refine wpList_append_any rfl _ _ 22 rfl w.heap.size 3 i0 _ 1 8 Try.underlying22 hi0 hz0 hz1 hz2 rfl (by decide) (.slice (some ⟨w.heap.size, 0, none⟩) 0 0) _ _ rfl ol _ _ _ _ rfl hs (by simp [Value.oneCell']) (by unfold maxLen; omega) (by omega) (by rw [size_alloc_]; omega) ?_; intro v1 w1 ho1 hb1 _ _)
    have ho2 : w1.ownsRow w.heap.size 3 1 v1 n (xs.map (.int .i64)) := by simpa using ho1
    go_ret
    exact ⟨v1, rfl, ho2, (b_alloc _ _).trans hb1⟩
end Go.Proofs.Ytfmdgdamelkelaa
