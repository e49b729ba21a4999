/- (*maker).node. -/
import Derived.Test.YtfmdgdamelkelaaMkM
import Derived.Test.YtfmdgdamelkelaaMkP
import Derived.Test.YtfmdgdamelkelaaSatI
import Derived.Test.YtfmdgdamelkelaaNums
import Derived.Deep.RegionHeld3
namespace Go.Proofs.Ytfmdgdamelkelaa
open Go.ChangeShapes Go.WideShapes Go.ChangeAt Go.RowKit
open Go.Shelf
set_option linter.unusedVariables false
set_option maxRecDepth 100000
attribute [local go_sem] Oper.semAt_some

/-- what the maker's box shows: it stays as it was made. -/
structure MkD (w : World) (B0 mb k cd : Nat) (bx : Array Value) (kc : Con) (us : List Value) (ws : List Int) (Ad : Option Addr) : Prop where
  blk : TBlk 66 w mb bx
  con : ConR w B0 us kc
  word : HoldR w 0 3 1 (.slice Ad k cd) k (ws.map (.int .i64))
  base : B0 ≤ w.heap.size
/-- X leaves the maker and its word alone. -/
def NX (X : Nat → Prop) (mb k cd : Nat) (Ad : Option Addr) : Prop := ¬ X mb ∧ ∀ g, (Value.slice Ad k cd).ownBlock = some g → ¬ X g
theorem MkD.kp {X : Nat → Prop} {w w' : World} {B0 mb k cd : Nat} {bx : Array Value} {kc : Con} {us : List Value} {ws : List Int} {Ad : Option Addr} (h : MkD w B0 mb k cd bx kc us ws Ad) (hk : Kp X w w') (hx : ∀ b, b < w.heap.size → X b → B0 ≤ b) (hm : NX X mb k cd Ad) : MkD w' B0 mb k cd bx kc us ws Ad :=
  have hb := hk.below hx h.base
  ⟨hk.blk h.blk hm.1, ConR.keeps _ _ _ _ _ (fun p hp => hb.cell hp) h.con, h.word.kp hk hm.2, Nat.le_trans h.base hk.size⟩
theorem MkD.below {w w' : World} {B0 mb k cd : Nat} {bx : Array Value} {kc : Con} {us : List Value} {ws : List Int} {Ad : Option Addr} (h : MkD w B0 mb k cd bx kc us ws Ad) (hb : Below w.heap.size w w') : MkD w' B0 mb k cd bx kc us ws Ad :=
  h.kp (X := fun _ => False) (Kp.of hb) (fun _ _ h => h.elim) ⟨id, fun _ _ => id⟩
theorem MkD.wordR {w : World} {B0 mb k cd : Nat} {bx : Array Value} {kc : Con} {us : List Value} {ws : List Int} {Ad : Option Addr} (h : MkD w B0 mb k cd bx kc us ws Ad) (hk : k ≤ 1000) : IntR w w.heap.size Ad k ws := by
  obtain ⟨A', c', e, h1⟩ := IntR.of_hold h.word (by omega)
  injection e with e1 e2 e3
  subst e1
  exact h1
theorem hold_ne {X : Nat → Prop} {A : Option Addr} {n c : Nat} (h : ∀ g, (Value.slice A n c).ownBlock = some g → ¬ X g) {p : Addr} (hp : A = some p) : ¬ X p.block := h _ (by rw [hp]; rfl)
theorem setNext {rs : List Int} {v : Nat} (y : Int) (h : rs.length = v) (hv : v < 6) : (rs ++ List.replicate (6 - v) 0).set v y = (rs ++ [y]) ++ List.replicate (6 - (v + 1)) 0 := by
  rw [List.set_append_right _ _ (by omega), show 6 - v = (6 - (v + 1)) + 1 by omega, List.replicate_succ, h, Nat.sub_self]
  simp
theorem setAgain {rs zs : List Int} {v : Nat} (y z : Int) (h : rs.length = v) : ((rs ++ [y]) ++ zs).set v z = (rs ++ [z]) ++ zs := by
  rw [List.append_assoc, List.set_append_right _ _ (by omega), h, Nat.sub_self]
  simp
theorem HoldR.ownLt {w : World} {base n size g : Nat} {e : TypeId} {v : Value} {xs : List Value} (h : HoldR w base e size v n xs) (hg : v.ownBlock = some g) : g < w.heap.size := by
  rcases h.2 with ⟨rfl, -⟩ | ⟨g', cap, cur, rfl, h2, h3, -⟩
  · cases hg
  · injection hg with hg; subst hg; exact (Array.getElem?_eq_some_iff.1 h3).1
theorem info_edges : (Try.prog.info? 97).map (fun i => (i.zero, i.size, i.bytes)) = some (some (.agg #[.int .i64 0, .int .i64 0, .int .i64 0, .int .i64 0, .int .i64 0, .int .i64 0]), 6, 48) := by kernel_rfl
/-- what node promises. -/
def NodeQ (w : World) (X : Nat → Prop) (nb lb k f : Nat) (N : List (List (List Int))) (M : Nat) (sat : List Int → Bool) (ws x : List Int) (e : Ending) (w' : World) : Prop :=
  ∃ (a : Int) (N' : List (List (List Int))) (Y : Nat → Prop), e = .returned (.int .i64 a) ∧ MkS w' Y nb lb N' ∧ (∀ b, Y b → (X b ∨ w.heap.size ≤ b) ∧ b < w'.heap.size) ∧ Kp X w w' ∧ GInv N' k ∧ GExt N N' ∧ Bd5 N' (M + 7 ^ f) ∧ ResF N' k f sat ws x a
set_option maxHeartbeats 2000000 in
theorem inode0 (B0 mb nb lb k cv ca cr cd cl cn : Nat) (va aa ra Ad : Option Addr) (kc : Con) (ws : List Int) (hws : ws.length = k) (hk4 : k ≤ 4) (hok : ∀ xs : List Int, xs.length = k → (∀ y ∈ xs, 0 ≤ y ∧ y ≤ 5) → SatOk kc xs)
    (x : List Int) (w : World) (X : Nat → Prop) (N : List (List (List Int))) (A : Option Addr) (c M : Nat) (hx5 : ∀ y ∈ x, 0 ≤ y ∧ y ≤ 5) (hx : HoldR w 0 3 1 (.slice A k c) k (x.map (.int .i64)))
    (hd : MkD w B0 mb k cd #[.int .i64 kc.kind, .slice va kc.vars.length cv, .slice aa kc.args.length ca, .int .i64 kc.bound, .slice ra kc.rows.length cr, .slice Ad k cd, .slice (some ⟨lb, 0, none⟩) k cl, .slice (some ⟨nb, 0, none⟩) k cn] kc [.int .i64 kc.kind, .slice va kc.vars.length cv, .slice aa kc.args.length ca, .int .i64 kc.bound, .slice ra kc.rows.length cr] ws Ad)
    (hX : ∀ b, X b → B0 ≤ b ∧ b < w.heap.size) (hs : MkS w X nb lb N) (hg : GInv N k) (hb : Bd5 N M) :
    Calls Try.prog 53 #[.pointer (some ⟨mb, 0, none⟩), .slice A k c] w (NodeQ w X nb lb k 0 N M (satF kc) ws x) := by
  have hxl : x.length = k := by have := hx.1; simpa using this
  have HS := Lib.hid (hok x hxl hx5)
  have hcap := hx.capLe
  obtain ⟨A', c', ea, hxr⟩ := IntR.of_hold hx (by omega)
  injection ea with e1 e2 e3
  subst e1 e3
  have a0 := hd.blk.at_ 0 rfl
  have a1 := hd.blk.at_ 1 rfl
  have a2 := hd.blk.at_ 2 rfl
  have a3 := hd.blk.at_ 3 rfl
  have a4 := hd.blk.at_ 4 rfl
  have a5 := hd.blk.at_ 5 rfl
  have HC := Lib.hid (ConR.widens _ _ _ _ _ hd.base hd.con)
  have HXR := Lib.hid hxr
  have HALL := Lib.hid (And.intro hX (And.intro hs (And.intro hg hb)))
  have HXL := Lib.hid hxl
  have HWS := Lib.hid hws
  obtain ⟨n1, hn1⟩ : ∃ n1, kc.vars.length = n1 := ⟨_, rfl⟩
  obtain ⟨n2, hn2⟩ : ∃ n2, kc.args.length = n2 := ⟨_, rfl⟩
  obtain ⟨n3, hn3⟩ : ∃ n3, kc.rows.length = n3 := ⟨_, rfl⟩
  rw [hn1, hn2, hn3] at HC
  rw [hn1] at a1
  rw [hn2] at a2
  rw [hn3] at a4
  clear hX hs hg hb hd hx hok hxr hx5 hn1 hn2 hn3 hxl hws
  go_enter Try.func53, Try.ntmps53
  go_wp2_with fail
  refine (isatisfied _ kc A k c x w HC.out HXR.out hcap HS.out).mono ?_
  rintro e w' ⟨rfl, hB⟩
  cases hsat : satF kc x
  · go_wp2_with fail
    go_ret
    have hr := ResF.full (N := N) (sat := satF kc) HXL.out HWS.out
    rw [hsat] at hr
    obtain ⟨hX, hs, hg, hb⟩ := HALL.out
    exact ⟨-1, N, X, rfl, hs.below hB, fun b hxb => ⟨.inl hxb, Nat.lt_of_lt_of_le (hX b hxb).2 hB.size⟩, Kp.of hB, hg, GExt.refl N, hb.mono (by omega), hr⟩
  · go_wp2_with fail
    go_ret
    have hr := ResF.full (N := N) (sat := satF kc) HXL.out HWS.out
    rw [hsat] at hr
    obtain ⟨hX, hs, hg, hb⟩ := HALL.out
    exact ⟨0, N, X, rfl, hs.below hB, fun b hxb => ⟨.inl hxb, Nat.lt_of_lt_of_le (hX b hxb).2 hB.size⟩, Kp.of hB, hg, GExt.refl N, hb.mono (by omega), hr⟩
set_option maxHeartbeats 8000000 in
theorem inode (B0 mb nb lb k cv ca cr cd cl cn : Nat) (va aa ra Ad : Option Addr) (kc : Con) (ws : List Int) (hws : ws.length = k) (hk4 : k ≤ 4) (hwd : ∀ d ∈ ws, 0 ≤ d ∧ d ≤ 63) (hok : ∀ xs : List Int, xs.length = k → (∀ y ∈ xs, 0 ≤ y ∧ y ≤ 5) → SatOk kc xs) :
    ∀ (f n : Nat) (x : List Int) (w : World) (X : Nat → Prop) (N : List (List (List Int))) (A : Option Addr) (c M : Nat), n + f = k → (∀ y ∈ x, 0 ≤ y ∧ y ≤ 5) → HoldR w 0 3 1 (.slice A n c) n (x.map (.int .i64)) → (∀ g, (Value.slice A n c).ownBlock = some g → ¬ X g) →
    MkD w B0 mb k cd #[.int .i64 kc.kind, .slice va kc.vars.length cv, .slice aa kc.args.length ca, .int .i64 kc.bound, .slice ra kc.rows.length cr, .slice Ad k cd, .slice (some ⟨lb, 0, none⟩) k cl, .slice (some ⟨nb, 0, none⟩) k cn] kc [.int .i64 kc.kind, .slice va kc.vars.length cv, .slice aa kc.args.length ca, .int .i64 kc.bound, .slice ra kc.rows.length cr] ws Ad → NX X mb k cd Ad →
    (∀ b, X b → B0 ≤ b ∧ b < w.heap.size) → MkS w X nb lb N → GInv N k → Bd5 N M → M + 7 ^ f ≤ 5000 →
    Calls Try.prog 53 #[.pointer (some ⟨mb, 0, none⟩), .slice A n c] w (NodeQ w X nb lb k f N M (satF kc) ws x) := by
  obtain ⟨i0, hi0, hz0, hz1, hz2⟩ := info_parts info_int
  obtain ⟨i6, hi6, hy0, hy1, hy2⟩ := info_parts info_edges
  intro f
  induction f with
  | zero =>
    intro n x w X N A c M hn hx5 hx hxX hd hmb hX hs hg hb hM
    obtain rfl : n = k := by omega
    exact inode0 B0 mb nb lb n cv ca cr cd cl cn va aa ra Ad kc ws hws hk4 hok x w X N A c M hx5 hx hd hX hs hg hb
  | succ f ih =>
    intro n x w X N A c M hn hx5 hx hxX hd hmb hX hs hg hb hM
    have IH := Lib.hid ih
    clear ih
    have hxl : x.length = n := by have := hx.1; simpa using this
    have hnk : n < k := by omega
    have hnk2 : ((n : Int) == (k : Int)) = false := by simp; omega
    have hn0 : (0 : Int) ≤ (n : Int) := by omega
    have hkz : (n : Int) < (k : Int) := by omega
    obtain ⟨d0, hd0⟩ : ∃ d, ws[n]? = some d := ⟨_, List.getElem?_eq_getElem (by omega)⟩
    have hd63 := hwd d0 (List.mem_of_getElem? hd0)
    obtain ⟨pb, po, d0', rfl, hpb, hd0', -⟩ := IntR.at_ (hd.wordR (by omega)) hnk
    rw [hd0] at hd0'
    injection hd0' with hd0'
    subst hd0'
    have H1 := Lib.hid (And.intro hd (And.intro hmb (And.intro hX (And.intro hx hxX))))
    have H2 := Lib.hid (And.intro hs (And.intro hg hb))
    have HD0 := Lib.hid hd0
    have HXL := Lib.hid hxl
    have HX5 := Lib.hid hx5
    have HC5 := hx.capLe
    have a5 := hd.blk.at_ 5 rfl
    obtain ⟨P, hP⟩ : ∃ P, 7 ^ f = P := ⟨_, rfl⟩
    have hP6 : 7 ^ (f + 1) = 7 * P := by rw [Nat.pow_succ, hP]; omega
    rw [hP6] at hM
    have hP1 : 1 ≤ P := by rw [← hP]; exact Nat.pos_of_ne_zero (by simp)
    have HP := Lib.hid (And.intro hP hP6)
    obtain ⟨wA, hwA⟩ : ∃ wA, w.alloc (.cells #[.int .i64 0, .int .i64 0, .int .i64 0, .int .i64 0, .int .i64 0, .int .i64 0] 97) = wA := ⟨_, rfl⟩
    have hbA : Below w.heap.size w wA := by rw [← hwA]; exact b_alloc _ _
    have hzA : wA.heap.size = w.heap.size + 1 := by rw [← hwA, size_alloc_]
    have TE : TBlk 97 wA w.heap.size (ints [0, 0, 0, 0, 0, 0]) := by rw [← hwA]; exact TBlk.new _ _ _
    have HTE := Lib.hid TE
    have HSA := Lib.hid (hs.below hbA)
    have HDA := Lib.hid (hd.below hbA)
    have HXA := Lib.hid (hx.below hbA)
    have HBA := Lib.hid hbA
    clear hd hmb hX hx hxX hs hg hb hd0 hxl hx5 hP hP6 hbA TE hws
    go_enter Try.func53, Try.ntmps53
    go_wp2_with fail
    clear hwA
    go_loopw [7, 26] (fun al t26 wr => ∃ (v : Nat) (rs : List Int) (Nr : List (List (List Int))) (Y : Nat → Prop), v ≤ 6 ∧ t26 = .int .i64 v ∧ al = .bool (rs.any fun x => decide (0 ≤ x)) ∧ wA.heap.size ≤ wr.heap.size ∧ Hid (rs.length = v) ∧ Hid (TBlk 97 wr w.heap.size (ints (rs ++ List.replicate (6 - v) 0))) ∧ Hid (MkS wr Y nb lb Nr) ∧ Hid (∀ b, Y b → (X b ∨ wA.heap.size ≤ b) ∧ b < wr.heap.size) ∧ Hid (Kp (fun b => X b ∨ b = w.heap.size) wA wr) ∧ Hid (GInv Nr k) ∧ Hid (GExt N Nr) ∧ Hid (Bd5 Nr (M + v * P)) ∧ Hid (RowOk Nr k n f (tgtF (satF kc) ws x d0) rs)) (fun _ i _ => 6 - (intOf i).toNat)
    case atStart => exact ⟨0, [], N, X, by omega, rfl, rfl, Nat.le_refl _, Lib.hid rfl, HTE, HSA, Lib.hid fun b hb => ⟨.inl hb, by have := (H1.out.2.2.1 b hb).2; omega⟩, Lib.hid (Kp.refl _ _), Lib.hid H2.out.2.1, Lib.hid (GExt.refl N), Lib.hid (H2.out.2.2.mono (by omega)), Lib.hid (RowOk.nil _ _ _ _ _)⟩
    case round =>
      obtain ⟨v, rs, Nr, Y, hv, rfl, rfl, hzr, hrl, hT, hS, hY, hK, hG, hE, hB, hR⟩ := hrel
      rename World => wr
      by_cases hlt : v < 6
      · have hnb0 := H1.out.1.base
        have hmlt := H1.out.1.blk.lt
        have hXlt := fun b hb => (H1.out.2.2.1 b hb).2
        have hYe : ¬ Y w.heap.size := fun h => by
          rcases (hY.out _ h).1 with h1 | h1
          · have := hXlt _ h1; omega
          · omega
        have hYm : NX Y mb k cd (some ⟨pb, po, none⟩) := ⟨fun h => by
          rcases (hY.out _ h).1 with h1 | h1
          · exact H1.out.2.1.1 h1
          · omega, fun g hg h => by
          have hgl := H1.out.1.word.ownLt hg
          rcases (hY.out _ h).1 with h1 | h1
          · exact H1.out.2.1.2 g hg h1
          · omega⟩
        obtain ⟨cs, hcs⟩ := hS.out.lb_blk
        have hle : lb ≠ w.heap.size := hcs.ne hT.out (by decide)
        have hXe : ∀ b, b < wA.heap.size → (X b ∨ b = w.heap.size) → B0 ≤ b := fun b _ h => by
          rcases h with h | h
          · exact (H1.out.2.2.1 b h).1
          · omega
        have hXm : NX (fun b => X b ∨ b = w.heap.size) mb k cd (some ⟨pb, po, none⟩) := ⟨fun h => by
          rcases h with h | h
          · exact H1.out.2.1.1 h
          · omega, fun g hg h => by
          have hgl := H1.out.1.word.ownLt hg
          rcases h with h | h
          · exact H1.out.2.1.2 g hg h
          · omega⟩
        have hat : (rs ++ List.replicate (6 - v) (0 : Int))[v]? = some 0 := by
          rw [List.getElem?_append_right (by rw [hrl.out]; omega), hrl.out, Nat.sub_self, show 6 - v = (6 - (v + 1)) + 1 by omega, List.replicate_succ]
          rfl
        have z0 := hT.out.at_ v (ints_at hat)
        have zf := hT.out.frozen v
        obtain ⟨w1, hw1⟩ : ∃ w1, wr.setCell ⟨w.heap.size, v, none⟩ (.int .i64 (-1)) = w1 := ⟨_, rfl⟩
        have hsw1 : w1.heap.size = wr.heap.size := by rw [← hw1]; simp
        have T1 : TBlk 97 w1 w.heap.size (ints ((rs ++ [-1]) ++ List.replicate (6 - (v + 1)) 0)) := by
          have := hT.out.store v (.int .i64 (-1))
          rw [ints_set, setNext (-1) hrl.out hlt, hw1] at this
          exact this
        have S1 : MkS w1 Y nb lb Nr := by rw [← hw1]; exact hS.out.set hYe hle v _
        have K1 : Kp (fun b => X b ∨ b = w.heap.size) wA w1 := by rw [← hw1]; exact hK.out.set (.inl (.inr rfl)) v _
        have D1 := HDA.out.kp K1 hXe hXm
        have b5 := D1.blk.at_ 5 rfl
        obtain ⟨qb, qo, d1, ea, hqb, hd1, hcd⟩ := IntR.at_ (D1.wordR (by omega)) hnk
        injection ea with ea
        injection ea with ea1 ea2
        subst ea1 ea2
        rw [HD0.out] at hd1
        injection hd1 with hd1
        subst hd1
        have X1 := HXA.out.kp K1 (fun g hg h => by
          rcases h with h | h
          · exact H1.out.2.2.2.2 g hg h
          · have := H1.out.2.2.2.1.ownLt hg; omega)
        have HT1 := Lib.hid T1
        have HS1 := Lib.hid S1
        have HK1 := Lib.hid K1
        have HD1 := Lib.hid D1
        have HX1 := Lib.hid X1
        have HYE := Lib.hid (And.intro hYe (And.intro hYm hle))
        clear hYe hYm hle hcs hXe hXm hat T1 S1 K1 D1 X1 hXlt hT hS hK
        go_wp2_with fail
        refine (ihas d0 (v : Int) hd63.1 (by omega) (by omega) w1).mono ?_
        rintro e w' ⟨rfl, rfl⟩
        cases hh : hasB d0 (v : Int)
        · go_wp2_with fail
          go_roundw
          case rel => exact ⟨v + 1, rs ++ [-1], Nr, Y, by omega, by go_num, by simp, by omega, Lib.hid (by simp [hrl.out]), HT1, HS1, Lib.hid (fun b hb => by have := hY.out b hb; exact ⟨this.1, by omega⟩), HK1, hG, hE, Lib.hid (hB.out.mono (by have : v * P ≤ (v + 1) * P := Nat.mul_le_mul_right _ (by omega); omega)), Lib.hid (hR.out.snoc (.inl ⟨rfl, by unfold tgtF; rw [hrl.out, hh]; simp⟩))⟩
          case measure => simp [intOf]; omega
        · go_wp2_with fail
          refine (cloneIntO 0 n _ x w1 HX1.out (by omega)).mono ?_
          rintro e w2 ⟨v2, rfl, o2, hb2⟩
          obtain ⟨A2, c2, rfl⟩ := (HoldR.of_own o2).form
          have hsw2 := hb2.size
          have ho2 := Lib.hid o2
          have hB2 := Lib.hid hb2
          have o3 := own_below o2 (b_alloc w2 (.cells #[.int .i64 (v : Int)] 3))
          have sr := src_own (World.ownsRow_lit (e := 3) (size := 1) w2 #[.int .i64 (v : Int)] 1 (Nat.le_refl _) (by decide) rfl)
          clear o2 hb2
          go_wp2_with (at_builtin; refine wpList_append_any rfl _ _ 22 rfl w1.heap.size 3 i0 _ 1 8 Try.underlying22 hi0 hz0 hz1 hz2 rfl (by decide) (.slice A2 n c2) n (x.map (.int .i64)) rfl o3 (some ⟨w2.heap.size, 0, none⟩) 1 1 [.int .i64 (v : Int)] rfl sr (by simp [Value.oneCell']) (by unfold maxLen; omega) (by omega) (by rw [size_alloc_]; omega) ?_; intro v4 w4 ho4 hb4 _ _)
          obtain ⟨A4, c4, rfl⟩ := (HoldR.of_own ho4).form
          have hb3 : Below w1.heap.size w1 w4 := (hB2.out.trans (by have := b_alloc w2 (.cells #[.int .i64 (v : Int)] 3); exact this.mono hsw2)).trans hb4
          have hsw4 := hb3.size
          have hvP : v * P + P ≤ 6 * P := by
            have h1 : (v + 1) * P ≤ 6 * P := Nat.mul_le_mul_right _ (by omega)
            rw [Nat.succ_mul] at h1
            exact h1
          have IHc := Lib.hid (IH.out (n + 1) (x ++ [(v : Int)]) w4 Y Nr A4 c4 (M + v * P) (by omega) (fun y hy => by
              rcases List.mem_append.1 hy with h | h
              · exact HX5.out y h
              · rw [List.mem_singleton.1 h]; omega)
            (by have := HoldR.of_own ho4; rw [List.map_append]; exact this.base_ (Nat.zero_le _))
            (fun g hg h => by
              have h1 := (hY.out g h).2
              have h2 := (ho4.lt g hg).1
              omega)
            (HD1.out.below hb3) HYE.out.2.1
            (fun b hb => ⟨by rcases (hY.out b hb).1 with h1 | h1; exact (H1.out.2.2.1 b h1).1; omega, by have := (hY.out b hb).2; omega⟩)
            (HS1.out.below hb3) hG.out hB.out (by rw [HP.out.1]; omega))
          have HK4 := Lib.hid (HK1.out.go (Kp.of (X := fun _ => False) hb3) (fun _ _ h => h.elim))
          have HT4 := Lib.hid (HT1.out.below_ hb3 HT1.out.lt)
          clear ho4 hb4 o3 sr hB2 ho2 hb3 hcd b5 z0 zf HS1 HD1 HX1 HK1 HT1
          go_wp2_with fail
          refine IHc.out.mono ?_
          rintro e w5 ⟨a, N', Y', rfl, S5, hY5, K5, G5, E5, B5, R5⟩
          clear IHc
          have T5 := K5.blk HT4.out HYE.out.1
          have hat5 : ((rs ++ [-1]) ++ List.replicate (6 - (v + 1)) (0 : Int))[v]? = some (-1) := by
            rw [List.getElem?_append_left (by simp [hrl.out]), List.getElem?_append_right (by rw [hrl.out]; omega), hrl.out, Nat.sub_self]
            rfl
          have z5 := T5.at_ v (ints_at hat5)
          have zf5 := T5.frozen v
          have hsw5 := K5.size
          obtain ⟨w6, hw6⟩ : ∃ w6, w5.setCell ⟨w.heap.size, v, none⟩ (.int .i64 a) = w6 := ⟨_, rfl⟩
          have T6 : TBlk 97 w6 w.heap.size (ints ((rs ++ [a]) ++ List.replicate (6 - (v + 1)) 0)) := by
            have := T5.store v (.int .i64 a)
            rw [ints_set, setAgain (-1) a hrl.out, hw6] at this
            exact this
          have hat6 : ((rs ++ [a]) ++ List.replicate (6 - (v + 1)) (0 : Int))[v]? = some a := by
            rw [List.getElem?_append_left (by simp [hrl.out]), List.getElem?_append_right (by rw [hrl.out]; omega), hrl.out, Nat.sub_self]
            rfl
          have z6 := T6.at_ v (ints_at hat6)
          have hsw6 : w6.heap.size = w5.heap.size := by rw [← hw6]; simp
          have hYe5 : ¬ Y' w.heap.size := fun h => by
            rcases (hY5 _ h).1 with h1 | h1
            · exact HYE.out.1 h1
            · omega
          have S6 : MkS w6 Y' nb lb N' := by rw [← hw6]; exact S5.set hYe5 HYE.out.2.2 v _
          have K6 : Kp (fun b => X b ∨ b = w.heap.size) wA w6 := by
            rw [← hw6]
            exact (HK4.out.go K5 (fun b hb h => by
              rcases (hY.out b h).1 with h1 | h1
              · exact .inl h1
              · omega)).set (.inl (.inr rfl)) v _
          have HREL := Lib.hid (show Hid (TBlk 97 w6 w.heap.size (ints ((rs ++ [a]) ++ List.replicate (6 - (v + 1)) 0))) ∧ Hid (MkS w6 Y' nb lb N') ∧ Hid (∀ b, Y' b → (X b ∨ wA.heap.size ≤ b) ∧ b < w6.heap.size) ∧ Hid (Kp (fun b => X b ∨ b = w.heap.size) wA w6) ∧ Hid (GInv N' k) ∧ Hid (GExt N N') ∧ Hid (Bd5 N' (M + (v + 1) * P)) ∧ Hid (RowOk N' k n f (tgtF (satF kc) ws x d0) (rs ++ [a])) from
            ⟨Lib.hid T6, Lib.hid S6, Lib.hid (fun b hb => by
              obtain ⟨h1, h2⟩ := hY5 b hb
              refine ⟨?_, by omega⟩
              rcases h1 with h1 | h1
              · exact (hY.out b h1).1
              · exact .inr (by omega)), Lib.hid K6, Lib.hid G5, Lib.hid (hE.out.trans E5), Lib.hid (B5.mono (by rw [HP.out.1, Nat.succ_mul]; omega)),
              Lib.hid ((hR.out.ext hn hG.out E5).snoc (by
                unfold tgtF
                rw [hrl.out, hh, if_pos rfl]
                rcases R5 with ⟨h1, h2⟩ | ⟨h1, h2, h3⟩
                · exact .inl ⟨h1, h2⟩
                · have hle : (x ++ [(v : Int)]).length = n + 1 := by rw [List.length_append, HXL.out]; rfl
                  rw [hle] at h1 h2
                  exact .inr ⟨h1, h2, h3⟩))⟩)
          clear S5 hY5 K5 G5 E5 B5 R5 T5 hat5 T6 hat6 hYe5 S6 K6 HK4 HT4 hvP hh
          cases hal : rs.any fun x => decide (0 ≤ x)
          · go_wp2_with fail
            go_roundw
            case rel => exact ⟨v + 1, rs ++ [a], N', Y', by omega, by go_num, by rw [List.any_append, hal]; simp, by omega, Lib.hid (by simp [hrl.out]), HREL.out⟩
            case measure => simp [intOf]; omega
          · go_wp2_with fail
            go_roundw
            case rel => exact ⟨v + 1, rs ++ [a], N', Y', by omega, by go_num, by rw [List.any_append, hal]; simp, by omega, Lib.hid (by simp [hrl.out]), HREL.out⟩
            case measure => simp [intOf]; omega
      · obtain rfl : v = 6 := by omega
        have hmlt := H1.out.1.blk.lt
        have hnb0 := H1.out.1.base
        have hXlt := fun b hb => (H1.out.2.2.1 b hb).2
        have hXe : ∀ b, b < wA.heap.size → (X b ∨ b = w.heap.size) → B0 ≤ b := fun b _ h => by
          rcases h with h | h
          · exact (H1.out.2.2.1 b h).1
          · omega
        have hXm : NX (fun b => X b ∨ b = w.heap.size) mb k cd (some ⟨pb, po, none⟩) := ⟨fun h => by
          rcases h with h | h
          · exact H1.out.2.1.1 h
          · omega, fun g hg h => by
          have hgl := H1.out.1.word.ownLt hg
          rcases h with h | h
          · exact H1.out.2.1.2 g hg h
          · omega⟩
        have hYe : ¬ Y w.heap.size := fun h => by
          rcases (hY.out _ h).1 with h1 | h1
          · have := hXlt _ h1; omega
          · omega
        have hYm : NX Y mb k cd (some ⟨pb, po, none⟩) := ⟨fun h => by
          rcases (hY.out _ h).1 with h1 | h1
          · exact H1.out.2.1.1 h1
          · omega, fun g hg h => by
          have hgl := H1.out.1.word.ownLt hg
          rcases (hY.out _ h).1 with h1 | h1
          · exact H1.out.2.1.2 g hg h1
          · omega⟩
        have KW : Kp X w wr := (Kp.of HBA.out).go hK.out (fun b hb h => by
          rcases h with h | h
          · exact h
          · omega)
        have hYw : ∀ b, Y b → (X b ∨ w.heap.size ≤ b) ∧ b < wr.heap.size := fun b hb => by
          obtain ⟨h1, h2⟩ := hY.out b hb
          exact ⟨h1.imp id (fun h => by omega), h2⟩
        have hdx : ws[x.length]? = some d0 := by rw [HXL.out]; exact HD0.out
        have hRx := hR.out
        have hBP : Bd5 Nr (M + 7 ^ (f + 1)) := by rw [HP.out.2]; exact hB.out.mono (by omega)
        cases hal : rs.any fun x => decide (0 ≤ x)
        · have HQ := Lib.hid (show NodeQ w X nb lb k (f + 1) N M (satF kc) ws x (.returned (.int .i64 (-1))) wr from
            ⟨-1, Nr, Y, rfl, hS.out, hYw, KW, hG.out, hE.out, hBP, ResF.dead hdx hrl.out (by rw [HXL.out]; exact hRx) hal⟩)
          clear hXlt hXe hXm hYe hYm KW hYw hdx hRx hBP
          go_wp2_with fail
          go_ret
          exact HQ.out
        · obtain ⟨l, hl⟩ : ∃ l, Nr[n]? = some l := ⟨_, List.getElem?_eq_getElem (by rw [hG.out.len]; exact hnk)⟩
          have hr64 := row64 hRx hBP (by rw [HP.out.2]; omega)
          obtain ⟨x0, x1, x2, x3, x4, x5, hrs⟩ : ∃ x0 x1 x2 x3 x4 x5, rs = [x0, x1, x2, x3, x4, x5] := (show In64 rs from ⟨hrl.out, fun x hx => by have := hr64 x hx; omega⟩).form
          have hIn : In64 rs := ⟨hrl.out, fun x hx => by have := hr64 x hx; omega⟩
          have hTc := hT.out
          rw [hrs] at hTc
          have e0 : wr.cell? ⟨w.heap.size, 0, none⟩ = some (.int .i64 x0) := hTc.at_ 0 rfl
          have e1 : wr.cell? ⟨w.heap.size, 1, none⟩ = some (.int .i64 x1) := hTc.at_ 1 rfl
          have e2 : wr.cell? ⟨w.heap.size, 2, none⟩ = some (.int .i64 x2) := hTc.at_ 2 rfl
          have e3 : wr.cell? ⟨w.heap.size, 3, none⟩ = some (.int .i64 x3) := hTc.at_ 3 rfl
          have e4 : wr.cell? ⟨w.heap.size, 4, none⟩ = some (.int .i64 x4) := hTc.at_ 4 rfl
          have e5 : wr.cell? ⟨w.heap.size, 5, none⟩ = some (.int .i64 x5) := hTc.at_ 5 rfl
          have D1 := HDA.out.kp hK.out hXe hXm
          have b6 := D1.blk.at_ 6 rfl
          obtain ⟨v, b, zs, cs, q1, q2, q3, q4, q5, q6, q7, q8, q9, q10⟩ := hS.out.at_ hl
          have lc := q2.at_ n q4
          have hlen := hBP l (List.mem_of_getElem? hl)
          rw [HP.out.2] at hlen
          rcases q6.look hIn with ⟨hnm, hlk⟩ | ⟨j, hj, hlk⟩
          · have hlk' : ∀ q, (Instr.lookup 67 (.map (some b)) (.agg #[.int .i64 x0, .int .i64 x1, .int .i64 x2, .int .i64 x3, .int .i64 x4, .int .i64 x5]) true).run Try.prog (wr.drewN q) = .ok (.tuple #[.int .i64 0, .bool false]) (wr.drewN q) := fun q => by
              rcases (q6.heap (w' := wr.drewN q) rfl).look hIn with ⟨-, hlk⟩ | ⟨j', hj', hlk⟩
              · rw [hrs] at hlk
                exact hlk
              · exact absurd (List.mem_of_getElem? hj') hnm
            obtain ⟨⟨Av, cv', rfl⟩, q52, q53⟩ := id q5
            have b7 := D1.blk.at_ 7 rfl
            have nc := q1.at_ n q3
            have HIN := Lib.hid hIn
            have HNM := Lib.hid hnm
            have HZ := Lib.hid (And.intro q3 q4)
            have HRS := Lib.hid hrs
            have HAL := Lib.hid hal
            have HL := Lib.hid hl
            have HQ := Lib.hid (And.intro q1 (And.intro q2 (And.intro q5 (And.intro q6 (And.intro q7 (And.intro q8 (And.intro q9 q10)))))))
            have HF := Lib.hid (And.intro hYe (And.intro KW (And.intro hYw (And.intro hdx D1))))
            have HTc := Lib.hid hTc
            have HYm := Lib.hid hYm
            have hlen5 : l.length ≤ 5000 := by omega
            clear hXlt hXe hXm hYe hYm KW hYw hdx hRx hBP hr64 hIn hTc D1 q1 q2 q3 q4 q5 q6 q7 q8 q9 q10 q52 q53 hlk hl hal hrs hnm
            go_wp2_with fail
            go_quiet (fail)
            go_wp2_with fail
            obtain ⟨w7, hrun, E7, g7⟩ := (HQ.out.2.2.2.1.heap (w' := (wr.drewN (nq + 1))) rfl).put (by unfold maxLen; omega) (by unfold maxLen; omega) HIN.out HNM.out
            have hrun' : (Instr.mapUpdate 67 (.map (some b)) (.agg #[.int .i64 x0, .int .i64 x1, .int .i64 x2, .int .i64 x3, .int .i64 x4, .int .i64 x5]) (.int .i64 (l.length : Int))).run Try.prog (wr.drewN (nq + 1)) = .ok () w7 := by rw [HRS.out] at hrun; exact hrun
            have to7 : ∀ {t : TypeId} {g : Nat} {cs : Array Value}, TBlk t wr g cs → TBlk t w7 g cs := fun h => (g7.block _ h.lt (fun e => by injection e with e; exact HQ.out.2.2.2.1.ne h e.symm)).trans h
            have TB7 := to7 HF.out.2.2.2.2.blk
            have TL7 := to7 HQ.out.2.1
            have TN7 := to7 HQ.out.1
            have TE7 := to7 HTc.out
            have OW7 : w7.ownsRow 0 97 6 (.slice Av l.length cv') l.length ((l.map (List.map (Value.int .i64))).flatten) := own_eq HQ.out.2.2.1.2.2 (fun g hg hlt => g7.block g hlt (fun e => by injection e with e; subst e; exact own_notE HQ.out.2.2.1.2.2 hg HQ.out.2.2.2.1))
            have hS0 : (wr.drewN (nq + 1)).cell? ⟨mb, 6, none⟩ = some (.slice (some ⟨lb, 0, none⟩) k cl) ∧ (wr.drewN (nq + 1)).cell? ⟨lb, n, none⟩ = some (.map (some b)) ∧ (wr.drewN (nq + 1)).cell? ⟨w.heap.size, 0, none⟩ = some (.int .i64 x0) ∧ (wr.drewN (nq + 1)).cell? ⟨w.heap.size, 1, none⟩ = some (.int .i64 x1) ∧ (wr.drewN (nq + 1)).cell? ⟨w.heap.size, 2, none⟩ = some (.int .i64 x2) ∧ (wr.drewN (nq + 1)).cell? ⟨w.heap.size, 3, none⟩ = some (.int .i64 x3) ∧ (wr.drewN (nq + 1)).cell? ⟨w.heap.size, 4, none⟩ = some (.int .i64 x4) ∧ (wr.drewN (nq + 1)).cell? ⟨w.heap.size, 5, none⟩ = some (.int .i64 x5) := ⟨b6, lc, e0, e1, e2, e3, e4, e5⟩
            have hS7 : w7.cell? ⟨mb, 6, none⟩ = some (.slice (some ⟨lb, 0, none⟩) k cl) ∧ w7.cell? ⟨lb, n, none⟩ = some (.map (some b)) ∧ w7.cell? ⟨w.heap.size, 0, none⟩ = some (.int .i64 x0) ∧ w7.cell? ⟨w.heap.size, 1, none⟩ = some (.int .i64 x1) ∧ w7.cell? ⟨w.heap.size, 2, none⟩ = some (.int .i64 x2) ∧ w7.cell? ⟨w.heap.size, 3, none⟩ = some (.int .i64 x3) ∧ w7.cell? ⟨w.heap.size, 4, none⟩ = some (.int .i64 x4) ∧ w7.cell? ⟨w.heap.size, 5, none⟩ = some (.int .i64 x5) := ⟨TB7.at_ 6 rfl, TL7.at_ n HZ.out.2, TE7.at_ 0 rfl, TE7.at_ 1 rfl, TE7.at_ 2 rfl, TE7.at_ 3 rfl, TE7.at_ 4 rfl, TE7.at_ 5 rfl⟩
            have H7 := Lib.hid (And.intro E7 (And.intro g7 (And.intro TB7 (And.intro TL7 (And.intro TN7 (And.intro TE7 OW7))))))
            clear hrun E7 g7 to7 TB7 TL7 TN7 TE7 OW7
            go_region_held3 (fun w' => w'.cell? ⟨mb, 6, none⟩ = some (.slice (some ⟨lb, 0, none⟩) k cl) ∧ w'.cell? ⟨lb, n, none⟩ = some (.map (some b)) ∧ w'.cell? ⟨w.heap.size, 0, none⟩ = some (.int .i64 x0) ∧ w'.cell? ⟨w.heap.size, 1, none⟩ = some (.int .i64 x1) ∧ w'.cell? ⟨w.heap.size, 2, none⟩ = some (.int .i64 x2) ∧ w'.cell? ⟨w.heap.size, 3, none⟩ = some (.int .i64 x3) ∧ w'.cell? ⟨w.heap.size, 4, none⟩ = some (.int .i64 x4) ∧ w'.cell? ⟨w.heap.size, 5, none⟩ = some (.int .i64 x5))
              (first | with_reducible exact hS7 | exact hS0)
              (fail)
            have hS8 : w7.cell? ⟨mb, 7, none⟩ = some (.slice (some ⟨nb, 0, none⟩) k cn) ∧ w7.cell? ⟨w.heap.size, 0, none⟩ = some (.int .i64 x0) ∧ w7.cell? ⟨w.heap.size, 1, none⟩ = some (.int .i64 x1) ∧ w7.cell? ⟨w.heap.size, 2, none⟩ = some (.int .i64 x2) ∧ w7.cell? ⟨w.heap.size, 3, none⟩ = some (.int .i64 x3) ∧ w7.cell? ⟨w.heap.size, 4, none⟩ = some (.int .i64 x4) ∧ w7.cell? ⟨w.heap.size, 5, none⟩ = some (.int .i64 x5) := ⟨H7.out.2.2.1.at_ 7 rfl, H7.out.2.2.2.2.2.1.at_ 0 rfl, H7.out.2.2.2.2.2.1.at_ 1 rfl, H7.out.2.2.2.2.2.1.at_ 2 rfl, H7.out.2.2.2.2.2.1.at_ 3 rfl, H7.out.2.2.2.2.2.1.at_ 4 rfl, H7.out.2.2.2.2.2.1.at_ 5 rfl⟩
            have n7 := H7.out.2.2.2.2.1.at_ n HZ.out.1
            have nf7 := H7.out.2.2.2.2.1.frozen n
            have hz7 : wr.heap.size ≤ w7.heap.size := H7.out.2.1.size
            have hz8 : (w7.drew.alloc (.cells #[.int .i64 x0, .int .i64 x1, .int .i64 x2, .int .i64 x3, .int .i64 x4, .int .i64 x5] 97)).heap.size = w7.heap.size + 1 := by rw [size_alloc_]; rfl
            have hba8 : Below w7.heap.size w7 (w7.drew.alloc (.cells #[.int .i64 x0, .int .i64 x1, .int .i64 x2, .int .i64 x3, .int .i64 x4, .int .i64 x5] 97)) := (below_drewN (Below.refl _ _) 1 : Below w7.heap.size w7 w7.drew).trans (b_alloc w7.drew _)
            have hS8w : (w7.drew.alloc (.cells #[.int .i64 x0, .int .i64 x1, .int .i64 x2, .int .i64 x3, .int .i64 x4, .int .i64 x5] 97)).cell? ⟨mb, 7, none⟩ = some (.slice (some ⟨nb, 0, none⟩) k cn) ∧ (w7.drew.alloc (.cells #[.int .i64 x0, .int .i64 x1, .int .i64 x2, .int .i64 x3, .int .i64 x4, .int .i64 x5] 97)).cell? ⟨w.heap.size, 0, none⟩ = some (.int .i64 x0) ∧ (w7.drew.alloc (.cells #[.int .i64 x0, .int .i64 x1, .int .i64 x2, .int .i64 x3, .int .i64 x4, .int .i64 x5] 97)).cell? ⟨w.heap.size, 1, none⟩ = some (.int .i64 x1) ∧ (w7.drew.alloc (.cells #[.int .i64 x0, .int .i64 x1, .int .i64 x2, .int .i64 x3, .int .i64 x4, .int .i64 x5] 97)).cell? ⟨w.heap.size, 2, none⟩ = some (.int .i64 x2) ∧ (w7.drew.alloc (.cells #[.int .i64 x0, .int .i64 x1, .int .i64 x2, .int .i64 x3, .int .i64 x4, .int .i64 x5] 97)).cell? ⟨w.heap.size, 3, none⟩ = some (.int .i64 x3) ∧ (w7.drew.alloc (.cells #[.int .i64 x0, .int .i64 x1, .int .i64 x2, .int .i64 x3, .int .i64 x4, .int .i64 x5] 97)).cell? ⟨w.heap.size, 4, none⟩ = some (.int .i64 x4) ∧ (w7.drew.alloc (.cells #[.int .i64 x0, .int .i64 x1, .int .i64 x2, .int .i64 x3, .int .i64 x4, .int .i64 x5] 97)).cell? ⟨w.heap.size, 5, none⟩ = some (.int .i64 x5) := by
              have a := H7.out.2.2.1.below_ hba8 H7.out.2.2.1.lt
              have c := H7.out.2.2.2.2.2.1.below_ hba8 H7.out.2.2.2.2.2.1.lt
              exact ⟨a.at_ 7 rfl, c.at_ 0 rfl, c.at_ 1 rfl, c.at_ 2 rfl, c.at_ 3 rfl, c.at_ 4 rfl, c.at_ 5 rfl⟩
            have n8 : (w7.drew.alloc (.cells #[.int .i64 x0, .int .i64 x1, .int .i64 x2, .int .i64 x3, .int .i64 x4, .int .i64 x5] 97)).cell? ⟨nb, n, none⟩ = some (.slice Av l.length cv') := (H7.out.2.2.2.2.1.below_ hba8 H7.out.2.2.2.2.1.lt).at_ n HZ.out.1
            have n8' : (w7.alloc (.cells #[.int .i64 x0, .int .i64 x1, .int .i64 x2, .int .i64 x3, .int .i64 x4, .int .i64 x5] 97)).cell? ⟨nb, n, none⟩ = some (.slice Av l.length cv') := n8
            have n7d : w7.drew.cell? ⟨nb, n, none⟩ = some (.slice Av l.length cv') := n7
            have HOW8 := Lib.hid (own_below H7.out.2.2.2.2.2.2 hba8)
            have HC8 : Hid (∀ j u, ([.int .i64 x0, .int .i64 x1, .int .i64 x2, .int .i64 x3, .int .i64 x4, .int .i64 x5] : List Value)[j]? = some u → (w7.drew.alloc (.cells #[.int .i64 x0, .int .i64 x1, .int .i64 x2, .int .i64 x3, .int .i64 x4, .int .i64 x5] 97)).cell? ((⟨w7.heap.size, 0, none⟩ : Addr).add j) = some u) := by
              intro j u hu
              rw [add_own]
              exact (TBlk.new w7.drew _ 97).at_ j (by simpa using hu)
            have KEY := Lib.hid (fun (A9 : Option Addr) (c9 : Nat) (w9 : World) (ho9 : w9.ownsRow 0 97 6 (.slice A9 (l.length + 1) c9) (l.length + 1) (((l.map (List.map (Value.int .i64))).flatten) ++ [.int .i64 x0, .int .i64 x1, .int .i64 x2, .int .i64 x3, .int .i64 x4, .int .i64 x5])) (hg9 : (w7.drew.alloc (.cells #[.int .i64 x0, .int .i64 x1, .int .i64 x2, .int .i64 x3, .int .i64 x4, .int .i64 x5] 97)).grownBy w9 (Value.slice Av l.length cv').ownBlock) (hk9 : (Value.slice A9 (l.length + 1) c9).ownBlock = (Value.slice Av l.length cv').ownBlock ∨ (Value.slice A9 (l.length + 1) c9).ownBlock = some (w7.drew.alloc (.cells #[.int .i64 x0, .int .i64 x1, .int .i64 x2, .int .i64 x3, .int .i64 x4, .int .i64 x5] 97)).heap.size) =>
              (show (w9.cell? ⟨mb, 7, none⟩ = some (.slice (some ⟨nb, 0, none⟩) k cn) ∧ w9.cell? ⟨w.heap.size, 0, none⟩ = some (.int .i64 x0) ∧ w9.cell? ⟨w.heap.size, 1, none⟩ = some (.int .i64 x1) ∧ w9.cell? ⟨w.heap.size, 2, none⟩ = some (.int .i64 x2) ∧ w9.cell? ⟨w.heap.size, 3, none⟩ = some (.int .i64 x3) ∧ w9.cell? ⟨w.heap.size, 4, none⟩ = some (.int .i64 x4) ∧ w9.cell? ⟨w.heap.size, 5, none⟩ = some (.int .i64 x5)) ∧ w9.cell? ⟨nb, n, none⟩ = some (.slice Av l.length cv') ∧ w9.frozen? ⟨nb, n, none⟩ = false ∧ ((w9.setCell ⟨nb, n, none⟩ (.slice A9 (l.length + 1) c9)).cell? ⟨mb, 7, none⟩ = some (.slice (some ⟨nb, 0, none⟩) k cn) ∧ (w9.setCell ⟨nb, n, none⟩ (.slice A9 (l.length + 1) c9)).cell? ⟨w.heap.size, 0, none⟩ = some (.int .i64 x0) ∧ (w9.setCell ⟨nb, n, none⟩ (.slice A9 (l.length + 1) c9)).cell? ⟨w.heap.size, 1, none⟩ = some (.int .i64 x1) ∧ (w9.setCell ⟨nb, n, none⟩ (.slice A9 (l.length + 1) c9)).cell? ⟨w.heap.size, 2, none⟩ = some (.int .i64 x2) ∧ (w9.setCell ⟨nb, n, none⟩ (.slice A9 (l.length + 1) c9)).cell? ⟨w.heap.size, 3, none⟩ = some (.int .i64 x3) ∧ (w9.setCell ⟨nb, n, none⟩ (.slice A9 (l.length + 1) c9)).cell? ⟨w.heap.size, 4, none⟩ = some (.int .i64 x4) ∧ (w9.setCell ⟨nb, n, none⟩ (.slice A9 (l.length + 1) c9)).cell? ⟨w.heap.size, 5, none⟩ = some (.int .i64 x5)) ∧ NodeQ w X nb lb k (f + 1) N M (satF kc) ws x (.returned (.int .i64 (l.length : Int))) (w9.setCell ⟨nb, n, none⟩ (.slice A9 (l.length + 1) c9)) from by
                have hvY := HQ.out.2.2.2.2.2.2.1
                have OW7 := H7.out.2.2.2.2.2.2
                have E7 := H7.out.1
                have g7 := H7.out.2.1
                have to9 : ∀ {t : TypeId} {g : Nat} {cs : Array Value}, TBlk t w7 g cs → (Value.slice Av l.length cv').ownBlock ≠ some g → TBlk t w9 g cs := fun h hne => (hg9.block _ (by rw [hz8]; have := h.lt; omega) (fun e => hne e.symm)).trans ((hba8.block _ h.lt).trans h)
                have TB9 := to9 H7.out.2.2.1 (fun h => HYm.out.1 (hvY _ h))
                have TL9 := to9 H7.out.2.2.2.1 (fun h => own_not OW7 h H7.out.2.2.2.1 (by decide))
                have TN9 := to9 H7.out.2.2.2.2.1 (fun h => own_not OW7 h H7.out.2.2.2.2.1 (by decide))
                have TE9 := to9 H7.out.2.2.2.2.2.1 (fun h => HF.out.1 (hvY _ h))
                have TBf := TB9.far (g := nb) (j := n) (u := .slice A9 (l.length + 1) c9) (TB9.ne TN9 (by decide))
                have TLf := TL9.far (g := nb) (j := n) (u := .slice A9 (l.length + 1) c9) (TL9.ne TN9 (by decide))
                have TEf := TE9.far (g := nb) (j := n) (u := .slice A9 (l.length + 1) c9) (TE9.ne TN9 (by decide))
                have TNf := TN9.store n (.slice A9 (l.length + 1) c9)
                have hnbb : b ≠ nb := E7.ne H7.out.2.2.2.2.1
                have c6 : ∀ g, g < wr.heap.size → g ≠ nb → g ≠ b → (Value.slice Av l.length cv').ownBlock ≠ some g → (w9.setCell ⟨nb, n, none⟩ (.slice A9 (l.length + 1) c9)).heap[g]? = wr.heap[g]? := fun g hg h1 h2 h3 =>
                  (Below.heap_setCell w9 ⟨nb, n, none⟩ _ g h1).trans ((hg9.block g (by rw [hz8]; omega) (fun e => h3 e.symm)).trans ((hba8.block g (by omega)).trans (g7.block g hg (fun e => h2 (by injection e)))))
                have Ef : EMap (w9.setCell ⟨nb, n, none⟩ (.slice A9 (l.length + 1) c9)) b (l.length + 1) (l ++ [rs]) := E7.heap ((Below.heap_setCell w9 ⟨nb, n, none⟩ _ b hnbb).trans ((hg9.block b (by rw [hz8]; have := E7.lt; omega) (fun e => own_notE OW7 e.symm E7)).trans (hba8.block b E7.lt)))
                have hfl : ((l ++ [rs]).map (List.map (Value.int .i64))).flatten = ((l.map (List.map (Value.int .i64))).flatten) ++ [.int .i64 x0, .int .i64 x1, .int .i64 x2, .int .i64 x3, .int .i64 x4, .int .i64 x5] := by rw [List.map_append, List.flatten_append, HRS.out]; rfl
                have of : (w9.setCell ⟨nb, n, none⟩ (.slice A9 (l.length + 1) c9)).ownsRow 0 97 6 (.slice A9 (l.length + 1) c9) (l.length + 1) (((l.map (List.map (Value.int .i64))).flatten) ++ [.int .i64 x0, .int .i64 x1, .int .i64 x2, .int .i64 x3, .int .i64 x4, .int .i64 x5]) := own_eq ho9 (fun g hg hlt => Below.heap_setCell w9 ⟨nb, n, none⟩ _ g (fun e => by
                  have e : g = nb := e
                  subst e
                  exact own_not ho9 hg TN9 (by decide)))
                have SF := HQ.out.2.2.2.2.2.2.2 (w9.setCell ⟨nb, n, none⟩ (.slice A9 (l.length + 1) c9)) (.slice A9 (l.length + 1) c9) rs TNf TLf ⟨⟨A9, c9, by rw [List.length_append]; rfl⟩, fun r hr => by
                    rcases List.mem_append.1 hr with h | h
                    · exact HQ.out.2.2.1.2.1 r h
                    · rw [List.mem_singleton.1 h]; exact hrl.out, by rw [List.length_append, hfl]; exact of⟩ Ef (hk9.imp id (fun h => ⟨_, h, by rw [hz8]; omega⟩)) (fun g hg _ => c6 g hg)
                obtain ⟨v1, y1, k1, k2, k3⟩ := any_yes HAL.out
                obtain ⟨G1, G2, G3⟩ := hG.out.add HL.out hrl.out hR.out.edges ⟨v1, y1, by rw [hrl.out] at k1; exact k1, k2, k3⟩ HNM.out
                have hnN : n < Nr.length := by rw [hG.out.len]; exact hnk
                have hsf : (w9.setCell ⟨nb, n, none⟩ (.slice A9 (l.length + 1) c9)).heap.size = w9.heap.size := by simp
                have hs9 := hg9.size
                rw [hz8] at hs9
                have KF : Kp Y wr (w9.setCell ⟨nb, n, none⟩ (.slice A9 (l.length + 1) c9)) := ⟨hg9.os.trans g7.os, hg9.tape.trans g7.tape, hg9.output.trans g7.output, by rw [hsf]; omega, fun g hg hy => c6 g hg (fun e => hy (e ▸ HQ.out.2.2.2.2.2.1)) (fun e => hy (e ▸ HQ.out.2.2.2.2.1)) (fun h => hy (hvY g h))⟩
                refine ⟨⟨TB9.at_ 7 rfl, TE9.at_ 0 rfl, TE9.at_ 1 rfl, TE9.at_ 2 rfl, TE9.at_ 3 rfl, TE9.at_ 4 rfl, TE9.at_ 5 rfl⟩, TN9.at_ n HZ.out.1, TN9.frozen n, ⟨TBf.at_ 7 rfl, TEf.at_ 0 rfl, TEf.at_ 1 rfl, TEf.at_ 2 rfl, TEf.at_ 3 rfl, TEf.at_ 4 rfl, TEf.at_ 5 rfl⟩,
                  l.length, Nr.set n (l ++ [rs]), _, rfl, SF, fun g hg => ?_, HF.out.2.1.go KF (fun g hg hy => (HF.out.2.2.1 g hy).1.resolve_right (by omega)), G1, hE.out.trans G2, (hB.out.add HL.out).mono (by rw [HP.out.2]; omega), ?_⟩
                · rcases hg with hg | hg
                  · have := HF.out.2.2.1 g hg
                    exact ⟨this.1, by rw [hsf]; omega⟩
                  · refine ⟨?_, by rw [hsf]; exact ownLt ho9 hg⟩
                    rcases hk9 with h | h
                    · rw [h] at hg
                      exact (HF.out.2.2.1 g (hvY g hg)).1
                    · rw [h] at hg
                      injection hg with hg
                      have := HF.out.2.1.size
                      exact .inr (by rw [hz8] at hg; omega)
                · exact ResF.node (by rw [HXL.out]; exact hn) HF.out.2.2.2.1 hrl.out G1 (by rw [HXL.out, List.getElem?_set_self hnN]) (by simp) (by rw [HXL.out]; exact hR.out.ext hn hG.out G2) HAL.out))
            clear hba8
            clear hS0 hS7
            go_wp2_with fail
            refine wp_region_held_drew (S := fun w' => w'.cell? ⟨mb, 7, none⟩ = some (.slice (some ⟨nb, 0, none⟩) k cn) ∧ w'.cell? ⟨w.heap.size, 0, none⟩ = some (.int .i64 x0) ∧ w'.cell? ⟨w.heap.size, 1, none⟩ = some (.int .i64 x1) ∧ w'.cell? ⟨w.heap.size, 2, none⟩ = some (.int .i64 x2) ∧ w'.cell? ⟨w.heap.size, 3, none⟩ = some (.int .i64 x3) ∧ w'.cell? ⟨w.heap.size, 4, none⟩ = some (.int .i64 x4) ∧ w'.cell? ⟨w.heap.size, 5, none⟩ = some (.int .i64 x5)) (by kernel_rfl) hS8 (fun hHeld => ?_)
            refine wpAnyH_take (i := 0) (oi := { dst := _, op := _, type := _, pos := _, after := _, guard := _ }) (v := ?va0) rfl (by kernel_rfl) (by kernel_rfl) (by kernel_rfl) (fun _ _ _ h => h) (Or.inl ⟨by rfl, ?ya0⟩) hHeld ?ra0
            case ya0 => (intro w hSw; (try dsimp only at hSw); go_simp; try with_reducible rfl)
            try simp only [Act.put, List.setIfInBounds_toArray, List.set_cons_zero, List.set_cons_succ]
            refine wpAnyH_take (i := 1) (oi := { dst := _, op := _, type := _, pos := _, after := _, guard := _ }) (v := ?va1) rfl (by kernel_rfl) (by kernel_rfl) (by kernel_rfl) (fun _ _ _ h => h) (Or.inl ⟨by rfl, ?ya1⟩) hHeld ?ra1
            case ya1 => (intro w hSw; (try dsimp only at hSw); go_simp; try with_reducible rfl)
            try simp only [Act.put, List.setIfInBounds_toArray, List.set_cons_zero, List.set_cons_succ]
            refine wpAnyH_take (i := 2) (oi := { dst := _, op := _, type := _, pos := _, after := _, guard := _ }) (v := ?va2) rfl (by kernel_rfl) (by kernel_rfl) (by kernel_rfl) (fun _ _ _ h => h) (Or.inl ⟨by rfl, ?ya2⟩) hHeld ?ra2
            case ya2 => (intro w hSw; (try dsimp only at hSw); go_simp; try with_reducible rfl)
            try simp only [Act.put, List.setIfInBounds_toArray, List.set_cons_zero, List.set_cons_succ]
            refine wpAnyH_take (i := 3) (oi := { dst := _, op := _, type := _, pos := _, after := _, guard := _ }) (v := ?va3) rfl (by kernel_rfl) (by kernel_rfl) (by kernel_rfl) (fun _ _ _ h => h) (Or.inl ⟨by rfl, ?ya3⟩) hHeld ?ra3
            case ya3 => (intro w hSw; (try dsimp only at hSw); go_simp; try with_reducible rfl)
            try simp only [Act.put, List.setIfInBounds_toArray, List.set_cons_zero, List.set_cons_succ]
            refine wpAnyH_take (i := 4) (oi := { dst := _, op := _, type := _, pos := _, after := _, guard := _ }) (v := ?va4) rfl (by kernel_rfl) (by kernel_rfl) (by kernel_rfl) (fun _ _ _ h => h) (Or.inl ⟨by rfl, ?ya4⟩) hHeld ?ra4
            case ya4 => (intro w hSw; (try dsimp only at hSw); go_simp; try with_reducible rfl)
            try simp only [Act.put, List.setIfInBounds_toArray, List.set_cons_zero, List.set_cons_succ]
            refine wpAnyH_take (i := 5) (oi := { dst := _, op := _, type := _, pos := _, after := _, guard := _ }) (v := ?va5) rfl (by kernel_rfl) (by kernel_rfl) (by kernel_rfl) (fun _ _ _ h => h) (Or.inl ⟨by rfl, ?ya5⟩) hHeld ?ra5
            case ya5 => (intro w hSw; (try dsimp only at hSw); go_simp; try with_reducible rfl)
            try simp only [Act.put, List.setIfInBounds_toArray, List.set_cons_zero, List.set_cons_succ]
            refine wpAnyH_take (i := 6) (oi := { dst := _, op := _, type := _, pos := _, after := _, guard := _ }) (v := ?va6) rfl (by kernel_rfl) (by kernel_rfl) (by kernel_rfl) (fun _ _ _ h => h) (Or.inl ⟨by rfl, ?ya6⟩) hHeld ?ra6
            case ya6 => (intro w hSw; (try dsimp only at hSw); go_simp; try with_reducible rfl)
            try simp only [Act.put, List.setIfInBounds_toArray, List.set_cons_zero, List.set_cons_succ]
            refine wpAnyH_take (i := 7) (oi := { dst := _, op := _, type := _, pos := _, after := _, guard := _ }) (v := ?va7) rfl (by kernel_rfl) (by kernel_rfl) (by kernel_rfl) (fun _ _ _ h => h) (Or.inl ⟨by rfl, ?ya7⟩) hHeld ?ra7
            case ya7 => (intro w hSw; (try dsimp only at hSw); go_simp; try with_reducible rfl)
            try simp only [Act.put, List.setIfInBounds_toArray, List.set_cons_zero, List.set_cons_succ]
            refine wpAnyH_take (i := 8) (oi := { dst := _, op := _, type := _, pos := _, after := _, guard := _ }) (v := ?va8) rfl (by kernel_rfl) (by kernel_rfl) (by kernel_rfl) (fun _ _ _ h => h) (Or.inl ⟨by rfl, ?ya8⟩) hHeld ?ra8
            case ya8 => (intro w hSw; (try dsimp only at hSw); go_simp; try with_reducible rfl)
            try simp only [Act.put, List.setIfInBounds_toArray, List.set_cons_zero, List.set_cons_succ]
            refine wpAnyH_take (i := 9) (oi := { dst := _, op := _, type := _, pos := _, after := _, guard := _ }) (v := ?va9) rfl (by kernel_rfl) (by kernel_rfl) (by kernel_rfl) (fun _ _ _ h => h) (Or.inl ⟨by rfl, ?ya9⟩) hHeld ?ra9
            case ya9 => (intro w hSw; (try dsimp only at hSw); go_simp; try with_reducible rfl)
            try simp only [Act.put, List.setIfInBounds_toArray, List.set_cons_zero, List.set_cons_succ]
            refine wpAnyH_take (i := 10) (oi := { dst := _, op := _, type := _, pos := _, after := _, guard := _ }) (v := ?va10) rfl (by kernel_rfl) (by kernel_rfl) (by kernel_rfl) (fun _ _ _ h => h) (Or.inl ⟨by rfl, ?ya10⟩) hHeld ?ra10
            case ya10 => (intro w hSw; (try dsimp only at hSw); go_simp; try with_reducible rfl)
            try simp only [Act.put, List.setIfInBounds_toArray, List.set_cons_zero, List.set_cons_succ]
            refine wpAnyH_take (i := 12) (oi := { dst := _, op := _, type := _, pos := _, after := _, guard := _ }) (v := ?va12) rfl (by kernel_rfl) (by kernel_rfl) (by kernel_rfl) (fun _ _ _ h => h) (Or.inl ⟨by rfl, ?ya12⟩) hHeld ?ra12
            case ya12 => (intro w hSw; (try dsimp only at hSw); go_simp; try with_reducible rfl)
            try simp only [Act.put, List.setIfInBounds_toArray, List.set_cons_zero, List.set_cons_succ]
            refine wpAnyH_ready (rs := [11, 13]) (by kernel_rfl) (by simp) ?_
            refine AllReadyH.cons (o := { dst := _, op := _, type := _, pos := _, after := _, guard := _ }) rfl (fun K hK => ?_) (AllReadyH.cons (o := { dst := _, op := _, type := _, pos := _, after := _, guard := _ }) rfl (fun K hK => ?_) AllReadyH.nil)
            · go_simp
              refine hK.out _ _ ?_ (fun hHeld => ?_)
              · exact hS8
              clear hK K
              try simp only [Act.put, List.setIfInBounds_toArray, List.set_cons_zero, List.set_cons_succ]
              refine wpAnyH_ready (rs := [13]) (by kernel_rfl) (by simp) ?_
              refine AllReadyH.cons (o := { dst := _, op := _, type := _, pos := _, after := _, guard := _ }) rfl (fun K hK => ?_) AllReadyH.nil
              go_simp
              refine hK.out _ _ ?_ (fun hHeld => ?_)
              · exact hS8w
              clear hK K
              try simp only [Act.put, List.setIfInBounds_toArray, List.set_cons_zero, List.set_cons_succ]
              refine wpAnyH_ready (rs := [14]) (by kernel_rfl) (by simp) ?_
              refine AllReadyH.cons (o := { dst := _, op := _, type := _, pos := _, after := _, guard := _ }) rfl (fun K hK => ?_) AllReadyH.nil
              refine step_append_blk (by rfl) _ _ 99 (by rfl) 0 97 i6 _ 6 48 Try.underlying99 hi6 hy0 hy1 hy2 rfl (by omega) (.slice Av l.length cv') l.length ((l.map (List.map (Value.int .i64))).flatten) (by rfl) HOW8.out ⟨w7.heap.size, 0, none⟩ 1 1 [.int .i64 x0, .int .i64 x1, .int .i64 x2, .int .i64 x3, .int .i64 x4, .int .i64 x5] (by rfl) (by rfl) HC8.out (by simp [Value.oneCell']) (by unfold maxLen; omega) (by omega) (by omega) ?_
              intro v9 w9 ho9 hb9 hg9 hk9
              obtain ⟨A9, c9, rfl⟩ := (HoldR.of_own ho9).form
              obtain ⟨hS9, n9, nf9, hSf, hNQ⟩ := KEY.out A9 c9 w9 ho9 hg9 hk9
              have HNQ := Lib.hid hNQ
              clear ho9 hb9 hg9 hk9 hNQ
              refine hK.out _ _ ?_ (fun hHeld => ?_)
              · exact hS9
              clear hK K
              try simp only [Act.put, List.setIfInBounds_toArray, List.set_cons_zero, List.set_cons_succ]
              refine wpAnyH_take (i := 15) (oi := { dst := _, op := _, type := _, pos := _, after := _, guard := _ }) (v := ?vb15) rfl (by kernel_rfl) (by kernel_rfl) (by kernel_rfl) (fun _ _ _ h => h) (Or.inl ⟨by rfl, ?yb15⟩) hHeld ?rb15
              case yb15 => (intro w hSw; (try dsimp only at hSw); go_simp; try with_reducible rfl)
              try simp only [Act.put, List.setIfInBounds_toArray, List.set_cons_zero, List.set_cons_succ]
              refine wpAnyH_ready (rs := [16]) (by kernel_rfl) (by simp) ?_
              refine AllReadyH.cons (o := { dst := _, op := _, type := _, pos := _, after := _, guard := _ }) rfl (fun K hK => ?_) AllReadyH.nil
              go_simp
              refine hK.out _ _ ?_ (fun hHeld => ?_)
              · exact hSf
              clear hK K
              try simp only [Act.put, List.setIfInBounds_toArray, List.set_cons_zero, List.set_cons_succ]
              refine wpAnyH_done (by kernel_rfl) ?_ _
              go_wp2_with fail
              go_ret
              exact HNQ.out
            · go_simp
              refine hK.out _ _ ?_ (fun hHeld => ?_)
              · exact hS8w
              clear hK K
              try simp only [Act.put, List.setIfInBounds_toArray, List.set_cons_zero, List.set_cons_succ]
              refine wpAnyH_ready (rs := [11]) (by kernel_rfl) (by simp) ?_
              refine AllReadyH.cons (o := { dst := _, op := _, type := _, pos := _, after := _, guard := _ }) rfl (fun K hK => ?_) AllReadyH.nil
              go_simp
              refine hK.out _ _ ?_ (fun hHeld => ?_)
              · exact hS8w
              clear hK K
              try simp only [Act.put, List.setIfInBounds_toArray, List.set_cons_zero, List.set_cons_succ]
              refine wpAnyH_ready (rs := [14]) (by kernel_rfl) (by simp) ?_
              refine AllReadyH.cons (o := { dst := _, op := _, type := _, pos := _, after := _, guard := _ }) rfl (fun K hK => ?_) AllReadyH.nil
              refine step_append_blk (by rfl) _ _ 99 (by rfl) 0 97 i6 _ 6 48 Try.underlying99 hi6 hy0 hy1 hy2 rfl (by omega) (.slice Av l.length cv') l.length ((l.map (List.map (Value.int .i64))).flatten) (by rfl) HOW8.out ⟨w7.heap.size, 0, none⟩ 1 1 [.int .i64 x0, .int .i64 x1, .int .i64 x2, .int .i64 x3, .int .i64 x4, .int .i64 x5] (by rfl) (by rfl) HC8.out (by simp [Value.oneCell']) (by unfold maxLen; omega) (by omega) (by omega) ?_
              intro v9 w9 ho9 hb9 hg9 hk9
              obtain ⟨A9, c9, rfl⟩ := (HoldR.of_own ho9).form
              obtain ⟨hS9, n9, nf9, hSf, hNQ⟩ := KEY.out A9 c9 w9 ho9 hg9 hk9
              have HNQ := Lib.hid hNQ
              clear ho9 hb9 hg9 hk9 hNQ
              refine hK.out _ _ ?_ (fun hHeld => ?_)
              · exact hS9
              clear hK K
              try simp only [Act.put, List.setIfInBounds_toArray, List.set_cons_zero, List.set_cons_succ]
              refine wpAnyH_take (i := 15) (oi := { dst := _, op := _, type := _, pos := _, after := _, guard := _ }) (v := ?vc15) rfl (by kernel_rfl) (by kernel_rfl) (by kernel_rfl) (fun _ _ _ h => h) (Or.inl ⟨by rfl, ?yc15⟩) hHeld ?rc15
              case yc15 => (intro w hSw; (try dsimp only at hSw); go_simp; try with_reducible rfl)
              try simp only [Act.put, List.setIfInBounds_toArray, List.set_cons_zero, List.set_cons_succ]
              refine wpAnyH_ready (rs := [16]) (by kernel_rfl) (by simp) ?_
              refine AllReadyH.cons (o := { dst := _, op := _, type := _, pos := _, after := _, guard := _ }) rfl (fun K hK => ?_) AllReadyH.nil
              go_simp
              refine hK.out _ _ ?_ (fun hHeld => ?_)
              · exact hSf
              clear hK K
              try simp only [Act.put, List.setIfInBounds_toArray, List.set_cons_zero, List.set_cons_succ]
              refine wpAnyH_done (by kernel_rfl) ?_ _
              go_wp2_with fail
              go_ret
              exact HNQ.out
          · have hlk' : ∀ q, (Instr.lookup 67 (.map (some b)) (.agg #[.int .i64 x0, .int .i64 x1, .int .i64 x2, .int .i64 x3, .int .i64 x4, .int .i64 x5]) true).run Try.prog (wr.drewN q) = .ok (.tuple #[.int .i64 (j : Int), .bool true]) (wr.drewN q) := fun q => by
              rcases (q6.heap (w' := wr.drewN q) rfl).look hIn with ⟨hnm, hlk⟩ | ⟨j', hj', hlk⟩
              · exact absurd (List.mem_of_getElem? hj) hnm
              · have := at_inj (hG.out.ne n l hl) hj hj'
                subst this
                rw [hrs] at hlk
                exact hlk
            have HQ := Lib.hid (fun q => (show NodeQ w X nb lb k (f + 1) N M (satF kc) ws x (.returned (.int .i64 (j : Int))) (wr.drewN q) from
              ⟨j, Nr, Y, rfl, hS.out.same (fun _ _ _ => rfl), hYw, ⟨KW.os, KW.tape, KW.output, KW.size, KW.block⟩, hG.out, hE.out, hBP, ResF.node (by rw [HXL.out]; exact hn) hdx hrl.out hG.out (by rw [HXL.out]; exact hl) hj (by rw [HXL.out]; exact hRx) hal⟩))
            clear hXlt hXe hXm hYe hYm KW hYw hdx hRx hBP hr64 hIn hTc D1 q1 q2 q3 q4 q5 q6 q7 q8 q9 q10 hlk hl hal hj hrs
            go_wp2_with fail
            go_quiet (fail)
            go_wp2_with fail
            go_ret
            exact HQ.out _
end Go.Proofs.Ytfmdgdamelkelaa
