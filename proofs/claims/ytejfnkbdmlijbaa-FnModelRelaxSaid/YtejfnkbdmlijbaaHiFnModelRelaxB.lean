/- Texts laid into one: DrawF DrawG DrawM DrawN DrawO SolS Solve. -/
import Derived.Test.YtejfnkbdmlijbaaHiFnModelRelaxA
import Derived.Test.YtejfnkbdmlijbaaDrawR
import Derived.Test.YtejfnkbdmlijbaaTup2
import Derived.Test.YtejfnkbdmlijbaaExt
import Derived.Test.YtejfnkbdmlijbaaSatS
/- What is drawn for Filter: a constraint that may be damaged, and domains. -/
namespace Go.Proofs.Ytejfnkbdmlijbaa
open Go.ChangeShapes Go.WideShapes Go.ChangeAt Go.RowKit
open Go.Shelf
set_option linter.unusedVariables false
set_option maxRecDepth 100000

theorem lit_cells (w : World) (xs : List Int) : ∀ (i : Nat) x, xs[i]? = some x → (w.alloc (.cells (ints xs) 3)).cell? ⟨w.heap.size, i, none⟩ = some (.int .i64 x) := fun i x hx => (TBlk.new w (ints xs) 3).at_ i (ints_at hx)
theorem CS.finish2 {w w0 : World} {B B0 bx R g base n c p : Nat} {A : Option Addr} {bs : List Int} {k : Con} {v1 v2 v3 : Option Addr} {n1 c1 n2 c2 n3 c3 : Nat} {zs : Array Value}
    (h : CS w B bx k (.slice v1 n1 c1) (.slice v2 n2 c2) (.slice v3 n3 c3)) (hr : TBlk 35 w R zs) (hz : zs.size = 5) (hne : bx ≠ R) (hd : Rd w base g A n c bs p) (hg : g < R) (hR : B0 ≤ R) (hb : ButG g B0 w0 w) {wf : World}
    (hf : wf = ((((w.setCell ⟨R, 0, none⟩ (.int .i64 k.kind)).setCell ⟨R, 1, none⟩ (.slice v1 n1 c1)).setCell ⟨R, 2, none⟩ (.slice v2 n2 c2)).setCell ⟨R, 3, none⟩ (.int .i64 k.bound)).setCell ⟨R, 4, none⟩ (.slice v3 n3 c3)) :
    (wf.cell? ⟨R, 0, none⟩ = some (.int .i64 k.kind) ∧ wf.cell? ⟨R, 1, none⟩ = some (.slice v1 n1 c1) ∧ wf.cell? ⟨R, 2, none⟩ = some (.slice v2 n2 c2) ∧ wf.cell? ⟨R, 3, none⟩ = some (.int .i64 k.bound) ∧ wf.cell? ⟨R, 4, none⟩ = some (.slice v3 n3 c3)) ∧
    OwnCon wf B (.agg #[.int .i64 k.kind, .slice v1 n1 c1, .slice v2 n2 c2, .int .i64 k.bound, .slice v3 n3 c3]) k ∧ Rd wf base g A n c bs p ∧ ButG g B0 w0 wf := by
  obtain ⟨z0, z1, z2, z3, z4, rfl⟩ : ∃ z0 z1 z2 z3 z4, zs = #[z0, z1, z2, z3, z4] := by
    rcases zs with ⟨l⟩
    match l, hz with
    | [z0, z1, z2, z3, z4], _ => exact ⟨_, _, _, _, _, rfl⟩
  have t1 := hr.store 0 (.int .i64 k.kind)
  have s1 := h.far hne hr 0 (.int .i64 k.kind)
  have t2 := t1.store 1 (.slice v1 n1 c1)
  have s2 := s1.far hne t1 1 (.slice v1 n1 c1)
  have t3 := t2.store 2 (.slice v2 n2 c2)
  have s3 := s2.far hne t2 2 (.slice v2 n2 c2)
  have t4 := t3.store 3 (.int .i64 k.bound)
  have s4 := s3.far hne t3 3 (.int .i64 k.bound)
  have t5 := t4.store 4 (.slice v3 n3 c3)
  have s5 := s4.far hne t4 4 (.slice v3 n3 c3)
  subst hf
  refine ⟨⟨t5.at_ 0 rfl, t5.at_ 1 rfl, t5.at_ 2 rfl, t5.at_ 3 rfl, t5.at_ 4 rfl⟩, s5.own, ?_, ?_⟩
  · exact ((((hd.set hg 0 _).set hg 1 _).set hg 2 _).set hg 3 _).set hg 4 _
  · exact ((((hb.setHi hR 0 _).setHi hR 1 _).setHi hR 2 _).setHi hR 3 _).setHi hR 4 _
theorem CS.put {w1 w5 w6 w0 : World} {B B0 bx R g base n c p m j : Nat} {A : Option Addr} {bs : List Int} {k k' : Con} {v1 v2 v3 v1' v2' v : Value} {xs : List Int} {zs : Array Value} (hC : CS w1 B bx k v1 v2 v3) (hT : TBlk 35 w1 R zs) (hd : Rd w1 base g A n c bs p) (hbt : ButG g B0 w0 w1) (hb : Below w1.heap.size w1 w5)
    (ho : w5.ownsRow w1.heap.size 3 1 v m (xs.map (.int .i64))) (hl : xs.length = m) (hm : m ≤ 1048576) (hB : B ≤ w1.heap.size) (hg : g < bx) (hne : R ≠ bx) (hB0 : B0 ≤ bx) (h6 : w5.setCell ⟨bx, j, none⟩ v = w6) (hj : (j = 1 ∧ k' = { k with vars := xs } ∧ v1' = v ∧ v2' = v2) ∨ (j = 2 ∧ k' = { k with args := xs } ∧ v1' = v1 ∧ v2' = v)) :
    CS w6 B bx k' v1' v2' v3 ∧ TBlk 35 w6 R zs ∧ Rd w6 base g A n c bs p ∧ ButG g B0 w0 w6 := by
  have hC5 := hC.below hb
  have hbx := hC.blk.lt
  have hoI : OwnI 3 w5 B v xs := ⟨by rw [hl]; exact own_base ho hB, by rw [hl]; omega⟩
  have hd5 : Rd w5 base g A n c bs p := hd.under hb (by omega)
  have hb5 : ButG g B0 w0 w5 := hbt.trans (below_butG (hb.mono (by have := hbt.size; omega)) g)
  subst h6
  refine ⟨?_, (hT.below_ hb hT.lt).far hne, hd5.set hg _ _, hb5.setHi hB0 _ _⟩
  rcases hj with ⟨rfl, rfl, rfl, rfl⟩ | ⟨rfl, rfl, rfl, rfl⟩
  · exact hC5.setV hoI
  · exact hC5.setA hoI
theorem CS.putV {w1 w5 w0 : World} {B bx base g n c p m nv na nr c1 c2 c3 : Nat} {A A1 A2 A3 : Option Addr} {bs : List Int} {k : Con} {v : Value} {xs : List Int} (hC : CS w1 B bx k (.slice A1 nv c1) (.slice A2 na c2) (.slice A3 nr c3))
    (hT : TBlk 35 w1 (bx + 1) #[.int .i64 0, .slice none 0 0, .slice none 0 0, .int .i64 0, .slice none 0 0]) (hd : Rd w1 base g A n c bs p) (hbt : ButG g bx w0 w1) (hb : Below w1.heap.size w1 w5)
    (ho : w5.ownsRow w1.heap.size 3 1 v m (xs.map (.int .i64))) (hl : xs.length = m) (hm : m ≤ 1048576) (hB : B ≤ w1.heap.size) (hg : g < bx) :
    ∃ A5 c5 w6, v = .slice A5 m c5 ∧ w5.setCell ⟨bx, 1, none⟩ (.slice A5 m c5) = w6 ∧ w5.cell? ⟨bx, 1, none⟩ = some (.slice A1 nv c1) ∧ w5.frozen? ⟨bx, 1, none⟩ = false ∧ (w6.cell? ⟨bx, 0, none⟩ = some (.int .i64 k.kind) ∧ w6.cell? ⟨bx, 1, none⟩ = some (.slice A5 m c5) ∧ w6.cell? ⟨bx, 2, none⟩ = some (.slice A2 na c2) ∧ w6.cell? ⟨bx, 3, none⟩ = some (.int .i64 k.bound) ∧ w6.cell? ⟨bx, 4, none⟩ = some (.slice A3 nr c3)) ∧ (w6.cell? ⟨bx + 1, 0, none⟩ = some (.int .i64 0) ∧ w6.cell? ⟨bx + 1, 1, none⟩ = some (.slice none 0 0) ∧ w6.cell? ⟨bx + 1, 2, none⟩ = some (.slice none 0 0) ∧ w6.cell? ⟨bx + 1, 3, none⟩ = some (.int .i64 0) ∧ w6.cell? ⟨bx + 1, 4, none⟩ = some (.slice none 0 0)) ∧ (w6.frozen? ⟨bx + 1, 0, none⟩ = false ∧ w6.frozen? ⟨bx + 1, 1, none⟩ = false ∧ w6.frozen? ⟨bx + 1, 2, none⟩ = false ∧ w6.frozen? ⟨bx + 1, 3, none⟩ = false ∧ w6.frozen? ⟨bx + 1, 4, none⟩ = false) ∧ w1.heap.size ≤ w6.heap.size ∧
      Hid (CS w6 B bx { k with vars := xs } (.slice A5 m c5) (.slice A2 na c2) (.slice A3 nr c3) ∧ TBlk 35 w6 (bx + 1) #[.int .i64 0, .slice none 0 0, .slice none 0 0, .int .i64 0, .slice none 0 0] ∧ Rd w6 base g A n c bs p ∧ ButG g bx w0 w6) := by
  obtain ⟨A5, c5, rfl, -⟩ := IntR.of_own ho (by omega)
  obtain ⟨w6, h6⟩ : ∃ w6, w5.setCell ⟨bx, 1, none⟩ (.slice A5 m c5) = w6 := ⟨_, rfl⟩
  have hb5 := (hC.below hb).blk
  obtain ⟨q1, q2, q3, q4⟩ := CS.put (k' := { k with vars := xs }) (v1' := .slice A5 m c5) (v2' := .slice A2 na c2) hC hT hd hbt hb ho hl hm hB hg (by omega) (Nat.le_refl _) h6 (.inl ⟨rfl, rfl, rfl, rfl⟩)
  refine ⟨A5, c5, w6, rfl, h6, hb5.at_ 1 rfl, hb5.frozen 1, ⟨q1.blk.at_ 0 rfl, q1.blk.at_ 1 rfl, q1.blk.at_ 2 rfl, q1.blk.at_ 3 rfl, q1.blk.at_ 4 rfl⟩, ⟨q2.at_ 0 rfl, q2.at_ 1 rfl, q2.at_ 2 rfl, q2.at_ 3 rfl, q2.at_ 4 rfl⟩, ⟨q2.frozen 0, q2.frozen 1, q2.frozen 2, q2.frozen 3, q2.frozen 4⟩, by rw [← h6, World.size_setCell]; exact hb.size, Lib.hid ⟨q1, q2, q3, q4⟩⟩
theorem CS.putA {w1 w5 w0 : World} {B bx base g n c p m nv na nr c1 c2 c3 : Nat} {A A1 A2 A3 : Option Addr} {bs : List Int} {k : Con} {v : Value} {xs : List Int} (hC : CS w1 B bx k (.slice A1 nv c1) (.slice A2 na c2) (.slice A3 nr c3))
    (hT : TBlk 35 w1 (bx + 1) #[.int .i64 0, .slice none 0 0, .slice none 0 0, .int .i64 0, .slice none 0 0]) (hd : Rd w1 base g A n c bs p) (hbt : ButG g bx w0 w1) (hb : Below w1.heap.size w1 w5)
    (ho : w5.ownsRow w1.heap.size 3 1 v m (xs.map (.int .i64))) (hl : xs.length = m) (hm : m ≤ 1048576) (hB : B ≤ w1.heap.size) (hg : g < bx) :
    ∃ A5 c5 w6, v = .slice A5 m c5 ∧ w5.setCell ⟨bx, 2, none⟩ (.slice A5 m c5) = w6 ∧ w5.cell? ⟨bx, 2, none⟩ = some (.slice A2 na c2) ∧ w5.frozen? ⟨bx, 2, none⟩ = false ∧ (w6.cell? ⟨bx, 0, none⟩ = some (.int .i64 k.kind) ∧ w6.cell? ⟨bx, 1, none⟩ = some (.slice A1 nv c1) ∧ w6.cell? ⟨bx, 2, none⟩ = some (.slice A5 m c5) ∧ w6.cell? ⟨bx, 3, none⟩ = some (.int .i64 k.bound) ∧ w6.cell? ⟨bx, 4, none⟩ = some (.slice A3 nr c3)) ∧ (w6.cell? ⟨bx + 1, 0, none⟩ = some (.int .i64 0) ∧ w6.cell? ⟨bx + 1, 1, none⟩ = some (.slice none 0 0) ∧ w6.cell? ⟨bx + 1, 2, none⟩ = some (.slice none 0 0) ∧ w6.cell? ⟨bx + 1, 3, none⟩ = some (.int .i64 0) ∧ w6.cell? ⟨bx + 1, 4, none⟩ = some (.slice none 0 0)) ∧ (w6.frozen? ⟨bx + 1, 0, none⟩ = false ∧ w6.frozen? ⟨bx + 1, 1, none⟩ = false ∧ w6.frozen? ⟨bx + 1, 2, none⟩ = false ∧ w6.frozen? ⟨bx + 1, 3, none⟩ = false ∧ w6.frozen? ⟨bx + 1, 4, none⟩ = false) ∧ w1.heap.size ≤ w6.heap.size ∧
      Hid (CS w6 B bx { k with args := xs } (.slice A1 nv c1) (.slice A5 m c5) (.slice A3 nr c3) ∧ TBlk 35 w6 (bx + 1) #[.int .i64 0, .slice none 0 0, .slice none 0 0, .int .i64 0, .slice none 0 0] ∧ Rd w6 base g A n c bs p ∧ ButG g bx w0 w6) := by
  obtain ⟨A5, c5, rfl, -⟩ := IntR.of_own ho (by omega)
  obtain ⟨w6, h6⟩ : ∃ w6, w5.setCell ⟨bx, 2, none⟩ (.slice A5 m c5) = w6 := ⟨_, rfl⟩
  have hb5 := (hC.below hb).blk
  obtain ⟨q1, q2, q3, q4⟩ := CS.put (k' := { k with args := xs }) (v1' := .slice A1 nv c1) (v2' := .slice A5 m c5) hC hT hd hbt hb ho hl hm hB hg (by omega) (Nat.le_refl _) h6 (.inr ⟨rfl, rfl, rfl, rfl⟩)
  refine ⟨A5, c5, w6, rfl, h6, hb5.at_ 2 rfl, hb5.frozen 2, ⟨q1.blk.at_ 0 rfl, q1.blk.at_ 1 rfl, q1.blk.at_ 2 rfl, q1.blk.at_ 3 rfl, q1.blk.at_ 4 rfl⟩, ⟨q2.at_ 0 rfl, q2.at_ 1 rfl, q2.at_ 2 rfl, q2.at_ 3 rfl, q2.at_ 4 rfl⟩, ⟨q2.frozen 0, q2.frozen 1, q2.frozen 2, q2.frozen 3, q2.frozen 4⟩, by rw [← h6, World.size_setCell]; exact hb.size, Lib.hid ⟨q1, q2, q3, q4⟩⟩
/-- a constraint and what damage makes of it. -/
def NearC (k k' : Con) : Prop := k'.vars.length ≤ k.vars.length + 1 ∧ k'.args.length ≤ k.args.length + 1 ∧ k'.rows = k.rows
set_option maxHeartbeats 16000000 in
theorem damage (base g n c p B : Nat) (A : Option Addr) (bs : List Int) (v : Value) (k : Con) (w : World) (h : Rd w base g A n c bs p) (hp : p ≤ 900000) (ho : OwnCon w B v k) (hB : B ≤ w.heap.size) (hgB : g < B) (h1 : 1 ≤ k.vars.length) (hs1 : k.vars.length ≤ 8) (hs2 : k.args.length ≤ 8) :
    Calls Try.prog 84 #[.pointer (some ⟨g, 0, none⟩), v] w fun e w' => ∃ (v' : Value) (k' : Con) (q : Nat), e = .returned v' ∧ OwnCon w' B v' k' ∧ NearC k k' ∧ q ≤ p + 2 ∧ Rd w' base g A n c bs q ∧ ButG g w.heap.size w w' := by
  obtain ⟨i0, hi0, hz0, hz1, hz2⟩ := info_parts info_int
  have hg : g < w.heap.size := (Array.getElem?_eq_some_iff.1 h.block).1
  obtain ⟨vv, av, rv, rfl, o1, o2, o3⟩ := ho
  obtain ⟨A1, c1, rfl, -⟩ := o1.read
  obtain ⟨A2, c2, rfl, -⟩ := o2.read
  obtain ⟨A3, c3, rfl, -⟩ := read2 o3
  obtain ⟨nv, hnv⟩ : ∃ nv, k.vars.length = nv := ⟨_, rfl⟩
  obtain ⟨na, hna⟩ : ∃ na, k.args.length = na := ⟨_, rfl⟩
  obtain ⟨nr, hnr⟩ : ∃ nr, k.rows.length = nr := ⟨_, rfl⟩
  rw [hnv] at o1 h1 hs1 ⊢
  rw [hna] at o2 hs2 ⊢
  rw [hnr] at o3 ⊢
  have HNV := Lib.hid hnv
  have HNA := Lib.hid hna
  clear hnv hna hnr
  obtain ⟨wa, hwa⟩ : ∃ wa, wa = (w.alloc (.cells #[.int .i64 k.kind, .slice A1 nv c1, .slice A2 na c2, .int .i64 k.bound, .slice A3 nr c3] 35)).alloc (.cells #[.int .i64 0, .slice none 0 0, .slice none 0 0, .int .i64 0, .slice none 0 0] 35) := ⟨_, rfl⟩
  have hba : Below w.heap.size w wa := by rw [hwa]; exact (b_alloc _ _).alloc (by simp) _
  have HT : Hid (TBlk 35 wa (w.heap.size + 1) #[.int .i64 0, .slice none 0 0, .slice none 0 0, .int .i64 0, .slice none 0 0]) := by rw [hwa]; exact Lib.hid (TBlk.newAt (by simp))
  have HC : Hid (CS wa B w.heap.size k (.slice A1 nv c1) (.slice A2 na c2) (.slice A3 nr c3)) :=
    Lib.hid ⟨by rw [hwa]; exact (TBlk.new _ _ _).alloc_ _, (OwnI.stays 3).below _ _ _ _ _ hba o1, (OwnI.stays 3).below _ _ _ _ _ hba o2, (OwnOf.stays (OwnI.stays 3)).below _ _ _ _ _ hba o3⟩
  have HD := Lib.hid (h.under hba hg)
  have hBa := Lib.hid hba
  clear o1 o2 o3 h hba
  go_enter Try.func84, Try.ntmps84
  go_wp2_with fail
  rw [← hwa]
  clear hwa
  refine (pick base g n c p A bs 5 wa HD.out (by omega)).mono ?_
  rintro e w1 ⟨r, rfl, ⟨-, hr⟩, hr1, hb1⟩
  obtain ⟨r0, rm⟩ := hr (by omega)
  have HC1 := Lib.hid (HC.out.butG hb1 hgB (by omega))
  have HT1 := Lib.hid (HT.out.butG hb1 (by omega))
  have HB1 := Lib.hid ((below_butG hBa.out g).go hb1)
  have hs1' := HT1.out.lt
  clear hb1 HC HT HD hBa hr
  by_cases e0 : r = 0
  · subst e0
    go_wp2_with fail
    have hc0 := lit_cells w1 [0, 10, 1, 5]
    refine (one base g n c (p + 1) w1.heap.size 4 4 A bs [0, 10, 1, 5] _ (hr1.under (b_alloc w1 (.cells (ints [0, 10, 1, 5]) 3)) (by omega)) (by omega) rfl (by omega) (by omega) (by omega) (by rw [size_alloc_]; omega) hc0).mono ?_
    rintro e w3 ⟨x1, rfl, -, hr3, hb3⟩
    have hC2 := HC1.out.below (b_alloc w1 (.cells (ints [0, 10, 1, 5]) 3))
    have hC3 := hC2.butG hb3 hgB (by omega)
    have hT2 := HT1.out.below_ (b_alloc w1 (.cells (ints [0, 10, 1, 5]) 3)) HT1.out.lt
    have hT3 := hT2.butG hb3 (by omega)
    have hb13 := HB1.out.go ((below_butG (b_alloc w1 (.cells (ints [0, 10, 1, 5]) 3)) g).go hb3)
    have hs13 := hb13.size
    have hbl3 := hC3.blk
    clear hc0 hC2 hT2 hb3
    have hm := hbl3.at_ 0 rfl
    have hfz := hbl3.frozen 0
    have HX := Lib.hid (And.intro (hC3.kind x1) (And.intro (hT3.far (g := w.heap.size) (j := 0) (u := .int .i64 x1) (by omega)) (And.intro (hr3.set (b := w.heap.size) (by omega) 0 (.int .i64 x1)) (hb13.setHi (b := w.heap.size) (Nat.le_refl _) 0 (.int .i64 x1)))))
    clear hC3 hT3 hr3 hb13 hbl3
    obtain ⟨w4, hw4⟩ : ∃ w4, w3.setCell ⟨w.heap.size, 0, none⟩ (.int .i64 x1) = w4 := ⟨_, rfl⟩
    rw [hw4] at HX
    obtain ⟨hC, hT, hd, hbt⟩ := HX.out
    have z0 : w4.cell? ⟨w.heap.size, 0, none⟩ = some (.int .i64 (x1)) := hC.blk.at_ 0 rfl
    have y0 : w4.cell? ⟨w.heap.size + 1, 0, none⟩ = some (.int .i64 0) := hT.at_ 0 rfl
    have f0 := hT.frozen 0
    have z1 : w4.cell? ⟨w.heap.size, 1, none⟩ = some (.slice A1 nv c1) := hC.blk.at_ 1 rfl
    have y1 : w4.cell? ⟨w.heap.size + 1, 1, none⟩ = some (.slice none 0 0) := hT.at_ 1 rfl
    have f1 := hT.frozen 1
    have z2 : w4.cell? ⟨w.heap.size, 2, none⟩ = some (.slice A2 na c2) := hC.blk.at_ 2 rfl
    have y2 : w4.cell? ⟨w.heap.size + 1, 2, none⟩ = some (.slice none 0 0) := hT.at_ 2 rfl
    have f2 := hT.frozen 2
    have z3 : w4.cell? ⟨w.heap.size, 3, none⟩ = some (.int .i64 (k.bound)) := hC.blk.at_ 3 rfl
    have y3 : w4.cell? ⟨w.heap.size + 1, 3, none⟩ = some (.int .i64 0) := hT.at_ 3 rfl
    have f3 := hT.frozen 3
    have z4 : w4.cell? ⟨w.heap.size, 4, none⟩ = some (.slice A3 nr c3) := hC.blk.at_ 4 rfl
    have y4 : w4.cell? ⟨w.heap.size + 1, 4, none⟩ = some (.slice none 0 0) := hT.at_ 4 rfl
    have f4 := hT.frozen 4
    have hF := Lib.hid (CS.finish2 hC hT rfl (by omega) hd (by omega) (Nat.le_succ _) hbt rfl)
    clear hC hT hbt
    go_wp2_with fail
    generalize (((((w4.setCell ⟨w.heap.size + 1, 0, none⟩ (.int .i64 (x1))).setCell ⟨w.heap.size + 1, 1, none⟩ (.slice A1 nv c1)).setCell ⟨w.heap.size + 1, 2, none⟩ (.slice A2 na c2)).setCell ⟨w.heap.size + 1, 3, none⟩ (.int .i64 (k.bound))).setCell ⟨w.heap.size + 1, 4, none⟩ (.slice A3 nr c3)) = wf at hF ⊢
    obtain ⟨⟨t0, t1, t2, t3, t4⟩, ho, hrd, hbf⟩ := hF.out
    refine bodyPost_ret (v := .agg #[.int .i64 (x1), .slice A1 nv c1, .slice A2 na c2, .int .i64 (k.bound), .slice A3 nr c3]) ?_ rfl ?_
    · simp [results, Try.results84, go_sem, t0, t1, t2, t3, t4]
    · exact ⟨_, _, _, rfl, ho, by first | exact ⟨Nat.le_succ _, Nat.le_succ _, rfl⟩ | exact ⟨by simp, Nat.le_succ _, rfl⟩ | exact ⟨Nat.le_succ _, by simp, rfl⟩, by omega, hrd, hbf⟩
  have n0 : (r == 0) = false := by simpa using e0
  by_cases e1 : r = 1
  · subst e1
    have hbl1 := HC1.out.blk
    have o1 := HC1.out.vars.1
    rw [HNV.out] at o1
    obtain ⟨gA, cA, cur, eA, hgA, hblk, hcur⟩ := own_blk_int o1 (by omega)
    injection eA with eA1 eA2 eA3
    subst eA1 eA3
    obtain ⟨v0, hv0⟩ : ∃ v0, k.vars[0]? = some v0 := ⟨_, List.getElem?_eq_getElem (by have := HNV.out; omega)⟩
    have hC1 : ∀ w', Below w1.heap.size w1 w' → w'.cell? ⟨w.heap.size, 1, none⟩ = some (.slice (some ⟨gA, 0, none⟩) nv c1) := fun w' h => (hbl1.below_ h hbl1.lt).at_ 1 rfl
    have hS : ∀ w', Below w1.heap.size w1 w' → w'.cell? ⟨gA, 0, none⟩ = some (.int .i64 v0) := fun w' h => (hblk.below_ h hblk.lt).at_ 0 (hcur 0 v0 hv0)
    have hneA : gA ≠ w.heap.size := hblk.ne hbl1 (by decide)
    have HS6 := Lib.hid (fun (w5 : World) (u : Value) (h : Below w1.heap.size w1 w5) => (((hblk.below_ h hblk.lt).far (j := 1) (u := u) hneA).at_ 0 (hcur 0 v0 hv0)))
    have hbd : Below w1.heap.size w1 w1.drew := below_drewN (Below.refl _ _) 1
    have hS0 := hS _ hbd
    have hd0 := hC1 _ hbd
    have hb00 : Below w1.heap.size w1 w1 := Below.refl _ _
    have hd00 := hC1 _ hb00
    have hba0 : Below w1.heap.size w1 (w1.drew.alloc (.cells #[.int .i64 v0] 3)) := hbd.alloc (Nat.le_refl _) _
    have hba1 : Below w1.heap.size w1 (w1.alloc (.cells #[.int .i64 v0] 3)).drew := below_drewN (hb00.alloc (Nat.le_refl _) _) 1
    have hda0 := hC1 _ hba0
    have hda1 := hC1 _ hba1
    have O1 := Lib.hid o1
    have HKEY := Lib.hid (fun v5 w5 (ho : w5.ownsRow w1.heap.size 3 1 v5 (nv + 1) (k.vars.map (.int .i64) ++ [.int .i64 v0])) (hb : Below w1.heap.size w1 w5) =>
      CS.putV (xs := k.vars ++ [v0]) HC1.out HT1.out hr1 HB1.out hb (by rw [List.map_append]; exact ho) (by rw [List.length_append, HNV.out]; rfl) (by omega) (by omega) hg)
    clear hbl1 o1 hblk hcur hv0
    go_wp2_with fail
    have hs0 := hS _ hba0
    have hs1' := hS _ hba1
    have hnv0 : 0 < nv := by omega
    have hnv1 : (0 : Int) < (nv : Int) := by omega
    go_region_law (first
      | (refine step_append_any (by rfl) _ _ 23 (by rfl) w1.heap.size 3 i0 _ 1 8 Try.underlying23 hi0 hz0 hz1 hz2 rfl (by omega) v8 nv (k.vars.map (.int .i64)) (by rfl) oc2 _ 1 [.int .i64 v0] (by exact ⟨_, rfl, sr⟩) (by simp [Value.oneCell']) (by unfold maxLen; omega) (by omega) (by exact hba8.size) ?_
         intro v5 w5 ho5 hb5 _ _
         have hb9 := hba8.trans hb5
         obtain ⟨A5, c5, w6, rfl, hw6, q2, qf, ⟨z0, z1, z2, z3, z4⟩, ⟨y0, y1, y2, y3, y4⟩, ⟨f0, f1, f2, f3, f4⟩, zs6, hX⟩ := HKEY.out v5 w5 ho5 hb9
         clear ho5 hb5)
      | (go_simp
         go_at_call 86
         first
           | (refine (copyInts _ nv _ k.vars w1.drew (own_below O1.out hbd) (by omega)).mono ?_
              rintro e W8 ⟨v8, rfl, oc, hBq⟩
              have hb8 := bgo hbd hBq
              have hz8 := hb8.size
              have hd8 := hC1 _ hb8
              have oc2 := own_below oc (b_alloc W8 (.cells #[.int .i64 v0] 3))
              have sr := src_own (World.ownsRow_lit (e := 3) (size := 1) W8 #[.int .i64 v0] 1 (Nat.le_refl _) (by decide) rfl)
              have hba8 := hb8.alloc hz8 (.cells #[.int .i64 v0] 3)
              have s8 := hS _ hb8
              have s9 := hS _ hba8
              have hd9 := hC1 _ hba8
              clear hBq oc)
           | (refine (copyInts _ nv _ k.vars (w1.drew.alloc (.cells #[.int .i64 v0] 3)) (own_below O1.out (hbd.alloc (Nat.le_refl _) _)) (by omega)).mono ?_
              rintro e W8 ⟨v8, rfl, oc, hBq⟩
              have hb8 := bgo (hbd.alloc (Nat.le_refl _) (.cells #[.int .i64 v0] 3)) hBq
              have hz8 := hb8.size
              have hd8 := hC1 _ hb8
              have oc2 := own_base oc (show w1.heap.size ≤ (w1.drew.alloc (.cells #[.int .i64 v0] 3)).heap.size by simp)
              have sr := src_own (own_below (World.ownsRow_lit (e := 3) (size := 1) w1.drew #[.int .i64 v0] 1 (Nat.le_refl _) (by decide) rfl) hBq)
              have hba8 := hb8
              have s8 := hS _ hb8
              clear hBq oc)))
    all_goals
      go_wp2_with fail
      obtain ⟨hC, hT, hd, hbt⟩ := hX.out
      have hF := Lib.hid (CS.finish2 hC hT rfl (by omega) hd (by omega) (Nat.le_succ _) hbt rfl)
      clear hC hT hbt
      generalize (((((w6.setCell ⟨w.heap.size + 1, 0, none⟩ (.int .i64 (k.kind))).setCell ⟨w.heap.size + 1, 1, none⟩ (.slice A5 (nv + 1) c5)).setCell ⟨w.heap.size + 1, 2, none⟩ (.slice A2 na c2)).setCell ⟨w.heap.size + 1, 3, none⟩ (.int .i64 (k.bound))).setCell ⟨w.heap.size + 1, 4, none⟩ (.slice A3 nr c3)) = wf at hF ⊢
      obtain ⟨⟨t0, t1, t2, t3, t4⟩, ho, hrd, hbf⟩ := hF.out
      refine bodyPost_ret (v := .agg #[.int .i64 (k.kind), .slice A5 (nv + 1) c5, .slice A2 na c2, .int .i64 (k.bound), .slice A3 nr c3]) ?_ rfl ?_
      · simp [results, Try.results84, go_sem, t0, t1, t2, t3, t4]
      · exact ⟨_, rfl, _, ho, by first | exact ⟨Nat.le_succ _, Nat.le_succ _, rfl⟩ | exact ⟨by simp, Nat.le_succ _, rfl⟩ | exact ⟨Nat.le_succ _, by simp, rfl⟩, _, by omega, hrd, hbf⟩
  have n1 : (r == 1) = false := by simpa using e1
  by_cases e2 : r = 2
  · subst e2
    have hbl1 := HC1.out.blk
    have m2 : w1.cell? ⟨w.heap.size, 2, none⟩ = some (.slice A2 na c2) := hbl1.at_ 2 rfl
    clear hbl1
    go_wp2_with fail
    have o2 := HC1.out.args.1
    rw [HNA.out] at o2
    refine (copyInts _ na _ k.args w1 o2 (by omega)).mono ?_
    rintro e w2 ⟨v2, rfl, oc, hb2⟩
    have z2 := hb2.size
    have HKEY := Lib.hid (fun v5 w5 (ho : w5.ownsRow w1.heap.size 3 1 v5 (na + 1) (k.args.map (.int .i64) ++ [.int .i64 1])) (hb : Below w1.heap.size (w2.alloc (.cells #[.int .i64 1] 3)) w5) =>
      CS.putA (xs := k.args ++ [1]) HC1.out HT1.out hr1 HB1.out ((hb2.alloc z2 _).trans hb) (by rw [List.map_append]; exact ho) (by rw [List.length_append, HNA.out]; rfl) (by omega) (by omega) hg)
    have HOC := Lib.hid oc
    clear o2 m2 oc hb2
    go_wp2_with (at_builtin; refine wpList_append_any rfl _ _ 23 rfl w1.heap.size 3 i0 _ 1 8 Try.underlying23 hi0 hz0 hz1 hz2 rfl (by decide) v2 na (k.args.map (.int .i64)) rfl (own_below HOC.out (b_alloc _ _)) _ _ _ [.int .i64 1] rfl (src_own (World.ownsRow_lit w2 #[.int .i64 1] 1 (Nat.le_refl _) (by decide) rfl)) (by simp [Value.oneCell']) (by unfold maxLen; omega) (by omega) (by rw [size_alloc_]; omega) ?_; intro v5 w5 ho5 hb5 _ _; obtain ⟨A5, c5, w6, rfl, hw6, q2, qf, ⟨z0, z1, z2, z3, z4⟩, ⟨y0, y1, y2, y3, y4⟩, ⟨f0, f1, f2, f3, f4⟩, zs6, hX⟩ := HKEY.out v5 w5 ho5 hb5; clear ho5 hb5 HKEY)
    obtain ⟨hC, hT, hd, hbt⟩ := hX.out
    have hF := Lib.hid (CS.finish2 hC hT rfl (by omega) hd (by omega) (Nat.le_succ _) hbt rfl)
    clear hC hT hbt
    generalize (((((w6.setCell ⟨w.heap.size + 1, 0, none⟩ (.int .i64 (k.kind))).setCell ⟨w.heap.size + 1, 1, none⟩ (.slice A1 nv c1)).setCell ⟨w.heap.size + 1, 2, none⟩ (.slice A5 (na + 1) c5)).setCell ⟨w.heap.size + 1, 3, none⟩ (.int .i64 (k.bound))).setCell ⟨w.heap.size + 1, 4, none⟩ (.slice A3 nr c3)) = wf at hF ⊢
    obtain ⟨⟨t0, t1, t2, t3, t4⟩, ho, hrd, hbf⟩ := hF.out
    refine bodyPost_ret (v := .agg #[.int .i64 (k.kind), .slice A1 nv c1, .slice A5 (na + 1) c5, .int .i64 (k.bound), .slice A3 nr c3]) ?_ rfl ?_
    · simp [results, Try.results84, go_sem, t0, t1, t2, t3, t4]
    · exact ⟨_, _, _, rfl, ho, by first | exact ⟨Nat.le_succ _, Nat.le_succ _, rfl⟩ | exact ⟨by simp, Nat.le_succ _, rfl⟩ | exact ⟨Nat.le_succ _, by simp, rfl⟩, by omega, hrd, hbf⟩
  have n2 : (r == 2) = false := by simpa using e2
  by_cases e3 : r = 3
  · subst e3
    go_wp2_with fail
    have hc0 := lit_cells w1 [-1000, 1000, 5]
    refine (one base g n c (p + 1) w1.heap.size 3 3 A bs [-1000, 1000, 5] _ (hr1.under (b_alloc w1 (.cells (ints [-1000, 1000, 5]) 3)) (by omega)) (by omega) rfl (by omega) (by omega) (by omega) (by rw [size_alloc_]; omega) hc0).mono ?_
    rintro e w3 ⟨x1, rfl, -, hr3, hb3⟩
    have hC2 := HC1.out.below (b_alloc w1 (.cells (ints [-1000, 1000, 5]) 3))
    have hC3 := hC2.butG hb3 hgB (by omega)
    have hT2 := HT1.out.below_ (b_alloc w1 (.cells (ints [-1000, 1000, 5]) 3)) HT1.out.lt
    have hT3 := hT2.butG hb3 (by omega)
    have hb13 := HB1.out.go ((below_butG (b_alloc w1 (.cells (ints [-1000, 1000, 5]) 3)) g).go hb3)
    have hs13 := hb13.size
    have hbl3 := hC3.blk
    clear hc0 hC2 hT2 hb3
    have hm := hbl3.at_ 3 rfl
    have hfz := hbl3.frozen 3
    have HX := Lib.hid (And.intro (hC3.bound x1) (And.intro (hT3.far (g := w.heap.size) (j := 3) (u := .int .i64 x1) (by omega)) (And.intro (hr3.set (b := w.heap.size) (by omega) 3 (.int .i64 x1)) (hb13.setHi (b := w.heap.size) (Nat.le_refl _) 3 (.int .i64 x1)))))
    clear hC3 hT3 hr3 hb13 hbl3
    obtain ⟨w4, hw4⟩ : ∃ w4, w3.setCell ⟨w.heap.size, 3, none⟩ (.int .i64 x1) = w4 := ⟨_, rfl⟩
    rw [hw4] at HX
    obtain ⟨hC, hT, hd, hbt⟩ := HX.out
    have z0 : w4.cell? ⟨w.heap.size, 0, none⟩ = some (.int .i64 (k.kind)) := hC.blk.at_ 0 rfl
    have y0 : w4.cell? ⟨w.heap.size + 1, 0, none⟩ = some (.int .i64 0) := hT.at_ 0 rfl
    have f0 := hT.frozen 0
    have z1 : w4.cell? ⟨w.heap.size, 1, none⟩ = some (.slice A1 nv c1) := hC.blk.at_ 1 rfl
    have y1 : w4.cell? ⟨w.heap.size + 1, 1, none⟩ = some (.slice none 0 0) := hT.at_ 1 rfl
    have f1 := hT.frozen 1
    have z2 : w4.cell? ⟨w.heap.size, 2, none⟩ = some (.slice A2 na c2) := hC.blk.at_ 2 rfl
    have y2 : w4.cell? ⟨w.heap.size + 1, 2, none⟩ = some (.slice none 0 0) := hT.at_ 2 rfl
    have f2 := hT.frozen 2
    have z3 : w4.cell? ⟨w.heap.size, 3, none⟩ = some (.int .i64 (x1)) := hC.blk.at_ 3 rfl
    have y3 : w4.cell? ⟨w.heap.size + 1, 3, none⟩ = some (.int .i64 0) := hT.at_ 3 rfl
    have f3 := hT.frozen 3
    have z4 : w4.cell? ⟨w.heap.size, 4, none⟩ = some (.slice A3 nr c3) := hC.blk.at_ 4 rfl
    have y4 : w4.cell? ⟨w.heap.size + 1, 4, none⟩ = some (.slice none 0 0) := hT.at_ 4 rfl
    have f4 := hT.frozen 4
    have hF := Lib.hid (CS.finish2 hC hT rfl (by omega) hd (by omega) (Nat.le_succ _) hbt rfl)
    clear hC hT hbt
    go_wp2_with fail
    generalize (((((w4.setCell ⟨w.heap.size + 1, 0, none⟩ (.int .i64 (k.kind))).setCell ⟨w.heap.size + 1, 1, none⟩ (.slice A1 nv c1)).setCell ⟨w.heap.size + 1, 2, none⟩ (.slice A2 na c2)).setCell ⟨w.heap.size + 1, 3, none⟩ (.int .i64 (x1))).setCell ⟨w.heap.size + 1, 4, none⟩ (.slice A3 nr c3)) = wf at hF ⊢
    obtain ⟨⟨t0, t1, t2, t3, t4⟩, ho, hrd, hbf⟩ := hF.out
    refine bodyPost_ret (v := .agg #[.int .i64 (k.kind), .slice A1 nv c1, .slice A2 na c2, .int .i64 (x1), .slice A3 nr c3]) ?_ rfl ?_
    · simp [results, Try.results84, go_sem, t0, t1, t2, t3, t4]
    · exact ⟨_, _, _, rfl, ho, by first | exact ⟨Nat.le_succ _, Nat.le_succ _, rfl⟩ | exact ⟨by simp, Nat.le_succ _, rfl⟩ | exact ⟨Nat.le_succ _, by simp, rfl⟩, by omega, hrd, hbf⟩
  have n3 : (r == 3) = false := by simpa using e3
  go_wp2_with fail
  have hc0 := lit_cells w1 [-1, 4]
  refine (one base g n c (p + 1) w1.heap.size 2 2 A bs [-1, 4] _ (hr1.under (b_alloc w1 (.cells (ints [-1, 4]) 3)) (by omega)) (by omega) rfl (by omega) (by omega) (by omega) (by rw [size_alloc_]; omega) hc0).mono ?_
  rintro e w3 ⟨x1, rfl, -, hr3, hb3⟩
  have hC2 := HC1.out.below (b_alloc w1 (.cells (ints [-1, 4]) 3))
  have hC3 := hC2.butG hb3 hgB (by omega)
  have hT2 := HT1.out.below_ (b_alloc w1 (.cells (ints [-1, 4]) 3)) HT1.out.lt
  have hT3 := hT2.butG hb3 (by omega)
  have hb13 := HB1.out.go ((below_butG (b_alloc w1 (.cells (ints [-1, 4]) 3)) g).go hb3)
  have hs13 := hb13.size
  have hbl3 := hC3.blk
  clear hc0 hC2 hT2 hb3
  have hK := CS.putV (xs := [x1]) hC3 hT3 hr3 hb13 (b_alloc w3 (.cells #[.int .i64 x1] 3)) (World.ownsRow_lit w3 #[.int .i64 x1] 1 (Nat.le_refl _) (by decide) rfl) rfl (by omega) (by omega) hg
  obtain ⟨A5, c5, w6, hv, hw6, q2, qf, ⟨z0, z1, z2, z3, z4⟩, ⟨y0, y1, y2, y3, y4⟩, ⟨f0, f1, f2, f3, f4⟩, zs6, hX⟩ := hK
  injection hv with hv1 hv2 hv3
  subst hv1 hv3
  clear hC3 hT3 hr3 hb13 hbl3
  go_wp2_with fail
  obtain ⟨hC, hT, hd, hbt⟩ := hX.out
  have hF := Lib.hid (CS.finish2 hC hT rfl (by omega) hd (by omega) (Nat.le_succ _) hbt rfl)
  clear hC hT hbt
  generalize (((((w6.setCell ⟨w.heap.size + 1, 0, none⟩ (.int .i64 (k.kind))).setCell ⟨w.heap.size + 1, 1, none⟩ (.slice (some ⟨w3.heap.size, 0, none⟩) 1 1)).setCell ⟨w.heap.size + 1, 2, none⟩ (.slice A2 na c2)).setCell ⟨w.heap.size + 1, 3, none⟩ (.int .i64 (k.bound))).setCell ⟨w.heap.size + 1, 4, none⟩ (.slice A3 nr c3)) = wf at hF ⊢
  obtain ⟨⟨t0, t1, t2, t3, t4⟩, ho, hrd, hbf⟩ := hF.out
  refine bodyPost_ret (v := .agg #[.int .i64 (k.kind), .slice (some ⟨w3.heap.size, 0, none⟩) 1 1, .slice A2 na c2, .int .i64 (k.bound), .slice A3 nr c3]) ?_ rfl ?_
  · simp [results, Try.results84, go_sem, t0, t1, t2, t3, t4]
  · exact ⟨_, _, _, rfl, ho, by first | exact ⟨Nat.le_succ _, Nat.le_succ _, rfl⟩ | exact ⟨by simp, Nat.le_succ _, rfl⟩ | exact ⟨Nat.le_succ _, by simp, rfl⟩, by omega, hrd, hbf⟩
end Go.Proofs.Ytejfnkbdmlijbaa
/- anyConstraint: a drawn constraint that may be damaged. -/
namespace Go.Proofs.Ytejfnkbdmlijbaa
open Go.ChangeShapes Go.WideShapes Go.ChangeAt Go.RowKit
open Go.Shelf
set_option linter.unusedVariables false
set_option maxRecDepth 100000

theorem OwnCon.shunT {w : World} {B R j : Nat} {v u : Value} {k : Con} {zs : Array Value} (h : OwnCon w B v k) (hr : TBlk 35 w R zs) : OwnCon (w.setCell ⟨R, j, none⟩ u) B v k := by
  obtain ⟨vv, av, rv, e, h1, h2, h3⟩ := h
  exact ⟨vv, av, rv, e, OwnI.shuns (t := 35) (by decide) _ _ _ _ _ j _ _ u hr h1, OwnI.shuns (t := 35) (by decide) _ _ _ _ _ j _ _ u hr h2, OwnOf.shuns (t := 35) (by decide) (OwnI.shuns (by decide)) _ _ _ _ _ j _ _ u hr h3⟩
theorem OwnCon.laid0 {w : World} {B R : Nat} {k : Con} {x0 x1 x2 x3 x4 : Value} {zs : Array Value}
    (h : OwnCon w B (.agg #[x0, x1, x2, x3, x4]) k) (hr : TBlk 35 w R zs) (hz : zs.size = 5) {wf : World}
    (hf : wf = ((((w.setCell ⟨R, 0, none⟩ x0).setCell ⟨R, 1, none⟩ x1).setCell ⟨R, 2, none⟩ x2).setCell ⟨R, 3, none⟩ x3).setCell ⟨R, 4, none⟩ x4) :
    TBlk 35 wf R #[x0, x1, x2, x3, x4] ∧ OwnCon wf B (.agg #[x0, x1, x2, x3, x4]) k := by
  obtain ⟨z0, z1, z2, z3, z4, rfl⟩ : ∃ z0 z1 z2 z3 z4, zs = #[z0, z1, z2, z3, z4] := by
    rcases zs with ⟨l⟩
    match l, hz with
    | [z0, z1, z2, z3, z4], _ => exact ⟨_, _, _, _, _, rfl⟩
  have t1 := hr.store 0 x0
  have s1 := h.shunT (j := 0) (u := x0) hr
  have t2 := t1.store 1 x1
  have s2 := s1.shunT (j := 1) (u := x1) t1
  have t3 := t2.store 2 x2
  have s3 := s2.shunT (j := 2) (u := x2) t2
  have t4 := t3.store 3 x3
  have s4 := s3.shunT (j := 3) (u := x3) t3
  have t5 := t4.store 4 x4
  have s5 := s4.shunT (j := 4) (u := x4) t4
  subst hf
  exact ⟨t5, s5⟩
theorem below_laid {w w0 : World} {B R : Nat} {x0 x1 x2 x3 x4 : Value} (h : Below B w0 w) (hR : B ≤ R) {wf : World}
    (hf : wf = ((((w.setCell ⟨R, 0, none⟩ x0).setCell ⟨R, 1, none⟩ x1).setCell ⟨R, 2, none⟩ x2).setCell ⟨R, 3, none⟩ x3).setCell ⟨R, 4, none⟩ x4) : Below B w0 wf := by
  subst hf
  exact ((((h.setCell (p := ⟨R, 0, none⟩) hR _).setCell (p := ⟨R, 1, none⟩) hR _).setCell (p := ⟨R, 2, none⟩) hR _).setCell (p := ⟨R, 3, none⟩) hR _).setCell (p := ⟨R, 4, none⟩) hR _
/-- A constraint laid into the box of the result. -/
theorem OwnCon.laid {w w0 : World} {B B0 R g base n c p : Nat} {A : Option Addr} {bs : List Int} {k : Con} {x0 x1 x2 x3 x4 : Value} {zs : Array Value}
    (h : OwnCon w B (.agg #[x0, x1, x2, x3, x4]) k) (hr : TBlk 35 w R zs) (hz : zs.size = 5) (hd : Rd w base g A n c bs p) (hg : g < R) (hR : B0 ≤ R) (hb : ButG g B0 w0 w) {wf : World}
    (hf : wf = ((((w.setCell ⟨R, 0, none⟩ x0).setCell ⟨R, 1, none⟩ x1).setCell ⟨R, 2, none⟩ x2).setCell ⟨R, 3, none⟩ x3).setCell ⟨R, 4, none⟩ x4) :
    (wf.cell? ⟨R, 0, none⟩ = some x0 ∧ wf.cell? ⟨R, 1, none⟩ = some x1 ∧ wf.cell? ⟨R, 2, none⟩ = some x2 ∧ wf.cell? ⟨R, 3, none⟩ = some x3 ∧ wf.cell? ⟨R, 4, none⟩ = some x4) ∧
    OwnCon wf B (.agg #[x0, x1, x2, x3, x4]) k ∧ Rd wf base g A n c bs p ∧ ButG g B0 w0 wf := by
  obtain ⟨z0, z1, z2, z3, z4, rfl⟩ : ∃ z0 z1 z2 z3 z4, zs = #[z0, z1, z2, z3, z4] := by
    rcases zs with ⟨l⟩
    match l, hz with
    | [z0, z1, z2, z3, z4], _ => exact ⟨_, _, _, _, _, rfl⟩
  have t1 := hr.store 0 x0
  have s1 := h.shunT (j := 0) (u := x0) hr
  have t2 := t1.store 1 x1
  have s2 := s1.shunT (j := 1) (u := x1) t1
  have t3 := t2.store 2 x2
  have s3 := s2.shunT (j := 2) (u := x2) t2
  have t4 := t3.store 3 x3
  have s4 := s3.shunT (j := 3) (u := x3) t3
  have t5 := t4.store 4 x4
  have s5 := s4.shunT (j := 4) (u := x4) t4
  subst hf
  refine ⟨⟨t5.at_ 0 rfl, t5.at_ 1 rfl, t5.at_ 2 rfl, t5.at_ 3 rfl, t5.at_ 4 rfl⟩, s5, ?_, ?_⟩
  · exact ((((hd.set hg 0 _).set hg 1 _).set hg 2 _).set hg 3 _).set hg 4 _
  · exact ((((hb.setHi hR 0 _).setHi hR 1 _).setHi hR 2 _).setHi hR 3 _).setHi hR 4 _
/-- small, with a margin. -/
def SmD (c : Con) : Prop := c.vars.length ≤ 9 ∧ c.args.length ≤ 9 ∧ c.rows.length ≤ 8 ∧ RowsLe 8 c.rows
theorem SmC.d {c : Con} (h : SmC c) : SmD c := ⟨by have := h.1; omega, by have := h.2.1; omega, h.2.2.1, h.2.2.2⟩
theorem SmC.near {c d : Con} (h : SmC c) (k : NearC c d) : SmD d := ⟨by have := h.1; have := k.1; omega, by have := h.2.1; have := k.2.1; omega, by rw [k.2.2]; exact h.2.2.1, by rw [k.2.2]; exact h.2.2.2⟩
theorem SmD.con {c : Con} (h : SmD c) : SmCon c := ⟨by have := h.1; unfold Sm1; omega, by have := h.2.1; unfold Sm1; omega, by have := h.2.2.1; omega, fun x hx => by have := h.2.2.2 x hx; unfold Sm1; omega⟩
set_option maxHeartbeats 16000000 in
theorem anyConstraint (base g n c p : Nat) (A : Option Addr) (bs : List Int) (m : Nat) (w : World) (h : Rd w base g A n c bs p) (hp : p ≤ 800000) (hm1 : 1 ≤ m) (hm4 : m ≤ 4) :
    Calls Try.prog 51 #[.pointer (some ⟨g, 0, none⟩), .int .i64 m] w fun e w' => ∃ (v : Value) (k : Con) (q : Nat), e = .returned v ∧ OwnCon w' w.heap.size v k ∧ SmD k ∧ q ≤ p + 210 ∧ Rd w' base g A n c bs q ∧ ButG g w.heap.size w w' := by
  have hg : g < w.heap.size := (Array.getElem?_eq_some_iff.1 h.block).1
  obtain ⟨wa, hwa⟩ : ∃ wa, wa = w.alloc (.cells #[.int .i64 0, .slice none 0 0, .slice none 0 0, .int .i64 0, .slice none 0 0] 35) := ⟨_, rfl⟩
  have hba : Below w.heap.size w wa := by rw [hwa]; exact b_alloc _ _
  have hza : wa.heap.size = w.heap.size + 1 := by rw [hwa, size_alloc_]
  have HT : Hid (TBlk 35 wa w.heap.size #[.int .i64 0, .slice none 0 0, .slice none 0 0, .int .i64 0, .slice none 0 0]) := by rw [hwa]; exact TBlk.new _ _ _
  have HD := Lib.hid (h.under hba hg)
  have HBA := Lib.hid hba
  clear h hba
  go_enter Try.func51, Try.ntmps51
  go_wp2_with fail
  rw [← hwa]
  clear hwa
  refine (randomConstraint base g n c p A bs m wa HD.out (by omega) hm1 hm4).mono ?_
  rintro e w1 ⟨v, k, q, rfl, ho, hk1, hsm, hq, hr1, hb1⟩
  have HT1 := Lib.hid (HT.out.butG hb1 (by omega))
  have HB1 := Lib.hid ((below_butG HBA.out g).go hb1)
  have hz1 := hb1.size
  obtain ⟨vv, av, rv, rfl, o1, o2, o3⟩ := ho
  obtain ⟨A1, c1, rfl, -⟩ := o1.read
  obtain ⟨A2, c2, rfl, -⟩ := o2.read
  obtain ⟨A3, c3, rfl, -⟩ := read2 o3
  obtain ⟨nv, hnv⟩ : ∃ nv, k.vars.length = nv := ⟨_, rfl⟩
  obtain ⟨na, hna⟩ : ∃ na, k.args.length = na := ⟨_, rfl⟩
  obtain ⟨nr, hnr⟩ : ∃ nr, k.rows.length = nr := ⟨_, rfl⟩
  rw [hnv] at o1 ⊢
  rw [hna] at o2 ⊢
  rw [hnr] at o3 ⊢
  have HSM := Lib.hid (And.intro hk1 hsm)
  obtain ⟨w4, hw4⟩ : ∃ w4, w1.alloc (.cells #[.int .i64 k.kind, .slice A1 nv c1, .slice A2 na c2, .int .i64 k.bound, .slice A3 nr c3] 35) = w4 := ⟨_, rfl⟩
  have hb4 : Below w1.heap.size w1 w4 := by rw [← hw4]; exact b_alloc _ _
  have hC4 : CS w4 w.heap.size w1.heap.size k (.slice A1 nv c1) (.slice A2 na c2) (.slice A3 nr c3) :=
    ⟨by rw [← hw4]; exact TBlk.new _ _ _, (OwnI.stays 3).base _ _ _ _ _ (show w.heap.size ≤ wa.heap.size by omega) ((OwnI.stays 3).below _ _ _ _ _ hb4 o1), (OwnI.stays 3).base _ _ _ _ _ (show w.heap.size ≤ wa.heap.size by omega) ((OwnI.stays 3).below _ _ _ _ _ hb4 o2), (OwnOf.stays (OwnI.stays 3)).base _ _ _ _ _ (show w.heap.size ≤ wa.heap.size by omega) ((OwnOf.stays (OwnI.stays 3)).below _ _ _ _ _ hb4 o3)⟩
  have HC4 := Lib.hid hC4
  have HT4 := Lib.hid (HT1.out.below_ hb4 (by omega))
  have HD4 := Lib.hid (hr1.under hb4 (by omega))
  have HB4 := Lib.hid (HB1.out.go (below_butG hb4 g))
  have hz4 := hb4.size
  clear o1 o2 o3 hk1 hsm hnv hna hnr hC4 hb4 hb1 hr1
  go_wp2_with fail
  refine (pick base g n c q A bs 10 w4 HD4.out (by omega)).mono ?_
  rintro e w5 ⟨r, rfl, -, hr5, hb5⟩
  have hgw : g < w.heap.size := hg
  have HC5 := HC4.out.butG hb5 hgw (by omega)
  have HT5 := Lib.hid (HT4.out.butG hb5 (by omega))
  have HB5 := Lib.hid (HB4.out.go hb5)
  have hz5 := hb5.size
  have z0 := HC5.blk.at_ 0 rfl
  have z1 := HC5.blk.at_ 1 rfl
  have z2 := HC5.blk.at_ 2 rfl
  have z3 := HC5.blk.at_ 3 rfl
  have z4 := HC5.blk.at_ 4 rfl
  have HCH := Lib.hid HC5
  clear HC5 hb5 HC4 HT4 HB4 HD4
  by_cases h0 : r = 0
  · subst h0
    go_wp2_with fail
    obtain ⟨hv1, hv2, hv3⟩ := And.intro HSM.out.1 (And.intro HSM.out.2.1 HSM.out.2.2.1)
    refine (damage base g n c (q + 1) w.heap.size A bs _ k w5 hr5 (by omega) HCH.out.own (by omega) hgw hv1 hv2 hv3).mono ?_
    rintro e w6 ⟨v', k', q', rfl, ho', hn', hq', hr6, hb6⟩
    have HT6 := HT5.out.butG hb6 (by omega)
    have HB6 := HB5.out.go hb6
    obtain ⟨vv', av', rv', rfl, k1, k2, k3⟩ := ho'
    obtain ⟨A1', c1', rfl, -⟩ := k1.read
    obtain ⟨A2', c2', rfl, -⟩ := k2.read
    obtain ⟨A3', c3', rfl, -⟩ := read2 k3
    have y0 := HT6.at_ 0 rfl
    have y1 := HT6.at_ 1 rfl
    have y2 := HT6.at_ 2 rfl
    have y3 := HT6.at_ 3 rfl
    have y4 := HT6.at_ 4 rfl
    have f0 := HT6.frozen 0
    have f1 := HT6.frozen 1
    have f2 := HT6.frozen 2
    have f3 := HT6.frozen 3
    have f4 := HT6.frozen 4
    have hF := Lib.hid (OwnCon.laid (show OwnCon w6 w.heap.size _ k' from ⟨_, _, _, rfl, k1, k2, k3⟩) HT6 rfl hr6 hgw (Nat.le_refl _) HB6 rfl)
    have HN := Lib.hid (HSM.out.2.near hn')
    clear k1 k2 k3 HT6 HB6 hr6 hb6 hr5 z0 z1 z2 z3 z4 hn' hv1 hv2 hv3
    go_wp2_with fail
    generalize (((((w6.setCell ⟨w.heap.size, 0, none⟩ (.int .i64 k'.kind)).setCell ⟨w.heap.size, 1, none⟩ (.slice A1' k'.vars.length c1')).setCell ⟨w.heap.size, 2, none⟩ (.slice A2' k'.args.length c2')).setCell ⟨w.heap.size, 3, none⟩ (.int .i64 k'.bound)).setCell ⟨w.heap.size, 4, none⟩ (.slice A3' k'.rows.length c3')) = wf at hF ⊢
    obtain ⟨⟨t0, t1, t2, t3, t4⟩, ho, hrd, hbf⟩ := hF.out
    refine bodyPost_ret (v := .agg #[.int .i64 k'.kind, .slice A1' k'.vars.length c1', .slice A2' k'.args.length c2', .int .i64 k'.bound, .slice A3' k'.rows.length c3']) ?_ rfl ?_
    · simp [results, Try.results51, go_sem, t0, t1, t2, t3, t4]
    · exact ⟨_, _, _, rfl, ho, HN.out, by omega, hrd, hbf⟩
  have n0 : (r == 0) = false := by simpa using h0
  have y0 := HT5.out.at_ 0 rfl
  have y1 := HT5.out.at_ 1 rfl
  have y2 := HT5.out.at_ 2 rfl
  have y3 := HT5.out.at_ 3 rfl
  have y4 := HT5.out.at_ 4 rfl
  have f0 := HT5.out.frozen 0
  have f1 := HT5.out.frozen 1
  have f2 := HT5.out.frozen 2
  have f3 := HT5.out.frozen 3
  have f4 := HT5.out.frozen 4
  have hF := Lib.hid (OwnCon.laid HCH.out.own HT5.out rfl hr5 hgw (Nat.le_refl _) HB5.out rfl)
  have HN := Lib.hid HSM.out.2.d
  clear hr5
  go_wp2_with fail
  generalize (((((w5.setCell ⟨w.heap.size, 0, none⟩ (.int .i64 k.kind)).setCell ⟨w.heap.size, 1, none⟩ (.slice A1 nv c1)).setCell ⟨w.heap.size, 2, none⟩ (.slice A2 na c2)).setCell ⟨w.heap.size, 3, none⟩ (.int .i64 k.bound)).setCell ⟨w.heap.size, 4, none⟩ (.slice A3 nr c3)) = wf at hF ⊢
  obtain ⟨⟨t0, t1, t2, t3, t4⟩, ho, hrd, hbf⟩ := hF.out
  refine bodyPost_ret (v := .agg #[.int .i64 k.kind, .slice A1 nv c1, .slice A2 na c2, .int .i64 k.bound, .slice A3 nr c3]) ?_ rfl ?_
  · simp [results, Try.results51, go_sem, t0, t1, t2, t3, t4]
  · exact ⟨_, _, _, rfl, ho, HN.out, by omega, hrd, hbf⟩
end Go.Proofs.Ytejfnkbdmlijbaa
/- Random models. -/
namespace Go.Proofs.Ytejfnkbdmlijbaa
open Go.ChangeShapes Go.WideShapes Go.ChangeAt Go.RowKit
open Go.Shelf
set_option linter.unusedVariables false
set_option linter.unusedSimpArgs false
set_option maxRecDepth 100000

theorem OwnConU.butG0 {w w' : World} {base g : Nat} {us : List Value} {k : Con} (h : OwnConU w base us k) (hb : ButG g w.heap.size w w') (hg : g < base) : OwnConU w' base us k := by
  obtain ⟨vv, av, rv, e1, k1, k2, k3⟩ := h
  exact ⟨vv, av, rv, e1, k1.butG hb hg, k2.butG hb hg, OwnRows.butG k3 hb hg⟩
theorem OwnK.butG0 {α : Type} {e : TypeId} {m : Nat} {In : World → Nat → List Value → α → Prop} {w w' : World} {base g : Nat} {v : Value} {xs : List α} (hI : ∀ us x, In w base us x → In w' base us x) (h : OwnK e m In w base v xs) (hb : ButG g w.heap.size w w') (hg : g < base) : OwnK e m In w' base v xs := by
  obtain ⟨uss, h1, h0, h2, h3, h4⟩ := h
  exact ⟨uss, h1, h0, own_butG h2 hb hg, h3, fun i u x hu hx => hI _ _ (h4 i u x hu hx)⟩

set_option maxHeartbeats 3000000 in
theorem randomModel (base g n c p : Nat) (A : Option Addr) (bs : List Int) (w : World) (h : Rd w base g A n c bs p) (hp : p ≤ 800000) :
    Calls Try.prog 82 #[.pointer (some ⟨g, 0, none⟩)] w fun e w' => ∃ (vs : List Value) (m : Mod) (q : Nat), e = .returned (.agg vs.toArray) ∧ OwnMod w' w.heap.size (.agg vs.toArray) m ∧ 1 ≤ m.doms.length ∧ m.doms.length ≤ 4 ∧ m.cons.length ≤ 4 ∧ (∀ k ∈ m.cons, SmC k ∧ 1 ≤ k.vars.length) ∧ q ≤ p + 900 ∧ Rd w' base g A n c bs q ∧ ButG g w.heap.size w w' := by
  obtain ⟨i0, hi0, hz0, hz1, hz2⟩ := info_parts info_int
  have hg : g < w.heap.size := (Array.getElem?_eq_some_iff.1 h.block).1
  obtain ⟨wa, hwa⟩ : ∃ wa, wa = w.alloc (.cells #[.slice none 0 0, .slice none 0 0] 26) := ⟨_, rfl⟩
  obtain ⟨wb, hwb⟩ : ∃ wb, wb = wa.alloc (.cells #[.slice none 0 0, .slice none 0 0] 26) := ⟨_, rfl⟩
  have hb0 : Below w.heap.size w wa := by rw [hwa]; exact b_alloc _ _
  have hsa : wa.heap.size = w.heap.size + 1 := by rw [hwa, size_alloc_]
  have hb1 : Below wa.heap.size wa wb := by rw [hwb]; exact b_alloc _ _
  have hsb : wb.heap.size = w.heap.size + 1 + 1 := by rw [hwb, size_alloc_, hsa]
  have hb01 := bgo hb0 hb1
  have HR : Hid (TBlk 26 wb w.heap.size #[.slice none 0 0, .slice none 0 0]) := TBlk.below_ (by rw [hwa]; exact TBlk.new _ _ _) hb1 (by omega)
  have HT : Hid (TBlk 26 wb (w.heap.size + 1) #[.slice none 0 0, .slice none 0 0]) := by rw [hwb, ← hsa]; exact TBlk.new _ _ _
  have hr0 : Rd wb base g A n c bs p := h.under hb01 hg
  clear h hb0 hb1
  go_enter Try.func82, Try.ntmps82
  go_wp2_with fail
  rw [← hwa, ← hwb]
  clear hwa hwb
  have HSB := Lib.hid hsb
  clear hsb hsa
  refine (pick base g n c p A bs 4 _ hr0 (by omega)).mono ?_
  rintro e w1 ⟨r, rfl, ⟨-, hr⟩, hd1, hbq1⟩
  obtain ⟨r0, r1⟩ := hr (by omega)
  obtain ⟨k0, rfl⟩ := Int.eq_ofNat_of_zero_le r0
  have hbt := (below_butG hb01 g).go hbq1
  have HT1 := Lib.hid (HT.out.butG hbq1 (by omega))
  have HR1 := Lib.hid (HR.out.butG hbq1 (by omega))
  have hz1' := hbq1.size
  have hwr : IntKind.i64.wrap (1 + (k0 : Int)) = ((k0 + 1 : Nat) : Int) := by rw [IntKind.wrap_i64]; omega
  clear hr hr0
  go_wp2_with fail
  have O0 := Lib.hid (show OwnI 3 w1 wb.heap.size (.slice none 0 0) [] from ⟨World.ownsRow_nil _ _ _ _, by simp⟩)
  go_loopw [4] (fun t wr => ∃ (ee q : Nat) (doms : List Int) (dv : Value), ee + doms.length = k0 + 1 ∧ t = .int .i64 ee ∧ Hid (TBlk 26 wr (w.heap.size + 1) #[dv, .slice none 0 0]) ∧ Hid (OwnI 3 wr wb.heap.size dv doms) ∧ Hid (TBlk 26 wr w.heap.size #[.slice none 0 0, .slice none 0 0]) ∧ q ≤ p + 1 + 3 * doms.length ∧ Rd wr base g A n c bs q ∧ ButG g w.heap.size w wr ∧ wb.heap.size ≤ wr.heap.size) (fun t _ => (intOf t).toNat)
  case atStart => exact ⟨k0 + 1, p + 1, [], _, by simp, by first | rfl | (congr 1; omega), HT1, O0, HR1, by simp, hd1, hbt, hz1'⟩
  case round =>
    obtain ⟨ee, q, doms, dv, hsum, rfl, ht, hq, hres, hqp, hd, hb, hzr⟩ := hrel
    clear O0 HT1 HR1 hd1 hbt
    rename World => wr
    by_cases hlt : 0 < ee
    · obtain ⟨e1, rfl⟩ : ∃ e1, ee = e1 + 1 := ⟨ee - 1, by omega⟩
      have t5 : decide ((0 : Int) < ((e1 + 1 : Nat) : Int)) = true := decide_eq_true (by omega)
      have hbd3 : Below wr.heap.size wr wr.drew := Below.drew_ (Below.refl _ _)
      have d5 : wr.drew.cell? ⟨w.heap.size + 1, 0, none⟩ = some dv := ht.out.at_ 0 rfl
      have hgb : g < wb.heap.size := by have := HSB.out; omega
      have hgw : g < wr.heap.size := by omega
      go_wp2_with fail
      go_region_law (first
        | (refine step_append_any (by rfl) _ _ 23 (by rfl) wb.heap.size 3 i0 _ 1 8 Try.underlying23 hi0 hz0 hz1 hz2 rfl (by omega) dv doms.length (doms.map (.int .i64)) (by rfl) ho6.out (some ⟨W6.heap.size, 0, none⟩) 1 [.int .i64 x] (by exact ⟨_, rfl, .inr ⟨_, rfl, rfl, cell_one_new _ _ _⟩⟩) (by simp [Value.oneCell']) (by unfold maxLen; omega) (by omega) (by rw [size_alloc_]; omega) ?_
           intro v1 W7 hown hbw hgr _
           obtain ⟨A7, c7, rfl⟩ := (HoldR.of_own hown).form
           have T7 := TBlk.grown (show (26 : TypeId) ≠ 3 by decide) T6.out ho6.out hgr
           have R7 := TBlk.grown (show (26 : TypeId) ≠ 3 by decide) R6.out ho6.out hgr
           have d7 := T7.at_ 0 rfl
           have f7 := T7.frozen 0)
        | (go_simp
           go_at_call 102
           refine (randomDomain base g n c q A bs wr.drew (hd.under hbd3 hgw) (by omega)).mono ?_
           rintro e W6 ⟨x, q6, rfl, -, hq6, hd6, hb6⟩
           have bq : ButG g wr.heap.size wr W6 := (below_butG hbd3 g).go hb6
           have t6 := ht.out.butG bq (by omega)
           have d6a := t6.at_ 0 rfl
           have d6b := fun o => (t6.on (b_alloc W6 o)).at_ 0 rfl
           have bA := b_alloc W6 (.cells #[.int .i64 x] 3)
           have T6 := Lib.hid (t6.on bA)
           have R6 := Lib.hid ((hres.out.butG bq (by omega)).on bA)
           have o6 := hq.out.butG bq hgb
           have ho6 := Lib.hid (own_below o6.1 bA)
           have z6 := bq.size
           clear t6 o6))
      all_goals
        have hza : (W6.alloc (.cells #[.int .i64 x] 3)).heap.size = W6.heap.size + 1 := size_alloc_ _ _
        have hz7 := hgr.size
        have K1 := Lib.hid (T7.store 0 (.slice A7 (doms.length + 1) c7))
        have K2 := Lib.hid (OwnI.shuns (show (26 : TypeId) ≠ 3 by decide) _ _ _ _ _ 0 _ _ (.slice A7 (doms.length + 1) c7) T7 (show OwnI 3 W7 wb.heap.size (.slice A7 (doms.length + 1) c7) (doms ++ [x]) from ⟨by simpa using hown, by simp; omega⟩))
        have K3 := Lib.hid (R7.far (j := 0) (u := .slice A7 (doms.length + 1) c7) (show w.heap.size ≠ w.heap.size + 1 by omega))
        have K4 := (((hd6.under bA (by omega)).under hbw hgb).set (b := w.heap.size + 1) (by omega) 0 (.slice A7 (doms.length + 1) c7))
        have K5 : ButG g w.heap.size w (W7.setCell ⟨w.heap.size + 1, 0, none⟩ (.slice A7 (doms.length + 1) c7)) := ((((hb.go bq).trans (below_butG (bA.mono (by have := hb.size; omega)) g)).trans (below_butG (hbw.mono (by have := HSB.out; omega)) g)).trans (below_butG ((Below.refl _ _).setCell (by simp) _) g))
        have hfz : (W7.setCell ⟨w.heap.size + 1, 0, none⟩ (.slice A7 (doms.length + 1) c7)).heap.size = W7.heap.size := by simp [World.setCell]
        clear T7 R7 d7 f7 hown hbw hgr
        go_wp2_with fail
        go_roundw
        case rel => exact ⟨e1, q6, doms ++ [x], _, by simp; omega, by go_num, K1, K2, K3, by simp; omega, K4, K5, by omega⟩
        case measure => simp [intOf]
    · obtain rfl : ee = 0 := by omega
      have t5 : decide ((0 : Int) < ((0 : Nat) : Int)) = false := by decide
      go_wp2_with fail
      refine (pick base g n c q A bs 5 _ hd (by omega)).mono ?_
      rintro e w2 ⟨r2, rfl, ⟨-, hr⟩, hd2, hb2⟩
      obtain ⟨r20, r21⟩ := hr (by omega)
      obtain ⟨k2, rfl⟩ := Int.eq_ofNat_of_zero_le r20
      clear hr
      obtain ⟨i1, hi1, hy0, hy1, hy2⟩ := info_parts (P := Try.prog) (e := 35) (z := .agg #[.int .i64 0, .slice none 0 0, .slice none 0 0, .int .i64 0, .slice none 0 0]) (size := 5) (bytes := 88) (by kernel_rfl)
      have hgb : g < wb.heap.size := by have := HSB.out; omega
      obtain ⟨A0, c0, rfl⟩ := hq.out.form
      have HT2 := Lib.hid (ht.out.butG hb2 (by omega))
      have HQ2 := Lib.hid (hq.out.butG hb2 hgb)
      have HR2 := Lib.hid (hres.out.butG hb2 (by omega))
      have hbt2 := hb.go hb2
      have hz2' := hb2.size
      have hdn := Lib.hid (show doms.length = k0 + 1 by omega)
      have hdl1 : 1 ≤ doms.length := by omega
      have hdl4 : doms.length ≤ 4 := by omega
      clear hsum
      clear ht hq hres hb hd
      go_wp2_with fail
      have O1 := Lib.hid (OwnCons.nil0 w2 wb.heap.size)
      go_loopw [5] (fun t wr => ∃ (ee q1 : Nat) (cons : List Con) (cv : Value), ee + cons.length = k2 ∧ t = .int .i64 ee ∧ Hid (TBlk 26 wr (w.heap.size + 1) #[.slice A0 doms.length c0, cv]) ∧ Hid (OwnI 3 wr wb.heap.size (.slice A0 doms.length c0) doms) ∧ Hid (OwnCons wr wb.heap.size cv cons) ∧ Hid (∀ k ∈ cons, SmC k ∧ 1 ≤ k.vars.length) ∧ Hid (TBlk 26 wr w.heap.size #[.slice none 0 0, .slice none 0 0]) ∧ q1 ≤ q + 1 + 200 * cons.length ∧ Rd wr base g A n c bs q1 ∧ ButG g w.heap.size w wr ∧ wb.heap.size ≤ wr.heap.size) (fun t _ => (intOf t).toNat)
      case atStart => exact ⟨k2, q + 1, [], _, by simp, rfl, HT2, HQ2, O1, fun k hk => by simp at hk, HR2, by simp, hd2, hbt2, by omega⟩
      case round =>
        obtain ⟨ee, q1, cons, cv, hsum2, rfl, ht, hdm, hq, hsm, hres, hqp1, hd, hb, hzr⟩ := hrel
        clear O1 HT2 HQ2 HR2 hd2 hbt2
        rename World => wr
        have hzw := hb.size
        by_cases hlt : 0 < ee
        · obtain ⟨e1, rfl⟩ : ∃ e1, ee = e1 + 1 := ⟨ee - 1, by omega⟩
          have t5 : decide ((0 : Int) < ((e1 + 1 : Nat) : Int)) = true := decide_eq_true (by omega)
          have hbd3 : Below wr.heap.size wr wr.drew := Below.drew_ (Below.refl _ _)
          have d5 : wr.drew.cell? ⟨w.heap.size + 1, 1, none⟩ = some cv := ht.out.at_ 1 rfl
          have d4 : wr.drew.cell? ⟨w.heap.size + 1, 0, none⟩ = some (.slice A0 doms.length c0) := ht.out.at_ 0 rfl
          have hgw : g < wr.heap.size := by omega
          go_wp2_with fail
          go_region_law (first
            | (refine step_append_any (by rfl) _ _ 24 (by rfl) wb.heap.size 35 i1 _ 5 88 Try.underlying24 hi1 hy0 hy1 hy2 rfl (by omega) cv cons.length uss.flatten (by rfl) ho6.out (some ⟨W6.heap.size, 0, none⟩) 1 [.int .i64 kc.kind, .slice A1 kc.vars.length c1, .slice A2 kc.args.length c2, .int .i64 kc.bound, .slice A3 kc.rows.length c3] (by exact ⟨_, rfl, src_blk (t := 35) (TBlk.new _ _ _) (by simp)⟩) (by simp [Value.oneCell']) (by unfold maxLen; omega) (by omega) (by rw [size_alloc_]; omega) ?_
               intro v1 W7 hown hbw hgr _
               obtain ⟨A7, c7, rfl⟩ := (HoldR.of_own hown).form
               have T7 := TBlk.grown (show (26 : TypeId) ≠ 35 by decide) T6.out ho6.out hgr
               have R7 := TBlk.grown (show (26 : TypeId) ≠ 35 by decide) R6.out ho6.out hgr
               have d7 := T7.at_ 1 rfl
               have f7 := T7.frozen 1)
            | (go_simp
               go_at_call 95
               refine (randomConstraint base g n c q1 A bs doms.length wr.drew (hd.under hbd3 hgw) (by omega) (by omega) (by omega)).mono ?_
               rintro e W6 ⟨vk, kc, q6, rfl, hoc, hk1, hsmk, hq6, hd6, hb6⟩
               obtain ⟨usk, rfl, hcr⟩ := OwnCon.read hoc
               obtain ⟨A1, A2, A3, c1, c2, c3, rfl, -⟩ := hcr
               have bq : ButG g wr.heap.size wr W6 := (below_butG hbd3 g).go hb6
               have t6 := ht.out.butG bq (by omega)
               have d6a := t6.at_ 1 rfl
               have d6b := fun o => (t6.on (b_alloc W6 o)).at_ 1 rfl
               have d6c := t6.at_ 0 rfl
               have d6d := fun o => (t6.on (b_alloc W6 o)).at_ 0 rfl
               have bA := b_alloc W6 (.cells #[.int .i64 kc.kind, .slice A1 kc.vars.length c1, .slice A2 kc.args.length c2, .int .i64 kc.bound, .slice A3 kc.rows.length c3] 35)
               have T6 := Lib.hid (t6.on bA)
               have R6 := Lib.hid ((hres.out.butG bq (by omega)).on bA)
               have D6 := Lib.hid ((OwnI.stays 3).below _ _ _ _ _ bA (hdm.out.butG bq hgb))
               obtain ⟨uss, u1, u0, u2, u3, u4⟩ := (OwnK.stays OwnConU.stays).below _ _ _ _ _ bA (OwnK.butG0 (fun u x hx => OwnConU.butG0 hx bq hgb) hq.out bq hgb)
               have HU := Lib.hid (And.intro u1 (And.intro u0 (And.intro u2 u4)))
               have ho6 := Lib.hid u2
               have HC6 := Lib.hid (show OwnConU (W6.alloc (.cells #[.int .i64 kc.kind, .slice A1 kc.vars.length c1, .slice A2 kc.args.length c2, .int .i64 kc.bound, .slice A3 kc.rows.length c3] 35)) wb.heap.size [.int .i64 kc.kind, .slice A1 kc.vars.length c1, .slice A2 kc.args.length c2, .int .i64 kc.bound, .slice A3 kc.rows.length c3] kc from OwnConU.stays.below _ _ _ _ _ bA (OwnConU.stays.base _ _ _ _ _ hzr hoc))
               have z6 := bq.size
               clear u1 u0 u2 u3 u4 t6))
          all_goals
            have hza : (W6.alloc (.cells #[.int .i64 kc.kind, .slice A1 kc.vars.length c1, .slice A2 kc.args.length c2, .int .i64 kc.bound, .slice A3 kc.rows.length c3] 35)).heap.size = W6.heap.size + 1 := size_alloc_ _ _
            have hz7 := hgr.size
            have K1 := Lib.hid (T7.store 1 (.slice A7 (cons.length + 1) c7))
            have K2 := Lib.hid (OwnK.shuns (show (26 : TypeId) ≠ 35 by decide) OwnConU.shunsM _ _ _ _ _ 1 _ _ (.slice A7 (cons.length + 1) c7) T7
              (OwnK.snoc (OwnConU.grows (show (3 : TypeId) ≠ 35 by decide) (show (23 : TypeId) ≠ 35 by decide)) HU.out.1 HU.out.2.1 HU.out.2.2.1 HU.out.2.2.2 HC6.out rfl (by omega) hown hgr))
            have KD := Lib.hid (OwnI.shuns (show (26 : TypeId) ≠ 3 by decide) _ _ _ _ _ 1 _ _ (.slice A7 (cons.length + 1) c7) T7 (OwnI.grown (show (3 : TypeId) ≠ 35 by decide) ho6.out hgr D6.out))
            have K3 := Lib.hid (R7.far (j := 1) (u := (.slice A7 (cons.length + 1) c7)) (show w.heap.size ≠ w.heap.size + 1 by omega))
            have K4 := (((hd6.under bA (by omega)).under hbw hgb).set (b := w.heap.size + 1) (by omega) 1 (.slice A7 (cons.length + 1) c7))
            have K5 : ButG g w.heap.size w (W7.setCell ⟨w.heap.size + 1, 1, none⟩ (.slice A7 (cons.length + 1) c7)) := ((((hb.go bq).trans (below_butG (bA.mono (by have := hb.size; omega)) g)).trans (below_butG (hbw.mono (by have := HSB.out; omega)) g)).trans (below_butG ((Below.refl _ _).setCell (by simp) _) g))
            have KS := Lib.hid (show ∀ k ∈ cons ++ [kc], SmC k ∧ 1 ≤ k.vars.length from fun k hk => by
              rcases List.mem_append.1 hk with h1 | h1
              · exact hsm.out k h1
              · rw [List.mem_singleton.1 h1]; exact ⟨hsmk, hk1⟩)
            have hfz : (W7.setCell ⟨w.heap.size + 1, 1, none⟩ (.slice A7 (cons.length + 1) c7)).heap.size = W7.heap.size := by simp [World.setCell]
            clear T7 R7 d7 f7 hown hbw hgr d6a d6b d6c d6d d5 d4 hsmk hk1 hoc
            go_wp2_with fail
            go_roundw
            case rel => exact ⟨e1, q6, cons ++ [kc], _, by simp; omega, by go_num, K1, KD, K2, KS, K3, by simp; omega, K4, K5, by omega⟩
            case measure => simp [intOf]
        · obtain rfl : ee = 0 := by omega
          have t5 : decide ((0 : Int) < ((0 : Nat) : Int)) = false := by decide
          obtain ⟨Ac, cc, rfl⟩ := OwnK.form hq.out
          have x0 := ht.out.at_ 0 rfl
          have x1 := ht.out.at_ 1 rfl
          have y0 := hres.out.at_ 0 rfl
          have y1 := hres.out.at_ 1 rfl
          have f0 := hres.out.frozen 0
          have f1 := hres.out.frozen 1
          obtain ⟨wf, hwf⟩ : ∃ wf, wf = (wr.setCell ⟨w.heap.size, 0, none⟩ (.slice A0 doms.length c0)).setCell ⟨w.heap.size, 1, none⟩ (.slice Ac cons.length cc) := ⟨_, rfl⟩
          have R1 := hres.out.store 0 (.slice A0 doms.length c0)
          have TF : TBlk 26 wf w.heap.size #[.slice A0 doms.length c0, .slice Ac cons.length cc] := by rw [hwf]; exact R1.store 1 _
          have OF : OwnMod wf wb.heap.size (.agg #[.slice A0 doms.length c0, .slice Ac cons.length cc]) ⟨doms, cons⟩ := by
            rw [hwf]
            exact ⟨_, _, rfl, OwnI.shuns (show (26 : TypeId) ≠ 3 by decide) _ _ _ _ _ 1 _ _ _ R1 (OwnI.shuns (show (26 : TypeId) ≠ 3 by decide) _ _ _ _ _ 0 _ _ _ hres.out hdm.out), OwnK.shuns (show (26 : TypeId) ≠ 35 by decide) OwnConU.shunsM _ _ _ _ _ 1 _ _ _ R1 (OwnK.shuns (show (26 : TypeId) ≠ 35 by decide) OwnConU.shunsM _ _ _ _ _ 0 _ _ _ hres.out hq.out)⟩
          have DF : Rd wf base g A n c bs q1 := by rw [hwf]; exact (hd.set (b := w.heap.size) (by omega) 0 _).set (b := w.heap.size) (by omega) 1 _
          have BF : ButG g w.heap.size w wf := by rw [hwf]; exact (hb.setHi (b := w.heap.size) (Nat.le_refl _) 0 _).setHi (b := w.heap.size) (Nat.le_refl _) 1 _
          have t0 := TF.at_ 0 rfl
          have t1 := TF.at_ 1 rfl
          have HF := Lib.hid (And.intro OF (And.intro DF (And.intro BF hwf)))
          have HK := Lib.hid (And.intro hsm.out (And.intro hdn.out hsum2))
          clear OF DF BF TF hwf R1 ht hres hq hdm hd hb hsm hdn hsum2
          go_wp2_with fail
          rw [← HF.out.2.2.2]
          refine bodyPost_ret (v := .agg #[.slice A0 doms.length c0, .slice Ac cons.length cc]) ?_ rfl ?_
          · simp [results, Try.results82, go_sem, t0, t1]
          · exact ⟨[.slice A0 doms.length c0, .slice Ac cons.length cc], ⟨doms, cons⟩, q1, rfl, OwnMod.base_ HF.out.1 (by have := HSB.out; omega), by show 1 ≤ doms.length; have := HK.out.2.1; omega, by show doms.length ≤ 4; have := HK.out.2.1; omega, by show cons.length ≤ 4; have := HK.out.2.2; omega, HK.out.1, by have := HK.out; omega, HF.out.2.1, HF.out.2.2.1⟩
end Go.Proofs.Ytejfnkbdmlijbaa
/- What is drawn: a model that may be invalid; a model and a constraint. -/
namespace Go.Proofs.Ytejfnkbdmlijbaa
open Go.ChangeShapes Go.WideShapes Go.ChangeAt Go.RowKit
open Go.Shelf
set_option linter.unusedVariables false
set_option linter.unusedSimpArgs false
set_option maxRecDepth 100000

/-- a model laid into the box of a result. -/
theorem OwnMod.laid2 {w w0 : World} {B B0 R g base n c p : Nat} {A : Option Addr} {bs : List Int} {m : Mod} {x0 x1 : Value} {zs : Array Value}
    (h : OwnMod w B (.agg #[x0, x1]) m) (hr : TBlk 26 w R zs) (hz : zs.size = 2) (hd : Rd w base g A n c bs p) (hg : g < R) (hR : B0 ≤ R) (hb : ButG g B0 w0 w) {wf : World}
    (hf : wf = (w.setCell ⟨R, 0, none⟩ x0).setCell ⟨R, 1, none⟩ x1) :
    (wf.cell? ⟨R, 0, none⟩ = some x0 ∧ wf.cell? ⟨R, 1, none⟩ = some x1) ∧ OwnMod wf B (.agg #[x0, x1]) m ∧ Rd wf base g A n c bs p ∧ ButG g B0 w0 wf := by
  obtain ⟨z0, z1, rfl⟩ : ∃ z0 z1, zs = #[z0, z1] := by
    rcases zs with ⟨l⟩
    match l, hz with
    | [z0, z1], _ => exact ⟨_, _, rfl⟩
  have t1 := hr.store 0 x0
  have t2 := t1.store 1 x1
  obtain ⟨dv, cv, e, o1, o2⟩ := h
  subst hf
  refine ⟨⟨t2.at_ 0 rfl, t2.at_ 1 rfl⟩, ⟨dv, cv, e, ?_, ?_⟩, (hd.set hg 0 _).set hg 1 _, (hb.setHi hR 0 _).setHi hR 1 _⟩
  · exact OwnI.shuns (show (26 : TypeId) ≠ 3 by decide) _ _ _ _ _ 1 _ _ _ t1 (OwnI.shuns (show (26 : TypeId) ≠ 3 by decide) _ _ _ _ _ 0 _ _ _ hr o1)
  · exact OwnK.shuns (show (26 : TypeId) ≠ 35 by decide) OwnConU.shunsM _ _ _ _ _ 1 _ _ _ t1 (OwnK.shuns (show (26 : TypeId) ≠ 35 by decide) OwnConU.shunsM _ _ _ _ _ 0 _ _ _ hr o2)
/-- whatever number is stored into a block of numbers: what is owned stays owned, and as long. -/
theorem OwnI.any {w : World} {B gD j : Nat} {v : Value} {xs : List Int} {cs : Array Value} (x : Int) (hb : TBlk 3 w gD cs) (h : OwnI 3 w B v xs) : ∃ xs', OwnI 3 (w.setCell ⟨gD, j, none⟩ (.int .i64 x)) B v xs' ∧ xs'.length = xs.length := by
  obtain ⟨h1, h3⟩ := h
  obtain ⟨h1a, h2⟩ := id h1
  rcases h2 with ⟨rfl, h0⟩ | ⟨g, cap, cur, rfl, hg, hh, hcap, hmax, hsz, ht⟩
  · exact ⟨xs, ⟨⟨h1a, .inl ⟨rfl, h0⟩⟩, h3⟩, rfl⟩
  · by_cases e : g = gD
    · subst e
      refine ⟨xs.set j x, ⟨?_, by rw [List.length_set]; exact h3⟩, List.length_set⟩
      rw [List.length_set, List.map_set]
      exact (h1.stored j (.int .i64 x)).1
    · refine ⟨xs, ⟨⟨h1a, .inr ⟨g, cap, cur, rfl, hg, ?_, hcap, hmax, hsz, ht⟩⟩, h3⟩, rfl⟩
      rw [Below.heap_setCell _ _ _ _ (by exact e)]
      exact hh
theorem OwnRows.any {w : World} {B gD j : Nat} {v : Value} {xs : List (List Int)} {cs : Array Value} (x : Int) (hb : TBlk 3 w gD cs) (h : OwnOf 23 (OwnI 3) w B v xs) :
    ∃ xs', OwnOf 23 (OwnI 3) (w.setCell ⟨gD, j, none⟩ (.int .i64 x)) B v xs' ∧ xs'.length = xs.length ∧ ∀ m, RowsLe m xs → RowsLe m xs' := by
  obtain ⟨us, h1, h2, h3, h4⟩ := h
  obtain ⟨l, hl, hq⟩ := list_of xs.length (fun i (y : List Int) => ∀ u z, us[i]? = some u → xs[i]? = some z → OwnI 3 (w.setCell ⟨gD, j, none⟩ (.int .i64 x)) B u y ∧ y.length = z.length) (fun i hi => by
    obtain ⟨ys, a, b⟩ := (h4 i _ _ (List.getElem?_eq_getElem (by omega)) (List.getElem?_eq_getElem hi)).any (j := j) x hb
    refine ⟨ys, fun u z hu hz => ?_⟩
    rw [List.getElem?_eq_getElem (by omega)] at hu
    rw [List.getElem?_eq_getElem hi] at hz
    injection hu with hu
    injection hz with hz
    subst hu hz
    exact ⟨a, b⟩)
  refine ⟨l, ⟨us, by omega, by rw [hl]; exact own_shun (by decide) j _ hb h2, by omega, fun i u y hu hy => ?_⟩, hl, fun m hm y hy => ?_⟩
  · have hi : i < xs.length := by
      rw [← hl]; exact (List.getElem?_eq_some_iff.1 hy).1
    exact (hq i y hy u _ hu (List.getElem?_eq_getElem hi)).1
  · obtain ⟨i, hi, e⟩ := List.getElem_of_mem hy
    have hi2 : i < xs.length := by omega
    have := (hq i y (by rw [List.getElem?_eq_getElem hi, e]) _ _ (List.getElem?_eq_getElem (show i < us.length by omega)) (List.getElem?_eq_getElem hi2)).2
    rw [this]
    exact hm _ (List.getElem_mem hi2)
theorem OwnConU.any {w : World} {B gD j : Nat} {us : List Value} {k : Con} {cs : Array Value} (x : Int) (hb : TBlk 3 w gD cs) (h : OwnConU w B us k) : ∃ k', OwnConU (w.setCell ⟨gD, j, none⟩ (.int .i64 x)) B us k' ∧ (SmD k → SmD k') := by
  obtain ⟨vv, av, rv, e, o1, o2, o3⟩ := h
  obtain ⟨x1, a1, b1⟩ := o1.any (j := j) x hb
  obtain ⟨x2, a2, b2⟩ := o2.any (j := j) x hb
  obtain ⟨x3, a3, b3, d3⟩ := OwnRows.any (j := j) x hb o3
  exact ⟨⟨k.kind, x1, x2, k.bound, x3⟩, ⟨vv, av, rv, e, a1, a2, a3⟩, fun hs => ⟨by show x1.length ≤ 9; rw [b1]; exact hs.1, by show x2.length ≤ 9; rw [b2]; exact hs.2.1, by show x3.length ≤ 8; rw [b3]; exact hs.2.2.1, d3 8 hs.2.2.2⟩⟩
theorem OwnCons.any {w : World} {B gD j : Nat} {v : Value} {xs : List Con} {cs : Array Value} (x : Int) (hb : TBlk 3 w gD cs) (h : OwnCons w B v xs) : ∃ xs', OwnCons (w.setCell ⟨gD, j, none⟩ (.int .i64 x)) B v xs' ∧ xs'.length = xs.length ∧ ((∀ k ∈ xs, SmD k) → ∀ k ∈ xs', SmD k) := by
  obtain ⟨uss, h1, h0, h2, h3, h4⟩ := h
  obtain ⟨l, hl, hq⟩ := list_of xs.length (fun i (y : Con) => ∀ u z, uss[i]? = some u → xs[i]? = some z → OwnConU (w.setCell ⟨gD, j, none⟩ (.int .i64 x)) B u y ∧ (SmD z → SmD y)) (fun i hi => by
    obtain ⟨ys, a, b⟩ := (h4 i _ _ (List.getElem?_eq_getElem (by omega)) (List.getElem?_eq_getElem hi)).any (j := j) x hb
    refine ⟨ys, fun u z hu hz => ?_⟩
    rw [List.getElem?_eq_getElem (by omega)] at hu
    rw [List.getElem?_eq_getElem hi] at hz
    injection hu with hu
    injection hz with hz
    subst hu hz
    exact ⟨a, b⟩)
  refine ⟨l, ⟨uss, by omega, h0, by rw [hl]; exact own_shun (by decide) j _ hb h2, by omega, fun i u y hu hy => ?_⟩, hl, fun hm y hy => ?_⟩
  · have hi : i < xs.length := by
      rw [← hl]; exact (List.getElem?_eq_some_iff.1 hy).1
    exact (hq i y hy u _ hu (List.getElem?_eq_getElem hi)).1
  · obtain ⟨i, hi, e⟩ := List.getElem_of_mem hy
    have hi2 : i < xs.length := by omega
    exact (hq i y (by rw [List.getElem?_eq_getElem hi, e]) _ _ (List.getElem?_eq_getElem (show i < uss.length by omega)) (List.getElem?_eq_getElem hi2)).2 (hm _ (List.getElem_mem hi2))
theorem flat_set {uss : List (List Value)} {m i : Nat} {p : List Value} (h : ∀ u ∈ uss, u.length = m) (hi : i < uss.length) (hp : p.length = m) (z0 z1 z2 z3 z4 x0 x1 x2 x3 x4 : Value) (hz : uss[i]? = some [z0, z1, z2, z3, z4]) (hm : m = 5) (hx : p = [x0, x1, x2, x3, x4]) :
    (((((uss.flatten).set (i * 5) x0).set (i * 5 + 1) x1).set (i * 5 + 2) x2).set (i * 5 + 3) x3).set (i * 5 + 4) x4 = (uss.set i p).flatten := by
  subst hx hm
  have hs : uss = uss.take i ++ ([z0, z1, z2, z3, z4] :: uss.drop (i + 1)) := by
    have e : uss[i] = [z0, z1, z2, z3, z4] := by
      rw [List.getElem?_eq_getElem hi] at hz
      injection hz
    rw [← e, List.getElem_cons_drop, List.take_append_drop]
  have hl : ((uss.take i).flatten).length = i * 5 := by rw [flat_len (fun u hu => h u (List.mem_of_mem_take hu)), List.length_take, Nat.min_eq_left (by omega)]
  have e1 : uss.flatten = (uss.take i).flatten ++ ([z0, z1, z2, z3, z4] ++ (uss.drop (i + 1)).flatten) := by
    conv => lhs; rw [hs]
    rw [List.flatten_append, List.flatten_cons]
  have e2 : (uss.set i [x0, x1, x2, x3, x4]).flatten = (uss.take i).flatten ++ ([x0, x1, x2, x3, x4] ++ (uss.drop (i + 1)).flatten) := by
    rw [List.set_eq_take_append_cons_drop, if_pos hi, List.flatten_append, List.flatten_cons]
  rw [e1, set5 _ _ _ _ _ _ _ _ _ _ _ _ _ hl, e2]
/-- one constraint of a row is put in the place of another. -/
theorem OwnCons.put {w : World} {B g c i n : Nat} {xs : List Con} {x0 x1 x2 x3 x4 : Value} {y : Con} (hn : xs.length = n) (h : OwnCons w B (.slice (some ⟨g, 0, none⟩) n c) xs) (hi : i < n) (hy : OwnConU w B [x0, x1, x2, x3, x4] y) :
    OwnCons (((((w.setCell ⟨g, i * 5, none⟩ x0).setCell ⟨g, i * 5 + 1, none⟩ x1).setCell ⟨g, i * 5 + 2, none⟩ x2).setCell ⟨g, i * 5 + 3, none⟩ x3).setCell ⟨g, i * 5 + 4, none⟩ x4) B (.slice (some ⟨g, 0, none⟩) n c) (xs.set i y) := by
  subst hn
  obtain ⟨uss, h1, h0, ho, h3, h4⟩ := h
  obtain ⟨o1, i1⟩ := fstep OwnConU.shuns ho (i * 5) x0
  obtain ⟨o2, i2⟩ := fstep OwnConU.shuns o1 (i * 5 + 1) x1
  obtain ⟨o3, i3⟩ := fstep OwnConU.shuns o2 (i * 5 + 2) x2
  obtain ⟨o4, i4⟩ := fstep OwnConU.shuns o3 (i * 5 + 3) x3
  obtain ⟨o5, i5⟩ := fstep OwnConU.shuns o4 (i * 5 + 4) x4
  obtain ⟨z0, z1, z2, z3, z4, hz⟩ : ∃ z0 z1 z2 z3 z4, uss[i]? = some [z0, z1, z2, z3, z4] := by
    have hl := h0 _ (List.getElem_mem (show i < uss.length by omega))
    generalize hu : uss[i] = u at hl
    match u, hl with
    | [z0, z1, z2, z3, z4], _ => exact ⟨z0, z1, z2, z3, z4, by rw [List.getElem?_eq_getElem (by omega), hu]⟩
  rw [flat_set h0 (by omega) (p := [x0, x1, x2, x3, x4]) rfl z0 z1 z2 z3 z4 x0 x1 x2 x3 x4 hz rfl rfl] at o5
  refine ⟨uss.set i [x0, x1, x2, x3, x4], by rw [List.length_set, List.length_set, h1], fun u hu => ?_, by rw [List.length_set]; exact o5, by rw [List.length_set]; exact h3, fun k u x hu hx => ?_⟩
  · rcases List.mem_or_eq_of_mem_set hu with h | h
    · exact h0 u h
    · rw [h]; rfl
  · by_cases e : i = k
    · subst e
      rw [List.getElem?_set_self (by omega)] at hu hx
      injection hu with hu
      injection hx with hx
      subst hu hx
      exact i5 _ _ (i4 _ _ (i3 _ _ (i2 _ _ (i1 _ _ hy))))
    · rw [List.getElem?_set_ne e] at hu hx
      exact i5 _ _ (i4 _ _ (i3 _ _ (i2 _ _ (i1 _ _ (h4 k u x hu hx)))))
theorem OwnCons.elem {w : World} {B n c i : Nat} {A : Option Addr} {xs : List Con} (h : OwnCons w B (.slice A n c) xs) (hi : i < xs.length) :
    ∃ g : Nat, A = some ⟨g, 0, none⟩ ∧ B ≤ g ∧ ∃ us k, xs[i]? = some k ∧ us.length = 5 ∧ (∀ (j : Nat) u, us[j]? = some u → w.cell? ⟨g, i * 5 + j, none⟩ = some u) ∧ (∀ j, w.frozen? ⟨g, j, none⟩ = false) ∧ OwnConU w B us k := by
  obtain ⟨uss, h1, h0, ho, h3, h4⟩ := h
  rcases id ho.2 with ⟨_, h5⟩ | ⟨g, cap, cur, hv, hg, hh, -⟩
  · omega
  injection hv with e1 e2 e3
  subst e1
  have hn : n = xs.length := e2
  subst hn
  refine ⟨g, rfl, hg, uss[i], xs[i], List.getElem?_eq_getElem hi, h0 _ (List.getElem_mem (by omega)), fun j u hj => ?_, fun j => frozen_of_row w g j _ _ hh, h4 i _ _ (List.getElem?_eq_getElem (by omega)) (List.getElem?_eq_getElem hi)⟩
  have hc := ho.cells (g := g) rfl (i * 5 + j) u (flat_at h0 (List.getElem?_eq_getElem (show i < uss.length by omega)) hj)
  rw [add_own] at hc
  exact hc
theorem OwnCons.butG {w w' : World} {base g : Nat} {v : Value} {xs : List Con} (h : OwnCons w base v xs) (hb : ButG g w.heap.size w w') (hg : g < base) : OwnCons w' base v xs := OwnK.butG0 (fun us x h => OwnConU.butG0 h hb hg) h hb hg
theorem OwnMod.putCon {w w0 : World} {B B0 g base nb cb p gC nc cc i b1 b2 : Nat} {A : Option Addr} {bs : List Int} {doms : List Int} {cons : List Con} {y : Con} {dv x0 x1 x2 x3 x4 : Value} {cs1 cs2 : Array Value}
    (hd : OwnI 3 w B dv doms) (hc : OwnCons w B (.slice (some ⟨gC, 0, none⟩) nc cc) cons) (hn : cons.length = nc) (hi : i < nc) (hgC : B ≤ gC) (hy : OwnConU w B [x0, x1, x2, x3, x4] y)
    (t1 : TBlk 26 w b1 cs1) (t2 : TBlk 26 w b2 cs2) (hr : Rd w base g A nb cb bs p) (hg : g < B) (hb : ButG g B0 w0 w) (hB : B0 ≤ B) {wf : World}
    (hf : wf = ((((w.setCell ⟨gC, i * 5, none⟩ x0).setCell ⟨gC, i * 5 + 1, none⟩ x1).setCell ⟨gC, i * 5 + 2, none⟩ x2).setCell ⟨gC, i * 5 + 3, none⟩ x3).setCell ⟨gC, i * 5 + 4, none⟩ x4) :
    TBlk 26 wf b1 cs1 ∧ TBlk 26 wf b2 cs2 ∧ OwnMod wf B (.agg #[dv, .slice (some ⟨gC, 0, none⟩) nc cc]) ⟨doms, cons.set i y⟩ ∧ Rd wf base g A nb cb bs p ∧ ButG g B0 w0 wf := by
  obtain ⟨cur, hcur⟩ : ∃ cur, TBlk 35 w gC cur := by
    obtain ⟨uss, h1, h0, ho, -⟩ := hc
    rw [hn] at ho
    exact own_block ho
  have hcp := OwnCons.put hn hc hi hy
  have n1 : b1 ≠ gC := t1.ne hcur (by decide)
  have n2 : b2 ≠ gC := t2.ne hcur (by decide)
  have k1 := hcur.store (i * 5) x0
  have k2 := k1.store (i * 5 + 1) x1
  have k3 := k2.store (i * 5 + 2) x2
  have k4 := k3.store (i * 5 + 3) x3
  have d1 := OwnI.shuns (t := 35) (by decide) _ _ _ _ _ (i * 5) _ _ x0 hcur hd
  have d2 := OwnI.shuns (t := 35) (by decide) _ _ _ _ _ (i * 5 + 1) _ _ x1 k1 d1
  have d3 := OwnI.shuns (t := 35) (by decide) _ _ _ _ _ (i * 5 + 2) _ _ x2 k2 d2
  have d4 := OwnI.shuns (t := 35) (by decide) _ _ _ _ _ (i * 5 + 3) _ _ x3 k3 d3
  have d5 := OwnI.shuns (t := 35) (by decide) _ _ _ _ _ (i * 5 + 4) _ _ x4 k4 d4
  subst hf
  refine ⟨((((t1.far n1).far n1).far n1).far n1).far n1, ((((t2.far n2).far n2).far n2).far n2).far n2, ⟨_, _, rfl, d5, hcp⟩, ?_, ?_⟩
  · exact ((((hr.set (b := gC) (by omega) _ _).set (b := gC) (by omega) _ _).set (b := gC) (by omega) _ _).set (b := gC) (by omega) _ _).set (b := gC) (by omega) _ _
  · exact ((((hb.setHi (b := gC) (by omega) _ _).setHi (b := gC) (by omega) _ _).setHi (b := gC) (by omega) _ _).setHi (b := gC) (by omega) _ _).setHi (b := gC) (by omega) _ _
set_option maxHeartbeats 6000000 in
theorem anyModel (base g n c p : Nat) (A : Option Addr) (bs : List Int) (w : World) (h : Rd w base g A n c bs p) (hp : p ≤ 700000) :
    Calls Try.prog 41 #[.pointer (some ⟨g, 0, none⟩)] w fun e w' => ∃ (vs : List Value) (m : Mod) (q : Nat), e = .returned (.agg vs.toArray) ∧ OwnMod w' w.heap.size (.agg vs.toArray) m ∧ (1 ≤ m.doms.length ∧ m.doms.length ≤ 4 ∧ m.cons.length ≤ 4 ∧ ∀ k ∈ m.cons, SmD k) ∧ q ≤ p + 910 ∧ Rd w' base g A n c bs q ∧ ButG g w.heap.size w w' := by
  have hg : g < w.heap.size := (Array.getElem?_eq_some_iff.1 h.block).1
  have hG := Lib.hid hg
  obtain ⟨wa, hwa⟩ : ∃ wa, wa = w.alloc (.cells #[.slice none 0 0, .slice none 0 0] 26) := ⟨_, rfl⟩
  have hb0 : Below w.heap.size w wa := by rw [hwa]; exact b_alloc _ _
  have hsa : wa.heap.size = w.heap.size + 1 := by rw [hwa, size_alloc_]
  have HR : Hid (TBlk 26 wa w.heap.size #[.slice none 0 0, .slice none 0 0]) := by rw [hwa]; exact TBlk.new _ _ _
  have HD := Lib.hid (h.under hb0 hg)
  have HB0 := Lib.hid hb0
  clear h hb0
  go_enter Try.func41, Try.ntmps41
  go_wp2_with fail
  rw [← hwa]
  clear hwa
  refine (randomModel base g n c p A bs wa HD.out (by omega)).mono ?_
  rintro e w1 ⟨vs, m, q, rfl, ho, hm1, hm4, hmc, hsm, hq, hd1, hb1⟩
  obtain ⟨dv, cv, ev, o1, o2⟩ := ho
  obtain rfl : vs = [dv, cv] := by
    injection ev with ev
    exact List.toArray_inj ev
  obtain ⟨A0, c0, rfl, -⟩ := o1.read
  obtain ⟨Ac, cc, rfl⟩ := OwnK.form o2
  have HSM := Lib.hid hsm
  obtain ⟨doms, cons⟩ := m
  obtain ⟨nd, hnd⟩ : ∃ nd, doms.length = nd := ⟨_, rfl⟩
  obtain ⟨nc, hnc⟩ : ∃ nc, cons.length = nc := ⟨_, rfl⟩
  simp only at o1 o2 hm1 hm4 hmc hsm HSM ⊢
  have HND := Lib.hid hnd
  have HNC := Lib.hid hnc
  rw [hnd] at hm1 hm4 o1 ⊢
  rw [hnc] at hmc o2 ⊢
  obtain ⟨w2, hw2⟩ : ∃ w2, w1.alloc (.cells #[.slice A0 nd c0, .slice Ac nc cc] 26) = w2 := ⟨_, rfl⟩
  have hb2 : Below w1.heap.size w1 w2 := by rw [← hw2]; exact b_alloc _ _
  have hz1 := hb1.size
  have hz2 := hb2.size
  have T2 : TBlk 26 w2 w1.heap.size #[.slice A0 nd c0, .slice Ac nc cc] := by rw [← hw2]; exact TBlk.new _ _ _
  have O2 : OwnMod w2 wa.heap.size (.agg #[.slice A0 nd c0, .slice Ac nc cc]) ⟨doms, cons⟩ := OwnMod.below ⟨_, _, rfl, o1, o2⟩ hb2
  have R2 := (HR.out.butG hb1 (by omega)).below_ hb2 (by have := hz1; omega)
  have D2 := hd1.under hb2 (by omega)
  have B2 := ((below_butG HB0.out g).go hb1).go (below_butG hb2 g)
  clear hb1 hb2 hd1 o1 o2 hsm hnd hnc HR HD HB0
  go_wp2_with fail
  refine (pick base g n c q A bs 16 w2 D2 (by omega)).mono ?_
  rintro e w3 ⟨r, rfl, -, hd3, hb3⟩
  have HT3 := Lib.hid (T2.butG hb3 (by omega))
  have HR3 := Lib.hid (R2.butG hb3 (by omega))
  have HO3 := Lib.hid (show OwnMod w3 wa.heap.size (.agg #[.slice A0 nd c0, .slice Ac nc cc]) ⟨doms, cons⟩ from by
    obtain ⟨a, b, e, k1, k2⟩ := O2
    exact ⟨a, b, e, OwnI.butG k1 hb3 (by omega), OwnCons.butG k2 hb3 (by omega)⟩)
  have hz3 := hb3.size
  have HB3 := Lib.hid (B2.go hb3)
  clear T2 R2 O2 D2 B2 hb3 hw2
  have hSZ := Lib.hid (show 1 ≤ (Mod.mk doms cons).doms.length ∧ (Mod.mk doms cons).doms.length ≤ 4 ∧ (Mod.mk doms cons).cons.length ≤ 4 ∧ ∀ k ∈ (Mod.mk doms cons).cons, SmD k from ⟨by show 1 ≤ doms.length; rw [HND.out]; exact hm1, by show doms.length ≤ 4; rw [HND.out]; exact hm4, by show cons.length ≤ 4; rw [HNC.out]; exact hmc, fun k hk => (HSM.out k hk).1.d⟩)
  by_cases h0 : r = 0
  · subst h0
    obtain ⟨a, b, ev, k1, k2⟩ := HO3.out
    injection ev with ev
    injection ev with ev
    injection ev with ea ev
    injection ev with eb
    subst ea eb
    have k3 := k1.1
    rw [HND.out] at k3
    obtain ⟨gD, cD, cur, eD, hgD, hblk, hcur⟩ := own_blk_int k3 (by omega)
    injection eD with eD1 _ eD3
    subst eD1 eD3
    have hneD : w1.heap.size ≠ gD := HT3.out.ne hblk (by decide)
    have HBK := Lib.hid (And.intro hblk (And.intro k1 k2))
    have hS : ∀ w', ButG g w3.heap.size w3 w' → w'.cell? ⟨w1.heap.size, 0, none⟩ = some (.slice (some ⟨gD, 0, none⟩) nd c0) := fun w' h => (HT3.out.butG h (by omega)).at_ 0 rfl
    have hbd : ButG g w3.heap.size w3 w3.drew := below_butG (below_drewN (Below.refl _ _) 1) g
    have hS0 := hS _ hbd
    have hbA : ButG g w3.heap.size w3 (w3.drew.alloc (.cells #[.int .i64 (-1), .int .i64 64, .int .i64 0] 3)) := hbd.go (below_butG (b_alloc _ _) g)
    have hSA := hS _ hbA
    have hrd : Rd w3.drew base g A n c bs (q + 1) := hd3.drewN 1
    have hzd : w3.drew.heap.size = w3.heap.size := rfl
    have hrA : Rd (w3.drew.alloc (.cells #[.int .i64 (-1), .int .i64 64, .int .i64 0] 3)) base g A n c bs (q + 1) := hrd.under (b_alloc _ _) (by omega)
    have hTL : TBlk 3 (w3.drew.alloc (.cells #[.int .i64 (-1), .int .i64 64, .int .i64 0] 3)) w3.heap.size (ints [-1, 64, 0]) := TBlk.new _ _ _
    have KEY := Lib.hid (fun (W7 : World) (j : Nat) (x : Int) (hj : j < nd) (hB : ButG g w3.heap.size w3 W7) =>
      (show (∃ z, W7.cell? ⟨gD, j, none⟩ = some (.int .i64 z)) ∧ W7.frozen? ⟨gD, j, none⟩ = false ∧ (W7.setCell ⟨gD, j, none⟩ (.int .i64 x)).cell? ⟨w1.heap.size, 0, none⟩ = some (.slice (some ⟨gD, 0, none⟩) nd c0) from by
        have hb7 := HBK.out.1.butG hB (by omega)
        have ht7 := (HT3.out.butG hB (by omega)).far (g := gD) (j := j) (u := .int .i64 x) hneD
        have hjd : j < doms.length := by rw [HND.out]; exact hj
        exact ⟨⟨_, hb7.at_ j (hcur j _ (List.getElem?_eq_getElem hjd))⟩, hb7.frozen j, ht7.at_ 0 rfl⟩))
    clear hblk k1 k2 k3 hcur
    go_wp2_with fail
    go_region_held3 (fun w' => w'.cell? ⟨w1.heap.size, 0, none⟩ = some (.slice (some ⟨gD, 0, none⟩) nd c0))
      (first | with_reducible exact hS0 | with_reducible exact hSA | with_reducible assumption | exact hSA)
      (first
        | (go_at_call 66
           first
             | (refine (pick base g n c (q + 1) A bs nd w3.drew hrd (by omega)).mono ?_
                rintro e W6 ⟨r1, rfl, ⟨-, hr⟩, hd6, hb6⟩
                have hB6 := hbd.go hb6
                have hS6 := hS _ hB6
                have hBL : ButG g w3.heap.size w3 (W6.alloc (.cells #[.int .i64 (-1), .int .i64 64, .int .i64 0] 3)) := hB6.go (below_butG (b_alloc _ _) g)
                have hSL := hS _ hBL
                have hzW := hB6.size
                have hdL : Rd (W6.alloc (.cells #[.int .i64 (-1), .int .i64 64, .int .i64 0] 3)) base g A n c bs (q + 1 + 1) := hd6.under (b_alloc _ _) (by omega)
                have hTl : TBlk 3 (W6.alloc (.cells #[.int .i64 (-1), .int .i64 64, .int .i64 0] 3)) W6.heap.size (ints [-1, 64, 0]) := TBlk.new _ _ _
                obtain ⟨r10, r11⟩ := hr (by omega)
                obtain ⟨j, rfl⟩ := Int.eq_ofNat_of_zero_le r10
                have hjn : j < nd := by omega
                clear hr r10)
             | (refine (pick base g n c (q + 1) A bs nd (w3.drew.alloc (.cells #[.int .i64 (-1), .int .i64 64, .int .i64 0] 3)) hrA (by omega)).mono ?_
                rintro e W6 ⟨r1, rfl, ⟨-, hr⟩, hd6, hb6⟩
                have hB6 := hbA.go hb6
                have hS6 := hS _ hB6
                have hzW := hB6.size
                have hTl := hTL.butG hb6 (show w3.heap.size ≠ g by omega)
                obtain ⟨r10, r11⟩ := hr (by omega)
                obtain ⟨j, rfl⟩ := Int.eq_ofNat_of_zero_le r10
                have hjn : j < nd := by omega
                clear hr r10))
        | (go_at_call 83
           first
             | (refine (one base g n c (q + 1 + 1) W6.heap.size 3 3 A bs [-1, 64, 0] (W6.alloc (.cells #[.int .i64 (-1), .int .i64 64, .int .i64 0] 3)) hdL (by omega) rfl (by omega) (by omega) (by omega) hTl.lt (fun i x hx => hTl.at_ i (ints_at hx))).mono ?_
                rintro e W7 ⟨x1, rfl, -, hd7, hb7⟩
                have hB7 := hBL.go hb7
                have hS7 := hS _ hB7
                obtain ⟨⟨z7, hz7⟩, hf7, hS8⟩ := KEY.out W7 j x1 hjn hB7)
             | (refine (one base g n c (q + 1 + 1) w3.heap.size 3 3 A bs [-1, 64, 0] W6 hd6 (by omega) rfl (by omega) (by omega) (by omega) hTl.lt (fun i x hx => hTl.at_ i (ints_at hx))).mono ?_
                rintro e W7 ⟨x1, rfl, -, hd7, hb7⟩
                have hB7 := hB6.go hb7
                have hS7 := hS _ hB7
                obtain ⟨⟨z7, hz7⟩, hf7, hS8⟩ := KEY.out W7 j x1 hjn hB7)))
    all_goals
      have hBk := HBK.out.1.butG hB7 (show gD ≠ g by omega)
      obtain ⟨ds', od, ld⟩ := (HBK.out.2.1.butG hB7 (by omega)).any (j := j) x1 hBk
      obtain ⟨cs', oc, lc, sc⟩ := (OwnCons.butG HBK.out.2.2 hB7 (by omega)).any (j := j) x1 hBk
      have TZ := (HT3.out.butG hB7 (show w1.heap.size ≠ g by omega)).far (g := gD) (j := j) (u := .int .i64 x1) hneD
      have hneR : w.heap.size ≠ gD := HR3.out.ne HBK.out.1 (by decide)
      have RZ := (HR3.out.butG hB7 (show w.heap.size ≠ g by have := hG.out; omega)).far (g := gD) (j := j) (u := .int .i64 x1) hneR
      have BZ := (HB3.out.go hB7).setHi (b := gD) (by omega) j (.int .i64 x1)
      have DZ := hd7.set (b := gD) (by omega) j (.int .i64 x1)
      have SZ := Lib.hid (show 1 ≤ (Mod.mk ds' cs').doms.length ∧ (Mod.mk ds' cs').doms.length ≤ 4 ∧ (Mod.mk ds' cs').cons.length ≤ 4 ∧ ∀ k ∈ (Mod.mk ds' cs').cons, SmD k from ⟨by show 1 ≤ ds'.length; rw [ld, HND.out]; exact hm1, by show ds'.length ≤ 4; rw [ld, HND.out]; exact hm4, by show cs'.length ≤ 4; rw [lc, HNC.out]; exact hmc, sc (fun k hk => (HSM.out k hk).1.d)⟩)
      have HALL := Lib.hid (And.intro (And.intro TZ RZ) (And.intro (And.intro od oc) (And.intro BZ DZ)))
      obtain ⟨wz, hwz⟩ : ∃ wz, W7.setCell ⟨gD, j, none⟩ (.int .i64 x1) = wz := ⟨_, rfl⟩
      rw [hwz] at HALL ⊢
      clear hwz TZ RZ od oc BZ DZ hBk hb7 hd7 hB7 hS7 hS8 hz7 hf7 hS0 hSA hd6 hb6 hB6 hS6 hTl
      have x0 := (HALL.out.1.1).at_ 0 rfl
      have x1 := (HALL.out.1.1).at_ 1 rfl
      have y0 := (HALL.out.1.2).at_ 0 rfl
      have y1 := (HALL.out.1.2).at_ 1 rfl
      have f0 := (HALL.out.1.2).frozen 0
      have f1 := (HALL.out.1.2).frozen 1
      obtain ⟨wf, hwf⟩ : ∃ wf, wf = (wz.setCell ⟨w.heap.size, 0, none⟩ (.slice (some ⟨gD, 0, none⟩) nd c0)).setCell ⟨w.heap.size, 1, none⟩ (.slice Ac nc cc) := ⟨_, rfl⟩
      have HF := Lib.hid (OwnMod.laid2 (show OwnMod wz wa.heap.size (.agg #[.slice (some ⟨gD, 0, none⟩) nd c0, .slice Ac nc cc]) ⟨ds', cs'⟩ from ⟨_, _, rfl, HALL.out.2.1.1, HALL.out.2.1.2⟩) (HALL.out.1.2) rfl HALL.out.2.2.2 hG.out (Nat.le_refl _) HALL.out.2.2.1 hwf)
      have HWF := Lib.hid hwf
      clear hwf
      go_wp2_with fail
      rw [← HWF.out]
      obtain ⟨⟨t0, t1⟩, ho, hrd, hbf⟩ := HF.out
      refine bodyPost_ret (v := .agg #[.slice (some ⟨gD, 0, none⟩) nd c0, .slice Ac nc cc]) ?_ rfl ?_
      · simp [results, Try.results41, go_sem, t0, t1]
      · exact ⟨[.slice (some ⟨gD, 0, none⟩) nd c0, .slice Ac nc cc], rfl, _, OwnMod.base_ ho (by omega), SZ.out, _, by omega, hrd, hbf⟩
  have n0 : (r == 0) = false := by simpa using h0
  by_cases h1 : r = 1
  · subst h1
    by_cases hnc0 : 0 < nc
    · obtain ⟨a, b, ev, k1, k2⟩ := HO3.out
      injection ev with ev
      injection ev with ev
      injection ev with ea ev
      injection ev with eb
      subst ea eb
      have x1 := HT3.out.at_ 1 rfl
      have hncd : decide ((0 : Int) < (nc : Int)) = true := decide_eq_true (by omega)
      have HK1 := Lib.hid k1
      have HK2 := Lib.hid k2
      clear k1 k2
      go_wp2_with fail
      refine (pick base g n c (q + 1) A bs nc w3 hd3 (by omega)).mono ?_
      rintro e w4 ⟨r1, rfl, ⟨-, hr⟩, hd4, hb4⟩
      obtain ⟨r10, r11⟩ := hr (by omega)
      obtain ⟨i, rfl⟩ := Int.eq_ofNat_of_zero_le r10
      have hin : i < nc := by omega
      have hinz : (i : Int) < (nc : Int) := by omega
      have HT4 := Lib.hid (HT3.out.butG hb4 (by omega))
      have HR4 := Lib.hid (HR3.out.butG hb4 (by have := hG.out; omega))
      have hz4 := hb4.size
      have HB4 := Lib.hid (HB3.out.go hb4)
      have HI4 := Lib.hid (OwnI.butG HK1.out hb4 (by omega))
      have hc4 := OwnCons.butG HK2.out hb4 (by omega)
      obtain ⟨gC, rfl, hgC, us, kk, hkk, hul, hcs, hfz, hou⟩ := OwnCons.elem hc4 (i := i) (by rw [HNC.out]; exact hin)
      have HC4 := Lib.hid hc4
      obtain ⟨vv, av, rv, eu, o1, o2, o3⟩ := hou
      obtain ⟨A1, c1, rfl, -⟩ := o1.read
      obtain ⟨A2, c2, rfl, -⟩ := o2.read
      obtain ⟨A3, c3, rfl, -⟩ := read2 o3
      obtain rfl : us = [.int .i64 kk.kind, .slice A1 kk.vars.length c1, .slice A2 kk.args.length c2, .int .i64 kk.bound, .slice A3 kk.rows.length c3] := by
        injection eu with eu
        exact List.toArray_inj eu
      have hsk := HSM.out kk (List.mem_of_getElem? hkk)
      have HSK := Lib.hid hsk
      have HU4 := Lib.hid (show OwnCon w4 wa.heap.size (.agg #[.int .i64 kk.kind, .slice A1 kk.vars.length c1, .slice A2 kk.args.length c2, .int .i64 kk.bound, .slice A3 kk.rows.length c3]) kk from ⟨_, _, _, rfl, o1, o2, o3⟩)
      have hwx : ∀ w' : World, ButG g w4.heap.size w4 w' → w'.cell? ⟨w1.heap.size, 1, none⟩ = some (.slice (some ⟨gC, 0, none⟩) nc cc) := fun w' h => (HT4.out.butG h (by omega)).at_ 1 rfl
      have hbd : ButG g w4.heap.size w4 w4.drew := below_butG (below_drewN (Below.refl _ _) 1) g
      have hx0 := hwx _ hbd
      have hx00 := hwx _ (ButG.refl _ _ _)
      have hrd : Rd w4.drew base g A n c bs (q + 1 + 1) := hd4.drewN 1
      have hUd : OwnCon w4.drew wa.heap.size (.agg #[.int .i64 kk.kind, .slice A1 kk.vars.length c1, .slice A2 kk.args.length c2, .int .i64 kk.bound, .slice A3 kk.rows.length c3]) kk := OwnCon.below HU4.out (below_drewN (Below.refl _ _) 1)
      have z0 : w4.drew.cell? ⟨gC, i * 5, none⟩ = some _ := hcs 0 _ rfl
      have z1 : w4.drew.cell? ⟨gC, i * 5 + 1, none⟩ = some _ := hcs 1 _ rfl
      have z2 : w4.drew.cell? ⟨gC, i * 5 + 2, none⟩ = some _ := hcs 2 _ rfl
      have z3 : w4.drew.cell? ⟨gC, i * 5 + 3, none⟩ = some _ := hcs 3 _ rfl
      have z4 : w4.drew.cell? ⟨gC, i * 5 + 4, none⟩ = some _ := hcs 4 _ rfl
      have KEY := Lib.hid (fun (W6 : World) (hB : ButG g w4.heap.size w4 W6) => OwnCons.elem (OwnCons.butG HC4.out hB (by omega)) (i := i) (by rw [HNC.out]; exact hin))
      have hzd : w4.drew.heap.size = w4.heap.size := rfl
      clear o1 o2 o3 hr r10 hcs hfz hkk hul hc4 x1 hsk
      go_wp2_with fail
      go_region_law (first
        | (go_simp
           go_at_call 84
           refine (damage base g n c (q + 1 + 1) wa.heap.size A bs _ kk w4.drew hrd (by omega) hUd (by omega) (by omega) HSK.out.2 HSK.out.1.1 HSK.out.1.2.1).mono ?_
           rintro e W6 ⟨v', k', q', rfl, ho', hn', hq', hr6, hb6⟩
           have hB6 := hbd.go hb6
           have hx6 := hwx _ hB6
           obtain ⟨vv', av', rv', rfl, k1, k2, k3⟩ := ho'
           obtain ⟨A1', c1', rfl, -⟩ := k1.read
           obtain ⟨A2', c2', rfl, -⟩ := k2.read
           obtain ⟨A3', c3', rfl, -⟩ := read2 k3
           obtain ⟨gX, eX, -, us6, kk6, -, hul6, hcs6, hfz6, -⟩ := KEY.out W6 hB6
           injection eX with eX
           injection eX with eX
           subst eX
           obtain ⟨u0, u1, u2, u3, u4, rfl⟩ : ∃ u0 u1 u2 u3 u4, us6 = [u0, u1, u2, u3, u4] := by
             match us6, hul6 with
             | [u0, u1, u2, u3, u4], _ => exact ⟨u0, u1, u2, u3, u4, rfl⟩
           have p0 : W6.cell? ⟨gC, i * 5, none⟩ = some u0 := hcs6 0 _ rfl
           have p1 : W6.cell? ⟨gC, i * 5 + 1, none⟩ = some u1 := hcs6 1 _ rfl
           have p2 : W6.cell? ⟨gC, i * 5 + 2, none⟩ = some u2 := hcs6 2 _ rfl
           have p3 : W6.cell? ⟨gC, i * 5 + 3, none⟩ = some u3 := hcs6 3 _ rfl
           have p4 : W6.cell? ⟨gC, i * 5 + 4, none⟩ = some u4 := hcs6 4 _ rfl
           have f0 := hfz6 (i * 5)
           have f1 := hfz6 (i * 5 + 1)
           have f2 := hfz6 (i * 5 + 2)
           have f3 := hfz6 (i * 5 + 3)
           have f4 := hfz6 (i * 5 + 4)
           clear hcs6 hfz6))
      all_goals
        obtain ⟨wz, hwz⟩ : ∃ wz, wz = ((((W6.setCell ⟨gC, i * 5, none⟩ (.int .i64 k'.kind)).setCell ⟨gC, i * 5 + 1, none⟩ (.slice A1' k'.vars.length c1')).setCell ⟨gC, i * 5 + 2, none⟩ (.slice A2' k'.args.length c2')).setCell ⟨gC, i * 5 + 3, none⟩ (.int .i64 k'.bound)).setCell ⟨gC, i * 5 + 4, none⟩ (.slice A3' k'.rows.length c3') := ⟨_, rfl⟩
        have HALL := Lib.hid (OwnMod.putCon (HI4.out.butG hB6 (by omega)) (OwnCons.butG HC4.out hB6 (by omega)) HNC.out hin hgC (show OwnConU W6 wa.heap.size [.int .i64 k'.kind, .slice A1' k'.vars.length c1', .slice A2' k'.args.length c2', .int .i64 k'.bound, .slice A3' k'.rows.length c3'] k' from ⟨_, _, _, rfl, k1, k2, k3⟩) (HT4.out.butG hB6 (show w1.heap.size ≠ g by omega)) (HR4.out.butG hB6 (show w.heap.size ≠ g by have := hG.out; omega)) hr6 (by omega) (HB4.out.go hB6) (by omega) hwz)
        have SZ := Lib.hid (show 1 ≤ (Mod.mk doms (cons.set i k')).doms.length ∧ (Mod.mk doms (cons.set i k')).doms.length ≤ 4 ∧ (Mod.mk doms (cons.set i k')).cons.length ≤ 4 ∧ ∀ k ∈ (Mod.mk doms (cons.set i k')).cons, SmD k from ⟨by show 1 ≤ doms.length; rw [HND.out]; exact hm1, by show doms.length ≤ 4; rw [HND.out]; exact hm4, by show (cons.set i k').length ≤ 4; rw [List.length_set, HNC.out]; exact hmc, fun k hk => by
          rcases List.mem_or_eq_of_mem_set hk with h | h
          · exact (HSM.out k h).1.d
          · rw [h]; exact HSK.out.1.near hn'⟩)
        rw [← hwz]
        clear hwz k1 k2 k3 hr6 hB6 hb6 hx6 hx0 hx00 hUd z0 z1 z2 z3 z4 p0 p1 p2 p3 p4 f0 f1 f2 f3 f4 hwx hn' hul6 hrd hd4 hb4
        have x0 := (HALL.out.1).at_ 0 rfl
        have x1 := (HALL.out.1).at_ 1 rfl
        have y0 := (HALL.out.2.1).at_ 0 rfl
        have y1 := (HALL.out.2.1).at_ 1 rfl
        have f0 := (HALL.out.2.1).frozen 0
        have f1 := (HALL.out.2.1).frozen 1
        obtain ⟨wf, hwf⟩ : ∃ wf, wf = (wz.setCell ⟨w.heap.size, 0, none⟩ (.slice A0 nd c0)).setCell ⟨w.heap.size, 1, none⟩ (.slice (some ⟨gC, 0, none⟩) nc cc) := ⟨_, rfl⟩
        have HF := Lib.hid (OwnMod.laid2 (HALL.out.2.2.1) (HALL.out.2.1) rfl HALL.out.2.2.2.1 hG.out (Nat.le_refl _) HALL.out.2.2.2.2 hwf)
        have HWF := Lib.hid hwf
        clear hwf
        go_wp2_with fail
        rw [← HWF.out]
        obtain ⟨⟨t0, t1⟩, ho, hrd, hbf⟩ := HF.out
        refine bodyPost_ret (v := .agg #[.slice A0 nd c0, .slice (some ⟨gC, 0, none⟩) nc cc]) ?_ rfl ?_
        · simp [results, Try.results41, go_sem, t0, t1]
        · exact ⟨[.slice A0 nd c0, .slice (some ⟨gC, 0, none⟩) nc cc], rfl, _, OwnMod.base_ ho (by omega), SZ.out, _, by omega, hrd, hbf⟩
    · obtain rfl : nc = 0 := by omega
      have hncd : decide ((0 : Int) < ((0 : Nat) : Int)) = false := by decide
      have x0 := (HT3.out).at_ 0 rfl
      have x1 := (HT3.out).at_ 1 rfl
      have y0 := (HR3.out).at_ 0 rfl
      have y1 := (HR3.out).at_ 1 rfl
      have f0 := (HR3.out).frozen 0
      have f1 := (HR3.out).frozen 1
      obtain ⟨wf, hwf⟩ : ∃ wf, wf = (w3.setCell ⟨w.heap.size, 0, none⟩ (.slice A0 nd c0)).setCell ⟨w.heap.size, 1, none⟩ (.slice Ac 0 cc) := ⟨_, rfl⟩
      have HF := Lib.hid (OwnMod.laid2 (HO3.out) (HR3.out) rfl hd3 hG.out (Nat.le_refl _) HB3.out hwf)
      have HWF := Lib.hid hwf
      clear hwf
      go_wp2_with fail
      rw [← HWF.out]
      obtain ⟨⟨t0, t1⟩, ho, hrd, hbf⟩ := HF.out
      refine bodyPost_ret (v := .agg #[.slice A0 nd c0, .slice Ac 0 cc]) ?_ rfl ?_
      · simp [results, Try.results41, go_sem, t0, t1]
      · exact ⟨[.slice A0 nd c0, .slice Ac 0 cc], _, _, rfl, OwnMod.base_ ho (by omega), hSZ.out, by omega, hrd, hbf⟩
  have n1 : (r == 1) = false := by simpa using h1
  have x0 := (HT3.out).at_ 0 rfl
  have x1 := (HT3.out).at_ 1 rfl
  have y0 := (HR3.out).at_ 0 rfl
  have y1 := (HR3.out).at_ 1 rfl
  have f0 := (HR3.out).frozen 0
  have f1 := (HR3.out).frozen 1
  obtain ⟨wf, hwf⟩ : ∃ wf, wf = (w3.setCell ⟨w.heap.size, 0, none⟩ (.slice A0 nd c0)).setCell ⟨w.heap.size, 1, none⟩ (.slice Ac nc cc) := ⟨_, rfl⟩
  have HF := Lib.hid (OwnMod.laid2 (HO3.out) (HR3.out) rfl hd3 hG.out (Nat.le_refl _) HB3.out hwf)
  have HWF := Lib.hid hwf
  clear hwf
  go_wp2_with fail
  rw [← HWF.out]
  obtain ⟨⟨t0, t1⟩, ho, hrd, hbf⟩ := HF.out
  refine bodyPost_ret (v := .agg #[.slice A0 nd c0, .slice Ac nc cc]) ?_ rfl ?_
  · simp [results, Try.results41, go_sem, t0, t1]
  · exact ⟨[.slice A0 nd c0, .slice Ac nc cc], _, _, rfl, OwnMod.base_ ho (by omega), hSZ.out, by omega, hrd, hbf⟩

end Go.Proofs.Ytejfnkbdmlijbaa
/- What is drawn: a model and a constraint; a model. -/
namespace Go.Proofs.Ytejfnkbdmlijbaa
open Go.ChangeShapes Go.WideShapes Go.ChangeAt Go.RowKit
open Go.Shelf
set_option linter.unusedVariables false
set_option linter.unusedSimpArgs false
set_option maxRecDepth 100000

theorem OwnMod.butG {w w' : World} {base g : Nat} {v : Value} {m : Mod} (h : OwnMod w base v m) (hb : ButG g w.heap.size w w') (hg : g < base) : OwnMod w' base v m := by
  obtain ⟨a, b, e, k1, k2⟩ := h
  exact ⟨a, b, e, OwnI.butG k1 hb hg, OwnCons.butG k2 hb hg⟩
theorem OwnCon.butG {w w' : World} {base g : Nat} {v : Value} {k : Con} (h : OwnCon w base v k) (hb : ButG g w.heap.size w w') (hg : g < base) : OwnCon w' base v k := by
  obtain ⟨vv, av, rv, e, k1, k2, k3⟩ := h
  exact ⟨vv, av, rv, e, OwnI.butG k1 hb hg, OwnI.butG k2 hb hg, OwnRows.butG k3 hb hg⟩
/-- a small model. -/
def SzM (m : Mod) : Prop := 1 ≤ m.doms.length ∧ m.doms.length ≤ 4 ∧ m.cons.length ≤ 4 ∧ ∀ k ∈ m.cons, SmD k
theorem SzM.sm {m : Mod} (h : SzM m) : SmMod m := ⟨by have := h.2.1; unfold Sm1; omega, by have := h.2.2.1; omega, fun k hk => (h.2.2.2 k hk).con⟩
/-- five cells of one box. -/
theorem butG_set5 (w : World) (R B : Nat) (x0 x1 x2 x3 x4 : Value) : ButG R B w (((((w.setCell ⟨R, 0, none⟩ x0).setCell ⟨R, 1, none⟩ x1).setCell ⟨R, 2, none⟩ x2).setCell ⟨R, 3, none⟩ x3).setCell ⟨R, 4, none⟩ x4) :=
  ((((ButG.set R B 0 w x0).trans (ButG.set R B 1 _ x1)).trans (ButG.set R B 2 _ x2)).trans (ButG.set R B 3 _ x3)).trans (ButG.set R B 4 _ x4)
theorem butG_set2 (w : World) (R B : Nat) (x0 x1 : Value) : ButG R B w ((w.setCell ⟨R, 0, none⟩ x0).setCell ⟨R, 1, none⟩ x1) := (ButG.set R B 0 w x0).trans (ButG.set R B 1 _ x1)
theorem TBlk.laid5 {w : World} {R : Nat} {x0 x1 x2 x3 x4 z0 z1 z2 z3 z4 : Value} (h : TBlk 35 w R #[z0, z1, z2, z3, z4]) : TBlk 35 (((((w.setCell ⟨R, 0, none⟩ x0).setCell ⟨R, 1, none⟩ x1).setCell ⟨R, 2, none⟩ x2).setCell ⟨R, 3, none⟩ x3).setCell ⟨R, 4, none⟩ x4) R #[x0, x1, x2, x3, x4] :=
  ((((h.store 0 x0).store 1 x1).store 2 x2).store 3 x3).store 4 x4
theorem TBlk.laid2 {t : TypeId} {w : World} {R : Nat} {x0 x1 z0 z1 : Value} (h : TBlk t w R #[z0, z1]) : TBlk t ((w.setCell ⟨R, 0, none⟩ x0).setCell ⟨R, 1, none⟩ x1) R #[x0, x1] := (h.store 0 x0).store 1 x1
set_option maxHeartbeats 4000000 in
theorem drawPropagate (A : Option Addr) (n c : Nat) (bs : List Int) (w : World) (h : CodeA w w.heap.size A n c bs) :
    Calls Try.prog 34 #[.slice A n c] w fun e w' => ∃ (vs : List Value) (m : Mod), e = .returned (.agg vs.toArray) ∧ OwnMod w' w.heap.size (.agg vs.toArray) m ∧ SzM m ∧ Below w.heap.size w w' := by
  obtain ⟨wa, hwa⟩ : ∃ wa, wa = w.alloc (.cells #[.slice none 0 0, .slice none 0 0] 26) := ⟨_, rfl⟩
  have hba : Below w.heap.size w wa := by rw [hwa]; exact b_alloc _ _
  have hza : wa.heap.size = w.heap.size + 1 := by rw [hwa, size_alloc_]
  have HT : Hid (TBlk 26 wa w.heap.size #[.slice none 0 0, .slice none 0 0]) := by rw [hwa]; exact TBlk.new _ _ _
  have HN := newReader A n c bs wa ⟨SlA.on ByteC.keeps ByteC.widens h.1 hba, h.2⟩
  have HBA := Lib.hid hba
  clear h hba
  go_enter Try.func34, Try.ntmps34
  go_wp2_with fail
  rw [← hwa]
  clear hwa
  refine HN.mono ?_
  rintro e w1 ⟨g, m, c', bs', rfl, hr, hb1, hg⟩
  have hbase := hr.base_le
  have HT1 := Lib.hid (HT.out.below_ hb1 HT.out.lt)
  have hz1 := hb1.size
  go_wp2_with fail
  refine (anyModel _ g m c' 0 A bs' w1 hr (by omega)).mono ?_
  rintro e w6 ⟨vs, md, q, rfl, ho, hsz, hq, hr6, hb6⟩
  have hB6 : Below w.heap.size w w6 := (bgo HBA.out hb1).trans ((hb6.below hbase hb1.size).mono (by omega))
  have HT6 := HT1.out.butG hb6 (by omega)
  obtain ⟨dv, cv, ev, o1, o2⟩ := ho
  obtain rfl : vs = [dv, cv] := by
    injection ev with ev
    exact List.toArray_inj ev
  obtain ⟨A0, c0, rfl, -⟩ := o1.read
  obtain ⟨Ac, cc, rfl⟩ := OwnK.form o2
  obtain ⟨nd, hnd⟩ : ∃ nd, md.doms.length = nd := ⟨_, rfl⟩
  obtain ⟨nc, hnc⟩ : ∃ nc, md.cons.length = nc := ⟨_, rfl⟩
  rw [hnd] at o1 ⊢
  rw [hnc] at o2 ⊢
  clear hnd hnc
  have y0 := HT6.at_ 0 rfl
  have y1 := HT6.at_ 1 rfl
  have f0 := HT6.frozen 0
  have f1 := HT6.frozen 1
  obtain ⟨wf, hwf⟩ : ∃ wf, wf = (w6.setCell ⟨w.heap.size, 0, none⟩ (.slice A0 nd c0)).setCell ⟨w.heap.size, 1, none⟩ (.slice Ac nc cc) := ⟨_, rfl⟩
  have hq1 : ButG w.heap.size w6.heap.size w6 wf := by rw [hwf]; exact butG_set2 _ _ _ _ _
  have hTF : TBlk 26 wf w.heap.size #[.slice A0 nd c0, .slice Ac nc cc] := by rw [hwf]; exact TBlk.laid2 HT6
  have hBF : Below w.heap.size w wf := by rw [hwf]; exact (hB6.setCell (p := ⟨w.heap.size, 0, none⟩) (Nat.le_refl _) _).setCell (p := ⟨w.heap.size, 1, none⟩) (Nat.le_refl _) _
  have HF := Lib.hid (And.intro (OwnMod.butG (show OwnMod w6 w1.heap.size (.agg #[.slice A0 nd c0, .slice Ac nc cc]) md from ⟨_, _, rfl, o1, o2⟩) hq1 (by omega)) (And.intro hBF hwf))
  have t0 := hTF.at_ 0 rfl
  have t1 := hTF.at_ 1 rfl
  clear hq1 hTF hBF hwf o1 o2 HT6 hB6 hb6 hr6
  go_wp2_with fail
  rw [← HF.out.2.2]
  refine bodyPost_ret (v := .agg #[.slice A0 nd c0, .slice Ac nc cc]) ?_ rfl ?_
  · simp [results, Try.results34, go_sem, t0, t1]
  · exact ⟨[.slice A0 nd c0, .slice Ac nc cc], _, rfl, OwnMod.base_ HF.out.1 (by omega), hsz, HF.out.2.1⟩
set_option maxHeartbeats 6000000 in
theorem drawWithConstraint (A : Option Addr) (n c : Nat) (bs : List Int) (w : World) (h : CodeA w w.heap.size A n c bs) :
    Calls Try.prog 14 #[.slice A n c] w fun e w' => ∃ (vs us : List Value) (m : Mod) (k : Con), e = .returned (.tuple #[.agg vs.toArray, .agg us.toArray]) ∧ OwnMod w' w.heap.size (.agg vs.toArray) m ∧ OwnCon w' w.heap.size (.agg us.toArray) k ∧ SzM m ∧ SmD k ∧ Below w.heap.size w w' := by
  obtain ⟨wa, hwa⟩ : ∃ wa, wa = (w.alloc (.cells #[.slice none 0 0, .slice none 0 0] 26)).alloc (.cells #[.int .i64 0, .slice none 0 0, .slice none 0 0, .int .i64 0, .slice none 0 0] 35) := ⟨_, rfl⟩
  have hba : Below w.heap.size w wa := by rw [hwa]; exact b_alloc2 _ _ _
  have hza : wa.heap.size = w.heap.size + 1 + 1 := by rw [hwa, size_alloc_, size_alloc_]
  have HT : Hid (TBlk 26 wa w.heap.size #[.slice none 0 0, .slice none 0 0]) := by rw [hwa]; exact Lib.hid ((TBlk.new _ _ _).alloc_ _)
  have HC : Hid (TBlk 35 wa (w.heap.size + 1) #[.int .i64 0, .slice none 0 0, .slice none 0 0, .int .i64 0, .slice none 0 0]) := by rw [hwa]; exact Lib.hid (TBlk.newAt (by simp))
  have HN := newReader A n c bs wa ⟨SlA.on ByteC.keeps ByteC.widens h.1 hba, h.2⟩
  have HBA := Lib.hid hba
  clear h hba
  go_enter Try.func14, Try.ntmps14
  go_wp2_with fail
  rw [← hwa]
  clear hwa
  refine HN.mono ?_
  rintro e w1 ⟨g, m, c', bs', rfl, hr, hb1, hg⟩
  have hbase := hr.base_le
  have HT1 := Lib.hid (HT.out.below_ hb1 HT.out.lt)
  have HC1 := Lib.hid (HC.out.below_ hb1 HC.out.lt)
  have hz1 := hb1.size
  have HB1 := Lib.hid (bgo HBA.out hb1)
  clear hb1 HT HC HBA
  go_wp2_with fail
  refine (anyModel _ g m c' 0 A bs' w1 hr (by omega)).mono ?_
  rintro e w2 ⟨vs, md, q, rfl, ho, hsz, hq, hr2, hb2⟩
  have HB2 := Lib.hid (HB1.out.trans ((hb2.below hbase hz1).mono (by omega)))
  have HT2 := HT1.out.butG hb2 (by omega)
  have HC2 := HC1.out.butG hb2 (by omega)
  have hz2 := hb2.size
  obtain ⟨dv, cv, ev, o1, o2⟩ := ho
  obtain rfl : vs = [dv, cv] := by
    injection ev with ev
    exact List.toArray_inj ev
  obtain ⟨A0, c0, rfl, -⟩ := o1.read
  obtain ⟨Ac, cc, rfl⟩ := OwnK.form o2
  obtain ⟨nd, hnd⟩ : ∃ nd, md.doms.length = nd := ⟨_, rfl⟩
  obtain ⟨nc, hnc⟩ : ∃ nc, md.cons.length = nc := ⟨_, rfl⟩
  rw [hnd] at o1 ⊢
  rw [hnc] at o2 ⊢
  have hd1 : 1 ≤ nd := by rw [← hnd]; exact hsz.1
  have hd4 : nd ≤ 4 := by rw [← hnd]; exact hsz.2.1
  clear hnd hnc
  obtain ⟨w3, hw3⟩ : ∃ w3, w2.alloc (.cells #[.slice A0 nd c0, .slice Ac nc cc] 26) = w3 := ⟨_, rfl⟩
  have hb3 : Below w2.heap.size w2 w3 := by rw [← hw3]; exact b_alloc _ _
  have hz3 : w3.heap.size = w2.heap.size + 1 := by rw [← hw3, size_alloc_]
  have HM3 : Hid (TBlk 26 w3 w2.heap.size #[.slice A0 nd c0, .slice Ac nc cc]) := by rw [← hw3]; exact TBlk.new _ _ _
  have HO3 := Lib.hid (OwnMod.below (show OwnMod w2 w1.heap.size (.agg #[.slice A0 nd c0, .slice Ac nc cc]) md from ⟨_, _, rfl, o1, o2⟩) hb3)
  have HT3 := Lib.hid (HT2.below_ hb3 HT2.lt)
  have HC3 := Lib.hid (HC2.below_ hb3 HC2.lt)
  have hr3 := hr2.under hb3 (by omega)
  have HB3 := Lib.hid (HB2.out.trans (hb3.mono (by omega)))
  clear o1 o2 HT2 HC2 hr2 hb2 hb3 HB2 HB1 HT1 HC1
  have hS : ∀ w', ButG g w3.heap.size w3 w' → w'.cell? ⟨w2.heap.size, 0, none⟩ = some (.slice A0 nd c0) ∧ w'.cell? ⟨w2.heap.size, 1, none⟩ = some (.slice Ac nc cc) := fun w' h => by
    have t := HM3.out.butG h (by omega)
    exact ⟨t.at_ 0 rfl, t.at_ 1 rfl⟩
  have hbd : ButG g w3.heap.size w3 w3.drew := below_butG (below_drewN (Below.refl _ _) 1) g
  have hS0 := hS _ hbd
  have hrd : Rd w3.drew wa.heap.size g A m c' bs' q := hr3.drewN 1
  have hzd : w3.drew.heap.size = w3.heap.size := rfl
  go_wp2_with fail
  clear hw3
  go_region_held3 (fun w' => w'.cell? ⟨w2.heap.size, 0, none⟩ = some (.slice A0 nd c0) ∧ w'.cell? ⟨w2.heap.size, 1, none⟩ = some (.slice Ac nc cc))
    (first | with_reducible exact hS0 | with_reducible assumption)
    (first
      | (go_at_call 51
         refine (anyConstraint wa.heap.size g m c' q A bs' nd w3.drew hrd (by omega) hd1 hd4).mono ?_
         rintro e W6 ⟨vk, kc, q6, rfl, hoc, hsm, hq6, hr6, hbq⟩
         have hb6 := hbd.go hbq
         have hS6 := hS _ hb6
         obtain ⟨vv', av', rv', rfl, k1, k2, k3⟩ := hoc
         obtain ⟨A1', c1', rfl, -⟩ := k1.read
         obtain ⟨A2', c2', rfl, -⟩ := k2.read
         obtain ⟨A3', c3', rfl, -⟩ := read2 k3
         have HT6 := HT3.out.butG hb6 (show w.heap.size ≠ g by omega)
         have HC6 := HC3.out.butG hb6 (show w.heap.size + 1 ≠ g by omega)
         have HM6 := HM3.out.butG hb6 (show w2.heap.size ≠ g by omega)
         have y0 := HT6.at_ 0 rfl
         have y1 := HT6.at_ 1 rfl
         have f0 := HT6.frozen 0
         have f1 := HT6.frozen 1
         obtain ⟨W7, hW7⟩ : ∃ W7, (W6.setCell ⟨w.heap.size, 0, none⟩ (.slice A0 nd c0)).setCell ⟨w.heap.size, 1, none⟩ (.slice Ac nc cc) = W7 := ⟨_, rfl⟩
         have hq7 : ButG w.heap.size W6.heap.size W6 W7 := by rw [← hW7]; exact butG_set2 _ _ _ _ _
         have hT7 : TBlk 26 W7 w.heap.size #[.slice A0 nd c0, .slice Ac nc cc] := by rw [← hW7]; exact TBlk.laid2 HT6
         have hC7 := HC6.butG hq7 (show w.heap.size + 1 ≠ w.heap.size by omega)
         have hM7 := HM6.butG hq7 (show w2.heap.size ≠ w.heap.size by omega)
         have hS7 : W7.cell? ⟨w2.heap.size, 0, none⟩ = some (.slice A0 nd c0) ∧ W7.cell? ⟨w2.heap.size, 1, none⟩ = some (.slice Ac nc cc) := ⟨hM7.at_ 0 rfl, hM7.at_ 1 rfl⟩
         have z0 := hC7.at_ 0 rfl
         have z1 := hC7.at_ 1 rfl
         have z2 := hC7.at_ 2 rfl
         have z3 := hC7.at_ 3 rfl
         have z4 := hC7.at_ 4 rfl
         have e0 := hC7.frozen 0
         have e1 := hC7.frozen 1
         have e2 := hC7.frozen 2
         have e3 := hC7.frozen 3
         have e4 := hC7.frozen 4
         obtain ⟨W8, hW8⟩ : ∃ W8, ((((W7.setCell ⟨w.heap.size + 1, 0, none⟩ (.int .i64 kc.kind)).setCell ⟨w.heap.size + 1, 1, none⟩ (.slice A1' kc.vars.length c1')).setCell ⟨w.heap.size + 1, 2, none⟩ (.slice A2' kc.args.length c2')).setCell ⟨w.heap.size + 1, 3, none⟩ (.int .i64 kc.bound)).setCell ⟨w.heap.size + 1, 4, none⟩ (.slice A3' kc.rows.length c3') = W8 := ⟨_, rfl⟩
         have hq8 : ButG (w.heap.size + 1) W7.heap.size W7 W8 := by rw [← hW8]; exact butG_set5 _ _ _ _ _ _ _ _
         have hM8 := hM7.butG hq8 (show w2.heap.size ≠ w.heap.size + 1 by omega)
         have hS8 : W8.cell? ⟨w2.heap.size, 0, none⟩ = some (.slice A0 nd c0) ∧ W8.cell? ⟨w2.heap.size, 1, none⟩ = some (.slice Ac nc cc) := ⟨hM8.at_ 0 rfl, hM8.at_ 1 rfl⟩
         have hC8 : TBlk 35 W8 (w.heap.size + 1) #[.int .i64 kc.kind, .slice A1' kc.vars.length c1', .slice A2' kc.args.length c2', .int .i64 kc.bound, .slice A3' kc.rows.length c3'] := by rw [← hW8]; exact TBlk.laid5 hC7
         have hT8 := hT7.butG hq8 (show w.heap.size ≠ w.heap.size + 1 by omega)
         have zz6 := hb6.size))
  all_goals
    have OM := ((HO3.out.butG hb6 (by omega)).butG hq7 (show w.heap.size < w1.heap.size by omega)).butG hq8 (show w.heap.size + 1 < w1.heap.size by omega)
    have OC := (OwnCon.butG (OwnCon.butG (show OwnCon W6 w3.drew.heap.size (.agg #[.int .i64 kc.kind, .slice A1' kc.vars.length c1', .slice A2' kc.args.length c2', .int .i64 kc.bound, .slice A3' kc.rows.length c3']) kc from ⟨_, _, _, rfl, k1, k2, k3⟩) hq7 (by omega)) hq8 (by omega))
    have BF : Below w.heap.size w W8 := ((HB3.out.trans ((hb6.below (show w.heap.size ≤ g by omega) (by omega)).mono (Nat.le_refl _))).trans (hq7.below (Nat.le_refl _) (by omega))).trans (hq8.below (by omega) (by have := hq7.size; omega))
    have t0 := hT8.at_ 0 rfl
    have t1 := hT8.at_ 1 rfl
    have t2 := hC8.at_ 0 rfl
    have t3 := hC8.at_ 1 rfl
    have t4 := hC8.at_ 2 rfl
    have t5 := hC8.at_ 3 rfl
    have t6 := hC8.at_ 4 rfl
    have HALL := Lib.hid (And.intro OM (And.intro OC (And.intro BF (And.intro hsz hsm))))
    go_wp2_with fail
    refine bodyPost_ret (v := .tuple #[.agg #[.slice A0 nd c0, .slice Ac nc cc], .agg #[.int .i64 kc.kind, .slice A1' kc.vars.length c1', .slice A2' kc.args.length c2', .int .i64 kc.bound, .slice A3' kc.rows.length c3']]) ?_ rfl ?_
    · simp [results, Try.results14, go_sem, t0, t1, t2, t3, t4, t5, t6]
    · first
        | exact ⟨[.slice A0 nd c0, .slice Ac nc cc], [.int .i64 kc.kind, .slice A1' kc.vars.length c1', .slice A2' kc.args.length c2', .int .i64 kc.bound, .slice A3' kc.rows.length c3'], md, kc, rfl, OwnMod.base_ HALL.out.1 (by omega), OwnCon.base_ HALL.out.2.1 (by omega), HALL.out.2.2.2.1, HALL.out.2.2.2.2, HALL.out.2.2.1⟩
        | exact ⟨[.slice A0 nd c0, .slice Ac nc cc], [.int .i64 kc.kind, .slice A1' kc.vars.length c1', .slice A2' kc.args.length c2', .int .i64 kc.bound, .slice A3' kc.rows.length c3'], rfl, md, OwnMod.base_ HALL.out.1 (by omega), kc, OwnCon.base_ HALL.out.2.1 (by omega), HALL.out.2.2.2.1, HALL.out.2.2.2.2, HALL.out.2.2.1⟩
end Go.Proofs.Ytejfnkbdmlijbaa
/- Solutions of a model, by the reference. -/
namespace Go.Proofs.Ytejfnkbdmlijbaa
open Go.ChangeShapes Go.WideShapes Go.ChangeAt Go.RowKit
open Go.Shelf
set_option linter.unusedVariables false
set_option maxRecDepth 100000

def sdomsF (m : Mod) (xs : List Int) : Bool := (List.range xs.length).all fun i => dhB (gat m.doms i) (gat xs i)
def ssolF (m : Mod) (xs : List Int) : Bool := sdomsF m xs && m.cons.all fun c => holdF c xs
theorem all_range {p : Int → Bool} {xs : List Int} : ((List.range xs.length).all fun i => p (gat xs i)) = xs.all p := by
  cases h : xs.all p
  · obtain ⟨x, hx, hp⟩ := List.all_eq_false.1 h
    obtain ⟨i, hi⟩ := List.mem_iff_getElem?.1 hx
    refine all_range_no (i := i) (List.getElem?_eq_some_iff.1 hi).1 ?_
    rw [gat_eq hi]; simpa using hp
  · rw [List.all_eq_true] at h ⊢
    intro i hi
    exact h _ (gat_in (List.mem_range.1 hi))
theorem sdoms_eq (m : Mod) (xs : List Int) : sdomsF m xs = ((xs.all fun x => inB x 0 5) && domsF m xs) := by
  unfold sdomsF domsF
  rw [← all_range (p := fun x => inB x 0 5)]
  cases h : (List.range xs.length).all fun i => inB (gat xs i) 0 5
  · rw [Bool.false_and]
    obtain ⟨i, hi, hp⟩ := List.all_eq_false.1 h
    exact all_range_no (List.mem_range.1 hi) (by unfold dhB; rw [show inB (gat xs i) 0 5 = false by simpa using hp]; rfl)
  · rw [Bool.true_and]
    rw [List.all_eq_true] at h
    cases h2 : (List.range xs.length).all fun i => hasB (gat m.doms i) (gat xs i)
    · obtain ⟨i, hi, hp⟩ := List.all_eq_false.1 h2
      exact all_range_no (List.mem_range.1 hi) (by unfold dhB; rw [show hasB (gat m.doms i) (gat xs i) = false by simpa using hp, Bool.and_false])
    · rw [List.all_eq_true] at h2 ⊢
      intro i hi
      unfold dhB
      rw [h i hi, h2 i hi]; rfl
theorem sdoms_vals {m : Mod} {xs : List Int} (h : sdomsF m xs = true) : ∀ v ∈ xs, 0 ≤ v ∧ v ≤ 5 := by
  rw [sdoms_eq, Bool.and_eq_true, List.all_eq_true] at h
  exact fun v hv => inB_true (h.1 v hv)
theorem sisF (m : Mod) (xs : List Int) : (vmodF m && (((xs.length : Int) == (m.doms.length : Int)) && ssolF m xs)) = isF m xs := by
  unfold isF ssolF isolF asgF
  rw [sdoms_eq]
  simp only [Bool.and_assoc]
theorem sdomainHas_b (d v : Int) (h0 : 0 ≤ d) (w : World) (b : Bool) (hb : dhB d v = b) :
    Calls Try.prog 90 #[.int .i64 d, .int .i64 v] w fun e w' => e = .returned (.bool b) ∧ w = w' := by
  subst hb; exact sdomainHas d v h0 w
set_option maxHeartbeats 8000000 in
theorem sisSolution (us : List Value) (m : Mod) (A : Option Addr) (n d : Nat) (xs : List Int) (w : World) (h : ModR w w.heap.size us m) (hx : IntR w w.heap.size A n xs) (hm : ModOk m) (hn : n = m.doms.length) :
    Calls Try.prog 46 #[.agg us.toArray, .slice A n d] w fun e w' => e = .returned (.bool (ssolF m xs)) ∧ Below w.heap.size w w' := by
  obtain ⟨da, ca, cd, cc, rfl, g1, g2, -⟩ := h
  rw [← hn] at g1
  rw [← hn]
  obtain ⟨wa, hwa⟩ : ∃ wa, wa = w.alloc (.cells #[.slice da n cd, .slice ca m.cons.length cc] 26) := ⟨_, rfl⟩
  have hb0 : Below w.heap.size w wa := by rw [hwa]; exact b_alloc _ _
  have hsz : wa.heap.size = w.heap.size + 1 := by rw [hwa, size_alloc_]
  have ha : TBlk 26 wa w.heap.size #[.slice da n cd, .slice ca m.cons.length cc] := by rw [hwa]; exact TBlk.new _ _ _
  have HA := Lib.hid ha
  have G1 := Lib.hid (IntR.on g1 hb0)
  have G2 := Lib.hid (ConsR.on g2 hb0)
  have GX := Lib.hid (IntR.on hx hb0)
  have hle := hx.le
  have hnc := g2.le
  have hl := Lib.hid hx.len
  have HM := Lib.hid hm
  have HN := Lib.hid hn
  have hn4 : n ≤ 4 := by rw [hn]; exact hm.four
  clear ha g1 g2 hx hm hn
  go_enter Try.func46, Try.ntmps46
  go_wp2_with fail
  rw [← hwa]
  clear hwa
  go_loopw [5] (fun i wr => ∃ k : Nat, k ≤ n ∧ i = .int .i64 k ∧ Hid (UpTo (fun i => dhB (gat m.doms i) (gat xs i)) k) ∧ Below wa.heap.size wa wr) (fun i _ => n - (intOf i).toNat)
  case atStart => exact ⟨0, by omega, rfl, UpTo.zero _, Below.refl _ _⟩
  case round =>
    obtain ⟨k, hk, rfl, hq, hb⟩ := hrel
    have a0 : wr.cell? ⟨w.heap.size, 0, none⟩ = some (.slice da n cd) := (HA.out.below_ hb (by omega)).at_ 0 rfl
    have a1 : wr.cell? ⟨w.heap.size, 1, none⟩ = some (.slice ca m.cons.length cc) := (HA.out.below_ hb (by omega)).at_ 1 rfl
    by_cases hlt : k < n
    · obtain ⟨xb, xo, x, rfl, hxb, hxk, hcx⟩ := IntR.at_ (GX.out.below IntC.keeps hb) hlt
      obtain ⟨db, do_, dm, rfl, hdb, hdk, hcd⟩ := IntR.at_ (G1.out.below IntC.keeps hb) hlt
      have HX := Lib.hid (gat_eq hxk)
      have HD := Lib.hid (gat_eq hdk)
      have HD0 := Lib.hid (HM.out.doms dm (List.mem_of_getElem? hdk))
      clear hxk hdk
      have hz := hb.size
      have p0 : ∀ p : Later wr, p.val.cell? ⟨w.heap.size, 0, none⟩ = some (.slice (some ⟨db, do_, none⟩) n cd) := fun p => p.cell (by omega) a0
      have q0 : ∀ p : Later wr, p.val.cell? ⟨xb, xo + k, none⟩ = some (.int .i64 x) := fun p => p.cell (by omega) hcx
      have r0 : ∀ p : Later wr, p.val.cell? ⟨db, do_ + k, none⟩ = some (.int .i64 dm) := fun p => p.cell (by omega) hcd
      cases t1 : dhB dm x
      · have T1 := Lib.hid t1
        clear t1
        go_wp2_with fail
        refine wp_region_later (by kernel_rfl) (by kernel_rfl) ?_
        repeat (go_big_quiet_step (first | (go_at_call 90; exact calls_later_same (sdomainHas_b _ _ HD0.out.1 _ _ T1.out))))
        refine wpQuiet_nil ?_
        intro w5 hw'
        obtain ⟨⟨w6, hb5⟩, hw''⟩ := hw'
        subst hw''
        have HE := Lib.hid (show ssolF m xs = false by
          unfold ssolF sdomsF
          rw [all_range_no (i := k) (by rw [hl.out]; exact hlt) (by rw [HX.out, HD.out]; exact T1.out)]; rfl)
        go_wp2_with fail
        go_ret
        exact ⟨ret_bool HE.out.symm, bgo hb0 (bgo hb hb5)⟩
      · have T1 := Lib.hid t1
        clear t1
        go_wp2_with fail
        refine wp_region_later (by kernel_rfl) (by kernel_rfl) ?_
        repeat (go_big_quiet_step (first | (go_at_call 90; exact calls_later_same (sdomainHas_b _ _ HD0.out.1 _ _ T1.out))))
        refine wpQuiet_nil ?_
        intro w5 hw'
        obtain ⟨⟨w6, hb5⟩, hw''⟩ := hw'
        subst hw''
        go_wp2_with fail
        go_roundw
        case rel => exact ⟨k + 1, by omega, by go_num, UpTo.succ hq.out (by rw [HX.out, HD.out]; exact T1.out), bgo hb hb5⟩
        case measure => simp [intOf]; omega
    · obtain rfl : k = n := by omega
      have hsd : sdomsF m xs = true := by
        unfold sdomsF
        rw [hl.out]; exact UpTo.done hq.out
      have HSD := Lib.hid hsd
      have HV := Lib.hid (sdoms_vals hsd)
      clear hsd hq a0
      rename World => wo
      have HB := Lib.hid hb
      go_wp2_with fail
      go_loopw [6] (fun i wr => ∃ j : Nat, j ≤ m.cons.length ∧ i = .int .i64 j ∧ Hid (AllB (fun c => holdF c xs) m.cons j) ∧ Below wa.heap.size wa wr) (fun i _ => m.cons.length - (intOf i).toNat)
      case atStart => exact ⟨0, by omega, rfl, AllB.zero _ _, hb⟩
      case round =>
        obtain ⟨j, hj, rfl, hq, hX⟩ := hrel
        have a1 : wr.cell? ⟨w.heap.size, 1, none⟩ = some (.slice ca m.cons.length cc) := (HA.out.below_ hX (by omega)).at_ 1 rfl
        by_cases hlt2 : j < m.cons.length
        · obtain ⟨ab, ao, c, va, aa, ra, cv, ca', cr, rfl, hab, hxk, c0, c1, c2, c3, c4, hc⟩ := ConR.at_ (SlK.below ConR.keeps G2.out hX) hlt2
          have HXK := Lib.hid hxk
          have HVC := Lib.hid (HM.out.cons c (List.mem_of_getElem? hxk))
          have HC := Lib.hid (ConR.widens _ _ _ _ _ hX.size hc)
          have hz := hX.size
          clear hxk hc
          have hS : ∀ w', Below wr.heap.size wr w' → (w'.cell? ⟨w.heap.size, 1, none⟩ = some (.slice (some ⟨ab, ao, none⟩) m.cons.length cc) ∧ w'.cell? ⟨ab, ao + j * 5, none⟩ = some (.int .i64 c.kind) ∧ w'.cell? ⟨ab, ao + j * 5 + 1, none⟩ = some (.slice va c.vars.length cv) ∧ w'.cell? ⟨ab, ao + j * 5 + 2, none⟩ = some (.slice aa c.args.length ca') ∧ w'.cell? ⟨ab, ao + j * 5 + 3, none⟩ = some (.int .i64 c.bound) ∧ w'.cell? ⟨ab, ao + j * 5 + 4, none⟩ = some (.slice ra c.rows.length cr)) := by
            intro w' h
            have hab2 : ab < wr.heap.size := by omega
            exact ⟨(HA.out.below_ (bgo hX h) (by omega)).at_ 1 rfl, (h.cell (p := ⟨ab, _, none⟩) hab2).trans c0, (h.cell (p := ⟨ab, _, none⟩) hab2).trans c1, (h.cell (p := ⟨ab, _, none⟩) hab2).trans c2, (h.cell (p := ⟨ab, _, none⟩) hab2).trans c3, (h.cell (p := ⟨ab, _, none⟩) hab2).trans c4⟩
          have hbd : Below wr.heap.size wr wr.drew := below_drewN (Below.refl _ _) 1
          have hS0 := hS _ hbd
          have hok := Lib.hid (SatOk.of (by rw [← HN.out] at HVC; exact HVC.out) hn4 hl.out HV.out)
          obtain ⟨q1, q2, q3⟩ := vcon_vars (by rw [← HN.out] at HVC; exact HVC.out) hn4
          have Q1 := Lib.hid q1
          have Q2 := Lib.hid q2
          clear q1 q2 q3 c0 c1 c2 c3 c4
          cases t1 : holdF c xs
          · have T1 := Lib.hid t1
            clear t1
            go_wp2_with fail
            go_region_held3 (fun w' => w'.cell? ⟨w.heap.size, 1, none⟩ = some (.slice (some ⟨ab, ao, none⟩) m.cons.length cc) ∧ w'.cell? ⟨ab, ao + j * 5, none⟩ = some (.int .i64 c.kind) ∧ w'.cell? ⟨ab, ao + j * 5 + 1, none⟩ = some (.slice va c.vars.length cv) ∧ w'.cell? ⟨ab, ao + j * 5 + 2, none⟩ = some (.slice aa c.args.length ca') ∧ w'.cell? ⟨ab, ao + j * 5 + 3, none⟩ = some (.int .i64 c.bound) ∧ w'.cell? ⟨ab, ao + j * 5 + 4, none⟩ = some (.slice ra c.rows.length cr))
              (first | exact hS0 | exact hS _ hb8 | exact hS _ hb9)
              (first
                | (go_at_call 92
                   refine (sproject _ c _ _ _ xs _ (ConR.on HC.out hbd) (IntR.on (IntR.on GX.out hX) hbd) Q2.out (by have := Q1.out; omega)).mono ?_
                   rintro e Wq ⟨v, rfl, ow, hBq⟩
                   obtain ⟨B2, d2, rfl, rw2, -⟩ := IntR.of_own ow.1 ow.2
                   have hb8 := bgo hbd hBq
                   clear hBq ow)
                | (go_at_call 91
                   refine (ssatisfies _ c _ _ _ (wordF c.vars xs) _ (ConR.on HC.out hb8) rw2 hok.out).mono ?_
                   rintro e W9 ⟨rfl, hBq⟩
                   have hb9 := bgo hb8 hBq
                   have T2 : satF c (wordF c.vars xs) = false := T1.out
                   clear hBq))
            have HE := Lib.hid (show ssolF m xs = false by unfold ssolF; rw [all_no (f := fun c => holdF c xs) HXK.out T1.out]; simp)
            go_wp2_with fail
            go_ret
            exact ⟨ret_bool HE.out.symm, bgo hb0 (bgo hX hb9)⟩
          · have T1 := Lib.hid t1
            clear t1
            go_wp2_with fail
            go_region_held3 (fun w' => w'.cell? ⟨w.heap.size, 1, none⟩ = some (.slice (some ⟨ab, ao, none⟩) m.cons.length cc) ∧ w'.cell? ⟨ab, ao + j * 5, none⟩ = some (.int .i64 c.kind) ∧ w'.cell? ⟨ab, ao + j * 5 + 1, none⟩ = some (.slice va c.vars.length cv) ∧ w'.cell? ⟨ab, ao + j * 5 + 2, none⟩ = some (.slice aa c.args.length ca') ∧ w'.cell? ⟨ab, ao + j * 5 + 3, none⟩ = some (.int .i64 c.bound) ∧ w'.cell? ⟨ab, ao + j * 5 + 4, none⟩ = some (.slice ra c.rows.length cr))
              (first | exact hS0 | exact hS _ hb8 | exact hS _ hb9)
              (first
                | (go_at_call 92
                   refine (sproject _ c _ _ _ xs _ (ConR.on HC.out hbd) (IntR.on (IntR.on GX.out hX) hbd) Q2.out (by have := Q1.out; omega)).mono ?_
                   rintro e Wq ⟨v, rfl, ow, hBq⟩
                   obtain ⟨B2, d2, rfl, rw2, -⟩ := IntR.of_own ow.1 ow.2
                   have hb8 := bgo hbd hBq
                   clear hBq ow)
                | (go_at_call 91
                   refine (ssatisfies _ c _ _ _ (wordF c.vars xs) _ (ConR.on HC.out hb8) rw2 hok.out).mono ?_
                   rintro e W9 ⟨rfl, hBq⟩
                   have hb9 := bgo hb8 hBq
                   have T2 : satF c (wordF c.vars xs) = true := T1.out
                   clear hBq))
            go_wp2_with fail
            go_roundw
            case rel => exact ⟨j + 1, by omega, by go_num, AllB.succ hq.out HXK.out T1.out, bgo hX hb9⟩
            case measure => simp [intOf]; omega
        · obtain rfl : j = m.cons.length := by omega
          have HE := Lib.hid (show ssolF m xs = true by unfold ssolF; rw [HSD.out, AllB.done hq.out (Nat.le_refl _)]; rfl)
          go_wp2_with fail
          go_ret
          exact ⟨ret_bool HE.out.symm, bgo hb0 hX⟩
set_option maxHeartbeats 4000000 in
theorem sIsSolution (us : List Value) (m : Mod) (A : Option Addr) (n d : Nat) (xs : List Int) (w : World) (h : ModR w w.heap.size us m) (hx : IntR w w.heap.size A n xs) :
    Calls Try.prog 12 #[.agg us.toArray, .slice A n d] w fun e w' => e = .returned (.bool (isF m xs)) ∧ Below w.heap.size w w' := by
  have H0 := Lib.hid h
  obtain ⟨da, ca, cd, cc, rfl, -⟩ := h
  obtain ⟨wa, hwa⟩ : ∃ wa, wa = w.alloc (.cells #[.slice da m.doms.length cd, .slice ca m.cons.length cc] 26) := ⟨_, rfl⟩
  have hb0 : Below w.heap.size w wa := by rw [hwa]; exact b_alloc _ _
  have hsz : wa.heap.size = w.heap.size + 1 := by rw [hwa, size_alloc_]
  have ha : TBlk 26 wa w.heap.size #[.slice da m.doms.length cd, .slice ca m.cons.length cc] := by rw [hwa]; exact TBlk.new _ _ _
  have HA := Lib.hid ha
  have G0 := Lib.hid (ModR.on H0.out hb0)
  have GX := Lib.hid (IntR.on hx hb0)
  have hl := Lib.hid hx.len
  have a0 : wa.cell? ⟨w.heap.size, 0, none⟩ = some (.slice da m.doms.length cd) := ha.at_ 0 rfl
  have a1 : wa.cell? ⟨w.heap.size, 1, none⟩ = some (.slice ca m.cons.length cc) := ha.at_ 1 rfl
  clear ha hx
  go_enter Try.func12, Try.ntmps12
  go_wp2_with fail
  rw [← hwa]
  clear hwa
  refine (svalidModel _ m _ G0.out).mono ?_
  rintro e w1 ⟨rfl, hb1⟩
  have a0 : w1.cell? ⟨w.heap.size, 0, none⟩ = some (.slice da m.doms.length cd) := (HA.out.below_ hb1 (by omega)).at_ 0 rfl
  have a1 : w1.cell? ⟨w.heap.size, 1, none⟩ = some (.slice ca m.cons.length cc) := (HA.out.below_ hb1 (by omega)).at_ 1 rfl
  cases t0 : vmodF m
  · have HE := Lib.hid (show isF m xs = false by unfold isF; rw [t0]; rfl)
    clear t0
    go_wp2_with fail
    go_ret
    exact ⟨ret_bool HE.out.symm, bgo hb0 hb1⟩
  have T0 := Lib.hid t0
  clear t0
  cases t1 : ((n : Int) == (m.doms.length : Int))
  · have HE := Lib.hid (show isF m xs = false by rw [← sisF, hl.out, t1]; simp)
    go_wp2_with fail
    go_ret
    exact ⟨ret_bool HE.out.symm, bgo hb0 hb1⟩
  have hnm : n = m.doms.length := by have := beq_iff_eq.1 t1; omega
  have HE := Lib.hid (show isF m xs = ssolF m xs by rw [← sisF, T0.out, hl.out, t1]; rfl)
  have HNM := Lib.hid hnm
  clear hnm
  go_wp2_with fail
  refine (sisSolution _ m _ _ _ xs _ (ModR.on G0.out hb1) (IntR.on GX.out hb1) (ModOk.of T0.out) HNM.out).mono ?_
  rintro e w3 ⟨rfl, hb3⟩
  clear t1
  go_wp2_with fail
  go_ret
  exact ⟨ret_bool HE.out.symm, bgo hb0 (bgo hb1 hb3)⟩
end Go.Proofs.Ytejfnkbdmlijbaa
/- spec's solve; what is drawn for IsSolution. -/
namespace Go.Proofs.Ytejfnkbdmlijbaa
open Go.ChangeShapes Go.WideShapes Go.ChangeAt Go.RowKit
open Go.Shelf
set_option linter.unusedVariables false
set_option linter.unusedSimpArgs false
set_option maxRecDepth 100000

set_option maxHeartbeats 2000000 in
theorem ssolve (us : List Value) (m : Mod) (lim : Nat) (w : World) (h : ModR w w.heap.size us m) (hm : ModOk m) (hl0 : 0 < lim) (hl1 : lim ≤ 1000) :
    Calls Try.prog 85 #[.agg us.toArray, .int .i64 lim] w fun e w' => ∃ (fv : Value) (rows : List (List Int)) (no : Int), e = .returned (.tuple #[fv, .int .i64 no]) ∧ OwnOf 23 (OwnI 3) w' w.heap.size fv rows ∧ RowsN m.doms.length rows ∧ rows.length ≤ lim ∧ Below w.heap.size w w' := by
  obtain ⟨da, ca, cd, cc, rfl, g1, g2, -⟩ := id h
  obtain ⟨wa, hwa⟩ : ∃ wa, wa = w.alloc (.cells #[.slice da m.doms.length cd, .slice ca m.cons.length cc] 26) := ⟨_, rfl⟩
  have hb0 : Below w.heap.size w wa := by rw [hwa]; exact b_alloc _ _
  have ha : TBlk 26 wa w.heap.size #[.slice da m.doms.length cd, .slice ca m.cons.length cc] := by rw [hwa]; exact TBlk.new _ _ _
  obtain ⟨wf, hwf⟩ : ∃ wf, wf = wa.alloc (.cells #[.slice da m.doms.length cd, .slice ca m.cons.length cc, .int .i64 lim, .int .i64 0, .slice none 0 0] 116) := ⟨_, rfl⟩
  have hb1 : Below wa.heap.size wa wf := by rw [hwf]; exact b_alloc _ _
  have hbf : TBlk 116 wf wa.heap.size #[.slice da m.doms.length cd, .slice ca m.cons.length cc, .int .i64 lim, .int .i64 0, .slice none 0 0] := by rw [hwf]; exact TBlk.new _ _ _
  have hza : wa.heap.size = w.heap.size + 1 := by rw [hwa, size_alloc_]
  have hFd : Fd wa wf (w.heap.size + 1) m.cons.length m.doms.length lim m da ca cd cc 0 none 0 [] := ⟨hb1, by rw [← hza]; exact hbf, OwnRows.nil0 _ _, fun x hx => by simp at hx⟩
  have HI := Lib.hid (sbranch (w.heap.size + 1) m.cons.length m.doms.length lim m da ca cd cc wa (ModR.on h hb0) hm.one hm.four hm.six hm.cons (by omega) hl1 (card m.doms + 1) m.doms da cd wf 0 none 0 [] (by omega) (.inl (IntR.on g1 hb0)) hm.doms hFd hl0)
  have a0 := (ha.below_ hb1 ha.lt).at_ 0 rfl
  have HB0 := Lib.hid hb0
  clear h hm g1 g2 hb1 hbf hFd ha hb0 hza
  generalize m.doms.length = nd at HI a0 hwa hwf ⊢
  generalize m.cons.length = nc at HI a0 hwa hwf
  go_enter Try.func85, Try.ntmps85
  go_wp2_with fail
  rw [← hwa, ← hwf]
  clear hwa hwf
  refine HI.out.mono ?_
  rintro e w3 ⟨⟨v, rfl⟩, no, fa, fc, rows, hF, hr, -, -⟩
  have y3 := hF.blk.at_ 3 rfl
  have y4 := hF.blk.at_ 4 rfl
  have HF := Lib.hid hF
  clear hF a0 HI
  go_wp2_with fail
  go_quiet (fail)
  go_wp2_with fail
  have hbq : Below w3.heap.size w3 (w3.drewN nq) := below_drewN (Below.refl _ _) nq
  refine bodyPost_ret (v := .tuple #[.slice fa rows.length fc, .int .i64 no]) ?_ rfl ?_
  · simp [results, Try.results85, go_sem]
  · exact ⟨_, rows, no, rfl, (OwnOf.stays (OwnI.stays 3)).base _ _ _ _ _ HB0.out.size ((OwnOf.stays (OwnI.stays 3)).below _ _ _ _ _ hbq HF.out.own), HF.out.rowsn, hr, bgo HB0.out (HF.out.below.trans (hbq.mono HF.out.below.size))⟩
set_option maxHeartbeats 4000000 in
theorem assignment (base g nb cb p B : Nat) (A : Option Addr) (bs : List Int) (us : List Value) (m : Mod) (w : World) (h : Rd w base g A nb cb bs p) (hp : p ≤ 800000) (ho : OwnMod w B (.agg us.toArray) m) (hB : B ≤ w.heap.size) (hgB : g < B) (hsz : SzM m) :
    Calls Try.prog 42 #[.pointer (some ⟨g, 0, none⟩), .agg us.toArray] w fun e w' => ∃ (v : Value) (xs : List Int) (q : Nat), e = .returned v ∧ OwnI 3 w' w.heap.size v xs ∧ xs.length ≤ 5 ∧ q ≤ p + 20 ∧ Rd w' base g A nb cb bs q ∧ ButG g w.heap.size w w' := by
  obtain ⟨i0, hi0, hz0, hz1, hz2'⟩ := info_parts info_int
  obtain ⟨us', e1, hmr⟩ := OwnMod.read ho
  obtain rfl : us = us' := by injection e1 with e1; exact List.toArray_inj e1
  obtain ⟨Ad, Ac, cd, cc, rfl, -⟩ := id hmr
  have HSZ := Lib.hid hsz
  obtain ⟨nd, hnd⟩ : ∃ nd, m.doms.length = nd := ⟨_, rfl⟩
  have HND := Lib.hid hnd
  have hnd1 : 1 ≤ nd := by rw [← hnd]; exact hsz.1
  have hnd4 : nd ≤ 4 := by rw [← hnd]; exact hsz.2.1
  obtain ⟨wa, hwa⟩ : ∃ wa, wa = w.alloc (.cells #[.slice Ad m.doms.length cd, .slice Ac m.cons.length cc] 26) := ⟨_, rfl⟩
  have hb0 : Below w.heap.size w wa := by rw [hwa]; exact b_alloc _ _
  have hza : wa.heap.size = w.heap.size + 1 := by rw [hwa, size_alloc_]
  have ha : TBlk 26 wa w.heap.size #[.slice Ad m.doms.length cd, .slice Ac m.cons.length cc] := by rw [hwa]; exact TBlk.new _ _ _
  rw [hnd] at ha hwa ho ⊢
  have HOA := Lib.hid (OwnMod.below ho hb0)
  have HT := Lib.hid ha
  have HD := Lib.hid (h.under hb0 (by omega))
  have HBA := Lib.hid (below_butG hb0 g)
  have x0 := ha.at_ 0 rfl
  have x1 := ha.at_ 1 rfl
  obtain ⟨us2, e2, hmr2⟩ := OwnMod.read HOA.out
  obtain rfl : us2 = [.slice Ad nd cd, .slice Ac m.cons.length cc] := by injection e2 with e2; exact (List.toArray_inj e2).symm
  have HMR := Lib.hid hmr2
  clear h ho hb0 ha hsz e1 e2 hmr hmr2 hnd
  go_enter Try.func42, Try.ntmps42
  go_wp2_with fail
  rw [← hwa]
  clear hwa
  refine (svalidModel _ m wa HMR.out).mono ?_
  rintro e w1 ⟨rfl, hb1⟩
  have HT1 := Lib.hid (HT.out.below_ hb1 HT.out.lt)
  have HO1 := Lib.hid (OwnMod.below HOA.out hb1)
  have HD1 := Lib.hid (HD.out.under hb1 (by omega))
  have HB1 := Lib.hid (HBA.out.go (below_butG hb1 g))
  have hz1' := hb1.size
  clear x0 x1 hb1 HT HOA HD HBA HMR
  cases tv : vmodF m
  · clear tv
    have t45 := (HT1.out).at_ 0 rfl
    go_wp2_with fail
    refine (randomRow base g nb cb p A bs nd w1 HD1.out (by omega) (by omega)).mono ?_
    rintro e v1 ⟨vx, xs, rfl, -, hxl, -, hox, hdx, hbx⟩
    have hbx2 := (HB1.out).go hbx
    have HOX := Lib.hid hox
    have HXL := Lib.hid hxl
    have hzx := hbx2.size
    have hzx2 := hbx.size
    clear hox hxl hbx t45
    go_wp2_with fail
    refine (pick base g nb cb (p + nd) A bs 14 v1 hdx (by omega)).mono ?_
    rintro e v2 ⟨rz, rfl, -, hd2, hb2⟩
    have HOX2 := Lib.hid (own_butG HOX.out hb2 (by omega))
    have hb3 := hbx2.go hb2
    have hz2 := hb2.size
    clear hb2 hbx2 HOX hdx
    by_cases hrz : rz = 0
    · subst hrz
      have hTl : TBlk 3 (v2.alloc (.cells #[.int .i64 0, .int .i64 6] 3)) v2.heap.size (ints [0, 6]) := TBlk.new _ _ _
      have hdl : Rd (v2.alloc (.cells #[.int .i64 0, .int .i64 6] 3)) base g A nb cb bs (p + nd + 1) := hd2.under (b_alloc _ _) (by omega)
      go_wp2_with fail
      refine (one base g nb cb (p + nd + 1) v2.heap.size 2 2 A bs [0, 6] _ hdl (by omega) rfl (by omega) (by omega) (by omega) hTl.lt (fun i x hx => hTl.at_ i (ints_at hx))).mono ?_
      rintro e v3 ⟨y, rfl, -, hd3, hb4⟩
      have hb5 := hb3.go ((below_butG (b_alloc _ _) g).go hb4)
      have hz4 := hb4.size
      rw [size_alloc_] at hz4
      have ox3 := own_butG (own_below HOX2.out (b_alloc v2 (.cells #[.int .i64 0, .int .i64 6] 3))) hb4 (by omega)
      have HOX3 := Lib.hid ox3
      have hlt3 := ox3.lt
      have hsz3 := (show w1.heap.size ≤ v3.heap.size by omega)
      clear hb4 hTl hdl hd2 HOX2 hb3
      go_wp2_with (at_builtin; refine wpList_append_own _ rfl _ _ 23 rfl w1.heap.size 3 i0 _ 1 8 Try.underlying23 hi0 hz0 hz1 hz2' rfl (by decide) vx _ _ rfl (ox3.alloc _) ⟨v3.heap.size, 0, none⟩ 1 1 [.int .i64 y] rfl rfl (cell_one_new _ _ _) (by simp [Value.oneCell']) (by unfold maxLen; omega) (by omega) (by rw [size_alloc_]; omega) ?_; intro v4 w4 hown hgr _)
      have hbw : Below w1.heap.size v3 w4 := ((Below.refl _ _).alloc hsz3 _).grown hgr (by rw [size_alloc_]; omega) (fun g hg => (hlt3 g hg).1)
      have hown2 : w4.ownsRow w1.heap.size 3 1 v4 (nd + 1) ((xs ++ [y]).map (.int .i64)) := by simpa using hown
      have hll : (xs ++ [y]).length = nd + 1 := by rw [List.length_append, HXL.out]; rfl
      clear hown hgr
      go_ret
      exact ⟨v4, xs ++ [y], _, rfl, ⟨by rw [hll]; exact own_base hown2 (by omega), by rw [hll]; omega⟩, by rw [hll]; omega, by omega, hd3.under hbw (by omega), hb5.trans (below_butG (hbw.mono (by omega)) g)⟩
    have hrz2 : (rz == 0) = false := by simpa using hrz
    go_wp2_with fail
    go_ret
    exact ⟨vx, xs, _, rfl, ⟨by rw [HXL.out]; exact own_base HOX2.out (by omega), by rw [HXL.out]; omega⟩, by rw [HXL.out]; omega, by omega, hd2, hb3⟩
  have HMO := Lib.hid (ModOk.of tv)
  clear tv
  go_wp2_with fail
  refine (pick base g nb cb p A bs 3 w1 HD1.out (by omega)).mono ?_
  rintro e w2 ⟨r2, rfl, -, hd2, hb2⟩
  have HT2 := Lib.hid (HT1.out.butG hb2 (by omega))
  have HO2 := Lib.hid (OwnMod.butG HO1.out hb2 (by omega))
  have HB2 := Lib.hid (HB1.out.go hb2)
  have hz2 := hb2.size
  clear hb2 HT1 HO1 HD1 HB1
  by_cases hr2 : 0 < r2
  case neg =>
    have hr2' : decide (0 < r2) = false := decide_eq_false hr2
    clear hr2
    have t45 := (HT2.out).at_ 0 rfl
    go_wp2_with fail
    refine (randomRow base g nb cb (p + 1) A bs nd w2 hd2 (by omega) (by omega)).mono ?_
    rintro e v1 ⟨vx, xs, rfl, -, hxl, -, hox, hdx, hbx⟩
    have hbx2 := (HB2.out).go hbx
    have HOX := Lib.hid hox
    have HXL := Lib.hid hxl
    have hzx := hbx2.size
    have hzx2 := hbx.size
    clear hox hxl hbx t45
    go_wp2_with fail
    refine (pick base g nb cb ((p + 1) + nd) A bs 14 v1 hdx (by omega)).mono ?_
    rintro e v2 ⟨rz, rfl, -, hd2, hb2⟩
    have HOX2 := Lib.hid (own_butG HOX.out hb2 (by omega))
    have hb3 := hbx2.go hb2
    have hz2 := hb2.size
    clear hb2 hbx2 HOX hdx
    by_cases hrz : rz = 0
    · subst hrz
      have hTl : TBlk 3 (v2.alloc (.cells #[.int .i64 0, .int .i64 6] 3)) v2.heap.size (ints [0, 6]) := TBlk.new _ _ _
      have hdl : Rd (v2.alloc (.cells #[.int .i64 0, .int .i64 6] 3)) base g A nb cb bs ((p + 1) + nd + 1) := hd2.under (b_alloc _ _) (by omega)
      go_wp2_with fail
      refine (one base g nb cb ((p + 1) + nd + 1) v2.heap.size 2 2 A bs [0, 6] _ hdl (by omega) rfl (by omega) (by omega) (by omega) hTl.lt (fun i x hx => hTl.at_ i (ints_at hx))).mono ?_
      rintro e v3 ⟨y, rfl, -, hd3, hb4⟩
      have hb5 := hb3.go ((below_butG (b_alloc _ _) g).go hb4)
      have hz4 := hb4.size
      rw [size_alloc_] at hz4
      have ox3 := own_butG (own_below HOX2.out (b_alloc v2 (.cells #[.int .i64 0, .int .i64 6] 3))) hb4 (by omega)
      have HOX3 := Lib.hid ox3
      have hlt3 := ox3.lt
      have hsz3 := (show w2.heap.size ≤ v3.heap.size by omega)
      clear hb4 hTl hdl hd2 HOX2 hb3
      go_wp2_with (at_builtin; refine wpList_append_own _ rfl _ _ 23 rfl w2.heap.size 3 i0 _ 1 8 Try.underlying23 hi0 hz0 hz1 hz2' rfl (by decide) vx _ _ rfl (ox3.alloc _) ⟨v3.heap.size, 0, none⟩ 1 1 [.int .i64 y] rfl rfl (cell_one_new _ _ _) (by simp [Value.oneCell']) (by unfold maxLen; omega) (by omega) (by rw [size_alloc_]; omega) ?_; intro v4 w4 hown hgr _)
      have hbw : Below w2.heap.size v3 w4 := ((Below.refl _ _).alloc hsz3 _).grown hgr (by rw [size_alloc_]; omega) (fun g hg => (hlt3 g hg).1)
      have hown2 : w4.ownsRow w2.heap.size 3 1 v4 (nd + 1) ((xs ++ [y]).map (.int .i64)) := by simpa using hown
      have hll : (xs ++ [y]).length = nd + 1 := by rw [List.length_append, HXL.out]; rfl
      clear hown hgr
      go_ret
      exact ⟨v4, xs ++ [y], _, rfl, ⟨by rw [hll]; exact own_base hown2 (by omega), by rw [hll]; omega⟩, by rw [hll]; omega, by omega, hd3.under hbw (by omega), hb5.trans (below_butG (hbw.mono (by omega)) g)⟩
    have hrz2 : (rz == 0) = false := by simpa using hrz
    go_wp2_with fail
    go_ret
    exact ⟨vx, xs, _, rfl, ⟨by rw [HXL.out]; exact own_base HOX2.out (by omega), by rw [HXL.out]; omega⟩, by rw [HXL.out]; omega, by omega, hd2, hb3⟩
  have hr2' : decide (0 < r2) = true := decide_eq_true hr2
  clear hr2
  have x0 := HT2.out.at_ 0 rfl
  have x1 := HT2.out.at_ 1 rfl
  obtain ⟨us2, e2, hmr2⟩ := OwnMod.read HO2.out
  obtain rfl : us2 = [.slice Ad nd cd, .slice Ac m.cons.length cc] := by injection e2 with e2; exact (List.toArray_inj e2).symm
  have HMR2 := Lib.hid hmr2
  clear e2 hmr2
  go_wp2_with fail
  refine (ssolve _ m 8 w2 HMR2.out HMO.out (by omega) (by omega)).mono ?_
  rintro e w3 ⟨fv, rows, no, rfl, hro, hrn, hr8, hb3⟩
  have HT3 := Lib.hid (HT2.out.below_ hb3 HT2.out.lt)
  have HO3 := Lib.hid (OwnMod.below HO2.out hb3)
  have HD3 := Lib.hid (hd2.under hb3 (by omega))
  have HB3 := Lib.hid (HB2.out.go (below_butG hb3 g))
  have hz3 := hb3.size
  have HRO := Lib.hid hro
  have HRN := Lib.hid hrn
  obtain ⟨Af, cf, rfl⟩ := OwnOf.form hro
  obtain ⟨nr, hnr⟩ : ∃ nr, rows.length = nr := ⟨_, rfl⟩
  have HNR := Lib.hid hnr
  rw [hnr] at hr8 HRO ⊢
  clear x0 x1 hb3 HT2 HO2 HB2 hd2 hro hrn hnr HMR2
  by_cases hn0 : nr = 0
  · have hn1 : decide (0 < nr) = false := decide_eq_false (by omega)
    clear hn0
    have t45 := (HT3.out).at_ 0 rfl
    go_wp2_with fail
    refine (randomRow base g nb cb (p + 1) A bs nd w3 HD3.out (by omega) (by omega)).mono ?_
    rintro e v1 ⟨vx, xs, rfl, -, hxl, -, hox, hdx, hbx⟩
    have hbx2 := (HB3.out).go hbx
    have HOX := Lib.hid hox
    have HXL := Lib.hid hxl
    have hzx := hbx2.size
    have hzx2 := hbx.size
    clear hox hxl hbx t45
    go_wp2_with fail
    refine (pick base g nb cb ((p + 1) + nd) A bs 14 v1 hdx (by omega)).mono ?_
    rintro e v2 ⟨rz, rfl, -, hd2, hb2⟩
    have HOX2 := Lib.hid (own_butG HOX.out hb2 (by omega))
    have hb3 := hbx2.go hb2
    have hz2 := hb2.size
    clear hb2 hbx2 HOX hdx
    by_cases hrz : rz = 0
    · subst hrz
      have hTl : TBlk 3 (v2.alloc (.cells #[.int .i64 0, .int .i64 6] 3)) v2.heap.size (ints [0, 6]) := TBlk.new _ _ _
      have hdl : Rd (v2.alloc (.cells #[.int .i64 0, .int .i64 6] 3)) base g A nb cb bs ((p + 1) + nd + 1) := hd2.under (b_alloc _ _) (by omega)
      go_wp2_with fail
      refine (one base g nb cb ((p + 1) + nd + 1) v2.heap.size 2 2 A bs [0, 6] _ hdl (by omega) rfl (by omega) (by omega) (by omega) hTl.lt (fun i x hx => hTl.at_ i (ints_at hx))).mono ?_
      rintro e v3 ⟨y, rfl, -, hd3, hb4⟩
      have hb5 := hb3.go ((below_butG (b_alloc _ _) g).go hb4)
      have hz4 := hb4.size
      rw [size_alloc_] at hz4
      have ox3 := own_butG (own_below HOX2.out (b_alloc v2 (.cells #[.int .i64 0, .int .i64 6] 3))) hb4 (by omega)
      have HOX3 := Lib.hid ox3
      have hlt3 := ox3.lt
      have hsz3 := (show w3.heap.size ≤ v3.heap.size by omega)
      clear hb4 hTl hdl hd2 HOX2 hb3
      go_wp2_with (at_builtin; refine wpList_append_own _ rfl _ _ 23 rfl w3.heap.size 3 i0 _ 1 8 Try.underlying23 hi0 hz0 hz1 hz2' rfl (by decide) vx _ _ rfl (ox3.alloc _) ⟨v3.heap.size, 0, none⟩ 1 1 [.int .i64 y] rfl rfl (cell_one_new _ _ _) (by simp [Value.oneCell']) (by unfold maxLen; omega) (by omega) (by rw [size_alloc_]; omega) ?_; intro v4 w4 hown hgr _)
      have hbw : Below w3.heap.size v3 w4 := ((Below.refl _ _).alloc hsz3 _).grown hgr (by rw [size_alloc_]; omega) (fun g hg => (hlt3 g hg).1)
      have hown2 : w4.ownsRow w3.heap.size 3 1 v4 (nd + 1) ((xs ++ [y]).map (.int .i64)) := by simpa using hown
      have hll : (xs ++ [y]).length = nd + 1 := by rw [List.length_append, HXL.out]; rfl
      clear hown hgr
      go_ret
      exact ⟨v4, xs ++ [y], _, rfl, ⟨by rw [hll]; exact own_base hown2 (by omega), by rw [hll]; omega⟩, by rw [hll]; omega, by omega, hd3.under hbw (by omega), hb5.trans (below_butG (hbw.mono (by omega)) g)⟩
    have hrz2 : (rz == 0) = false := by simpa using hrz
    go_wp2_with fail
    go_ret
    exact ⟨vx, xs, _, rfl, ⟨by rw [HXL.out]; exact own_base HOX2.out (by omega), by rw [HXL.out]; omega⟩, by rw [HXL.out]; omega, by omega, hd2, hb3⟩
  have hn1 : decide (0 < nr) = true := decide_eq_true (by omega)
  go_wp2_with fail
  refine (pick base g nb cb (p + 1) A bs nr w3 HD3.out (by omega)).mono ?_
  rintro e w4 ⟨r4, rfl, ⟨-, hr⟩, hd4, hb4⟩
  obtain ⟨r40, r41⟩ := hr (by omega)
  obtain ⟨k, rfl⟩ := Int.eq_ofNat_of_zero_le r40
  have hkn : k < nr := by omega
  have hkn2 : (k : Int) < (nr : Int) := by omega
  have hz4 := hb4.size
  have HB4 := Lib.hid (HB3.out.go hb4)
  have hro4 := OwnRows.butG HRO.out hb4 (by omega)
  obtain ⟨us4, u1, u2, u3, u4⟩ := hro4
  have hk1 : k < rows.length := by rw [HNR.out]; exact hkn
  obtain ⟨gF, rfl, hgF⟩ : ∃ gF : Nat, Af = some ⟨gF, 0, none⟩ ∧ w2.heap.size ≤ gF := by
    rcases u2.2 with ⟨_, h6⟩ | ⟨gd, cap, cur, hv, hgd, -⟩
    · omega
    · injection hv with e1 _ _
      exact ⟨gd, e1, hgd⟩
  have hcl := u2.cells (g := gF) rfl k us4[k] (List.getElem?_eq_getElem (by omega))
  rw [add_own] at hcl
  have hou := u4 k _ _ (List.getElem?_eq_getElem (by omega)) (List.getElem?_eq_getElem hk1)
  have hrl := HRN.out _ (List.getElem_mem hk1)
  obtain ⟨zs, hzs⟩ : ∃ zs, rows[k] = zs := ⟨_, rfl⟩
  rw [hzs] at hou hrl
  rw [HND.out] at hrl
  obtain ⟨A4, c4, e4, ri4⟩ := hou.read
  rw [hrl] at e4 ri4
  rw [e4] at hcl
  have HRI4 := Lib.hid ri4
  have HHR := Lib.hid hr
  clear hr r40 u1 u2 u3 u4 hou e4 ri4 hb4 HD3 HT3 HO3 HRO hn0 hzs
  go_wp2_with fail
  refine (scopyRF _ _ _ zs w4 HRI4.out (by omega) (by omega)).mono ?_
  rintro e w5 ⟨v5, rfl, o5, hb5⟩
  have ow5 := o5.1
  rw [hrl] at ow5
  obtain ⟨g5, c5, rfl, hg5⟩ : ∃ g5 c5 : Nat, v5 = .slice (some ⟨g5, 0, none⟩) nd c5 ∧ w4.heap.size ≤ g5 := by
    rcases ow5.2 with ⟨_, h6⟩ | ⟨gd, cap, cur, hv, hgd, -⟩
    · omega
    · exact ⟨gd, cap, hv, hgd⟩
  have HO5 := Lib.hid ow5
  have HD5 := Lib.hid (hd4.under hb5 (by omega))
  have HB5 := Lib.hid (HB4.out.go (below_butG hb5 g))
  have hz5 := hb5.size
  have HZL := Lib.hid hrl
  clear o5 ow5 hb5 hd4 HB4 HRI4 hcl hrl
  go_wp2_with fail
  refine (pick base g nb cb (p + 1 + 1) A bs 3 w5 HD5.out (by omega)).mono ?_
  rintro e w6 ⟨r6, rfl, -, hd6, hb6⟩
  have HO6 := Lib.hid (own_butG HO5.out hb6 (by omega))
  have HB6 := Lib.hid (HB5.out.go hb6)
  have hz6 := hb6.size
  clear hb6 HO5 HD5 HB5
  by_cases hr6 : r6 = 0
  · subst hr6
    go_wp2_with fail
    refine (pick base g nb cb (p + 1 + 1 + 1) A bs nd w6 hd6 (by omega)).mono ?_
    rintro e w7 ⟨r7, rfl, ⟨-, hr⟩, hd7, hb7⟩
    obtain ⟨r70, r71⟩ := hr (by omega)
    obtain ⟨j, rfl⟩ := Int.eq_ofNat_of_zero_le r70
    have hjn : (j : Int) < (nd : Int) := by omega
    have HO7 := Lib.hid (own_butG HO6.out hb7 (by omega))
    have HB7 := Lib.hid (HB6.out.go hb7)
    have hz7 := hb7.size
    clear hr r70 hb7 HO6 HB6 hd6
    go_wp2_with fail
    refine (pick base g nb cb (p + 1 + 1 + 1 + 1) A bs 6 w7 hd7 (by omega)).mono ?_
    rintro e w8 ⟨y, rfl, -, hd8, hb8⟩
    have o8 := own_butG HO7.out hb8 (by omega)
    have HB8 := Lib.hid (HB7.out.go hb8)
    have hz8 := hb8.size
    have hjl : j < zs.length := by rw [HZL.out]; omega
    have hco := o8.cellAt j (by omega)
    rw [List.getElem?_map, List.getElem?_eq_getElem hjl] at hco
    simp only [Option.map_some] at hco
    have hfo := o8.frozenAt j
    have hst := (o8.stored j (.int .i64 y)).1
    rw [← List.map_set] at hst
    have HST := Lib.hid (And.intro hst (And.intro (hd8.set (b := g5) (by omega) j (.int .i64 y)) (HB8.out.setHi (b := g5) (by omega) j (.int .i64 y))))
    clear o8 hst hb8 hd8 HB7 HO7 HB8 hd7
    go_wp2_with fail
    go_ret
    exact ⟨_, zs.set j y, _, rfl, ⟨by rw [List.length_set, HZL.out]; exact own_base HST.out.1 (by omega), by rw [List.length_set, HZL.out]; omega⟩, by rw [List.length_set, HZL.out]; omega, by omega, HST.out.2.1, HST.out.2.2⟩
  · have hr6' : (r6 == 0) = false := by simpa using hr6
    clear hr6
    go_wp2_with fail
    go_ret
    exact ⟨_, zs, _, rfl, ⟨by rw [HZL.out]; exact own_base HO6.out (by omega), by rw [HZL.out]; omega⟩, by rw [HZL.out]; omega, by omega, hd6, HB6.out⟩
set_option maxHeartbeats 6000000 in
theorem drawIsSolution (A : Option Addr) (n c : Nat) (bs : List Int) (w : World) (h : CodeA w w.heap.size A n c bs) :
    Calls Try.prog 10 #[.slice A n c] w fun e w' => ∃ (vs : List Value) (m : Mod) (v : Value) (xs : List Int), e = .returned (.tuple #[.agg vs.toArray, v]) ∧ OwnMod w' w.heap.size (.agg vs.toArray) m ∧ OwnI 3 w' w.heap.size v xs ∧ SzM m ∧ xs.length ≤ 5 ∧ Below w.heap.size w w' := by
  obtain ⟨wa, hwa⟩ : ∃ wa, wa = w.alloc (.cells #[.slice none 0 0, .slice none 0 0] 26) := ⟨_, rfl⟩
  have hba : Below w.heap.size w wa := by rw [hwa]; exact b_alloc _ _
  have hza : wa.heap.size = w.heap.size + 1 := by rw [hwa, size_alloc_]
  have HT : Hid (TBlk 26 wa w.heap.size #[.slice none 0 0, .slice none 0 0]) := by rw [hwa]; exact Lib.hid (TBlk.new _ _ _)
  have HN := newReader A n c bs wa ⟨SlA.on ByteC.keeps ByteC.widens h.1 hba, h.2⟩
  have HBA := Lib.hid hba
  clear h hba
  go_enter Try.func10, Try.ntmps10
  go_wp2_with fail
  rw [← hwa]
  clear hwa
  refine HN.mono ?_
  rintro e w1 ⟨g, m, c', bs', rfl, hr, hb1, hg⟩
  have hbase := hr.base_le
  have HT1 := Lib.hid (HT.out.below_ hb1 HT.out.lt)
  have hz1 := hb1.size
  have HB1 := Lib.hid (bgo HBA.out hb1)
  clear hb1 HT HBA
  go_wp2_with fail
  refine (anyModel _ g m c' 0 A bs' w1 hr (by omega)).mono ?_
  rintro e w2 ⟨vs, md, q, rfl, ho, hsz, hq, hr2, hb2⟩
  have HB2 := Lib.hid (HB1.out.trans ((hb2.below hbase hz1).mono (by omega)))
  have HT2 := HT1.out.butG hb2 (by omega)
  have hz2 := hb2.size
  obtain ⟨dv, cv, ev, o1, o2⟩ := ho
  obtain rfl : vs = [dv, cv] := by
    injection ev with ev
    exact List.toArray_inj ev
  obtain ⟨A0, c0, rfl, -⟩ := o1.read
  obtain ⟨Ac, cc, rfl⟩ := OwnK.form o2
  obtain ⟨nd, hnd⟩ : ∃ nd, md.doms.length = nd := ⟨_, rfl⟩
  obtain ⟨nc, hnc⟩ : ∃ nc, md.cons.length = nc := ⟨_, rfl⟩
  rw [hnd] at o1 ⊢
  rw [hnc] at o2 ⊢
  have hd1 : 1 ≤ nd := by rw [← hnd]; exact hsz.1
  have hd4 : nd ≤ 4 := by rw [← hnd]; exact hsz.2.1
  have HSZ := Lib.hid hsz
  clear hnd hnc
  obtain ⟨w3, hw3⟩ : ∃ w3, w2.alloc (.cells #[.slice A0 nd c0, .slice Ac nc cc] 26) = w3 := ⟨_, rfl⟩
  have hb3 : Below w2.heap.size w2 w3 := by rw [← hw3]; exact b_alloc _ _
  have hz3 : w3.heap.size = w2.heap.size + 1 := by rw [← hw3, size_alloc_]
  have HM3 : Hid (TBlk 26 w3 w2.heap.size #[.slice A0 nd c0, .slice Ac nc cc]) := by rw [← hw3]; exact TBlk.new _ _ _
  have HO3 := Lib.hid (OwnMod.below (show OwnMod w2 w1.heap.size (.agg #[.slice A0 nd c0, .slice Ac nc cc]) md from ⟨_, _, rfl, o1, o2⟩) hb3)
  have HT3 := Lib.hid (HT2.below_ hb3 HT2.lt)
  have hr3 := hr2.under hb3 (by omega)
  have HB3 := Lib.hid (HB2.out.trans (hb3.mono (by omega)))
  clear o1 o2 HT2 hr2 hb2 hb3 HB2 HB1 HT1
  have hS : ∀ w', ButG g w3.heap.size w3 w' → w'.cell? ⟨w2.heap.size, 0, none⟩ = some (.slice A0 nd c0) ∧ w'.cell? ⟨w2.heap.size, 1, none⟩ = some (.slice Ac nc cc) := fun w' h => by
    have t := HM3.out.butG h (by omega)
    exact ⟨t.at_ 0 rfl, t.at_ 1 rfl⟩
  have hbd : ButG g w3.heap.size w3 w3.drew := below_butG (below_drewN (Below.refl _ _) 1) g
  have hS0 := hS _ hbd
  have hrd : Rd w3.drew wa.heap.size g A m c' bs' q := hr3.drewN 1
  have hzd : w3.drew.heap.size = w3.heap.size := rfl
  go_wp2_with fail
  clear hw3
  go_region_held3 (fun w' => w'.cell? ⟨w2.heap.size, 0, none⟩ = some (.slice A0 nd c0) ∧ w'.cell? ⟨w2.heap.size, 1, none⟩ = some (.slice Ac nc cc))
    (first | with_reducible exact hS0 | with_reducible assumption)
    (first
      | (go_at_call 42
         refine (assignment wa.heap.size g m c' q w1.heap.size A bs' [.slice A0 nd c0, .slice Ac nc cc] md w3.drew hrd (by omega) (OwnMod.below HO3.out (below_drewN (Below.refl _ _) 1)) (by omega) (by omega) HSZ.out).mono ?_
         rintro e W6 ⟨v6, xs6, q6, rfl, ox6, hx5, hq6, hr6, hbq⟩
         have hb6 := hbd.go hbq
         have hS6 := hS _ hb6
         obtain ⟨A6, c6, rfl, -⟩ := ox6.read
         have HT6 := HT3.out.butG hb6 (show w.heap.size ≠ g by omega)
         have HM6 := HM3.out.butG hb6 (show w2.heap.size ≠ g by omega)
         have y0 := HT6.at_ 0 rfl
         have y1 := HT6.at_ 1 rfl
         have f0 := HT6.frozen 0
         have f1 := HT6.frozen 1
         obtain ⟨W7, hW7⟩ : ∃ W7, (W6.setCell ⟨w.heap.size, 0, none⟩ (.slice A0 nd c0)).setCell ⟨w.heap.size, 1, none⟩ (.slice Ac nc cc) = W7 := ⟨_, rfl⟩
         have hq7 : ButG w.heap.size W6.heap.size W6 W7 := by rw [← hW7]; exact butG_set2 _ _ _ _ _
         have hT7 : TBlk 26 W7 w.heap.size #[.slice A0 nd c0, .slice Ac nc cc] := by rw [← hW7]; exact TBlk.laid2 HT6
         have hM7 := HM6.butG hq7 (show w2.heap.size ≠ w.heap.size by omega)
         have hS7 : W7.cell? ⟨w2.heap.size, 0, none⟩ = some (.slice A0 nd c0) ∧ W7.cell? ⟨w2.heap.size, 1, none⟩ = some (.slice Ac nc cc) := ⟨hM7.at_ 0 rfl, hM7.at_ 1 rfl⟩
         have zz6 := hb6.size))
  all_goals
    have OM := (HO3.out.butG hb6 (by omega)).butG hq7 (show w.heap.size < w1.heap.size by omega)
    have OX := OwnI.butG (OwnI.stays 3 |>.base _ _ _ _ _ (show w1.heap.size ≤ w3.drew.heap.size by omega) ox6) hq7 (show w.heap.size < w1.heap.size by omega)
    have BF : Below w.heap.size w W7 := (HB3.out.trans ((hb6.below (show w.heap.size ≤ g by omega) (by omega)).mono (Nat.le_refl _))).trans (hq7.below (Nat.le_refl _) (by omega))
    have t0 := hT7.at_ 0 rfl
    have t1 := hT7.at_ 1 rfl
    have HALL := Lib.hid (And.intro OM (And.intro OX (And.intro BF (And.intro HSZ.out hx5))))
    go_wp2_with fail
    refine bodyPost_ret (v := .tuple #[.agg #[.slice A0 nd c0, .slice Ac nc cc], .slice A6 xs6.length c6]) ?_ rfl ?_
    · simp [results, Try.results10, go_sem, t0, t1]
    · first
        | exact ⟨[.slice A0 nd c0, .slice Ac nc cc], md, _, xs6, rfl, OwnMod.base_ HALL.out.1 (by omega), (OwnI.stays 3).base _ _ _ _ _ (by omega) HALL.out.2.1, HALL.out.2.2.2.1, HALL.out.2.2.2.2, HALL.out.2.2.1⟩
        | exact ⟨[.slice A0 nd c0, .slice Ac nc cc], md, _, rfl, OwnMod.base_ HALL.out.1 (by omega), xs6, (OwnI.stays 3).base _ _ _ _ _ (by omega) HALL.out.2.1, HALL.out.2.2.2.1, HALL.out.2.2.2.2, HALL.out.2.2.1⟩
end Go.Proofs.Ytejfnkbdmlijbaa
