/- What is drawn for Filter: a constraint that may be damaged, and domains. -/
import Derived.Test.YtfmdgdamelkelaaDrawR
import Derived.Test.YtfmdgdamelkelaaDrawA
import Derived.Test.YtfmdgdamelkelaaNums
import Derived.Test.YtfmdgdamelkelaaTup2
namespace Go.Proofs.Ytfmdgdamelkelaa
open Go.ChangeShapes Go.WideShapes Go.ChangeAt Go.RowKit
open Go.Shelf
set_option linter.unusedVariables false
set_option maxRecDepth 100000

theorem lit_cells (w : World) (xs : List Int) : ∀ (i : Nat) x, xs[i]? = some x → (w.alloc (.cells (ints xs) 3)).cell? ⟨w.heap.size, i, none⟩ = some (.int .i64 x) := fun i x hx => (TBlk.new w (ints xs) 3).at_ i (ints_at hx)
theorem CS.finish2 {w w0 : World} {B B0 bx R g base n c p : Nat} {A : Option Addr} {bs : List Int} {k : Con} {v1 v2 v3 : Option Addr} {n1 c1 n2 c2 n3 c3 : Nat} {zs : Array Value}
    (h : CS w B bx k (.slice v1 n1 c1) (.slice v2 n2 c2) (.slice v3 n3 c3)) (hr : TBlk 29 w R zs) (hz : zs.size = 5) (hne : bx ≠ R) (hd : Rd w base g A n c bs p) (hg : g < R) (hR : B0 ≤ R) (hb : ButG g B0 w0 w) {wf : World}
    (hf : wf = ((((w.setCell ⟨R, 0, none⟩ (.int .i64 k.kind)).setCell ⟨R, 1, none⟩ (.slice v1 n1 c1)).setCell ⟨R, 2, none⟩ (.slice v2 n2 c2)).setCell ⟨R, 3, none⟩ (.int .i64 k.bound)).setCell ⟨R, 4, none⟩ (.slice v3 n3 c3)) :
    (wf.cell? ⟨R, 0, none⟩ = some (.int .i64 k.kind) ∧ wf.cell? ⟨R, 1, none⟩ = some (.slice v1 n1 c1) ∧ wf.cell? ⟨R, 2, none⟩ = some (.slice v2 n2 c2) ∧ wf.cell? ⟨R, 3, none⟩ = some (.int .i64 k.bound) ∧ wf.cell? ⟨R, 4, none⟩ = some (.slice v3 n3 c3)) ∧
    OwnCon wf B (.agg #[.int .i64 k.kind, .slice v1 n1 c1, .slice v2 n2 c2, .int .i64 k.bound, .slice v3 n3 c3]) k ∧ Rd wf base g A n c bs p ∧ ButG g B0 w0 wf := by
  obtain ⟨z0, z1, z2, z3, z4, rfl⟩ : ∃ z0 z1 z2 z3 z4, zs = #[z0, z1, z2, z3, z4] := by
    rcases zs with ⟨l⟩
    match l, hz with
    | [z0, z1, z2, z3, z4], _ => exact ⟨_, _, _, _, _, rfl⟩
  have t1 := hr.store 0 (.int .i64 k.kind)
  have s1 := h.far hne hr 0 (.int .i64 k.kind)
  have t2 := t1.store 1 (.slice v1 n1 c1)
  have s2 := s1.far hne t1 1 (.slice v1 n1 c1)
  have t3 := t2.store 2 (.slice v2 n2 c2)
  have s3 := s2.far hne t2 2 (.slice v2 n2 c2)
  have t4 := t3.store 3 (.int .i64 k.bound)
  have s4 := s3.far hne t3 3 (.int .i64 k.bound)
  have t5 := t4.store 4 (.slice v3 n3 c3)
  have s5 := s4.far hne t4 4 (.slice v3 n3 c3)
  subst hf
  refine ⟨⟨t5.at_ 0 rfl, t5.at_ 1 rfl, t5.at_ 2 rfl, t5.at_ 3 rfl, t5.at_ 4 rfl⟩, s5.own, ?_, ?_⟩
  · exact ((((hd.set hg 0 _).set hg 1 _).set hg 2 _).set hg 3 _).set hg 4 _
  · exact ((((hb.setHi hR 0 _).setHi hR 1 _).setHi hR 2 _).setHi hR 3 _).setHi hR 4 _
theorem CS.put {w1 w5 w6 w0 : World} {B B0 bx R g base n c p m j : Nat} {A : Option Addr} {bs : List Int} {k k' : Con} {v1 v2 v3 v1' v2' v : Value} {xs : List Int} {zs : Array Value} (hC : CS w1 B bx k v1 v2 v3) (hT : TBlk 29 w1 R zs) (hd : Rd w1 base g A n c bs p) (hbt : ButG g B0 w0 w1) (hb : Below w1.heap.size w1 w5)
    (ho : w5.ownsRow w1.heap.size 3 1 v m (xs.map (.int .i64))) (hl : xs.length = m) (hm : m ≤ 1048576) (hB : B ≤ w1.heap.size) (hg : g < bx) (hne : R ≠ bx) (hB0 : B0 ≤ bx) (h6 : w5.setCell ⟨bx, j, none⟩ v = w6) (hj : (j = 1 ∧ k' = { k with vars := xs } ∧ v1' = v ∧ v2' = v2) ∨ (j = 2 ∧ k' = { k with args := xs } ∧ v1' = v1 ∧ v2' = v)) :
    CS w6 B bx k' v1' v2' v3 ∧ TBlk 29 w6 R zs ∧ Rd w6 base g A n c bs p ∧ ButG g B0 w0 w6 := by
  have hC5 := hC.below hb
  have hbx := hC.blk.lt
  have hoI : OwnI 3 w5 B v xs := ⟨by rw [hl]; exact own_base ho hB, by rw [hl]; omega⟩
  have hd5 : Rd w5 base g A n c bs p := hd.under hb (by omega)
  have hb5 : ButG g B0 w0 w5 := hbt.trans (below_butG (hb.mono (by have := hbt.size; omega)) g)
  subst h6
  refine ⟨?_, (hT.below_ hb hT.lt).far hne, hd5.set hg _ _, hb5.setHi hB0 _ _⟩
  rcases hj with ⟨rfl, rfl, rfl, rfl⟩ | ⟨rfl, rfl, rfl, rfl⟩
  · exact hC5.setV hoI
  · exact hC5.setA hoI
theorem CS.putV {w1 w5 w0 : World} {B bx base g n c p m nv na nr c1 c2 c3 : Nat} {A A1 A2 A3 : Option Addr} {bs : List Int} {k : Con} {v : Value} {xs : List Int} (hC : CS w1 B bx k (.slice A1 nv c1) (.slice A2 na c2) (.slice A3 nr c3))
    (hT : TBlk 29 w1 (bx + 1) #[.int .i64 0, .slice none 0 0, .slice none 0 0, .int .i64 0, .slice none 0 0]) (hd : Rd w1 base g A n c bs p) (hbt : ButG g bx w0 w1) (hb : Below w1.heap.size w1 w5)
    (ho : w5.ownsRow w1.heap.size 3 1 v m (xs.map (.int .i64))) (hl : xs.length = m) (hm : m ≤ 1048576) (hB : B ≤ w1.heap.size) (hg : g < bx) :
    ∃ A5 c5 w6, v = .slice A5 m c5 ∧ w5.setCell ⟨bx, 1, none⟩ (.slice A5 m c5) = w6 ∧ w5.cell? ⟨bx, 1, none⟩ = some (.slice A1 nv c1) ∧ w5.frozen? ⟨bx, 1, none⟩ = false ∧ (w6.cell? ⟨bx, 0, none⟩ = some (.int .i64 k.kind) ∧ w6.cell? ⟨bx, 1, none⟩ = some (.slice A5 m c5) ∧ w6.cell? ⟨bx, 2, none⟩ = some (.slice A2 na c2) ∧ w6.cell? ⟨bx, 3, none⟩ = some (.int .i64 k.bound) ∧ w6.cell? ⟨bx, 4, none⟩ = some (.slice A3 nr c3)) ∧ (w6.cell? ⟨bx + 1, 0, none⟩ = some (.int .i64 0) ∧ w6.cell? ⟨bx + 1, 1, none⟩ = some (.slice none 0 0) ∧ w6.cell? ⟨bx + 1, 2, none⟩ = some (.slice none 0 0) ∧ w6.cell? ⟨bx + 1, 3, none⟩ = some (.int .i64 0) ∧ w6.cell? ⟨bx + 1, 4, none⟩ = some (.slice none 0 0)) ∧ (w6.frozen? ⟨bx + 1, 0, none⟩ = false ∧ w6.frozen? ⟨bx + 1, 1, none⟩ = false ∧ w6.frozen? ⟨bx + 1, 2, none⟩ = false ∧ w6.frozen? ⟨bx + 1, 3, none⟩ = false ∧ w6.frozen? ⟨bx + 1, 4, none⟩ = false) ∧ w1.heap.size ≤ w6.heap.size ∧
      Hid (CS w6 B bx { k with vars := xs } (.slice A5 m c5) (.slice A2 na c2) (.slice A3 nr c3) ∧ TBlk 29 w6 (bx + 1) #[.int .i64 0, .slice none 0 0, .slice none 0 0, .int .i64 0, .slice none 0 0] ∧ Rd w6 base g A n c bs p ∧ ButG g bx w0 w6) := by
  obtain ⟨A5, c5, rfl, -⟩ := IntR.of_own ho (by omega)
  obtain ⟨w6, h6⟩ : ∃ w6, w5.setCell ⟨bx, 1, none⟩ (.slice A5 m c5) = w6 := ⟨_, rfl⟩
  have hb5 := (hC.below hb).blk
  obtain ⟨q1, q2, q3, q4⟩ := CS.put (k' := { k with vars := xs }) (v1' := .slice A5 m c5) (v2' := .slice A2 na c2) hC hT hd hbt hb ho hl hm hB hg (by omega) (Nat.le_refl _) h6 (.inl ⟨rfl, rfl, rfl, rfl⟩)
  refine ⟨A5, c5, w6, rfl, h6, hb5.at_ 1 rfl, hb5.frozen 1, ⟨q1.blk.at_ 0 rfl, q1.blk.at_ 1 rfl, q1.blk.at_ 2 rfl, q1.blk.at_ 3 rfl, q1.blk.at_ 4 rfl⟩, ⟨q2.at_ 0 rfl, q2.at_ 1 rfl, q2.at_ 2 rfl, q2.at_ 3 rfl, q2.at_ 4 rfl⟩, ⟨q2.frozen 0, q2.frozen 1, q2.frozen 2, q2.frozen 3, q2.frozen 4⟩, by rw [← h6, World.size_setCell]; exact hb.size, Lib.hid ⟨q1, q2, q3, q4⟩⟩
theorem CS.putA {w1 w5 w0 : World} {B bx base g n c p m nv na nr c1 c2 c3 : Nat} {A A1 A2 A3 : Option Addr} {bs : List Int} {k : Con} {v : Value} {xs : List Int} (hC : CS w1 B bx k (.slice A1 nv c1) (.slice A2 na c2) (.slice A3 nr c3))
    (hT : TBlk 29 w1 (bx + 1) #[.int .i64 0, .slice none 0 0, .slice none 0 0, .int .i64 0, .slice none 0 0]) (hd : Rd w1 base g A n c bs p) (hbt : ButG g bx w0 w1) (hb : Below w1.heap.size w1 w5)
    (ho : w5.ownsRow w1.heap.size 3 1 v m (xs.map (.int .i64))) (hl : xs.length = m) (hm : m ≤ 1048576) (hB : B ≤ w1.heap.size) (hg : g < bx) :
    ∃ A5 c5 w6, v = .slice A5 m c5 ∧ w5.setCell ⟨bx, 2, none⟩ (.slice A5 m c5) = w6 ∧ w5.cell? ⟨bx, 2, none⟩ = some (.slice A2 na c2) ∧ w5.frozen? ⟨bx, 2, none⟩ = false ∧ (w6.cell? ⟨bx, 0, none⟩ = some (.int .i64 k.kind) ∧ w6.cell? ⟨bx, 1, none⟩ = some (.slice A1 nv c1) ∧ w6.cell? ⟨bx, 2, none⟩ = some (.slice A5 m c5) ∧ w6.cell? ⟨bx, 3, none⟩ = some (.int .i64 k.bound) ∧ w6.cell? ⟨bx, 4, none⟩ = some (.slice A3 nr c3)) ∧ (w6.cell? ⟨bx + 1, 0, none⟩ = some (.int .i64 0) ∧ w6.cell? ⟨bx + 1, 1, none⟩ = some (.slice none 0 0) ∧ w6.cell? ⟨bx + 1, 2, none⟩ = some (.slice none 0 0) ∧ w6.cell? ⟨bx + 1, 3, none⟩ = some (.int .i64 0) ∧ w6.cell? ⟨bx + 1, 4, none⟩ = some (.slice none 0 0)) ∧ (w6.frozen? ⟨bx + 1, 0, none⟩ = false ∧ w6.frozen? ⟨bx + 1, 1, none⟩ = false ∧ w6.frozen? ⟨bx + 1, 2, none⟩ = false ∧ w6.frozen? ⟨bx + 1, 3, none⟩ = false ∧ w6.frozen? ⟨bx + 1, 4, none⟩ = false) ∧ w1.heap.size ≤ w6.heap.size ∧
      Hid (CS w6 B bx { k with args := xs } (.slice A1 nv c1) (.slice A5 m c5) (.slice A3 nr c3) ∧ TBlk 29 w6 (bx + 1) #[.int .i64 0, .slice none 0 0, .slice none 0 0, .int .i64 0, .slice none 0 0] ∧ Rd w6 base g A n c bs p ∧ ButG g bx w0 w6) := by
  obtain ⟨A5, c5, rfl, -⟩ := IntR.of_own ho (by omega)
  obtain ⟨w6, h6⟩ : ∃ w6, w5.setCell ⟨bx, 2, none⟩ (.slice A5 m c5) = w6 := ⟨_, rfl⟩
  have hb5 := (hC.below hb).blk
  obtain ⟨q1, q2, q3, q4⟩ := CS.put (k' := { k with args := xs }) (v1' := .slice A1 nv c1) (v2' := .slice A5 m c5) hC hT hd hbt hb ho hl hm hB hg (by omega) (Nat.le_refl _) h6 (.inr ⟨rfl, rfl, rfl, rfl⟩)
  refine ⟨A5, c5, w6, rfl, h6, hb5.at_ 2 rfl, hb5.frozen 2, ⟨q1.blk.at_ 0 rfl, q1.blk.at_ 1 rfl, q1.blk.at_ 2 rfl, q1.blk.at_ 3 rfl, q1.blk.at_ 4 rfl⟩, ⟨q2.at_ 0 rfl, q2.at_ 1 rfl, q2.at_ 2 rfl, q2.at_ 3 rfl, q2.at_ 4 rfl⟩, ⟨q2.frozen 0, q2.frozen 1, q2.frozen 2, q2.frozen 3, q2.frozen 4⟩, by rw [← h6, World.size_setCell]; exact hb.size, Lib.hid ⟨q1, q2, q3, q4⟩⟩
/-- a constraint and what damage makes of it. -/
def NearC (k k' : Con) : Prop := k'.vars.length ≤ k.vars.length + 1 ∧ k'.args.length ≤ k.args.length + 1 ∧ k'.rows = k.rows
set_option maxHeartbeats 16000000 in
theorem damage (base g n c p B : Nat) (A : Option Addr) (bs : List Int) (v : Value) (k : Con) (w : World) (h : Rd w base g A n c bs p) (hp : p ≤ 900000) (ho : OwnCon w B v k) (hB : B ≤ w.heap.size) (hgB : g < B) (h1 : 1 ≤ k.vars.length) (hs1 : k.vars.length ≤ 8) (hs2 : k.args.length ≤ 8) :
    Calls Try.prog 122 #[.pointer (some ⟨g, 0, none⟩), v] w fun e w' => ∃ (v' : Value) (k' : Con) (q : Nat), e = .returned v' ∧ OwnCon w' B v' k' ∧ NearC k k' ∧ q ≤ p + 2 ∧ Rd w' base g A n c bs q ∧ ButG g w.heap.size w w' := by
  obtain ⟨i0, hi0, hz0, hz1, hz2⟩ := info_parts info_int
  have hg : g < w.heap.size := (Array.getElem?_eq_some_iff.1 h.block).1
  obtain ⟨vv, av, rv, rfl, o1, o2, o3⟩ := ho
  obtain ⟨A1, c1, rfl, -⟩ := o1.read
  obtain ⟨A2, c2, rfl, -⟩ := o2.read
  obtain ⟨A3, c3, rfl, -⟩ := read2 o3
  obtain ⟨nv, hnv⟩ : ∃ nv, k.vars.length = nv := ⟨_, rfl⟩
  obtain ⟨na, hna⟩ : ∃ na, k.args.length = na := ⟨_, rfl⟩
  obtain ⟨nr, hnr⟩ : ∃ nr, k.rows.length = nr := ⟨_, rfl⟩
  rw [hnv] at o1 h1 hs1 ⊢
  rw [hna] at o2 hs2 ⊢
  rw [hnr] at o3 ⊢
  have HNV := Lib.hid hnv
  have HNA := Lib.hid hna
  clear hnv hna hnr
  obtain ⟨wa, hwa⟩ : ∃ wa, wa = (w.alloc (.cells #[.int .i64 k.kind, .slice A1 nv c1, .slice A2 na c2, .int .i64 k.bound, .slice A3 nr c3] 29)).alloc (.cells #[.int .i64 0, .slice none 0 0, .slice none 0 0, .int .i64 0, .slice none 0 0] 29) := ⟨_, rfl⟩
  have hba : Below w.heap.size w wa := by rw [hwa]; exact (b_alloc _ _).alloc (by simp) _
  have HT : Hid (TBlk 29 wa (w.heap.size + 1) #[.int .i64 0, .slice none 0 0, .slice none 0 0, .int .i64 0, .slice none 0 0]) := by rw [hwa]; exact Lib.hid (TBlk.newAt (by simp))
  have HC : Hid (CS wa B w.heap.size k (.slice A1 nv c1) (.slice A2 na c2) (.slice A3 nr c3)) :=
    Lib.hid ⟨by rw [hwa]; exact (TBlk.new _ _ _).alloc_ _, (OwnI.stays 3).below _ _ _ _ _ hba o1, (OwnI.stays 3).below _ _ _ _ _ hba o2, (OwnOf.stays (OwnI.stays 3)).below _ _ _ _ _ hba o3⟩
  have HD := Lib.hid (h.under hba hg)
  have hBa := Lib.hid hba
  clear o1 o2 o3 h hba
  go_enter Try.func122, Try.ntmps122
  go_wp2_with fail
  rw [← hwa]
  clear hwa
  refine (pick base g n c p A bs 5 wa HD.out (by omega)).mono ?_
  rintro e w1 ⟨r, rfl, ⟨-, hr⟩, hr1, hb1⟩
  obtain ⟨r0, rm⟩ := hr (by omega)
  have HC1 := Lib.hid (HC.out.butG hb1 hgB (by omega))
  have HT1 := Lib.hid (HT.out.butG hb1 (by omega))
  have HB1 := Lib.hid ((below_butG hBa.out g).go hb1)
  have hs1' := HT1.out.lt
  clear hb1 HC HT HD hBa hr
  by_cases e0 : r = 0
  · subst e0
    go_wp2_with fail
    have hc0 := lit_cells w1 [0, 10, 1, 5]
    refine (one base g n c (p + 1) w1.heap.size 4 4 A bs [0, 10, 1, 5] _ (hr1.under (b_alloc w1 (.cells (ints [0, 10, 1, 5]) 3)) (by omega)) (by omega) rfl (by omega) (by omega) (by omega) (by rw [size_alloc_]; omega) hc0).mono ?_
    rintro e w3 ⟨x1, rfl, -, hr3, hb3⟩
    have hC2 := HC1.out.below (b_alloc w1 (.cells (ints [0, 10, 1, 5]) 3))
    have hC3 := hC2.butG hb3 hgB (by omega)
    have hT2 := HT1.out.below_ (b_alloc w1 (.cells (ints [0, 10, 1, 5]) 3)) HT1.out.lt
    have hT3 := hT2.butG hb3 (by omega)
    have hb13 := HB1.out.go ((below_butG (b_alloc w1 (.cells (ints [0, 10, 1, 5]) 3)) g).go hb3)
    have hs13 := hb13.size
    have hbl3 := hC3.blk
    clear hc0 hC2 hT2 hb3
    have hm := hbl3.at_ 0 rfl
    have hfz := hbl3.frozen 0
    have HX := Lib.hid (And.intro (hC3.kind x1) (And.intro (hT3.far (g := w.heap.size) (j := 0) (u := .int .i64 x1) (by omega)) (And.intro (hr3.set (b := w.heap.size) (by omega) 0 (.int .i64 x1)) (hb13.setHi (b := w.heap.size) (Nat.le_refl _) 0 (.int .i64 x1)))))
    clear hC3 hT3 hr3 hb13 hbl3
    obtain ⟨w4, hw4⟩ : ∃ w4, w3.setCell ⟨w.heap.size, 0, none⟩ (.int .i64 x1) = w4 := ⟨_, rfl⟩
    rw [hw4] at HX
    obtain ⟨hC, hT, hd, hbt⟩ := HX.out
    have z0 : w4.cell? ⟨w.heap.size, 0, none⟩ = some (.int .i64 (x1)) := hC.blk.at_ 0 rfl
    have y0 : w4.cell? ⟨w.heap.size + 1, 0, none⟩ = some (.int .i64 0) := hT.at_ 0 rfl
    have f0 := hT.frozen 0
    have z1 : w4.cell? ⟨w.heap.size, 1, none⟩ = some (.slice A1 nv c1) := hC.blk.at_ 1 rfl
    have y1 : w4.cell? ⟨w.heap.size + 1, 1, none⟩ = some (.slice none 0 0) := hT.at_ 1 rfl
    have f1 := hT.frozen 1
    have z2 : w4.cell? ⟨w.heap.size, 2, none⟩ = some (.slice A2 na c2) := hC.blk.at_ 2 rfl
    have y2 : w4.cell? ⟨w.heap.size + 1, 2, none⟩ = some (.slice none 0 0) := hT.at_ 2 rfl
    have f2 := hT.frozen 2
    have z3 : w4.cell? ⟨w.heap.size, 3, none⟩ = some (.int .i64 (k.bound)) := hC.blk.at_ 3 rfl
    have y3 : w4.cell? ⟨w.heap.size + 1, 3, none⟩ = some (.int .i64 0) := hT.at_ 3 rfl
    have f3 := hT.frozen 3
    have z4 : w4.cell? ⟨w.heap.size, 4, none⟩ = some (.slice A3 nr c3) := hC.blk.at_ 4 rfl
    have y4 : w4.cell? ⟨w.heap.size + 1, 4, none⟩ = some (.slice none 0 0) := hT.at_ 4 rfl
    have f4 := hT.frozen 4
    have hF := Lib.hid (CS.finish2 hC hT rfl (by omega) hd (by omega) (Nat.le_succ _) hbt rfl)
    clear hC hT hbt
    go_wp2_with fail
    generalize (((((w4.setCell ⟨w.heap.size + 1, 0, none⟩ (.int .i64 (x1))).setCell ⟨w.heap.size + 1, 1, none⟩ (.slice A1 nv c1)).setCell ⟨w.heap.size + 1, 2, none⟩ (.slice A2 na c2)).setCell ⟨w.heap.size + 1, 3, none⟩ (.int .i64 (k.bound))).setCell ⟨w.heap.size + 1, 4, none⟩ (.slice A3 nr c3)) = wf at hF ⊢
    obtain ⟨⟨t0, t1, t2, t3, t4⟩, ho, hrd, hbf⟩ := hF.out
    refine bodyPost_ret (v := .agg #[.int .i64 (x1), .slice A1 nv c1, .slice A2 na c2, .int .i64 (k.bound), .slice A3 nr c3]) ?_ rfl ?_
    · simp [results, Try.results122, go_sem, t0, t1, t2, t3, t4]
    · exact ⟨_, _, _, rfl, ho, by first | exact ⟨Nat.le_succ _, Nat.le_succ _, rfl⟩ | exact ⟨by simp, Nat.le_succ _, rfl⟩ | exact ⟨Nat.le_succ _, by simp, rfl⟩, by omega, hrd, hbf⟩
  have n0 : (r == 0) = false := by simpa using e0
  by_cases e1 : r = 1
  · subst e1
    have hbl1 := HC1.out.blk
    have o1 := HC1.out.vars.1
    rw [HNV.out] at o1
    obtain ⟨gA, cA, cur, eA, hgA, hblk, hcur⟩ := own_blk_int o1 (by omega)
    injection eA with eA1 eA2 eA3
    subst eA1 eA3
    obtain ⟨v0, hv0⟩ : ∃ v0, k.vars[0]? = some v0 := ⟨_, List.getElem?_eq_getElem (by have := HNV.out; omega)⟩
    have hC1 : ∀ w', Below w1.heap.size w1 w' → w'.cell? ⟨w.heap.size, 1, none⟩ = some (.slice (some ⟨gA, 0, none⟩) nv c1) := fun w' h => (hbl1.below_ h hbl1.lt).at_ 1 rfl
    have hS : ∀ w', Below w1.heap.size w1 w' → w'.cell? ⟨gA, 0, none⟩ = some (.int .i64 v0) := fun w' h => (hblk.below_ h hblk.lt).at_ 0 (hcur 0 v0 hv0)
    have hneA : gA ≠ w.heap.size := hblk.ne hbl1 (by decide)
    have HS6 := Lib.hid (fun (w5 : World) (u : Value) (h : Below w1.heap.size w1 w5) => (((hblk.below_ h hblk.lt).far (j := 1) (u := u) hneA).at_ 0 (hcur 0 v0 hv0)))
    have hbd : Below w1.heap.size w1 w1.drew := below_drewN (Below.refl _ _) 1
    have hS0 := hS _ hbd
    have hd0 := hC1 _ hbd
    have hb00 : Below w1.heap.size w1 w1 := Below.refl _ _
    have hd00 := hC1 _ hb00
    have hba0 : Below w1.heap.size w1 (w1.drew.alloc (.cells #[.int .i64 v0] 3)) := hbd.alloc (Nat.le_refl _) _
    have hba1 : Below w1.heap.size w1 (w1.alloc (.cells #[.int .i64 v0] 3)).drew := below_drewN (hb00.alloc (Nat.le_refl _) _) 1
    have hda0 := hC1 _ hba0
    have hda1 := hC1 _ hba1
    have O1 := Lib.hid o1
    have HKEY := Lib.hid (fun v5 w5 (ho : w5.ownsRow w1.heap.size 3 1 v5 (nv + 1) (k.vars.map (.int .i64) ++ [.int .i64 v0])) (hb : Below w1.heap.size w1 w5) =>
      CS.putV (xs := k.vars ++ [v0]) HC1.out HT1.out hr1 HB1.out hb (by rw [List.map_append]; exact ho) (by rw [List.length_append, HNV.out]; rfl) (by omega) (by omega) hg)
    clear hbl1 o1 hblk hcur hv0
    go_wp2_with fail
    have hs0 := hS _ hba0
    have hs1' := hS _ hba1
    have hnv0 : 0 < nv := by omega
    have hnv1 : (0 : Int) < (nv : Int) := by omega
    go_region_law (first
      | (refine step_append_any (by rfl) _ _ 22 (by rfl) w1.heap.size 3 i0 _ 1 8 Try.underlying22 hi0 hz0 hz1 hz2 rfl (by omega) v8 nv (k.vars.map (.int .i64)) (by rfl) oc2 _ 1 [.int .i64 v0] (by exact ⟨_, rfl, sr⟩) (by simp [Value.oneCell']) (by unfold maxLen; omega) (by omega) (by exact hba8.size) ?_
         intro v5 w5 ho5 hb5 _ _
         have hb9 := hba8.trans hb5
         obtain ⟨A5, c5, w6, rfl, hw6, q2, qf, ⟨z0, z1, z2, z3, z4⟩, ⟨y0, y1, y2, y3, y4⟩, ⟨f0, f1, f2, f3, f4⟩, zs6, hX⟩ := HKEY.out v5 w5 ho5 hb9
         clear ho5 hb5)
      | (go_simp
         go_at_call 116
         first
           | (refine (copyInts _ nv _ k.vars w1.drew (own_below O1.out hbd) (by omega)).mono ?_
              rintro e W8 ⟨v8, rfl, oc, hBq⟩
              have hb8 := bgo hbd hBq
              have hz8 := hb8.size
              have hd8 := hC1 _ hb8
              have oc2 := own_below oc (b_alloc W8 (.cells #[.int .i64 v0] 3))
              have sr := src_own (World.ownsRow_lit (e := 3) (size := 1) W8 #[.int .i64 v0] 1 (Nat.le_refl _) (by decide) rfl)
              have hba8 := hb8.alloc hz8 (.cells #[.int .i64 v0] 3)
              have s8 := hS _ hb8
              have s9 := hS _ hba8
              have hd9 := hC1 _ hba8
              clear hBq oc)
           | (refine (copyInts _ nv _ k.vars (w1.drew.alloc (.cells #[.int .i64 v0] 3)) (own_below O1.out (hbd.alloc (Nat.le_refl _) _)) (by omega)).mono ?_
              rintro e W8 ⟨v8, rfl, oc, hBq⟩
              have hb8 := bgo (hbd.alloc (Nat.le_refl _) (.cells #[.int .i64 v0] 3)) hBq
              have hz8 := hb8.size
              have hd8 := hC1 _ hb8
              have oc2 := own_base oc (show w1.heap.size ≤ (w1.drew.alloc (.cells #[.int .i64 v0] 3)).heap.size by simp)
              have sr := src_own (own_below (World.ownsRow_lit (e := 3) (size := 1) w1.drew #[.int .i64 v0] 1 (Nat.le_refl _) (by decide) rfl) hBq)
              have hba8 := hb8
              have s8 := hS _ hb8
              clear hBq oc)))
    all_goals
      go_wp2_with fail
      obtain ⟨hC, hT, hd, hbt⟩ := hX.out
      have hF := Lib.hid (CS.finish2 hC hT rfl (by omega) hd (by omega) (Nat.le_succ _) hbt rfl)
      clear hC hT hbt
      generalize (((((w6.setCell ⟨w.heap.size + 1, 0, none⟩ (.int .i64 (k.kind))).setCell ⟨w.heap.size + 1, 1, none⟩ (.slice A5 (nv + 1) c5)).setCell ⟨w.heap.size + 1, 2, none⟩ (.slice A2 na c2)).setCell ⟨w.heap.size + 1, 3, none⟩ (.int .i64 (k.bound))).setCell ⟨w.heap.size + 1, 4, none⟩ (.slice A3 nr c3)) = wf at hF ⊢
      obtain ⟨⟨t0, t1, t2, t3, t4⟩, ho, hrd, hbf⟩ := hF.out
      refine bodyPost_ret (v := .agg #[.int .i64 (k.kind), .slice A5 (nv + 1) c5, .slice A2 na c2, .int .i64 (k.bound), .slice A3 nr c3]) ?_ rfl ?_
      · simp [results, Try.results122, go_sem, t0, t1, t2, t3, t4]
      · exact ⟨_, rfl, _, ho, by first | exact ⟨Nat.le_succ _, Nat.le_succ _, rfl⟩ | exact ⟨by simp, Nat.le_succ _, rfl⟩ | exact ⟨Nat.le_succ _, by simp, rfl⟩, _, by omega, hrd, hbf⟩
  have n1 : (r == 1) = false := by simpa using e1
  by_cases e2 : r = 2
  · subst e2
    have hbl1 := HC1.out.blk
    have m2 : w1.cell? ⟨w.heap.size, 2, none⟩ = some (.slice A2 na c2) := hbl1.at_ 2 rfl
    clear hbl1
    go_wp2_with fail
    have o2 := HC1.out.args.1
    rw [HNA.out] at o2
    refine (copyInts _ na _ k.args w1 o2 (by omega)).mono ?_
    rintro e w2 ⟨v2, rfl, oc, hb2⟩
    have z2 := hb2.size
    have HKEY := Lib.hid (fun v5 w5 (ho : w5.ownsRow w1.heap.size 3 1 v5 (na + 1) (k.args.map (.int .i64) ++ [.int .i64 1])) (hb : Below w1.heap.size (w2.alloc (.cells #[.int .i64 1] 3)) w5) =>
      CS.putA (xs := k.args ++ [1]) HC1.out HT1.out hr1 HB1.out ((hb2.alloc z2 _).trans hb) (by rw [List.map_append]; exact ho) (by rw [List.length_append, HNA.out]; rfl) (by omega) (by omega) hg)
    have HOC := Lib.hid oc
    clear o2 m2 oc hb2
    go_wp2_with (at_builtin; refine wpList_append_any rfl _ _ 22 rfl w1.heap.size 3 i0 _ 1 8 Try.underlying22 hi0 hz0 hz1 hz2 rfl (by decide) v2 na (k.args.map (.int .i64)) rfl (own_below HOC.out (b_alloc _ _)) _ _ _ [.int .i64 1] rfl (src_own (World.ownsRow_lit w2 #[.int .i64 1] 1 (Nat.le_refl _) (by decide) rfl)) (by simp [Value.oneCell']) (by unfold maxLen; omega) (by omega) (by rw [size_alloc_]; omega) ?_; intro v5 w5 ho5 hb5 _ _; obtain ⟨A5, c5, w6, rfl, hw6, q2, qf, ⟨z0, z1, z2, z3, z4⟩, ⟨y0, y1, y2, y3, y4⟩, ⟨f0, f1, f2, f3, f4⟩, zs6, hX⟩ := HKEY.out v5 w5 ho5 hb5; clear ho5 hb5 HKEY)
    obtain ⟨hC, hT, hd, hbt⟩ := hX.out
    have hF := Lib.hid (CS.finish2 hC hT rfl (by omega) hd (by omega) (Nat.le_succ _) hbt rfl)
    clear hC hT hbt
    generalize (((((w6.setCell ⟨w.heap.size + 1, 0, none⟩ (.int .i64 (k.kind))).setCell ⟨w.heap.size + 1, 1, none⟩ (.slice A1 nv c1)).setCell ⟨w.heap.size + 1, 2, none⟩ (.slice A5 (na + 1) c5)).setCell ⟨w.heap.size + 1, 3, none⟩ (.int .i64 (k.bound))).setCell ⟨w.heap.size + 1, 4, none⟩ (.slice A3 nr c3)) = wf at hF ⊢
    obtain ⟨⟨t0, t1, t2, t3, t4⟩, ho, hrd, hbf⟩ := hF.out
    refine bodyPost_ret (v := .agg #[.int .i64 (k.kind), .slice A1 nv c1, .slice A5 (na + 1) c5, .int .i64 (k.bound), .slice A3 nr c3]) ?_ rfl ?_
    · simp [results, Try.results122, go_sem, t0, t1, t2, t3, t4]
    · exact ⟨_, _, _, rfl, ho, by first | exact ⟨Nat.le_succ _, Nat.le_succ _, rfl⟩ | exact ⟨by simp, Nat.le_succ _, rfl⟩ | exact ⟨Nat.le_succ _, by simp, rfl⟩, by omega, hrd, hbf⟩
  have n2 : (r == 2) = false := by simpa using e2
  by_cases e3 : r = 3
  · subst e3
    go_wp2_with fail
    have hc0 := lit_cells w1 [-1000, 1000, 5]
    refine (one base g n c (p + 1) w1.heap.size 3 3 A bs [-1000, 1000, 5] _ (hr1.under (b_alloc w1 (.cells (ints [-1000, 1000, 5]) 3)) (by omega)) (by omega) rfl (by omega) (by omega) (by omega) (by rw [size_alloc_]; omega) hc0).mono ?_
    rintro e w3 ⟨x1, rfl, -, hr3, hb3⟩
    have hC2 := HC1.out.below (b_alloc w1 (.cells (ints [-1000, 1000, 5]) 3))
    have hC3 := hC2.butG hb3 hgB (by omega)
    have hT2 := HT1.out.below_ (b_alloc w1 (.cells (ints [-1000, 1000, 5]) 3)) HT1.out.lt
    have hT3 := hT2.butG hb3 (by omega)
    have hb13 := HB1.out.go ((below_butG (b_alloc w1 (.cells (ints [-1000, 1000, 5]) 3)) g).go hb3)
    have hs13 := hb13.size
    have hbl3 := hC3.blk
    clear hc0 hC2 hT2 hb3
    have hm := hbl3.at_ 3 rfl
    have hfz := hbl3.frozen 3
    have HX := Lib.hid (And.intro (hC3.bound x1) (And.intro (hT3.far (g := w.heap.size) (j := 3) (u := .int .i64 x1) (by omega)) (And.intro (hr3.set (b := w.heap.size) (by omega) 3 (.int .i64 x1)) (hb13.setHi (b := w.heap.size) (Nat.le_refl _) 3 (.int .i64 x1)))))
    clear hC3 hT3 hr3 hb13 hbl3
    obtain ⟨w4, hw4⟩ : ∃ w4, w3.setCell ⟨w.heap.size, 3, none⟩ (.int .i64 x1) = w4 := ⟨_, rfl⟩
    rw [hw4] at HX
    obtain ⟨hC, hT, hd, hbt⟩ := HX.out
    have z0 : w4.cell? ⟨w.heap.size, 0, none⟩ = some (.int .i64 (k.kind)) := hC.blk.at_ 0 rfl
    have y0 : w4.cell? ⟨w.heap.size + 1, 0, none⟩ = some (.int .i64 0) := hT.at_ 0 rfl
    have f0 := hT.frozen 0
    have z1 : w4.cell? ⟨w.heap.size, 1, none⟩ = some (.slice A1 nv c1) := hC.blk.at_ 1 rfl
    have y1 : w4.cell? ⟨w.heap.size + 1, 1, none⟩ = some (.slice none 0 0) := hT.at_ 1 rfl
    have f1 := hT.frozen 1
    have z2 : w4.cell? ⟨w.heap.size, 2, none⟩ = some (.slice A2 na c2) := hC.blk.at_ 2 rfl
    have y2 : w4.cell? ⟨w.heap.size + 1, 2, none⟩ = some (.slice none 0 0) := hT.at_ 2 rfl
    have f2 := hT.frozen 2
    have z3 : w4.cell? ⟨w.heap.size, 3, none⟩ = some (.int .i64 (x1)) := hC.blk.at_ 3 rfl
    have y3 : w4.cell? ⟨w.heap.size + 1, 3, none⟩ = some (.int .i64 0) := hT.at_ 3 rfl
    have f3 := hT.frozen 3
    have z4 : w4.cell? ⟨w.heap.size, 4, none⟩ = some (.slice A3 nr c3) := hC.blk.at_ 4 rfl
    have y4 : w4.cell? ⟨w.heap.size + 1, 4, none⟩ = some (.slice none 0 0) := hT.at_ 4 rfl
    have f4 := hT.frozen 4
    have hF := Lib.hid (CS.finish2 hC hT rfl (by omega) hd (by omega) (Nat.le_succ _) hbt rfl)
    clear hC hT hbt
    go_wp2_with fail
    generalize (((((w4.setCell ⟨w.heap.size + 1, 0, none⟩ (.int .i64 (k.kind))).setCell ⟨w.heap.size + 1, 1, none⟩ (.slice A1 nv c1)).setCell ⟨w.heap.size + 1, 2, none⟩ (.slice A2 na c2)).setCell ⟨w.heap.size + 1, 3, none⟩ (.int .i64 (x1))).setCell ⟨w.heap.size + 1, 4, none⟩ (.slice A3 nr c3)) = wf at hF ⊢
    obtain ⟨⟨t0, t1, t2, t3, t4⟩, ho, hrd, hbf⟩ := hF.out
    refine bodyPost_ret (v := .agg #[.int .i64 (k.kind), .slice A1 nv c1, .slice A2 na c2, .int .i64 (x1), .slice A3 nr c3]) ?_ rfl ?_
    · simp [results, Try.results122, go_sem, t0, t1, t2, t3, t4]
    · exact ⟨_, _, _, rfl, ho, by first | exact ⟨Nat.le_succ _, Nat.le_succ _, rfl⟩ | exact ⟨by simp, Nat.le_succ _, rfl⟩ | exact ⟨Nat.le_succ _, by simp, rfl⟩, by omega, hrd, hbf⟩
  have n3 : (r == 3) = false := by simpa using e3
  go_wp2_with fail
  have hc0 := lit_cells w1 [-1, 4]
  refine (one base g n c (p + 1) w1.heap.size 2 2 A bs [-1, 4] _ (hr1.under (b_alloc w1 (.cells (ints [-1, 4]) 3)) (by omega)) (by omega) rfl (by omega) (by omega) (by omega) (by rw [size_alloc_]; omega) hc0).mono ?_
  rintro e w3 ⟨x1, rfl, -, hr3, hb3⟩
  have hC2 := HC1.out.below (b_alloc w1 (.cells (ints [-1, 4]) 3))
  have hC3 := hC2.butG hb3 hgB (by omega)
  have hT2 := HT1.out.below_ (b_alloc w1 (.cells (ints [-1, 4]) 3)) HT1.out.lt
  have hT3 := hT2.butG hb3 (by omega)
  have hb13 := HB1.out.go ((below_butG (b_alloc w1 (.cells (ints [-1, 4]) 3)) g).go hb3)
  have hs13 := hb13.size
  have hbl3 := hC3.blk
  clear hc0 hC2 hT2 hb3
  have hK := CS.putV (xs := [x1]) hC3 hT3 hr3 hb13 (b_alloc w3 (.cells #[.int .i64 x1] 3)) (World.ownsRow_lit w3 #[.int .i64 x1] 1 (Nat.le_refl _) (by decide) rfl) rfl (by omega) (by omega) hg
  obtain ⟨A5, c5, w6, hv, hw6, q2, qf, ⟨z0, z1, z2, z3, z4⟩, ⟨y0, y1, y2, y3, y4⟩, ⟨f0, f1, f2, f3, f4⟩, zs6, hX⟩ := hK
  injection hv with hv1 hv2 hv3
  subst hv1 hv3
  clear hC3 hT3 hr3 hb13 hbl3
  go_wp2_with fail
  obtain ⟨hC, hT, hd, hbt⟩ := hX.out
  have hF := Lib.hid (CS.finish2 hC hT rfl (by omega) hd (by omega) (Nat.le_succ _) hbt rfl)
  clear hC hT hbt
  generalize (((((w6.setCell ⟨w.heap.size + 1, 0, none⟩ (.int .i64 (k.kind))).setCell ⟨w.heap.size + 1, 1, none⟩ (.slice (some ⟨w3.heap.size, 0, none⟩) 1 1)).setCell ⟨w.heap.size + 1, 2, none⟩ (.slice A2 na c2)).setCell ⟨w.heap.size + 1, 3, none⟩ (.int .i64 (k.bound))).setCell ⟨w.heap.size + 1, 4, none⟩ (.slice A3 nr c3)) = wf at hF ⊢
  obtain ⟨⟨t0, t1, t2, t3, t4⟩, ho, hrd, hbf⟩ := hF.out
  refine bodyPost_ret (v := .agg #[.int .i64 (k.kind), .slice (some ⟨w3.heap.size, 0, none⟩) 1 1, .slice A2 na c2, .int .i64 (k.bound), .slice A3 nr c3]) ?_ rfl ?_
  · simp [results, Try.results122, go_sem, t0, t1, t2, t3, t4]
  · exact ⟨_, _, _, rfl, ho, by first | exact ⟨Nat.le_succ _, Nat.le_succ _, rfl⟩ | exact ⟨by simp, Nat.le_succ _, rfl⟩ | exact ⟨Nat.le_succ _, by simp, rfl⟩, by omega, hrd, hbf⟩
end Go.Proofs.Ytfmdgdamelkelaa
