/- spec's search: a node, and all below it. -/
import Derived.Test.YtejfnkbdmlijbaaFix
import Derived.Test.YtejfnkbdmlijbaaExt
namespace Go.Proofs.Ytejfnkbdmlijbaa
open Go.ChangeShapes Go.WideShapes Go.ChangeAt Go.RowKit
open Go.Shelf
set_option linter.unusedVariables false
set_option linter.unusedSimpArgs false
set_option maxRecDepth 100000
attribute [local go_sem] Oper.semAt_some

theorem cntD_pos64 : ∀ a : Fin 64, a ≠ 0 → 0 < cntD a.val := by decide +kernel
theorem cntD_pow64 : ∀ a : Fin 64, ∀ k : Fin 6, hasB a.val k.val = true → cntD (2 ^ k.val) = 1 ∧ (∀ u : Fin 6, hasB (2 ^ k.val) u.val = true → hasB a.val u.val = true) := by decide +kernel
theorem cntD_pos {d : Int} (h0 : 0 ≤ d) (h1 : d ≤ 63) (hz : d ≠ 0) : 0 < (valsTo d 6).length := by
  obtain ⟨x, rfl⟩ := dom_fin h0 h1
  exact cntD_pos64 x (fun e => hz (by rw [e]; rfl))
theorem pow_in64 : ∀ k : Fin 6, (0 : Int) ≤ 2 ^ k.val ∧ (2 : Int) ^ k.val ≤ 63 := by decide +kernel
theorem pow_in {v : Int} (h0 : 0 ≤ v) (h1 : v ≤ 5) : (0 : Int) ≤ 2 ^ v.toNat ∧ (2 : Int) ^ v.toNat ≤ 63 := pow_in64 ⟨v.toNat, by omega⟩
theorem hasZ_gat {ds : List Int} (h : hasZ ds = false) {j : Nat} {x : Int} (hx : ds[j]? = some x) : x ≠ 0 := by
  rintro rfl
  have : hasZ ds = true := List.any_eq_true.2 ⟨0, List.mem_of_getElem? hx, rfl⟩
  rw [h] at this; cases this
theorem doms_set2 {S : List Int} (h : Doms S) {a : Int} (ha : 0 ≤ a ∧ a ≤ 63) (j : Nat) : Doms (S.set j a) := fun y hy => by
  rcases List.mem_or_eq_of_mem_set hy with h1 | h1
  · exact h y h1
  · rw [h1]; exact ha
/-- one domain fixed: fewer values. -/
theorem card_fix {ds : List Int} (hd : Doms ds) {j : Nat} {x v : Int} (hx : ds[j]? = some x) (h1 : (valsTo x 6).length ≠ 1) (hv : v ∈ valsTo x 6) : card (ds.set j (2 ^ v.toNat)) < card ds ∧ Doms (ds.set j (2 ^ v.toNat)) := by
  have hxd := hd x (List.mem_of_getElem? hx)
  obtain ⟨v0, v1, v2⟩ := valsTo_mem hv
  have hj : j < ds.length := (List.getElem?_eq_some_iff.1 hx).1
  obtain ⟨y, hy⟩ := dom_fin hxd.1 hxd.2
  have hvn : v.toNat < 6 := by omega
  have hvi : ((v.toNat : Nat) : Int) = v := by omega
  obtain ⟨c1, c2⟩ := cntD_pow64 y ⟨v.toNat, hvn⟩ (by show hasB (y.val : Int) ((v.toNat : Nat) : Int) = true; rw [hvi, ← hy]; exact v2)
  have hp := pow_in v0 (by omega)
  have hD := doms_set2 hd hp j
  have hs : SubD (ds.set j (2 ^ v.toNat)) ds := by
    intro i hi u u0 u1 hb
    rw [List.length_set] at hi
    rw [gat_set hj] at hb
    by_cases e : j = i
    · subst e
      rw [if_pos rfl] at hb
      rw [gat_eq hx, hy]
      have := c2 ⟨u.toNat, by omega⟩ (by show hasB _ ((u.toNat : Nat) : Int) = true; rw [show ((u.toNat : Nat) : Int) = u by omega]; exact hb)
      rw [show ((((⟨u.toNat, by omega⟩ : Fin 6).val) : Nat) : Int) = u by show ((u.toNat : Nat) : Int) = u; omega] at this
      exact this
    · rw [if_neg e] at hb; exact hb
  obtain ⟨k1, k2⟩ := card_sub _ _ (List.length_set) hD hd hs
  refine ⟨?_, hD⟩
  rcases Nat.lt_or_ge (card (ds.set j (2 ^ v.toNat))) (card ds) with h | h
  · exact h
  · have e := k2 (by omega)
    have : gat (ds.set j (2 ^ v.toNat)) j = gat ds j := by rw [e]
    rw [gat_set hj, if_pos rfl, gat_eq hx] at this
    refine (h1 ?_).elim
    rw [← this]
    exact c1
theorem card_le {S W : List Int} (hl : S.length = W.length) (hs : Doms S) (hw : Doms W) (h : SubD S W) : card S ≤ card W := (card_sub S W hl hs hw h).1
theorem fix_sub {cs : List Con} {ds : List Int} (hv : DiffC cs ds.length) (hd : Doms ds) : card (fixF cs ds) ≤ card ds := by
  obtain ⟨a1, a2, a3, -⟩ := lim_ok cs _ ds (Nat.le_refl _) hv hd
  unfold fixF
  split
  · rename_i hz
    have h2 : ∀ n, card (zerosF n) = 0 := fun n => by
      unfold card zerosF
      rw [List.map_replicate]
      have : cntD 0 = 0 := by decide
      rw [this]
      induction n with
      | zero => rfl
      | succ n ih => rw [List.replicate_succ, List.sum_cons, ih]
    rw [h2]; exact Nat.zero_le _
  · exact card_le a1 a2 hd a3
/-- the blocks of numbers stay. -/
def KI (W W' : World) : Prop := ∀ b cs, TBlk 3 W b cs → TBlk 3 W' b cs
theorem KI.refl (W : World) : KI W W := fun _ _ h => h
theorem KI.trans {a b c : World} (h : KI a b) (k : KI b c) : KI a c := fun _ _ x => k _ _ (h _ _ x)
theorem KI.of_below {W W' : World} (h : Below W.heap.size W W') : KI W W' := fun _ _ x => x.below_ h x.lt
theorem KI.store {W W' : World} {t : TypeId} {b j : Nat} {cs : Array Value} {u : Value} (ht : t ≠ 3) (hb : TBlk t W' b cs) (h : KI W W') : KI W (W'.setCell ⟨b, j, none⟩ u) := fun c ds x => (h c ds x).far ((h c ds x).ne hb (Ne.symm ht))
theorem KI.grown {W W' W'' : World} {base n size : Nat} {e : TypeId} {v : Value} {xs : List Value} (hne : 3 ≠ e) (h : KI W W') (ho : W'.ownsRow base e size v n xs) (hg : W'.grownBy W'' v.ownBlock) : KI W W'' := fun c ds x => TBlk.grown hne (h c ds x) ho hg
theorem HoldR.ki {W W' : World} {base n : Nat} {v : Value} {xs : List Value} (h : HoldR W base 3 1 v n xs) (k : KI W W') : HoldR W' base 3 1 v n xs :=
  ⟨h.1, h.2.imp id fun ⟨g, cap, cur, h1, h2, h3, r⟩ => ⟨g, cap, cur, h1, h2, k _ _ h3, r⟩⟩
theorem OwnI.ki {W W' : World} {base : Nat} {v : Value} {xs : List Int} (h : OwnI 3 W base v xs) (k : KI W W') : OwnI 3 W' base v xs :=
  ⟨⟨h.1.1, h.1.2.imp id fun ⟨g, cap, cur, h1, h2, h3, r⟩ => ⟨g, cap, cur, h1, h2, k _ _ h3, r⟩⟩, h.2⟩
theorem int_blk {w : World} {n base : Nat} {A : Option Addr} {c : Nat} {xs : List Int} (h : HoldR w base 3 1 (.slice A n c) n (xs.map (.int .i64))) (hn : n ≤ 9223372036854775807) : IntR w w.heap.size A n xs := by
  obtain ⟨A', c', e, hi⟩ := IntR.of_hold h hn
  injection e with e1 _ _
  subst e1
  exact hi
/-- rows of this length. -/
def RowsN (n : Nat) (rows : List (List Int)) : Prop := ∀ x ∈ rows, x.length = n
/-- what a finder's block and what it found are. -/
structure Fd (w0 W : World) (fB nc n lim : Nat) (m : Mod) (da ca : Option Addr) (cd cc : Nat) (nodes : Int) (fa : Option Addr) (fc : Nat) (rows : List (List Int)) : Prop where
  below : Below w0.heap.size w0 W
  blk : TBlk 116 W fB #[.slice da n cd, .slice ca nc cc, .int .i64 lim, .int .i64 nodes, .slice fa rows.length fc]
  own : OwnOf 23 (OwnI 3) W w0.heap.size (.slice fa rows.length fc) rows
  rowsn : RowsN n rows
theorem Fd.on {w0 W W' : World} {fB nc n lim : Nat} {m : Mod} {da ca : Option Addr} {cd cc : Nat} {nodes : Int} {fa : Option Addr} {fc : Nat} {rows : List (List Int)} (h : Fd w0 W fB nc n lim m da ca cd cc nodes fa fc rows) (hb : Below W.heap.size W W') : Fd w0 W' fB nc n lim m da ca cd cc nodes fa fc rows :=
  ⟨bgo h.below hb, h.blk.below_ hb h.blk.lt, (OwnOf.stays (OwnI.stays 3)).below _ _ _ _ _ hb h.own, h.rowsn⟩
/-- where the domains of a node lie: in the world at the start, or in a row of the search's own. -/
def ArgD (w0 W : World) (A : Option Addr) (n dc : Nat) (ds : List Int) : Prop := IntR w0 w0.heap.size A n ds ∨ HoldR W w0.heap.size 3 1 (.slice A n dc) n (ds.map (.int .i64))
theorem ArgD.int {w0 W : World} {A : Option Addr} {n dc : Nat} {ds : List Int} (h : ArgD w0 W A n dc ds) (hb : Below w0.heap.size w0 W) (hn : n ≤ 4) : IntR W W.heap.size A n ds := by
  rcases h with h | h
  · exact IntR.on h hb
  · exact int_blk h (by omega)
theorem ArgD.ki {w0 W W' : World} {A : Option Addr} {n dc : Nat} {ds : List Int} (h : ArgD w0 W A n dc ds) (k : KI W W') : ArgD w0 W' A n dc ds := h.imp id fun h => h.ki k
theorem ArgD.len {w0 W : World} {A : Option Addr} {n dc : Nat} {ds : List Int} (h : ArgD w0 W A n dc ds) : ds.length = n := by
  rcases h with h | h
  · exact h.len
  · have := h.1; simpa using this
set_option maxHeartbeats 4000000 in
theorem sbranch (fB nc n lim : Nat) (m : Mod) (da ca : Option Addr) (cd cc : Nat) (w0 : World) (hm : ModR w0 w0.heap.size [.slice da n cd, .slice ca nc cc] m) (hn1 : 1 ≤ n) (hn4 : n ≤ 4) (h6 : m.cons.length ≤ 6) (hcs : ∀ c ∈ m.cons, vconF c (n : Int) = true) (hfB : w0.heap.size ≤ fB) (hlim : lim ≤ 1000) :
    ∀ (r : Nat) (ds : List Int) (A : Option Addr) (dc : Nat) (W : World) (nodes : Int) (fa : Option Addr) (fc : Nat) (rows : List (List Int)), card ds < r → ArgD w0 W A n dc ds → Doms ds → Fd w0 W fB nc n lim m da ca cd cc nodes fa fc rows → rows.length < lim →
      Calls Try.prog 117 #[.pointer (some ⟨fB, 0, none⟩), .slice A n dc] W fun e W' => (∃ v, e = .returned v) ∧ ∃ (nodes' : Int) (fa' : Option Addr) (fc' : Nat) (rows' : List (List Int)), Fd w0 W' fB nc n lim m da ca cd cc nodes' fa' fc' rows' ∧ rows'.length ≤ lim ∧ KI W W' ∧ W.heap.size ≤ W'.heap.size := by
  obtain ⟨i0, hi0, hz0, hz1, hz2⟩ := info_parts info_int
  obtain ⟨i1, hi1, hy0, hy1, hy2⟩ := info_parts (P := Try.prog) (e := 23) (z := .slice none 0 0) (size := 1) (bytes := 24) (by kernel_rfl)
  have HM := Lib.hid hm
  have HCS := Lib.hid hcs
  have HDC := Lib.hid (show DiffC m.cons n from fun c hc => vcon_diff (hcs c hc) hn4)
  clear hm hcs
  intro r
  induction r with
  | zero => intro ds A dc W nodes fa fc rows hr; omega
  | succ r ih =>
    have IH := Lib.hid ih
    clear ih
    intro ds A dc W nodes fa fc rows hr hx hdd hF hrl
    have HDD := Lib.hid hdd
    have hlx := hx.len
    obtain ⟨D, hD⟩ : ∃ D, fixF m.cons ds = D := ⟨_, rfl⟩
    have HD := Lib.hid hD
    have hdx : DiffC m.cons ds.length := by rw [hlx]; exact HDC.out
    have HDl := Lib.hid (show D.length = n by rw [← hD, fix_len hdx hdd, hlx])
    have HDd := Lib.hid (show Doms D by rw [← hD]; exact fix_doms hdx hdd)
    have hDc : card D ≤ card ds := by rw [← hD]; exact fix_sub hdx hdd
    clear hD hdx
    have b3 := hF.blk.at_ 3 rfl
    have f3 := hF.blk.frozen 3
    obtain ⟨nr, hnr⟩ : ∃ nr, rows.length = nr := ⟨_, rfl⟩
    have HNR := Lib.hid hnr
    obtain ⟨nd', hnd'⟩ : ∃ nd', wrap64 (nodes + 1) = nd' := ⟨_, rfl⟩
    have hS1 : TBlk 116 (W.setCell ⟨fB, 3, none⟩ (.int .i64 nd')) fB #[.slice da n cd, .slice ca nc cc, .int .i64 lim, .int .i64 nd', .slice fa rows.length fc] := hF.blk.store 3 (.int .i64 nd')
    have hK1 : KI W (W.setCell ⟨fB, 3, none⟩ (.int .i64 nd')) := KI.store (show (116 : TypeId) ≠ 3 by decide) hF.blk (KI.refl W)
    have hB1 : Below w0.heap.size w0 (W.setCell ⟨fB, 3, none⟩ (.int .i64 nd')) := hF.below.setCell hfB _
    have hO1 := OwnOf.shuns (t := 116) (e := 23) (by decide) (OwnI.shuns (e := 3) (by decide)) _ _ _ _ _ 3 _ _ (.int .i64 nd') hF.blk hF.own
    obtain ⟨W1, hW1⟩ : ∃ W1, W.setCell ⟨fB, 3, none⟩ (.int .i64 nd') = W1 := ⟨_, rfl⟩
    have hz1' : W1.heap.size = W.heap.size := by rw [← hW1]; simp
    rw [hW1] at hS1 hK1 hB1 hO1
    have hF1 : Fd w0 W1 fB nc n lim m da ca cd cc nd' fa fc rows := ⟨hB1, hS1, hO1, hF.rowsn⟩
    have HF1 := Lib.hid hF1
    have HK1 := Lib.hid hK1
    have HX1 := Lib.hid ((hx.ki hK1).int hB1 hn4)
    have c0 := hS1.at_ 0 rfl
    have c1 := hS1.at_ 1 rfl
    have HZ1 := Lib.hid hz1'
    clear hx hdd hF hF1 hS1 hO1 hK1 hz1' hnr
    go_enter Try.func117, Try.ntmps117
    go_wp2_with fail
    clear hW1 b3 f3
    refine (sfixpoint [.slice da n cd, .slice ca nc cc] m ds _ n _ W1 (ModR.on HM.out hB1) HX1.out hn1 hn4 h6 HCS.out HDD.out).mono ?_
    rintro e W2 ⟨v2, rfl, hh2, hb2⟩
    rw [HD.out] at hh2
    obtain ⟨B2, c2, rfl⟩ := hh2.form
    have HH2 := Lib.hid (hh2.base_ (base' := w0.heap.size) hB1.size)
    have HF2 := Lib.hid (HF1.out.on hb2)
    have HK2 := Lib.hid (HK1.out.trans (KI.of_below hb2))
    have hs2 : W.heap.size ≤ W2.heap.size := by have := hb2.size; rw [HZ1.out] at this; exact this
    clear hb2 hh2 HF1 HK1 HX1 HZ1 c0 c1 hB1
    go_wp2_with fail
    refine (shasEmpty _ _ _ D W2 (int_blk HH2.out (by omega))).mono ?_
    rintro e W2' ⟨rfl, rfl⟩
    cases te : decide ((0 : Int) ∈ D)
    case true =>
      go_wp2_with fail
      refine bodyPost_ret (results_none rfl _ _ _) rfl ?_
      exact ⟨⟨_, rfl⟩, _, _, _, _, HF2.out, by omega, HK2.out, hs2⟩
    have hz := Lib.hid (show hasZ D = false by rw [← zmem_iff]; exact te)
    clear te
    go_wp2_with fail
    have HBr := Lib.hid (Below.refl W2.heap.size W2)
    go_loopw [5] (fun i wr => ∃ j : Nat, j ≤ n ∧ i = .int .i64 j ∧ Hid (Below W2.heap.size W2 wr)) (fun i _ => n - (intOf i).toNat)
    case atStart => exact ⟨0, by omega, rfl, HBr⟩
    case round =>
      obtain ⟨j, hj, rfl, hbr⟩ := hrel
      clear HBr
      rename World => wr
      have HHr := Lib.hid (HH2.out.below hbr.out)
      have HFr := Lib.hid (HF2.out.on hbr.out)
      have HKr := Lib.hid (HK2.out.trans (KI.of_below hbr.out))
      have hsr : W.heap.size ≤ wr.heap.size := Nat.le_trans hs2 hbr.out.size
      by_cases hlt : j < n
      · obtain ⟨ab, ao, x, e2, hab, hxk, hcx⟩ := IntR.at_ (int_blk HHr.out (by omega)) hlt
        subst e2
        have HXK := Lib.hid hxk
        have hx0 := HDd.out x (List.mem_of_getElem? hxk)
        have hxp : 0 ≤ x := hx0.1
        clear hxk hx0
        go_wp2_with fail
        refine (sdomainValues x hxp wr).mono ?_
        rintro e w3 ⟨v3, rfl, o3, hb3⟩
        have hv6 := valsTo_len x 6
        obtain ⟨nv, hnv⟩ : ∃ nv, (valsTo x 6).length = nv := ⟨_, rfl⟩
        have HNV := Lib.hid hnv
        rw [hnv] at o3 hv6
        clear hnv
        obtain ⟨A3, c3, rfl, -⟩ := IntR.of_own o3 (by omega)
        have HB3 := Lib.hid (bgo hbr.out hb3)
        have hcx3 := (hb3.cell (p := ⟨ab, ao + j, none⟩) hab).trans hcx
        have hab3 : ab < w3.heap.size := Nat.lt_of_lt_of_le hab hb3.size
        have HH3 := Lib.hid (HHr.out.below hb3)
        have HF3 := Lib.hid (HFr.out.on hb3)
        have HK3 := Lib.hid (HKr.out.trans (KI.of_below hb3))
        have hs3 : W.heap.size ≤ w3.heap.size := Nat.le_trans hsr hb3.size
        clear o3 hb3 hcx hbr HHr HFr HKr hsr
        by_cases hs : nv = 1
        · have hs1 : ((nv : Int) == 1) = true := by simp; omega
          clear hs
          go_wp2_with fail
          go_roundw
          case rel => exact ⟨j + 1, by omega, by go_num, HB3⟩
          case measure => simp [intOf]; omega
        · have hs1 : ((nv : Int) == 1) = false := by simp; omega
          have HS := Lib.hid (show (valsTo x 6).length ≠ 1 by rw [HNV.out]; exact hs)
          have hjn : ((j : Int) == (n : Int)) = false := by simp; omega
          clear hs HH2 HF2 HK2 HB3
          go_wp2_with fail
          refine (sdomainValues x hxp w3).mono ?_
          rintro e w4 ⟨v4, rfl, o4, hb4⟩
          rw [HNV.out] at o4
          obtain ⟨A4, c4, rfl, -⟩ := IntR.of_own o4 (by omega)
          have HL4 := Lib.hid (HoldR.of_own o4)
          have HH4 := Lib.hid (HH3.out.below hb4)
          have HF4 := Lib.hid (HF3.out.on hb4)
          have HK4 := Lib.hid (HK3.out.trans (KI.of_below hb4))
          have hs4 : W.heap.size ≤ w4.heap.size := Nat.le_trans hs3 hb4.size
          clear o4 hb4 HH3 HF3 HK3 hs3 hcx3 hab3 hab
          go_wp2_with fail
          have HKI0 := Lib.hid (KI.refl w4)
          have hrl2 : rows.length ≤ lim := by omega
          go_loopw [9] (fun i wy => ∃ (q : Nat) (no : Int) (fa2 : Option Addr) (fc2 : Nat) (rows2 : List (List Int)), q ≤ nv ∧ i = .int .i64 q ∧ Hid (Fd w0 wy fB nc n lim m da ca cd cc no fa2 fc2 rows2) ∧ rows2.length ≤ lim ∧ Hid (KI w4 wy) ∧ w4.heap.size ≤ wy.heap.size) (fun i _ => nv - (intOf i).toNat)
          case atStart => exact ⟨0, _, _, _, _, by omega, rfl, HF4, hrl2, HKI0, Nat.le_refl _⟩
          case round =>
            obtain ⟨q, no, fa2, fc2, rows2, hq, rfl, hFy, hry, hKy, hsy⟩ := hrel
            clear HF4 HKI0 hrl2
            rename World => wy
            obtain ⟨n2, hn2⟩ : ∃ n2, rows2.length = n2 := ⟨_, rfl⟩
            have HN2 := Lib.hid hn2
            have y2 : wy.cell? ⟨fB, 2, none⟩ = some (.int .i64 lim) := hFy.out.blk.at_ 2 rfl
            have y4 : wy.cell? ⟨fB, 4, none⟩ = some (.slice fa2 rows2.length fc2) := hFy.out.blk.at_ 4 rfl
            rw [hn2] at y4 hry
            clear hn2
            by_cases hqn : q < nv
            · by_cases hrn : n2 < lim
              · have tl : decide ((n2 : Int) < (lim : Int)) = true := decide_eq_true (by omega)
                have tq : decide ((q : Int) < (nv : Int)) = true := decide_eq_true (by omega)
                go_wp2_with fail
                go_quiet (fail)
                go_wp2_with fail
                have HBq := Lib.hid (show Below wy.heap.size wy (wy.drewN nq) from below_drewN (Below.refl _ _) nq)
                have HHq := Lib.hid ((HH4.out.ki hKy.out).below HBq.out)
                have HLq := Lib.hid ((HL4.out.ki hKy.out).below HBq.out)
                have HFq := Lib.hid (hFy.out.on HBq.out)
                have HKq := Lib.hid (hKy.out.trans (KI.of_below HBq.out))
                have hzq : (wy.drewN nq).heap.size = wy.heap.size := rfl
                have hw0y := hFy.out.below.size
                clear y2 y4 hFy hKy
                refine (scopyRF _ _ _ D _ (int_blk HHq.out (by omega)) (by omega) (by omega)).mono ?_
                rintro e w5 ⟨v5, rfl, o5, hb5⟩
                have o6 := o5.1
                rw [HDl.out] at o6
                obtain ⟨g5, c5, rfl, hg5⟩ : ∃ g5 c5 : Nat, v5 = .slice (some ⟨g5, 0, none⟩) n c5 ∧ wy.heap.size ≤ g5 := by
                  rcases o6.2 with ⟨_, h7⟩ | ⟨gd, cap, cur, hv, hgd, -⟩
                  · omega
                  · exact ⟨gd, cap, hv, hgd⟩
                have hL5 := HLq.out.below hb5
                obtain ⟨gL, eL, -, -⟩ := hL5.pos (by omega)
                subst eL
                obtain ⟨vq, hvq⟩ : ∃ vq, (valsTo x 6)[q]? = some vq := ⟨_, List.getElem?_eq_getElem (by rw [HNV.out]; exact hqn)⟩
                have hcl := hL5.cellAt q (by omega)
                rw [List.getElem?_map, hvq] at hcl
                simp only [Option.map_some] at hcl
                have hmem := List.mem_of_getElem? hvq
                obtain ⟨hv0, hv5, -⟩ := valsTo_mem hmem
                obtain ⟨mv, rfl⟩ := Int.eq_ofNat_of_zero_le hv0
                have hwr := wrap_pow (v := (mv : Int)) (by omega) (by omega)
                rw [Int.toNat_natCast] at hwr
                have hco := o6.cellAt j (by omega)
                rw [List.getElem?_map, HXK.out] at hco
                simp only [Option.map_some] at hco
                have hfo := o6.frozenAt j
                have hst := (o6.stored j (.int .i64 ((2 : Int) ^ mv))).1
                rw [← List.map_set] at hst
                obtain ⟨hcard, hDs⟩ := card_fix HDd.out HXK.out HS.out hmem
                rw [Int.toNat_natCast] at hcard hDs
                have hb6 : Below (wy.drewN nq).heap.size (wy.drewN nq) (w5.setCell ⟨g5, j, none⟩ (.int .i64 ((2 : Int) ^ mv))) := hb5.setCell (by rw [hzq]; exact hg5) _
                obtain ⟨W6, hW6⟩ : ∃ W6, w5.setCell ⟨g5, j, none⟩ (.int .i64 ((2 : Int) ^ mv)) = W6 := ⟨_, rfl⟩
                rw [hW6] at hst hb6
                have HI := Lib.hid (IH.out (D.set j ((2 : Int) ^ mv)) (some ⟨g5, 0, none⟩) c5 W6 no fa2 fc2 rows2 (by omega) (.inr (HoldR.of_own (own_base hst (by rw [hzq]; exact hw0y)))) hDs (HFq.out.on hb6) (by rw [HN2.out]; exact hrn))
                have HK6 := Lib.hid (HKq.out.trans (KI.of_below hb6))
                have hs6 : w4.heap.size ≤ W6.heap.size := Nat.le_trans hsy hb6.size
                clear hL5 o5 o6 hb5 hb6 hst hcard hDs hmem hvq HHq HFq
                go_wp2_with fail
                refine HI.out.mono ?_
                rintro e W7 ⟨⟨v7, rfl⟩, no7, fa7, fc7, rows7, hF7, hr7, hK7, hs7⟩
                have HF7 := Lib.hid hF7
                have HK7 := Lib.hid (HK6.out.trans hK7)
                clear hcl hco hfo hW6 HI hF7 hK7
                go_wp2_with fail
                go_roundw
                case rel => exact ⟨q + 1, no7, fa7, fc7, rows7, by omega, by go_num, HF7, hr7, HK7, Nat.le_trans hs6 hs7⟩
                case measure => simp [intOf]; omega
              · have tl : decide ((n2 : Int) < (lim : Int)) = false := decide_eq_false (by omega)
                have tq : decide ((q : Int) < (nv : Int)) = true := decide_eq_true (by omega)
                go_wp2_with fail
                go_quiet (fail)
                go_wp2_with fail
                refine bodyPost_end (results_none rfl _ _ _) rfl ?_
                exact ⟨⟨_, rfl⟩, _, _, _, _, hFy.out.on (below_drewN (Below.refl _ _) _), by rw [HN2.out]; exact hry, HK4.out.trans (hKy.out.trans (KI.of_below (below_drewN (Below.refl _ _) _))), Nat.le_trans hs4 hsy⟩
            · obtain rfl : q = nv := by omega
              have tq : decide ((q : Int) < (q : Int)) = false := by simp
              go_wp2_with fail
              go_quiet (fail)
              go_wp2_with fail
              refine bodyPost_end (results_none rfl _ _ _) rfl ?_
              exact ⟨⟨_, rfl⟩, _, _, _, _, hFy.out.on (below_drewN (Below.refl _ _) _), by rw [HN2.out]; exact hry, HK4.out.trans (hKy.out.trans (KI.of_below (below_drewN (Below.refl _ _) _))), Nat.le_trans hs4 hsy⟩
      · have hjn : ((j : Int) == (n : Int)) = true := by simp; omega
        go_wp2_with fail
        have ho : (wr.alloc (.cells #[] 3)).ownsRow wr.heap.size 3 1 (.slice (some ⟨wr.heap.size, 0, none⟩) 0 0) 0 (([] : List Int).map (.int .i64)) := World.ownsRow_lit wr #[] 0 (Nat.le_refl _) (by decide) rfl
        have HO0 := Lib.hid ho
        have HB0 := Lib.hid (b_alloc wr (.cells #[] 3))
        clear ho
        go_loopw [6, 7] (fun v i wy => ∃ (k : Nat) (v' : Value) (xs : List Int), k ≤ n ∧ i = .int .i64 k ∧ v' = v ∧ Hid (xs.length = k) ∧ Hid (wy.ownsRow wr.heap.size 3 1 v' k (xs.map (.int .i64))) ∧ Hid (Below wr.heap.size wr wy)) (fun _ i _ => n - (intOf i).toNat)
        case atStart => exact ⟨0, _, [], by omega, rfl, rfl, Lib.hid rfl, HO0, HB0⟩
        case round =>
          obtain ⟨k, v, xs, hk, rfl, rfl, hl, hq, hbk⟩ := hrel
          clear HO0 HB0
          rename World => wy
          have hzy := hbk.out.size
          by_cases hkn : k < n
          · obtain ⟨ab, ao, x, e2, hab, hxk, hcx⟩ := IntR.at_ (IntR.on (int_blk HHr.out (by omega)) hbk.out) hkn
            subst e2
            have hx0 := HDd.out x (List.mem_of_getElem? hxk)
            have hxp : 0 ≤ x := hx0.1
            have hnp := cntD_pos hx0.1 hx0.2 (hasZ_gat hz.out hxk)
            clear hxk hx0
            go_wp2_with fail
            refine (sdomainValues x hxp wy).mono ?_
            rintro e w5 ⟨v5, rfl, o5, hb5⟩
            obtain ⟨y, hy⟩ : ∃ y, (valsTo x 6)[0]? = some y := ⟨_, List.getElem?_eq_getElem hnp⟩
            have hv6 := valsTo_len x 6
            obtain ⟨nv, hnv⟩ : ∃ nv, (valsTo x 6).length = nv := ⟨_, rfl⟩
            rw [hnv] at o5 hnp hv6
            clear hnv
            obtain ⟨g5, c5, cur, rfl, hg5, hblk5, hcur⟩ := own_blk_int o5 hnp
            have hc5 := hblk5.at_ 0 (hcur 0 y hy)
            have hnp2 : (0 : Int) < (nv : Int) := by omega
            have hq5 := own_below hq.out hb5
            have hs5 := hb5.size
            clear hblk5 hcur hy o5 hq
            go_wp2_with (at_builtin; refine wpList_append_own _ rfl _ _ 23 rfl wr.heap.size 3 i0 _ 1 8 Try.underlying23 hi0 hz0 hz1 hz2 rfl (by decide) v _ _ rfl (hq5.alloc _) ⟨w5.heap.size, 0, none⟩ 1 1 [.int .i64 y] rfl rfl (cell_one_new _ _ _) (by simp [Value.oneCell']) (by unfold maxLen; omega) (by omega) (by rw [size_alloc_]; omega) ?_; intro v1 w6 hown hgr _)
            have hr0 := hq5.lt
            have hbw : Below wr.heap.size w5 w6 := ((Below.refl _ _).alloc (by omega) _).grown hgr (by rw [size_alloc_]; omega) (fun g hg => (hr0 g hg).1)
            have HO6 := Lib.hid (show w6.ownsRow wr.heap.size 3 1 v1 (k + 1) ((xs ++ [y]).map (.int .i64)) by simpa using hown)
            have HB6 := Lib.hid ((hbk.out.trans (hb5.mono hzy)).trans hbw)
            clear hown hgr hbw hc5 hcx
            go_roundw
            case rel => exact ⟨k + 1, v1, xs ++ [y], by omega, by go_num, rfl, Lib.hid (by rw [List.length_append, hl.out]; rfl), HO6, HB6⟩
            case measure => simp [intOf]; omega
          · obtain rfl : k = n := by omega
            obtain ⟨Bx, cx, rfl, -⟩ := IntR.of_own hq.out (by omega)
            have hFy := HFr.out.on hbk.out
            have y4 : wy.cell? ⟨fB, 4, none⟩ = some (.slice fa rows.length fc) := hFy.blk.at_ 4 rfl
            have hw0 := hFy.below.size
            obtain ⟨us, u1, u2, u3, u4⟩ := hFy.own
            have hFb := hFy.blk
            have HROW := Lib.hid (show OwnI 3 wy w0.heap.size (.slice Bx k cx) xs from ⟨by rw [hl.out]; exact own_base hq.out (by have := HFr.out.below.size; omega), by rw [hl.out]; omega⟩)
            rw [HNR.out] at y4 u2 hFb hrl
            have HFY := Lib.hid hFy
            have HU := Lib.hid (And.intro u1 (And.intro u2 u4))
            have HFB := Lib.hid hFb
            have hal := b_alloc wy (.cells #[.slice Bx k cx] 23)
            have HBL := Lib.hid hal
            have y4' : (wy.alloc (.cells #[.slice Bx k cx] 23)).cell? ⟨fB, 4, none⟩ = some (.slice fa nr fc) := (hFb.alloc_ _).at_ 4 rfl
            clear hFy u1 u3 u4 hFb hq hal
            go_wp2_with (at_builtin; refine wpList_append_own _ rfl _ _ 33 rfl w0.heap.size 23 i1 _ 1 24 Try.underlying33 hi1 hy0 hy1 hy2 rfl (by decide) (.slice fa nr fc) _ _ rfl (u2.alloc _) ⟨wy.heap.size, 0, none⟩ 1 1 [.slice Bx k cx] rfl rfl (cell_one_new _ _ _) (by simp [Value.oneCell']) (by unfold maxLen; omega) (by omega) (by rw [size_alloc_]; omega) ?_; intro v1 w7 hown hgr _; obtain ⟨A7, c7, rfl⟩ := (HoldR.of_own hown).form; have T7 := TBlk.grown (show (116 : TypeId) ≠ 23 by decide) (HFB.out.alloc_ _) (u2.alloc _) hgr; have d7 := T7.at_ 4 rfl; have f7 := T7.frozen 4; have HOWN := Lib.hid (And.intro hown (And.intro hgr T7)); clear hown hgr T7)
            obtain ⟨hown, hgr, T7⟩ := HOWN.out
            have hro : OwnOf 23 (OwnI 3) w7 w0.heap.size (.slice A7 (nr + 1) c7) (rows ++ [xs]) :=
              OwnRows.snoc (by decide) HU.out.1 (by rw [HNR.out]; exact own_below HU.out.2.1 HBL.out) (fun i u x hu hx => (OwnI.stays 3).below _ _ _ _ _ HBL.out (HU.out.2.2 i u x hu hx)) ((OwnI.stays 3).below _ _ _ _ _ HBL.out HROW.out) (by rw [HNR.out]; omega) (by rw [HNR.out]; exact hown) hgr
            have hrf := OwnOf.shuns (t := 116) (e := 23) (by decide) (OwnI.shuns (e := 3) (by decide)) _ _ _ _ _ 4 _ _ (.slice A7 (nr + 1) c7) T7 hro
            have hll : (rows ++ [xs]).length = nr + 1 := by rw [List.length_append, HNR.out]; rfl
            have hbf : Below w0.heap.size w0 (w7.setCell ⟨fB, 4, none⟩ (.slice A7 (nr + 1) c7)) := ((HFY.out.below.trans (HBL.out.mono hw0)).grown hgr (by rw [size_alloc_]; omega) (fun g hg => ((HU.out.2.1).lt g hg).1)).setCell hfB _
            have hki : KI W (w7.setCell ⟨fB, 4, none⟩ (.slice A7 (nr + 1) c7)) := KI.store (show (116 : TypeId) ≠ 3 by decide) T7 (KI.grown (show (3 : TypeId) ≠ 23 by decide) ((HKr.out.trans (KI.of_below hbk.out)).trans (KI.of_below HBL.out)) ((HU.out.2.1).alloc _) hgr)
            have hsf : W.heap.size ≤ (w7.setCell ⟨fB, 4, none⟩ (.slice A7 (nr + 1) c7)).heap.size := by
              have h1 := hgr.size
              rw [size_alloc_] at h1
              simp
              omega
            go_wp2_with fail
            refine bodyPost_ret (results_none rfl _ _ _) rfl ?_
            refine ⟨⟨_, rfl⟩, nd', A7, c7, rows ++ [xs], ⟨hbf, ?_, ?_, ?_⟩, by rw [hll]; omega, hki, hsf⟩
            · rw [hll]; exact T7.store 4 _
            · rw [hll]; exact hrf
            · intro z hz
              rcases List.mem_append.1 hz with h1 | h1
              · exact HFY.out.rowsn z h1
              · rw [List.mem_singleton.1 h1]; exact hl.out
end Go.Proofs.Ytejfnkbdmlijbaa
