/- DiagramDomains, impl's and spec's. -/
import Derived.Test.YtfmdgdamelkelaaDdoS
import Derived.Test.YtfmdgdamelkelaaPath
import Derived.Test.YtfmdgdamelkelaaHold
import Derived.Maps.Own
import Derived.Maps.Views
namespace Go.Proofs.Ytfmdgdamelkelaa
open Go.ChangeShapes Go.WideShapes Go.ChangeAt Go.RowKit
open Go.Shelf
set_option linter.unusedVariables false
set_option maxRecDepth 100000

/-- what is put into a row of numbers so far. -/
def PartG (g : Nat → Int) (n k : Nat) (x : Int) (Z : Array Value) : Prop := Z.size = n ∧ (∀ j, j < k → j < n → Z[j]? = some (.int .i64 (g j))) ∧ (k < n → Z[k]? = some (.int .i64 x)) ∧ ∀ j, k < j → j < n → Z[j]? = some (.int .i64 0)
theorem PartG.start {g : Nat → Int} {n : Nat} {Z : Array Value} (h : Z.toList = List.replicate n (.int .i64 0)) : PartG g n 0 0 Z := by
  have hz : ∀ j, j < n → Z[j]? = some (.int .i64 0) := fun j hj => by rw [← Array.getElem?_toList, h, List.getElem?_replicate, if_pos hj]
  exact ⟨by rw [← Array.length_toList, h, List.length_replicate], fun j hj => by omega, fun h0 => hz 0 h0, fun j _ hj => hz j hj⟩
theorem PartG.set {g : Nat → Int} {n k : Nat} {x : Int} {Z : Array Value} (h : PartG g n k x Z) (hk : k < n) (y : Int) : PartG g n k y (Z.setIfInBounds k (.int .i64 y)) := by
  obtain ⟨h1, h2, h3, h4⟩ := h
  refine ⟨by simpa using h1, fun j hj hn => ?_, fun _ => ?_, fun j hj hn => ?_⟩
  · rw [Array.getElem?_setIfInBounds_ne (by omega)]; exact h2 j hj hn
  · rw [Array.getElem?_setIfInBounds_self, if_pos (by omega)]
  · rw [Array.getElem?_setIfInBounds_ne (by omega)]; exact h4 j hj hn
theorem PartG.next {g : Nat → Int} {n k : Nat} {x : Int} {Z : Array Value} (h : PartG g n k x Z) (hx : x = g k) : PartG g n (k + 1) 0 Z := by
  obtain ⟨h1, h2, h3, h4⟩ := h
  refine ⟨h1, fun j hj hn => ?_, fun hn => h4 _ (by omega) hn, fun j hj hn => h4 j (by omega) hn⟩
  rcases Nat.lt_or_ge j k with h5 | h5
  · exact h2 j h5 hn
  · obtain rfl : j = k := by omega
    rw [← hx]; exact h3 hn
theorem PartG.done {g : Nat → Int} {n : Nat} {x : Int} {Z : Array Value} (h : PartG g n n x Z) : Z.toList = ((List.range n).map g).map (.int .i64) := by
  obtain ⟨h1, h2, -, -⟩ := h
  refine List.ext_getElem? fun j => ?_
  rw [Array.getElem?_toList, List.getElem?_map, List.getElem?_map]
  rcases Nat.lt_or_ge j n with h3 | h3
  · rw [h2 j h3 h3, List.getElem?_range h3]; rfl
  · rw [Array.getElem?_eq_none (by omega), List.getElem?_eq_none (by simpa using h3)]; rfl
/-- a map from numbers to bools: which numbers are in. -/
def BMap (w : World) (b n : Nat) (f : Int → Bool) : Prop := ∃ D : DataW Unit, w.ownsMap Try.prog 3 (plainElem Try.prog 4) b n D ∧ Maps.IsMap D ∧ ∀ k : Int, D.atKey (.int .i64 k) (.lit (.bool false)) = .lit (.bool (f k))
theorem BMap.made (w : World) : BMap (w.alloc (.map #[] 0)) w.heap.size 0 fun _ => false :=
  ⟨_, World.ownsMap_made w _ _ _, ⟨_, rfl⟩, fun _ => rfl⟩
theorem BMap.mono {w : World} {b n n' : Nat} {f : Int → Bool} (h : BMap w b n f) (hn : n ≤ n') : BMap w b n' f := by
  obtain ⟨D, h1, h2⟩ := h; exact ⟨D, h1.mono hn, h2⟩
theorem BMap.heap {w w' : World} {b n : Nat} {f : Int → Bool} (h : BMap w b n f) (hb : w'.heap[b]? = w.heap[b]?) : BMap w' b n f := by
  obtain ⟨D, ⟨es, clock, h1, h2⟩, h3⟩ := h; exact ⟨D, ⟨es, clock, hb.trans h1, h2⟩, h3⟩
theorem BMap.lt {w : World} {b n : Nat} {f : Int → Bool} (h : BMap w b n f) : b < w.heap.size := by obtain ⟨D, h1, h2⟩ := h; exact h1.lt
theorem BMap.look {w : World} {b n : Nat} {f : Int → Bool} (h : BMap w b n f) (k : Int) (hk : -9223372036854775808 ≤ k ∧ k ≤ 9223372036854775807) : (Instr.lookup 87 (.map (some b)) (.int .i64 k) false).run Try.prog w = .ok (.bool (f k)) w := by
  obtain ⟨D, h1, -, h3⟩ := h
  have hz : (zeroValue 4).run Try.prog w = .ok (.bool false) w := by kernel_rfl
  obtain ⟨v, ps, hr, hv⟩ := h1.lookup (Maps.int_keyed Try.underlying3) Try.underlying87 hz (plainElem_bool Try.underlying4 false) (Maps.keyOf_int_mk Try.underlying3 (a := k) (by simp [Lit.wf, IntKind.min, IntKind.max, IntKind.bits, IntKind.signed]; omega))
  rw [h3 k] at hv
  rw [hr]
  unfold plainElem at hv
  rw [Try.underlying4] at hv
  cases v <;> simp at hv
  rw [hv.1]
theorem BMap.put {w : World} {b n : Nat} {f : Int → Bool} (h : BMap w b n f) (hn : n < maxLen) (k : Int) (hk : -9223372036854775808 ≤ k ∧ k ≤ 9223372036854775807) :
    ∃ w', (Instr.mapUpdate 87 (.map (some b)) (.int .i64 k) (.bool true)).run Try.prog w = .ok () w' ∧ BMap w' b (n + 1) (fun x => f x || x == k) ∧ w.grownBy w' (some b) := by
  obtain ⟨D, h1, h2, h3⟩ := h
  obtain ⟨w', r1, r2, r3⟩ := h1.update (Maps.int_keyed Try.underlying3) Try.underlying87 hn (Maps.keyOf_int_mk Try.underlying3 (a := k) (by simp [Lit.wf, IntKind.min, IntKind.max, IntKind.bits, IntKind.signed]; omega)) (plainElem_bool Try.underlying4 true)
  refine ⟨w', r1, ⟨_, r2, Maps.IsMap.put h2 _ _, fun x => ?_⟩, r3⟩
  by_cases hx : x = k
  · subst hx
    rw [Maps.atKey_put_same h2 (by trivial)]
    simp
  · rw [Maps.atKey_put_other (fun e => hx (by injection e)), h3]
    simp [hx]
theorem BMap.ne {w : World} {b n b' : Nat} {f : Int → Bool} {t : TypeId} {cs : Array Value} (h : BMap w b n f) (h' : TBlk t w b' cs) : b' ≠ b := fun e => by
  subst e
  obtain ⟨D, ⟨es, clock, h1, h2⟩, h3⟩ := h
  rw [show w.heap[b']? = _ from h'] at h1
  cases h1
theorem BMap.set {w : World} {b n g j : Nat} {f : Int → Bool} (h : BMap w b n f) (hg : b ≠ g) (u : Value) : BMap (w.setCell ⟨g, j, none⟩ u) b n f := h.heap (Below.heap_setCell w ⟨g, j, none⟩ u b hg)
theorem BMap.kept {w w' : World} {b n : Nat} {f : Int → Bool} {r : Nat} (h : BMap w b n f) (hg : w.grownBy w' (some r)) (hr : b ≠ r) : BMap w' b n f := h.heap (hg.block b h.lt (fun e => hr (by injection e)))
theorem BMap.alloc_ {w : World} {b n : Nat} {f : Int → Bool} (h : BMap w b n f) (o : Obj) : BMap (w.alloc o) b n f := h.heap ((b_alloc w o).block b h.lt)
theorem ddF_len4 (d : List (List (List Int))) : (ddF d).length ≤ 4 := by
  cases h : vdgF d
  · unfold ddF; rw [h]; simp
  · have := vdg_len h; unfold ddF; rw [h]; simp; omega
/-- the nodes met of the next layer: those of the first k nodes of layer i, and of the first v edges of node k. -/
def metT (d : List (List (List Int))) (i k v : Nat) (x : Int) : Bool := ((List.range k).any fun a => metF d i (a : Int) && (List.range 6).any fun u => liveE d i a u && edge d i a u == x) || (metF d i (k : Int) && (List.range v).any fun u => liveE d i k u && edge d i k u == x)
theorem metT_zero (d : List (List (List Int))) (i : Nat) : metT d i 0 0 = fun _ => false := by funext x; simp [metT]
theorem metT_next (d : List (List (List Int))) (i k : Nat) : metT d i k 6 = metT d i (k + 1) 0 := by
  funext x
  simp [metT, List.range_succ (n := k), List.any_append]
theorem metT_done {d : List (List (List Int))} {i : Nat} {l : List (List Int)} (hl : d[i]? = some l) : metT d i l.length 0 = metF d (i + 1) := by
  funext x
  simp [metT, metF, hl]
theorem metT_yes {d : List (List (List Int))} {i k v : Nat} (h : metF d i (k : Int) = true) (h2 : liveE d i k v = true) : (fun x => metT d i k v x || x == edge d i k v) = metT d i k (v + 1) := by
  funext x
  rw [metT, metT, h, List.range_succ (n := v), List.any_append]
  simp only [Bool.true_and, List.any_cons, List.any_nil, Bool.or_false, h2]
  rw [Bool.or_assoc]
  congr 2
  exact Bool.eq_iff_iff.2 (by simp; exact eq_comm)
theorem metT_no {d : List (List (List Int))} {i k v : Nat} (h : (metF d i (k : Int) && liveE d i k v) = false) : metT d i k (v + 1) = metT d i k v := by
  funext x
  rw [metT, metT, List.range_succ (n := v), List.any_append]
  cases h1 : metF d i (k : Int)
  · simp
  · rw [h1] at h
    simp only [Bool.true_and] at h
    simp [h]
set_option maxHeartbeats 2000000 in
theorem sDiagramDomains (A : Option Addr) (n c : Nat) (d : List (List (List Int))) (w : World) (h : LayersR w w.heap.size A n d) :
    Calls Try.prog 39 #[.slice A n c] w fun e w' => ∃ v, e = .returned v ∧ w'.ownsRow w.heap.size 3 1 v (ddF d).length ((ddF d).map (.int .i64)) ∧ Below w.heap.size w w' := by
  obtain ⟨i0, hi0, hz0, hz1, hz2⟩ := info_parts info_int
  have hn := h.le
  have hl := Lib.hid h.len
  have ho : (w.alloc (.cells #[] 3)).ownsRow w.heap.size 3 1 (.slice (some ⟨w.heap.size, 0, none⟩) 0 0) 0 [] := World.ownsRow_lit w #[] 0 (Nat.le_refl _) (by decide) rfl
  have hb0 := b_alloc w (.cells #[] 3)
  have h0 := SlR.on (RowC.keeps (RowC.keeps IntC.keeps)) (RowC.widens (RowC.widens IntC.widens)) h hb0
  cases hv : vdgF d
  · have HV := Lib.hid hv
    have HD := Lib.hid (show ddF d = [] by unfold ddF; rw [hv]; rfl)
    clear hv
    go_enter Try.func39, Try.ntmps39
    go_wp2_with fail
    refine (svalidDiagram _ _ _ _ _ h0).mono ?_
    rw [HV.out]
    rintro e w2 ⟨rfl, hb2⟩
    go_wp2_with fail
    go_ret
    rw [HD.out]
    exact ⟨_, rfl, ⟨by simp, .inl ⟨rfl, rfl⟩⟩, hb0.trans (hb2.mono hb0.size)⟩
  · have HV := Lib.hid hv
    have HD := Lib.hid (show ddF d = (List.range d.length).map (onF d) by unfold ddF; rw [hv]; rfl)
    have hn4 := vdg_len hv
    clear hv
    go_enter Try.func39, Try.ntmps39
    go_wp2_with fail
    refine (svalidDiagram _ _ _ _ _ h0).mono ?_
    rw [HV.out]
    rintro e w2 ⟨rfl, hb2⟩
    have hn4' : 1 ≤ n ∧ n ≤ 4 := by have := hl.out; omega
    have hL0 := Lib.hid h
    have ho2 := own_below ho hb2
    have hb02 := hb0.trans (hb2.mono hb0.size)
    clear ho h0 hb0 h hb2
    go_wp2_with fail
    go_loopw [3, 4] (fun t3 t4 wr => ∃ i : Nat, i ≤ n ∧ t4 = .int .i64 i ∧ Hid (wr.ownsRow w.heap.size 3 1 t3 i (((List.range i).map (onF d)).map (.int .i64))) ∧ Hid (Below w.heap.size w wr)) (fun _ t4 _ => n - (intOf t4).toNat)
    case atStart => exact ⟨0, by omega, rfl, ho2, hb02⟩
    case round =>
      obtain ⟨i, hi, rfl, hq, hb⟩ := hrel
      clear ho2 hb02
      by_cases hlt : i < n
      · go_wp2_with fail
        refine (sonPath _ _ _ i d HV.out hlt _ (SlR.on (RowC.keeps (RowC.keeps IntC.keeps)) (RowC.widens (RowC.widens IntC.widens)) hL0.out hb.out)).mono ?_
        rintro e w3 ⟨rfl, hb3⟩
        have hq3 := Lib.hid (own_below hq.out hb3)
        have hb3' := Lib.hid (hb.out.trans (hb3.mono hb.out.size))
        clear hq hb hb3
        go_wp2_with (at_builtin; refine wpList_append_own _ rfl _ _ 22 rfl w.heap.size 3 i0 _ 1 8 Try.underlying22 hi0 hz0 hz1 hz2 rfl (by decide) _ _ _ rfl (own_below hq3.out (b_alloc w3 _)) ⟨w3.heap.size, 0, none⟩ 1 1 [.int .i64 (onF d i)] rfl rfl (cell_one_new _ _ _) (by simp [Value.oneCell']) (by unfold maxLen; omega) (by omega) (by rw [size_alloc_]; have := hb3'.out.size; omega) ?_; intro v1 w1 hown hgr _)
        have hb1 : Below w.heap.size w w1 := (hb3'.out.alloc hb3'.out.size _).grown hgr (by rw [size_alloc_]; have := hb3'.out.size; omega) (fun g hg => (hq3.out.lt g hg).1)
        have hown2 : w1.ownsRow w.heap.size 3 1 v1 (i + 1) (((List.range (i + 1)).map (onF d)).map (.int .i64)) := by
          rw [List.range_succ]; simpa using hown
        clear hown
        go_roundw
        case rel => exact ⟨i + 1, by omega, by go_num, hown2, hb1⟩
        case measure => simp [intOf]; omega
      · obtain rfl : i = n := by omega
        have hlen : (ddF d).length = i := by rw [HD.out]; simp; exact hl.out
        go_wp2_with fail
        go_ret
        exact ⟨_, rfl, by rw [hlen, HD.out, hl.out]; exact hq.out, hb.out⟩
set_option maxHeartbeats 4000000 in
theorem iDiagramDomains (A : Option Addr) (n c : Nat) (d : List (List (List Int))) (w : World) (h : LayersR w w.heap.size A n d) :
    Calls Try.prog 35 #[.slice A n c] w fun e w' => ∃ v, e = .returned v ∧ HoldR w' w.heap.size 3 1 v (ddF d).length ((ddF d).map (.int .i64)) ∧ Below w.heap.size w w' := by
  cases hv : vdgF d
  · have HV := Lib.hid hv
    have HD := Lib.hid (show ddF d = [] by unfold ddF; rw [hv]; rfl)
    clear hv
    go_enter Try.func35, Try.ntmps35
    go_wp2_with fail
    refine (iValidDiagram _ _ _ _ _ h).mono ?_
    rw [HV.out]
    rintro e w2 ⟨rfl, hb2⟩
    go_wp2_with fail
    go_ret
    rw [HD.out]
    exact ⟨_, rfl, HoldR.nil _ _ _ _, hb2⟩
  · have HV := Lib.hid hv
    have HD := Lib.hid (show ddF d = (List.range d.length).map (onF d) by unfold ddF; rw [hv]; rfl)
    have hn := h.le
    have hl := Lib.hid h.len
    have hn4 : 1 ≤ n ∧ n ≤ 4 := by have := vdg_len hv; have := hl.out; omega
    obtain ⟨i0, hi0, hz0, hz1, hz2⟩ := info_parts info_int
    obtain ⟨Z, hZ, hmk⟩ := make_blk (P := Try.prog) 22 3 i0 _ Try.underlying22 hi0 hz0 hz1 rfl n (by rw [hz2]; omega) (by unfold maxLen; omega)
    have HZ := Lib.hid hZ
    have hmm := @run_makeMap Try.prog
    clear hv hZ
    go_enter Try.func35, Try.ntmps35
    go_wp2_with fail
    refine (iValidDiagram _ _ _ _ _ h).mono ?_
    rw [HV.out]
    rintro e w2 ⟨rfl, hb2⟩
    go_wp2_with fail
    refine (ipaths _ _ _ _ HV.out _ (SlR.on (RowC.keeps (RowC.keeps IntC.keeps)) (RowC.widens (RowC.widens IntC.widens)) h hb2)).mono ?_
    rintro e w3 ⟨B, rfl, hr, hb3⟩
    have hb23 := bgo hb2 hb3
    have hd3 := Lib.hid (SlR.on (RowC.keeps (RowC.keeps IntC.keeps)) (RowC.widens (RowC.widens IntC.widens)) h hb23)
    have hr3 := Lib.hid hr
    clear h hr hb2 hb3
    -- the world behind make and the map with 0
    have hT0 : TBlk 3 (w3.alloc (.cells Z 3)) w3.heap.size Z := TBlk.new _ _ _
    have hM0 := BMap.made (w3.alloc (.cells Z 3))
    obtain ⟨w5, hput, hM1, hg5⟩ := hM0.put (by decide) 0 (by omega)
    have hz4 : (w3.alloc (.cells Z 3)).heap.size = w3.heap.size + 1 := size_alloc_ _ _
    rw [hz4] at hput hM1 hg5
    have hT5 : TBlk 3 w5 w3.heap.size Z := (hg5.block _ (by rw [size_alloc_, hz4]; omega) (by simp)).trans (hT0.alloc_ _)
    have hb5 : Below w3.heap.size w3 w5 := ((b_alloc w3 (.cells Z 3)).trans ((b_alloc _ _).mono (by rw [hz4]; omega))).grown hg5 (by rw [size_alloc_, hz4]; omega) (fun k e => by injection e with e; omega)
    have hM5 : BMap w5 (w3.heap.size + 1) 2000 (metF d 0) := by
      have e : (fun x : Int => false || x == 0) = metF d 0 := by funext x; simp [metF]
      rw [← e]; exact hM1.mono (by omega)
    have hP0 : PartG (onF d) n 0 0 Z := PartG.start HZ.out
    go_wp2_with fail
    clear hput hM1 hg5 hT0 hM0 hz4
    go_loopw [5, 25] (fun t5 t25 wr => ∃ (i bm : Nat) (cs : Array Value), i ≤ n ∧ t25 = .int .i64 i ∧ t5 = .map (some bm) ∧ Hid (PartG (onF d) n i 0 cs) ∧ Hid (TBlk 3 wr w3.heap.size cs) ∧ Hid (BMap wr bm 2000 (metF d i)) ∧ Hid (Below w3.heap.size w3 wr)) (fun _ t25 _ => n - (intOf t25).toNat)
    case atStart => exact ⟨0, _, Z, by omega, rfl, rfl, hP0, hT5, hM5, hb5⟩
    case round =>
      obtain ⟨i, bm, cs, hi, rfl, rfl, hP, hT, hM, hb⟩ := hrel
      clear hT5 hM5 hP0 hb5
      by_cases hlt : i < n
      · obtain ⟨ab, ao, l, u, eA, hab, hli, hcu, Al, cl, rfl, hly⟩ := SlR.at_ hd3.out hlt
        subst eA
        have hc1 : wr.cell? ⟨ab, ao + i, none⟩ = some (.slice Al l.length cl) := (hb.out.cell (p := ⟨ab, _, none⟩) hab).trans hcu
        have hle : l.length ≤ 216 := (vdg_layer HV.out hli).2.1
        have hli2 := Lib.hid hli
        have hly2 := Lib.hid hly
        have hM2 := Lib.hid (hM.out.alloc_ (.map #[] 0))
        have hT2 := Lib.hid (hT.out.alloc_ (.map #[] 0))
        have hN2 := Lib.hid (BMap.made wr)
        have hbm := Lib.hid hM.out.lt
        have hb2 := Lib.hid (hb.out.trans ((b_alloc wr (.map #[] 0)).mono hb.out.size))
        obtain ⟨bn, hbn⟩ : ∃ bn, wr.heap.size = bn := ⟨_, rfl⟩
        have HBN3 : Hid (w3.heap.size ≤ bn) := Lib.hid (by rw [← hbn]; exact hb.out.size)
        clear hly hcu
        go_wp2_with fail
        obtain ⟨wr2, hwr2⟩ : ∃ wr2, wr.alloc (.map #[] 0) = wr2 := ⟨_, rfl⟩
        rw [hwr2] at hM2 hT2 hN2 hb2 ⊢
        rw [hbn] at hN2 hbm
        clear hwr2 hc1 hM hT hb hli hbn
        go_loopw [33] (fun t33 wm => ∃ (k : Nat) (cs : Array Value), k ≤ l.length ∧ t33 = .int .i64 k ∧ Hid (PartG (onF d) n i (outI d i k) cs) ∧ Hid (TBlk 3 wm w3.heap.size cs) ∧ Hid (BMap wm bm 2000 (metF d i)) ∧ Hid (BMap wm bn (6 * k) (metT d i k 0)) ∧ Hid (Below w3.heap.size w3 wm)) (fun t33 _ => l.length - (intOf t33).toNat)
        case atStart => exact ⟨0, cs, by omega, rfl, hP, hT2, hM2, by rw [metT_zero]; exact hN2, hb2⟩
        case round =>
          obtain ⟨k, cs, hk, rfl, hP, hT, hM, hN, hb⟩ := hrel
          clear hM2 hT2 hN2 hb2
          by_cases hkl : k < l.length
          · obtain ⟨lb, lo, r, u2, eL, hlb, hrk, hcr, Ar, cr, rfl, hry⟩ := SlR.at_ hly2.out hkl
            subst eL
            have hc2 : wr.cell? ⟨lb, lo + k, none⟩ = some (.slice Ar r.length cr) := (hb.out.cell (p := ⟨lb, _, none⟩) hlb).trans hcr
            obtain ⟨hr6, hrx⟩ := (vdg_layer HV.out hli2.out).2.2 r (List.mem_of_getElem? hrk)
            rw [hr6] at hc2 hry
            have hrk2 := Lib.hid hrk
            have hry2 := Lib.hid hry
            have hrx2 := Lib.hid hrx
            clear hcr hry hrk hrx hr6
            go_wp2_with fail
            clear hc2
            go_loopw [40] (fun t40 wi => ∃ (v : Nat) (cs : Array Value), v ≤ 6 ∧ t40 = .int .i64 v ∧ Hid (PartG (onF d) n i (outR d i k (metF d i k) (outI d i k) v) cs) ∧ Hid (TBlk 3 wi w3.heap.size cs) ∧ Hid (BMap wi bm 2000 (metF d i)) ∧ Hid (BMap wi bn (6 * k + v) (metT d i k v)) ∧ Hid (Below w3.heap.size w3 wi)) (fun t40 _ => 6 - (intOf t40).toNat)
            case atStart => exact ⟨0, cs, by omega, rfl, hP, hT, hM, hN, hb⟩
            case round =>
              obtain ⟨v, cs, hv6, rfl, hP, hT, hM, hN, hb⟩ := hrel
              by_cases hvl : v < 6
              · obtain ⟨rb, ro, x, eR, hrb, hxv, hcx⟩ := IntR.at_ hry2.out hvl
                subst eR
                have hc3 : wr.cell? ⟨rb, ro + v, none⟩ = some (.int .i64 x) := (hb.out.cell (p := ⟨rb, _, none⟩) hrb).trans hcx
                have hedge := edge_of hli2.out hrk2.out hxv
                have hx1 : -1 ≤ x := (hrx2.out x (List.mem_of_getElem? hxv)).1
                have hlook := hM.out.look (k : Int) (by omega)
                have hok := outR_in (d := d) (i := i) (a := k) (p := metF d i k) (outI_in d i k).1 (outI_in d i k).2 v (by omega)
                have hstep : outR d i k (metF d i k) (outI d i k) (v + 1) = putB (metF d i k && liveE d i k v) (outR d i k (metF d i k) (outI d i k) v) v := rfl
                have HE := Lib.hid hedge
                generalize hy : outR d i k (metF d i k) (outI d i k) v = y at *
                have hno : (metF d i (k : Int) && liveE d i k v) = false → Hid (PartG (onF d) n i (outR d i k (metF d i k) (outI d i k) (v + 1)) cs) ∧ Hid (BMap wr bn (6 * k + (v + 1)) (metT d i k (v + 1))) := fun hn0 => by
                  refine ⟨Lib.hid ?_, Lib.hid ?_⟩
                  · rw [hstep, hn0]; simpa [putB] using hP.out
                  · rw [metT_no hn0]; exact hN.out.mono (by omega)
                have HNO := Lib.hid hno
                have HST := Lib.hid hstep
                clear hcx hedge hy hstep hno
                by_cases hmt0 : metF d i (k : Int) = false
                · have hmt := hmt0
                  have HF := Lib.hid (HNO.out (by rw [hmt]; rfl))
                  rw [hmt] at hlook
                  clear hmt hmt0
                  go_wp2_with fail
                  go_roundw
                  case rel => exact ⟨v + 1, cs, by omega, by go_num, HF.out.1, hT, hM, HF.out.2, hb⟩
                  case measure => simp [intOf]; omega
                · have hmt : metF d i (k : Int) = true := by simpa using hmt0
                  rw [hmt] at hlook
                  have HMT := Lib.hid hmt
                  clear hmt0
                  by_cases h0 : 0 ≤ x
                  · obtain ⟨a2, rfl⟩ : ∃ a2 : Nat, x = (a2 : Int) := ⟨x.toNat, by omega⟩
                    obtain ⟨mb, mo, xs1, u1, e1, hmb, hx1', hcx1, A1, c1, rfl, hx1r⟩ := SlR.at_ hr3.out (k := i + 1) (by omega)
                    injection e1 with e1
                    injection e1 with e1 e2
                    subst e1 e2
                    have hxs : xs1 = cnt (d.drop (i + 1)) := by
                      unfold cntAll at hx1'
                      rw [List.getElem?_map, List.getElem?_range (by have := hl.out; omega)] at hx1'
                      simpa using hx1'.symm
                    subst hxs
                    obtain ⟨cc, hcc, -, -⟩ := edge_ok HV.out hli2.out hrk2.out hxv h0
                    rw [Int.toNat_natCast] at hcc
                    obtain ⟨nb, no, y2, e3, hnb, hy2, hcy⟩ := IntR.at_ hx1r (k := a2) (List.getElem?_eq_some_iff.1 hcc).1
                    subst e3
                    rw [hcc] at hy2
                    injection hy2 with hy2
                    subst hy2
                    have hm1 : wr.cell? ⟨B, 0 + (i + 1), none⟩ = some (.slice (some ⟨nb, no, none⟩) (cnt (d.drop (i + 1))).length c1) := (hb.out.cell (p := ⟨B, _, none⟩) hmb).trans hcx1
                    rw [Nat.zero_add] at hm1
                    have hm2 : wr.cell? ⟨nb, no + a2, none⟩ = some (.int .i64 cc) := (hb.out.cell (p := ⟨nb, _, none⟩) hnb).trans hcy
                    have hlc : a2 < (cnt (d.drop (i + 1))).length := (List.getElem?_eq_some_iff.1 hcc).1
                    have hlive : liveE d i k v = decide (0 < cc) := by
                      unfold liveE
                      rw [HE.out, decide_eq_true h0, Int.toNat_natCast, cntAt_of hcc]; rfl
                    have HLV := Lib.hid hlive
                    have hcl216 := cnt_le HV.out (i + 1)
                    obtain ⟨cn, hcn⟩ : ∃ cn, (cnt (d.drop (i + 1))).length = cn := ⟨_, rfl⟩
                    rw [hcn] at hm1 hlc hcl216
                    clear hcx1 hx1' hx1r hcy hcc hlive hmt hcn
                    by_cases hc : 0 < cc
                    · have hdc : decide (0 < cc) = true := decide_eq_true hc
                      have hcell := hT.out.at_ i (hP.out.2.2.1 hlt)
                      have hcellf := hT.out.frozen i
                      have hp1 := putB_in true hok.1 hok.2 hvl
                      have hor := hp1.2.2 rfl
                      have hpw := wrap64_pow v hvl
                      have hp5 := pow_le5 v hvl
                      have HNX : Hid (PartG (onF d) n i (outR d i k (metF d i k) (outI d i k) (v + 1)) (cs.setIfInBounds i (.int .i64 (putB true y v)))) := Lib.hid (by
                        rw [HST.out, HMT.out, HLV.out, decide_eq_true hc]; exact hP.out.set hlt _)
                      have hTne := hM.out.ne hT.out
                      have hTne2 := hN.out.ne hT.out
                      obtain ⟨w7, hput, hM7, hg7⟩ := ((hN.out.set (Ne.symm hTne2) (j := i) (.int .i64 (putB true y v))).heap (w' := (wr.setCell ⟨w3.heap.size, i, none⟩ (.int .i64 (putB true y v))).drew) rfl).put (by unfold maxLen; omega) (a2 : Int) (by omega)
                      have hbmn : bm ≠ bn := by have := hbm.out; omega
                      have hMM : Hid (BMap w7 bm 2000 (metF d i)) := Lib.hid (((hM.out.set (Ne.symm hTne) (j := i) (.int .i64 (putB true y v))).heap (w' := (wr.setCell ⟨w3.heap.size, i, none⟩ (.int .i64 (putB true y v))).drew) rfl).kept hg7 hbmn)
                      have hTT : Hid (TBlk 3 w7 w3.heap.size (cs.setIfInBounds i (.int .i64 (putB true y v)))) := Lib.hid ((hg7.block _ (by have := hT.out.lt; simpa using this) (fun e => hTne2 (by injection e))).trans ((hT.out.store i _).drewN_ 1))
                      have hMN : Hid (BMap w7 bn (6 * k + (v + 1)) (metT d i k (v + 1))) := Lib.hid (by
                        rw [← metT_yes HMT.out (by rw [HLV.out, decide_eq_true hc]), HE.out]; exact hM7)
                      have hBB : Hid (Below w3.heap.size w3 w7) := Lib.hid ((below_drewN (hb.out.setCell (p := ⟨w3.heap.size, i, none⟩) (Nat.le_refl _) _) 1).grown hg7 (by have := hb.out.size; simpa using this) (fun g e => by injection e with e; subst e; exact HBN3.out))
                      clear hM7 hg7 hTne hTne2
                      go_wp2_with fail
                      go_still_tail 8, (by kernel_rfl)
                      go_wp2_with fail
                      go_roundw
                      case rel => exact ⟨v + 1, _, by omega, by go_num, HNX.out, hTT.out, hMM.out, hMN.out, hBB.out⟩
                      case measure => simp [intOf]; omega
                    · have HF := Lib.hid (HNO.out (by rw [HMT.out, Bool.true_and, HLV.out]; exact decide_eq_false hc))
                      have hdc : decide (0 < cc) = false := decide_eq_false hc
                      go_wp2_with fail
                      go_roundw
                      case rel => exact ⟨v + 1, cs, by omega, by go_num, HF.out.1, hT, hM, HF.out.2, hb⟩
                      case measure => simp [intOf]; omega
                  · have HF := Lib.hid (HNO.out (by rw [hmt, Bool.true_and]; unfold liveE; rw [HE.out, decide_eq_false h0]; rfl))
                    have hd0 : decide (0 ≤ x) = false := decide_eq_false h0
                    clear hmt
                    go_wp2_with fail
                    go_roundw
                    case rel => exact ⟨v + 1, cs, by omega, by go_num, HF.out.1, hT, hM, HF.out.2, hb⟩
                    case measure => simp [intOf]; omega
              · obtain rfl : v = 6 := by omega
                go_wp2_with fail
                go_roundw
                case rel => exact ⟨k + 1, cs, by omega, by go_num, hP, hT, hM, by rw [← metT_next]; exact hN.out.mono (by omega), hb⟩
                case measure => simp [intOf]; omega
          · obtain rfl : k = l.length := by omega
            go_wp2_with fail
            go_roundw
            case rel => exact ⟨i + 1, bn, cs, by omega, by go_num, rfl, hP.out.next (out_eq HV.out (by have := hl.out; omega) hli2.out), hT, by rw [metT_done hli2.out] at hN; exact hN.out.mono (by omega), hb⟩
            case measure => simp [intOf]; omega
      · obtain rfl : i = n := by omega
        go_wp2_with fail
        go_ret
        have hlen : (ddF d).length = i := by rw [HD.out]; simp; exact hl.out
        refine ⟨_, rfl, ⟨by simp, .inr ⟨w3.heap.size, i, cs, ?_, by have := hb23.size; omega, hT.out, by omega, by unfold maxLen; omega, ?_⟩⟩, hb23.trans (hb.out.mono hb23.size)⟩
        · rw [hlen]; rfl
        · rw [hP.out.done, HD.out, List.take_of_length_le (by simp [hl.out])]
          rw [hl.out]
end Go.Proofs.Ytfmdgdamelkelaa
