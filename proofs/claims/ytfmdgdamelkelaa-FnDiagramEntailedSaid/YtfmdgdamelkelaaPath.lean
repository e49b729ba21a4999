/- impl's counting of paths: a loop over slices.Backward. -/
import Derived.Test.YtfmdgdamelkelaaCnt
import Derived.Test.YtfmdgdamelkelaaRange
import Derived.Test.YtfmdgdamelkelaaOpen
namespace Go.Proofs.Ytfmdgdamelkelaa
open Go.ChangeShapes Go.WideShapes Go.ChangeAt Go.RowKit
open Go.Shelf
set_option linter.unusedVariables false
set_option maxRecDepth 100000
attribute [local go_sem] Oper.semAt_some

/-- What 'make' of n elements lays, in whatever world (elements of one cell). -/
theorem make_blk {P : Program} (t e : TypeId) (i : TypeInfo) (z : Value) (ht : P.underlying t = some (.slice e)) (hi : P.info? e = some i) (hz : i.zero = some z) (hs : i.size = 1) (h1 : z.cells = #[z]) (n : Nat) (hb : i.bytes * n ≤ 281474976710656) (h63 : n ≤ maxLen) :
    ∃ Z : Array Value, Z.toList = List.replicate n z ∧ ∀ W : World, Sem.run P (Instr.makeSlice t (.int .i64 (n : Int)) (.int .i64 (n : Int))) W = .ok (.slice (some ⟨W.heap.size, 0, none⟩) n n) (W.alloc (.cells Z e)) := by
  refine ⟨madeCells z.cells (n * i.size), ?_, fun W => ?_⟩
  · rw [hs, Nat.mul_one, h1]; exact toList_madeCells_one _ _
  · have h := run_make (P := P) W t e i z ht hi hz .i64 .i64 (n : Int) (n : Int) (Int.natCast_nonneg _) (Int.le_refl _) (by rw [← Int.natCast_mul]; exact Int.ofNat_le.2 hb) (by unfold maxLen at h63; omega)
    simpa using h
/-- slices.Backward's closure, J k holding when k rounds are over. -/
theorem back1 (m l Bs b o n cap : Nat) (us : List Value) (hl : us.length = n) (hn : n ≤ 1048576) (J : Nat → World → Prop)
    (hc : ∀ k W, J k W → W.cell? ⟨Bs, 0, none⟩ = some (.slice (some ⟨b, o, none⟩) n cap) ∧ ∀ (j : Nat) u, us[j]? = some u → W.cell? ⟨b, o + j, none⟩ = some u)
    (hY : ∀ (k i : Nat) (W : World) (u : Value), J k W → i + k + 1 = n → us[i]? = some u → YieldAt Fence.wide m Try.prog l #[.int .i64 i, u] W fun e W' => e = .returned (.bool true) ∧ J (k + 1) W')
    (hu1 : ∀ u ∈ us, ∃ A n c, u = .slice A n c) (W : World) (h0 : J 0 W) :
    CallsIn Fence.wide (m + 1) Try.prog 130 #[.func (.yield l) #[] #[], .pointer (some ⟨Bs, 0, none⟩)] W fun e W' => (∃ v, e = .returned v) ∧ J n W' := by
  refine callsIn_of_wp Try.func130 rfl trivial ?_ rfl
  simp only [Try.ntmps130, List.size_toArray, List.length_cons, List.length_nil, Nat.reduceAdd, Nat.reduceSub, Array.replicate_succ, Array.replicate_zero, List.push_toArray, List.append_toArray, List.nil_append, List.cons_append]
  have h1 := (hc 0 W h0).1
  gi_wp2
  gi_loopw [3] (fun i wr => ∃ (k : Nat) (v : Int), k ≤ n ∧ v = (n : Int) - 1 - (k : Int) ∧ i = .int .i64 v ∧ Hid (J k wr)) (fun i _ => (intOf i + 1).toNat)
  case atStart => exact ⟨0, _, by omega, by omega, rfl, h0⟩
  case round =>
    obtain ⟨k, v, hk, hv, rfl, hJ⟩ := hrel
    clear h1
    by_cases hlt : k < n
    · obtain ⟨i, hi⟩ : ∃ i : Nat, v = (i : Int) := ⟨v.toNat, by omega⟩
      subst hi
      have hik : i + k + 1 = n := by omega
      obtain ⟨u, hu⟩ : ∃ u, us[i]? = some u := ⟨_, List.getElem?_eq_getElem (by omega)⟩
      obtain ⟨hb1, hb2⟩ := hc k wr hJ.out
      have hb3 := hb2 i u hu
      obtain ⟨A, un, uc, rfl⟩ := hu1 u (List.mem_of_getElem? hu)
      obtain ⟨fn, tmps, assign, body, hy, hR⟩ := hY k i wr _ hJ.out hik hu
      have hin : (i : Int) < (n : Int) := by omega
      have HK := Lib.hid hik
      clear hb2 hu hv hik
      gi_wp2
      refine hR.mono ?_
      rintro e W3 ⟨rfl, hJ3⟩
      have HJ3 := Lib.hid hJ3
      clear hJ3 hb1 hb3
      gi_wp2
      go_roundw
      case rel => exact ⟨k + 1, (i : Int) - 1, by omega, by have := HK.out; omega, rfl, HJ3⟩
      case measure => first | (simp [intOf]; done) | (simp [intOf]; omega)
    · obtain rfl : k = n := by omega
      have hv0 : v < 0 := by omega
      clear hv
      gi_wp2
      go_end0
      exact ⟨⟨_, rfl⟩, hJ.out⟩
theorem backward (A : Option Addr) (n c : Nat) (w : World) : Calls Try.prog 110 #[.slice A n c] w fun e w' => e = .returned (.func (.func 130) #[] #[.pointer (some ⟨w.heap.size, 0, none⟩)]) ∧ w' = w.alloc (.cells #[.slice A n c] 27) := by
  go_enter Try.func110, Try.ntmps110
  go_wp2
  go_ret
  exact ⟨rfl, rfl⟩
/-- a slice's values. -/
theorem SlR.vals {α : Type} {R : World → Nat → Value → α → Prop} {w : World} {B n : Nat} {A : Option Addr} {xs : List α} (h : SlR R w B A n xs) (hn : 0 < n) : ∃ b o, ∃ us : List Value, A = some ⟨b, o, none⟩ ∧ b < B ∧ us.length = n ∧ (∀ (j : Nat) u, us[j]? = some u → w.cell? ⟨b, o + j, none⟩ = some u) ∧ ∀ (j : Nat) u x, us[j]? = some u → xs[j]? = some x → R w B u x := by
  obtain ⟨hl, -, h2⟩ := h
  obtain ⟨b, o, e, hb, hc⟩ := h2 hn
  obtain ⟨us, h3, h4⟩ := list_of n (fun j u => w.cell? ⟨b, o + j, none⟩ = some u ∧ ∀ x, xs[j]? = some x → R w B u x) (fun j hj => by
    obtain ⟨u, h5, h6⟩ := hc j _ (List.getElem?_eq_getElem (by omega))
    refine ⟨u, h5, fun x hx => ?_⟩
    rw [List.getElem?_eq_getElem (by omega)] at hx
    injection hx with hx
    rw [← hx]; exact h6)
  exact ⟨b, o, us, e, hb, h3, fun j u hu => (h4 j u hu).1, fun j u x hu hx => (h4 j u hu).2 x hx⟩
/-- a row of counts that is being filled: k places are done, place k holds x, the others 0. -/
def Part (C : List Int) (l : List (List Int)) (k : Nat) (x : Int) (Zr : Array Value) : Prop := Zr.size = l.length ∧ (∀ j r, j < k → l[j]? = some r → Zr[j]? = some (.int .i64 (sumTo C r 6))) ∧ (k < l.length → Zr[k]? = some (.int .i64 x)) ∧ (∀ j, k < j → j < l.length → Zr[j]? = some (.int .i64 0))
theorem Part.start {C : List Int} {l : List (List Int)} {Zr : Array Value} (h : Zr.toList = List.replicate l.length (.int .i64 0)) : Part C l 0 0 Zr := by
  have hs : Zr.size = l.length := by rw [← Array.length_toList, h, List.length_replicate]
  have ha : ∀ j, j < l.length → Zr[j]? = some (.int .i64 0) := fun j hj => by rw [← Array.getElem?_toList, h, List.getElem?_replicate, if_pos hj]
  exact ⟨hs, fun j r hj => absurd hj (by omega), fun h0 => ha 0 h0, fun j _ hj => ha j hj⟩
theorem Part.set {C : List Int} {l : List (List Int)} {k : Nat} {x : Int} {Zr : Array Value} (h : Part C l k x Zr) (hk : k < l.length) (y : Int) : Part C l k y (Zr.setIfInBounds k (.int .i64 y)) := by
  obtain ⟨hs, h1, h2, h3⟩ := h
  refine ⟨by rw [Array.size_setIfInBounds, hs], fun j r hj hr => ?_, fun _ => ?_, fun j hj hl => ?_⟩
  · rw [Array.getElem?_setIfInBounds_ne (by omega)]; exact h1 j r hj hr
  · rw [Array.getElem?_setIfInBounds_self_of_lt (by omega)]
  · rw [Array.getElem?_setIfInBounds_ne (by omega)]; exact h3 j hj hl
theorem Part.next {C : List Int} {l : List (List Int)} {k : Nat} {r : List Int} {Zr : Array Value} (h : Part C l k (sumTo C r 6) Zr) (hr : l[k]? = some r) : Part C l (k + 1) 0 Zr := by
  obtain ⟨hs, h1, h2, h3⟩ := h
  have hk : k < l.length := by
    rcases Nat.lt_or_ge k l.length with h | h
    · exact h
    · rw [List.getElem?_eq_none h] at hr; cases hr
  refine ⟨hs, fun j r' hj hr' => ?_, fun h4 => h3 _ (by omega) h4, fun j hj hl => h3 j (by omega) hl⟩
  rcases Nat.lt_or_ge j k with h5 | h5
  · exact h1 j r' h5 hr'
  · obtain rfl : j = k := by omega
    rw [hr] at hr'
    injection hr' with hr'
    subst hr'
    exact h2 hk
theorem Part.done {C : List Int} {l : List (List Int)} {Zr : Array Value} (h : Part C l l.length 0 Zr) : Zr = ((cntL C l).map (.int .i64)).toArray := by
  obtain ⟨hs, h1, -, -⟩ := h
  apply Array.ext_getElem?
  intro j
  rcases Nat.lt_or_ge j l.length with hj | hj
  · have hr : l[j]? = some l[j] := List.getElem?_eq_getElem hj
    rw [h1 j _ hj hr]
    simp [cntL, hj]
  · rw [Array.getElem?_eq_none (by omega), Array.getElem?_eq_none (by simp [cntL]; omega)]
/-- all rows of counts. -/
def cntAll (d : List (List (List Int))) : List (List Int) := (List.range (d.length + 1)).map fun j => cnt (d.drop j)
/-- the rows from place j on are counted, k of them besides the last. -/
def PRows (d : List (List (List Int))) (Bo k : Nat) (W : World) : Prop := ∃ os : Array Value, os.size = d.length + 1 ∧ TBlk 22 W Bo os ∧ ∀ j, j ≤ d.length → d.length ≤ j + k → ∃ g, os[j]? = some (.slice (some ⟨g, 0, none⟩) (cnt (d.drop j)).length (cnt (d.drop j)).length) ∧ TBlk 3 W g ((cnt (d.drop j)).map (.int .i64)).toArray
theorem PRows.put_ {d : List (List (List Int))} {Bo k : Nat} {w : World} {l : Nat} {o o' : Obj} (h : PRows d Bo k w) (hl : w.heap[l]? = some o) (ho : o.isCells = false) : PRows d Bo k (w.putObj l o') := by
  obtain ⟨os, h1, h2, h3⟩ := h
  refine ⟨os, h1, h2.put_ hl ho, fun j h4 h5 => ?_⟩
  obtain ⟨g, h6, h7⟩ := h3 j h4 h5
  exact ⟨g, h6, h7.put_ hl ho⟩
theorem PRows.read {d : List (List (List Int))} {Bo : Nat} {w : World} (h : PRows d Bo d.length w) (hv : vdgF d = true) (hd : d.length ≤ 1048576) : RowsR w w.heap.size (some ⟨Bo, 0, none⟩) (d.length + 1) (cntAll d) := by
  obtain ⟨os, h1, h2, h3⟩ := h
  refine ⟨by simp [cntAll], by omega, fun _ => ⟨Bo, 0, rfl, h2.lt, fun j x hx => ?_⟩⟩
  have hj : j < d.length + 1 := by
    rcases Nat.lt_or_ge j (d.length + 1) with h | h
    · exact h
    · rw [List.getElem?_eq_none (by simpa [cntAll] using h)] at hx; cases hx
  have hx2 : x = cnt (d.drop j) := by
    simp [cntAll, hj] at hx
    exact hx.symm
  obtain ⟨g, h4, h5⟩ := h3 j (by omega) (by omega)
  rw [Nat.zero_add]
  refine ⟨_, h2.at_ j h4, ?_⟩
  rw [hx2]
  refine ⟨some ⟨g, 0, none⟩, _, rfl, rfl, ?_, fun _ => ⟨g, 0, rfl, h5.lt, fun k y hy => ⟨_, ?_, rfl⟩⟩⟩
  · have := cnt_le hv j; omega
  · rw [Nat.zero_add]
    exact h5.at_ k (by simp [hy])
set_option maxHeartbeats 4000000 in
theorem ipaths (A : Option Addr) (n c : Nat) (d : List (List (List Int))) (hv : vdgF d = true) (w : World) (h : LayersR w w.heap.size A n d) :
    Calls Try.prog 67 #[.slice A n c] w fun e w' => ∃ B, e = .returned (.slice (some ⟨B, 0, none⟩) (n + 1) (n + 1)) ∧ RowsR w' w'.heap.size (some ⟨B, 0, none⟩) (n + 1) (cntAll d) ∧ Below w.heap.size w w' := by
  have hn := h.le
  have hl := h.len
  have hn4 := inB_true (show inB d.length 1 4 = true by unfold vdgF at hv; simp only [Bool.and_eq_true] at hv; exact hv.1.1)
  obtain ⟨i0, hi0, hz0, hz1, hz2⟩ := info_parts info_int
  obtain ⟨i1, hi1, hy0, hy1, hy2⟩ := info_parts (P := Try.prog) (e := 22) (z := .slice none 0 0) (size := 1) (bytes := 24) (by kernel_rfl)
  obtain ⟨Z, hZ, hmk⟩ := make_blk (P := Try.prog) 23 22 i1 _ Try.underlying23 hi1 hy0 hy1 rfl (n + 1) (by rw [hy2]; omega) (by unfold maxLen; omega)
  have hmk1 : ∀ W : World, Sem.run Try.prog (Instr.makeSlice 23 (.int .i64 ((n : Int) + 1)) (.int .i64 ((n : Int) + 1))) W = .ok (.slice (some ⟨W.heap.size, 0, none⟩) (n + 1) (n + 1)) (W.alloc (.cells Z 22)) := fun W => hmk W
  clear hmk
  have hn5 : n ≤ 4 := by omega
  have hZn : Z[n]? = some (.slice none 0 0) := by rw [← Array.getElem?_toList, hZ, List.getElem?_replicate, if_pos (by omega)]
  have hZs : Z.size = n + 1 := by rw [← Array.length_toList, hZ, List.length_replicate]
  have HL := Lib.hid hl
  have HV := Lib.hid hv
  have HZ := Lib.hid hZ
  have HZS := Lib.hid hZs
  obtain ⟨b, o, us, rfl, hbB, hul, huc, hur⟩ := SlR.vals h (by omega)
  have HUL := Lib.hid hul
  have HUC := Lib.hid huc
  have HUR := Lib.hid hur
  clear hl hZ hv hZs hul huc hur
  refine (callsIn_wide (n := 5)).1 ?_
  refine callsIn_of_wp_marks Try.func67 rfl trivial ?_ rfl
  refine wpIn_wide.2 ?_
  simp only [Try.ntmps67, List.size_toArray, List.length_cons, List.length_nil, Nat.reduceAdd, Nat.reduceSub, Array.replicate_succ, Array.replicate_zero, List.push_toArray, List.append_toArray, List.nil_append, List.cons_append]
  go_wp2_with fail
  refine (backward _ _ _ _).mono ?_
  rintro e w' ⟨rfl, rfl⟩
  go_wp2_with fail
  obtain ⟨W0, hW0⟩ : ∃ W0 : World, (((w.alloc (.cells (Z.setIfInBounds n (.slice (some ⟨w.heap.size + 1 + 1, 0, none⟩) 1 1)) 22)).alloc (.cells #[.slice (some ⟨w.heap.size, 0, none⟩) (n + 1) (n + 1)] 23)).alloc (.cells #[.int .i64 1] 3)).alloc (.cells #[.slice (some ⟨b, o, none⟩) n c] 27) = W0 := ⟨_, rfl⟩
  rw [hW0]
  have hB0 : Below w.heap.size w W0 := by rw [← hW0]; exact (b_alloc3 w _ _ _).alloc (by simp; omega) _
  have hS0 : W0.heap.size = w.heap.size + 4 := by rw [← hW0]; simp
  have T1 : TBlk 22 W0 w.heap.size (Z.setIfInBounds n (.slice (some ⟨w.heap.size + 1 + 1, 0, none⟩) 1 1)) := by rw [← hW0]; exact (((TBlk.new _ _ _).alloc_ _).alloc_ _).alloc_ _
  have T2 : TBlk 23 W0 (w.heap.size + 1) #[.slice (some ⟨w.heap.size, 0, none⟩) (n + 1) (n + 1)] := by
    rw [← hW0]
    have := TBlk.new (w.alloc (.cells (Z.setIfInBounds n (.slice (some ⟨w.heap.size + 1 + 1, 0, none⟩) 1 1)) 22)) #[.slice (some ⟨w.heap.size, 0, none⟩) (n + 1) (n + 1)] 23
    rw [size_alloc_] at this
    exact (this.alloc_ _).alloc_ _
  have T3 : TBlk 3 W0 (w.heap.size + 1 + 1) #[.int .i64 1] := by
    rw [← hW0]
    have := TBlk.new ((w.alloc (.cells (Z.setIfInBounds n (.slice (some ⟨w.heap.size + 1 + 1, 0, none⟩) 1 1)) 22)).alloc (.cells #[.slice (some ⟨w.heap.size, 0, none⟩) (n + 1) (n + 1)] 23)) #[.int .i64 1] 3
    rw [size_alloc_, size_alloc_] at this
    exact this.alloc_ _
  have T4 : TBlk 27 W0 (w.heap.size + 1 + 1 + 1) #[.slice (some ⟨b, o, none⟩) n c] := by
    rw [← hW0]
    have := TBlk.new (((w.alloc (.cells (Z.setIfInBounds n (.slice (some ⟨w.heap.size + 1 + 1, 0, none⟩) 1 1)) 22)).alloc (.cells #[.slice (some ⟨w.heap.size, 0, none⟩) (n + 1) (n + 1)] 23)).alloc (.cells #[.int .i64 1] 3)) #[.slice (some ⟨b, o, none⟩) n c] 27
    rw [size_alloc_, size_alloc_, size_alloc_] at this
    exact this
  have P0 : PRows d w.heap.size 0 W0 := ⟨_, by rw [Array.size_setIfInBounds, HZS.out, HL.out], T1, fun j h1 h2 => by
    obtain rfl : j = n := by have := HL.out; omega
    refine ⟨w.heap.size + 1 + 1, ?_, ?_⟩
    · rw [cnt_end (by have := HL.out; omega)]
      have := HZS.out
      simp [this]
    · rw [cnt_end (by have := HL.out; omega)]; exact T3⟩
  have HB0 := Lib.hid hB0
  have HP0 := Lib.hid P0
  have HT2 := Lib.hid T2
  have HT4 := Lib.hid T4
  have HH := Lib.hid h
  clear hB0 T1 T2 T3 T4 P0 h hW0 hmk1 hZn
  obtain ⟨G0, hG0⟩ : ∃ G0, w.heap.size = G0 := ⟨_, rfl⟩
  rw [hG0] at HB0 HP0 HT2 HT4 hS0 hbB ⊢
  have HG0 := Lib.hid hG0
  have HS0 := Lib.hid hS0
  clear hG0 hS0
  refine (wpIn_wide (n := 5)).1 ?_
  refine wp_range_direct (gf := 130) (lb := #[.pointer (some ⟨G0 + 1 + 1 + 1, 0, none⟩)]) rfl (enters_of Try.func130 (by kernel_rfl) rfl) ?_
  intro r hr1 hr2 hr3 hr4 hr5 hr6
  obtain ⟨B, hB⟩ : ∃ B, W0.heap.size = B := ⟨_, rfl⟩
  rw [hB]
  have hBG : B = G0 + 4 := by rw [← hB]; exact HS0.out
  let J : Nat → World → Prop := fun k W => Rdy B r W ∧ TBlk 23 W (G0 + 1) #[.slice (some ⟨G0, 0, none⟩) (n + 1) (n + 1)] ∧ PRows d G0 k W ∧ Below G0 w W ∧ TBlk 27 W (G0 + 1 + 1 + 1) #[.slice (some ⟨b, o, none⟩) n c]
  have hJ0 : J 0 ((W0.alloc (.deferred (some []))).alloc (.loop r)) := by
    obtain ⟨os, h1, h2, h3⟩ := HP0.out
    refine ⟨⟨?_, ?_⟩, (HT2.out.alloc_ _).alloc_ _, ⟨os, h1, (h2.alloc_ _).alloc_ _, fun j h4 h5 => ?_⟩, (HB0.out.alloc (by omega) _).alloc (by rw [size_alloc_]; omega) _, (HT4.out.alloc_ _).alloc_ _⟩
    · have := World.alloc_heap_new (W0.alloc (.deferred (some []))) (.loop r)
      rwa [World.size_alloc, hB] at this
    · have := World.alloc_heap_new W0 (.deferred (some []))
      rw [hB] at this
      exact ((b_alloc _ _).block _ (by rw [size_alloc_]; omega)).trans this
    · obtain ⟨g, h6, h7⟩ := h3 j h4 h5
      exact ⟨g, h6, (h7.alloc_ _).alloc_ _⟩
  refine (back1 3 (B + 1) (G0 + 1 + 1 + 1) b o n c us HUL.out (by omega) J ?hc ?hY ?hu _ hJ0).mono ?fin
  case hc =>
    rintro k W ⟨-, -, -, hBl, hT⟩
    exact ⟨hT.at_ 0 rfl, fun j u hu => (hBl.cell (p := ⟨b, o + j, none⟩) hbB).trans (HUC.out j u hu)⟩
  case hu =>
    intro u hu
    obtain ⟨j, hj, e⟩ := List.getElem_of_mem hu
    have hu2 : us[j]? = some u := by rw [List.getElem?_eq_getElem hj, e]
    obtain ⟨A1, c1, e1, -⟩ := HUR.out j u _ hu2 (List.getElem?_eq_getElem (by have := HL.out; have := HUL.out; omega))
    exact ⟨_, _, _, e1⟩
  case hY =>
    intro k i W u hJ hik hui
    obtain ⟨l, hl⟩ : ∃ l, d[i]? = some l := ⟨_, List.getElem?_eq_getElem (by have := HL.out; omega)⟩
    obtain ⟨A1, c1, rfl, hl0⟩ := HUR.out i u l hui hl
    obtain ⟨hRd, hTb, hPr, hBl, hT4⟩ := hJ
    refine yield_direct (a1 := { tmps := #[.slice (some ⟨b, o, none⟩) n c, undef, .slice none 0 0, .pointer (some ⟨G0 + 1, 0, none⟩), .int .i64 i, .slice A1 l.length c1, undef, undef, undef, undef, .slice (some ⟨b, o, none⟩) n c, .int .i64 n, .int .i64 ((n : Int) + 1), .slice (some ⟨G0, 0, none⟩) (n + 1) (n + 1), .slice (some ⟨G0, 0, none⟩) (n + 1) (n + 1), .slice (some ⟨b, o, none⟩) n c, .int .i64 n, .slice (some ⟨G0 + 1 + 1, 0, none⟩) 1 1, .pointer (some ⟨G0, n, none⟩), .slice (some ⟨b, o, none⟩) n c, .func (.func 130) #[] #[.pointer (some ⟨G0 + 1 + 1 + 1, 0, none⟩)], .int .i64 i, .slice A1 l.length c1, undef, undef, undef, undef, undef, undef, undef, undef, undef, undef, undef, undef, undef, undef, undef, undef, undef, undef, undef, undef, undef, undef, undef, undef, undef, undef, undef, undef, undef, undef, undef, undef, undef, undef, undef, undef, undef, undef, undef, undef, undef], defers := [] }) hRd hr1 hr2 hr3 hr4 hr5 hr6 rfl (fun K hK => by gi_wp2; exact hK) ?_
    obtain ⟨W', hW'⟩ : ∃ W' : World, W.putObj (B + 1) (.loop { r with state := .busy }) = W' := ⟨_, rfl⟩
    rw [hW']
    have hBs : Bsy B r W' := by rw [← hW']; exact hRd.busy
    have hTb' : TBlk 23 W' (G0 + 1) #[.slice (some ⟨G0, 0, none⟩) (n + 1) (n + 1)] := by rw [← hW']; exact hTb.put_ hRd.1 rfl
    have hPr' : PRows d G0 k W' := by
      obtain ⟨os, h1, h2, h3⟩ := hPr
      refine ⟨os, h1, by rw [← hW']; exact h2.put_ hRd.1 rfl, fun j h4 h5 => ?_⟩
      obtain ⟨g, h6, h7⟩ := h3 j h4 h5
      exact ⟨g, h6, by rw [← hW']; exact h7.put_ hRd.1 rfl⟩
    have hT4' : TBlk 27 W' (G0 + 1 + 1 + 1) #[.slice (some ⟨b, o, none⟩) n c] := by rw [← hW']; exact hT4.put_ hRd.1 rfl
    have hBl' : Below G0 w W' := by rw [← hW']; exact hBl.trans (put_below _ hRd.1 (by omega))
    clear hPr hTb hT4 hBl hRd hW'
    have hl216 := (vdg_layer HV.out hl).2.1
    obtain ⟨Z2, hZ2, hmk2⟩ := make_blk (P := Try.prog) 22 3 i0 _ Try.underlying22 hi0 hz0 hz1 rfl l.length (by rw [hz2]; omega) (by unfold maxLen; omega)
    obtain ⟨os, hos, hTo, hRows⟩ := hPr'
    obtain ⟨v0, hosi⟩ : ∃ v0, os[i]? = some v0 := ⟨_, Array.getElem?_eq_getElem (by rw [hos]; have := HL.out; omega)⟩
    clear hr1 hr2 hr3 hr4 hr5 hr6
    have hb0 := hTb'.at_ 0 rfl
    have hbi := hTo.at_ i hosi
    have hfi := hTo.frozen i
    have hlt1 := hTo.lt
    have hlt2 := hTb'.lt
    have hin : (i : Int) < (n : Int) + 1 := by omega
    have HR := Lib.hid hRows
    have HOS := Lib.hid hos
    have HZ2 := Lib.hid hZ2
    have HLI := Lib.hid hl
    have HIK := Lib.hid hik
    have HUI := Lib.hid hui
    clear hRows hos hZ2 hl hik hui
    gi_wp2
    refine wpIn_region_held_round (S := fun w' => w'.cell? ⟨G0 + 1, 0, none⟩ = some (.slice (some ⟨G0, 0, none⟩) (n + 1) (n + 1))) (by kernel_rfl) (by kernel_rfl) (by rintro ⟨_, _, h⟩; exact h) hb0 (fun hHeld => ?_)
    have hc2 : ((W'.alloc (.cells Z2 3)).drew).cell? ⟨G0, i, none⟩ = some v0 := (World.cell?_alloc_some (W'.drew) _ _ (by rw [show W'.drew.cell? ⟨G0, i, none⟩ = _ from hbi]; rfl)).trans hbi
    have hf2 : ((W'.alloc (.cells Z2 3)).drew).frozen? ⟨G0, i, none⟩ = false := ((hTo.alloc_ (.cells Z2 3)).drewN_ 1).frozen i
    refine wpAnyH_take (i := 0) (oi := { dst := _, op := _, type := _, pos := _, after := _, guard := _ }) (v := ?v0) rfl (by kernel_rfl) (by kernel_rfl) (by kernel_rfl) (fun _ _ _ h => h) (Or.inl ⟨by rfl, ?y0⟩) hHeld ?r0
    case y0 => (intro w hSw; (try dsimp only at hSw); go_simp; try with_reducible rfl)
    try simp only [Act.put, List.setIfInBounds_toArray, List.set_cons_zero, List.set_cons_succ]
    refine wpAnyH_take (i := 1) (oi := { dst := _, op := _, type := _, pos := _, after := _, guard := _ }) (v := ?v1) rfl (by kernel_rfl) (by kernel_rfl) (by kernel_rfl) (fun _ _ _ h => h) (Or.inl ⟨by rfl, ?y1⟩) hHeld ?r1
    case y1 => (intro w hSw; (try dsimp only at hSw); go_simp; try with_reducible rfl)
    try simp only [Act.put, List.setIfInBounds_toArray, List.set_cons_zero, List.set_cons_succ]
    refine wpAnyH_take (i := 2) (oi := { dst := _, op := _, type := _, pos := _, after := _, guard := _ }) (v := ?v2) rfl (by kernel_rfl) (by kernel_rfl) (by kernel_rfl) (fun _ _ _ h => h) (Or.inl ⟨by rfl, ?y2⟩) hHeld ?r2
    case y2 => (intro w hSw; (try dsimp only at hSw); go_simp; try with_reducible rfl)
    try simp only [Act.put, List.setIfInBounds_toArray, List.set_cons_zero, List.set_cons_succ]
    refine wpAnyH_take (i := 3) (oi := { dst := _, op := _, type := _, pos := _, after := _, guard := _ }) (v := ?v3) rfl (by kernel_rfl) (by kernel_rfl) (by kernel_rfl) (fun _ _ _ h => h) (Or.inl ⟨by rfl, ?y3⟩) hHeld ?r3
    case y3 => (intro w hSw; (try dsimp only at hSw); go_simp; try with_reducible rfl)
    try simp only [Act.put, List.setIfInBounds_toArray, List.set_cons_zero, List.set_cons_succ]
    refine wpAnyH_ready (rs := [4]) (by kernel_rfl) (by simp) ?_
    refine AllReadyH.cons (o := { dst := _, op := _, type := _, pos := _, after := _, guard := _ }) rfl (fun K hK => ?_) AllReadyH.nil
    go_simp
    refine hK.out _ _ ?_ (fun hHeld => ?_)
    · exact (World.cell?_alloc_some _ _ _ (by rw [hb0]; rfl)).trans hb0
    clear hK K
    try simp only [Act.put, List.setIfInBounds_toArray, List.set_cons_zero, List.set_cons_succ]
    refine wpAnyH_take (i := 5) (oi := { dst := _, op := _, type := _, pos := _, after := _, guard := _ }) (v := ?v5) rfl (by kernel_rfl) (by kernel_rfl) (by kernel_rfl) (fun _ _ _ h => h) (Or.inl ⟨by rfl, ?y5⟩) hHeld ?r5
    case y5 => (intro w hSw; (try dsimp only at hSw); go_simp; try with_reducible rfl)
    try simp only [Act.put, List.setIfInBounds_toArray, List.set_cons_zero, List.set_cons_succ]
    refine wpAnyH_ready (rs := [6]) (by kernel_rfl) (by simp) ?_
    refine AllReadyH.cons (o := { dst := _, op := _, type := _, pos := _, after := _, guard := _ }) rfl (fun K hK => ?_) AllReadyH.nil
    go_simp
    refine hK.out _ _ ?_ (fun hHeld => ?_)
    · exact (((hTb'.far (g := G0) (j := i) (u := .slice (some ⟨W'.heap.size, 0, none⟩) l.length l.length) (by omega)).alloc_ (.cells Z2 3)).drewN_ 1).at_ 0 rfl
    clear hK K
    try simp only [Act.put, List.setIfInBounds_toArray, List.set_cons_zero, List.set_cons_succ]
    refine wpAnyH_done (by kernel_rfl) ?_ _
    obtain ⟨G, hG⟩ : ∃ G, W'.heap.size = G := ⟨_, rfl⟩
    obtain ⟨W2, hW2⟩ : ∃ W2 : World, ((W'.setCell ⟨G0, i, none⟩ (.slice (some ⟨W'.heap.size, 0, none⟩) l.length l.length)).alloc (.cells Z2 3)).drew = W2 := ⟨_, rfl⟩
    rw [hW2, hG]
    rw [hG] at hW2
    have hG1 : B + 1 < G := by rw [← hG]; exact (Array.getElem?_eq_some_iff.1 hBs.1).1
    have uTG : TBlk 3 W2 G Z2 := by
      rw [← hW2, ← hG]
      have := TBlk.new (W'.setCell ⟨G0, i, none⟩ (.slice (some ⟨W'.heap.size, 0, none⟩) l.length l.length)) Z2 3
      rw [World.size_setCell] at this
      exact this.drewN_ 1
    have uTo : TBlk 22 W2 G0 (os.setIfInBounds i (.slice (some ⟨G, 0, none⟩) l.length l.length)) := by rw [← hW2]; exact ((hTo.store i _).alloc_ _).drewN_ 1
    have uTb : TBlk 23 W2 (G0 + 1) #[.slice (some ⟨G0, 0, none⟩) (n + 1) (n + 1)] := by rw [← hW2]; exact ((hTb'.far (by omega)).alloc_ _).drewN_ 1
    have uT4 : TBlk 27 W2 (G0 + 1 + 1 + 1) #[.slice (some ⟨b, o, none⟩) n c] := by rw [← hW2]; exact ((hT4'.far (by omega)).alloc_ _).drewN_ 1
    have uBl : Below G0 w W2 := by rw [← hW2]; exact below_drewN ((hBl'.setCell (p := ⟨G0, i, none⟩) (Nat.le_refl _) _).alloc (by rw [World.size_setCell]; omega) _) 1
    have uBs : Bsy B r W2 := by
      have h1 : KeepsFrom B W' W2 := by
        rw [← hW2]
        exact (((KeepsOthers.setCell _ _ _).trans (KeepsOthers.alloc _ _)).trans (KeepsOthers.drew _)).from B
      exact hBs.kept h1
    have uR : ∀ j, j ≤ d.length → d.length ≤ j + k → ∃ g, os[j]? = some (.slice (some ⟨g, 0, none⟩) (cnt (d.drop j)).length (cnt (d.drop j)).length) ∧ TBlk 3 W2 g ((cnt (d.drop j)).map (.int .i64)).toArray ∧ g < G := by
      intro j h1 h2
      obtain ⟨g, h3, h4⟩ := HR.out j h1 h2
      refine ⟨g, h3, ?_, by rw [← hG]; exact h4.lt⟩
      rw [← hW2]
      exact ((h4.far (h4.ne hTo (by decide))).alloc_ _).drewN_ 1
    clear hHeld hc2 hf2 hbi hfi hb0 hTo hTb' hT4' hBl' hBs HR hW2 hmk2 hlt1 hlt2
    gi_wp2
    have hPz : Part (cnt (d.drop (i + 1))) l 0 0 Z2 := Part.start HZ2.out
    gi_loopw [31] (fun t wr => ∃ kk : Nat, kk ≤ l.length ∧ t = .int .i64 kk ∧ Hid (∃ Zr, TBlk 3 wr G Zr ∧ Part (cnt (d.drop (i + 1))) l kk 0 Zr) ∧ Below G W2 wr) (fun t _ => l.length - (intOf t).toNat)
    case atStart => exact ⟨0, by omega, rfl, ⟨Z2, uTG, hPz⟩, Below.refl _ _⟩
    case round =>
      obtain ⟨kk, hkk, rfl, hq, hbr⟩ := hrel
      clear hPz uTG
      have hbw : Below G0 w wr := uBl.trans (hbr.mono (by omega))
      by_cases hlt : kk < l.length
      · obtain ⟨lb, lo, rw_, u, rfl, hlb, hrk, hcr, A2, c2, rfl, hr1⟩ := SlR.at_ (hl0.keep (RowC.keeps IntC.keeps) (fun p hp => hbw.cell (by have := HG0.out; omega))) hlt
        have hr6 := ((vdg_layer HV.out HLI.out).2.2 rw_ (List.mem_of_getElem? hrk)).1
        rw [hr6] at hcr hr1
        have HRK := Lib.hid hrk
        have HR6 := Lib.hid hr6
        clear hrk hr6
        gi_wp2
        obtain ⟨Zr0, hZr0, hPt0⟩ := hq.out
        obtain ⟨wo, rfl⟩ : ∃ wo : World, wo = wr := ⟨_, rfl⟩
        gi_loopw [38] (fun t wi => ∃ v : Nat, v ≤ 6 ∧ t = .int .i64 v ∧ Hid (∃ Zr, TBlk 3 wi G Zr ∧ Part (cnt (d.drop (i + 1))) l kk (sumTo (cnt (d.drop (i + 1))) rw_ v) Zr) ∧ Below G W2 wi) (fun t _ => 6 - (intOf t).toNat)
        case atStart => exact ⟨0, by omega, rfl, ⟨Zr0, hZr0, hPt0⟩, hbr⟩
        case round =>
          obtain ⟨v, hv6, rfl, hq2, hbi⟩ := hrel
          clear hZr0 hPt0 hbw hcr
          have hbwi : Below G0 w wr := uBl.trans (hbi.mono (by omega))
          by_cases hvt : v < 6
          · obtain ⟨rb, ro, x, rfl, hrb, hxk, hce⟩ := IntR.at_ (hr1.keep IntC.keeps (fun p hp => (hbi.cell (by have := HG0.out; omega)).trans (hbr.cell (by have := HG0.out; omega)).symm)) hvt
            by_cases hx0 : 0 ≤ x
            · obtain ⟨cc, hcc, he1, he2⟩ := edge_ok HV.out HLI.out HRK.out hxk hx0
              obtain ⟨a2, ha2⟩ : ∃ a2 : Nat, x = (a2 : Int) := ⟨x.toNat, by omega⟩
              subst ha2
              rw [Int.toNat_natCast] at hcc he1
              have hs := sumTo_yes (cs := cnt (d.drop (i + 1))) hxk hx0 (by rw [Int.toNat_natCast]; exact hcc)
              have HS := Lib.hid hs
              obtain ⟨Zr, hZr, hPt⟩ := hq2.out
              obtain ⟨g, hg1, hg2, hg3⟩ := uR (i + 1) (by have := HL.out; have := HIK.out; omega) (by have := HL.out; have := HIK.out; omega)
              have e1 : (wr.drew).cell? ⟨G0 + 1, 0, none⟩ = some (.slice (some ⟨G0, 0, none⟩) (n + 1) (n + 1)) := ((uTb.below_ hbi (by omega)).drewN_ 1).at_ 0 rfl
              have e2 : (wr.drew).cell? ⟨G0, i, none⟩ = some (.slice (some ⟨G, 0, none⟩) l.length l.length) := ((uTo.below_ hbi (by omega)).drewN_ 1).at_ i (by rw [Array.getElem?_setIfInBounds_self_of_lt (by rw [HOS.out]; have := HL.out; omega)])
              have e3 : (wr.drew).cell? ⟨G, kk, none⟩ = some (.int .i64 (sumTo (cnt (d.drop (i + 1))) rw_ v)) := (hZr.drewN_ 1).at_ kk (hPt.2.2.1 hlt)
              have e4 : (wr.drew).cell? ⟨G0, i + 1, none⟩ = some (.slice (some ⟨g, 0, none⟩) (cnt (d.drop (i + 1))).length (cnt (d.drop (i + 1))).length) := ((uTo.below_ hbi (by omega)).drewN_ 1).at_ (i + 1) (by rw [Array.getElem?_setIfInBounds_ne (by omega)]; exact hg1)
              have e5 : (wr.drew).cell? ⟨g, a2, none⟩ = some (.int .i64 cc) := ((hg2.below_ hbi hg3).drewN_ 1).at_ a2 (by simp [hcc])
              have e6 : (wr.drew).frozen? ⟨G, kk, none⟩ = false := (hZr.drewN_ 1).frozen kk
              have ha2l : a2 < (cnt (d.drop (i + 1))).length := by
                rcases Nat.lt_or_ge a2 (cnt (d.drop (i + 1))).length with h | h
                · omega
                · rw [List.getElem?_eq_none h] at hcc; cases hcc
              have hcl : (cnt (d.drop (i + 1))).length ≤ 216 := cnt_le HV.out _
              obtain ⟨i1, hi1⟩ : ∃ i1, i1 = i + 1 := ⟨_, rfl⟩
              obtain ⟨m1, hm1⟩ : ∃ m1, m1 = (cnt (d.drop (i + 1))).length := ⟨_, rfl⟩
              rw [← hm1] at e4 ha2l hcl
              rw [← hi1] at e4
              have hin1 : (i1 : Int) < (n : Int) + 1 := by have := HIK.out; omega
              have hwr : IntKind.i64.wrap ((i : Int) + 1) = (i1 : Int) := by rw [IntWalk.i64_in _ (by omega)]; omega
              obtain ⟨z, hz⟩ : ∃ z, z = sumTo (cnt (d.drop (i + 1))) rw_ (v + 1) := ⟨_, rfl⟩
              have HZ3 := Lib.hid hz
              have hsum : wrap64 (sumTo (cnt (d.drop (i + 1))) rw_ v + cc) = z := by rw [hz, hs]
              have hsum2 : IntKind.i64.wrap (sumTo (cnt (d.drop (i + 1))) rw_ v + cc) = z := by rw [← hsum, IntKind.wrap_i64]; unfold wrap64; omega
              generalize sumTo (cnt (d.drop (i + 1))) rw_ v = y at *
              have HE := Lib.hid hce
              clear hs hxk hcc he1 he2 hx0 hg1 hi1 hz hm1
              gi_wp2
              refine wpIn_region_tail_round 17 (by kernel_rfl) (by kernel_rfl) (by rintro ⟨_, _, h⟩; exact h) (by kernel_rfl) ?_
              simp only [List.take_succ_cons, List.take_zero, List.drop_succ_cons, List.drop_zero]
              repeat still_step
              try refine wpStill_nil ?_
              go_wp2_with fail
              gi_wp2
              go_roundw
              case rel => exact ⟨v + 1, by omega, by go_num, ⟨_, (hZr.store kk _).drewN_ 1, by rw [← HZ3.out]; exact hPt.set hlt _⟩, below_drewN (hbi.setCell (by simp) _) 1⟩
              case measure => first | (simp [intOf]; done) | (simp [intOf]; omega)
            · have hs := sumTo_no (cs := cnt (d.drop (i + 1))) hxk hx0
              have HS := Lib.hid hs
              clear hs hxk
              gi_wp2
              go_roundw
              case rel => exact ⟨v + 1, by omega, by go_num, by rw [HS.out]; exact hq2, hbi⟩
              case measure => first | (simp [intOf]; done) | (simp [intOf]; omega)
          · obtain rfl : v = 6 := by omega
            gi_wp2
            go_roundw
            case rel =>
              obtain ⟨Zr, hZr, hPt⟩ := hq2.out
              exact ⟨kk + 1, by omega, by go_num, ⟨Zr, hZr, hPt.next HRK.out⟩, hbi⟩
            case measure => first | (simp [intOf]; done) | (simp [intOf]; omega)
      · obtain rfl : kk = l.length := by omega
        gi_wp2
        have hBw : Below G0 w wr := uBl.trans (hbr.mono (by omega))
        obtain ⟨Zr, hZr, hPt⟩ := hq.out
        have hdone := hPt.done
        rw [← cnt_drop HLI.out] at hdone
        have hlen := cnt_len HLI.out
        have hBsw : Bsy B r wr := ⟨(hbr.block _ hG1).trans uBs.1, (hbr.block _ (by omega)).trans uBs.2⟩
        refine ⟨hBsw, rfl, hBsw.ready, (uTb.below_ hbr (by omega)).put_ hBsw.1 rfl, ⟨_, by rw [Array.size_setIfInBounds]; exact HOS.out, (uTo.below_ hbr (by omega)).put_ hBsw.1 rfl, fun j h1 h2 => ?_⟩, hBw.trans (put_below _ hBsw.1 (by omega)), (uT4.below_ hbr (by omega)).put_ hBsw.1 rfl⟩
        by_cases hji : j = i
        · subst hji
          refine ⟨G, ?_, ?_⟩
          · rw [Array.getElem?_setIfInBounds_self_of_lt (by rw [HOS.out]; omega), hlen]
          · rw [← hdone]; exact hZr.put_ hBsw.1 rfl
        · obtain ⟨g, h3, h4, h5⟩ := uR j h1 (by have := HL.out; have := HIK.out; omega)
          exact ⟨g, by rw [Array.getElem?_setIfInBounds_ne (by omega)]; exact h3, (h4.below_ hbr h5).put_ hBsw.1 rfl⟩
  case fin =>
    rintro e W' ⟨⟨v, rfl⟩, hRd, hTb, hPr, hBl, -⟩
    refine ⟨⟨_, rfl⟩, .inl ⟨hRd, ?_⟩⟩
    clear hr1 hr2 hr3 hr4 hr5 hr6 hJ0
    obtain ⟨W3, hW3⟩ : ∃ W3 : World, W'.putObj (B + 1) (.loop { r with state := .exhausted, pending := none }) = W3 := ⟨_, rfl⟩
    rw [hW3]
    have hTb3 : TBlk 23 W3 (G0 + 1) #[.slice (some ⟨G0, 0, none⟩) (n + 1) (n + 1)] := by rw [← hW3]; exact hTb.put_ hRd.1 rfl
    have hBl3 : Below G0 w W3 := by rw [← hW3]; exact hBl.trans (put_below _ hRd.1 (by omega))
    have hD3 : W3.heap[B]? = some (.deferred (some [])) := by rw [← hW3]; exact (World.putObj_heap_other (by omega)).trans hRd.2
    have hPr3 : PRows d G0 n W3 := by
      obtain ⟨os, h1, h2, h3⟩ := hPr
      refine ⟨os, h1, by rw [← hW3]; exact h2.put_ hRd.1 rfl, fun j h4 h5 => ?_⟩
      obtain ⟨g, h6, h7⟩ := h3 j h4 h5
      exact ⟨g, h6, by rw [← hW3]; exact h7.put_ hRd.1 rfl⟩
    have hb0 := hTb3.at_ 0 rfl
    have HD3 := Lib.hid hD3
    have HP3 := Lib.hid hPr3
    clear hW3 hPr hBl hTb hRd hD3 hPr3
    dsimp only
    go_wp2_with fail
    refine ⟨by simp, .inl ⟨_, _, rfl, run_takeDeferred HD3.out, ?_⟩⟩
    refine ⟨_, results_tmp rfl _ _ _, G0, rfl, ?_, ?_⟩
    · have := (HP3.out.put_ (o' := .deferred none) HD3.out rfl)
      rw [← HL.out] at this ⊢
      exact this.read HV.out (by have := HL.out; omega)
    · rw [HG0.out]; exact hBl3.trans (put_below _ HD3.out (by omega))
theorem iDiagramCount (A : Option Addr) (n c : Nat) (d : List (List (List Int))) (w : World) (h : LayersR w w.heap.size A n d) :
    Calls Try.prog 29 #[.slice A n c] w fun e w' => e = .returned (.int .i64 (dcF d)) ∧ Below w.heap.size w w' := by
  cases hv : vdgF d
  · have e : dcF d = -1 := by unfold dcF; rw [hv]; rfl
    rw [e]
    have HV := Lib.hid hv
    clear hv e
    go_enter Try.func29, Try.ntmps29
    go_wp2_with fail
    refine (iValidDiagram _ _ _ _ _ h).mono ?_
    rw [HV.out]
    rintro e w2 ⟨rfl, hb2⟩
    go_wp2_with fail
    go_ret
    exact ⟨rfl, hb2⟩
  · have e : dcF d = cntAt d 0 0 := by unfold dcF; rw [hv]; rfl
    rw [e]
    have HV := Lib.hid hv
    obtain ⟨l, cc, hl, hl1, hc0, hc1⟩ := cnt_first hv
    rw [hc1]
    have HC := Lib.hid hc0
    have HL1 := Lib.hid (show (cnt d).length = 1 by have := cnt_len hl; rw [List.drop_zero] at this; rw [this, hl1])
    clear hv e hl hl1 hc0 hc1
    go_enter Try.func29, Try.ntmps29
    go_wp2_with fail
    refine (iValidDiagram _ _ _ _ _ h).mono ?_
    rw [HV.out]
    rintro e w2 ⟨rfl, hb2⟩
    go_wp2_with fail
    refine (ipaths _ _ _ _ HV.out _ (SlR.on (RowC.keeps (RowC.keeps IntC.keeps)) (RowC.widens (RowC.widens IntC.widens)) h hb2)).mono ?_
    rintro e w3 ⟨B, rfl, hr, hb3⟩
    obtain ⟨ab, ao, x, u, e1, hab, hx, hcx, A1, c1, rfl, hx1⟩ := SlR.at_ hr (k := 0) (by omega)
    injection e1 with e1
    injection e1 with e1 e3
    subst e1 e3
    have hx2 : x = cnt d := by simpa [cntAll] using hx.symm
    subst hx2
    rw [HL1.out] at hx1 hcx
    obtain ⟨rb, ro, y, rfl, hrb, hy, hce⟩ := IntR.at_ hx1 (k := 0) (by omega)
    rw [HC.out] at hy
    injection hy with hy
    subst hy
    rw [Nat.add_zero] at hcx hce
    clear hx hr hx1
    go_wp2_with fail
    go_ret
    exact ⟨rfl, bgo hb2 hb3⟩
end Go.Proofs.Ytfmdgdamelkelaa
