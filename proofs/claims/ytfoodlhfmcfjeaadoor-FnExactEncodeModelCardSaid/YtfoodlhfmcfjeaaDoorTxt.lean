/- The text of a constraint: impl's functions. -/
import Derived.Test.YtfoodlhfmcfjeaaDoorStrC
import Derived.Lib.SmallJoins
import Derived.Lib.LaidTab
namespace Go.Proofs.YtfoodlhfmcfjeaaDoor
open Go.ChangeShapes Go.WideShapes Go.ChangeAt Go.RowKit
open Go.Shelf
set_option linter.unusedVariables false
set_option linter.unusedSimpArgs false
set_option maxRecDepth 100000

/-- the library's table of the powers of ten is laid. -/
def TabW (w : World) : Prop := Lib.TabIs Tryd.prog w "internal/strconv.uint64pow10" .u64 Lib.pow10Tab
theorem tab_named : ∃ g, Tryd.prog.globalNamed "internal/strconv.uint64pow10" = some g := ⟨(Tryd.prog.globalNamed "internal/strconv.uint64pow10").getD 0, by kernel_rfl⟩
theorem TabW.on {w w' : World} (h : TabW w) (hb : Below w.heap.size w w') : TabW w' := by
  obtain ⟨g, hg⟩ := tab_named
  exact Joins.tab_stays hg h hb (Nat.le_refl _)
theorem below_grows (w : World) (k : Nat) (os : Array Obj) : Below w.heap.size w (Go.Sort.grow (w.drewN k) os) :=
  ⟨rfl, rfl, rfl, by simp [Go.Sort.grow], fun j hj => by
    show (w.heap ++ os)[j]? = w.heap[j]?
    rw [Array.getElem?_append_left hj]⟩
theorem iitoa (n : Int) (w : World) (h0 : -999 ≤ n) (h1 : n ≤ 999) (ht : TabW w) :
    Calls Tryd.prog 35 #[.int .i64 n] w fun e w' => e = .returned (.string (bs (Lib.itoa n))) ∧ Below w.heap.size w w' := by
  refine (Tryd.strconv_Itoa n (by omega) (by omega) w ht).mono ?_
  rintro e w' ⟨rfl, k, os, rfl⟩
  exact ⟨rfl, below_grows w k os⟩
set_option maxHeartbeats 2000000 in
theorem ijoined (A : Option Addr) (n c : Nat) (xs : List Int) (w : World) (h : IntR w w.heap.size A n xs) (h9 : Sm9 xs) (hl : xs.length ≤ 1048576) (hne : xs ≠ []) (ht : TabW w) :
    Calls Tryd.prog 57 #[.slice A n c, .string ⟨#[44]⟩] w fun e w' => e = .returned (.string (bs (joinI xs))) ∧ Below w.heap.size w w' := by
  obtain ⟨i0, hi0, hz0, hz1, hz2⟩ := info_parts (P := Tryd.prog) (e := 9) (z := .string ByteArray.empty) (size := 1) (bytes := 16) (by kernel_rfl)
  have hn : xs.length = n := h.len
  have HX := Lib.hid h
  have H9 := Lib.hid h9
  have HN := Lib.hid hn
  have HT := Lib.hid ht
  have HL := Lib.hid (joinI_len h9).1
  have hnn : n ≤ 1048576 := by omega
  have hn0 : 0 < n := by
    rw [← hn]
    exact List.length_pos_iff.2 hne
  clear h h9 hn hl ht hne
  go_enter Tryd.func57, Tryd.ntmps57
  go_wp2_with (at_make; go_loud (refine wpList_make_own _ rfl (.const (.int .i64 0)) (.tmp 9) _ rfl w.heap.size 9 i0 _ 1 Tryd.underlying64 hi0 hz0 hz1 .i64 .i64 _ n rfl rfl rfl (by rw [hz2]; omega) (by unfold maxLen; omega) (Nat.le_refl _) ?_); go_loud (intro w1 ho hgr))
  have hb1 : Below w.heap.size w w1 := (Below.refl _ _).grown hgr (Nat.le_refl _) (by simp)
  have HO := Lib.hid ho
  clear hgr ho
  go_loopw [5, 13] (fun v i wr => ∃ (j : Nat) (v' : Value), j ≤ n ∧ i = .int .i64 j ∧ v' = v ∧ Hid (wr.ownsRow w.heap.size 9 1 v' j ((xs.take j).map fun x => .string (bs (Lib.itoa x)))) ∧ Below w.heap.size w wr) (fun _ i _ => n - (intOf i).toNat)
  case atStart => exact ⟨0, _, by omega, rfl, rfl, HO, hb1⟩
  case round =>
    obtain ⟨j, v, hj, rfl, rfl, hq, hb⟩ := hrel
    clear HO hb1
    rename World => wr
    by_cases hlt : j < n
    · obtain ⟨ab, ao, x, u, rfl, hab, hxk, hcx, rfl⟩ := SlR.at_ (SlR.on IntC.keeps IntC.widens HX.out hb) hlt
      have hx9 := H9.out x (List.mem_of_getElem? hxk)
      have HS := Lib.hid (show (xs.take (j + 1)).map (fun x => Value.string (bs (Lib.itoa x))) = (xs.take j).map (fun x => Value.string (bs (Lib.itoa x))) ++ [.string (bs (Lib.itoa x))] by rw [List.take_add_one, hxk]; simp)
      have hg1 : decide ((j : Int) < (n : Int)) = true := decide_eq_true (by omega)
      clear hxk
      go_wp2_with fail
      refine (iitoa x wr hx9.1 hx9.2 (HT.out.on hb)).mono ?_
      rintro e w2 ⟨rfl, hb2⟩
      have hq2 := own_below hq.out hb2
      have hbw2 := hb.trans (hb2.mono hb.size)
      have hzz := hbw2.size
      go_wp2_with (at_builtin; refine wpList_append_own _ rfl _ _ 64 rfl w.heap.size 9 i0 (.string ByteArray.empty) 1 16 Tryd.underlying64 hi0 hz0 hz1 hz2 rfl (by decide) v j _ rfl (hq2.alloc _) ⟨w2.heap.size, 0, none⟩ 1 1 [.string (bs (Lib.itoa x))] rfl rfl (cell_one_new _ _ _) (by simp [Value.oneCell']) (by unfold maxLen; omega) (by omega) (by rw [size_alloc_]; omega) ?_; intro v4 w4 hown hgr _)
      have hbw : Below w.heap.size w w4 := (hbw2.alloc hzz _).grown hgr (by rw [size_alloc_]; omega) (fun g hg => (hq2.lt g hg).1)
      have hown2 : w4.ownsRow w.heap.size 9 1 v4 (j + 1) ((xs.take (j + 1)).map fun x => .string (bs (Lib.itoa x))) := by rw [HS.out]; exact hown
      go_roundw
      case rel => exact ⟨j + 1, v4, by omega, by go_num, rfl, hown2, hbw⟩
      case measure => simp [intOf]; omega
    · obtain rfl : j = n := by omega
      have hg1 : decide ((j : Int) < (j : Int)) = false := decide_eq_false (by omega)
      have htk : xs.take j = xs := by rw [← HN.out]; exact List.take_length
      have hq' := hq.out
      rw [htk] at hq'
      obtain ⟨gb, cb, rfl, hgb, hcap⟩ : ∃ gb cb : Nat, v = .slice (some ⟨gb, 0, none⟩) j cb ∧ gb < wr.heap.size ∧ j ≤ cb := by
        rcases hq'.2 with ⟨_, h⟩ | ⟨g, cap, cur, hv, hgd, hhp, hn, _⟩
        · omega
        · exact ⟨g, cap, hv, (hq'.lt g (by rw [hv]; rfl)).2, hn⟩
      have hcells : ∀ (k : Nat) x, (xs.map fun l => bs (Lib.itoa l))[k]? = some x → wr.cell? ⟨gb, 0 + k, none⟩ = some (.string x) := by
        intro k x hk
        rw [List.getElem?_map] at hk
        cases hk2 : xs[k]? with
        | none => rw [hk2] at hk; cases hk
        | some l =>
          rw [hk2] at hk
          injection hk with hk
          have hkl := (List.getElem?_eq_some_iff.1 hk2).1
          rw [Nat.zero_add, hq'.cellAt k (by rw [HN.out] at hkl; omega), List.getElem?_map, hk2, ← hk]
          rfl
      have hmm : (xs.map fun l => bs (Lib.itoa l)).map (·.data.toList) = xs.map Lib.itoa := by rw [List.map_map]; exact List.map_congr_left fun l _ => by simp [bs]
      have HJ := Lib.hid (Tryd.strings_Join gb 0 cb (xs.map fun l => bs (Lib.itoa l)) ⟨#[44]⟩ wr hcells hgb (by rw [List.length_map, HN.out]; omega) (by rw [List.length_map, HN.out]; exact hcap) (by rw [hmm]; show (joinI xs).length ≤ _; have := HL.out; rw [HN.out] at this; omega))
      rw [hmm, List.length_map, show (#[44] : Array UInt8).toList = [44] from rfl, HN.out] at HJ
      clear hcells hmm hq' htk hq
      go_wp2_with fail
      refine HJ.out.mono ?_
      rintro e w1 ⟨rfl, hb1⟩
      go_wp2_with fail
      go_ret
      exact ⟨rfl, hb.trans (hb1.mono hb.size)⟩
set_option maxHeartbeats 1500000 in
theorem ilistText (A : Option Addr) (n c : Nat) (xs : List Int) (w : World) (h : IntR w w.heap.size A n xs) (h9 : Sm9 xs) (hl : xs.length ≤ 1048576) (ht : TabW w) :
    Calls Tryd.prog 38 #[.slice A n c] w fun e w' => e = .returned (.string (bs (listF xs))) ∧ Below w.heap.size w w' := by
  have hn : xs.length = n := h.len
  by_cases hx : xs = []
  · have HE := Lib.hid (show listF xs = [45] by unfold listF; rw [if_pos hx])
    obtain rfl : n = 0 := by rw [← hn, hx]; rfl
    clear h h9 hl ht hn hx
    go_enter Tryd.func38, Tryd.ntmps38
    go_wp2_with fail
    go_ret
    exact ⟨by rw [HE.out]; rfl, Below.refl _ _⟩
  · have HE := Lib.hid (show listF xs = joinI xs by unfold listF; rw [if_neg hx])
    have HJ := Lib.hid (ijoined A n c xs w h h9 hl hx ht)
    have hn0 : ((n : Int) == 0) = false := by
      have : 0 < xs.length := List.length_pos_iff.2 hx
      simp
      omega
    have hn0' : (n == 0) = false := by
      have : 0 < xs.length := List.length_pos_iff.2 hx
      simp
      omega
    clear h h9 hl ht hn hx
    go_enter Tryd.func38, Tryd.ntmps38
    go_wp2_with fail
    refine HJ.out.mono ?_
    rintro e w1 ⟨rfl, hb1⟩
    go_wp2_with fail
    go_ret
    exact ⟨by rw [HE.out]; rfl, hb1⟩
set_option maxHeartbeats 2500000 in
theorem itext (us : List Value) (c : Con) (w : World) (h : ConR w w.heap.size us c) (hs : SmCon c) (hg : GoodC c) (ht : TabW w) :
    Calls Tryd.prog 18 #[.agg us.toArray] w fun e w' => e = .returned (.string (bs (conF c))) ∧ Below w.heap.size w w' := by
  obtain ⟨va, aa, ra, cv, ca, cr, rfl, g1, g2, g3, -⟩ := h
  obtain ⟨k, hk⟩ := Int.eq_ofNat_of_zero_le hg.1.1
  have hk10 : k < 10 := by have := hg.1.2; omega
  obtain ⟨nv, hnv⟩ : ∃ nv, c.vars.length = nv := ⟨_, rfl⟩
  obtain ⟨na, hna⟩ : ∃ na, c.args.length = na := ⟨_, rfl⟩
  obtain ⟨nr, hnr⟩ : ∃ nr, c.rows.length = nr := ⟨_, rfl⟩
  obtain ⟨bd, hbd⟩ : ∃ bd, c.bound = bd := ⟨_, rfl⟩
  rw [hnv] at g1
  rw [hna] at g2
  rw [hnr] at g3
  have G := Lib.hid hg
  have L := Lib.hid hs
  have HBD : Hid (-999 ≤ bd ∧ bd ≤ 999) := by rw [← hbd]; exact hg.2.2.2.1
  have HNR := Lib.hid hnr
  have hr8 : nr ≤ 8 := by rw [← hnr]; exact hg.2.2.2.2.2
  have HH := Lib.hid (show headF c = kwF k ++ [32] ++ listF c.vars ++ [32] ++ listF c.args ++ [32] ++ Lib.itoa bd by unfold headF; rw [hk, hbd]; rfl)
  have HHL := Lib.hid (headF_len hg ⟨hs.1, hs.2.1⟩)
  have s0 : (bs (kwF k)).size ≤ 12 := by rw [bs_size]; exact kw_len ⟨k, hk10⟩
  have s1 : (bs (listF c.vars)).size ≤ 5242881 := by rw [bs_size]; have := listF_len hg.2.1; have := hs.1; unfold Sm1 at this; omega
  have s2 : (bs (listF c.args)).size ≤ 5242881 := by rw [bs_size]; have := listF_len hg.2.2.1; have := hs.2.1; unfold Sm1 at this; omega
  have s3 : (bs (Lib.itoa bd)).size ≤ 4 := by rw [bs_size]; exact (itoa_len HBD.out.1 HBD.out.2).2
  rw [hnv, hna, hnr, hbd, hk]
  obtain ⟨wa, hwa⟩ : ∃ wa, wa = w.alloc (.cells #[.int .i64 (k : Int), .slice va nv cv, .slice aa na ca, .int .i64 bd, .slice ra nr cr] 50) := ⟨_, rfl⟩
  have hb0 : Below w.heap.size w wa := by rw [hwa]; exact b_alloc _ _
  have hza : wa.heap.size = w.heap.size + 1 := by rw [hwa, size_alloc_]
  have HC : Hid (TBlk 50 wa w.heap.size #[.int .i64 (k : Int), .slice va nv cv, .slice aa na ca, .int .i64 bd, .slice ra nr cr]) := by rw [hwa]; exact TBlk.new _ _ _
  have HB0 := Lib.hid hb0
  have HV : Hid (∀ W, Below wa.heap.size wa W → IntR W W.heap.size va nv c.vars) := fun W hb => IntR.on g1 (bgo hb0 hb)
  have HA : Hid (∀ W, Below wa.heap.size wa W → IntR W W.heap.size aa na c.args) := fun W hb => IntR.on g2 (bgo hb0 hb)
  have HR : Hid (∀ W, Below wa.heap.size wa W → SlR (RowC IntC) W W.heap.size ra nr c.rows) := fun W hb => SlR.on (RowC.keeps IntC.keeps) (RowC.widens IntC.widens) g3 (bgo hb0 hb)
  have HC5 : ∀ w', Below wa.heap.size wa w' → (w'.cell? ⟨w.heap.size, 0, none⟩ = some (.int .i64 (k : Int)) ∧ w'.cell? ⟨w.heap.size, 1, none⟩ = some (.slice va nv cv) ∧ w'.cell? ⟨w.heap.size, 2, none⟩ = some (.slice aa na ca) ∧ w'.cell? ⟨w.heap.size, 3, none⟩ = some (.int .i64 bd) ∧ w'.cell? ⟨w.heap.size, 4, none⟩ = some (.slice ra nr cr)) := by
    intro w' hb
    have t := HC.out.below_ hb HC.out.lt
    exact ⟨t.at_ 0 rfl, t.at_ 1 rfl, t.at_ 2 rfl, t.at_ 3 rfl, t.at_ 4 rfl⟩
  obtain ⟨kb, hkb⟩ : ∃ kb, wa.heap.size = kb := ⟨_, rfl⟩
  have KEYW : Hid (∀ W1 : World, W1 = wa.drew.alloc (.cells kwC 9) → ((W1.cell? ⟨w.heap.size, 0, none⟩ = some (.int .i64 (k : Int)) ∧ W1.cell? ⟨w.heap.size, 1, none⟩ = some (.slice va nv cv) ∧ W1.cell? ⟨w.heap.size, 2, none⟩ = some (.slice aa na ca) ∧ W1.cell? ⟨w.heap.size, 3, none⟩ = some (.int .i64 bd) ∧ W1.cell? ⟨w.heap.size, 4, none⟩ = some (.slice ra nr cr)) ∧ W1.cell? ⟨kb, k, none⟩ = some (.string (bs (kwF k)))) ∧ Below wa.heap.size wa W1 ∧ Below W1.heap.size W1 W1) := by
    intro W1 e
    have hb : Below wa.heap.size wa W1 := by rw [e]; exact (below_drewN (Below.refl _ _) 1).trans ((b_alloc wa.drew _).mono (Nat.le_refl _))
    have t : TBlk 9 W1 kb kwC := by rw [e, ← hkb]; exact TBlk.new wa.drew _ _
    exact ⟨⟨HC5 W1 hb, t.at_ k (kwC_at hk10)⟩, hb, Below.refl _ _⟩
  have HS : Hid (∀ W1 W : World, W1 = wa.drew.alloc (.cells kwC 9) → Below W1.heap.size W1 W → (W.cell? ⟨w.heap.size, 0, none⟩ = some (.int .i64 (k : Int)) ∧ W.cell? ⟨w.heap.size, 1, none⟩ = some (.slice va nv cv) ∧ W.cell? ⟨w.heap.size, 2, none⟩ = some (.slice aa na ca) ∧ W.cell? ⟨w.heap.size, 3, none⟩ = some (.int .i64 bd) ∧ W.cell? ⟨w.heap.size, 4, none⟩ = some (.slice ra nr cr)) ∧ W.cell? ⟨kb, k, none⟩ = some (.string (bs (kwF k)))) := by
    intro W1 W e hb1
    obtain ⟨⟨h1, h2⟩, h3, -⟩ := KEYW.out W1 e
    have t : TBlk 9 W1 kb kwC := by rw [e, ← hkb]; exact TBlk.new wa.drew _ _
    exact ⟨HC5 W (bgo h3 hb1), (t.below_ hb1 t.lt).at_ k (kwC_at hk10)⟩
  have hS0 := HC5 wa.drew (below_drewN (Below.refl _ _) 1)
  have HC5 := Lib.hid HC5
  have hHT : Hid (bs (kwF k) ++ ⟨#[32]⟩ ++ bs (listF c.vars) ++ ⟨#[32]⟩ ++ bs (listF c.args) ++ ⟨#[32]⟩ ++ bs (Lib.itoa bd) = bs (headF c)) := Lib.hid (by rw [HH.out, show (⟨#[32]⟩ : ByteArray) = bs [32] from rfl, bs_app, bs_app, bs_app, bs_app, bs_app, bs_app])
  have hk0 : (0 : Int) ≤ (k : Int) := by omega
  have hk1 : (k : Int) < 10 := by omega
  have HKB := Lib.hid hkb
  clear g1 g2 g3 hg hs hk hnv hna hnr hbd hb0 hza
  have HTB : Hid (∀ W, Below wa.heap.size wa W → TabW W) := fun W hb => (ht.on HB0.out).on hb
  clear ht
  go_enter Tryd.func18, Tryd.ntmps18
  go_wp2_with fail
  rw [← hwa]
  clear hwa
  refine wp_region_held_drew (S := fun w' => w'.cell? ⟨w.heap.size, 0, none⟩ = some (.int .i64 (k : Int)) ∧ w'.cell? ⟨w.heap.size, 1, none⟩ = some (.slice va nv cv) ∧ w'.cell? ⟨w.heap.size, 2, none⟩ = some (.slice aa na ca) ∧ w'.cell? ⟨w.heap.size, 3, none⟩ = some (.int .i64 bd) ∧ w'.cell? ⟨w.heap.size, 4, none⟩ = some (.slice ra nr cr)) (by kernel_rfl) hS0 (fun hHeld => ?_)
  refine wpAnyH_take (i := 1) (oi := { dst := _, op := _, type := _, pos := _, after := _, guard := _ }) (v := ?vk17) rfl (by kernel_rfl) (by kernel_rfl) (by kernel_rfl) (fun _ _ _ h => h) (Or.inl ⟨by rfl, ?yk17⟩) hHeld ?rk17
  case yk17 => (intro w hSw; (try dsimp only at hSw); go_simp; first | done | (with_reducible rfl) | (rw [if_neg (by omega)]))
  try simp only [Act.put, List.setIfInBounds_toArray, List.set_cons_zero, List.set_cons_succ]
  refine wpAnyH_take (i := 2) (oi := { dst := _, op := _, type := _, pos := _, after := _, guard := _ }) (v := ?vk18) rfl (by kernel_rfl) (by kernel_rfl) (by kernel_rfl) (fun _ _ _ h => h) (Or.inl ⟨by rfl, ?yk18⟩) hHeld ?rk18
  case yk18 => (intro w hSw; (try dsimp only at hSw); go_simp; first | done | (with_reducible rfl) | (rw [if_neg (by omega)]))
  try simp only [Act.put, List.setIfInBounds_toArray, List.set_cons_zero, List.set_cons_succ]
  refine wpAnyH_take (i := 6) (oi := { dst := _, op := _, type := _, pos := _, after := _, guard := _ }) (v := ?vk19) rfl (by kernel_rfl) (by kernel_rfl) (by kernel_rfl) (fun _ _ _ h => h) (Or.inl ⟨by rfl, ?yk19⟩) hHeld ?rk19
  case yk19 => (intro w hSw; (try dsimp only at hSw); go_simp; first | done | (with_reducible rfl) | (rw [if_neg (by omega)]))
  try simp only [Act.put, List.setIfInBounds_toArray, List.set_cons_zero, List.set_cons_succ]
  refine wpAnyH_take (i := 7) (oi := { dst := _, op := _, type := _, pos := _, after := _, guard := _ }) (v := ?vk20) rfl (by kernel_rfl) (by kernel_rfl) (by kernel_rfl) (fun _ _ _ h => h) (Or.inl ⟨by rfl, ?yk20⟩) hHeld ?rk20
  case yk20 => (intro w hSw; (try dsimp only at hSw); go_simp; first | done | (with_reducible rfl) | (rw [if_neg (by omega)]))
  try simp only [Act.put, List.setIfInBounds_toArray, List.set_cons_zero, List.set_cons_succ]
  refine wpAnyH_take (i := 11) (oi := { dst := _, op := _, type := _, pos := _, after := _, guard := _ }) (v := ?vk21) rfl (by kernel_rfl) (by kernel_rfl) (by kernel_rfl) (fun _ _ _ h => h) (Or.inl ⟨by rfl, ?yk21⟩) hHeld ?rk21
  case yk21 => (intro w hSw; (try dsimp only at hSw); go_simp; first | done | (with_reducible rfl) | (rw [if_neg (by omega)]))
  try simp only [Act.put, List.setIfInBounds_toArray, List.set_cons_zero, List.set_cons_succ]
  refine wpAnyH_take (i := 12) (oi := { dst := _, op := _, type := _, pos := _, after := _, guard := _ }) (v := ?vk22) rfl (by kernel_rfl) (by kernel_rfl) (by kernel_rfl) (fun _ _ _ h => h) (Or.inl ⟨by rfl, ?yk22⟩) hHeld ?rk22
  case yk22 => (intro w hSw; (try dsimp only at hSw); go_simp; first | done | (with_reducible rfl) | (rw [if_neg (by omega)]))
  try simp only [Act.put, List.setIfInBounds_toArray, List.set_cons_zero, List.set_cons_succ]
  refine wpAnyH_take (i := 16) (oi := { dst := _, op := _, type := _, pos := _, after := _, guard := _ }) (v := ?vk23) rfl (by kernel_rfl) (by kernel_rfl) (by kernel_rfl) (fun _ _ _ h => h) (Or.inl ⟨by rfl, ?yk23⟩) hHeld ?rk23
  case yk23 => (intro w hSw; (try dsimp only at hSw); go_simp; first | done | (with_reducible rfl) | (rw [if_neg (by omega)]))
  try simp only [Act.put, List.setIfInBounds_toArray, List.set_cons_zero, List.set_cons_succ]
  refine wpAnyH_take (i := 17) (oi := { dst := _, op := _, type := _, pos := _, after := _, guard := _ }) (v := ?vk24) rfl (by kernel_rfl) (by kernel_rfl) (by kernel_rfl) (fun _ _ _ h => h) (Or.inl ⟨by rfl, ?yk24⟩) hHeld ?rk24
  case yk24 => (intro w hSw; (try dsimp only at hSw); go_simp; first | done | (with_reducible rfl) | (rw [if_neg (by omega)]))
  try simp only [Act.put, List.setIfInBounds_toArray, List.set_cons_zero, List.set_cons_succ]
  refine wpAnyH_ready (rs := [0]) (by kernel_rfl) (by simp) ?_
  refine AllReadyH.cons (o := { dst := _, op := _, type := _, pos := _, after := _, guard := _ }) rfl (fun K hK => ?_) AllReadyH.nil
  go_simp
  refine (ikeywords _).mono ?_
  rintro e W1 ⟨rfl, hW1⟩
  obtain ⟨hS1, hb1, hB1⟩ := KEYW.out W1 hW1
  have HW1 := Lib.hid hW1
  skip
  clear hW1
  refine hK.out _ _ ?_ (fun hHeld => ?_)
  · exact hS1.1
  clear hK K
  try simp only [Act.put, List.setIfInBounds_toArray, List.set_cons_zero, List.set_cons_succ]
  refine wpAnyH_weaken (S' := fun w' => (w'.cell? ⟨w.heap.size, 0, none⟩ = some (.int .i64 (k : Int)) ∧ w'.cell? ⟨w.heap.size, 1, none⟩ = some (.slice va nv cv) ∧ w'.cell? ⟨w.heap.size, 2, none⟩ = some (.slice aa na ca) ∧ w'.cell? ⟨w.heap.size, 3, none⟩ = some (.int .i64 bd) ∧ w'.cell? ⟨w.heap.size, 4, none⟩ = some (.slice ra nr cr)) ∧ w'.cell? ⟨kb, k, none⟩ = some (.string (bs (kwF k)))) (fun _ h => h.1) _ _ _ _ ?_
  have hHeld := hS1
  refine wpAnyH_take (i := 3) (oi := { dst := _, op := _, type := _, pos := _, after := _, guard := _ }) (v := ?vk25) rfl (by kernel_rfl) (by kernel_rfl) (by kernel_rfl) (fun _ _ _ h => h) (Or.inl ⟨by rfl, ?yk25⟩) hHeld ?rk25
  case yk25 => (intro w hSw; (try dsimp only at hSw); go_simp; first | done | (with_reducible rfl) | (rw [if_neg (by omega)]))
  try simp only [Act.put, List.setIfInBounds_toArray, List.set_cons_zero, List.set_cons_succ]
  refine wpAnyH_take (i := 4) (oi := { dst := _, op := _, type := _, pos := _, after := _, guard := _ }) (v := ?vk26) rfl (by kernel_rfl) (by kernel_rfl) (by kernel_rfl) (fun _ _ _ h => h) (Or.inl ⟨by rfl, ?yk26⟩) hHeld ?rk26
  case yk26 => (intro w hSw; (try dsimp only at hSw); go_simp; first | done | (with_reducible rfl) | (rw [if_neg (by omega)]))
  try simp only [Act.put, List.setIfInBounds_toArray, List.set_cons_zero, List.set_cons_succ]
  refine wpAnyH_take (i := 5) (oi := { dst := _, op := _, type := _, pos := _, after := _, guard := _ }) (v := ?vk27) rfl (by kernel_rfl) (by kernel_rfl) (by kernel_rfl) (fun _ _ _ h => h) (Or.inl ⟨by rfl, ?yk27⟩) hHeld ?rk27
  case yk27 => (intro w hSw; (try dsimp only at hSw); go_simp; first | done | (with_reducible rfl) | (rw [if_neg (by omega)]))
  try simp only [Act.put, List.setIfInBounds_toArray, List.set_cons_zero, List.set_cons_succ]
  refine wpAnyH_ready (rs := [8]) (by kernel_rfl) (by simp) ?_
  refine AllReadyH.cons (o := { dst := _, op := _, type := _, pos := _, after := _, guard := _ }) rfl (fun K hK => ?_) AllReadyH.nil
  go_simp
  refine (ilistText va nv cv c.vars W1 (HV.out W1 hb1) G.out.2.1 L.out.1 (HTB.out W1 hb1)).mono ?_
  rintro e W2 ⟨rfl, hB2⟩
  have hb2 := bgo hb1 hB2
  have hS2 := HS.out W1 W2 HW1.out (Below.trans hB1 (hB2.mono hB1.size))
  refine hK.out _ _ ?_ (fun hHeld => ?_)
  · exact hS2
  clear hK K
  try simp only [Act.put, List.setIfInBounds_toArray, List.set_cons_zero, List.set_cons_succ]
  refine wpAnyH_take (i := 9) (oi := { dst := _, op := _, type := _, pos := _, after := _, guard := _ }) (v := ?vk28) rfl (by kernel_rfl) (by kernel_rfl) (by kernel_rfl) (fun _ _ _ h => h) (Or.inl ⟨by rfl, ?yk28⟩) hHeld ?rk28
  case yk28 => (intro w hSw; (try dsimp only at hSw); go_simp; first | done | (with_reducible rfl) | (rw [if_neg (by omega)]))
  try simp only [Act.put, List.setIfInBounds_toArray, List.set_cons_zero, List.set_cons_succ]
  refine wpAnyH_take (i := 10) (oi := { dst := _, op := _, type := _, pos := _, after := _, guard := _ }) (v := ?vk29) rfl (by kernel_rfl) (by kernel_rfl) (by kernel_rfl) (fun _ _ _ h => h) (Or.inl ⟨by rfl, ?yk29⟩) hHeld ?rk29
  case yk29 => (intro w hSw; (try dsimp only at hSw); go_simp; first | done | (with_reducible rfl) | (rw [if_neg (by omega)]))
  try simp only [Act.put, List.setIfInBounds_toArray, List.set_cons_zero, List.set_cons_succ]
  refine wpAnyH_ready (rs := [13]) (by kernel_rfl) (by simp) ?_
  refine AllReadyH.cons (o := { dst := _, op := _, type := _, pos := _, after := _, guard := _ }) rfl (fun K hK => ?_) AllReadyH.nil
  go_simp
  refine (ilistText aa na ca c.args W2 (HA.out W2 hb2) G.out.2.2.1 L.out.2.1 (HTB.out W2 hb2)).mono ?_
  rintro e W3 ⟨rfl, hB3⟩
  have hb3 := bgo hb2 hB3
  have hS3 := HS.out W1 W3 HW1.out (Below.trans (Below.trans hB1 (hB2.mono hB1.size)) (hB3.mono (Nat.le_trans hB1.size hB2.size)))
  refine hK.out _ _ ?_ (fun hHeld => ?_)
  · exact hS3
  clear hK K
  try simp only [Act.put, List.setIfInBounds_toArray, List.set_cons_zero, List.set_cons_succ]
  refine wpAnyH_take (i := 14) (oi := { dst := _, op := _, type := _, pos := _, after := _, guard := _ }) (v := ?vk30) rfl (by kernel_rfl) (by kernel_rfl) (by kernel_rfl) (fun _ _ _ h => h) (Or.inl ⟨by rfl, ?yk30⟩) hHeld ?rk30
  case yk30 => (intro w hSw; (try dsimp only at hSw); go_simp; first | done | (with_reducible rfl) | (rw [if_neg (by omega)]))
  try simp only [Act.put, List.setIfInBounds_toArray, List.set_cons_zero, List.set_cons_succ]
  refine wpAnyH_take (i := 15) (oi := { dst := _, op := _, type := _, pos := _, after := _, guard := _ }) (v := ?vk31) rfl (by kernel_rfl) (by kernel_rfl) (by kernel_rfl) (fun _ _ _ h => h) (Or.inl ⟨by rfl, ?yk31⟩) hHeld ?rk31
  case yk31 => (intro w hSw; (try dsimp only at hSw); go_simp; first | done | (with_reducible rfl) | (rw [if_neg (by omega)]))
  try simp only [Act.put, List.setIfInBounds_toArray, List.set_cons_zero, List.set_cons_succ]
  refine wpAnyH_ready (rs := [18]) (by kernel_rfl) (by simp) ?_
  refine AllReadyH.cons (o := { dst := _, op := _, type := _, pos := _, after := _, guard := _ }) rfl (fun K hK => ?_) AllReadyH.nil
  go_simp
  refine (iitoa bd W3 HBD.out.1 HBD.out.2 (HTB.out W3 hb3)).mono ?_
  rintro e W4 ⟨rfl, hB4⟩
  have hb4 := bgo hb3 hB4
  have hS4 := HS.out W1 W4 HW1.out (Below.trans (Below.trans (Below.trans hB1 (hB2.mono hB1.size)) (hB3.mono (Nat.le_trans hB1.size hB2.size))) (hB4.mono (Nat.le_trans (Nat.le_trans hB1.size hB2.size) hB3.size)))
  refine hK.out _ _ ?_ (fun hHeld => ?_)
  · exact hS4
  clear hK K
  try simp only [Act.put, List.setIfInBounds_toArray, List.set_cons_zero, List.set_cons_succ]
  refine wpAnyH_take (i := 19) (oi := { dst := _, op := _, type := _, pos := _, after := _, guard := _ }) (v := ?vk32) rfl (by kernel_rfl) (by kernel_rfl) (by kernel_rfl) (fun _ _ _ h => h) (Or.inl ⟨by rfl, ?yk32⟩) hHeld ?rk32
  case yk32 => (intro w hSw; (try dsimp only at hSw); go_simp; first | done | (with_reducible rfl) | (rw [if_neg (by omega)]))
  try simp only [Act.put, List.setIfInBounds_toArray, List.set_cons_zero, List.set_cons_succ]
  refine wpAnyH_ready (rs := [20]) (by kernel_rfl) (by simp) ?_
  refine AllReadyH.cons (o := { dst := _, op := _, type := _, pos := _, after := _, guard := _ }) rfl (fun K hK => ?_) AllReadyH.nil
  go_simp
  refine hK.out _ _ ?_ (fun hHeld => ?_)
  · exact hS4
  clear hK K
  try simp only [Act.put, List.setIfInBounds_toArray, List.set_cons_zero, List.set_cons_succ]
  refine wpAnyH_done (by kernel_rfl) ?_ _
  rw [hHT.out]
  have HLN : Hid (∀ j, (bs (headF c ++ rowsF (c.rows.take j))).size ≤ 60000000) := fun j => by
    rw [bs_size, List.length_append]
    have h1 := HHL.out
    have h2 := rowsF_len (rs := c.rows.take j) (fun r hr => ⟨G.out.2.2.2.2.1 r (List.mem_of_mem_take hr), L.out.2.2.2 r (List.mem_of_mem_take hr)⟩)
    have h3 : (c.rows.take j).length ≤ 8 := by rw [List.length_take]; have := G.out.2.2.2.2.2; omega
    omega
  have f4' := (HC5.out W4 hb4).2.2.2.2
  clear hHeld hS0 hS1 hS2 hS3 hS4 hB1 hB2 hB3 hB4 hb1 hb2 hb3 s0 s1 s2 s3
  go_wp2_with fail
  go_loopw [3, 29] (fun v i wr => ∃ j : Nat, j ≤ nr ∧ i = .int .i64 j ∧ v = .string (bs (headF c ++ rowsF (c.rows.take j))) ∧ Below wa.heap.size wa wr) (fun _ i _ => nr - (intOf i).toNat)
  case atStart => exact ⟨0, by omega, rfl, by simp [rowsF], hb4⟩
  case round =>
    obtain ⟨j, hj, rfl, rfl, hb⟩ := hrel
    clear hb4
    rename World => wr
    have hs1 := HLN.out j
    have f4 := (HC5.out wr hb).2.2.2.2
    by_cases hlt : j < nr
    · obtain ⟨ab, ao, row, u, rfl, hab, hxk, hcx, A2, c2, rfl, hri⟩ := SlR.at_ (HR.out wr hb) hlt
      have hmem := List.mem_of_getElem? hxk
      have H9 := Lib.hid (G.out.2.2.2.2.1 row hmem)
      have HRL := Lib.hid (L.out.2.2.2 row hmem)
      have hs2 : (bs (listF row)).size ≤ 5242881 := by rw [bs_size]; have := listF_len H9.out; have := HRL.out; unfold Sm1 at this; omega
      have HE := Lib.hid (show bs (headF c ++ rowsF (c.rows.take j)) ++ (⟨#[32]⟩ ++ bs (listF row)) = bs (headF c ++ rowsF (c.rows.take (j + 1))) by
        rw [List.take_add_one, hxk, Option.toList_some, rowsF_snoc, show (⟨#[32]⟩ : ByteArray) = bs [32] from rfl, bs_app, bs_app]
        simp [List.append_assoc])
      have HRI := Lib.hid hri
      have hg1 : decide ((j : Int) < (nr : Int)) = true := decide_eq_true (by omega)
      clear hxk hmem hri
      go_wp2_with fail
      refine (ilistText A2 row.length c2 row wr HRI.out H9.out HRL.out (HTB.out wr hb)).mono ?_
      rintro e w1 ⟨rfl, hb1⟩
      go_wp2_with fail
      go_roundw
      case rel => exact ⟨j + 1, by omega, by go_num, by rw [← HE.out], hb.trans (hb1.mono hb.size)⟩
      case measure => simp [intOf]; omega
    · obtain rfl : j = nr := by omega
      have hg1 : decide ((j : Int) < (j : Int)) = false := decide_eq_false (by omega)
      have HF := Lib.hid (show bs (headF c ++ rowsF (c.rows.take j)) = bs (conF c) by unfold conF; rw [show c.rows.take j = c.rows from by rw [← HNR.out]; exact List.take_length])
      go_wp2_with fail
      go_ret
      exact ⟨(by rw [HF.out] : Ending.returned (.string (bs (headF c ++ rowsF (c.rows.take j)))) = .returned (.string (bs (conF c)))), HB0.out.trans (hb.mono HB0.out.size)⟩
end Go.Proofs.YtfoodlhfmcfjeaaDoor
