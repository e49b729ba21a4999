/- The text of a constraint: spec's formatConstraint. -/
import Derived.Test.YtfoodlhfmcfjeaaDoorStrK
namespace Go.Proofs.YtfoodlhfmcfjeaaDoor
open Go.ChangeShapes Go.WideShapes Go.ChangeAt Go.RowKit
open Go.Shelf
set_option linter.unusedVariables false
set_option linter.unusedSimpArgs false
set_option maxRecDepth 100000

set_option maxHeartbeats 2500000 in
theorem sformatCon (us : List Value) (c : Con) (w : World) (h : ConR w w.heap.size us c) (hs : SmCon c) (hg : GoodC c) :
    Calls Tryd.prog 27 #[.agg us.toArray] w fun e w' => e = .returned (.string (bs (conF c))) ∧ Below w.heap.size w w' := by
  obtain ⟨va, aa, ra, cv, ca, cr, rfl, g1, g2, g3, -⟩ := h
  obtain ⟨k, hk⟩ := Int.eq_ofNat_of_zero_le hg.1.1
  have hk10 : k < 10 := by have := hg.1.2; omega
  obtain ⟨nv, hnv⟩ : ∃ nv, c.vars.length = nv := ⟨_, rfl⟩
  obtain ⟨na, hna⟩ : ∃ na, c.args.length = na := ⟨_, rfl⟩
  obtain ⟨nr, hnr⟩ : ∃ nr, c.rows.length = nr := ⟨_, rfl⟩
  obtain ⟨bd, hbd⟩ : ∃ bd, c.bound = bd := ⟨_, rfl⟩
  rw [hnv] at g1
  rw [hna] at g2
  rw [hnr] at g3
  have G := Lib.hid hg
  have L := Lib.hid hs
  have HBD : Hid (-999 ≤ bd ∧ bd ≤ 999) := by rw [← hbd]; exact hg.2.2.2.1
  have HNR := Lib.hid hnr
  have hr8 : nr ≤ 8 := by rw [← hnr]; exact hg.2.2.2.2.2
  have HH := Lib.hid (show headF c = kwF k ++ [32] ++ listF c.vars ++ [32] ++ listF c.args ++ [32] ++ Lib.itoa bd by unfold headF; rw [hk, hbd]; rfl)
  have HHL := Lib.hid (headF_len hg ⟨hs.1, hs.2.1⟩)
  have s0 : (bs (kwF k)).size ≤ 12 := by rw [bs_size]; exact kw_len ⟨k, hk10⟩
  have s1 : (bs (listF c.vars)).size ≤ 5242881 := by rw [bs_size]; have := listF_len hg.2.1; have := hs.1; unfold Sm1 at this; omega
  have s2 : (bs (listF c.args)).size ≤ 5242881 := by rw [bs_size]; have := listF_len hg.2.2.1; have := hs.2.1; unfold Sm1 at this; omega
  have s3 : (bs (Lib.itoa bd)).size ≤ 4 := by rw [bs_size]; exact (itoa_len HBD.out.1 HBD.out.2).2
  rw [hnv, hna, hnr, hbd, hk]
  obtain ⟨wa, hwa⟩ : ∃ wa, wa = w.alloc (.cells #[.int .i64 (k : Int), .slice va nv cv, .slice aa na ca, .int .i64 bd, .slice ra nr cr] 50) := ⟨_, rfl⟩
  have hb0 : Below w.heap.size w wa := by rw [hwa]; exact b_alloc _ _
  have hza : wa.heap.size = w.heap.size + 1 := by rw [hwa, size_alloc_]
  have HC : Hid (TBlk 50 wa w.heap.size #[.int .i64 (k : Int), .slice va nv cv, .slice aa na ca, .int .i64 bd, .slice ra nr cr]) := by rw [hwa]; exact TBlk.new _ _ _
  have HB0 := Lib.hid hb0
  have HV : Hid (∀ W, Below wa.heap.size wa W → IntR W W.heap.size va nv c.vars) := fun W hb => IntR.on g1 (bgo hb0 hb)
  have HA : Hid (∀ W, Below wa.heap.size wa W → IntR W W.heap.size aa na c.args) := fun W hb => IntR.on g2 (bgo hb0 hb)
  have HR : Hid (∀ W, Below wa.heap.size wa W → SlR (RowC IntC) W W.heap.size ra nr c.rows) := fun W hb => SlR.on (RowC.keeps IntC.keeps) (RowC.widens IntC.widens) g3 (bgo hb0 hb)
  have HC5 : ∀ w', Below wa.heap.size wa w' → (w'.cell? ⟨w.heap.size, 0, none⟩ = some (.int .i64 (k : Int)) ∧ w'.cell? ⟨w.heap.size, 1, none⟩ = some (.slice va nv cv) ∧ w'.cell? ⟨w.heap.size, 2, none⟩ = some (.slice aa na ca) ∧ w'.cell? ⟨w.heap.size, 3, none⟩ = some (.int .i64 bd) ∧ w'.cell? ⟨w.heap.size, 4, none⟩ = some (.slice ra nr cr)) := by
    intro w' hb
    have t := HC.out.below_ hb HC.out.lt
    exact ⟨t.at_ 0 rfl, t.at_ 1 rfl, t.at_ 2 rfl, t.at_ 3 rfl, t.at_ 4 rfl⟩
  obtain ⟨kb, hkb⟩ : ∃ kb, wa.heap.size = kb := ⟨_, rfl⟩
  have KEYW : Hid (∀ W1 : World, W1 = wa.drew.alloc (.cells kwC 9) → ((W1.cell? ⟨w.heap.size, 0, none⟩ = some (.int .i64 (k : Int)) ∧ W1.cell? ⟨w.heap.size, 1, none⟩ = some (.slice va nv cv) ∧ W1.cell? ⟨w.heap.size, 2, none⟩ = some (.slice aa na ca) ∧ W1.cell? ⟨w.heap.size, 3, none⟩ = some (.int .i64 bd) ∧ W1.cell? ⟨w.heap.size, 4, none⟩ = some (.slice ra nr cr)) ∧ W1.cell? ⟨kb, k, none⟩ = some (.string (bs (kwF k)))) ∧ Below wa.heap.size wa W1 ∧ Below W1.heap.size W1 W1) := by
    intro W1 e
    have hb : Below wa.heap.size wa W1 := by rw [e]; exact (below_drewN (Below.refl _ _) 1).trans ((b_alloc wa.drew _).mono (Nat.le_refl _))
    have t : TBlk 9 W1 kb kwC := by rw [e, ← hkb]; exact TBlk.new wa.drew _ _
    exact ⟨⟨HC5 W1 hb, t.at_ k (kwC_at hk10)⟩, hb, Below.refl _ _⟩
  have HS : Hid (∀ W1 W : World, W1 = wa.drew.alloc (.cells kwC 9) → Below W1.heap.size W1 W → (W.cell? ⟨w.heap.size, 0, none⟩ = some (.int .i64 (k : Int)) ∧ W.cell? ⟨w.heap.size, 1, none⟩ = some (.slice va nv cv) ∧ W.cell? ⟨w.heap.size, 2, none⟩ = some (.slice aa na ca) ∧ W.cell? ⟨w.heap.size, 3, none⟩ = some (.int .i64 bd) ∧ W.cell? ⟨w.heap.size, 4, none⟩ = some (.slice ra nr cr)) ∧ W.cell? ⟨kb, k, none⟩ = some (.string (bs (kwF k)))) := by
    intro W1 W e hb1
    obtain ⟨⟨h1, h2⟩, h3, -⟩ := KEYW.out W1 e
    have t : TBlk 9 W1 kb kwC := by rw [e, ← hkb]; exact TBlk.new wa.drew _ _
    exact ⟨HC5 W (bgo h3 hb1), (t.below_ hb1 t.lt).at_ k (kwC_at hk10)⟩
  have hS0 := HC5 wa.drew (below_drewN (Below.refl _ _) 1)
  have HC5 := Lib.hid HC5
  have hHT : Hid (bs (kwF k) ++ ⟨#[32]⟩ ++ bs (listF c.vars) ++ ⟨#[32]⟩ ++ bs (listF c.args) ++ ⟨#[32]⟩ ++ bs (Lib.itoa bd) = bs (headF c)) := Lib.hid (by rw [HH.out, show (⟨#[32]⟩ : ByteArray) = bs [32] from rfl, bs_app, bs_app, bs_app, bs_app, bs_app, bs_app])
  have hk0 : (0 : Int) ≤ (k : Int) := by omega
  have hk1 : (k : Int) < 10 := by omega
  have HKB := Lib.hid hkb
  clear g1 g2 g3 hg hs hk hnv hna hnr hbd hb0 hza
  go_enter Tryd.func27, Tryd.ntmps27
  go_wp2_with fail
  rw [← hwa]
  clear hwa
  refine wp_region_held_drew (S := fun w' => w'.cell? ⟨w.heap.size, 0, none⟩ = some (.int .i64 (k : Int)) ∧ w'.cell? ⟨w.heap.size, 1, none⟩ = some (.slice va nv cv) ∧ w'.cell? ⟨w.heap.size, 2, none⟩ = some (.slice aa na ca) ∧ w'.cell? ⟨w.heap.size, 3, none⟩ = some (.int .i64 bd) ∧ w'.cell? ⟨w.heap.size, 4, none⟩ = some (.slice ra nr cr)) (by kernel_rfl) hS0 (fun hHeld => ?_)
  refine wpAnyH_take (i := 1) (oi := { dst := _, op := _, type := _, pos := _, after := _, guard := _ }) (v := ?vk1) rfl (by kernel_rfl) (by kernel_rfl) (by kernel_rfl) (fun _ _ _ h => h) (Or.inl ⟨by rfl, ?yk1⟩) hHeld ?rk1
  case yk1 => (intro w hSw; (try dsimp only at hSw); go_simp; first | done | (with_reducible rfl) | (rw [if_neg (by omega)]))
  try simp only [Act.put, List.setIfInBounds_toArray, List.set_cons_zero, List.set_cons_succ]
  refine wpAnyH_take (i := 2) (oi := { dst := _, op := _, type := _, pos := _, after := _, guard := _ }) (v := ?vk2) rfl (by kernel_rfl) (by kernel_rfl) (by kernel_rfl) (fun _ _ _ h => h) (Or.inl ⟨by rfl, ?yk2⟩) hHeld ?rk2
  case yk2 => (intro w hSw; (try dsimp only at hSw); go_simp; first | done | (with_reducible rfl) | (rw [if_neg (by omega)]))
  try simp only [Act.put, List.setIfInBounds_toArray, List.set_cons_zero, List.set_cons_succ]
  refine wpAnyH_take (i := 6) (oi := { dst := _, op := _, type := _, pos := _, after := _, guard := _ }) (v := ?vk3) rfl (by kernel_rfl) (by kernel_rfl) (by kernel_rfl) (fun _ _ _ h => h) (Or.inl ⟨by rfl, ?yk3⟩) hHeld ?rk3
  case yk3 => (intro w hSw; (try dsimp only at hSw); go_simp; first | done | (with_reducible rfl) | (rw [if_neg (by omega)]))
  try simp only [Act.put, List.setIfInBounds_toArray, List.set_cons_zero, List.set_cons_succ]
  refine wpAnyH_take (i := 7) (oi := { dst := _, op := _, type := _, pos := _, after := _, guard := _ }) (v := ?vk4) rfl (by kernel_rfl) (by kernel_rfl) (by kernel_rfl) (fun _ _ _ h => h) (Or.inl ⟨by rfl, ?yk4⟩) hHeld ?rk4
  case yk4 => (intro w hSw; (try dsimp only at hSw); go_simp; first | done | (with_reducible rfl) | (rw [if_neg (by omega)]))
  try simp only [Act.put, List.setIfInBounds_toArray, List.set_cons_zero, List.set_cons_succ]
  refine wpAnyH_take (i := 11) (oi := { dst := _, op := _, type := _, pos := _, after := _, guard := _ }) (v := ?vk5) rfl (by kernel_rfl) (by kernel_rfl) (by kernel_rfl) (fun _ _ _ h => h) (Or.inl ⟨by rfl, ?yk5⟩) hHeld ?rk5
  case yk5 => (intro w hSw; (try dsimp only at hSw); go_simp; first | done | (with_reducible rfl) | (rw [if_neg (by omega)]))
  try simp only [Act.put, List.setIfInBounds_toArray, List.set_cons_zero, List.set_cons_succ]
  refine wpAnyH_take (i := 12) (oi := { dst := _, op := _, type := _, pos := _, after := _, guard := _ }) (v := ?vk6) rfl (by kernel_rfl) (by kernel_rfl) (by kernel_rfl) (fun _ _ _ h => h) (Or.inl ⟨by rfl, ?yk6⟩) hHeld ?rk6
  case yk6 => (intro w hSw; (try dsimp only at hSw); go_simp; first | done | (with_reducible rfl) | (rw [if_neg (by omega)]))
  try simp only [Act.put, List.setIfInBounds_toArray, List.set_cons_zero, List.set_cons_succ]
  refine wpAnyH_take (i := 16) (oi := { dst := _, op := _, type := _, pos := _, after := _, guard := _ }) (v := ?vk7) rfl (by kernel_rfl) (by kernel_rfl) (by kernel_rfl) (fun _ _ _ h => h) (Or.inl ⟨by rfl, ?yk7⟩) hHeld ?rk7
  case yk7 => (intro w hSw; (try dsimp only at hSw); go_simp; first | done | (with_reducible rfl) | (rw [if_neg (by omega)]))
  try simp only [Act.put, List.setIfInBounds_toArray, List.set_cons_zero, List.set_cons_succ]
  refine wpAnyH_take (i := 17) (oi := { dst := _, op := _, type := _, pos := _, after := _, guard := _ }) (v := ?vk8) rfl (by kernel_rfl) (by kernel_rfl) (by kernel_rfl) (fun _ _ _ h => h) (Or.inl ⟨by rfl, ?yk8⟩) hHeld ?rk8
  case yk8 => (intro w hSw; (try dsimp only at hSw); go_simp; first | done | (with_reducible rfl) | (rw [if_neg (by omega)]))
  try simp only [Act.put, List.setIfInBounds_toArray, List.set_cons_zero, List.set_cons_succ]
  refine wpAnyH_ready (rs := [0]) (by kernel_rfl) (by simp) ?_
  refine AllReadyH.cons (o := { dst := _, op := _, type := _, pos := _, after := _, guard := _ }) rfl (fun K hK => ?_) AllReadyH.nil
  go_simp
  refine (skeywords _).mono ?_
  rintro e W1 ⟨rfl, hW1⟩
  obtain ⟨hS1, hb1, hB1⟩ := KEYW.out W1 hW1
  have HW1 := Lib.hid hW1
  skip
  clear hW1
  refine hK.out _ _ ?_ (fun hHeld => ?_)
  · exact hS1.1
  clear hK K
  try simp only [Act.put, List.setIfInBounds_toArray, List.set_cons_zero, List.set_cons_succ]
  refine wpAnyH_weaken (S' := fun w' => (w'.cell? ⟨w.heap.size, 0, none⟩ = some (.int .i64 (k : Int)) ∧ w'.cell? ⟨w.heap.size, 1, none⟩ = some (.slice va nv cv) ∧ w'.cell? ⟨w.heap.size, 2, none⟩ = some (.slice aa na ca) ∧ w'.cell? ⟨w.heap.size, 3, none⟩ = some (.int .i64 bd) ∧ w'.cell? ⟨w.heap.size, 4, none⟩ = some (.slice ra nr cr)) ∧ w'.cell? ⟨kb, k, none⟩ = some (.string (bs (kwF k)))) (fun _ h => h.1) _ _ _ _ ?_
  have hHeld := hS1
  refine wpAnyH_take (i := 3) (oi := { dst := _, op := _, type := _, pos := _, after := _, guard := _ }) (v := ?vk9) rfl (by kernel_rfl) (by kernel_rfl) (by kernel_rfl) (fun _ _ _ h => h) (Or.inl ⟨by rfl, ?yk9⟩) hHeld ?rk9
  case yk9 => (intro w hSw; (try dsimp only at hSw); go_simp; first | done | (with_reducible rfl) | (rw [if_neg (by omega)]))
  try simp only [Act.put, List.setIfInBounds_toArray, List.set_cons_zero, List.set_cons_succ]
  refine wpAnyH_take (i := 4) (oi := { dst := _, op := _, type := _, pos := _, after := _, guard := _ }) (v := ?vk10) rfl (by kernel_rfl) (by kernel_rfl) (by kernel_rfl) (fun _ _ _ h => h) (Or.inl ⟨by rfl, ?yk10⟩) hHeld ?rk10
  case yk10 => (intro w hSw; (try dsimp only at hSw); go_simp; first | done | (with_reducible rfl) | (rw [if_neg (by omega)]))
  try simp only [Act.put, List.setIfInBounds_toArray, List.set_cons_zero, List.set_cons_succ]
  refine wpAnyH_take (i := 5) (oi := { dst := _, op := _, type := _, pos := _, after := _, guard := _ }) (v := ?vk11) rfl (by kernel_rfl) (by kernel_rfl) (by kernel_rfl) (fun _ _ _ h => h) (Or.inl ⟨by rfl, ?yk11⟩) hHeld ?rk11
  case yk11 => (intro w hSw; (try dsimp only at hSw); go_simp; first | done | (with_reducible rfl) | (rw [if_neg (by omega)]))
  try simp only [Act.put, List.setIfInBounds_toArray, List.set_cons_zero, List.set_cons_succ]
  refine wpAnyH_ready (rs := [8]) (by kernel_rfl) (by simp) ?_
  refine AllReadyH.cons (o := { dst := _, op := _, type := _, pos := _, after := _, guard := _ }) rfl (fun K hK => ?_) AllReadyH.nil
  go_simp
  refine (sformatInts va nv cv c.vars W1 (HV.out W1 hb1) G.out.2.1 L.out.1).mono ?_
  rintro e W2 ⟨rfl, hB2⟩
  have hb2 := bgo hb1 hB2
  have hS2 := HS.out W1 W2 HW1.out (Below.trans hB1 (hB2.mono hB1.size))
  refine hK.out _ _ ?_ (fun hHeld => ?_)
  · exact hS2
  clear hK K
  try simp only [Act.put, List.setIfInBounds_toArray, List.set_cons_zero, List.set_cons_succ]
  refine wpAnyH_take (i := 9) (oi := { dst := _, op := _, type := _, pos := _, after := _, guard := _ }) (v := ?vk12) rfl (by kernel_rfl) (by kernel_rfl) (by kernel_rfl) (fun _ _ _ h => h) (Or.inl ⟨by rfl, ?yk12⟩) hHeld ?rk12
  case yk12 => (intro w hSw; (try dsimp only at hSw); go_simp; first | done | (with_reducible rfl) | (rw [if_neg (by omega)]))
  try simp only [Act.put, List.setIfInBounds_toArray, List.set_cons_zero, List.set_cons_succ]
  refine wpAnyH_take (i := 10) (oi := { dst := _, op := _, type := _, pos := _, after := _, guard := _ }) (v := ?vk13) rfl (by kernel_rfl) (by kernel_rfl) (by kernel_rfl) (fun _ _ _ h => h) (Or.inl ⟨by rfl, ?yk13⟩) hHeld ?rk13
  case yk13 => (intro w hSw; (try dsimp only at hSw); go_simp; first | done | (with_reducible rfl) | (rw [if_neg (by omega)]))
  try simp only [Act.put, List.setIfInBounds_toArray, List.set_cons_zero, List.set_cons_succ]
  refine wpAnyH_ready (rs := [13]) (by kernel_rfl) (by simp) ?_
  refine AllReadyH.cons (o := { dst := _, op := _, type := _, pos := _, after := _, guard := _ }) rfl (fun K hK => ?_) AllReadyH.nil
  go_simp
  refine (sformatInts aa na ca c.args W2 (HA.out W2 hb2) G.out.2.2.1 L.out.2.1).mono ?_
  rintro e W3 ⟨rfl, hB3⟩
  have hb3 := bgo hb2 hB3
  have hS3 := HS.out W1 W3 HW1.out (Below.trans (Below.trans hB1 (hB2.mono hB1.size)) (hB3.mono (Nat.le_trans hB1.size hB2.size)))
  refine hK.out _ _ ?_ (fun hHeld => ?_)
  · exact hS3
  clear hK K
  try simp only [Act.put, List.setIfInBounds_toArray, List.set_cons_zero, List.set_cons_succ]
  refine wpAnyH_take (i := 14) (oi := { dst := _, op := _, type := _, pos := _, after := _, guard := _ }) (v := ?vk14) rfl (by kernel_rfl) (by kernel_rfl) (by kernel_rfl) (fun _ _ _ h => h) (Or.inl ⟨by rfl, ?yk14⟩) hHeld ?rk14
  case yk14 => (intro w hSw; (try dsimp only at hSw); go_simp; first | done | (with_reducible rfl) | (rw [if_neg (by omega)]))
  try simp only [Act.put, List.setIfInBounds_toArray, List.set_cons_zero, List.set_cons_succ]
  refine wpAnyH_take (i := 15) (oi := { dst := _, op := _, type := _, pos := _, after := _, guard := _ }) (v := ?vk15) rfl (by kernel_rfl) (by kernel_rfl) (by kernel_rfl) (fun _ _ _ h => h) (Or.inl ⟨by rfl, ?yk15⟩) hHeld ?rk15
  case yk15 => (intro w hSw; (try dsimp only at hSw); go_simp; first | done | (with_reducible rfl) | (rw [if_neg (by omega)]))
  try simp only [Act.put, List.setIfInBounds_toArray, List.set_cons_zero, List.set_cons_succ]
  refine wpAnyH_ready (rs := [18]) (by kernel_rfl) (by simp) ?_
  refine AllReadyH.cons (o := { dst := _, op := _, type := _, pos := _, after := _, guard := _ }) rfl (fun K hK => ?_) AllReadyH.nil
  go_simp
  refine (sfmt bd W3 HBD.out.1 HBD.out.2).mono ?_
  rintro e W4 ⟨rfl, hB4⟩
  have hb4 := bgo hb3 hB4
  have hS4 := HS.out W1 W4 HW1.out (Below.trans (Below.trans (Below.trans hB1 (hB2.mono hB1.size)) (hB3.mono (Nat.le_trans hB1.size hB2.size))) (hB4.mono (Nat.le_trans (Nat.le_trans hB1.size hB2.size) hB3.size)))
  refine hK.out _ _ ?_ (fun hHeld => ?_)
  · exact hS4
  clear hK K
  try simp only [Act.put, List.setIfInBounds_toArray, List.set_cons_zero, List.set_cons_succ]
  refine wpAnyH_take (i := 19) (oi := { dst := _, op := _, type := _, pos := _, after := _, guard := _ }) (v := ?vk16) rfl (by kernel_rfl) (by kernel_rfl) (by kernel_rfl) (fun _ _ _ h => h) (Or.inl ⟨by rfl, ?yk16⟩) hHeld ?rk16
  case yk16 => (intro w hSw; (try dsimp only at hSw); go_simp; first | done | (with_reducible rfl) | (rw [if_neg (by omega)]))
  try simp only [Act.put, List.setIfInBounds_toArray, List.set_cons_zero, List.set_cons_succ]
  refine wpAnyH_ready (rs := [20]) (by kernel_rfl) (by simp) ?_
  refine AllReadyH.cons (o := { dst := _, op := _, type := _, pos := _, after := _, guard := _ }) rfl (fun K hK => ?_) AllReadyH.nil
  go_simp
  refine hK.out _ _ ?_ (fun hHeld => ?_)
  · exact hS4
  clear hK K
  try simp only [Act.put, List.setIfInBounds_toArray, List.set_cons_zero, List.set_cons_succ]
  refine wpAnyH_done (by kernel_rfl) ?_ _
  rw [hHT.out]
  have HLN : Hid (∀ j, (bs (headF c ++ rowsF (c.rows.take j))).size ≤ 60000000) := fun j => by
    rw [bs_size, List.length_append]
    have h1 := HHL.out
    have h2 := rowsF_len (rs := c.rows.take j) (fun r hr => ⟨G.out.2.2.2.2.1 r (List.mem_of_mem_take hr), L.out.2.2.2 r (List.mem_of_mem_take hr)⟩)
    have h3 : (c.rows.take j).length ≤ 8 := by rw [List.length_take]; have := G.out.2.2.2.2.2; omega
    omega
  clear hHeld hS0 hS1 hS2 hS3 hS4 hB1 hB2 hB3 hB4 hb1 hb2 hb3 s0 s1 s2 s3
  go_wp2_with fail
  go_loopw [3, 4] (fun v i wr => ∃ j : Nat, j ≤ nr ∧ i = .int .i64 j ∧ v = .string (bs (headF c ++ rowsF (c.rows.take j))) ∧ Below wa.heap.size wa wr) (fun _ i _ => nr - (intOf i).toNat)
  case atStart => exact ⟨0, by omega, rfl, by simp [rowsF], hb4⟩
  case round =>
    obtain ⟨j, hj, rfl, rfl, hb⟩ := hrel
    clear hb4
    rename World => wr
    have hs1 := HLN.out j
    have f4 := (HC5.out wr hb).2.2.2.2
    by_cases hlt : j < nr
    · obtain ⟨ab, ao, row, u, rfl, hab, hxk, hcx, A2, c2, rfl, hri⟩ := SlR.at_ (HR.out wr hb) hlt
      have hmem := List.mem_of_getElem? hxk
      have H9 := Lib.hid (G.out.2.2.2.2.1 row hmem)
      have HRL := Lib.hid (L.out.2.2.2 row hmem)
      have hs2 : (bs (listF row)).size ≤ 5242881 := by rw [bs_size]; have := listF_len H9.out; have := HRL.out; unfold Sm1 at this; omega
      have HE := Lib.hid (show bs (headF c ++ rowsF (c.rows.take j)) ++ ⟨#[32]⟩ ++ bs (listF row) = bs (headF c ++ rowsF (c.rows.take (j + 1))) by
        rw [List.take_add_one, hxk, Option.toList_some, rowsF_snoc, show (⟨#[32]⟩ : ByteArray) = bs [32] from rfl, bs_app, bs_app]
        simp [List.append_assoc])
      have HRI := Lib.hid hri
      have hg1 : decide ((j : Int) < (nr : Int)) = true := decide_eq_true (by omega)
      clear hxk hmem hri
      go_wp2_with fail
      refine (sformatInts A2 row.length c2 row wr HRI.out H9.out HRL.out).mono ?_
      rintro e w1 ⟨rfl, hb1⟩
      go_wp2_with fail
      go_roundw
      case rel => exact ⟨j + 1, by omega, by go_num, by rw [← HE.out], hb.trans (hb1.mono hb.size)⟩
      case measure => simp [intOf]; omega
    · obtain rfl : j = nr := by omega
      have hg1 : decide ((j : Int) < (j : Int)) = false := decide_eq_false (by omega)
      have HF := Lib.hid (show bs (headF c ++ rowsF (c.rows.take j)) = bs (conF c) by unfold conF; rw [show c.rows.take j = c.rows from by rw [← HNR.out]; exact List.take_length])
      go_wp2_with fail
      go_ret
      exact ⟨(by rw [HF.out] : Ending.returned (.string (bs (headF c ++ rowsF (c.rows.take j)))) = .returned (.string (bs (conF c)))), HB0.out.trans (hb.mono HB0.out.size)⟩
end Go.Proofs.YtfoodlhfmcfjeaaDoor
