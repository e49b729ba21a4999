/- FnFilterMonotone: for every input the law returns true and its arguments read as before; no further condition. -/
import Derived.Test.YtejfnkbdmlijbaaRows
import Derived.WalkKit
import Derived.ProofKit
import Derived.OpenShut
import Derived.Carry
import Derived.StillTailTactics
import Derived.Test.YtejfnkbdmlijbaaDrawH
import Derived.Test.YtejfnkbdmlijbaaFilS
import Derived.Test.YtejfnkbdmlijbaaFilP
namespace Go.Proofs.Ytejfnkbdmlijbaa.fnFilterMonotone
open Go.ChangeShapes Go.WideShapes Go.ChangeAt Go.RowKit
open Go.Shelf
set_option linter.unusedVariables false
set_option maxRecDepth 100000

theorem own : ownKnob Try.prog.godebug = none := by kernel_rfl
theorem laid : laidOutB Try.prog = true := by kernel_rfl

theorem hT5 {w w' : World} {b : Nat} {x0 x1 x2 x3 x4 : Value} (h : TBlk 35 w b #[x0, x1, x2, x3, x4]) (hb : Below w.heap.size w w') :
    TBlk 35 w' b #[x0, x1, x2, x3, x4] ∧ w'.cell? ⟨b, 0, none⟩ = some x0 ∧ w'.cell? ⟨b, 1, none⟩ = some x1 ∧ w'.cell? ⟨b, 2, none⟩ = some x2 ∧ w'.cell? ⟨b, 3, none⟩ = some x3 ∧ w'.cell? ⟨b, 4, none⟩ = some x4 := by
  have t := h.below_ hb h.lt
  exact ⟨t, t.at_ 0 rfl, t.at_ 1 rfl, t.at_ 2 rfl, t.at_ 3 rfl, t.at_ 4 rfl⟩
set_option maxHeartbeats 8000000 in
theorem subD_set {S D : List Int} {j : Nat} {a : Int} (hj : j < S.length) (h : SubD S D) (ha : ∀ u : Int, 0 ≤ u → u ≤ 5 → hasB a u = true → hasB (gat S j) u = true) : SubD (S.set j a) D := fun i hi u u0 u1 hb => by
  rw [List.length_set] at hi
  rw [gat_set hj] at hb
  by_cases e : j = i
  · subst e
    rw [if_pos rfl] at hb
    exact h j hi u u0 u1 (ha u u0 u1 hb)
  · rw [if_neg e] at hb
    exact h i hi u u0 u1 hb
theorem doms_set {S : List Int} (h : Doms S) {a : Int} (ha : 0 ≤ a ∧ a ≤ 63) (j : Nat) : Doms (S.set j a) := fun y hy => by
  rcases List.mem_or_eq_of_mem_set hy with h1 | h1
  · exact h y h1
  · rw [h1]; exact ha
theorem isSubset (A B : Option Addr) (n m c d : Nat) (xs ys : List Int) (w : World) (hx : IntR w w.heap.size A n xs) (hy : IntR w w.heap.size B m ys) (hl : m = n) (h : ∀ k, k < n → bits .and .i64 (gat xs k) (gat ys k) = gat xs k) :
    Calls Try.prog 33 #[.slice A n c, .slice B m d] w fun e w' => e = .returned (.bool true) ∧ Below w.heap.size w w' := by
  subst hl
  have hn := hx.le
  have hne : ((m : Int) != (m : Int)) = false := by simp
  have H := Lib.hid h
  clear h
  go_enter Try.func33, Try.ntmps33
  go_wp2_with fail
  go_loopw [5] (fun i wr => ∃ k : Nat, k ≤ m ∧ i = .int .i64 k ∧ Below w.heap.size w wr) (fun i _ => m - (intOf i).toNat)
  case atStart => exact ⟨0, by omega, rfl, Below.refl _ _⟩
  case round =>
    obtain ⟨k, hk, rfl, hb⟩ := hrel
    by_cases hlt : k < m
    · obtain ⟨ab, ao, x, rfl, hab, hxk, hcx⟩ := IntR.at_ (hx.below IntC.keeps hb) hlt
      obtain ⟨bb, bo, y, rfl, hbb, hyk, hcy⟩ := IntR.at_ (hy.below IntC.keeps hb) hlt
      have hh := H.out k hlt
      rw [gat_eq hxk, gat_eq hyk] at hh
      have hne2 : (bits .and .i64 x y != x) = false := by rw [hh]; simp
      clear hxk hyk hh
      go_wp2_with fail
      go_quiet (fail)
      go_wp2_with fail
      go_roundw
      case rel => exact ⟨k + 1, by omega, by go_num, below_drewN hb _⟩
      case measure => simp [intOf]; omega
    · obtain rfl : k = m := by omega
      go_wp2_with fail
      go_ret
      exact ⟨rfl, hb⟩
set_option maxHeartbeats 8000000 in
theorem walk {W : World} (A0 : Option Addr) (n0 c0 : Nat) (xs0 : List Int) (g0 : CodeA W W.heap.size A0 n0 c0 xs0) (Am : Option Addr) (nm cm : Nat) (xm : List Int) (gm : CodeA W W.heap.size Am nm cm xm) :
    Calls Try.prog 7 #[.slice A0 n0 c0, .slice Am nm cm] W fun e w' => e = .returned (.bool true) ∧ Below W.heap.size W w' := by
  obtain ⟨i0, hi0, hz0, hz1, hz2⟩ := info_parts info_int
  by_cases hlen : (1048576 : Int) < (n0 : Int)
  · have hd : decide ((1048576 : Int) < (n0 : Int)) = true := decide_eq_true hlen
    clear hlen
    go_enter Try.func7, Try.ntmps7
    go_wp2_with fail
    go_ret
    exact ⟨rfl, Below.refl _ _⟩
  have hd : decide ((1048576 : Int) < (n0 : Int)) = false := decide_eq_false hlen
  by_cases hlen2 : (1048576 : Int) < (nm : Int)
  · have hd2 : decide ((1048576 : Int) < (nm : Int)) = true := decide_eq_true hlen2
    clear hlen2
    go_enter Try.func7, Try.ntmps7
    go_wp2_with fail
    go_ret
    exact ⟨rfl, Below.refl _ _⟩
  have hd2 : decide ((1048576 : Int) < (nm : Int)) = false := decide_eq_false hlen2
  go_enter Try.func7, Try.ntmps7
  go_wp2_with fail
  refine (drawFilter _ _ _ _ _ g0).mono ?_
  rintro e W1 ⟨vk, vd, k, ds, rfl, hoc, hsm, hod, h1, h4, hdr, c0⟩
  obtain ⟨usk, rfl, hcr⟩ := OwnCon.read hoc
  obtain ⟨Ad, cd, rfl, rd⟩ := hod.read
  obtain ⟨A1, A2, A3, c1, c2, c3, rfl, -⟩ := id hcr
  obtain ⟨W2, hW2⟩ : ∃ W2, W1.alloc (.cells #[.int .i64 k.kind, .slice A1 k.vars.length c1, .slice A2 k.args.length c2, .int .i64 k.bound, .slice A3 k.rows.length c3] 35) = W2 := ⟨_, rfl⟩
  have hB2 : Below W1.heap.size W1 W2 := by rw [← hW2]; exact b_alloc _ _
  have HT2 : Hid (TBlk 35 W2 W1.heap.size #[.int .i64 k.kind, .slice A1 k.vars.length c1, .slice A2 k.args.length c2, .int .i64 k.bound, .slice A3 k.rows.length c3]) := by rw [← hW2]; exact TBlk.new _ _ _
  obtain ⟨-, x0, x1, x2, x3, x4⟩ := hT5 HT2.out (Below.refl _ _)
  have HC2 := Lib.hid (ConR.on hcr hB2)
  have HD2 := Lib.hid (IntR.on rd hB2)
  have HB2 := Lib.hid (bgo c0 hB2)
  clear hoc hsm hod hcr rd hB2 c0 hdr
  go_wp2_with fail
  clear hW2
  refine (iFilter _ k _ _ _ ds _ HC2.out HD2.out).mono ?_
  rintro e W3 ⟨v', rfl, hh, hB⟩
  have hFl := filtF_len k ds
  obtain ⟨F, hF⟩ : ∃ F, filtF k ds = F := ⟨_, rfl⟩
  have HF := Lib.hid hF
  rw [hF] at hh hFl
  clear hF
  obtain ⟨nF, hnF⟩ : ∃ nF, F.length = nF := ⟨_, rfl⟩
  have HNF := Lib.hid hnF
  rw [hnF] at hh hFl
  clear hnF
  obtain ⟨A5, c5, rfl, r5⟩ := IntR.of_hold hh (by omega)
  obtain ⟨t3, y0, y1, y2, y3, y4⟩ := hT5 HT2.out hB
  have HT3 := Lib.hid t3
  have HC3 := Lib.hid (ConR.on HC2.out hB)
  have HD3 := Lib.hid (IntR.on HD2.out hB)
  have HB3 := Lib.hid (bgo HB2.out hB)
  have HR3 := Lib.hid r5
  clear t3 hB hh x0 x1 x2 x3 x4 HT2 HC2 HD2 HB2 r5
  go_wp2_with fail
  refine (sFilter _ k _ _ _ ds _ HC3.out HD3.out).mono ?_
  rintro e W4 ⟨v', rfl, hh, hB⟩
  rw [HF.out, HNF.out] at hh
  obtain ⟨A6, c6, rfl, r6⟩ := IntR.of_hold hh (by omega)
  obtain ⟨t4, z0, z1, z2, z3, z4⟩ := hT5 HT3.out hB
  have HT4 := Lib.hid t4
  have HC4 := Lib.hid (ConR.on HC3.out hB)
  have HD4 := Lib.hid (IntR.on HD3.out hB)
  have HB4 := Lib.hid (bgo HB3.out hB)
  have HR4 := Lib.hid (IntR.on HR3.out hB)
  have HR6 := Lib.hid r6
  clear t4 hB hh y0 y1 y2 y3 y4 HT3 HC3 HD3 HB3 HR3 r6
  go_wp2_with fail
  refine (lequalInts _ _ _ _ _ _ F F _ HR4.out HR6.out).mono ?_
  rintro e W5 ⟨rfl, hB⟩
  have heq : decide (F = F) = true := by simp
  obtain ⟨t5, u0, u1, u2, u3, u4⟩ := hT5 HT4.out hB
  have HC5 := Lib.hid (ConR.on HC4.out hB)
  have HD5 := Lib.hid (IntR.on HD4.out hB)
  have HB5 := Lib.hid (bgo HB4.out hB)
  have HR5 := Lib.hid (IntR.on HR4.out hB)
  have HT5 := Lib.hid t5
  clear t5 hB z0 z1 z2 z3 z4 HT4 HC4 HD4 HB4 HR4 HR6
  by_cases hz : nF = 0
  · have hz2 : ((nF : Int) == 0) = true := by simp; omega
    have HZ := Lib.hid hz
    clear hz
    go_wp2_with fail
    refine (sFilter _ k _ _ _ ds _ HC5.out HD5.out).mono ?_
    rintro e W6 ⟨v', rfl, hh, hB⟩
    rw [HF.out, HNF.out] at hh
    obtain ⟨A7, c7, rfl, r7⟩ := IntR.of_hold hh (by omega)
    have HR6 := Lib.hid (IntR.on HR5.out hB)
    have HB6 := Lib.hid (bgo HB5.out hB)
    have HR7 := Lib.hid r7
    clear hB hh u0 u1 u2 u3 u4 r7
    go_wp2_with fail
    refine (lequalInts _ _ _ _ _ _ F F _ HR6.out HR7.out).mono ?_
    rintro e W7 ⟨rfl, hB⟩
    go_wp2_with fail
    go_ret
    exact ⟨rfl, bgo HB6.out hB⟩
  · have hzz : ((nF : Int) == 0) = false := by simp; omega
    have hv : (dokF ds && vconF k ds.length) = true := by
      cases hv : dokF ds && vconF k ds.length
      · have h := HF.out
        unfold filtF at h
        rw [hv] at h
        have := HNF.out
        rw [← h] at this
        simp at this
        omega
      · rfl
    have HV := Lib.hid hv
    obtain ⟨-, -, -, hdm, -, -⟩ := filt_parts hv
    have HDM := Lib.hid hdm
    obtain ⟨nd, hnd⟩ : ∃ nd, ds.length = nd := ⟨_, rfl⟩
    have HND := Lib.hid hnd
    have hd5 := HD5.out
    rw [hnd] at hd5 h1 h4 ⊢
    have ol : (W5.alloc (.cells #[] 3)).ownsRow W5.heap.size 3 1 (.slice (some ⟨W5.heap.size, 0, none⟩) 0 0) 0 [] := World.ownsRow_lit W5 #[] 0 (Nat.le_refl _) (by decide) rfl
    have hs : Src (W5.alloc (.cells #[] 3)) 1 Ad nd cd (ds.map (.int .i64)) := (IntR.on hd5 (b_alloc W5 (.cells #[] 3))).src (by omega)
    clear hz hv hdm hnd hd5
    go_wp2_with (at_builtin; refine wpList_append_any rfl _ _ 23 rfl W5.heap.size 3 i0 _ 1 8 Try.underlying23 hi0 hz0 hz1 hz2 rfl (by decide) (.slice (some ⟨W5.heap.size, 0, none⟩) 0 0) _ _ rfl ol _ _ _ _ rfl hs (by simp [Value.oneCell']) (by unfold maxLen; omega) (by omega) (by rw [size_alloc_]; omega) ?_; intro v1 w1 ho1 hb1 _ _)
    have ho2 : w1.ownsRow W5.heap.size 3 1 v1 nd (ds.map (.int .i64)) := by simpa using ho1
    have hb2 : Below W5.heap.size W5 w1 := (b_alloc _ _).trans hb1
    obtain ⟨gs, cs, rfl, hgs⟩ : ∃ gs cs : Nat, v1 = .slice (some ⟨gs, 0, none⟩) nd cs ∧ W5.heap.size ≤ gs := by
      rcases ho2.2 with ⟨_, h6⟩ | ⟨gd, cap, cur, hv, hgd, -⟩
      · omega
      · exact ⟨gd, cap, hv, hgd⟩
    have HO := Lib.hid ho2
    clear ho1 ho2 hs ol hb1 u0 u1 u2 u3 u4
    go_loopw [9] (fun i wr => ∃ (j : Nat) (S : List Int), j ≤ nd ∧ i = .int .i64 j ∧ Hid (S.length = nd) ∧ Hid (Doms S) ∧ Hid (SubD S ds) ∧ Hid (wr.ownsRow W5.heap.size 3 1 (.slice (some ⟨gs, 0, none⟩) nd cs) nd (S.map (.int .i64))) ∧ Below W5.heap.size W5 wr) (fun i _ => nd - (intOf i).toNat)
    case atStart => exact ⟨0, ds, by omega, rfl, HND, HDM, Lib.hid (fun _ _ _ _ _ h => h), HO, hb2⟩
    case round =>
      obtain ⟨j, S, hj, rfl, hSl, hSd, hSs, hq, hb⟩ := hrel
      clear HO hb2
      rename World => wr
      by_cases hlt : j < nd
      · go_wp2_with fail
        refine (drawValidDomain _ _ _ _ _ ⟨SlA.on ByteC.keeps ByteC.widens gm.1 (bgo HB5.out hb), gm.2⟩).mono ?_
        rintro e w2 ⟨cut, rfl, hcut, hbq⟩
        have hq2 := Lib.hid (own_below hq.out hbq)
        have hb3 := bgo hb hbq
        clear hq hbq
        go_wp2_with fail
        refine (iValidDomain _ _).mono ?_
        rintro e w3 ⟨rfl, rfl⟩
        cases tv : vdB cut
        · go_wp2_with fail
          go_roundw
          case rel => exact ⟨j + 1, S, by omega, by go_num, hSl, hSd, hSs, hq2, hb3⟩
          case measure => simp [intOf]; omega
        · have hcut2 : 0 ≤ cut ∧ cut ≤ 63 := by simpa [vdB, inB] using tv
          by_cases hp : ((j : Int) + (nm : Int)) % 2 = 0
          · have hp1 : (((j : Int) + (nm : Int)) % 2 == 0) = true := by simpa using hp
            have hp2 : (((j : Int) + (nm : Int)).tmod 2 == 0) = true := by rw [Int.tmod_eq_emod_of_nonneg (by omega)]; exact hp1
            obtain ⟨x, hx⟩ : ∃ x, S[j]? = some x := ⟨_, List.getElem?_eq_getElem (by rw [hSl.out]; exact hlt)⟩
            have hco := hq2.out.cellAt j (by omega)
            rw [List.getElem?_map, hx] at hco
            simp only [Option.map_some] at hco
            have hfo := hq2.out.frozenAt j
            have hxd := hSd.out x (List.mem_of_getElem? hx)
            obtain ⟨d1, d2, d3⟩ := and_dom hxd.1 hxd.2 hcut2.1 hcut2.2
            have HS2 := Lib.hid (subD_set (S := S) (j := j) (a := bits .and .i64 x cut) (by rw [hSl.out]; exact hlt) hSs.out (fun u u0 u1 hu => by
              rw [d3 u u0 u1] at hu
              rw [gat_eq hx]
              simp only [Bool.and_eq_true] at hu
              exact hu.1))
            have HS3 := Lib.hid (doms_set hSd.out ⟨d1, d2⟩ j)
            have HS4 := Lib.hid (show (w2.setCell ⟨gs, j, none⟩ (.int .i64 (bits .and .i64 x cut))).ownsRow W5.heap.size 3 1 (.slice (some ⟨gs, 0, none⟩) nd cs) nd ((S.set j (bits .and .i64 x cut)).map (.int .i64)) by
              rw [List.map_set]; exact (hq2.out.stored j (.int .i64 (bits .and .i64 x cut))).1)
            have hb4 : Below W5.heap.size W5 (w2.setCell ⟨gs, j, none⟩ (.int .i64 (bits .and .i64 x cut))) := hb3.setCell (by simpa using hgs) _
            clear hx hxd d1 d2 d3 hb3 hcut2 hp
            go_wp2_with fail
            go_roundw
            case rel => exact ⟨j + 1, S.set j (bits .and .i64 x cut), by omega, by go_num, Lib.hid (by rw [List.length_set]; exact hSl.out), HS3, HS2, HS4, hb4⟩
            case measure => simp [intOf]; omega
          · have hp1 : (((j : Int) + (nm : Int)) % 2 == 0) = false := by simpa using hp
            have hp2 : (((j : Int) + (nm : Int)).tmod 2 == 0) = false := by rw [Int.tmod_eq_emod_of_nonneg (by omega)]; exact hp1
            clear hp hcut2
            go_wp2_with fail
            go_roundw
            case rel => exact ⟨j + 1, S, by omega, by go_num, hSl, hSd, hSs, hq2, hb3⟩
            case measure => simp [intOf]; omega
      · obtain rfl : j = nd := by omega
        obtain ⟨t6, u0, u1, u2, u3, u4⟩ := hT5 HT5.out hb
        obtain ⟨A9, c9, e9, rs, -⟩ := IntR.of_own hq.out (by omega)
        injection e9 with e9 _ e10
        subst e9 e10
        obtain ⟨m1, m2⟩ := filt_mono (S := S) HV.out (by rw [hSl.out, HND.out]) hSd.out hSs.out
        rw [HF.out] at m1 m2
        rw [HNF.out] at m1
        have M1 := Lib.hid m1
        have M2 := Lib.hid m2
        have HR6 := Lib.hid (IntR.on HR5.out hb)
        have HB6 := Lib.hid (bgo HB5.out hb)
        have HRS := Lib.hid rs
        have HC6 := Lib.hid (ConR.on HC5.out hb)
        clear t6 m1 m2 hq rs hb
        go_wp2_with fail
        refine (iFilter _ k _ _ _ S _ HC6.out HRS.out).mono ?_
        rintro e W6 ⟨v', rfl, hh, hB⟩
        rw [M1.out] at hh
        obtain ⟨A7, c7, rfl, r7⟩ := IntR.of_hold hh (by omega)
        have HR7 := Lib.hid (IntR.on HR6.out hB)
        have HB7 := Lib.hid (bgo HB6.out hB)
        have HR8 := Lib.hid r7
        clear hB hh u0 u1 u2 u3 u4 r7
        go_wp2_with fail
        refine (isSubset _ _ _ _ _ _ _ F _ HR8.out HR7.out rfl (fun i hi => M2.out i (by rw [M1.out]; exact hi))).mono ?_
        rintro e W7 ⟨rfl, hB⟩
        go_wp2_with fail
        go_ret
        exact ⟨rfl, bgo HB7.out hB⟩

set_option maxRecDepth 100000 in
theorem lifted (os : Os) (started : os.Started) (H : Type) (enc : TypeId × Value → H) :
    ReturnsInHanded {} Try.checked os 7 .any (Rows.fnFilterMonotoneSpec.pre6 enc Try.prog Try.f7 Rows.fnFilterMonotoneRow.domain false) (Rows.fnFilterMonotoneSpec.post enc Try.prog Try.f7 false true false false) := by
  refine returnsInHanded_of_change (C := Try.checked) own started (by kernel_rfl) Try.func7
    (ChangeSpec.witness6 (enc := enc) (C := Try.checked) false ⟨#[], #[.slice none 0 0, .slice none 0 0], []⟩ 8 (by kernel_rfl) (by kernel_rfl) (by kernel_rfl) (by kernel_rfl)) ?_
  intro W base args ds gs before hval0 hW hcnd _
  have hval : ∀ (j : Nat) t v, Try.f7.params[j]? = some t → args[j]? = some v → Value.okWide Try.prog W .any base t v := hval0
  have hW' := hW
  obtain ⟨p, q, hA0, hV, rfl, hfz, hnd⟩ := hW
  have hA : DataW.TrodAll enc Try.prog W 0 (fun _ => true) true Try.f7.params.toList args.toList ds p := hA0
  rw [Try.params7] at hA hval
  obtain ⟨v0, vs0, d0, ds0, p0, q0, hargs, rfl, rfl, h0, r0⟩ := trodAll_cons hA
  obtain ⟨v1, vs1, d1, ds1, p1, q1, rfl, rfl, rfl, h1, r1⟩ := trodAll_cons r0
  obtain ⟨rfl, rfl, rfl⟩ := trodAll_nil r1
  obtain rfl : args = #[v0, v1] := by cases args; simp_all
  obtain ⟨rfl, rfl⟩ := trodVars_none hV
  have k0 := h0
  have l0 : ∀ x ∈ p0, x.block < W.heap.size := fun x hx => hW'.lt x (by simp [hx])
  have k1 := h1
  have l1 : ∀ x ∈ p1, x.block < W.heap.size := fun x hx => hW'.lt x (by simp [hx])
  obtain ⟨A0, n0, c0, xs0, rfl, g0⟩ := open_byteS Try.underlying22 Try.underlying5 (by kernel_rfl) (hval 0 22 v0 rfl rfl) k0
  obtain ⟨A1, n1, c1, xs1, rfl, g1⟩ := open_byteS Try.underlying22 Try.underlying5 (by kernel_rfl) (hval 1 22 v1 rfl rfl) k1
  clear hA0 hval0
  refine (walk A0 n0 c0 xs0 g0 A1 n1 c1 xs1 g1).mono fun e W' ⟨he, hb⟩ => ?_
  subst he
  exact ⟨_, rfl, _, _, _, [], _, [], hW', trodAll_cons_mk (p := []) (shut_bool Try.underlying4 _) trodAll_mk0, (trodAll_cons_mk (Below.trod laid (by kernel_rfl) (of_decide_eq_true (by kernel_rfl)) h0 hb l0) (trodAll_cons_mk (Below.trod laid (by kernel_rfl) (of_decide_eq_true (by kernel_rfl)) h1 hb l1) trodAll_mk0)), rfl, hb.frame _, fun h => by cases h⟩

theorem over : Rows.fnFilterMonotoneRow.holds Try.pinned (OpenSpec.ofChange Rows.fnFilterMonotoneSpec) :=
  OpenClaim.holds_of_wide 7 Try.f7 rfl rfl rfl rfl rfl rfl rfl ⟨rfl, rfl, rfl, rfl, rfl⟩ rfl rfl rfl rfl rfl (by kernel_rfl) Try.func7 (by kernel_rfl)
    (of_decide_eq_true (by kernel_rfl)) (by unfold Func.isWrapper; first | (rw [if_pos (by decide +kernel)]; kernel_rfl) | (rw [if_neg (by decide +kernel)]; exact ⟨rfl, rfl⟩))
    (fun os started H enc _ => lifted os started H enc)

/-- The statement. -/
theorem proved : Rows.FnFilterMonotoneSaid :=
  over
#print axioms proved
end Go.Proofs.Ytejfnkbdmlijbaa.fnFilterMonotone
