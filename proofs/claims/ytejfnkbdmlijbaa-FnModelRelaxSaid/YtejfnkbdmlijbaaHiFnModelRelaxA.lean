/- Texts laid into one: Ent EntS Nums Fil FilP FixP FilS Csi Fix Bran DrawA. -/
import Derived.Test.YtejfnkbdmlijbaaTup2
import Derived.Test.YtejfnkbdmlijbaaSatI
import Derived.Test.YtejfnkbdmlijbaaSolI
import Derived.Test.YtejfnkbdmlijbaaSatS
import Derived.Test.YtejfnkbdmlijbaaMem
import Derived.Test.YtejfnkbdmlijbaaHold
import Derived.Deep.LoopGhost
import Derived.Test.YtejfnkbdmlijbaaExt
import Derived.Test.YtejfnkbdmlijbaaDraw
import Derived.Test.YtejfnkbdmlijbaaInts
/- IsEntailed. -/
namespace Go.Proofs.Ytejfnkbdmlijbaa
open Go.ChangeShapes Go.WideShapes Go.ChangeAt Go.RowKit
open Go.Shelf
set_option linter.unusedVariables false
set_option maxRecDepth 100000
attribute [local go_sem] Oper.semAt_some

set_option maxHeartbeats 4000000 in
theorem svalidDomainsF (A : Option Addr) (n c : Nat) (xs : List Int) (w : World) (h : IntR w w.heap.size A n xs) :
    Calls Try.prog 62 #[.slice A n c] w fun e w' => e = .returned (.bool (dokF xs)) ∧ w = w' := by
  have hn := h.le
  have hl := Lib.hid h.len
  go_enter Try.func62, Try.ntmps62
  go_wp2_with fail
  go_loop [3] (fun i => ∃ k : Nat, k ≤ n ∧ i = .int .i64 k ∧ Hid (AllB vdB xs k)) (fun i => n - (intOf i).toNat)
  case atStart => exact ⟨0, by omega, rfl, AllB.zero _ _⟩
  case round =>
    obtain ⟨k, hk, rfl, hq⟩ := hrel
    by_cases hlt : k < n
    · obtain ⟨ab, ao, x, rfl, hab, hxk, hcx⟩ := IntR.at_ h hlt
      have HXK := Lib.hid hxk
      clear hxk
      go_wp2_with fail
      refine (svalidDomain _ _).mono ?_
      rintro e w' ⟨rfl, rfl⟩
      cases hv : vdB x
      · have HE := Lib.hid (show dokF xs = false by unfold dokF; rw [show (xs.all fun x => inB x 0 63) = xs.all vdB from rfl, all_no (f := vdB) HXK.out hv]; simp)
        clear hv
        go_wp2_with fail
        go_ret
        exact ⟨ret_bool HE.out.symm, rfl⟩
      · have HV := Lib.hid hv
        clear hv
        go_wp2_with fail
        go_round
        case rel => exact ⟨k + 1, by omega, by go_num, AllB.succ hq.out HXK.out HV.out⟩
        case measure => simp [intOf]; omega
    · obtain rfl : k = n := by omega
      have HE := Lib.hid (show dokF xs = inB k 1 4 by unfold dokF; rw [show (xs.all fun x => inB x 0 63) = xs.all vdB from rfl, AllB.done hq.out (Nat.le_of_eq hl.out), hl.out]; simp)
      go_wp2_with fail
      refine (inRange _ _ _ _).mono ?_
      rintro e w' ⟨rfl, rfl⟩
      go_wp2_with fail
      go_ret
      exact ⟨ret_bool HE.out.symm, rfl⟩
theorem svalidDomainsF_b (A : Option Addr) (n c : Nat) (xs : List Int) (w : World) (b : Bool) (hb : dokF xs = b) (h : IntR w w.heap.size A n xs) :
    Calls Try.prog 62 #[.slice A n c] w fun e w' => e = .returned (.bool b) ∧ w = w' := by
  subst hb; exact svalidDomainsF A n c xs w h
/-- all tuples satisfy c. -/
def entF (c : Con) (ds : List Int) : Bool := (allT (wordF c.vars ds)).all (satF c)
def ientF (c : Con) (ds : List Int) : Bool := dokF ds && (vconF c ds.length && entF c ds)
theorem dok_parts {ds : List Int} (h : dokF ds = true) : 1 ≤ ds.length ∧ ds.length ≤ 4 ∧ Doms ds := by
  unfold dokF at h
  simp only [Bool.and_eq_true, List.all_eq_true] at h
  have := inB_true h.1
  exact ⟨by omega, by omega, fun x hx => inB_true (h.2 x hx)⟩
theorem word_doms {vars ds : List Int} (hv : ∀ v ∈ vars, 0 ≤ v ∧ v < (ds.length : Int)) (h : Doms ds) : Doms (wordF vars ds) := by
  intro x hx
  unfold wordF at hx
  obtain ⟨u, hu, rfl⟩ := List.mem_map.1 hx
  have := hv u hu
  exact h _ (gat_in (by omega))
theorem sat_tup {c : Con} {n : Nat} {ds t : List Int} (hv : vconF c n = true) (h4 : n ≤ 4) (ht : t ∈ allT (wordF c.vars ds)) : SatOk c t ∧ t.length = c.vars.length := by
  obtain ⟨h1, h2, h3⟩ := vcon_vars hv h4
  obtain ⟨hl, hm⟩ := mem_allT.1 ht
  rw [wordF_len] at hl
  refine ⟨⟨hl, by omega, by omega, fun v hv => ?_, h3⟩, hl⟩
  obtain ⟨k, hk, e⟩ := List.getElem_of_mem hv
  have := hm k (gat (wordF c.vars ds) k) v (by rw [gat_eq (List.getElem?_eq_getElem (by rw [wordF_len]; omega))]; exact List.getElem?_eq_getElem _) (by rw [List.getElem?_eq_getElem hk, e])
  omega
theorem results_cell1 {fn : Func} {p : Tmp} {ty : TypeId} (h : fn.results = #[.cell p ty]) (tmps : Array Value) (w : World) (a : Addr) (v : Value) (hp : tmps.getD p undef = .pointer (some a)) (hd : ∀ w, (isAgg ty).run Try.prog w = .ok false w) (hl : w.cell? a = some v) :
    (results fn tmps).run Try.prog w = .ok v w := by
  have hp' : tmps[p]?.getD undef = .pointer (some a) := by simpa using hp
  simp [results, h, hp', asAddr, loadVar, Sem.run_bind, hd, run_load, hl, Result.andThen]
theorem intR_blk {w : World} {g m : Nat} {cs : Array Value} {t : List Int} (hb : TBlk 3 w g cs) (hc : ∀ (j : Nat) v, t[j]? = some v → cs[j]? = some (.int .i64 v)) (hl : t.length = m) (hm : m ≤ 4) : IntR w w.heap.size (some ⟨g, 0, none⟩) m t :=
  ⟨hl, by omega, fun _ => ⟨g, 0, rfl, hb.lt, fun k x hx => ⟨_, by rw [Nat.zero_add]; exact hb.at_ k (hc k x hx), rfl⟩⟩⟩
end Go.Proofs.Ytejfnkbdmlijbaa
/- spec's IsEntailed. -/
namespace Go.Proofs.Ytejfnkbdmlijbaa
open Go.ChangeShapes Go.WideShapes Go.ChangeAt Go.RowKit
open Go.Shelf
set_option linter.unusedVariables false
set_option maxRecDepth 100000
attribute [local go_sem] Oper.semAt_some

/-- what begins with t and goes on with a value of d below k. -/
def belK (ws t : List Int) (d : Int) (k : Nat) : List (List Int) := (valsTo d k).flatMap fun u => extT ws (t ++ [u])
theorem belK_zero (ws t : List Int) (d : Int) : belK ws t d 0 = [] := rfl
theorem belK_yes {ws t : List Int} {d : Int} {k : Nat} (h : hasB d k = true) : belK ws t d (k + 1) = belK ws t d k ++ extT ws (t ++ [(k : Int)]) := by
  unfold belK
  rw [valsTo, h]
  simp
theorem belK_no {ws t : List Int} {d : Int} {k : Nat} (h : hasB d k = false) : belK ws t d (k + 1) = belK ws t d k := by
  unfold belK
  rw [valsTo, h]
  simp
theorem belK_six {ws t : List Int} {d : Int} (h : ws[t.length]? = some d) : belK ws t d 6 = extT ws t := (extT_step h).symm
theorem ext_false {c : Con} {ws t : List Int} {d : Int} {k : Nat} (h : ws[t.length]? = some d) (hk : k < 6) (hb : hasB d k = true) (he : (extT ws (t ++ [(k : Int)])).all (satF c) = false) : (extT ws t).all (satF c) = false := by
  refine Bool.eq_false_iff.2 fun h2 => ?_
  rw [Bool.eq_false_iff] at he
  refine he (List.all_eq_true.2 fun x hx => List.all_eq_true.1 h2 x ?_)
  rw [extT_step h]
  exact List.mem_flatMap.2 ⟨k, valsTo_has (by omega) (by omega) hb, hx⟩
theorem word_mem {vars ds : List Int} {i : Nat} {v d : Int} (hv : vars[i]? = some v) (hd : ds[v.toNat]? = some d) : (wordF vars ds)[i]? = some d := by
  rw [wordF_at hv, gat_eq hd]
theorem take_snocE {xs : List Int} {cs : Array Value} {v : Int} (h : ∀ (j : Nat) x, xs[j]? = some x → cs[j]? = some (.int .i64 x)) (hl : xs.length < cs.size) : ∀ (j : Nat) x, (xs ++ [v])[j]? = some x → (cs.setIfInBounds xs.length (.int .i64 v))[j]? = some (.int .i64 x) := by
  intro j x hj
  rcases Nat.lt_or_ge j xs.length with hlt | hge
  · rw [Array.getElem?_setIfInBounds_ne (by omega)]
    rw [List.getElem?_append_left hlt] at hj
    exact h j x hj
  · rw [List.getElem?_append_right hge] at hj
    have hj0 : j = xs.length := by
      rcases Nat.lt_or_ge (j - xs.length) 1 with h4 | h4
      · omega
      · rw [List.getElem?_eq_none (by simpa using h4)] at hj; cases hj
    subst hj0
    rw [Nat.sub_self] at hj
    simp at hj
    subst hj
    rw [Array.getElem?_setIfInBounds_self_of_lt (by omega)]
/-- t stands at the front of the cells. -/
def Front (m : Nat) (W : World) (g : Nat) (t : List Int) : Prop := ∃ cs : Array Value, cs.size = m ∧ TBlk 3 W g cs ∧ ∀ (j : Nat) x, t[j]? = some x → cs[j]? = some (.int .i64 x)
theorem Front.on {m g : Nat} {W W' : World} {t : List Int} (h : Front m W g t) (hb : Below W.heap.size W W') : Front m W' g t := by
  obtain ⟨cs, h1, h2, h3⟩ := h
  exact ⟨cs, h1, h2.below_ hb h2.lt, h3⟩
theorem Front.push {m g : Nat} {W : World} {t : List Int} (h : Front m W g t) (hl : t.length < m) (v : Int) : Front m (W.setCell ⟨g, t.length, none⟩ (.int .i64 v)) g (t ++ [v]) := by
  obtain ⟨cs, h1, h2, h3⟩ := h
  exact ⟨_, by rw [Array.size_setIfInBounds, h1], h2.store _ _, take_snocE h3 (by omega)⟩
theorem Front.pop {m g : Nat} {W : World} {t : List Int} {v : Int} (h : Front m W g (t ++ [v])) : Front m W g t := by
  obtain ⟨cs, h1, h2, h3⟩ := h
  refine ⟨cs, h1, h2, fun j x hj => h3 j x ?_⟩
  have hlt : j < t.length := by
    rcases Nat.lt_or_ge j t.length with h4 | h4
    · exact h4
    · rw [List.getElem?_eq_none h4] at hj; cases hj
  rw [List.getElem?_append_left hlt]; exact hj
theorem Front.intR {m g : Nat} {W : World} {t : List Int} (h : Front m W g t) (hl : t.length = m) (hm : m ≤ 4) : IntR W W.heap.size (some ⟨g, 0, none⟩) m t := by
  obtain ⟨cs, h1, h2, h3⟩ := h
  exact intR_blk h2 h3 hl hm
theorem Front.frozen {m g : Nat} {W : World} {t : List Int} (h : Front m W g t) (j : Nat) : W.frozen? ⟨g, j, none⟩ = false := by
  obtain ⟨cs, h1, h2, h3⟩ := h
  exact h2.frozen j
theorem Front.cell {m g j : Nat} {W : World} {t : List Int} (h : Front m W g t) (hj : j < m) : ∃ u, W.cell? ⟨g, j, none⟩ = some u := by
  obtain ⟨cs, h1, h2, h3⟩ := h
  exact ⟨_, h2.at_ j (Array.getElem?_eq_getElem (by omega))⟩
theorem make_blk1 {P : Program} (t e : TypeId) (i : TypeInfo) (z : Value) (ht : P.underlying t = some (.slice e)) (hi : P.info? e = some i) (hz : i.zero = some z) (hs : i.size = 1) (h1 : z.cells = #[z]) (n : Nat) (hb : i.bytes * n ≤ 281474976710656) (h63 : n ≤ maxLen) :
    ∃ Z : Array Value, Z.toList = List.replicate n z ∧ ∀ W : World, Sem.run P (Instr.makeSlice t (.int .i64 (n : Int)) (.int .i64 (n : Int))) W = .ok (.slice (some ⟨W.heap.size, 0, none⟩) n n) (W.alloc (.cells Z e)) := by
  refine ⟨madeCells z.cells (n * i.size), ?_, fun W => ?_⟩
  · rw [hs, Nat.mul_one, h1]; exact toList_madeCells_one _ _
  · have h := run_make (P := P) W t e i z ht hi hz .i64 .i64 (n : Int) (n : Int) (Int.natCast_nonneg _) (Int.le_refl _) (by rw [← Int.natCast_mul]; exact Int.ofNat_le.2 hb) (by unfold maxLen at h63; omega)
    simpa using h
end Go.Proofs.Ytejfnkbdmlijbaa
/- Numbers as cells. No program in sight. -/
namespace Go.Proofs.Ytejfnkbdmlijbaa
set_option linter.unusedVariables false

/-- numbers as cells. -/
def ints (xs : List Int) : Array Value := (xs.map (.int .i64)).toArray
theorem ints_at {xs : List Int} {k : Nat} {x : Int} (h : xs[k]? = some x) : (ints xs)[k]? = some (.int .i64 x) := by unfold ints; simp [h]
theorem ints_set (xs : List Int) (k : Nat) (x : Int) : (ints xs).setIfInBounds k (.int .i64 x) = ints (xs.set k x) := by
  unfold ints
  rw [List.setIfInBounds_toArray, List.map_set]
theorem ints_zero {Z : Array Value} {m : Nat} (h : Z.toList = List.replicate m (.int .i64 0)) : Z = ints (List.replicate m 0) := by
  unfold ints
  rw [List.map_replicate, ← h]
end Go.Proofs.Ytejfnkbdmlijbaa
/- impl's filter. -/
namespace Go.Proofs.Ytejfnkbdmlijbaa
open Go.ChangeShapes Go.WideShapes Go.ChangeAt Go.RowKit
open Go.Shelf
set_option linter.unusedVariables false
set_option maxRecDepth 100000
attribute [local go_sem] Oper.semAt_some

/-- Numbers in memory as what an append takes. -/
theorem IntR.srcF {w : World} {B n c : Nat} {A : Option Addr} {xs : List Int} (h : IntR w B A n xs) (h0 : 0 < n) : Src w 1 A n c (xs.map (.int .i64)) := by
  obtain ⟨h1, -, h2⟩ := h
  obtain ⟨b, o, rfl, hb, hc⟩ := h2 h0
  refine .inr ⟨_, rfl, by rw [List.length_map, h1]; omega, fun j u hj => ?_⟩
  rw [List.getElem?_map] at hj
  cases hx : xs[j]? with
  | none => rw [hx] at hj; cases hj
  | some x =>
    rw [hx] at hj
    obtain ⟨u', hu, he⟩ := hc j x hx
    simp only [Option.map_some, Option.some.injEq] at hj
    rw [← hj, Addr.add_lit]
    rw [hu, he]
set_option maxHeartbeats 4000000 in
theorem scopyRF (A : Option Addr) (n c : Nat) (xs : List Int) (w : World) (h : IntR w w.heap.size A n xs) (h0 : 0 < n) (hn : n ≤ 1048576) :
    Calls Try.prog 86 #[.slice A n c] w fun e w' => ∃ v', e = .returned v' ∧ OwnI 3 w' w.heap.size v' xs ∧ Below w.heap.size w w' := by
  obtain ⟨i0, hi0, hz0, hz1, hz2⟩ := info_parts info_int
  have hl := Lib.hid h.len
  have ol : (w.alloc (.cells #[] 3)).ownsRow w.heap.size 3 1 (.slice (some ⟨w.heap.size, 0, none⟩) 0 0) 0 [] := World.ownsRow_lit w #[] 0 (Nat.le_refl _) (by decide) rfl
  have hs : Src (w.alloc (.cells #[] 3)) 1 A n c (xs.map (.int .i64)) := (IntR.on h (b_alloc w (.cells #[] 3))).srcF h0
  clear h
  go_enter Try.func86, Try.ntmps86
  go_wp2_with (at_builtin; refine wpList_append_any rfl _ _ 23 rfl w.heap.size 3 i0 _ 1 8 Try.underlying23 hi0 hz0 hz1 hz2 rfl (by decide) (.slice (some ⟨w.heap.size, 0, none⟩) 0 0) _ _ rfl ol _ _ _ _ rfl hs (by simp [Value.oneCell']) (by unfold maxLen; omega) (by omega) (by rw [size_alloc_]; omega) ?_; intro v1 w1 ho1 hb1 _ _)
  have ho2 : OwnI 3 w1 w.heap.size v1 xs := ⟨by rw [hl.out]; simpa using ho1, by rw [hl.out]; omega⟩
  go_ret
  exact ⟨v1, rfl, ho2, (b_alloc _ _).trans hb1⟩
set_option maxHeartbeats 4000000 in
theorem cloneRF (A : Option Addr) (n c : Nat) (xs : List Int) (w : World) (h : IntR w w.heap.size A n xs) (h0 : 0 < n) (hn : n ≤ 1048576) :
    Calls Try.prog 123 #[.slice A n c] w fun e w' => ∃ v', e = .returned v' ∧ OwnI 3 w' w.heap.size v' xs ∧ Below w.heap.size w w' := by
  obtain ⟨i0, hi0, hz0, hz1, hz2⟩ := info_parts info_int
  have hl := Lib.hid h.len
  have ol : (w.alloc (.cells #[] 3)).ownsRow w.heap.size 3 1 (.slice (some ⟨w.heap.size, 0, none⟩) 0 0) 0 [] := World.ownsRow_lit w #[] 0 (Nat.le_refl _) (by decide) rfl
  have hs : Src (w.alloc (.cells #[] 3)) 1 A n c (xs.map (.int .i64)) := (IntR.on h (b_alloc w (.cells #[] 3))).srcF h0
  obtain ⟨b, o, rfl, -⟩ := h.2.2 h0
  clear h
  have q22 : ∀ (w : World) (a : Option Addr) (n c n' c' : Nat), (binOp .eql 23 (.slice a n c) (.slice none n' c')).run Try.prog w = .ok (.bool a.isNone) w := fun w a n c n' c' => Lib.run_eql_slice_nil w _ _ a n c n' c' Try.underlying23
  have u22 : ∀ w, Sem.run Try.prog (underlying 23) w = .ok (TypeDesc.slice 3) w := run_underlying Try.underlying23
  go_enter Try.func123, Try.ntmps123
  go_wp2_with (at_builtin; refine wpList_append_any rfl _ _ 23 rfl w.heap.size 3 i0 _ 1 8 Try.underlying23 hi0 hz0 hz1 hz2 rfl (by decide) (.slice (some ⟨w.heap.size, 0, none⟩) 0 0) _ _ rfl ol _ _ _ _ rfl hs (by simp [Value.oneCell']) (by unfold maxLen; omega) (by omega) (by rw [size_alloc_]; omega) ?_; intro v1 w1 ho1 hb1 _ _)
  have ho2 : OwnI 3 w1 w.heap.size v1 xs := ⟨by rw [hl.out]; simpa using ho1, by rw [hl.out]; omega⟩
  go_ret
  exact ⟨v1, rfl, ho2, (b_alloc _ _).trans hb1⟩
set_option maxHeartbeats 4000000 in
theorem icopiedRF (A : Option Addr) (n c : Nat) (xs : List Int) (w : World) (h : IntR w w.heap.size A n xs) (h0 : 0 < n) (hn : n ≤ 1048576) :
    Calls Try.prog 93 #[.slice A n c] w fun e w' => ∃ v', e = .returned v' ∧ HoldR w' w.heap.size 3 1 v' n (xs.map (.int .i64)) ∧ Below w.heap.size w w' := by
  have hl := Lib.hid h.len
  have H := Lib.hid h
  clear h
  go_enter Try.func93, Try.ntmps93
  go_wp2_with fail
  refine (cloneRF _ _ _ xs _ H.out h0 hn).mono ?_
  rintro e w1 ⟨v, rfl, ho, hb⟩
  obtain ⟨A1, c1, rfl, -⟩ := IntR.of_own ho.1 ho.2
  have hh := HoldR.of_own ho.1
  rw [hl.out] at hh
  have HH := Lib.hid hh
  have hl2 := hl.out
  rw [hl2]
  clear hh ho hl2
  go_wp2_with fail
  refine (clipInt _ _ _ _ _ _ HH.out).mono ?_
  rintro e w2 ⟨rfl, rfl⟩
  go_wp2_with fail
  go_ret
  exact ⟨_, rfl, HH.out.clip, hb⟩
theorem updTo_at2 {acc t : List Int} {k : Nat} {v : Int} (hl : acc.length = t.length) (hv : t[k]? = some v) : ∃ a, acc[k]? = some a ∧ (updTo acc t k)[k]? = some a := by
  have hk : k < t.length := by
    rcases Nat.lt_or_ge k t.length with h | h
    · exact h
    · rw [List.getElem?_eq_none h] at hv; cases hv
  exact ⟨_, List.getElem?_eq_getElem (by omega), updTo_at hl (List.getElem?_eq_getElem (by omega))⟩
theorem HoldR.put_ {w : World} {base n size l : Nat} {e : TypeId} {v : Value} {xs : List Value} {o o' : Obj} (h : HoldR w base e size v n xs) (hl : w.heap[l]? = some o) (ho : o.isCells = false) : HoldR (w.putObj l o') base e size v n xs :=
  ⟨h.1, h.2.imp id fun ⟨g, cap, cur, h1, h2, h3, r⟩ => ⟨g, cap, cur, h1, h2, TBlk.put_ (t := e) h3 hl ho, r⟩⟩
theorem putTo_succ {ds vars sup : List Int} {k v : Nat} {a : Int} (hv : vars[k]? = some (v : Int)) (ha : sup[k]? = some a) : putTo ds vars sup (k + 1) = (putTo ds vars sup k).set v a := by
  rw [putTo, gat_eq hv, gat_eq ha, Int.toNat_natCast]
theorem filF_len (c : Con) (ds : List Int) : (filF c ds).length = ds.length := putTo_len _ _ _ _
theorem wrap_pow6 : ∀ a : Fin 6, IntKind.i64.wrap (2 ^ (a.val : Int).toNat) = 2 ^ (a.val : Int).toNat := by decide +kernel
theorem wrap_pow {v : Int} (h0 : 0 ≤ v) (h1 : v ≤ 5) : IntKind.i64.wrap (2 ^ v.toNat) = 2 ^ v.toNat := by
  obtain ⟨a, rfl⟩ := fin6 h0 h1
  exact wrap_pow6 a
set_option maxHeartbeats 8000000 in
theorem ifilter (us : List Value) (c : Con) (A : Option Addr) (n d : Nat) (ds : List Int) (w : World) (h : ConR w w.heap.size us c) (hx : IntR w w.heap.size A n ds) (hvc : vconF c n = true) (hn1 : 1 ≤ n) (hl4 : n ≤ 4) (hdoms : Doms ds) :
    Calls Try.prog 61 #[.agg us.toArray, .slice A n d] w fun e w' => ∃ v', e = .returned v' ∧ HoldR w' w.heap.size 3 1 v' n ((filF c ds).map (.int .i64)) ∧ Below w.heap.size w w' := by
  obtain ⟨i0, hi0, hz0, hz1, hz2⟩ := info_parts info_int
  have hl := Lib.hid hx.len
  obtain ⟨va, aa, ra, cv, ca, cr, eus, hvr, -⟩ := id h
  have hvp := Lib.hid (vcon_vars hvc hl4)
  obtain ⟨m, hm⟩ : ∃ m, c.vars.length = m := ⟨_, rfl⟩
  have hm1 : 1 ≤ m ∧ m ≤ 4 := by have := hvp.out.1; omega
  rw [hm] at eus hvr
  obtain ⟨x0, hx0⟩ : ∃ x0 : Value, x0 = .int .i64 c.kind := ⟨_, rfl⟩
  obtain ⟨x2, hx2⟩ : ∃ x0 : Value, x0 = .slice aa c.args.length ca := ⟨_, rfl⟩
  obtain ⟨x3, hx3⟩ : ∃ x0 : Value, x0 = .int .i64 c.bound := ⟨_, rfl⟩
  obtain ⟨x4, hx4⟩ : ∃ x0 : Value, x0 = .slice ra c.rows.length cr := ⟨_, rfl⟩
  obtain rfl : us = [x0, .slice va m cv, x2, x3, x4] := by rw [eus, hx0, hx2, hx3, hx4]
  obtain ⟨Z, hZ, hmk⟩ := make_blk1 (P := Try.prog) 23 3 i0 _ Try.underlying23 hi0 hz0 hz1 rfl m (by rw [hz2]; omega) (by unfold maxLen; omega)
  obtain rfl : Z = ints (List.replicate m 0) := ints_zero hZ
  obtain ⟨wa, hwa⟩ : ∃ wa, wa = ((w.alloc (.cells #[x0, .slice va m cv, x2, x3, x4] 35)).alloc (.cells (ints (List.replicate m 0)) 3)).alloc (.cells #[.slice (some ⟨w.heap.size + 1, 0, none⟩) m m] 23) := ⟨_, rfl⟩
  have hb0 : Below w.heap.size w wa := by rw [hwa]; exact ((b_alloc _ _).alloc (by simp) _).alloc (by simp; omega) _
  have hsz : wa.heap.size = w.heap.size + 3 := by rw [hwa]; simp
  have ha : CBlk wa w.heap.size x0 (.slice va m cv) x2 x3 x4 := by rw [hwa]; exact ((CBlk.new w _ _ _ _ _).below (b_alloc _ _) (by simp)).below (b_alloc _ _) (by simp; omega)
  have hr : TBlk 3 wa (w.heap.size + 1) (ints (supV c m [])) := by rw [hwa]; exact (TBlk.newAt (by simp)).alloc_ _
  have hq : TBlk 23 wa (w.heap.size + 2) #[.slice (some ⟨w.heap.size + 1, 0, none⟩) m m] := by rw [hwa]; exact TBlk.newAt (by simp)
  have HC0 := Lib.hid h
  have HV0 := Lib.hid hvr
  have HX0 := Lib.hid hx
  have H := Lib.hid (ConR.on h hb0)
  have GX := Lib.hid (IntR.on hx hb0)
  have HA := Lib.hid ha
  have HR := Lib.hid hr
  have HL := Lib.hid hq
  have HM0 := Lib.hid hm
  have HV := Lib.hid hvc
  have HDM := Lib.hid hdoms
  obtain ⟨a0, a1, a2, a3, a4⟩ := ha.cells
  clear h hx hvr hx0 hx2 hx3 hx4 eus ha hr hq hZ hm hvc hdoms
  refine (callsIn_wide (n := 5)).1 ?_
  refine callsIn_of_wp_marks Try.func61 rfl trivial ?_ rfl
  refine wpIn_wide.2 ?_
  simp only [Try.ntmps61, List.size_toArray, List.length_cons, List.length_nil, Nat.reduceAdd, Nat.reduceSub, Array.replicate_succ, Array.replicate_zero, List.push_toArray, List.append_toArray, List.nil_append, List.cons_append]
  go_wp2_with fail
  rw [← hwa]
  obtain ⟨gL, hgL⟩ : ∃ gL, w.heap.size + 1 = gL := ⟨_, rfl⟩
  obtain ⟨bL, hbL⟩ : ∃ bL, gL + 1 = bL := ⟨_, rfl⟩
  have hbL2 : w.heap.size + 2 = bL := by omega
  rw [hgL, hbL]
  rw [hbL2, hgL] at HL
  rw [hgL] at HR
  clear hwa
  refine (iword _ c _ _ _ ds _ H.out GX.out hvp.out.2.1 (by have := hvp.out.1; omega)).mono ?_
  rintro e w3 ⟨v, rfl, ho3, hb3⟩
  obtain ⟨ws, hws⟩ : ∃ ws, wordF c.vars ds = ws := ⟨_, rfl⟩
  have hwl : ws.length = m := by rw [← hws, wordF_len]; exact HM0.out
  rw [hws] at ho3
  have ho4 := ho3.1
  rw [hwl] at ho4
  obtain ⟨gv, cc, cur, rfl, hgv, hgb, hgc⟩ := own_blk_int ho4 (by omega)
  have HGC := Lib.hid hgc
  have HWS := Lib.hid hws
  have HM := Lib.hid hwl
  have HA3 := Lib.hid (HA.out.below hb3 (by omega))
  have HR3 := Lib.hid (HR.out.below_ hb3 HR.out.lt)
  have HL3 := Lib.hid (HL.out.below_ hb3 HL.out.lt)
  have hs3 := hb3.size
  have HB3 := Lib.hid (hb0.trans (hb3.mono (by omega)))
  clear a0 a1 a2 a3 a4 hb3 H GX HA HR HL ho3 ho4 hws hgc hwl hb0
  go_wp2_with fail
  refine (ituples _ _ _ _).mono ?_
  rintro e w4 ⟨rfl, hw4⟩
  obtain ⟨bD, hbD⟩ : ∃ bD, w3.heap.size = bD := ⟨_, rfl⟩
  have hd4 : TBlk 23 w4 bD #[.slice (some ⟨gv, 0, none⟩) m cc] := by rw [hw4]; exact TBlk.newAt hbD.symm
  have hg4 : TBlk 3 w4 gv cur := by rw [hw4]; exact hgb.alloc_ _
  have hs4 : w4.heap.size = bD + 1 := by rw [hw4]; simp [hbD]
  have hb34 : Below w3.heap.size w3 w4 := by rw [hw4]; exact b_alloc _ _
  have HA4 := Lib.hid (HA3.out.below hb34 (by omega))
  have HR4 := Lib.hid (HR3.out.below_ hb34 HR3.out.lt)
  have HL4 := Lib.hid (HL3.out.below_ hb34 HL3.out.lt)
  have HB4 := Lib.hid (HB3.out.trans (hb34.mono (by omega)))
  rw [hbD]
  rw [hbD] at hs3
  have HG4 := Lib.hid hg4
  have HD4 := Lib.hid hd4
  have HSZ := Lib.hid (show w.heap.size + 1 = gL ∧ gL + 1 = bL ∧ bL < gv ∧ gv < bD ∧ bL < bD from ⟨hgL, hbL, by omega, by have := hg4.lt; have := hg4.ne hd4 (by decide); omega, by omega⟩)
  clear hw4 hb34 HA3 HR3 HB3 HL3 hbD hgb hg4 hd4 hsz hs3 hgv hgL hbL hbL2
  go_wp2_with fail
  refine (wpIn_wide (n := 5)).1 ?_
  refine wp_range_direct (gf := 130) (lb := #[.pointer (some ⟨bD, 0, none⟩)]) rfl (enters_of Try.func130 (by kernel_rfl) rfl) ?_
  intro r hr1 hr2 hr3 hr4 hr5 hr6
  obtain ⟨B, hB⟩ : ∃ B, w4.heap.size = B := ⟨_, rfl⟩
  rw [hB]
  have HBD := Lib.hid (show B = bD + 1 from by rw [← hB]; exact hs4)
  let J : List (List Int) → World → Prop := fun vis W => Rdy B r W ∧ Below w.heap.size w W ∧ CBlk W w.heap.size x0 (.slice va m cv) x2 x3 x4 ∧ TBlk 23 W bL #[.slice (some ⟨gL, 0, none⟩) m m] ∧ TBlk 23 W bD #[.slice (some ⟨gv, 0, none⟩) m cc] ∧ TBlk 3 W gv cur ∧ TBlk 3 W gL (ints (supV c m vis)) ∧ OkT m vis
  let Jx : World → Prop := fun W => False
  obtain ⟨W5, hW5⟩ : ∃ W5, (w4.alloc (.deferred (some []))).alloc (.loop r) = W5 := ⟨_, rfl⟩
  have hS5 : W5.heap.size = B + 2 := by rw [← hW5]; simp; omega
  have hJ0 : J [] W5 := by
    rw [← hW5]
    refine ⟨⟨?_, ?_⟩, (HB4.out.alloc (by have := HSZ.out; omega) _).alloc (by have := HSZ.out; simp; omega) _, (HA4.out.below (b_alloc _ _) HA4.out.lt).below (b_alloc _ _) (by have := HA4.out.lt; simp; omega), (HL4.out.alloc_ _).alloc_ _, (HD4.out.alloc_ _).alloc_ _, (HG4.out.alloc_ _).alloc_ _, (HR4.out.alloc_ _).alloc_ _, fun t ht => by simp at ht⟩
    · have := World.alloc_heap_new (w4.alloc (.deferred (some []))) (.loop r)
      rwa [World.size_alloc, hB] at this
    · have := World.alloc_heap_new w4 (.deferred (some []))
      rw [hB] at this
      exact ((b_alloc _ _).block _ (by rw [size_alloc_]; omega)).trans this
  have hws5 : Doms ws := by rw [← HWS.out]; exact word_doms (by rw [hl.out]; exact hvp.out.2.1) HDM.out
  rw [hW5]
  refine ((callsIn_wide (n := 5 - 1)).2 (tuples1 bD m (B + 1) gv 0 cc ws hws5 HM.out (by omega) W5 J Jx ?hJb ?hJd ?hY hJ0)).mono ?fin
  case hJb =>
    rintro vis W1 W' ⟨j1, j2, j3, j4, j5, j6, j7, j8⟩ hb
    rw [hS5] at hb
    have := HSZ.out
    have := HBD.out
    exact ⟨j1.below (by omega) hb, j2.trans (hb.mono (by omega)), j3.below hb (by omega), j4.below_ hb (by omega), j5.below_ hb (by omega), j6.below_ hb (by omega), j7.below_ hb (by omega), j8⟩
  case hJd =>
    rintro vis W1 ⟨j1, j2, j3, j4, j5, j6, j7, j8⟩
    exact ⟨j5.at_ 0 rfl, fun j x hj => by rw [Nat.zero_add]; exact j6.at_ j (HGC.out j x hj)⟩
  case hY =>
    rintro mm g vis t W1 ⟨j1, j2, j3, j4, j5, j6, j7, j8⟩ ht hg ⟨cs, hcs, hcb, hct⟩
    rw [hS5] at hg ⊢
    have htm := sat_tup (c := c) (ds := ds) HV.out hl4 (by rw [HWS.out]; exact ht)
    refine yield_direct (a1 := ?a1) j1 hr1 hr2 hr3 hr4 hr5 hr6 rfl ?hassign ?hbody
    case hassign =>
      intro K hK
      gi_wp2
      exact hK
    case hbody =>
      obtain ⟨W2, hW2⟩ : ∃ W2 : World, W1.putObj (B + 1) (.loop { r with state := .busy }) = W2 := ⟨_, rfl⟩
      have hBs : Bsy B r W2 := by rw [← hW2]; exact j1.busy
      have q2 : Below w.heap.size w W2 := by rw [← hW2]; exact j2.trans (put_below _ j1.1 (by have := HSZ.out; have := HBD.out; omega))
      have q3 : CBlk W2 w.heap.size x0 (.slice va m cv) x2 x3 x4 := by rw [← hW2]; exact (World.putObj_heap_other (by have := HSZ.out; have := HBD.out; omega)).trans j3
      have q4 : TBlk 23 W2 bL #[.slice (some ⟨gL, 0, none⟩) m m] := by rw [← hW2]; exact j4.put_ j1.1 rfl
      have q5 : TBlk 23 W2 bD #[.slice (some ⟨gv, 0, none⟩) m cc] := by rw [← hW2]; exact j5.put_ j1.1 rfl
      have q6 : TBlk 3 W2 gv cur := by rw [← hW2]; exact j6.put_ j1.1 rfl
      have q7 : TBlk 3 W2 gL (ints (supV c m vis)) := by rw [← hW2]; exact j7.put_ j1.1 rfl
      have qg : TBlk 3 W2 g cs := by rw [← hW2]; exact hcb.put_ j1.1 rfl
      have qS : W2.heap.size = W1.heap.size := by rw [← hW2, put_size]
      have qH : ∀ k, k ≠ B + 1 → W2.heap[k]? = W1.heap[k]? := fun k hk => by rw [← hW2]; exact World.putObj_heap_other hk
      have hcon : ConR W2 W2.heap.size [x0, .slice va m cv, x2, x3, x4] c := ConR.on HC0.out q2
      have hint : IntR W2 W2.heap.size (some ⟨g, 0, none⟩) m t := intR_blk qg hct (by rw [htm.2]; exact HM0.out) hm1.2
      have HQ := Lib.hid (And.intro q2 (And.intro q3 (And.intro q4 (And.intro q5 (And.intro q6 (And.intro q7 (And.intro qg (And.intro qS (And.intro qH hBs)))))))))
      have HJ8 := Lib.hid j8
      have HTM := Lib.hid (And.intro htm (And.intro ht hct))
      have HCON := Lib.hid hcon
      have HINT := Lib.hid hint
      have HHB := Lib.hid (show B + 1 < W2.heap.size from by have := (Array.getElem?_eq_some_iff.1 hBs.1).1; exact this)
      obtain ⟨k0, k1, k2, k3, k4⟩ := q3.cells
      rw [hW2]
      clear q2 q3 q4 q5 q6 q7 qg qS qH j1 j2 j3 j4 j5 j6 j7 j8 hcb hct hcs hW2 hcon hint hJ0 hW5 hr1 hr2 hr3 hr4 hr5 hr6 htm hBs hws5
      gi_wp2
      refine ⟨trivial, fun h => by simp [Fence.wide] at h, CallsIn.inRound _ (((callsIn_wide (n := mm - 1)).2 (isatisfied _ c _ _ _ t _ HCON.out HINT.out (Nat.le_refl _) HTM.out.1.1)).mono ?_)⟩
      rintro e W3 ⟨rfl, hb3⟩
      have HQ3 : Hid (Below w.heap.size w W3 ∧ CBlk W3 w.heap.size x0 (.slice va m cv) x2 x3 x4 ∧ TBlk 23 W3 bL #[.slice (some ⟨gL, 0, none⟩) m m] ∧ TBlk 23 W3 bD #[.slice (some ⟨gv, 0, none⟩) m cc] ∧ TBlk 3 W3 gv cur ∧ TBlk 3 W3 gL (ints (supV c m vis)) ∧ TBlk 3 W3 g cs ∧ W1.heap.size ≤ W3.heap.size ∧ (∀ k, k ≠ B + 1 → k < W1.heap.size → W3.heap[k]? = W1.heap[k]?) ∧ Bsy B r W3) := by
        obtain ⟨q2, q3, q4, q5, q6, q7, qg, qS, qH, hBs⟩ := HQ.out
        have hs2 := q2.size
        exact Lib.hid ⟨q2.trans (hb3.mono hs2), q3.below hb3 q3.lt, q4.below_ hb3 q4.lt, q5.below_ hb3 q5.lt, q6.below_ hb3 q6.lt, q7.below_ hb3 q7.lt, qg.below_ hb3 qg.lt, by have := hb3.size; omega, fun k h1 h2 => (hb3.block k (by omega)).trans (qH k h1), ⟨(hb3.block _ HHB.out).trans hBs.1, (hb3.block _ (by have := HHB.out; omega)).trans hBs.2⟩⟩
      clear k0 k1 k2 k3 k4 hb3 HQ HCON HINT HHB
      have hok2 : OkT m (vis ++ [t]) := HJ8.out.snoc (by have := HTM.out.1.2; have := HM0.out; omega) (fun v hv => by
        obtain ⟨h1, h2⟩ := mem_allT.1 HTM.out.2.1
        obtain ⟨j, hj, e⟩ := List.getElem_of_mem hv
        have := h2 j (ws[j]'(by omega)) v (List.getElem?_eq_getElem _) (by rw [List.getElem?_eq_getElem hj, e])
        exact ⟨this.1, this.2.1⟩)
      have HOK2 := Lib.hid hok2
      clear hok2
      cases hsat : satF c t
      · have HST := Lib.hid (show supV c m (vis ++ [t]) = supV c m vis by rw [supV_snoc]; unfold stepV; rw [hsat]; rfl)
        clear hsat
        gi_wp2
        obtain ⟨q2, q3, q4, q5, q6, q7, qg, qS, qH, hBs⟩ := HQ3.out
        have hz1 := HSZ.out
        have hz2 := HBD.out
        exact ⟨hBs, .inl ⟨rfl, ⟨hBs.ready, q2.trans (put_below _ hBs.1 (by omega)), (World.putObj_heap_other (by omega)).trans q3, q4.put_ hBs.1 rfl, q5.put_ hBs.1 rfl, q6.put_ hBs.1 rfl, by rw [HST.out]; exact q7.put_ hBs.1 rfl, HOK2.out⟩, by rw [put_size]; exact qS, fun k h1 h2 => (World.putObj_heap_other (by omega)).trans (qH k (by omega) h2)⟩⟩
      · have HST := Lib.hid (show supV c m (vis ++ [t]) = List.zipWith orB (supV c m vis) t by rw [supV_snoc]; unfold stepV; rw [hsat]; rfl)
        clear hsat
        gi_wp2
        let QI : Nat → World → Prop := fun q W => Below w.heap.size w W ∧ CBlk W w.heap.size x0 (.slice va m cv) x2 x3 x4 ∧ TBlk 23 W bL #[.slice (some ⟨gL, 0, none⟩) m m] ∧ TBlk 23 W bD #[.slice (some ⟨gv, 0, none⟩) m cc] ∧ TBlk 3 W gv cur ∧ TBlk 3 W gL (ints (updTo (supV c m vis) t q)) ∧ TBlk 3 W g cs ∧ W1.heap.size ≤ W.heap.size ∧ (∀ k, B + 2 ≤ k → k < W1.heap.size → W.heap[k]? = W1.heap[k]?) ∧ Bsy B r W
        have hQ0 : QI 0 W3 := by
          obtain ⟨q2, q3, q4, q5, q6, q7, qg, qS, qH, hBs⟩ := HQ3.out
          exact ⟨q2, q3, q4, q5, q6, by rw [updTo_zero]; exact q7, qg, qS, fun k h1 h2 => qH k (by omega) h2, hBs⟩
        have hsupl : (supV c m vis).length = t.length := by rw [(supV_ok (c := c) HJ8.out).2, HTM.out.1.2]; exact HM0.out.symm
        have htl : t.length = m := by rw [HTM.out.1.2]; exact HM0.out
        have HSL := Lib.hid hsupl
        have HTL := Lib.hid htl
        clear HQ3 hsupl htl
        gi_loopw [26] (fun t26 wr => ∃ q : Nat, q ≤ m ∧ t26 = .int .i64 q ∧ Hid (QI q wr)) (fun t26 _ => m - (intOf t26).toNat)
        case atStart => exact ⟨0, by omega, rfl, hQ0⟩
        case round =>
          obtain ⟨q, hq, rfl, hQ⟩ := hrel
          clear hQ0
          by_cases hlt : q < m
          · obtain ⟨q2, q3, q4, q5, q6, q7, qg, qS, qH, hBs⟩ := hQ.out
            obtain ⟨v, hv⟩ : ∃ v, t[q]? = some v := ⟨_, List.getElem?_eq_getElem (by have := HTL.out; omega)⟩
            obtain ⟨a, ha, hau⟩ := updTo_at2 HSL.out hv
            have hv5 : 0 ≤ v ∧ v ≤ 5 := (HOK2.out t (by simp)).2 v (List.mem_of_getElem? hv)
            have ha63 := (supV_ok (c := c) HJ8.out).1 a (List.mem_of_getElem? ha)
            obtain ⟨o1, o2, o3, -, -⟩ := orB_in ha63.1 ha63.2 hv5.1 hv5.2
            rw [← wrap_pow hv5.1 hv5.2] at o3
            have e1 := qg.at_ q (HTM.out.2.2 q v hv)
            have e2 : (wr.drew).cell? ⟨bL, 0, none⟩ = some (.slice (some ⟨gL, 0, none⟩) m m) := (q4.drewN_ 1).at_ 0 rfl
            have e3 : (wr.drew).cell? ⟨gL, q, none⟩ = some (.int .i64 a) := (q7.drewN_ 1).at_ q (ints_at hau)
            have e4 : (wr.drew).frozen? ⟨gL, q, none⟩ = false := (q7.drewN_ 1).frozen q
            have HVQ := Lib.hid (And.intro hv (And.intro ha (And.intro hau hv5)))
            clear q2 q3 q4 q5 q6 q7 qg qS qH hBs hv ha hau
            gi_wp2
            refine wpIn_region_tail_round 8 (by kernel_rfl) (by kernel_rfl) (by rintro ⟨_, _, h⟩; exact h) (by kernel_rfl) ?_
            simp only [List.take_succ_cons, List.take_zero, List.drop_succ_cons, List.drop_zero]
            repeat still_step
            try refine wpStill_nil ?_
            try simp only [o3]
            go_wp2_with fail
            obtain ⟨hv, ha, hau, -⟩ := HVQ.out
            have HQN : Hid (QI (q + 1) ((wr.drew).setCell ⟨gL, q, none⟩ (.int .i64 (orB a v)))) := by
              obtain ⟨q2, q3, q4, q5, q6, q7, qg, qS, qH, hBs⟩ := hQ.out
              have hz1 := HSZ.out
              have hz2 := HBD.out
              have hgg : gL < g := by omega
              have hk7 : KeepsFrom B wr ((wr.drew).setCell ⟨gL, q, none⟩ (.int .i64 (orB a v))) := ((KeepsOthers.drew _).trans (KeepsOthers.setCell _ _ _)).from B
              refine Lib.hid ⟨(below_drewN q2 1).setCell (p := ⟨gL, q, none⟩) (show w.heap.size ≤ gL by omega) _, CBlk.far (g := gL) (show CBlk (wr.drew) w.heap.size x0 (.slice va m cv) x2 x3 x4 from q3) (by omega), (q4.drewN_ 1).far (by omega), (q5.drewN_ 1).far (by omega), (q6.drewN_ 1).far (by omega), ?_, (qg.drewN_ 1).far (by omega), by rw [World.size_setCell]; exact qS, fun k h1 h2 => (Below.heap_setCell _ ⟨gL, q, none⟩ _ k (by show k ≠ gL; omega)).trans (qH k h1 h2), hBs.kept hk7⟩
              have := (q7.drewN_ 1).store q (.int .i64 (orB a v))
              rw [ints_set, updTo_succ HSL.out ha hv] at this
              exact this
            clear hv ha hau hQ HVQ o3 e1 e2 e3 e4
            gi_wp2
            go_roundw
            case rel => exact ⟨q + 1, by omega, by go_num, HQN.out⟩
            case measure => simp [intOf]; omega
          · obtain rfl : q = m := by omega
            gi_wp2
            obtain ⟨q2, q3, q4, q5, q6, q7, qg, qS, qH, hBs⟩ := hQ.out
            have hz1 := HSZ.out
            have hz2 := HBD.out
            rw [updTo_done HSL.out (by rw [HSL.out, HTL.out]), ← HST.out] at q7
            exact ⟨hBs, .inl ⟨rfl, ⟨hBs.ready, q2.trans (put_below _ hBs.1 (by omega)), (World.putObj_heap_other (by omega)).trans q3, q4.put_ hBs.1 rfl, q5.put_ hBs.1 rfl, q6.put_ hBs.1 rfl, q7.put_ hBs.1 rfl, HOK2.out⟩, by rw [put_size]; exact qS, fun k h1 h2 => (World.putObj_heap_other (by omega)).trans (qH k h1 h2)⟩⟩
  case fin =>
    rintro e W' ⟨⟨v, rfl⟩, (⟨hRd, j2, j3, j4, j5, j6, j7, j8⟩ | hF)⟩
    · refine ⟨⟨_, rfl⟩, .inl ⟨hRd, ?_⟩⟩
      obtain ⟨W3, hW3⟩ : ∃ W3 : World, W'.putObj (B + 1) (.loop { r with state := .exhausted, pending := none }) = W3 := ⟨_, rfl⟩
      rw [hW3]
      have hz1 := HSZ.out
      have hz2 := HBD.out
      have q2 : Below w.heap.size w W3 := by rw [← hW3]; exact j2.trans (put_below _ hRd.1 (by omega))
      have q3 : CBlk W3 w.heap.size x0 (.slice va m cv) x2 x3 x4 := by rw [← hW3]; exact (World.putObj_heap_other (by omega)).trans j3
      have q4 : TBlk 23 W3 bL #[.slice (some ⟨gL, 0, none⟩) m m] := by rw [← hW3]; exact j4.put_ hRd.1 rfl
      have q7 : TBlk 3 W3 gL (ints (supV c m ((allT ws)))) := by rw [← hW3]; exact j7.put_ hRd.1 rfl
      have hD3 : W3.heap[B]? = some (.deferred (some [])) := by rw [← hW3]; exact (World.putObj_heap_other (by omega)).trans hRd.2
      have hB3 : B < W3.heap.size := (Array.getElem?_eq_some_iff.1 hD3).1
      have HQ := Lib.hid (And.intro q2 (And.intro q3 (And.intro q4 (And.intro q7 (And.intro hD3 hB3)))))
      have HOK := Lib.hid j8
      have GX3 := Lib.hid (IntR.on HX0.out q2)
      clear hz1 hz2 hW3 hRd j2 j3 j4 j5 j6 j7 j8 q2 q3 q4 q7 hD3 hB3 hr1 hr2 hr3 hr4 hr5 hr6 hJ0 hW5 hws5 hB hs4
      dsimp only
      go_wp2_with fail
      refine (icopiedRF _ _ _ ds _ GX3.out (by omega) (by omega)).mono ?_
      rintro e w6 ⟨v6, rfl, hh6, hb6⟩
      obtain ⟨A6, c6, rfl⟩ := hh6.form
      obtain ⟨g6, rfl, hg6, -⟩ := hh6.pos (by omega)
      obtain ⟨sup, hsup⟩ : ∃ sup, supV c m (allT ws) = sup := ⟨_, rfl⟩
      have hsupl : sup.length = m := by rw [← hsup]; exact (supV_ok (c := c) HOK.out).2
      have hfil : filF c ds = putTo ds c.vars sup m := by unfold filF; rw [HM0.out, HWS.out, hsup]
      have HFIL := Lib.hid hfil
      have HSUP := Lib.hid (And.intro hsup hsupl)
      have h60 : HoldR w6 W3.heap.size 3 1 (.slice (some ⟨g6, 0, none⟩) n c6) n ((putTo ds c.vars sup 0).map (.int .i64)) := hh6
      obtain ⟨q2, q3, q4, q7, hD3, hB3⟩ := HQ.out
      have f1 := (q3.below hb6 q3.lt).cells.2.1
      have hz3 : w.heap.size < W3.heap.size := q3.lt
      clear q2 q3 q4 q7 hD3 hB3 hsup hsupl hfil hh6
      go_wp2_with fail
      clear f1
      go_loopw [45] (fun t45 wr => ∃ k : Nat, k ≤ m ∧ t45 = .int .i64 k ∧ Hid (HoldR wr W3.heap.size 3 1 (.slice (some ⟨g6, 0, none⟩) n c6) n ((putTo ds c.vars sup k).map (.int .i64))) ∧ Hid (Below W3.heap.size W3 wr)) (fun t45 _ => m - (intOf t45).toNat)
      case atStart => exact ⟨0, by omega, rfl, h60, hb6⟩
      case round =>
        obtain ⟨k, hk, rfl, hhk, hbk⟩ := hrel
        clear h60 hb6
        by_cases hlt : k < m
        · obtain ⟨q2, q3, q4, q7, hD3, hB3⟩ := HQ.out
          have hsl := HSUP.out.2
          obtain ⟨a, ha⟩ : ∃ a, sup[k]? = some a := ⟨_, List.getElem?_eq_getElem (by omega)⟩
          obtain ⟨vb, vo, v, hva, hvb, hvk, hvc2⟩ := HV0.out.at_ hlt
          obtain ⟨hv0, hvn⟩ := hvp.out.2.1 v (List.mem_of_getElem? hvk)
          obtain ⟨vn, rfl⟩ : ∃ vn : Nat, v = (vn : Int) := ⟨v.toNat, by omega⟩
          have hvn2 : vn < n := by omega
          subst hva
          have e1 : wr.cell? ⟨vb, vo + k, none⟩ = some (.int .i64 vn) := ((hbk.out.cell (p := ⟨vb, _, none⟩) (show vb < W3.heap.size by omega)).trans (q2.cell (p := ⟨vb, _, none⟩) hvb)).trans hvc2
          have e2 : wr.cell? ⟨bL, 0, none⟩ = some (.slice (some ⟨gL, 0, none⟩) m m) := (q4.below_ hbk.out q4.lt).at_ 0 rfl
          have e3 : wr.cell? ⟨gL, k, none⟩ = some (.int .i64 a) := by
            have := q7.below_ hbk.out q7.lt
            rw [HSUP.out.1] at this
            exact this.at_ k (ints_at ha)
          obtain ⟨u, hu⟩ : ∃ u, ((putTo ds c.vars sup k).map (Value.int .i64))[vn]? = some u := ⟨_, List.getElem?_eq_getElem (by rw [List.length_map, putTo_len, hl.out]; exact hvn2)⟩
          have e4 : wr.cell? ⟨g6, vn, none⟩ = some u := by rw [hhk.out.cellAt vn (by omega), hu]
          have e5 : wr.frozen? ⟨g6, vn, none⟩ = false := hhk.out.frozenAt vn
          have hst := hhk.out.stored vn (.int .i64 a)
          rw [← List.map_set, ← putTo_succ hvk ha] at hst
          have HST := Lib.hid hst
          have HBS := Lib.hid (hbk.out.setCell (p := ⟨g6, vn, none⟩) hg6 (.int .i64 a))
          clear q2 q3 q4 q7 hD3 hB3 ha hvk hu hst hv0 hvn hsl
          go_wp2_with fail
          go_roundw
          case rel => exact ⟨k + 1, by omega, by go_num, HST.out, HBS.out⟩
          case measure => simp [intOf]; omega
        · obtain rfl : k = m := by omega
          go_wp2_with fail
          obtain ⟨q2, q3, q4, q7, hD3, hB3⟩ := HQ.out
          have hD4 := (hbk.out.block _ hB3).trans hD3
          refine ⟨by simp, .inl ⟨_, _, rfl, run_takeDeferred hD4, ?_⟩⟩
          refine ⟨_, results_tmp rfl _ _ _, .slice (some ⟨g6, 0, none⟩) n c6, rfl, ?_, ?_⟩
          · rw [HFIL.out]
            exact (hhk.out.base_ (by omega)).put_ hD4 rfl
          · exact (q2.trans (hbk.out.mono (by omega))).trans (put_below _ hD4 (by have := HSZ.out; have := HBD.out; omega))
    · exact hF.elim
/-- what Filter gives. -/
def filtF (c : Con) (ds : List Int) : List Int := if dokF ds && vconF c ds.length then filF c ds else []
theorem filtF_len (c : Con) (ds : List Int) : (filtF c ds).length ≤ 4 := by
  unfold filtF
  split
  · rename_i h
    simp only [Bool.and_eq_true] at h
    rw [filF_len]; exact (dok_parts h.1).2.1
  · simp
set_option maxHeartbeats 4000000 in
theorem iFilter (us : List Value) (c : Con) (A : Option Addr) (n d : Nat) (ds : List Int) (w : World) (h : ConR w w.heap.size us c) (hx : IntR w w.heap.size A n ds) :
    Calls Try.prog 22 #[.agg us.toArray, .slice A n d] w fun e w' => ∃ v', e = .returned v' ∧ HoldR w' w.heap.size 3 1 v' (filtF c ds).length ((filtF c ds).map (.int .i64)) ∧ Below w.heap.size w w' := by
  have hl := Lib.hid hx.len
  obtain ⟨va, aa, ra, cv, ca, cr, rfl, -⟩ := id h
  obtain ⟨wa, hwa⟩ : ∃ wa, wa = w.alloc (.cells #[.int .i64 c.kind, .slice va c.vars.length cv, .slice aa c.args.length ca, .int .i64 c.bound, .slice ra c.rows.length cr] 35) := ⟨_, rfl⟩
  have hb0 : Below w.heap.size w wa := by rw [hwa]; exact b_alloc _ _
  have ha : CBlk wa w.heap.size (.int .i64 c.kind) (.slice va c.vars.length cv) (.slice aa c.args.length ca) (.int .i64 c.bound) (.slice ra c.rows.length cr) := by rw [hwa]; exact CBlk.new w _ _ _ _ _
  have HC0 := Lib.hid h
  have HX0 := Lib.hid hx
  have HA := Lib.hid ha
  obtain ⟨a0, a1, a2, a3, a4⟩ := ha.cells
  clear ha h hx
  go_enter Try.func22, Try.ntmps22
  go_wp2_with fail
  rw [← hwa]
  clear hwa
  refine (domainsOk _ _ _ _ _ (IntR.on HX0.out hb0)).mono ?_
  rintro e w1 ⟨rfl, hb1⟩
  have HB1 := Lib.hid (bgo hb0 hb1)
  have HA1 := Lib.hid (HA.out.below hb1 HA.out.lt)
  obtain ⟨c0, c1, c2, c3, c4⟩ := HA1.out.cells
  clear a0 a1 a2 a3 a4 hb1 hb0 HA
  cases t0 : dokF ds
  · have HE := Lib.hid (show filtF c ds = [] by unfold filtF; rw [t0]; rfl)
    clear t0
    go_wp2_with fail
    go_ret
    exact ⟨_, rfl, by rw [HE.out]; exact HoldR.nil _ _ _ _, HB1.out⟩
  obtain ⟨hl1, hl4, hdoms⟩ := dok_parts t0
  have HDM := Lib.hid hdoms
  rw [hl.out] at hl1 hl4
  have HD := Lib.hid t0
  clear t0 hdoms
  go_wp2_with fail
  refine (iValidConstraint _ c _ _ (ConR.on HC0.out HB1.out)).mono ?_
  rintro e w2 ⟨rfl, hb2⟩
  have hvc : vconstF c (n : Int) = vconF c (n : Int) := by unfold vconstF; rw [inB_mk ⟨by omega, by omega⟩]; rfl
  rw [hvc]
  clear hvc
  have HB2 := Lib.hid (bgo HB1.out hb2)
  have HA2 := Lib.hid (HA1.out.below hb2 HA1.out.lt)
  obtain ⟨d0, d1, d2, d3, d4⟩ := HA2.out.cells
  clear c0 c1 c2 c3 c4 hb2 HB1 HA1
  cases t0 : vconF c (n : Int)
  · have HE := Lib.hid (show filtF c ds = [] by unfold filtF; rw [hl.out, t0]; simp)
    clear t0
    go_wp2_with fail
    go_ret
    exact ⟨_, rfl, by rw [HE.out]; exact HoldR.nil _ _ _ _, HB2.out⟩
  have HE := Lib.hid (show filtF c ds = filF c ds by unfold filtF; rw [hl.out, t0, HD.out]; simp)
  have HV := Lib.hid t0
  clear t0
  go_wp2_with fail
  refine (ifilter _ c _ _ _ ds _ (ConR.on HC0.out HB2.out) (IntR.on HX0.out HB2.out) HV.out hl1 hl4 HDM.out).mono ?_
  rintro e w3 ⟨v', rfl, hh, hb3⟩
  have HH := Lib.hid (And.intro (hh.base_ HB2.out.size) (bgo HB2.out hb3))
  clear hh hb3
  go_wp2_with fail
  go_ret
  refine ⟨_, rfl, ?_, HH.out.2⟩
  rw [HE.out, filF_len, hl.out]
  exact HH.out.1
end Go.Proofs.Ytejfnkbdmlijbaa
/- Filtering, plain: what is left after filtering is kept by filtering once more; fewer values in, fewer out. No program in sight. -/
namespace Go.Proofs.Ytejfnkbdmlijbaa
set_option linter.unusedVariables false
set_option maxRecDepth 100000

theorem dom_extF64 : ∀ a b : Fin 64, (∀ u : Fin 6, hasB a.val u.val = hasB b.val u.val) → a = b := by decide +kernel
theorem dom_extF {a b : Int} (a0 : 0 ≤ a) (a1 : a ≤ 63) (b0 : 0 ≤ b) (b1 : b ≤ 63) (h : ∀ u : Int, 0 ≤ u → u ≤ 5 → hasB a u = hasB b u) : a = b := by
  obtain ⟨x, rfl⟩ := dom_fin a0 a1
  obtain ⟨y, rfl⟩ := dom_fin b0 b1
  have := dom_extF64 x y (fun u => h u.val (by omega) (by omega))
  rw [this]
theorem list_gat {xs ys : List Int} (hl : xs.length = ys.length) (h : ∀ j, j < xs.length → gat xs j = gat ys j) : xs = ys := by
  refine List.ext_getElem hl fun j h1 h2 => ?_
  have := h j h1
  rw [gat_eq (List.getElem?_eq_getElem h1), gat_eq (List.getElem?_eq_getElem h2)] at this
  exact this
theorem doms_gat {xs : List Int} (h : Doms xs) {j : Nat} (hj : j < xs.length) : 0 ≤ gat xs j ∧ gat xs j ≤ 63 := h _ (gat_in hj)
theorem zip_gat {acc t : List Int} (hl : acc.length = t.length) {j : Nat} (hj : j < acc.length) : gat (List.zipWith orB acc t) j = orB (gat acc j) (gat t j) := by
  rw [gat_eq (x := orB acc[j] (t[j]'(by omega))) (by rw [List.getElem?_zipWith, List.getElem?_eq_getElem hj, List.getElem?_eq_getElem (by omega)])]
  rw [gat_eq (List.getElem?_eq_getElem hj), gat_eq (List.getElem?_eq_getElem (show j < t.length by omega))]
theorem supV_has' (c : Con) (m : Nat) {j : Nat} (hj : j < m) {u : Int} (u0 : 0 ≤ u) (u1 : u ≤ 5) : ∀ (ts : List (List Int)) (acc : List Int), OkT m ts → Doms acc → acc.length = m →
    hasB (gat (ts.foldl (stepV c) acc) j) u = (hasB (gat acc j) u || ts.any fun t => satF c t && (gat t j == u))
  | [], acc, _, _, _ => by simp
  | t :: ts, acc, ho, h, hl => by
    obtain ⟨h1, h2⟩ := ho t (by simp)
    obtain ⟨h3, h4⟩ := stepV_ok (c := c) h (by rw [hl, h1]) h2
    rw [List.foldl_cons, supV_has' c m hj u0 u1 ts _ (fun x hx => ho x (by simp [hx])) h3 (by rw [h4, hl]), List.any_cons]
    unfold stepV
    cases hs : satF c t
    · simp
    · have ha := doms_gat h (j := j) (by omega)
      have ht := h2 _ (gat_in (l := t) (i := j) (by omega))
      simp only [if_true, Bool.true_and]
      rw [zip_gat (by omega) (by omega), orB_has' ha.1 ha.2 ht.1 ht.2 u0 u1, Bool.or_assoc]
      congr 1
      congr 1
      rw [Bool.eq_iff_iff]; simp; exact eq_comm
theorem supV_has {c : Con} {m : Nat} {ts : List (List Int)} (ho : OkT m ts) {j : Nat} (hj : j < m) {u : Int} (u0 : 0 ≤ u) (u1 : u ≤ 5) : hasB (gat (supV c m ts) j) u = ts.any fun t => satF c t && (gat t j == u) := by
  unfold supV
  rw [supV_has' c m hj u0 u1 ts _ ho (fun x hx => by rw [List.eq_of_mem_replicate hx]; decide) (by simp)]
  have : gat (List.replicate m (0 : Int)) j = 0 := gat_eq (by rw [List.getElem?_replicate, if_pos hj])
  rw [this]
  have h0 : ∀ u : Fin 6, hasB 0 u.val = false := by decide +kernel
  have := h0 ⟨u.toNat, by omega⟩
  have e : ((u.toNat : Nat) : Int) = u := by omega
  simp only [e] at this
  rw [this, Bool.false_or]
/-- S's values all lie in W's. -/
def SubD (S W : List Int) : Prop := ∀ j, j < S.length → ∀ u : Int, 0 ≤ u → u ≤ 5 → hasB (gat S j) u = true → hasB (gat W j) u = true
theorem inDs_gat {ds t : List Int} : InDs ds t ↔ t.length = ds.length ∧ ∀ j, j < ds.length → 0 ≤ gat t j ∧ gat t j ≤ 5 ∧ hasB (gat ds j) (gat t j) = true := by
  constructor
  · rintro ⟨h1, h2⟩
    refine ⟨h1, fun j hj => ?_⟩
    have := h2 j _ _ (List.getElem?_eq_getElem hj) (List.getElem?_eq_getElem (show j < t.length by omega))
    rw [gat_eq (List.getElem?_eq_getElem hj), gat_eq (List.getElem?_eq_getElem (show j < t.length by omega))]
    exact this
  · rintro ⟨h1, h2⟩
    refine ⟨h1, fun j d v hd hv => ?_⟩
    have hj : j < ds.length := by
      rcases Nat.lt_or_ge j ds.length with h | h
      · exact h
      · rw [List.getElem?_eq_none h] at hd; cases hd
    have := h2 j hj
    rw [gat_eq hd, gat_eq hv] at this
    exact this
theorem allT_sub {S W : List Int} (hl : S.length = W.length) (h : SubD S W) {t : List Int} (ht : t ∈ allT S) : t ∈ allT W := by
  obtain ⟨h1, h2⟩ := inDs_gat.1 (mem_allT.1 ht)
  refine mem_allT.2 (inDs_gat.2 ⟨by omega, fun j hj => ?_⟩)
  obtain ⟨a, b, e⟩ := h2 j (by omega)
  exact ⟨a, b, h j (by omega) _ a b e⟩
/-- a value with support is a value. -/
theorem sup_sub {c : Con} {ws : List Int} : SubD (supV c ws.length (allT ws)) ws := by
  intro j hj u u0 u1 h
  have hok := allT_ok ws
  rw [(supV_ok (c := c) hok).2] at hj
  rw [supV_has hok hj u0 u1] at h
  obtain ⟨t, ht, h2⟩ := List.any_eq_true.1 h
  simp only [Bool.and_eq_true, beq_iff_eq] at h2
  obtain ⟨h3, h4⟩ := inDs_gat.1 (mem_allT.1 ht)
  have := (h4 j hj).2.2
  rw [h2.2] at this
  exact this
/-- fewer values, less support. -/
theorem sup_mono {c : Con} {S W : List Int} (hl : S.length = W.length) (h : SubD S W) : SubD (supV c S.length (allT S)) (supV c W.length (allT W)) := by
  intro j hj u u0 u1 hb
  rw [(supV_ok (c := c) (allT_ok S)).2] at hj
  rw [supV_has (allT_ok S) hj u0 u1] at hb
  rw [supV_has (allT_ok W) (by omega) u0 u1]
  obtain ⟨t, ht, h2⟩ := List.any_eq_true.1 hb
  exact List.any_eq_true.2 ⟨t, allT_sub hl h ht, h2⟩
/-- support is its own support. -/
theorem sup_idem (c : Con) (ws : List Int) : supV c ws.length (allT (supV c ws.length (allT ws))) = supV c ws.length (allT ws) := by
  obtain ⟨d1, l1⟩ := supV_ok (c := c) (allT_ok ws)
  obtain ⟨S, hS⟩ : ∃ S, supV c ws.length (allT ws) = S := ⟨_, rfl⟩
  rw [hS] at d1 l1 ⊢
  have hokS : OkT ws.length (allT S) := by rw [← l1]; exact allT_ok S
  obtain ⟨d2, l2⟩ := supV_ok (c := c) hokS
  refine list_gat (by omega) fun j hj => ?_
  rw [l2] at hj
  have a := doms_gat d1 (j := j) (by omega)
  have b := doms_gat d2 (j := j) (by omega)
  refine dom_extF b.1 b.2 a.1 a.2 fun u u0 u1 => ?_
  rw [supV_has hokS hj u0 u1, ← hS, supV_has (allT_ok ws) hj u0 u1, hS]
  rw [Bool.eq_iff_iff, List.any_eq_true, List.any_eq_true]
  constructor
  · rintro ⟨t, ht, h2⟩
    exact ⟨t, allT_sub l1 (by rw [← hS]; exact sup_sub) ht, h2⟩
  · rintro ⟨t, ht, h2⟩
    refine ⟨t, ?_, h2⟩
    obtain ⟨h3, h4⟩ := inDs_gat.1 (mem_allT.1 ht)
    refine mem_allT.2 (inDs_gat.2 ⟨by omega, fun i hi => ?_⟩)
    obtain ⟨p, q, e⟩ := h4 i (by omega)
    refine ⟨p, q, ?_⟩
    rw [← hS, supV_has (allT_ok ws) (by omega) p q]
    refine List.any_eq_true.2 ⟨t, ht, ?_⟩
    simp only [Bool.and_eq_true] at h2
    rw [h2.1]
    simp
/-- vars differ, and lie below n. -/
def DiffV (vars : List Int) (n : Nat) : Prop := (∀ (i j : Nat) a b, vars[i]? = some a → vars[j]? = some b → a = b → i = j) ∧ ∀ v ∈ vars, 0 ≤ v ∧ v < (n : Int)
theorem gat_set {xs : List Int} {k j : Nat} {a : Int} (hk : k < xs.length) : gat (xs.set k a) j = if k = j then a else gat xs j := by
  unfold gat
  by_cases e : k = j
  · subst e
    rw [if_pos rfl, List.getElem?_set_self hk]; rfl
  · rw [if_neg e, List.getElem?_set_ne e]
theorem vars_gat {vars : List Int} {n i : Nat} (h : DiffV vars n) (hi : i < vars.length) : 0 ≤ gat vars i ∧ gat vars i < (n : Int) := h.2 _ (gat_in hi)
/-- at a variable the new domain, elsewhere the old one. -/
theorem putTo_var {ds vars sup : List Int} (h : DiffV vars ds.length) {k i : Nat} (hk : k ≤ vars.length) (hi : i < k) : gat (putTo ds vars sup k) (gat vars i).toNat = gat sup i := by
  induction k with
  | zero => omega
  | succ k ih =>
    have hv := vars_gat h (i := k) (by omega)
    rw [putTo, gat_set (by rw [putTo_len]; omega)]
    rcases Nat.lt_or_ge i k with hlt | hge
    · have hvi := vars_gat h (i := i) (by omega)
      rw [if_neg ?_]
      · exact ih (by omega) hlt
      · intro e
        have := h.1 k i _ _ (List.getElem?_eq_getElem (show k < vars.length by omega)) (List.getElem?_eq_getElem (show i < vars.length by omega)) (by
          rw [gat_eq (List.getElem?_eq_getElem (show k < vars.length by omega))] at e hv
          rw [gat_eq (List.getElem?_eq_getElem (show i < vars.length by omega))] at e hvi
          omega)
        omega
    · obtain rfl : i = k := by omega
      rw [if_pos rfl]
theorem putTo_else {ds vars sup : List Int} (h : DiffV vars ds.length) {k j : Nat} (hk : k ≤ vars.length) (hj : ∀ i, i < k → (gat vars i).toNat ≠ j) : gat (putTo ds vars sup k) j = gat ds j := by
  induction k with
  | zero => rfl
  | succ k ih =>
    have hv := vars_gat h (i := k) (by omega)
    rw [putTo, gat_set (by rw [putTo_len]; omega), if_neg (hj k (by omega))]
    exact ih (by omega) fun i hi => hj i (by omega)
theorem putTo_case (vars : List Int) (k j : Nat) : (∃ i, i < k ∧ (gat vars i).toNat = j) ∨ ∀ i, i < k → (gat vars i).toNat ≠ j := by
  by_cases h : ∃ i, i < k ∧ (gat vars i).toNat = j
  · exact .inl h
  · exact .inr fun i hi e => h ⟨i, hi, e⟩
theorem word_gat {vars xs : List Int} {i : Nat} (hi : i < vars.length) : gat (wordF vars xs) i = gat xs (gat vars i).toNat := by
  have h1 := List.getElem?_eq_getElem hi
  rw [gat_eq (wordF_at h1), gat_eq h1]
theorem word_put {ds vars sup : List Int} (h : DiffV vars ds.length) (hl : sup.length = vars.length) : wordF vars (putTo ds vars sup vars.length) = sup := by
  refine list_gat (by rw [wordF_len, hl]) fun j hj => ?_
  rw [wordF_len] at hj
  rw [word_gat hj, putTo_var h (Nat.le_refl _) hj]
theorem put_put {ds vars sup : List Int} (h : DiffV vars ds.length) : putTo (putTo ds vars sup vars.length) vars sup vars.length = putTo ds vars sup vars.length := by
  have h' : DiffV vars (putTo ds vars sup vars.length).length := by rw [putTo_len]; exact h
  refine list_gat (by rw [putTo_len]) fun j hj => ?_
  rcases putTo_case vars vars.length j with ⟨i, hi, e⟩ | hn
  · rw [← e, putTo_var h' (Nat.le_refl _) hi, putTo_var h (Nat.le_refl _) hi]
  · rw [putTo_else h' (Nat.le_refl _) hn]
theorem filF_idem {c : Con} {ds : List Int} (h : DiffV c.vars ds.length) : filF c (filF c ds) = filF c ds := by
  have hl : (supV c c.vars.length (allT (wordF c.vars ds))).length = c.vars.length := by
    have := (supV_ok (c := c) (allT_ok (wordF c.vars ds))).2
    rw [wordF_len] at this
    exact this
  have hs := sup_idem c (wordF c.vars ds)
  rw [wordF_len] at hs
  have hw := word_put (ds := ds) h hl
  have hp := put_put (ds := ds) (sup := supV c c.vars.length (allT (wordF c.vars ds))) h
  unfold filF
  rw [hw, hs, hp]
theorem disF_inj {xs : List Int} (h : disF xs = true) : ∀ (i j : Nat) a b, xs[i]? = some a → xs[j]? = some b → a = b → i = j := by
  have key : ∀ (i j : Nat) a, i < j → xs[i]? = some a → xs[j]? = some a → False := by
    intro i j a hij hi hj
    unfold disF at h
    have hjl : j < xs.length := by
      rcases Nat.lt_or_ge j xs.length with h1 | h1
      · exact h1
      · rw [List.getElem?_eq_none h1] at hj; cases hj
    have := List.all_eq_true.1 h j (List.mem_range.2 hjl)
    rw [disAt_eq hj] at this
    have hm : a ∈ xs.take j := List.mem_of_getElem? (i := i) (by rw [List.getElem?_take, if_pos hij]; exact hi)
    rw [decide_eq_true hm] at this
    cases this
  intro i j a b hi hj e
  subst e
  rcases Nat.lt_trichotomy i j with h1 | h1 | h1
  · exact (key i j a h1 hi hj).elim
  · exact h1
  · exact (key j i a h1 hj hi).elim
theorem vcon_diff {c : Con} {n : Nat} (h : vconF c n = true) (h4 : n ≤ 4) : DiffV c.vars n := by
  refine ⟨?_, (vcon_vars h h4).2.1⟩
  unfold vconF at h
  simp only [Bool.and_eq_true] at h
  exact disF_inj h.2.2.1
theorem filF_doms {c : Con} {ds : List Int} (h : DiffV c.vars ds.length) (hd : Doms ds) : Doms (filF c ds) := by
  have hs := supV_ok (c := c) (allT_ok (wordF c.vars ds))
  rw [wordF_len] at hs
  intro x hx
  obtain ⟨j, hj, e⟩ := List.getElem_of_mem hx
  rw [filF_len] at hj
  have hx2 : gat (filF c ds) j = x := gat_eq (by rw [List.getElem?_eq_getElem (by rw [filF_len]; exact hj), e])
  rw [← hx2]
  unfold filF
  rcases putTo_case c.vars c.vars.length j with ⟨i, hi, e⟩ | hn
  · rw [← e, putTo_var h (Nat.le_refl _) hi]; exact doms_gat hs.1 (by rw [hs.2]; exact hi)
  · rw [putTo_else h (Nat.le_refl _) hn]; exact doms_gat hd hj
theorem dok_mk {ds : List Int} (h1 : 1 ≤ ds.length) (h4 : ds.length ≤ 4) (hd : Doms ds) : dokF ds = true := by
  unfold dokF
  rw [inB_mk ⟨by omega, by omega⟩, Bool.true_and]
  exact List.all_eq_true.2 fun x hx => inB_mk (hd x hx)
theorem filt_parts {c : Con} {ds : List Int} (h : (dokF ds && vconF c ds.length) = true) : filtF c ds = filF c ds ∧ 1 ≤ ds.length ∧ ds.length ≤ 4 ∧ Doms ds ∧ vconF c ds.length = true ∧ DiffV c.vars ds.length := by
  have h' := h
  simp only [Bool.and_eq_true] at h'
  obtain ⟨a, b, e⟩ := dok_parts h'.1
  exact ⟨by unfold filtF; rw [h]; rfl, a, b, e, h'.2, vcon_diff h'.2 b⟩
/-- FILTERING ONCE MORE CHANGES NOTHING. -/
theorem filtF_idem (c : Con) (ds : List Int) : filtF c (filtF c ds) = filtF c ds ∨ filtF c ds = [] := by
  cases h : dokF ds && vconF c ds.length
  · exact .inr (by unfold filtF; rw [h]; rfl)
  · obtain ⟨e, h1, h4, hd, hv, hD⟩ := filt_parts h
    refine .inl ?_
    rw [e]
    have h2 : (dokF (filF c ds) && vconF c (filF c ds).length) = true := by
      rw [filF_len, hv, dok_mk (by rw [filF_len]; exact h1) (by rw [filF_len]; exact h4) (filF_doms hD hd)]; rfl
    obtain ⟨e2, -⟩ := filt_parts h2
    rw [e2, filF_idem hD]
theorem sub_word {vars S D : List Int} (hv : DiffV vars S.length) (h : SubD S D) : SubD (wordF vars S) (wordF vars D) := by
  intro j hj u u0 u1 hb
  rw [wordF_len] at hj
  rw [word_gat hj] at hb ⊢
  have := vars_gat hv (i := j) hj
  exact h _ (by omega) u u0 u1 hb
theorem sub_fil {c : Con} {S D : List Int} (hl : S.length = D.length) (hv : DiffV c.vars S.length) (h : SubD S D) : SubD (filF c S) (filF c D) := by
  have hv2 : DiffV c.vars D.length := by rw [← hl]; exact hv
  intro j hj u u0 u1 hb
  rw [filF_len] at hj
  have hm := sup_mono (c := c) (S := wordF c.vars S) (W := wordF c.vars D) (by rw [wordF_len, wordF_len]) (sub_word hv h)
  rw [wordF_len, wordF_len] at hm
  have hs := supV_ok (c := c) (allT_ok (wordF c.vars S))
  rw [wordF_len] at hs
  unfold filF at hb ⊢
  rcases putTo_case c.vars c.vars.length j with ⟨i, hi, e⟩ | hn
  · rw [← e, putTo_var hv (Nat.le_refl _) hi] at hb
    rw [← e, putTo_var hv2 (Nat.le_refl _) hi]
    exact hm i (by rw [hs.2]; exact hi) u u0 u1 hb
  · rw [putTo_else hv (Nat.le_refl _) hn] at hb
    rw [putTo_else hv2 (Nat.le_refl _) hn]
    exact h j hj u u0 u1 hb
theorem and64 : ∀ a b : Fin 64, 0 ≤ bits .and .i64 (a.val : Int) b.val ∧ bits .and .i64 (a.val : Int) b.val ≤ 63 ∧ ∀ u : Fin 6, hasB (bits .and .i64 (a.val : Int) b.val) u.val = (hasB a.val u.val && hasB b.val u.val) := by decide +kernel
theorem and_dom {a b : Int} (a0 : 0 ≤ a) (a1 : a ≤ 63) (b0 : 0 ≤ b) (b1 : b ≤ 63) : 0 ≤ bits .and .i64 a b ∧ bits .and .i64 a b ≤ 63 ∧ ∀ u : Int, 0 ≤ u → u ≤ 5 → hasB (bits .and .i64 a b) u = (hasB a u && hasB b u) := by
  obtain ⟨x, rfl⟩ := dom_fin a0 a1
  obtain ⟨y, rfl⟩ := dom_fin b0 b1
  obtain ⟨h1, h2, h3⟩ := and64 x y
  refine ⟨h1, h2, fun u u0 u1 => ?_⟩
  have := h3 ⟨u.toNat, by omega⟩
  have e : ((u.toNat : Nat) : Int) = u := by omega
  simp only [e] at this
  exact this
theorem and_subF {a b : Int} (a0 : 0 ≤ a) (a1 : a ≤ 63) (b0 : 0 ≤ b) (b1 : b ≤ 63) (h : ∀ u : Int, 0 ≤ u → u ≤ 5 → hasB a u = true → hasB b u = true) : bits .and .i64 a b = a := by
  obtain ⟨h1, h2, h3⟩ := and_dom a0 a1 b0 b1
  refine dom_extF h1 h2 a0 a1 fun u u0 u1 => ?_
  rw [h3 u u0 u1]
  cases hb : hasB a u
  · rfl
  · rw [h u u0 u1 hb]; rfl
/-- FEWER VALUES IN, FEWER OUT, place by place. -/
theorem filt_mono {c : Con} {S D : List Int} (hv : (dokF D && vconF c D.length) = true) (hl : S.length = D.length) (hS : Doms S) (h : SubD S D) : (filtF c S).length = (filtF c D).length ∧ ∀ j, j < (filtF c S).length → bits .and .i64 (gat (filtF c S) j) (gat (filtF c D) j) = gat (filtF c S) j := by
  obtain ⟨e, h1, h4, hd, hc, hD⟩ := filt_parts hv
  have hv2 : (dokF S && vconF c S.length) = true := by rw [hl, hc, dok_mk (by omega) (by omega) hS]; rfl
  obtain ⟨e2, -, -, -, -, hDS⟩ := filt_parts hv2
  rw [e, e2]
  refine ⟨by rw [filF_len, filF_len, hl], fun j hj => ?_⟩
  have hj2 := hj
  rw [filF_len] at hj
  have a := doms_gat (filF_doms hDS hS) (j := j) hj2
  have b := doms_gat (filF_doms hD hd) (j := j) (by rw [filF_len]; omega)
  exact and_subF a.1 a.2 b.1 b.2 (sub_fil hl hDS h j hj2)
end Go.Proofs.Ytejfnkbdmlijbaa
/- The fixpoint of filtering, plain: it does not hang on the order of the constraints. No program in sight. -/
namespace Go.Proofs.Ytejfnkbdmlijbaa
set_option linter.unusedVariables false
set_option maxRecDepth 100000

def cntD (d : Int) : Nat := (valsTo d 6).length
theorem cntD64 : ∀ a b : Fin 64, (∀ u : Fin 6, hasB a.val u.val = true → hasB b.val u.val = true) → cntD a.val ≤ cntD b.val ∧ (cntD a.val = cntD b.val → a = b) := by decide +kernel
theorem cntD_sub {a b : Int} (a0 : 0 ≤ a) (a1 : a ≤ 63) (b0 : 0 ≤ b) (b1 : b ≤ 63) (h : ∀ u : Int, 0 ≤ u → u ≤ 5 → hasB a u = true → hasB b u = true) : cntD a ≤ cntD b ∧ (cntD a = cntD b → a = b) := by
  obtain ⟨x, rfl⟩ := dom_fin a0 a1
  obtain ⟨y, rfl⟩ := dom_fin b0 b1
  have := cntD64 x y (fun u => h u.val (by omega) (by omega))
  exact ⟨this.1, fun e => by rw [this.2 e]⟩
def card (ds : List Int) : Nat := (ds.map cntD).sum
theorem SubD.refl (S : List Int) : SubD S S := fun _ _ _ _ _ h => h
theorem SubD.trans {S T U : List Int} (hl : S.length = T.length) (h : SubD S T) (k : SubD T U) : SubD S U := fun j hj u u0 u1 hb => k j (by omega) u u0 u1 (h j hj u u0 u1 hb)
theorem card_sub : ∀ (S W : List Int), S.length = W.length → Doms S → Doms W → SubD S W → card S ≤ card W ∧ (card S = card W → S = W)
  | [], [], _, _, _, _ => ⟨Nat.le_refl _, fun _ => rfl⟩
  | [], w :: W, h, _, _, _ => by simp at h
  | s :: S, [], h, _, _, _ => by simp at h
  | s :: S, w :: W, h, hs, hw, hd => by
    have a := hs s (by simp)
    have b := hw w (by simp)
    obtain ⟨c1, c2⟩ := cntD_sub a.1 a.2 b.1 b.2 (fun u u0 u1 hb => hd 0 (by simp) u u0 u1 hb)
    obtain ⟨d1, d2⟩ := card_sub S W (by simpa using h) (fun x hx => hs x (by simp [hx])) (fun x hx => hw x (by simp [hx])) (fun j hj u u0 u1 hb => hd (j + 1) (by simp; omega) u u0 u1 hb)
    have e1 : card (s :: S) = cntD s + card S := by simp [card]
    have e2 : card (w :: W) = cntD w + card W := by simp [card]
    rw [e1, e2]
    exact ⟨by omega, fun e => by rw [c2 (by omega), d2 (by omega)]⟩
theorem sub_anti {S W : List Int} (hl : S.length = W.length) (hs : Doms S) (hw : Doms W) (h : SubD S W) (k : SubD W S) : S = W :=
  (card_sub S W hl hs hw h).2 (Nat.le_antisymm (card_sub S W hl hs hw h).1 (card_sub W S hl.symm hw hs k).1)
/-- filtering leaves a part. -/
theorem fil_sub {c : Con} {ds : List Int} (hv : DiffV c.vars ds.length) : SubD (filF c ds) ds := by
  intro j hj u u0 u1 hb
  rw [filF_len] at hj
  have hs := supV_ok (c := c) (allT_ok (wordF c.vars ds))
  rw [wordF_len] at hs
  have hm := sup_sub (c := c) (ws := wordF c.vars ds)
  rw [wordF_len] at hm
  unfold filF at hb
  rcases putTo_case c.vars c.vars.length j with ⟨i, hi, e⟩ | hn
  · rw [← e, putTo_var hv (Nat.le_refl _) hi] at hb
    have := hm i (by rw [hs.2]; exact hi) u u0 u1 hb
    rw [word_gat hi, e] at this
    exact this
  · rw [putTo_else hv (Nat.le_refl _) hn] at hb
    exact hb
/-- the constraints' variables differ. -/
def DiffC (cs : List Con) (n : Nat) : Prop := ∀ c ∈ cs, DiffV c.vars n
def foldF (cs : List Con) (ds : List Int) : List Int := cs.foldl (fun d c => filF c d) ds
theorem foldF_len : ∀ (cs : List Con) (ds : List Int), (foldF cs ds).length = ds.length
  | [], _ => rfl
  | c :: cs, ds => by
    show (foldF cs (filF c ds)).length = _
    rw [foldF_len cs, filF_len]
theorem foldF_ok : ∀ (cs : List Con) (ds : List Int), DiffC cs ds.length → Doms ds → Doms (foldF cs ds) ∧ SubD (foldF cs ds) ds
  | [], ds, _, hd => ⟨hd, SubD.refl _⟩
  | c :: cs, ds, hv, hd => by
    have h1 := hv c (by simp)
    have h2 := filF_doms h1 hd
    obtain ⟨a, b⟩ := foldF_ok cs (filF c ds) (fun c' hc => by rw [filF_len]; exact hv c' (by simp [hc])) h2
    exact ⟨a, SubD.trans (by rw [foldF_len, filF_len]) b (fil_sub h1)⟩
theorem foldF_fix {cs : List Con} {ds : List Int} (h : ∀ c ∈ cs, filF c ds = ds) : foldF cs ds = ds := by
  induction cs with
  | nil => rfl
  | cons c cs ih =>
    show foldF cs (filF c ds) = ds
    rw [h c (by simp)]
    exact ih fun c' hc => h c' (by simp [hc])
theorem foldF_all : ∀ (cs : List Con) (ds : List Int), DiffC cs ds.length → Doms ds → foldF cs ds = ds → ∀ c ∈ cs, filF c ds = ds
  | [], _, _, _, _ => by simp
  | c :: cs, ds, hv, hd, h => by
    have h1 := hv c (by simp)
    have h2 := filF_doms h1 hd
    have hv2 : DiffC cs (filF c ds).length := fun c' hc => by rw [filF_len]; exact hv c' (by simp [hc])
    obtain ⟨a, b⟩ := foldF_ok cs (filF c ds) hv2 h2
    have h3 : foldF cs (filF c ds) = ds := h
    rw [h3] at b
    have h4 : filF c ds = ds := sub_anti (filF_len c ds) h2 hd (fil_sub h1) b
    rw [h4] at h3
    intro c' hc
    rcases List.mem_cons.1 hc with rfl | hc
    · exact h4
    · exact foldF_all cs ds (fun c' hc => hv c' (by simp [hc])) hd h3 c' hc
theorem foldF_mono : ∀ (cs : List Con) (G D : List Int), G.length = D.length → DiffC cs D.length → SubD G D → (∀ c ∈ cs, filF c G = G) → SubD G (foldF cs D)
  | [], _, _, _, _, h, _ => h
  | c :: cs, G, D, hl, hv, h, hG => by
    have h1 := hv c (by simp)
    have h2 := sub_fil (c := c) hl (by rw [hl]; exact h1) h
    rw [hG c (by simp)] at h2
    exact foldF_mono cs G (filF c D) (by rw [filF_len, hl]) (fun c' hc => by rw [filF_len]; exact hv c' (by simp [hc])) h2 fun c' hc => hG c' (by simp [hc])
def hasZ (ds : List Int) : Bool := ds.any (· == 0)
/-- the last domains that filtering comes to. -/
def limF (cs : List Con) (ds : List Int) : List Int := if hasZ ds then ds else if card (foldF cs ds) < card ds then limF cs (foldF cs ds) else ds
termination_by card ds
def zerosF (n : Nat) : List Int := List.replicate n 0
def fixF (cs : List Con) (ds : List Int) : List Int := if hasZ (limF cs ds) then zerosF ds.length else limF cs ds
theorem lim_z {cs : List Con} {ds : List Int} (h : hasZ ds = true) : limF cs ds = ds := by rw [limF, if_pos h]
theorem lim_end {cs : List Con} {ds : List Int} (h : foldF cs ds = ds) : limF cs ds = ds := by
  rw [limF, h, if_neg (Nat.lt_irrefl _)]; simp
theorem card_step {cs : List Con} {ds : List Int} (hv : DiffC cs ds.length) (hd : Doms ds) (hn : foldF cs ds ≠ ds) : card (foldF cs ds) < card ds := by
  obtain ⟨a, b⟩ := foldF_ok cs ds hv hd
  obtain ⟨c1, c2⟩ := card_sub _ _ (foldF_len cs ds) a hd b
  rcases Nat.lt_or_ge (card (foldF cs ds)) (card ds) with h | h
  · exact h
  · exact (hn (c2 (by omega))).elim
theorem lim_step {cs : List Con} {ds : List Int} (hv : DiffC cs ds.length) (hd : Doms ds) (hz : hasZ ds = false) (hn : foldF cs ds ≠ ds) : limF cs ds = limF cs (foldF cs ds) := by
  rw [limF, if_neg (by rw [hz]; decide), if_pos (card_step hv hd hn)]
theorem lim_ok (cs : List Con) : ∀ (k : Nat) (ds : List Int), card ds ≤ k → DiffC cs ds.length → Doms ds → (limF cs ds).length = ds.length ∧ Doms (limF cs ds) ∧ SubD (limF cs ds) ds ∧ (hasZ (limF cs ds) = false → foldF cs (limF cs ds) = limF cs ds) ∧
    ∀ G : List Int, G.length = ds.length → SubD G ds → (∀ c ∈ cs, filF c G = G) → SubD G (limF cs ds) := by
  intro k
  induction k with
  | zero =>
    intro ds hk hv hd
    cases hz : hasZ ds
    · by_cases hn : foldF cs ds = ds
      · rw [lim_end hn]
        exact ⟨rfl, hd, SubD.refl _, fun _ => hn, fun G _ h _ => h⟩
      · exact absurd (card_step hv hd hn) (by omega)
    · rw [lim_z hz]
      exact ⟨rfl, hd, SubD.refl _, fun h => (by rw [hz] at h; cases h), fun G _ h _ => h⟩
  | succ k ih =>
    intro ds hk hv hd
    cases hz : hasZ ds
    · by_cases hn : foldF cs ds = ds
      · rw [lim_end hn]
        exact ⟨rfl, hd, SubD.refl _, fun _ => hn, fun G _ h _ => h⟩
      · have hlt := card_step hv hd hn
        obtain ⟨a, b⟩ := foldF_ok cs ds hv hd
        have hfl := foldF_len cs ds
        obtain ⟨h1, h2, h3, h4, h5⟩ := ih (foldF cs ds) (by omega) (by rw [hfl]; exact hv) a
        rw [lim_step hv hd hz hn]
        exact ⟨by rw [h1, hfl], h2, SubD.trans (by rw [h1]) h3 b, h4, fun G hG hs hf => h5 G (by rw [hG, hfl]) (foldF_mono cs G ds hG hv hs hf) hf⟩
    · rw [lim_z hz]
      exact ⟨rfl, hd, SubD.refl _, fun h => (by rw [hz] at h; cases h), fun G _ h _ => h⟩
theorem zero64 : ∀ a : Fin 64, (∀ u : Fin 6, hasB a.val u.val = true → hasB 0 u.val = true) → a = 0 := by decide +kernel
theorem hasZ_sub {S W : List Int} (hl : S.length = W.length) (hs : Doms S) (h : SubD S W) (hz : hasZ W = true) : hasZ S = true := by
  obtain ⟨x, hx, e⟩ := List.any_eq_true.1 hz
  obtain ⟨j, hj, ej⟩ := List.getElem_of_mem hx
  have e0 : x = 0 := by simpa using e
  have hg : gat W j = 0 := by rw [gat_eq (List.getElem?_eq_getElem hj), ej, e0]
  have a := doms_gat hs (j := j) (by omega)
  have hh := h j (by omega)
  rw [hg] at hh
  obtain ⟨y, hy⟩ := dom_fin a.1 a.2
  have hy2 := zero64 y (fun u hb => hh u.val (by omega) (by omega) (by rw [hy]; exact hb))
  have h0 : gat S j = 0 := by rw [hy, hy2]; rfl
  refine List.any_eq_true.2 ⟨0, ?_, by rfl⟩
  rw [← h0]
  exact gat_in (by omega)
/-- THE ORDER DOES NOT MATTER. -/
theorem fix_order {cs cs' : List Con} {ds : List Int} (hm : ∀ c, c ∈ cs ↔ c ∈ cs') (hv : DiffC cs ds.length) (hd : Doms ds) : fixF cs ds = fixF cs' ds := by
  have hv' : DiffC cs' ds.length := fun c hc => hv c ((hm c).2 hc)
  obtain ⟨a1, a2, a3, a4, a5⟩ := lim_ok cs _ ds (Nat.le_refl _) hv hd
  obtain ⟨b1, b2, b3, b4, b5⟩ := lim_ok cs' _ ds (Nat.le_refl _) hv' hd
  unfold fixF
  cases hz : hasZ (limF cs ds)
  · have f1 := foldF_all cs _ (by rw [a1]; exact hv) a2 (a4 hz)
    have s1 := b5 _ a1 a3 (fun c hc => f1 c ((hm c).2 hc))
    cases hz' : hasZ (limF cs' ds)
    · have f2 := foldF_all cs' _ (by rw [b1]; exact hv') b2 (b4 hz')
      have s2 := a5 _ b1 b3 (fun c hc => f2 c ((hm c).1 hc))
      have e := sub_anti (by rw [a1, b1]) a2 b2 s1 s2
      rw [e]
    · have := hasZ_sub (by rw [a1, b1]) a2 s1 hz'
      rw [hz] at this; cases this
  · cases hz' : hasZ (limF cs' ds)
    · have f2 := foldF_all cs' _ (by rw [b1]; exact hv') b2 (b4 hz')
      have s2 := a5 _ b1 b3 (fun c hc => f2 c ((hm c).1 hc))
      have := hasZ_sub (by rw [a1, b1]) b2 s2 hz
      rw [hz'] at this; cases this
    · rfl
theorem fix_z {cs : List Con} {ds : List Int} (h : hasZ ds = true) : fixF cs ds = zerosF ds.length := by unfold fixF; rw [lim_z h, h]; rfl
theorem fix_end {cs : List Con} {ds : List Int} (hz : hasZ ds = false) (h : foldF cs ds = ds) : fixF cs ds = ds := by unfold fixF; rw [lim_end h, hz]; rfl
theorem fix_step {cs : List Con} {ds : List Int} (hv : DiffC cs ds.length) (hd : Doms ds) (hz : hasZ ds = false) (hn : foldF cs ds ≠ ds) : fixF cs ds = fixF cs (foldF cs ds) := by
  unfold fixF
  rw [lim_step hv hd hz hn, foldF_len]
theorem fix_len {cs : List Con} {ds : List Int} (hv : DiffC cs ds.length) (hd : Doms ds) : (fixF cs ds).length = ds.length := by
  obtain ⟨a1, -⟩ := lim_ok cs _ ds (Nat.le_refl _) hv hd
  unfold fixF
  split
  · simp [zerosF]
  · exact a1
theorem fix_doms {cs : List Con} {ds : List Int} (hv : DiffC cs ds.length) (hd : Doms ds) : Doms (fixF cs ds) := by
  obtain ⟨a1, a2, -⟩ := lim_ok cs _ ds (Nat.le_refl _) hv hd
  unfold fixF
  split
  · intro x hx
    rw [List.eq_of_mem_replicate hx]; decide
  · exact a2
/-- all constraints leave the domains as they are. -/
def conF (cs : List Con) (ds : List Int) : Bool := cs.all fun c => filF c ds == ds
theorem conF_iff {cs : List Con} {ds : List Int} (hv : DiffC cs ds.length) (hd : Doms ds) : conF cs ds = true ↔ foldF cs ds = ds := by
  constructor
  · intro h
    exact foldF_fix fun c hc => by simpa using List.all_eq_true.1 h c hc
  · intro h
    exact List.all_eq_true.2 fun c hc => by simpa using foldF_all cs ds hv hd h c hc
end Go.Proofs.Ytejfnkbdmlijbaa
/- spec's Filter. -/
namespace Go.Proofs.Ytejfnkbdmlijbaa
open Go.ChangeShapes Go.WideShapes Go.ChangeAt Go.RowKit
open Go.Shelf
set_option linter.unusedVariables false
set_option maxRecDepth 100000
attribute [local go_sem] Oper.semAt_some

theorem set_same {xs : List Int} {k : Nat} {a : Int} (h : xs[k]? = some a) : xs.set k a = xs := by
  refine List.ext_getElem? fun j => ?_
  rw [List.getElem?_set]
  split
  · rename_i e
    subst e
    split
    · exact h.symm
    · rename_i hn
      rw [List.getElem?_eq_none (by omega)]
  · rfl
set_option maxHeartbeats 16000000 in
theorem swalk (bE gx gs m n cd : Nat) (c : Con) (va aa ra : Option Addr) (cv ca cr : Nat) (ds : List Int) (A : Option Addr) (w0 : World) (hc : ConR w0 w0.heap.size [.int .i64 c.kind, .slice va c.vars.length cv, .slice aa c.args.length ca, .int .i64 c.bound, .slice ra c.rows.length cr] c)
    (hd : IntR w0 w0.heap.size A n ds) (hdm : Doms ds) (hvc : vconF c n = true) (h4 : n ≤ 4) (hm : c.vars.length = m) (hg : w0.heap.size ≤ bE ∧ w0.heap.size ≤ gx ∧ w0.heap.size ≤ gs) (hxs : gx ≠ gs) :
    ∀ (r : Nat) (t : List Int) (vis : List (List Int)) (W : World), t.length + r = m → PreDs (wordF c.vars ds) t → Below w0.heap.size w0 W →
      TBlk 106 W bE #[.int .i64 c.kind, .slice va m cv, .slice aa c.args.length ca, .int .i64 c.bound, .slice ra c.rows.length cr, .slice A n cd, .slice (some ⟨gx, 0, none⟩) m m, .slice (some ⟨gs, 0, none⟩) m m] → Front m W gx t → TBlk 3 W gs (ints (supV c m vis)) → OkT m vis →
      Calls Try.prog 109 #[.pointer (some ⟨bE, 0, none⟩), .int .i64 t.length] W fun e W' => (∃ v, e = .returned v) ∧ Below w0.heap.size w0 W' ∧
        TBlk 106 W' bE #[.int .i64 c.kind, .slice va m cv, .slice aa c.args.length ca, .int .i64 c.bound, .slice ra c.rows.length cr, .slice A n cd, .slice (some ⟨gx, 0, none⟩) m m, .slice (some ⟨gs, 0, none⟩) m m] ∧ Front m W' gx t ∧ TBlk 3 W' gs (ints (supV c m (vis ++ extT (wordF c.vars ds) t))) ∧ OkT m (vis ++ extT (wordF c.vars ds) t) := by
  obtain ⟨hv1, hv2, hv3⟩ := vcon_vars hvc h4
  have hvr : IntR w0 w0.heap.size va m c.vars := by
    obtain ⟨va', aa', ra', cv', ca', cr', e, g1, g2, g3, -⟩ := hc
    injection e with e1 e2
    injection e2 with e2 e3
    injection e2 with e2 e4 e5
    subst e2
    rw [hm] at g1
    exact g1
  intro r
  induction r with
  | zero =>
    intro t vis W htr hpre hb hE hX hS hok
    obtain rfl : t.length = m := by omega
    have hmem := hpre.mem (by rw [wordF_len]; omega)
    have hsat := (sat_tup hvc h4 hmem).1
    have hok2 : OkT t.length (vis ++ [t]) := hok.snoc rfl (fun v hv => by
      obtain ⟨h1, h2⟩ := mem_allT.1 hmem
      obtain ⟨j, hj, e⟩ := List.getElem_of_mem hv
      have := h2 j ((wordF c.vars ds)[j]'(by omega)) v (List.getElem?_eq_getElem _) (by rw [List.getElem?_eq_getElem hj, e])
      exact ⟨this.1, this.2.1⟩)
    rw [extT_full (by rw [wordF_len]; omega)]
    have hcon := ConR.on hc hb
    have hint := hX.intR rfl (by omega)
    have c0 := hE.at_ 0 rfl
    have c1 := hE.at_ 1 rfl
    have c2 := hE.at_ 2 rfl
    have c3 := hE.at_ 3 rfl
    have c4 := hE.at_ 4 rfl
    have c6 := hE.at_ 6 rfl
    have hl4 : t.length ≤ 4 := by omega
    have hsupd := (supV_ok (c := c) hok).1
    have hsupl := (supV_ok (c := c) hok).2
    obtain ⟨m, hk⟩ : ∃ k, t.length = k := ⟨_, rfl⟩
    rw [hm, hk] at hcon
    have HSL := Lib.hid hsupl
    rw [hk] at c1 c6 hint hE hX hl4 hS hok2 hsupd ⊢
    have HSD := Lib.hid hsupd
    simp only [List.getElem_toArray, List.getElem_cons_zero, List.getElem_cons_succ] at c0 c1 c2 c3 c4 c6
    have HQ := Lib.hid (And.intro hsat (And.intro hcon (And.intro hint (And.intro hE (And.intro hX (And.intro hS hb))))))
    have HOK := Lib.hid hok2
    have HTL := Lib.hid hk
    clear hsat hcon hint hE hX hb hmem hpre htr hvr hc hd hdm hvc hk hm hok hok2 hsupd hsupl hS
    go_enter Try.func109, Try.ntmps109
    go_wp2_with fail
    go_still_tail 8, (by kernel_rfl)
    go_wp2_with fail
    obtain ⟨g1, g2, g3, g4, g5, g7, g6⟩ := HQ.out
    have hbd : Below W.heap.size W W.drew := below_drewN (Below.refl _ _) 1
    refine (ssatisfies _ c _ _ _ t W.drew (ConR.on g2 hbd) (IntR.on g3 hbd) g1).mono ?_
    rintro e W3 ⟨rfl, hb3⟩
    have HQ3 := Lib.hid (And.intro (bgo g6 (bgo hbd hb3)) (And.intro (g4.below_ (bgo hbd hb3) g4.lt) (And.intro (g5.on (bgo hbd hb3)) (g7.below_ (bgo hbd hb3) g7.lt))))
    clear g1 g2 g3 g4 g5 g6 g7 hbd hb3 HQ c0 c1 c2 c3 c4 c6
    cases hst : satF c t
    · have HST := Lib.hid (show supV c m (vis ++ [t]) = supV c m vis by rw [supV_snoc]; unfold stepV; rw [hst]; rfl)
      clear hst
      go_wp2_with fail
      refine bodyPost_ret (results_none rfl _ _ _) rfl ?_
      obtain ⟨g1, g2, g3, g4⟩ := HQ3.out
      exact ⟨⟨_, rfl⟩, g1, g2, g3, by rw [HST.out]; exact g4, HOK.out⟩
    · have HST := Lib.hid (show supV c m (vis ++ [t]) = List.zipWith orB (supV c m vis) t by rw [supV_snoc]; unfold stepV; rw [hst]; rfl)
      clear hst
      go_wp2_with fail
      let QI : Nat → World → Prop := fun q W' => Below w0.heap.size w0 W' ∧ TBlk 106 W' bE #[.int .i64 c.kind, .slice va m cv, .slice aa c.args.length ca, .int .i64 c.bound, .slice ra c.rows.length cr, .slice A n cd, .slice (some ⟨gx, 0, none⟩) m m, .slice (some ⟨gs, 0, none⟩) m m] ∧ Front m W' gx t ∧ TBlk 3 W' gs (ints (updTo (supV c m vis) t q))
      have hQ0 : QI 0 W3 := by
        obtain ⟨g1, g2, g3, g4⟩ := HQ3.out
        exact ⟨g1, g2, g3, by rw [updTo_zero]; exact g4⟩
      clear HQ3
      go_loopw [4] (fun t4 wr => ∃ q : Nat, q ≤ m ∧ t4 = .int .i64 q ∧ Hid (QI q wr)) (fun t4 _ => m - (intOf t4).toNat)
      case atStart => exact ⟨0, by omega, rfl, hQ0⟩
      case round =>
        obtain ⟨q, hq, rfl, hQ⟩ := hrel
        clear hQ0
        obtain ⟨g1, g2, g3, g4⟩ := hQ.out
        have e6 := g2.at_ 6 rfl
        have e7 := g2.at_ 7 rfl
        simp only [List.getElem_toArray, List.getElem_cons_zero, List.getElem_cons_succ] at e6 e7
        by_cases hlt : q < m
        · obtain ⟨v, hv⟩ : ∃ v, t[q]? = some v := ⟨_, List.getElem?_eq_getElem (by have := HTL.out; omega)⟩
          have hsl2 : (supV c m vis).length = t.length := by rw [← HTL.out]; exact HSL.out
          obtain ⟨a, ha, hau⟩ := updTo_at2 hsl2 hv
          have hv5 : 0 ≤ v ∧ v ≤ 5 := (HOK.out t (by simp)).2 v (List.mem_of_getElem? hv)
          have ha63 := HSD.out a (List.mem_of_getElem? ha)
          obtain ⟨o1, o2, -, o4, o5⟩ := orB_in ha63.1 ha63.2 hv5.1 hv5.2
          have ex : wr.cell? ⟨gx, q, none⟩ = some (.int .i64 v) := by
            obtain ⟨cs, f1, f2, f3⟩ := g3
            exact f2.at_ q (f3 q v hv)
          have es := g4.at_ q (ints_at hau)
          have hdh : dhB a v = hasB a v := by unfold dhB; rw [inB_mk ⟨by omega, by omega⟩]; rfl
          have HVQ := Lib.hid (And.intro hv (And.intro ha (And.intro hau (And.intro hv5 ha63))))
          clear hv ha hau
          cases hh : hasB a v
          · have ho4 := o4 hh
            have hsum : IntKind.i64.wrap (a + IntKind.i64.wrap (2 ^ v.toNat)) = orB a v := by rw [wrap_pow hv5.1 hv5.2, ← ho4, IntWalk.i64_in _ (by omega)]
            rw [hh] at hdh
            clear o1 o2 o4 o5 hh ho4
            go_wp2_with fail
            go_still_tail 14, (by kernel_rfl)
            go_wp2_with fail
            refine (sdomainHas _ _ ha63.1 wr.drew).mono ?_
            rw [hdh]
            rintro e W4 ⟨rfl, hW4⟩
            have hbd : Below wr.heap.size wr W4 := by rw [← hW4]; exact below_drewN (Below.refl _ _) 1
            have k1 := g1.trans (hbd.mono g1.size)
            have k2 := g2.below_ hbd g2.lt
            have k3 := g3.on hbd
            have k4 := g4.below_ hbd g4.lt
            have hgE : gs ≠ bE := k4.ne k2 (by decide)
            have HN : Hid (QI (q + 1) ((W4.drew).setCell ⟨gs, q, none⟩ (.int .i64 (orB a v)))) := by
              refine Lib.hid ⟨(below_drewN k1 1).setCell (p := ⟨gs, q, none⟩) hg.2.2 _, (k2.drewN_ 1).far hgE.symm, ?_, ?_⟩
              · obtain ⟨cs, f1, f2, f3⟩ := k3
                exact ⟨cs, f1, (f2.drewN_ 1).far hxs, f3⟩
              · rw [← updTo_succ hsl2 HVQ.out.2.1 HVQ.out.1, ← ints_set]
                exact (k4.drewN_ 1).store q _
            have d6 := k2.at_ 6 rfl
            have d7 := k2.at_ 7 rfl
            simp only [List.getElem_toArray, List.getElem_cons_zero, List.getElem_cons_succ] at d6 d7
            have ds' := k4.at_ q (ints_at HVQ.out.2.2.1)
            have df := k4.frozen q
            have dx : W4.cell? ⟨gx, q, none⟩ = some (.int .i64 v) := by
              obtain ⟨cs, f1, f2, f3⟩ := k3
              exact f2.at_ q (f3 q v HVQ.out.1)
            clear hbd g1 g2 g3 g4 hQ hW4 k1 k2 k3 k4 e6 e7 ex es
            go_wp2_with fail
            go_still_tail 21, (by kernel_rfl)
            go_wp2_with fail
            try simp only [hsum]
            go_wp2_with fail
            go_roundw
            case rel => exact ⟨q + 1, by omega, by go_num, HN.out⟩
            case measure => simp [intOf]; omega
          · have ho5 := Lib.hid (o5 hh)
            rw [hh] at hdh
            clear o1 o2 o4 o5 hh
            go_wp2_with fail
            go_still_tail 14, (by kernel_rfl)
            go_wp2_with fail
            refine (sdomainHas _ _ ha63.1 _).mono ?_
            rw [hdh]
            rintro e W4 ⟨rfl, rfl⟩
            have hbd : Below wr.heap.size wr wr.drew := below_drewN (Below.refl _ _) 1
            have HN : Hid (QI (q + 1) wr.drew) := by
              refine Lib.hid ⟨bgo g1 hbd |> fun _ => g1.trans (hbd.mono g1.size), g2.below_ hbd g2.lt, g3.on hbd, ?_⟩
              rw [← updTo_succ hsl2 HVQ.out.2.1 HVQ.out.1, ho5.out, set_same HVQ.out.2.2.1]
              exact g4.below_ hbd g4.lt
            clear hbd g1 g2 g3 g4 hQ
            go_wp2_with fail
            go_roundw
            case rel => exact ⟨q + 1, by omega, by go_num, HN.out⟩
            case measure => simp [intOf]; omega
        · obtain rfl : q = m := by omega
          have HG := Lib.hid (And.intro g1 (And.intro g2 (And.intro g3 g4)))
          clear g1 g2 g3 g4
          go_wp2_with fail
          refine bodyPost_ret (results_none rfl _ _ _) rfl ?_
          obtain ⟨g1, g2, g3, g4⟩ := HG.out
          have hsl2 : (supV c q vis).length = t.length := by rw [← HTL.out]; exact HSL.out
          rw [updTo_done hsl2 (by rw [hsl2, HTL.out]), ← HST.out] at g4
          exact ⟨⟨_, rfl⟩, g1, g2, g3, g4, HOK.out⟩
  | succ r ih =>
    intro t vis W htr hpre hb hE hX hS hok
    obtain ⟨k, hk⟩ : ∃ k, t.length = k := ⟨_, rfl⟩
    have hkm : k < m := by omega
    have hkm' : ((k : Int) == (m : Int)) = false := by simp; omega
    obtain ⟨vb, vo, v, hva, hvb, hvk, hvc2⟩ := hvr.at_ hkm
    obtain ⟨hv0, hvn⟩ := hv2 v (List.mem_of_getElem? hvk)
    obtain ⟨vn, rfl⟩ : ∃ vn : Nat, v = (vn : Int) := ⟨v.toNat, by omega⟩
    obtain ⟨ab, ao, d, hA, hab, hdk, hdc⟩ := hd.at_ (k := vn) (by omega)
    subst hva hA
    have hws : (wordF c.vars ds)[t.length]? = some d := word_mem (by rw [hk]; exact hvk) (by rw [Int.toNat_natCast]; exact hdk)
    have hd63 := hdm d (List.mem_of_getElem? hdk)
    have HWS := Lib.hid hws
    have HPRE := Lib.hid hpre
    have HK := Lib.hid hk
    have HTR := Lib.hid htr
    have HHV := Lib.hid (show vn < n from by omega)
    have hE1 := hE.at_ 1 rfl
    have hE6 := hE.at_ 6 rfl
    simp only [List.getElem_toArray, List.getElem_cons_zero, List.getElem_cons_succ] at hE1 hE6
    have HB := Lib.hid hb
    have HE := Lib.hid hE
    have HX := Lib.hid hX
    have HS := Lib.hid (And.intro hS hok)
    have hvn2 : vn < n := by omega
    have hm4 : m ≤ 4 := by omega
    have hw0s := hb.size
    rw [hk]
    clear hws hpre hk htr hvk hdk hvr hc hd hdm hvc hv1 hv2 hv3 hb hE hX hv0 hvn hS hok
    go_enter Try.func109, Try.ntmps109
    go_wp2_with fail
    clear hE1 hE6
    go_loopw [5] (fun t5 wr => ∃ q : Nat, q ≤ 6 ∧ t5 = .int .i64 q ∧ Hid (TBlk 3 wr gs (ints (supV c m (vis ++ belK (wordF c.vars ds) t d q))) ∧ OkT m (vis ++ belK (wordF c.vars ds) t d q)) ∧ Hid (Below w0.heap.size w0 wr) ∧ Hid (TBlk 106 wr bE #[.int .i64 c.kind, .slice (some ⟨vb, vo, none⟩) m cv, .slice aa c.args.length ca, .int .i64 c.bound, .slice ra c.rows.length cr, .slice (some ⟨ab, ao, none⟩) n cd, .slice (some ⟨gx, 0, none⟩) m m, .slice (some ⟨gs, 0, none⟩) m m]) ∧ Hid (Front m wr gx t)) (fun t5 _ => 6 - (intOf t5).toNat)
    case atStart => exact ⟨0, by omega, rfl, by rw [belK_zero, List.append_nil]; exact HS.out, HB.out, HE.out, HX.out⟩
    case round =>
      obtain ⟨q, hq, rfl, hall, hbq, hEq, hXq⟩ := hrel
      clear HB HE HX HS
      by_cases hlt : q < 6
      · have e1 := hEq.out.at_ 1 rfl
        have e5 := hEq.out.at_ 5 rfl
        have e6 := hEq.out.at_ 6 rfl
        simp only [List.getElem_toArray, List.getElem_cons_zero, List.getElem_cons_succ] at e1 e5 e6
        have ev : wr.cell? ⟨vb, vo + k, none⟩ = some (.int .i64 vn) := (hbq.out.cell (p := ⟨vb, _, none⟩) hvb).trans hvc2
        have ed : wr.cell? ⟨ab, ao + vn, none⟩ = some (.int .i64 d) := (hbq.out.cell (p := ⟨ab, _, none⟩) hab).trans hdc
        have hdh : dhB d q = hasB d q := by unfold dhB; rw [inB_mk ⟨by omega, by omega⟩]; rfl
        cases hh : hasB d q
        · have HH := Lib.hid hh
          rw [hh] at hdh
          clear hh
          go_wp2_with fail
          go_still_tail 15, (by kernel_rfl)
          go_wp2_with fail
          refine (sdomainHas _ _ hd63.1 _).mono ?_
          rw [hdh]
          rintro e W3 ⟨rfl, rfl⟩
          have hbd : Below wr.heap.size wr wr.drew := below_drewN (Below.refl _ _) 1
          have HN := Lib.hid (And.intro (hbq.out.trans (hbd.mono hbq.out.size)) (And.intro (hEq.out.below_ hbd hEq.out.lt) (And.intro (hXq.out.on hbd) (hall.out.1.below_ hbd hall.out.1.lt))))
          clear hbd
          go_wp2_with fail
          go_roundw
          case rel => exact ⟨q + 1, by omega, by go_num, by rw [belK_no HH.out]; exact ⟨HN.out.2.2.2, hall.out.2⟩, HN.out.1, HN.out.2.1, HN.out.2.2.1⟩
          case measure => simp [intOf]; omega
        · have HH := Lib.hid hh
          rw [hh] at hdh
          clear hh
          go_wp2_with fail
          go_still_tail 15, (by kernel_rfl)
          go_wp2_with fail
          refine (sdomainHas _ _ hd63.1 _).mono ?_
          rw [hdh]
          rintro e W3 ⟨rfl, rfl⟩
          have hbd : Below wr.heap.size wr wr.drew := below_drewN (Below.refl _ _) 1
          have hb3 := hbq.out.trans (hbd.mono hbq.out.size)
          have hE3 := hEq.out.below_ hbd hEq.out.lt
          have hX3 := hXq.out.on hbd
          have hS3 := (hall.out.1.below_ hbd hall.out.1.lt).far (j := k) (u := .int .i64 q) hxs.symm
          have hgE : gx ≠ bE := by
            obtain ⟨cs, _, h2, _⟩ := hX3
            exact h2.ne hE3 (by decide)
          obtain ⟨u0, hu0⟩ := hX3.cell hkm
          have hf0 := hX3.frozen k
          have hX4 := hX3.push (by have := HK.out; omega) q
          rw [HK.out] at hX4
          have hE4 := hE3.far (j := k) (u := .int .i64 q) hgE.symm
          have hb4 := hb3.setCell (p := ⟨gx, k, none⟩) hg.2.1 (.int .i64 q)
          have hI := ih (t ++ [(q : Int)]) (vis ++ belK (wordF c.vars ds) t d q) _ (by rw [List.length_append, List.length_singleton]; have := HTR.out; omega) (HPRE.out.push HWS.out (valsTo_has (by omega) (by omega) HH.out)) hb4 hE4 hX4 hS3 hall.out.2
          have hlen : (((t ++ [(q : Int)]).length : Nat) : Int) = (k : Int) + 1 := by rw [List.length_append, List.length_singleton, HK.out]; omega
          rw [hlen] at hI
          have HI := Lib.hid hI
          have E6 := hE3.at_ 6 rfl
          simp only [List.getElem_toArray, List.getElem_cons_zero, List.getElem_cons_succ] at E6
          clear hbd hb3 hE3 hX3 hS3 hX4 hE4 hb4 hI hlen ih e1 e5 e6 ev ed
          go_wp2_with fail
          refine HI.out.mono ?_
          rintro e W5 ⟨⟨v5, rfl⟩, hb5, hE5, hX5, hS5, hok5⟩
          have HN := Lib.hid (And.intro hb5 (And.intro hE5 (And.intro hX5.pop (And.intro hS5 hok5))))
          clear hb5 hE5 hX5 HI E6 hu0 hf0 hS5 hok5
          go_wp2_with fail
          go_roundw
          case rel => exact ⟨q + 1, by omega, by go_num, by rw [belK_yes HH.out, ← List.append_assoc]; exact HN.out.2.2.2, HN.out.1, HN.out.2.1, HN.out.2.2.1⟩
          case measure => simp [intOf]; omega
      · obtain rfl : q = 6 := by omega
        go_wp2_with fail
        refine bodyPost_end (results_none rfl _ _ _) rfl ?_
        have := hall.out
        rw [belK_six HWS.out] at this
        exact ⟨⟨_, rfl⟩, hbq.out, hEq.out, hXq.out, this⟩
set_option maxHeartbeats 16000000 in
theorem ssupported (us : List Value) (c : Con) (A : Option Addr) (n d : Nat) (ds : List Int) (w : World) (h : ConR w w.heap.size us c) (hx : IntR w w.heap.size A n ds) (hvc : vconF c n = true) (hn1 : 1 ≤ n) (hl4 : n ≤ 4) (hdoms : Doms ds) :
    Calls Try.prog 64 #[.agg us.toArray, .slice A n d] w fun e w' => ∃ v', e = .returned v' ∧ HoldR w' w.heap.size 3 1 v' n ((filF c ds).map (.int .i64)) ∧ Below w.heap.size w w' := by
  obtain ⟨i0, hi0, hz0, hz1, hz2⟩ := info_parts info_int
  have hl := Lib.hid hx.len
  obtain ⟨va, aa, ra, cv, ca, cr, rfl, hvr, -⟩ := id h
  have hvp := Lib.hid (vcon_vars hvc hl4)
  obtain ⟨m, hm⟩ : ∃ m, c.vars.length = m := ⟨_, rfl⟩
  have hm1 : 1 ≤ m ∧ m ≤ 4 := by have := hvp.out.1; omega
  rw [hm] at hvr
  obtain ⟨Z, hZ, hmk⟩ := make_blk1 (P := Try.prog) 23 3 i0 _ Try.underlying23 hi0 hz0 hz1 rfl m (by rw [hz2]; omega) (by unfold maxLen; omega)
  obtain rfl : Z = ints (List.replicate m 0) := ints_zero hZ
  obtain ⟨wa, hwa⟩ : ∃ wa, wa = w.alloc (.cells #[.int .i64 c.kind, .slice va m cv, .slice aa c.args.length ca, .int .i64 c.bound, .slice ra c.rows.length cr] 35) := ⟨_, rfl⟩
  have hb0 : Below w.heap.size w wa := by rw [hwa]; exact b_alloc _ _
  have ha : CBlk wa w.heap.size (.int .i64 c.kind) (.slice va m cv) (.slice aa c.args.length ca) (.int .i64 c.bound) (.slice ra c.rows.length cr) := by rw [hwa]; exact CBlk.new w _ _ _ _ _
  have hsw : w.heap.size < wa.heap.size := ha.lt
  have HC0 := Lib.hid h
  have HX0 := Lib.hid hx
  have HV0 := Lib.hid hvr
  have HA := Lib.hid ha
  have HM := Lib.hid hm
  have HV := Lib.hid hvc
  have HDM := Lib.hid hdoms
  obtain ⟨a0, a1, a2, a3, a4⟩ := ha.cells
  rw [hm]
  clear ha h hx hvr hZ hm hvc hdoms
  go_enter Try.func64, Try.ntmps64
  go_wp2_with fail
  rw [← hwa]
  clear hwa
  have hSk : ∀ w', Below wa.heap.size wa w' → w'.cell? ⟨w.heap.size, 0, none⟩ = some (.int .i64 c.kind) ∧ w'.cell? ⟨w.heap.size, 1, none⟩ = some (.slice va m cv) ∧ w'.cell? ⟨w.heap.size, 2, none⟩ = some (.slice aa c.args.length ca) ∧ w'.cell? ⟨w.heap.size, 3, none⟩ = some (.int .i64 c.bound) ∧ w'.cell? ⟨w.heap.size, 4, none⟩ = some (.slice ra c.rows.length cr) :=
    fun w' hb => ⟨(hb.cell (p := ⟨_, _, none⟩) hsw).trans a0, (hb.cell (p := ⟨_, _, none⟩) hsw).trans a1, (hb.cell (p := ⟨_, _, none⟩) hsw).trans a2, (hb.cell (p := ⟨_, _, none⟩) hsw).trans a3, (hb.cell (p := ⟨_, _, none⟩) hsw).trans a4⟩
  clear a0 a1 a2 a3 a4
  have hbd : Below wa.heap.size wa wa.drew := below_drewN (Below.refl _ _) 1
  go_region_held3 (fun w' => w'.cell? ⟨w.heap.size, 0, none⟩ = some (.int .i64 c.kind) ∧ w'.cell? ⟨w.heap.size, 1, none⟩ = some (.slice va m cv) ∧ w'.cell? ⟨w.heap.size, 2, none⟩ = some (.slice aa c.args.length ca) ∧ w'.cell? ⟨w.heap.size, 3, none⟩ = some (.int .i64 c.bound) ∧ w'.cell? ⟨w.heap.size, 4, none⟩ = some (.slice ra c.rows.length cr))
    (first | exact hSk _ hbd | exact hSk _ (hbd.alloc (Nat.le_refl _) _) | exact hSk _ ((hbd.alloc (Nat.le_refl _) _).alloc (by simp) _) | exact hSk _ (((hbd.alloc (Nat.le_refl _) _).alloc (by simp) _).alloc (by simp; omega) _))
    (fail)
  · obtain ⟨L, hL⟩ : ∃ L, wa.heap.size = L := ⟨_, rfl⟩
    obtain ⟨W4, hW4⟩ : ∃ W4 : World, (((wa.alloc (.cells (ints (List.replicate m 0)) 3)).alloc (.cells (ints (List.replicate m 0)) 3)).alloc (.cells #[.int .i64 c.kind, .slice va m cv, .slice aa c.args.length ca, .int .i64 c.bound, .slice ra c.rows.length cr, .slice A n d, .slice (some ⟨wa.heap.size, 0, none⟩) m m, .slice (some ⟨wa.heap.size + 1, 0, none⟩) m m] 106)).drew = W4 := ⟨_, rfl⟩
    have hb4 : Below wa.heap.size wa W4 := by rw [← hW4]; exact below_drewN (((b_alloc _ _).alloc (by simp) _).alloc (by simp; omega) _) 1
    have hX4 : TBlk 3 W4 L (ints (List.replicate m 0)) := by rw [← hW4]; exact (((TBlk.newAt hL.symm).alloc_ _).alloc_ _).drewN_ 1
    have hS4 : TBlk 3 W4 (L + 1) (ints (supV c m [])) := by rw [← hW4]; exact ((TBlk.newAt (by simp [hL])).alloc_ _).drewN_ 1
    have hE4 : TBlk 106 W4 (L + 1 + 1) #[.int .i64 c.kind, .slice va m cv, .slice aa c.args.length ca, .int .i64 c.bound, .slice ra c.rows.length cr, .slice A n d, .slice (some ⟨L, 0, none⟩) m m, .slice (some ⟨(L + 1), 0, none⟩) m m] := by rw [← hW4, ← hL]; exact (TBlk.newAt (by simp)).drewN_ 1
    have HB0 := Lib.hid hb0
    have HQ := Lib.hid (And.intro hX4 (And.intro hS4 (And.intro hE4 hb4)))
    rw [hW4, hL]
    have HLL := Lib.hid (And.intro hL hsw)
    clear hX4 hS4 hE4 hW4 hL hb4 hbd hSk hsw hb0 hmk
    go_wp2_with fail
    obtain ⟨hX4, hS4, hE4, hb4⟩ := HQ.out
    have hI := swalk (L + 1 + 1) L (L + 1) m n d c va aa ra cv ca cr ds A wa (ConR.on HC0.out HB0.out) (IntR.on HX0.out HB0.out) HDM.out HV.out hl4 HM.out (by have := HLL.out; exact ⟨by omega, by omega, by omega⟩) (by omega) m [] [] W4 (by simp) (fun j d v _ hv => by simp at hv) hb4 hE4 ⟨_, by simp [ints], hX4, fun j x hj => by simp at hj⟩ hS4 (fun t ht => by simp at ht)
    have HI := Lib.hid hI
    clear hX4 hS4 hE4 hb4 hI HQ
    refine HI.out.mono ?_
    rintro e W5 ⟨⟨v5, rfl⟩, hb5, hE5, -, hS5, hok5⟩
    rw [List.nil_append, extT_nil] at hS5 hok5
    obtain ⟨sup, hsup⟩ : ∃ sup, supV c m (allT (wordF c.vars ds)) = sup := ⟨_, rfl⟩
    rw [hsup] at hS5
    have hsupl : sup.length = m := by rw [← hsup]; exact (supV_ok (c := c) hok5).2
    have HFIL := Lib.hid (show filF c ds = putTo ds c.vars sup m by unfold filF; rw [HM.out, hsup])
    have HSL := Lib.hid hsupl
    have hbw5 : Below w.heap.size w W5 := bgo HB0.out hb5
    have HQ5 := Lib.hid (And.intro hbw5 (And.intro hE5 (And.intro hS5 (HA.out.below hb5 HA.out.lt))))
    have GX5 := Lib.hid (IntR.on HX0.out hbw5)
    clear hb5 hbw5 hE5 hS5 hok5 hsup hsupl HI
    go_wp2_with fail
    refine (scopyRF _ _ _ ds _ GX5.out (by omega) (by omega)).mono ?_
    rintro e w6 ⟨v6, rfl, ho6, hb6⟩
    obtain ⟨A6, c6, rfl⟩ := (HoldR.of_own ho6.1).form
    have h60 : HoldR w6 W5.heap.size 3 1 (.slice A6 n c6) n ((putTo ds c.vars sup 0).map (.int .i64)) := by have := HoldR.of_own ho6.1; rw [hl.out] at this; exact this
    rw [hl.out]
    obtain ⟨g6, rfl, hg6, -⟩ := h60.pos (by omega)
    clear ho6
    have f1 := (HQ5.out.2.2.2.below hb6 HQ5.out.2.2.2.lt).cells.2.1
    have HW6 := Lib.hid (show w.heap.size < W5.heap.size from HQ5.out.2.2.2.lt)
    go_wp2_with fail
    clear f1
    go_loopw [7] (fun t7 wr => ∃ k : Nat, k ≤ m ∧ t7 = .int .i64 k ∧ Hid (HoldR wr W5.heap.size 3 1 (.slice (some ⟨g6, 0, none⟩) n c6) n ((putTo ds c.vars sup k).map (.int .i64))) ∧ Hid (Below W5.heap.size W5 wr)) (fun t7 _ => m - (intOf t7).toNat)
    case atStart => exact ⟨0, by omega, rfl, h60, hb6⟩
    case round =>
      obtain ⟨k, hk, rfl, hhk, hbk⟩ := hrel
      clear h60 hb6
      obtain ⟨q2, q3, q4, q5⟩ := HQ5.out
      have f1 := (q5.below hbk.out q5.lt).cells.2.1
      by_cases hlt : k < m
      · have hsl := HSL.out
        obtain ⟨a, ha⟩ : ∃ a, sup[k]? = some a := ⟨_, List.getElem?_eq_getElem (by omega)⟩
        obtain ⟨vb, vo, v, hva, hvb, hvk, hvc2⟩ := HV0.out.at_ hlt
        obtain ⟨hv0, hvn⟩ := hvp.out.2.1 v (List.mem_of_getElem? hvk)
        obtain ⟨vn, rfl⟩ : ∃ vn : Nat, v = (vn : Int) := ⟨v.toNat, by omega⟩
        have hvn2 : vn < n := by omega
        subst hva
        have e1 : wr.cell? ⟨vb, vo + k, none⟩ = some (.int .i64 vn) := ((hbk.out.cell (p := ⟨vb, _, none⟩) (show vb < W5.heap.size by have := HW6.out; omega)).trans (q2.cell (p := ⟨vb, _, none⟩) hvb)).trans hvc2
        have e2 := (q3.below_ hbk.out q3.lt).at_ 7 rfl
        simp only [List.getElem_toArray, List.getElem_cons_zero, List.getElem_cons_succ] at e2
        have e3 := (q4.below_ hbk.out q4.lt).at_ k (ints_at ha)
        obtain ⟨u, hu⟩ : ∃ u, ((putTo ds c.vars sup k).map (Value.int .i64))[vn]? = some u := ⟨_, List.getElem?_eq_getElem (by rw [List.length_map, putTo_len, hl.out]; exact hvn2)⟩
        have e4 : wr.cell? ⟨g6, vn, none⟩ = some u := by rw [hhk.out.cellAt vn (by omega), hu]
        have e5 : wr.frozen? ⟨g6, vn, none⟩ = false := hhk.out.frozenAt vn
        have hdw : Below wr.heap.size wr wr.drew := below_drewN (Below.refl _ _) 1
        have hst := (hhk.out.below hdw).stored vn (.int .i64 a)
        rw [← List.map_set, ← putTo_succ hvk ha] at hst
        have HST := Lib.hid hst
        have HBS := Lib.hid ((below_drewN hbk.out 1).setCell (p := ⟨g6, vn, none⟩) hg6 (.int .i64 a))
        clear q2 q3 q4 q5 ha hvk hu hst hv0 hvn hsl hdw
        go_wp2_with fail
        go_still_tail 14, (by kernel_rfl)
        go_wp2_with fail
        go_roundw
        case rel => exact ⟨k + 1, by omega, by go_num, HST.out, HBS.out⟩
        case measure => simp [intOf]; omega
      · obtain rfl : k = m := by omega
        clear q3 q4 q5
        go_wp2_with fail
        go_ret
        refine ⟨_, rfl, ?_, q2.trans (hbk.out.mono (by have := HW6.out; omega))⟩
        rw [HFIL.out]
        exact hhk.out.base_ (by have := HW6.out; omega)
  · obtain ⟨L, hL⟩ : ∃ L, wa.heap.size = L := ⟨_, rfl⟩
    obtain ⟨W4, hW4⟩ : ∃ W4 : World, (((wa.alloc (.cells (ints (List.replicate m 0)) 3)).alloc (.cells (ints (List.replicate m 0)) 3)).alloc (.cells #[.int .i64 c.kind, .slice va m cv, .slice aa c.args.length ca, .int .i64 c.bound, .slice ra c.rows.length cr, .slice A n d, .slice (some ⟨wa.heap.size + 1, 0, none⟩) m m, .slice (some ⟨wa.heap.size, 0, none⟩) m m] 106)).drew = W4 := ⟨_, rfl⟩
    have hb4 : Below wa.heap.size wa W4 := by rw [← hW4]; exact below_drewN (((b_alloc _ _).alloc (by simp) _).alloc (by simp; omega) _) 1
    have hX4 : TBlk 3 W4 (L + 1) (ints (List.replicate m 0)) := by rw [← hW4]; exact ((TBlk.newAt (by simp [hL])).alloc_ _).drewN_ 1
    have hS4 : TBlk 3 W4 L (ints (supV c m [])) := by rw [← hW4]; exact (((TBlk.newAt hL.symm).alloc_ _).alloc_ _).drewN_ 1
    have hE4 : TBlk 106 W4 (L + 1 + 1) #[.int .i64 c.kind, .slice va m cv, .slice aa c.args.length ca, .int .i64 c.bound, .slice ra c.rows.length cr, .slice A n d, .slice (some ⟨(L + 1), 0, none⟩) m m, .slice (some ⟨L, 0, none⟩) m m] := by rw [← hW4, ← hL]; exact (TBlk.newAt (by simp)).drewN_ 1
    have HB0 := Lib.hid hb0
    have HQ := Lib.hid (And.intro hX4 (And.intro hS4 (And.intro hE4 hb4)))
    rw [hW4, hL]
    have HLL := Lib.hid (And.intro hL hsw)
    clear hX4 hS4 hE4 hW4 hL hb4 hbd hSk hsw hb0 hmk
    go_wp2_with fail
    obtain ⟨hX4, hS4, hE4, hb4⟩ := HQ.out
    have hI := swalk (L + 1 + 1) (L + 1) L m n d c va aa ra cv ca cr ds A wa (ConR.on HC0.out HB0.out) (IntR.on HX0.out HB0.out) HDM.out HV.out hl4 HM.out (by have := HLL.out; exact ⟨by omega, by omega, by omega⟩) (by omega) m [] [] W4 (by simp) (fun j d v _ hv => by simp at hv) hb4 hE4 ⟨_, by simp [ints], hX4, fun j x hj => by simp at hj⟩ hS4 (fun t ht => by simp at ht)
    have HI := Lib.hid hI
    clear hX4 hS4 hE4 hb4 hI HQ
    refine HI.out.mono ?_
    rintro e W5 ⟨⟨v5, rfl⟩, hb5, hE5, -, hS5, hok5⟩
    rw [List.nil_append, extT_nil] at hS5 hok5
    obtain ⟨sup, hsup⟩ : ∃ sup, supV c m (allT (wordF c.vars ds)) = sup := ⟨_, rfl⟩
    rw [hsup] at hS5
    have hsupl : sup.length = m := by rw [← hsup]; exact (supV_ok (c := c) hok5).2
    have HFIL := Lib.hid (show filF c ds = putTo ds c.vars sup m by unfold filF; rw [HM.out, hsup])
    have HSL := Lib.hid hsupl
    have hbw5 : Below w.heap.size w W5 := bgo HB0.out hb5
    have HQ5 := Lib.hid (And.intro hbw5 (And.intro hE5 (And.intro hS5 (HA.out.below hb5 HA.out.lt))))
    have GX5 := Lib.hid (IntR.on HX0.out hbw5)
    clear hb5 hbw5 hE5 hS5 hok5 hsup hsupl HI
    go_wp2_with fail
    refine (scopyRF _ _ _ ds _ GX5.out (by omega) (by omega)).mono ?_
    rintro e w6 ⟨v6, rfl, ho6, hb6⟩
    obtain ⟨A6, c6, rfl⟩ := (HoldR.of_own ho6.1).form
    have h60 : HoldR w6 W5.heap.size 3 1 (.slice A6 n c6) n ((putTo ds c.vars sup 0).map (.int .i64)) := by have := HoldR.of_own ho6.1; rw [hl.out] at this; exact this
    rw [hl.out]
    obtain ⟨g6, rfl, hg6, -⟩ := h60.pos (by omega)
    clear ho6
    have f1 := (HQ5.out.2.2.2.below hb6 HQ5.out.2.2.2.lt).cells.2.1
    have HW6 := Lib.hid (show w.heap.size < W5.heap.size from HQ5.out.2.2.2.lt)
    go_wp2_with fail
    clear f1
    go_loopw [7] (fun t7 wr => ∃ k : Nat, k ≤ m ∧ t7 = .int .i64 k ∧ Hid (HoldR wr W5.heap.size 3 1 (.slice (some ⟨g6, 0, none⟩) n c6) n ((putTo ds c.vars sup k).map (.int .i64))) ∧ Hid (Below W5.heap.size W5 wr)) (fun t7 _ => m - (intOf t7).toNat)
    case atStart => exact ⟨0, by omega, rfl, h60, hb6⟩
    case round =>
      obtain ⟨k, hk, rfl, hhk, hbk⟩ := hrel
      clear h60 hb6
      obtain ⟨q2, q3, q4, q5⟩ := HQ5.out
      have f1 := (q5.below hbk.out q5.lt).cells.2.1
      by_cases hlt : k < m
      · have hsl := HSL.out
        obtain ⟨a, ha⟩ : ∃ a, sup[k]? = some a := ⟨_, List.getElem?_eq_getElem (by omega)⟩
        obtain ⟨vb, vo, v, hva, hvb, hvk, hvc2⟩ := HV0.out.at_ hlt
        obtain ⟨hv0, hvn⟩ := hvp.out.2.1 v (List.mem_of_getElem? hvk)
        obtain ⟨vn, rfl⟩ : ∃ vn : Nat, v = (vn : Int) := ⟨v.toNat, by omega⟩
        have hvn2 : vn < n := by omega
        subst hva
        have e1 : wr.cell? ⟨vb, vo + k, none⟩ = some (.int .i64 vn) := ((hbk.out.cell (p := ⟨vb, _, none⟩) (show vb < W5.heap.size by have := HW6.out; omega)).trans (q2.cell (p := ⟨vb, _, none⟩) hvb)).trans hvc2
        have e2 := (q3.below_ hbk.out q3.lt).at_ 7 rfl
        simp only [List.getElem_toArray, List.getElem_cons_zero, List.getElem_cons_succ] at e2
        have e3 := (q4.below_ hbk.out q4.lt).at_ k (ints_at ha)
        obtain ⟨u, hu⟩ : ∃ u, ((putTo ds c.vars sup k).map (Value.int .i64))[vn]? = some u := ⟨_, List.getElem?_eq_getElem (by rw [List.length_map, putTo_len, hl.out]; exact hvn2)⟩
        have e4 : wr.cell? ⟨g6, vn, none⟩ = some u := by rw [hhk.out.cellAt vn (by omega), hu]
        have e5 : wr.frozen? ⟨g6, vn, none⟩ = false := hhk.out.frozenAt vn
        have hdw : Below wr.heap.size wr wr.drew := below_drewN (Below.refl _ _) 1
        have hst := (hhk.out.below hdw).stored vn (.int .i64 a)
        rw [← List.map_set, ← putTo_succ hvk ha] at hst
        have HST := Lib.hid hst
        have HBS := Lib.hid ((below_drewN hbk.out 1).setCell (p := ⟨g6, vn, none⟩) hg6 (.int .i64 a))
        clear q2 q3 q4 q5 ha hvk hu hst hv0 hvn hsl hdw
        go_wp2_with fail
        go_still_tail 14, (by kernel_rfl)
        go_wp2_with fail
        go_roundw
        case rel => exact ⟨k + 1, by omega, by go_num, HST.out, HBS.out⟩
        case measure => simp [intOf]; omega
      · obtain rfl : k = m := by omega
        clear q3 q4 q5
        go_wp2_with fail
        go_ret
        refine ⟨_, rfl, ?_, q2.trans (hbk.out.mono (by have := HW6.out; omega))⟩
        rw [HFIL.out]
        exact hhk.out.base_ (by have := HW6.out; omega)
set_option maxHeartbeats 4000000 in
theorem sFilter (us : List Value) (c : Con) (A : Option Addr) (n d : Nat) (ds : List Int) (w : World) (h : ConR w w.heap.size us c) (hx : IntR w w.heap.size A n ds) :
    Calls Try.prog 24 #[.agg us.toArray, .slice A n d] w fun e w' => ∃ v', e = .returned v' ∧ HoldR w' w.heap.size 3 1 v' (filtF c ds).length ((filtF c ds).map (.int .i64)) ∧ Below w.heap.size w w' := by
  have hl := Lib.hid hx.len
  obtain ⟨va, aa, ra, cv, ca, cr, rfl, -⟩ := id h
  obtain ⟨wa, hwa⟩ : ∃ wa, wa = w.alloc (.cells #[.int .i64 c.kind, .slice va c.vars.length cv, .slice aa c.args.length ca, .int .i64 c.bound, .slice ra c.rows.length cr] 35) := ⟨_, rfl⟩
  have hb0 : Below w.heap.size w wa := by rw [hwa]; exact b_alloc _ _
  have ha : CBlk wa w.heap.size (.int .i64 c.kind) (.slice va c.vars.length cv) (.slice aa c.args.length ca) (.int .i64 c.bound) (.slice ra c.rows.length cr) := by rw [hwa]; exact CBlk.new w _ _ _ _ _
  have HC0 := Lib.hid h
  have HX0 := Lib.hid hx
  have HA := Lib.hid ha
  obtain ⟨a0, a1, a2, a3, a4⟩ := ha.cells
  clear ha h hx
  go_enter Try.func24, Try.ntmps24
  go_wp2_with fail
  rw [← hwa]
  clear hwa
  refine (svalidDomainsF _ _ _ _ _ (IntR.on HX0.out hb0)).mono ?_
  rintro e w1 ⟨rfl, hw1⟩
  have hb1 : Below wa.heap.size wa w1 := by rw [← hw1]; exact Below.refl _ _
  clear hw1
  have HB1 := Lib.hid (bgo hb0 hb1)
  have HA1 := Lib.hid (HA.out.below hb1 HA.out.lt)
  obtain ⟨c0, c1, c2, c3, c4⟩ := HA1.out.cells
  clear a0 a1 a2 a3 a4 hb1 hb0 HA
  cases t0 : dokF ds
  · have HE := Lib.hid (show filtF c ds = [] by unfold filtF; rw [t0]; rfl)
    clear t0
    go_wp2_with fail
    go_ret
    exact ⟨_, rfl, by rw [HE.out]; exact HoldR.nil _ _ _ _, HB1.out⟩
  obtain ⟨hl1, hl4, hdoms⟩ := dok_parts t0
  have HDM := Lib.hid hdoms
  rw [hl.out] at hl1 hl4
  have HD := Lib.hid t0
  clear t0 hdoms
  go_wp2_with fail
  refine (svalidConstraint _ c _ _ (ConR.on HC0.out HB1.out)).mono ?_
  rintro e w2 ⟨rfl, hb2⟩
  have HB2 := Lib.hid (bgo HB1.out hb2)
  have HA2 := Lib.hid (HA1.out.below hb2 HA1.out.lt)
  obtain ⟨d0, d1, d2, d3, d4⟩ := HA2.out.cells
  clear c0 c1 c2 c3 c4 hb2 HB1 HA1
  cases t0 : vconF c (n : Int)
  · have HE := Lib.hid (show filtF c ds = [] by unfold filtF; rw [hl.out, t0]; simp)
    clear t0
    go_wp2_with fail
    go_ret
    exact ⟨_, rfl, by rw [HE.out]; exact HoldR.nil _ _ _ _, HB2.out⟩
  have HE := Lib.hid (show filtF c ds = filF c ds by unfold filtF; rw [hl.out, t0, HD.out]; simp)
  have HV := Lib.hid t0
  clear t0
  go_wp2_with fail
  refine (ssupported _ c _ _ _ ds _ (ConR.on HC0.out HB2.out) (IntR.on HX0.out HB2.out) HV.out hl1 hl4 HDM.out).mono ?_
  rintro e w3 ⟨v', rfl, hh, hb3⟩
  have HH := Lib.hid (And.intro (hh.base_ HB2.out.size) (bgo HB2.out hb3))
  clear hh hb3
  go_wp2_with fail
  go_ret
  refine ⟨_, rfl, ?_, HH.out.2⟩
  rw [HE.out, filF_len, hl.out]
  exact HH.out.1
end Go.Proofs.Ytejfnkbdmlijbaa
/- IsConsistent. -/
namespace Go.Proofs.Ytejfnkbdmlijbaa
open Go.ChangeShapes Go.WideShapes Go.ChangeAt Go.RowKit
open Go.Shelf
set_option linter.unusedVariables false
set_option maxRecDepth 100000

/-- filtering with any constraint changes nothing. -/
def stillF (m : Mod) : Bool := m.cons.all fun c => decide (filF c m.doms = m.doms)
def icsF (m : Mod) : Bool := vmodF m && (!decide ((0 : Int) ∈ m.doms) && stillF m)
set_option maxHeartbeats 4000000 in
theorem shasEmpty (A : Option Addr) (n c : Nat) (xs : List Int) (w : World) (h : IntR w w.heap.size A n xs) :
    Calls Try.prog 116 #[.slice A n c] w fun e w' => e = .returned (.bool (decide ((0 : Int) ∈ xs))) ∧ w = w' := by
  have hn := h.le
  have hl := Lib.hid h.len
  go_enter Try.func116, Try.ntmps116
  go_wp2_with fail
  go_loop [3] (fun i => ∃ k : Nat, k ≤ n ∧ i = .int .i64 k ∧ Hid (AllB (fun x => !(x == 0)) xs k)) (fun i => n - (intOf i).toNat)
  case atStart => exact ⟨0, by omega, rfl, AllB.zero _ _⟩
  case round =>
    obtain ⟨k, hk, rfl, hq⟩ := hrel
    by_cases hlt : k < n
    · obtain ⟨ab, ao, x, rfl, hab, hxk, hcx⟩ := IntR.at_ h hlt
      have HXK := Lib.hid hxk
      clear hxk
      by_cases hx0 : x = 0
      · subst hx0
        have HE := Lib.hid (decide_eq_true (List.mem_of_getElem? HXK.out))
        go_wp2_with fail
        go_ret
        exact ⟨ret_bool HE.out.symm, rfl⟩
      · have hne : (x == 0) = false := by simpa using hx0
        have HV := Lib.hid (show (!(x == 0)) = true by rw [hne]; rfl)
        clear hx0
        go_wp2_with fail
        go_round
        case rel => exact ⟨k + 1, by omega, by go_num, AllB.succ hq.out HXK.out HV.out⟩
        case measure => simp [intOf]; omega
    · obtain rfl : k = n := by omega
      have HE := Lib.hid (decide_eq_false (fun h0 : (0 : Int) ∈ xs => by
        have := AllB.done hq.out (Nat.le_of_eq hl.out)
        have := List.all_eq_true.1 this 0 h0
        simp at this))
      go_wp2_with fail
      go_ret
      exact ⟨ret_bool HE.out.symm, rfl⟩
set_option maxHeartbeats 8000000 in
theorem sisConsistent (us : List Value) (m : Mod) (A : Option Addr) (n d : Nat) (w : World) (h : ModR w w.heap.size us m) (hx : IntR w w.heap.size A n m.doms) (hm : ModOk m) :
    Calls Try.prog 115 #[.agg us.toArray, .slice A n d] w fun e w' => e = .returned (.bool (stillF m)) ∧ Below w.heap.size w w' := by
  have hl := Lib.hid hx.len
  have HM := Lib.hid hm
  have hn1 : 1 ≤ n := by have := hm.one; have := hx.len; omega
  have hn4 : n ≤ 4 := by have := hm.four; have := hx.len; omega
  obtain ⟨da, ca, cd, cc, rfl, g1, g2, -⟩ := h
  obtain ⟨wa, hwa⟩ : ∃ wa, wa = w.alloc (.cells #[.slice da m.doms.length cd, .slice ca m.cons.length cc] 26) := ⟨_, rfl⟩
  have hb0 : Below w.heap.size w wa := by rw [hwa]; exact b_alloc _ _
  have ha : TBlk 26 wa w.heap.size #[.slice da m.doms.length cd, .slice ca m.cons.length cc] := by rw [hwa]; exact TBlk.new _ _ _
  have hsw : w.heap.size < wa.heap.size := ha.lt
  have HA := Lib.hid ha
  have HX0 := Lib.hid hx
  have HG2 := Lib.hid g2
  have H2 := Lib.hid (ConsR.on g2 hb0)
  obtain ⟨nc, hnc⟩ : ∃ nc, m.cons.length = nc := ⟨_, rfl⟩
  have hnc6 : nc ≤ 6 := by have := hm.six; omega
  have HNC := Lib.hid hnc
  rw [hnc] at ha H2 HA ⊢
  rw [hnc] at HG2
  clear hx g1 g2 hm ha hnc
  go_enter Try.func115, Try.ntmps115
  rw [HNC.out] at hwa
  go_wp2_with fail
  rw [← hwa]
  clear hwa
  go_loopw [5] (fun t5 wr => ∃ k : Nat, k ≤ nc ∧ t5 = .int .i64 k ∧ Hid (AllB (fun c => decide (filF c m.doms = m.doms)) m.cons k) ∧ Hid (Below wa.heap.size wa wr)) (fun t5 _ => nc - (intOf t5).toNat)
  case atStart => exact ⟨0, by omega, rfl, AllB.zero _ _, Below.refl _ _⟩
  case round =>
    obtain ⟨k, hk, rfl, hq, hbk⟩ := hrel
    have e1 := (HA.out.below_ hbk.out HA.out.lt).at_ 1 rfl
    by_cases hlt : k < nc
    · obtain ⟨ab, ao, c, va, aa, ra, cv, ca', cr, rfl, hab, hxk, c0, c1, c2, c3, c4, hc⟩ := ConR.at_ (SlK.below ConR.keeps H2.out hbk.out) hlt
      have HC := Lib.hid (ConR.widens _ _ _ _ _ hbk.out.size hc)
      have HVC := Lib.hid (show vconF c (n : Int) = true by rw [← hl.out]; exact HM.out.cons c (List.mem_of_getElem? hxk))
      have HXK := Lib.hid hxk
      have HBW := Lib.hid (bgo hb0 hbk.out)
      clear hc hxk
      go_wp2_with fail
      refine (ssupported _ c _ _ _ m.doms _ HC.out (IntR.on HX0.out HBW.out) HVC.out hn1 hn4 HM.out.doms).mono ?_
      rintro e w3 ⟨v3, rfl, hh3, hb3⟩
      obtain ⟨A3, c3', rfl, r3⟩ := IntR.of_hold hh3 (by omega)
      have HBW3 := Lib.hid (bgo HBW.out hb3)
      have HBK3 := Lib.hid (hbk.out.trans (hb3.mono hbk.out.size))
      clear hh3 hb3 c0 c1 c2 c3 c4 e1
      go_wp2_with fail
      refine (sequalInts _ _ _ _ _ _ _ _ _ r3 (IntR.on HX0.out HBW3.out)).mono ?_
      rintro e w4 ⟨rfl, hb4⟩
      have HBK4 := Lib.hid (HBK3.out.trans (hb4.mono HBK3.out.size))
      clear hb4 r3
      by_cases hs : filF c m.doms = m.doms
      · have HT := Lib.hid (decide_eq_true hs)
        rw [HT.out]
        clear hs
        go_wp2_with fail
        go_roundw
        case rel => exact ⟨k + 1, by omega, by go_num, AllB.succ hq.out HXK.out HT.out, HBK4.out⟩
        case measure => simp [intOf]; omega
      · have HT := Lib.hid (decide_eq_false hs)
        have HE := Lib.hid (show stillF m = false from all_no (f := fun c => decide (filF c m.doms = m.doms)) HXK.out HT.out)
        rw [HT.out]
        clear hs
        go_wp2_with fail
        go_ret
        exact ⟨ret_bool HE.out.symm, bgo hb0 HBK4.out⟩
    · obtain rfl : k = nc := by omega
      have HE := Lib.hid (show stillF m = true from AllB.done hq.out (Nat.le_of_eq HNC.out))
      go_wp2_with fail
      go_ret
      exact ⟨ret_bool HE.out.symm, bgo hb0 hbk.out⟩
end Go.Proofs.Ytejfnkbdmlijbaa
/- The fixpoint of filtering: both sides. -/
namespace Go.Proofs.Ytejfnkbdmlijbaa
open Go.ChangeShapes Go.WideShapes Go.ChangeAt Go.RowKit
open Go.Shelf
set_option linter.unusedVariables false
set_option linter.unusedSimpArgs false
set_option maxRecDepth 100000

theorem still_iff {cs : List Con} {ds : List Int} (hv : DiffC cs ds.length) (hd : Doms ds) : stillF ⟨ds, cs⟩ = decide (foldF cs ds = ds) := by
  rw [Bool.eq_iff_iff, decide_eq_true_eq, ← conF_iff hv hd]
  unfold stillF conF
  simp
theorem zmem_iff (ds : List Int) : decide ((0 : Int) ∈ ds) = hasZ ds := by
  rw [Bool.eq_iff_iff]; unfold hasZ; simp
theorem foldF_snoc {cs : List Con} {k : Nat} {c : Con} (h : cs[k]? = some c) (ds : List Int) : foldF (cs.take (k + 1)) ds = filF c (foldF (cs.take k) ds) := by
  rw [List.take_add_one, h]
  unfold foldF
  rw [List.foldl_append]
  rfl
set_option maxHeartbeats 8000000 in
theorem sisConsistentD (us : List Value) (m : Mod) (ds : List Int) (A : Option Addr) (n d : Nat) (w : World) (h : ModR w w.heap.size us m) (hx : IntR w w.heap.size A n ds) (hn1 : 1 ≤ n) (hn4 : n ≤ 4) (h6 : m.cons.length ≤ 6) (hcs : ∀ c ∈ m.cons, vconF c (n : Int) = true) (hdd : Doms ds) :
    Calls Try.prog 115 #[.agg us.toArray, .slice A n d] w fun e w' => e = .returned (.bool (stillF ⟨ds, m.cons⟩)) ∧ Below w.heap.size w w' := by
  have hl := Lib.hid hx.len
  have HCS := Lib.hid hcs
  have HDD := Lib.hid hdd
  obtain ⟨da, ca, cd, cc, rfl, g1, g2, -⟩ := h
  obtain ⟨wa, hwa⟩ : ∃ wa, wa = w.alloc (.cells #[.slice da m.doms.length cd, .slice ca m.cons.length cc] 26) := ⟨_, rfl⟩
  have hb0 : Below w.heap.size w wa := by rw [hwa]; exact b_alloc _ _
  have ha : TBlk 26 wa w.heap.size #[.slice da m.doms.length cd, .slice ca m.cons.length cc] := by rw [hwa]; exact TBlk.new _ _ _
  have hsw : w.heap.size < wa.heap.size := ha.lt
  have HA := Lib.hid ha
  have HX0 := Lib.hid hx
  have HG2 := Lib.hid g2
  have H2 := Lib.hid (ConsR.on g2 hb0)
  obtain ⟨nc, hnc⟩ : ∃ nc, m.cons.length = nc := ⟨_, rfl⟩
  have hnc6 : nc ≤ 6 := by omega
  have HNC := Lib.hid hnc
  rw [hnc] at ha H2 HA ⊢
  rw [hnc] at HG2
  clear hx g1 g2 hcs hdd ha hnc h6
  go_enter Try.func115, Try.ntmps115
  rw [HNC.out] at hwa
  go_wp2_with fail
  rw [← hwa]
  clear hwa
  go_loopw [5] (fun t5 wr => ∃ k : Nat, k ≤ nc ∧ t5 = .int .i64 k ∧ Hid (AllB (fun c => decide (filF c ds = ds)) m.cons k) ∧ Hid (Below wa.heap.size wa wr)) (fun t5 _ => nc - (intOf t5).toNat)
  case atStart => exact ⟨0, by omega, rfl, AllB.zero _ _, Below.refl _ _⟩
  case round =>
    obtain ⟨k, hk, rfl, hq, hbk⟩ := hrel
    have e1 := (HA.out.below_ hbk.out HA.out.lt).at_ 1 rfl
    by_cases hlt : k < nc
    · obtain ⟨ab, ao, c, va, aa, ra, cv, ca', cr, rfl, hab, hxk, c0, c1, c2, c3, c4, hc⟩ := ConR.at_ (SlK.below ConR.keeps H2.out hbk.out) hlt
      have HC := Lib.hid (ConR.widens _ _ _ _ _ hbk.out.size hc)
      have HVC := Lib.hid (HCS.out c (List.mem_of_getElem? hxk))
      have HXK := Lib.hid hxk
      have HBW := Lib.hid (bgo hb0 hbk.out)
      clear hc hxk
      go_wp2_with fail
      refine (ssupported _ c _ _ _ ds _ HC.out (IntR.on HX0.out HBW.out) HVC.out hn1 hn4 HDD.out).mono ?_
      rintro e w3 ⟨v3, rfl, hh3, hb3⟩
      obtain ⟨A3, c3', rfl, r3⟩ := IntR.of_hold hh3 (by omega)
      have HBW3 := Lib.hid (bgo HBW.out hb3)
      have HBK3 := Lib.hid (hbk.out.trans (hb3.mono hbk.out.size))
      clear hh3 hb3 c0 c1 c2 c3 c4 e1
      go_wp2_with fail
      refine (sequalInts _ _ _ _ _ _ _ _ _ r3 (IntR.on HX0.out HBW3.out)).mono ?_
      rintro e w4 ⟨rfl, hb4⟩
      have HBK4 := Lib.hid (HBK3.out.trans (hb4.mono HBK3.out.size))
      clear hb4 r3
      by_cases hs : filF c ds = ds
      · have HT := Lib.hid (decide_eq_true hs)
        rw [HT.out]
        clear hs
        go_wp2_with fail
        go_roundw
        case rel => exact ⟨k + 1, by omega, by go_num, AllB.succ hq.out HXK.out HT.out, HBK4.out⟩
        case measure => simp [intOf]; omega
      · have HT := Lib.hid (decide_eq_false hs)
        have HE := Lib.hid (show stillF ⟨ds, m.cons⟩ = false from all_no (f := fun c => decide (filF c ds = ds)) HXK.out HT.out)
        rw [HT.out]
        clear hs
        go_wp2_with fail
        go_ret
        exact ⟨ret_bool HE.out.symm, bgo hb0 HBK4.out⟩
    · obtain rfl : k = nc := by omega
      have HE := Lib.hid (show stillF ⟨ds, m.cons⟩ = true from AllB.done hq.out (Nat.le_of_eq HNC.out))
      go_wp2_with fail
      go_ret
      exact ⟨ret_bool HE.out.symm, bgo hb0 hbk.out⟩
set_option maxHeartbeats 1500000 in
theorem sfixpoint (us : List Value) (m : Mod) (ds : List Int) (A : Option Addr) (n d : Nat) (w : World) (h : ModR w w.heap.size us m) (hx : IntR w w.heap.size A n ds) (hn1 : 1 ≤ n) (hn4 : n ≤ 4) (h6 : m.cons.length ≤ 6) (hcs : ∀ c ∈ m.cons, vconF c (n : Int) = true) (hdd : Doms ds) :
    Calls Try.prog 76 #[.agg us.toArray, .slice A n d] w fun e w' => ∃ v', e = .returned v' ∧ HoldR w' w.heap.size 3 1 v' n ((fixF m.cons ds).map (.int .i64)) ∧ Below w.heap.size w w' := by
  obtain ⟨i0, hi0, hz0, hz1, hz2⟩ := info_parts info_int
  have hl := Lib.hid hx.len
  have HDC := Lib.hid (show DiffC m.cons n from fun c hc => vcon_diff (hcs c hc) hn4)
  have HCS := Lib.hid hcs
  have HMR := Lib.hid h
  obtain ⟨da, ca, cd, cc, rfl, g1, g2, -⟩ := id h
  obtain ⟨wa, hwa⟩ : ∃ wa, wa = w.alloc (.cells #[.slice da m.doms.length cd, .slice ca m.cons.length cc] 26) := ⟨_, rfl⟩
  have hb0 : Below w.heap.size w wa := by rw [hwa]; exact b_alloc _ _
  have ha : TBlk 26 wa w.heap.size #[.slice da m.doms.length cd, .slice ca m.cons.length cc] := by rw [hwa]; exact TBlk.new _ _ _
  have HA := Lib.hid ha
  have HX0 := Lib.hid hx
  have HG2 := Lib.hid g2
  have HDD := Lib.hid hdd
  have hsw : w.heap.size < wa.heap.size := ha.lt
  obtain ⟨nc, hnc⟩ : ∃ nc, m.cons.length = nc := ⟨_, rfl⟩
  have HNC := Lib.hid hnc
  have hnc6 : nc ≤ 6 := by omega
  rw [hnc] at HA HG2 hwa HMR ⊢
  clear hx g1 g2 hcs hdd ha h hnc
  go_enter Try.func76, Try.ntmps76
  go_wp2_with fail
  rw [← hwa]
  clear hwa
  refine (scopyRF _ _ _ ds _ (IntR.on HX0.out hb0) (by omega) (by omega)).mono ?_
  rintro e w1 ⟨v1, rfl, o1, hb1⟩
  have h1 := HoldR.of_own o1.1
  rw [hl.out] at h1
  obtain ⟨B1, c1, rfl⟩ := h1.form
  have HH1 := Lib.hid h1
  have HB1 := Lib.hid (show Below wa.heap.size wa w1 from hb1)
  clear o1 h1 hb1
  go_wp2_with fail
  go_loopg [5] (card ds) (fun gk v wr => ∃ (xs : List Int) (B : Option Addr) (c : Nat), v = .slice B n c ∧ Hid (HoldR wr wa.heap.size 3 1 (.slice B n c) n (xs.map (.int .i64))) ∧ Hid (fixF m.cons xs = fixF m.cons ds) ∧ Hid (Doms xs) ∧ Hid (xs.length = n) ∧ card xs ≤ gk ∧ Hid (Below wa.heap.size wa wr))
  case atStart => exact ⟨ds, B1, c1, rfl, HH1, Lib.hid rfl, HDD, hl, Nat.le_refl _, HB1⟩
  case round =>
    obtain ⟨xs, B, c, rfl, hh, hfx, hdx, hlx, hcard, hbk⟩ := hrel
    clear HH1 HB1
    have a0 := (HA.out.below_ hbk.out HA.out.lt).at_ 0 rfl
    have a1 := (HA.out.below_ hbk.out HA.out.lt).at_ 1 rfl
    obtain ⟨B', c', e', rX⟩ := IntR.of_hold hh.out (by omega)
    injection e' with e1 _ e3
    subst e1 e3
    have RX := Lib.hid rX
    have HBW := Lib.hid (bgo hb0 hbk.out)
    clear rX
    go_wp2_with fail
    refine (sisConsistentD _ m xs _ n _ _ (ModR.on HMR.out HBW.out) RX.out hn1 hn4 h6 HCS.out hdx.out).mono ?_
    rintro e w2 ⟨rfl, hb2⟩
    have HBK2 := Lib.hid (hbk.out.trans (hb2.mono hbk.out.size))
    have RX2 := Lib.hid (IntR.on RX.out hb2)
    have HH2 := Lib.hid (hh.out.below hb2)
    have HB2 := Lib.hid (bgo HBW.out hb2)
    have HDX := Lib.hid (show DiffC m.cons xs.length by rw [hlx.out]; exact HDC.out)
    clear hh hbk RX HBW a0 a1 hb2
    have hst := Lib.hid (still_iff HDX.out hdx.out)
    cases ts : stillF ⟨xs, m.cons⟩
    · have hne := Lib.hid (show foldF m.cons xs ≠ xs from of_decide_eq_false (hst.out.symm.trans ts))
      clear ts
      go_wp2_with fail
      refine (shasEmpty _ _ _ xs _ RX2.out).mono ?_
      rintro e w3 ⟨rfl, rfl⟩
      cases te : decide ((0 : Int) ∈ xs)
      · have hz := Lib.hid (show hasZ xs = false by rw [← zmem_iff]; exact te)
        clear te
        go_wp2_with fail
        go_loopw [5, 6] (fun v i wy => ∃ (j : Nat) (ys : List Int) (B2 : Option Addr) (c2 : Nat), j ≤ nc ∧ i = .int .i64 j ∧ v = .slice B2 n c2 ∧ Hid (HoldR wy wa.heap.size 3 1 (.slice B2 n c2) n (ys.map (.int .i64))) ∧ Hid (ys = foldF (m.cons.take j) xs) ∧ Hid (Below wa.heap.size wa wy)) (fun _ i _ => nc - (intOf i).toNat)
        case atStart => exact ⟨0, xs, _, _, by omega, rfl, rfl, HH2, Lib.hid (by simp [foldF]), HBK2⟩
        case round =>
          obtain ⟨j, ys, B2, c2, hj, rfl, rfl, hh3, hys, hbk3⟩ := hrel
          clear HH2 HBK2 RX2 HB2
          rename World => wy
          have a1 := (HA.out.below_ hbk3.out HA.out.lt).at_ 1 rfl
          have HBW := Lib.hid (bgo hb0 hbk3.out)
          have hfd := foldF_ok (m.cons.take j) xs (fun c hc => HDX.out c (List.mem_of_mem_take hc)) hdx.out
          have hfl := foldF_len (m.cons.take j) xs
          have HYD := Lib.hid (show Doms ys by rw [hys.out]; exact hfd.1)
          have HYL := Lib.hid (show ys.length = n by rw [hys.out, hfl, hlx.out])
          obtain ⟨B', c', e', rY⟩ := IntR.of_hold hh3.out (by omega)
          injection e' with e1 _ e3
          subst e1 e3
          have RY := Lib.hid rY
          clear rY hfd hfl
          by_cases hlt : j < nc
          · obtain ⟨ab, ao, k, va, aa, ra, cv, ca', cr, rfl, hab, hxk, q0, q1, q2, q3, q4, hc⟩ := ConR.at_ (SlK.below ConR.keeps HG2.out HBW.out) hlt
            have HC := Lib.hid (ConR.widens _ _ _ _ _ HBW.out.size hc)
            have HVC := Lib.hid (HCS.out k (List.mem_of_getElem? hxk))
            have HXK := Lib.hid hxk
            clear hc hxk
            go_wp2_with fail
            refine (ssupported _ k _ _ _ ys _ HC.out RY.out HVC.out hn1 hn4 HYD.out).mono ?_
            rintro e w5 ⟨v5, rfl, hh5, hb5⟩
            obtain ⟨B5, c5, rfl⟩ := hh5.form
            have HH5 := Lib.hid (hh5.base_ (base' := wa.heap.size) hbk3.out.size)
            have HBK5 := Lib.hid (hbk3.out.trans (hb5.mono hbk3.out.size))
            clear hh5 hb5 q0 q1 q2 q3 q4 a1
            go_wp2_with fail
            go_roundw
            case rel => exact ⟨j + 1, filF k ys, B5, c5, by omega, by go_num, rfl, HH5, Lib.hid (by rw [foldF_snoc HXK.out, hys.out]), HBK5⟩
            case measure => simp [intOf]; omega
          · obtain rfl : j = nc := by omega
            have hya : ys = foldF m.cons xs := by rw [hys.out, List.take_of_length_le (by rw [HNC.out]; exact Nat.le_refl _)]
            have HYA := Lib.hid hya
            have HMS := Lib.hid (card_step HDX.out hdx.out hne.out)
            have HFS := Lib.hid (fix_step HDX.out hdx.out hz.out hne.out)
            clear hya
            go_wp2_with fail
            go_roundg (card ys)
            case measure => have := HMS.out; rw [← HYA.out] at this; omega
            case rel => exact ⟨ys, _, _, rfl, hh3, Lib.hid (by rw [HYA.out, ← HFS.out]; exact hfx.out), HYD, HYL, Nat.le_refl _, hbk3⟩
      · have HFX := Lib.hid (show fixF m.cons ds = zerosF n by rw [← hfx.out, fix_z (by rw [← zmem_iff]; exact te), hlx.out])
        have TE := Lib.hid te
        clear te
        go_wp2_with fail
        refine (shasEmpty _ _ _ xs _ RX2.out).mono ?_
        rintro e w3 ⟨rfl, rfl⟩
        rw [TE.out]
        go_wp2_with (refine wpList_make_full _ rfl (.tmp 35) (.tmp 35) _ rfl w2.heap.size 3 i0 _ 1 Try.underlying23 hi0 hz0 hz1 .i64 .i64 n n n rfl rfl rfl rfl (by rw [hz2]; omega) (by unfold maxLen; omega) (Nat.le_refl _) ?_; intro w7 hown hgr)
        have hb7 : Below w2.heap.size w2 w7 := (Below.refl _ _).grown hgr (Nat.le_refl _) (by simp)
        have he : (zerosF n).map (Value.int .i64) = (madeCells (Value.int .i64 0).cells (n * 1)).toList := by
          rw [Nat.mul_one]
          show _ = (madeCells #[Value.int .i64 0] n).toList
          rw [toList_madeCells_one]
          simp [zerosF]
        go_ret
        refine ⟨_, rfl, ?_, bgo HB2.out hb7⟩
        rw [HFX.out, he]
        exact (HoldR.of_own (own_base hown (HB2.out).size))
    · have hne := Lib.hid (show foldF m.cons xs = xs from of_decide_eq_true (hst.out.symm.trans ts))
      clear ts
      go_wp2_with fail
      refine (shasEmpty _ _ _ xs _ RX2.out).mono ?_
      rintro e w3 ⟨rfl, rfl⟩
      cases te : decide ((0 : Int) ∈ xs)
      · have HFX := Lib.hid (show fixF m.cons ds = xs by rw [← hfx.out, fix_end (by rw [← zmem_iff]; exact te) hne.out])
        clear te
        go_wp2_with fail
        go_ret
        refine ⟨_, rfl, ?_, HB2.out⟩
        rw [HFX.out]
        exact HH2.out.base_ (by omega)
      · have HFX := Lib.hid (show fixF m.cons ds = zerosF n by rw [← hfx.out, fix_z (by rw [← zmem_iff]; exact te), hlx.out])
        clear te
        go_wp2_with (refine wpList_make_full _ rfl (.tmp 35) (.tmp 35) _ rfl w2.heap.size 3 i0 _ 1 Try.underlying23 hi0 hz0 hz1 .i64 .i64 n n n rfl rfl rfl rfl (by rw [hz2]; omega) (by unfold maxLen; omega) (Nat.le_refl _) ?_; intro w7 hown hgr)
        have hb7 : Below w2.heap.size w2 w7 := (Below.refl _ _).grown hgr (Nat.le_refl _) (by simp)
        have he : (zerosF n).map (Value.int .i64) = (madeCells (Value.int .i64 0).cells (n * 1)).toList := by
          rw [Nat.mul_one]
          show _ = (madeCells #[Value.int .i64 0] n).toList
          rw [toList_madeCells_one]
          simp [zerosF]
        go_ret
        refine ⟨_, rfl, ?_, bgo HB2.out hb7⟩
        rw [HFX.out, he]
        exact (HoldR.of_own (own_base hown (HB2.out).size))
set_option maxHeartbeats 2000000 in
theorem ifiltered (us : List Value) (m : Mod) (ds : List Int) (A : Option Addr) (n d : Nat) (w : World) (h : ModR w w.heap.size us m) (hx : IntR w w.heap.size A n ds) (hn1 : 1 ≤ n) (hn4 : n ≤ 4) (h6 : m.cons.length ≤ 6) (hcs : ∀ c ∈ m.cons, vconF c (n : Int) = true) (hdd : Doms ds) :
    Calls Try.prog 114 #[.agg us.toArray, .slice A n d] w fun e w' => ∃ (B : Option Addr) (c : Nat), e = .returned (.slice B n c) ∧ IntR w' w'.heap.size B n (foldF m.cons ds) ∧ Below w.heap.size w w' := by
  have hl := Lib.hid hx.len
  have HDC := Lib.hid (show DiffC m.cons ds.length by rw [hx.len]; exact fun c hc => vcon_diff (hcs c hc) hn4)
  have HCS := Lib.hid hcs
  obtain ⟨da, ca, cd, cc, rfl, g1, g2, -⟩ := id h
  obtain ⟨wa, hwa⟩ : ∃ wa, wa = w.alloc (.cells #[.slice da m.doms.length cd, .slice ca m.cons.length cc] 26) := ⟨_, rfl⟩
  have hb0 : Below w.heap.size w wa := by rw [hwa]; exact b_alloc _ _
  have ha : TBlk 26 wa w.heap.size #[.slice da m.doms.length cd, .slice ca m.cons.length cc] := by rw [hwa]; exact TBlk.new _ _ _
  have HX0 := Lib.hid (IntR.on hx hb0)
  have HG2 := Lib.hid g2
  have HDD := Lib.hid hdd
  obtain ⟨nc, hnc⟩ : ∃ nc, m.cons.length = nc := ⟨_, rfl⟩
  have HNC := Lib.hid hnc
  have hnc6 : nc ≤ 6 := by omega
  rw [hnc] at ha HG2 hwa ⊢
  have a1 := ha.at_ 1 rfl
  clear hx g1 g2 hcs hdd ha h hnc
  go_enter Try.func114, Try.ntmps114
  go_wp2_with fail
  rw [← hwa]
  clear hwa a1
  go_loopw [1, 10] (fun v i wy => ∃ (j : Nat) (ys : List Int) (B2 : Option Addr) (c2 : Nat), j ≤ nc ∧ i = .int .i64 j ∧ v = .slice B2 n c2 ∧ Hid (IntR wy wy.heap.size B2 n ys) ∧ Hid (ys = foldF (m.cons.take j) ds) ∧ Hid (Below wa.heap.size wa wy)) (fun _ i _ => nc - (intOf i).toNat)
  case atStart => exact ⟨0, ds, _, _, by omega, rfl, rfl, HX0, Lib.hid (by simp [foldF]), Lib.hid (Below.refl _ _)⟩
  case round =>
    obtain ⟨j, ys, B2, c2, hj, rfl, rfl, hR, hys, hbk⟩ := hrel
    clear HX0
    rename World => wy
    have HBW := Lib.hid (bgo hb0 hbk.out)
    have hfd := foldF_ok (m.cons.take j) ds (fun c hc => HDC.out c (List.mem_of_mem_take hc)) HDD.out
    have hfl := foldF_len (m.cons.take j) ds
    have HYD := Lib.hid (show Doms ys by rw [hys.out]; exact hfd.1)
    clear hfd hfl
    by_cases hlt : j < nc
    · obtain ⟨ab, ao, k, va, aa, ra, cv, ca', cr, rfl, hab, hxk, q0, q1, q2, q3, q4, hc⟩ := ConR.at_ (SlK.below ConR.keeps HG2.out HBW.out) hlt
      have HC := Lib.hid (ConR.widens _ _ _ _ _ HBW.out.size hc)
      have HVC := Lib.hid (HCS.out k (List.mem_of_getElem? hxk))
      have HXK := Lib.hid hxk
      obtain ⟨wz, hwz⟩ : ∃ wz, wy.alloc (.cells #[.int .i64 k.kind, .slice va k.vars.length cv, .slice aa k.args.length ca', .int .i64 k.bound, .slice ra k.rows.length cr] 35) = wz := ⟨_, rfl⟩
      have hbz : Below wy.heap.size wy wz := by rw [← hwz]; exact b_alloc _ _
      have tz : TBlk 35 wz wy.heap.size #[.int .i64 k.kind, .slice va k.vars.length cv, .slice aa k.args.length ca', .int .i64 k.bound, .slice ra k.rows.length cr] := by rw [← hwz]; exact TBlk.new _ _ _
      have z0 := tz.at_ 0 rfl
      have z1 := tz.at_ 1 rfl
      have z2 := tz.at_ 2 rfl
      have z3 := tz.at_ 3 rfl
      have z4 := tz.at_ 4 rfl
      have HCZ := Lib.hid (ConR.on HC.out hbz)
      have HRZ := Lib.hid (IntR.on hR.out hbz)
      have HBZ := Lib.hid (hbk.out.trans (hbz.mono hbk.out.size))
      clear hc hxk tz hbz hR HC
      go_wp2_with fail
      refine (ifilter _ k _ _ _ ys _ HCZ.out HRZ.out HVC.out hn1 hn4 HYD.out).mono ?_
      rintro e w5 ⟨v5, rfl, hh5, hb5⟩
      obtain ⟨B5, c5, rfl, r5⟩ := IntR.of_hold hh5 (by omega)
      have HR5 := Lib.hid r5
      have HBK5 := Lib.hid (HBZ.out.trans (hb5.mono HBZ.out.size))
      clear hh5 hb5 q0 q1 q2 q3 q4 z0 z1 z2 z3 z4 r5 hwz
      go_wp2_with fail
      go_roundw
      case rel => exact ⟨j + 1, filF k ys, B5, c5, by omega, by go_num, rfl, HR5, Lib.hid (by rw [foldF_snoc HXK.out, hys.out]), HBK5⟩
      case measure => simp [intOf]; omega
    · obtain rfl : j = nc := by omega
      have HYA := Lib.hid (show ys = foldF m.cons ds by rw [hys.out, List.take_of_length_le (by rw [HNC.out]; exact Nat.le_refl _)])
      go_wp2_with fail
      go_ret
      exact ⟨_, _, rfl, by rw [← HYA.out]; exact hR.out, bgo hb0 hbk.out⟩
set_option maxHeartbeats 2000000 in
theorem ifixpoint (us : List Value) (m : Mod) (ds : List Int) (A : Option Addr) (n d : Nat) (w : World) (h : ModR w w.heap.size us m) (hx : IntR w w.heap.size A n ds) (hn1 : 1 ≤ n) (hn4 : n ≤ 4) (h6 : m.cons.length ≤ 6) (hcs : ∀ c ∈ m.cons, vconF c (n : Int) = true) (hdd : Doms ds) :
    Calls Try.prog 113 #[.slice A n d, .func (.func 114) #[.agg us.toArray] #[]] w fun e w' => ∃ (B : Option Addr) (c : Nat), e = .returned (.slice B n c) ∧ IntR w' w'.heap.size B n (fixF m.cons ds) ∧ Below w.heap.size w w' := by
  obtain ⟨i0, hi0, hz0, hz1, hz2⟩ := info_parts info_int
  have eg := enters_of Try.func114 (by kernel_rfl) rfl
  have hl := Lib.hid hx.len
  have HDC := Lib.hid (show DiffC m.cons n from fun c hc => vcon_diff (hcs c hc) hn4)
  have HCS := Lib.hid hcs
  have HMR := Lib.hid h
  have HX0 := Lib.hid hx
  have HDD := Lib.hid hdd
  clear hx hcs hdd h
  go_enter Try.func113, Try.ntmps113
  go_wp2_with fail
  refine (icopiedRF _ _ _ ds _ HX0.out (by omega) (by omega)).mono ?_
  rintro e w1 ⟨v1, rfl, h1, hb1⟩
  obtain ⟨B1, c1, rfl, r1⟩ := IntR.of_hold h1 (by omega)
  have HR1 := Lib.hid r1
  have HB1 := Lib.hid (show Below w.heap.size w w1 from hb1)
  clear r1 h1 hb1
  go_wp2_with fail
  go_loopg [5] (card ds) (fun gk v wr => ∃ (xs : List Int) (B : Option Addr) (c : Nat), v = .slice B n c ∧ Hid (IntR wr wr.heap.size B n xs) ∧ Hid (fixF m.cons xs = fixF m.cons ds) ∧ Hid (Doms xs) ∧ Hid (xs.length = n) ∧ card xs ≤ gk ∧ Hid (Below w.heap.size w wr))
  case atStart => exact ⟨ds, B1, c1, rfl, HR1, Lib.hid rfl, HDD, hl, Nat.le_refl _, HB1⟩
  case round =>
    obtain ⟨xs, B, c, rfl, hR, hfx, hdx, hlx, hcard, hbk⟩ := hrel
    clear HR1 HB1
    have HDX := Lib.hid (show DiffC m.cons xs.length by rw [hlx.out]; exact HDC.out)
    go_wp2_with fail
    refine (containsInt _ _ _ xs _ _ hR.out).mono ?_
    rintro e w2 ⟨rfl, hb2⟩
    have HR2 := Lib.hid (IntR.on hR.out hb2)
    have HB2 := Lib.hid (bgo hbk.out hb2)
    clear hR hb2 hbk
    cases te : decide ((0 : Int) ∈ xs)
    · have hz := Lib.hid (show hasZ xs = false by rw [← zmem_iff]; exact te)
      clear te
      go_wp2_with fail
      refine (ifiltered us m xs _ n _ _ (ModR.on HMR.out HB2.out) HR2.out hn1 hn4 h6 HCS.out hdx.out).mono ?_
      rintro e w3 ⟨B3, c3, rfl, r3, hb3⟩
      have HR3 := Lib.hid r3
      have HR32 := Lib.hid (IntR.on HR2.out hb3)
      have HB3 := Lib.hid (bgo HB2.out hb3)
      clear r3 hb3
      go_wp2_with fail
      refine (iEqual _ _ _ _ _ _ (foldF m.cons xs) xs _ HR3.out HR32.out).mono ?_
      rintro e w4 ⟨rfl, hb4⟩
      have HR4 := Lib.hid (IntR.on HR3.out hb4)
      have HR42 := Lib.hid (IntR.on HR32.out hb4)
      have HB4 := Lib.hid (bgo HB3.out hb4)
      clear hb4
      cases tq : decide (foldF m.cons xs = xs)
      · have hne := Lib.hid (of_decide_eq_false tq)
        have HMS := Lib.hid (card_step HDX.out hdx.out hne.out)
        have HFS := Lib.hid (fix_step HDX.out hdx.out hz.out hne.out)
        have HFD := Lib.hid (foldF_ok m.cons xs HDX.out hdx.out).1
        have HFL := Lib.hid (show (foldF m.cons xs).length = n by rw [foldF_len, hlx.out])
        clear tq
        go_wp2_with fail
        go_roundg (card (foldF m.cons xs))
        case measure => have := HMS.out; omega
        case rel => exact ⟨_, _, _, rfl, HR4, Lib.hid (by rw [← HFS.out]; exact hfx.out), HFD, HFL, Nat.le_refl _, HB4⟩
      · have HFX := Lib.hid (show fixF m.cons ds = xs by rw [← hfx.out, fix_end hz.out (of_decide_eq_true tq)])
        clear tq
        go_wp2_with fail
        go_ret
        exact ⟨_, _, rfl, by rw [HFX.out]; exact HR42.out, HB4.out⟩
    · have HFX := Lib.hid (show fixF m.cons ds = zerosF n by rw [← hfx.out, fix_z (by rw [← zmem_iff]; exact te), hlx.out])
      clear te
      go_wp2_with (refine wpList_make_full _ rfl (.tmp 12) (.tmp 12) _ rfl w2.heap.size 3 i0 _ 1 Try.underlying23 hi0 hz0 hz1 .i64 .i64 n n n rfl rfl rfl rfl (by rw [hz2]; omega) (by unfold maxLen; omega) (Nat.le_refl _) ?_; intro w7 hown hgr)
      have hb7 : Below w2.heap.size w2 w7 := (Below.refl _ _).grown hgr (Nat.le_refl _) (by simp)
      have he : (madeCells (Value.int .i64 0).cells (n * 1)).toList = (zerosF n).map (Value.int .i64) := by
        rw [Nat.mul_one]
        show (madeCells #[Value.int .i64 0] n).toList = _
        rw [toList_madeCells_one]
        simp [zerosF]
      rw [he] at hown
      obtain ⟨B7, c7, e7, r7, -⟩ := IntR.of_own hown (by omega)
      injection e7 with e7 _ e8
      subst e7 e8
      go_ret
      exact ⟨_, _, rfl, by rw [HFX.out]; exact r7, bgo HB2.out hb7⟩
/-- what propagation leaves. -/
def propF (m : Mod) : List Int := if vmodF m then fixF m.cons m.doms else []
theorem prop_yes {m : Mod} (h : vmodF m = true) : propF m = fixF m.cons m.doms := by unfold propF; rw [h]; rfl
theorem prop_no {m : Mod} (h : vmodF m = false) : propF m = [] := by unfold propF; rw [h]; rfl
set_option maxHeartbeats 2000000 in
theorem ipropagate (us : List Value) (m : Mod) (ds : List Int) (A : Option Addr) (n d : Nat) (w : World) (h : ModR w w.heap.size us m) (hx : IntR w w.heap.size A n ds) (hn1 : 1 ≤ n) (hn4 : n ≤ 4) (h6 : m.cons.length ≤ 6) (hcs : ∀ c ∈ m.cons, vconF c (n : Int) = true) (hdd : Doms ds) :
    Calls Try.prog 75 #[.agg us.toArray, .slice A n d] w fun e w' => ∃ (B : Option Addr) (c : Nat), e = .returned (.slice B n c) ∧ IntR w' w'.heap.size B n (fixF m.cons ds) ∧ Below w.heap.size w w' := by
  have HMR := Lib.hid h
  have HX0 := Lib.hid hx
  obtain ⟨da, ca, cd, cc, rfl, -⟩ := id h
  obtain ⟨wa, hwa⟩ : ∃ wa, wa = w.alloc (.cells #[.slice da m.doms.length cd, .slice ca m.cons.length cc] 26) := ⟨_, rfl⟩
  have hb0 : Below w.heap.size w wa := by rw [hwa]; exact b_alloc _ _
  clear h hx
  go_enter Try.func75, Try.ntmps75
  go_wp2_with fail
  rw [← hwa]
  clear hwa
  refine (ifixpoint [.slice da m.doms.length cd, .slice ca m.cons.length cc] m ds _ n _ wa (ModR.on HMR.out hb0) (IntR.on HX0.out hb0) hn1 hn4 h6 hcs hdd).mono ?_
  rintro e w1 ⟨B, c, rfl, r1, hb1⟩
  have HF := Lib.hid (And.intro r1 (bgo hb0 hb1))
  clear r1 hb1
  go_wp2_with fail
  go_ret
  exact ⟨_, _, rfl, HF.out.1, HF.out.2⟩
set_option maxHeartbeats 2000000 in
theorem iPropagate (us : List Value) (m : Mod) (w : World) (h : ModR w w.heap.size us m) :
    Calls Try.prog 35 #[.agg us.toArray] w fun e w' => ∃ (B : Option Addr) (c n : Nat), e = .returned (.slice B n c) ∧ n ≤ 4 ∧ IntR w' w'.heap.size B n (propF m) ∧ Below w.heap.size w w' := by
  have HMR := Lib.hid h
  obtain ⟨da, ca, cd, cc, rfl, g1, -⟩ := id h
  obtain ⟨wa, hwa⟩ : ∃ wa, wa = w.alloc (.cells #[.slice da m.doms.length cd, .slice ca m.cons.length cc] 26) := ⟨_, rfl⟩
  have hb0 : Below w.heap.size w wa := by rw [hwa]; exact b_alloc _ _
  have ha : TBlk 26 wa w.heap.size #[.slice da m.doms.length cd, .slice ca m.cons.length cc] := by rw [hwa]; exact TBlk.new _ _ _
  have HA := Lib.hid ha
  have G1 := Lib.hid g1
  clear h g1 ha
  go_enter Try.func35, Try.ntmps35
  go_wp2_with fail
  rw [← hwa]
  clear hwa
  refine (iValidModel _ m _ (ModR.on HMR.out hb0)).mono ?_
  rintro e w1 ⟨rfl, hb1⟩
  have HB1 := Lib.hid (bgo hb0 hb1)
  have ha1 := HA.out.below_ hb1 HA.out.lt
  have b0 := ha1.at_ 0 rfl
  have b1 := ha1.at_ 1 rfl
  clear hb1 ha1
  cases t0 : vmodF m
  · have HP := Lib.hid (prop_no t0)
    clear t0
    go_wp2_with fail
    go_ret
    exact ⟨_, _, _, rfl, by omega, by rw [HP.out]; exact SlR.nil_ _ _ _, HB1.out⟩
  have HM := Lib.hid (ModOk.of t0)
  have HP := Lib.hid (prop_yes t0)
  have hfour := HM.out.four
  clear t0
  go_wp2_with fail
  refine (ipropagate [.slice da m.doms.length cd, .slice ca m.cons.length cc] m m.doms _ m.doms.length _ w1 (ModR.on HMR.out HB1.out) (IntR.on G1.out HB1.out) HM.out.one HM.out.four HM.out.six HM.out.cons HM.out.doms).mono ?_
  rintro e w2 ⟨B, c, rfl, r2, hb2⟩
  have HF := Lib.hid (And.intro r2 (bgo HB1.out hb2))
  clear r2 hb2 b0 b1
  go_wp2_with fail
  go_ret
  exact ⟨_, _, _, rfl, hfour, by rw [HP.out]; exact HF.out.1, HF.out.2⟩
set_option maxHeartbeats 2000000 in
theorem sPropagate (us : List Value) (m : Mod) (w : World) (h : ModR w w.heap.size us m) :
    Calls Try.prog 36 #[.agg us.toArray] w fun e w' => ∃ (B : Option Addr) (c n : Nat), e = .returned (.slice B n c) ∧ n ≤ 4 ∧ IntR w' w'.heap.size B n (propF m) ∧ Below w.heap.size w w' := by
  have HMR := Lib.hid h
  obtain ⟨da, ca, cd, cc, rfl, g1, -⟩ := id h
  obtain ⟨wa, hwa⟩ : ∃ wa, wa = w.alloc (.cells #[.slice da m.doms.length cd, .slice ca m.cons.length cc] 26) := ⟨_, rfl⟩
  have hb0 : Below w.heap.size w wa := by rw [hwa]; exact b_alloc _ _
  have ha : TBlk 26 wa w.heap.size #[.slice da m.doms.length cd, .slice ca m.cons.length cc] := by rw [hwa]; exact TBlk.new _ _ _
  have HA := Lib.hid ha
  have G1 := Lib.hid g1
  clear h g1 ha
  go_enter Try.func36, Try.ntmps36
  go_wp2_with fail
  rw [← hwa]
  clear hwa
  refine (svalidModel _ m _ (ModR.on HMR.out hb0)).mono ?_
  rintro e w1 ⟨rfl, hb1⟩
  have HB1 := Lib.hid (bgo hb0 hb1)
  have ha1 := HA.out.below_ hb1 HA.out.lt
  have b0 := ha1.at_ 0 rfl
  have b1 := ha1.at_ 1 rfl
  clear hb1 ha1
  cases t0 : vmodF m
  · have HP := Lib.hid (prop_no t0)
    clear t0
    go_wp2_with fail
    go_ret
    exact ⟨_, _, _, rfl, by omega, by rw [HP.out]; exact SlR.nil_ _ _ _, HB1.out⟩
  have HM := Lib.hid (ModOk.of t0)
  have HP := Lib.hid (prop_yes t0)
  have hfour := HM.out.four
  clear t0
  go_wp2_with fail
  refine (sfixpoint [.slice da m.doms.length cd, .slice ca m.cons.length cc] m m.doms _ m.doms.length _ w1 (ModR.on HMR.out HB1.out) (IntR.on G1.out HB1.out) HM.out.one HM.out.four HM.out.six HM.out.cons HM.out.doms).mono ?_
  rintro e w2 ⟨v2, rfl, hh, hb2⟩
  obtain ⟨B, c, rfl, r2⟩ := IntR.of_hold hh (by omega)
  have HF := Lib.hid (And.intro r2 (bgo HB1.out hb2))
  clear r2 hb2 b0 b1 hh
  go_wp2_with fail
  go_ret
  exact ⟨_, _, _, rfl, hfour, by rw [HP.out]; exact HF.out.1, HF.out.2⟩
end Go.Proofs.Ytejfnkbdmlijbaa
/- spec's search: a node, and all below it. -/
namespace Go.Proofs.Ytejfnkbdmlijbaa
open Go.ChangeShapes Go.WideShapes Go.ChangeAt Go.RowKit
open Go.Shelf
set_option linter.unusedVariables false
set_option linter.unusedSimpArgs false
set_option maxRecDepth 100000
attribute [local go_sem] Oper.semAt_some

theorem cntD_pos64 : ∀ a : Fin 64, a ≠ 0 → 0 < cntD a.val := by decide +kernel
theorem cntD_pow64 : ∀ a : Fin 64, ∀ k : Fin 6, hasB a.val k.val = true → cntD (2 ^ k.val) = 1 ∧ (∀ u : Fin 6, hasB (2 ^ k.val) u.val = true → hasB a.val u.val = true) := by decide +kernel
theorem cntD_pos {d : Int} (h0 : 0 ≤ d) (h1 : d ≤ 63) (hz : d ≠ 0) : 0 < (valsTo d 6).length := by
  obtain ⟨x, rfl⟩ := dom_fin h0 h1
  exact cntD_pos64 x (fun e => hz (by rw [e]; rfl))
theorem pow_in64 : ∀ k : Fin 6, (0 : Int) ≤ 2 ^ k.val ∧ (2 : Int) ^ k.val ≤ 63 := by decide +kernel
theorem pow_in {v : Int} (h0 : 0 ≤ v) (h1 : v ≤ 5) : (0 : Int) ≤ 2 ^ v.toNat ∧ (2 : Int) ^ v.toNat ≤ 63 := pow_in64 ⟨v.toNat, by omega⟩
theorem hasZ_gat {ds : List Int} (h : hasZ ds = false) {j : Nat} {x : Int} (hx : ds[j]? = some x) : x ≠ 0 := by
  rintro rfl
  have : hasZ ds = true := List.any_eq_true.2 ⟨0, List.mem_of_getElem? hx, rfl⟩
  rw [h] at this; cases this
theorem doms_set2 {S : List Int} (h : Doms S) {a : Int} (ha : 0 ≤ a ∧ a ≤ 63) (j : Nat) : Doms (S.set j a) := fun y hy => by
  rcases List.mem_or_eq_of_mem_set hy with h1 | h1
  · exact h y h1
  · rw [h1]; exact ha
/-- one domain fixed: fewer values. -/
theorem card_fix {ds : List Int} (hd : Doms ds) {j : Nat} {x v : Int} (hx : ds[j]? = some x) (h1 : (valsTo x 6).length ≠ 1) (hv : v ∈ valsTo x 6) : card (ds.set j (2 ^ v.toNat)) < card ds ∧ Doms (ds.set j (2 ^ v.toNat)) := by
  have hxd := hd x (List.mem_of_getElem? hx)
  obtain ⟨v0, v1, v2⟩ := valsTo_mem hv
  have hj : j < ds.length := (List.getElem?_eq_some_iff.1 hx).1
  obtain ⟨y, hy⟩ := dom_fin hxd.1 hxd.2
  have hvn : v.toNat < 6 := by omega
  have hvi : ((v.toNat : Nat) : Int) = v := by omega
  obtain ⟨c1, c2⟩ := cntD_pow64 y ⟨v.toNat, hvn⟩ (by show hasB (y.val : Int) ((v.toNat : Nat) : Int) = true; rw [hvi, ← hy]; exact v2)
  have hp := pow_in v0 (by omega)
  have hD := doms_set2 hd hp j
  have hs : SubD (ds.set j (2 ^ v.toNat)) ds := by
    intro i hi u u0 u1 hb
    rw [List.length_set] at hi
    rw [gat_set hj] at hb
    by_cases e : j = i
    · subst e
      rw [if_pos rfl] at hb
      rw [gat_eq hx, hy]
      have := c2 ⟨u.toNat, by omega⟩ (by show hasB _ ((u.toNat : Nat) : Int) = true; rw [show ((u.toNat : Nat) : Int) = u by omega]; exact hb)
      rw [show ((((⟨u.toNat, by omega⟩ : Fin 6).val) : Nat) : Int) = u by show ((u.toNat : Nat) : Int) = u; omega] at this
      exact this
    · rw [if_neg e] at hb; exact hb
  obtain ⟨k1, k2⟩ := card_sub _ _ (List.length_set) hD hd hs
  refine ⟨?_, hD⟩
  rcases Nat.lt_or_ge (card (ds.set j (2 ^ v.toNat))) (card ds) with h | h
  · exact h
  · have e := k2 (by omega)
    have : gat (ds.set j (2 ^ v.toNat)) j = gat ds j := by rw [e]
    rw [gat_set hj, if_pos rfl, gat_eq hx] at this
    refine (h1 ?_).elim
    rw [← this]
    exact c1
theorem card_le {S W : List Int} (hl : S.length = W.length) (hs : Doms S) (hw : Doms W) (h : SubD S W) : card S ≤ card W := (card_sub S W hl hs hw h).1
theorem fix_sub {cs : List Con} {ds : List Int} (hv : DiffC cs ds.length) (hd : Doms ds) : card (fixF cs ds) ≤ card ds := by
  obtain ⟨a1, a2, a3, -⟩ := lim_ok cs _ ds (Nat.le_refl _) hv hd
  unfold fixF
  split
  · rename_i hz
    have h2 : ∀ n, card (zerosF n) = 0 := fun n => by
      unfold card zerosF
      rw [List.map_replicate]
      have : cntD 0 = 0 := by decide
      rw [this]
      induction n with
      | zero => rfl
      | succ n ih => rw [List.replicate_succ, List.sum_cons, ih]
    rw [h2]; exact Nat.zero_le _
  · exact card_le a1 a2 hd a3
/-- the blocks of numbers stay. -/
def KI (W W' : World) : Prop := ∀ b cs, TBlk 3 W b cs → TBlk 3 W' b cs
theorem KI.refl (W : World) : KI W W := fun _ _ h => h
theorem KI.trans {a b c : World} (h : KI a b) (k : KI b c) : KI a c := fun _ _ x => k _ _ (h _ _ x)
theorem KI.of_below {W W' : World} (h : Below W.heap.size W W') : KI W W' := fun _ _ x => x.below_ h x.lt
theorem KI.store {W W' : World} {t : TypeId} {b j : Nat} {cs : Array Value} {u : Value} (ht : t ≠ 3) (hb : TBlk t W' b cs) (h : KI W W') : KI W (W'.setCell ⟨b, j, none⟩ u) := fun c ds x => (h c ds x).far ((h c ds x).ne hb (Ne.symm ht))
theorem KI.grown {W W' W'' : World} {base n size : Nat} {e : TypeId} {v : Value} {xs : List Value} (hne : 3 ≠ e) (h : KI W W') (ho : W'.ownsRow base e size v n xs) (hg : W'.grownBy W'' v.ownBlock) : KI W W'' := fun c ds x => TBlk.grown hne (h c ds x) ho hg
theorem HoldR.ki {W W' : World} {base n : Nat} {v : Value} {xs : List Value} (h : HoldR W base 3 1 v n xs) (k : KI W W') : HoldR W' base 3 1 v n xs :=
  ⟨h.1, h.2.imp id fun ⟨g, cap, cur, h1, h2, h3, r⟩ => ⟨g, cap, cur, h1, h2, k _ _ h3, r⟩⟩
theorem OwnI.ki {W W' : World} {base : Nat} {v : Value} {xs : List Int} (h : OwnI 3 W base v xs) (k : KI W W') : OwnI 3 W' base v xs :=
  ⟨⟨h.1.1, h.1.2.imp id fun ⟨g, cap, cur, h1, h2, h3, r⟩ => ⟨g, cap, cur, h1, h2, k _ _ h3, r⟩⟩, h.2⟩
theorem int_blk {w : World} {n base : Nat} {A : Option Addr} {c : Nat} {xs : List Int} (h : HoldR w base 3 1 (.slice A n c) n (xs.map (.int .i64))) (hn : n ≤ 9223372036854775807) : IntR w w.heap.size A n xs := by
  obtain ⟨A', c', e, hi⟩ := IntR.of_hold h hn
  injection e with e1 _ _
  subst e1
  exact hi
/-- rows of this length. -/
def RowsN (n : Nat) (rows : List (List Int)) : Prop := ∀ x ∈ rows, x.length = n
/-- what a finder's block and what it found are. -/
structure Fd (w0 W : World) (fB nc n lim : Nat) (m : Mod) (da ca : Option Addr) (cd cc : Nat) (nodes : Int) (fa : Option Addr) (fc : Nat) (rows : List (List Int)) : Prop where
  below : Below w0.heap.size w0 W
  blk : TBlk 116 W fB #[.slice da n cd, .slice ca nc cc, .int .i64 lim, .int .i64 nodes, .slice fa rows.length fc]
  own : OwnOf 23 (OwnI 3) W w0.heap.size (.slice fa rows.length fc) rows
  rowsn : RowsN n rows
theorem Fd.on {w0 W W' : World} {fB nc n lim : Nat} {m : Mod} {da ca : Option Addr} {cd cc : Nat} {nodes : Int} {fa : Option Addr} {fc : Nat} {rows : List (List Int)} (h : Fd w0 W fB nc n lim m da ca cd cc nodes fa fc rows) (hb : Below W.heap.size W W') : Fd w0 W' fB nc n lim m da ca cd cc nodes fa fc rows :=
  ⟨bgo h.below hb, h.blk.below_ hb h.blk.lt, (OwnOf.stays (OwnI.stays 3)).below _ _ _ _ _ hb h.own, h.rowsn⟩
/-- where the domains of a node lie: in the world at the start, or in a row of the search's own. -/
def ArgD (w0 W : World) (A : Option Addr) (n dc : Nat) (ds : List Int) : Prop := IntR w0 w0.heap.size A n ds ∨ HoldR W w0.heap.size 3 1 (.slice A n dc) n (ds.map (.int .i64))
theorem ArgD.int {w0 W : World} {A : Option Addr} {n dc : Nat} {ds : List Int} (h : ArgD w0 W A n dc ds) (hb : Below w0.heap.size w0 W) (hn : n ≤ 4) : IntR W W.heap.size A n ds := by
  rcases h with h | h
  · exact IntR.on h hb
  · exact int_blk h (by omega)
theorem ArgD.ki {w0 W W' : World} {A : Option Addr} {n dc : Nat} {ds : List Int} (h : ArgD w0 W A n dc ds) (k : KI W W') : ArgD w0 W' A n dc ds := h.imp id fun h => h.ki k
theorem ArgD.len {w0 W : World} {A : Option Addr} {n dc : Nat} {ds : List Int} (h : ArgD w0 W A n dc ds) : ds.length = n := by
  rcases h with h | h
  · exact h.len
  · have := h.1; simpa using this
set_option maxHeartbeats 4000000 in
theorem sbranch (fB nc n lim : Nat) (m : Mod) (da ca : Option Addr) (cd cc : Nat) (w0 : World) (hm : ModR w0 w0.heap.size [.slice da n cd, .slice ca nc cc] m) (hn1 : 1 ≤ n) (hn4 : n ≤ 4) (h6 : m.cons.length ≤ 6) (hcs : ∀ c ∈ m.cons, vconF c (n : Int) = true) (hfB : w0.heap.size ≤ fB) (hlim : lim ≤ 1000) :
    ∀ (r : Nat) (ds : List Int) (A : Option Addr) (dc : Nat) (W : World) (nodes : Int) (fa : Option Addr) (fc : Nat) (rows : List (List Int)), card ds < r → ArgD w0 W A n dc ds → Doms ds → Fd w0 W fB nc n lim m da ca cd cc nodes fa fc rows → rows.length < lim →
      Calls Try.prog 117 #[.pointer (some ⟨fB, 0, none⟩), .slice A n dc] W fun e W' => (∃ v, e = .returned v) ∧ ∃ (nodes' : Int) (fa' : Option Addr) (fc' : Nat) (rows' : List (List Int)), Fd w0 W' fB nc n lim m da ca cd cc nodes' fa' fc' rows' ∧ rows'.length ≤ lim ∧ KI W W' ∧ W.heap.size ≤ W'.heap.size := by
  obtain ⟨i0, hi0, hz0, hz1, hz2⟩ := info_parts info_int
  obtain ⟨i1, hi1, hy0, hy1, hy2⟩ := info_parts (P := Try.prog) (e := 23) (z := .slice none 0 0) (size := 1) (bytes := 24) (by kernel_rfl)
  have HM := Lib.hid hm
  have HCS := Lib.hid hcs
  have HDC := Lib.hid (show DiffC m.cons n from fun c hc => vcon_diff (hcs c hc) hn4)
  clear hm hcs
  intro r
  induction r with
  | zero => intro ds A dc W nodes fa fc rows hr; omega
  | succ r ih =>
    have IH := Lib.hid ih
    clear ih
    intro ds A dc W nodes fa fc rows hr hx hdd hF hrl
    have HDD := Lib.hid hdd
    have hlx := hx.len
    obtain ⟨D, hD⟩ : ∃ D, fixF m.cons ds = D := ⟨_, rfl⟩
    have HD := Lib.hid hD
    have hdx : DiffC m.cons ds.length := by rw [hlx]; exact HDC.out
    have HDl := Lib.hid (show D.length = n by rw [← hD, fix_len hdx hdd, hlx])
    have HDd := Lib.hid (show Doms D by rw [← hD]; exact fix_doms hdx hdd)
    have hDc : card D ≤ card ds := by rw [← hD]; exact fix_sub hdx hdd
    clear hD hdx
    have b3 := hF.blk.at_ 3 rfl
    have f3 := hF.blk.frozen 3
    obtain ⟨nr, hnr⟩ : ∃ nr, rows.length = nr := ⟨_, rfl⟩
    have HNR := Lib.hid hnr
    obtain ⟨nd', hnd'⟩ : ∃ nd', wrap64 (nodes + 1) = nd' := ⟨_, rfl⟩
    have hS1 : TBlk 116 (W.setCell ⟨fB, 3, none⟩ (.int .i64 nd')) fB #[.slice da n cd, .slice ca nc cc, .int .i64 lim, .int .i64 nd', .slice fa rows.length fc] := hF.blk.store 3 (.int .i64 nd')
    have hK1 : KI W (W.setCell ⟨fB, 3, none⟩ (.int .i64 nd')) := KI.store (show (116 : TypeId) ≠ 3 by decide) hF.blk (KI.refl W)
    have hB1 : Below w0.heap.size w0 (W.setCell ⟨fB, 3, none⟩ (.int .i64 nd')) := hF.below.setCell hfB _
    have hO1 := OwnOf.shuns (t := 116) (e := 23) (by decide) (OwnI.shuns (e := 3) (by decide)) _ _ _ _ _ 3 _ _ (.int .i64 nd') hF.blk hF.own
    obtain ⟨W1, hW1⟩ : ∃ W1, W.setCell ⟨fB, 3, none⟩ (.int .i64 nd') = W1 := ⟨_, rfl⟩
    have hz1' : W1.heap.size = W.heap.size := by rw [← hW1]; simp
    rw [hW1] at hS1 hK1 hB1 hO1
    have hF1 : Fd w0 W1 fB nc n lim m da ca cd cc nd' fa fc rows := ⟨hB1, hS1, hO1, hF.rowsn⟩
    have HF1 := Lib.hid hF1
    have HK1 := Lib.hid hK1
    have HX1 := Lib.hid ((hx.ki hK1).int hB1 hn4)
    have c0 := hS1.at_ 0 rfl
    have c1 := hS1.at_ 1 rfl
    have HZ1 := Lib.hid hz1'
    clear hx hdd hF hF1 hS1 hO1 hK1 hz1' hnr
    go_enter Try.func117, Try.ntmps117
    go_wp2_with fail
    clear hW1 b3 f3
    refine (sfixpoint [.slice da n cd, .slice ca nc cc] m ds _ n _ W1 (ModR.on HM.out hB1) HX1.out hn1 hn4 h6 HCS.out HDD.out).mono ?_
    rintro e W2 ⟨v2, rfl, hh2, hb2⟩
    rw [HD.out] at hh2
    obtain ⟨B2, c2, rfl⟩ := hh2.form
    have HH2 := Lib.hid (hh2.base_ (base' := w0.heap.size) hB1.size)
    have HF2 := Lib.hid (HF1.out.on hb2)
    have HK2 := Lib.hid (HK1.out.trans (KI.of_below hb2))
    have hs2 : W.heap.size ≤ W2.heap.size := by have := hb2.size; rw [HZ1.out] at this; exact this
    clear hb2 hh2 HF1 HK1 HX1 HZ1 c0 c1 hB1
    go_wp2_with fail
    refine (shasEmpty _ _ _ D W2 (int_blk HH2.out (by omega))).mono ?_
    rintro e W2' ⟨rfl, rfl⟩
    cases te : decide ((0 : Int) ∈ D)
    case true =>
      go_wp2_with fail
      refine bodyPost_ret (results_none rfl _ _ _) rfl ?_
      exact ⟨⟨_, rfl⟩, _, _, _, _, HF2.out, by omega, HK2.out, hs2⟩
    have hz := Lib.hid (show hasZ D = false by rw [← zmem_iff]; exact te)
    clear te
    go_wp2_with fail
    have HBr := Lib.hid (Below.refl W2.heap.size W2)
    go_loopw [5] (fun i wr => ∃ j : Nat, j ≤ n ∧ i = .int .i64 j ∧ Hid (Below W2.heap.size W2 wr)) (fun i _ => n - (intOf i).toNat)
    case atStart => exact ⟨0, by omega, rfl, HBr⟩
    case round =>
      obtain ⟨j, hj, rfl, hbr⟩ := hrel
      clear HBr
      rename World => wr
      have HHr := Lib.hid (HH2.out.below hbr.out)
      have HFr := Lib.hid (HF2.out.on hbr.out)
      have HKr := Lib.hid (HK2.out.trans (KI.of_below hbr.out))
      have hsr : W.heap.size ≤ wr.heap.size := Nat.le_trans hs2 hbr.out.size
      by_cases hlt : j < n
      · obtain ⟨ab, ao, x, e2, hab, hxk, hcx⟩ := IntR.at_ (int_blk HHr.out (by omega)) hlt
        subst e2
        have HXK := Lib.hid hxk
        have hx0 := HDd.out x (List.mem_of_getElem? hxk)
        have hxp : 0 ≤ x := hx0.1
        clear hxk hx0
        go_wp2_with fail
        refine (sdomainValues x hxp wr).mono ?_
        rintro e w3 ⟨v3, rfl, o3, hb3⟩
        have hv6 := valsTo_len x 6
        obtain ⟨nv, hnv⟩ : ∃ nv, (valsTo x 6).length = nv := ⟨_, rfl⟩
        have HNV := Lib.hid hnv
        rw [hnv] at o3 hv6
        clear hnv
        obtain ⟨A3, c3, rfl, -⟩ := IntR.of_own o3 (by omega)
        have HB3 := Lib.hid (bgo hbr.out hb3)
        have hcx3 := (hb3.cell (p := ⟨ab, ao + j, none⟩) hab).trans hcx
        have hab3 : ab < w3.heap.size := Nat.lt_of_lt_of_le hab hb3.size
        have HH3 := Lib.hid (HHr.out.below hb3)
        have HF3 := Lib.hid (HFr.out.on hb3)
        have HK3 := Lib.hid (HKr.out.trans (KI.of_below hb3))
        have hs3 : W.heap.size ≤ w3.heap.size := Nat.le_trans hsr hb3.size
        clear o3 hb3 hcx hbr HHr HFr HKr hsr
        by_cases hs : nv = 1
        · have hs1 : ((nv : Int) == 1) = true := by simp; omega
          clear hs
          go_wp2_with fail
          go_roundw
          case rel => exact ⟨j + 1, by omega, by go_num, HB3⟩
          case measure => simp [intOf]; omega
        · have hs1 : ((nv : Int) == 1) = false := by simp; omega
          have HS := Lib.hid (show (valsTo x 6).length ≠ 1 by rw [HNV.out]; exact hs)
          have hjn : ((j : Int) == (n : Int)) = false := by simp; omega
          clear hs HH2 HF2 HK2 HB3
          go_wp2_with fail
          refine (sdomainValues x hxp w3).mono ?_
          rintro e w4 ⟨v4, rfl, o4, hb4⟩
          rw [HNV.out] at o4
          obtain ⟨A4, c4, rfl, -⟩ := IntR.of_own o4 (by omega)
          have HL4 := Lib.hid (HoldR.of_own o4)
          have HH4 := Lib.hid (HH3.out.below hb4)
          have HF4 := Lib.hid (HF3.out.on hb4)
          have HK4 := Lib.hid (HK3.out.trans (KI.of_below hb4))
          have hs4 : W.heap.size ≤ w4.heap.size := Nat.le_trans hs3 hb4.size
          clear o4 hb4 HH3 HF3 HK3 hs3 hcx3 hab3 hab
          go_wp2_with fail
          have HKI0 := Lib.hid (KI.refl w4)
          have hrl2 : rows.length ≤ lim := by omega
          go_loopw [9] (fun i wy => ∃ (q : Nat) (no : Int) (fa2 : Option Addr) (fc2 : Nat) (rows2 : List (List Int)), q ≤ nv ∧ i = .int .i64 q ∧ Hid (Fd w0 wy fB nc n lim m da ca cd cc no fa2 fc2 rows2) ∧ rows2.length ≤ lim ∧ Hid (KI w4 wy) ∧ w4.heap.size ≤ wy.heap.size) (fun i _ => nv - (intOf i).toNat)
          case atStart => exact ⟨0, _, _, _, _, by omega, rfl, HF4, hrl2, HKI0, Nat.le_refl _⟩
          case round =>
            obtain ⟨q, no, fa2, fc2, rows2, hq, rfl, hFy, hry, hKy, hsy⟩ := hrel
            clear HF4 HKI0 hrl2
            rename World => wy
            obtain ⟨n2, hn2⟩ : ∃ n2, rows2.length = n2 := ⟨_, rfl⟩
            have HN2 := Lib.hid hn2
            have y2 : wy.cell? ⟨fB, 2, none⟩ = some (.int .i64 lim) := hFy.out.blk.at_ 2 rfl
            have y4 : wy.cell? ⟨fB, 4, none⟩ = some (.slice fa2 rows2.length fc2) := hFy.out.blk.at_ 4 rfl
            rw [hn2] at y4 hry
            clear hn2
            by_cases hqn : q < nv
            · by_cases hrn : n2 < lim
              · have tl : decide ((n2 : Int) < (lim : Int)) = true := decide_eq_true (by omega)
                have tq : decide ((q : Int) < (nv : Int)) = true := decide_eq_true (by omega)
                go_wp2_with fail
                go_quiet (fail)
                go_wp2_with fail
                have HBq := Lib.hid (show Below wy.heap.size wy (wy.drewN nq) from below_drewN (Below.refl _ _) nq)
                have HHq := Lib.hid ((HH4.out.ki hKy.out).below HBq.out)
                have HLq := Lib.hid ((HL4.out.ki hKy.out).below HBq.out)
                have HFq := Lib.hid (hFy.out.on HBq.out)
                have HKq := Lib.hid (hKy.out.trans (KI.of_below HBq.out))
                have hzq : (wy.drewN nq).heap.size = wy.heap.size := rfl
                have hw0y := hFy.out.below.size
                clear y2 y4 hFy hKy
                refine (scopyRF _ _ _ D _ (int_blk HHq.out (by omega)) (by omega) (by omega)).mono ?_
                rintro e w5 ⟨v5, rfl, o5, hb5⟩
                have o6 := o5.1
                rw [HDl.out] at o6
                obtain ⟨g5, c5, rfl, hg5⟩ : ∃ g5 c5 : Nat, v5 = .slice (some ⟨g5, 0, none⟩) n c5 ∧ wy.heap.size ≤ g5 := by
                  rcases o6.2 with ⟨_, h7⟩ | ⟨gd, cap, cur, hv, hgd, -⟩
                  · omega
                  · exact ⟨gd, cap, hv, hgd⟩
                have hL5 := HLq.out.below hb5
                obtain ⟨gL, eL, -, -⟩ := hL5.pos (by omega)
                subst eL
                obtain ⟨vq, hvq⟩ : ∃ vq, (valsTo x 6)[q]? = some vq := ⟨_, List.getElem?_eq_getElem (by rw [HNV.out]; exact hqn)⟩
                have hcl := hL5.cellAt q (by omega)
                rw [List.getElem?_map, hvq] at hcl
                simp only [Option.map_some] at hcl
                have hmem := List.mem_of_getElem? hvq
                obtain ⟨hv0, hv5, -⟩ := valsTo_mem hmem
                obtain ⟨mv, rfl⟩ := Int.eq_ofNat_of_zero_le hv0
                have hwr := wrap_pow (v := (mv : Int)) (by omega) (by omega)
                rw [Int.toNat_natCast] at hwr
                have hco := o6.cellAt j (by omega)
                rw [List.getElem?_map, HXK.out] at hco
                simp only [Option.map_some] at hco
                have hfo := o6.frozenAt j
                have hst := (o6.stored j (.int .i64 ((2 : Int) ^ mv))).1
                rw [← List.map_set] at hst
                obtain ⟨hcard, hDs⟩ := card_fix HDd.out HXK.out HS.out hmem
                rw [Int.toNat_natCast] at hcard hDs
                have hb6 : Below (wy.drewN nq).heap.size (wy.drewN nq) (w5.setCell ⟨g5, j, none⟩ (.int .i64 ((2 : Int) ^ mv))) := hb5.setCell (by rw [hzq]; exact hg5) _
                obtain ⟨W6, hW6⟩ : ∃ W6, w5.setCell ⟨g5, j, none⟩ (.int .i64 ((2 : Int) ^ mv)) = W6 := ⟨_, rfl⟩
                rw [hW6] at hst hb6
                have HI := Lib.hid (IH.out (D.set j ((2 : Int) ^ mv)) (some ⟨g5, 0, none⟩) c5 W6 no fa2 fc2 rows2 (by omega) (.inr (HoldR.of_own (own_base hst (by rw [hzq]; exact hw0y)))) hDs (HFq.out.on hb6) (by rw [HN2.out]; exact hrn))
                have HK6 := Lib.hid (HKq.out.trans (KI.of_below hb6))
                have hs6 : w4.heap.size ≤ W6.heap.size := Nat.le_trans hsy hb6.size
                clear hL5 o5 o6 hb5 hb6 hst hcard hDs hmem hvq HHq HFq
                go_wp2_with fail
                refine HI.out.mono ?_
                rintro e W7 ⟨⟨v7, rfl⟩, no7, fa7, fc7, rows7, hF7, hr7, hK7, hs7⟩
                have HF7 := Lib.hid hF7
                have HK7 := Lib.hid (HK6.out.trans hK7)
                clear hcl hco hfo hW6 HI hF7 hK7
                go_wp2_with fail
                go_roundw
                case rel => exact ⟨q + 1, no7, fa7, fc7, rows7, by omega, by go_num, HF7, hr7, HK7, Nat.le_trans hs6 hs7⟩
                case measure => simp [intOf]; omega
              · have tl : decide ((n2 : Int) < (lim : Int)) = false := decide_eq_false (by omega)
                have tq : decide ((q : Int) < (nv : Int)) = true := decide_eq_true (by omega)
                go_wp2_with fail
                go_quiet (fail)
                go_wp2_with fail
                refine bodyPost_end (results_none rfl _ _ _) rfl ?_
                exact ⟨⟨_, rfl⟩, _, _, _, _, hFy.out.on (below_drewN (Below.refl _ _) _), by rw [HN2.out]; exact hry, HK4.out.trans (hKy.out.trans (KI.of_below (below_drewN (Below.refl _ _) _))), Nat.le_trans hs4 hsy⟩
            · obtain rfl : q = nv := by omega
              have tq : decide ((q : Int) < (q : Int)) = false := by simp
              go_wp2_with fail
              go_quiet (fail)
              go_wp2_with fail
              refine bodyPost_end (results_none rfl _ _ _) rfl ?_
              exact ⟨⟨_, rfl⟩, _, _, _, _, hFy.out.on (below_drewN (Below.refl _ _) _), by rw [HN2.out]; exact hry, HK4.out.trans (hKy.out.trans (KI.of_below (below_drewN (Below.refl _ _) _))), Nat.le_trans hs4 hsy⟩
      · have hjn : ((j : Int) == (n : Int)) = true := by simp; omega
        go_wp2_with fail
        have ho : (wr.alloc (.cells #[] 3)).ownsRow wr.heap.size 3 1 (.slice (some ⟨wr.heap.size, 0, none⟩) 0 0) 0 (([] : List Int).map (.int .i64)) := World.ownsRow_lit wr #[] 0 (Nat.le_refl _) (by decide) rfl
        have HO0 := Lib.hid ho
        have HB0 := Lib.hid (b_alloc wr (.cells #[] 3))
        clear ho
        go_loopw [6, 7] (fun v i wy => ∃ (k : Nat) (v' : Value) (xs : List Int), k ≤ n ∧ i = .int .i64 k ∧ v' = v ∧ Hid (xs.length = k) ∧ Hid (wy.ownsRow wr.heap.size 3 1 v' k (xs.map (.int .i64))) ∧ Hid (Below wr.heap.size wr wy)) (fun _ i _ => n - (intOf i).toNat)
        case atStart => exact ⟨0, _, [], by omega, rfl, rfl, Lib.hid rfl, HO0, HB0⟩
        case round =>
          obtain ⟨k, v, xs, hk, rfl, rfl, hl, hq, hbk⟩ := hrel
          clear HO0 HB0
          rename World => wy
          have hzy := hbk.out.size
          by_cases hkn : k < n
          · obtain ⟨ab, ao, x, e2, hab, hxk, hcx⟩ := IntR.at_ (IntR.on (int_blk HHr.out (by omega)) hbk.out) hkn
            subst e2
            have hx0 := HDd.out x (List.mem_of_getElem? hxk)
            have hxp : 0 ≤ x := hx0.1
            have hnp := cntD_pos hx0.1 hx0.2 (hasZ_gat hz.out hxk)
            clear hxk hx0
            go_wp2_with fail
            refine (sdomainValues x hxp wy).mono ?_
            rintro e w5 ⟨v5, rfl, o5, hb5⟩
            obtain ⟨y, hy⟩ : ∃ y, (valsTo x 6)[0]? = some y := ⟨_, List.getElem?_eq_getElem hnp⟩
            have hv6 := valsTo_len x 6
            obtain ⟨nv, hnv⟩ : ∃ nv, (valsTo x 6).length = nv := ⟨_, rfl⟩
            rw [hnv] at o5 hnp hv6
            clear hnv
            obtain ⟨g5, c5, cur, rfl, hg5, hblk5, hcur⟩ := own_blk_int o5 hnp
            have hc5 := hblk5.at_ 0 (hcur 0 y hy)
            have hnp2 : (0 : Int) < (nv : Int) := by omega
            have hq5 := own_below hq.out hb5
            have hs5 := hb5.size
            clear hblk5 hcur hy o5 hq
            go_wp2_with (at_builtin; refine wpList_append_own _ rfl _ _ 23 rfl wr.heap.size 3 i0 _ 1 8 Try.underlying23 hi0 hz0 hz1 hz2 rfl (by decide) v _ _ rfl (hq5.alloc _) ⟨w5.heap.size, 0, none⟩ 1 1 [.int .i64 y] rfl rfl (cell_one_new _ _ _) (by simp [Value.oneCell']) (by unfold maxLen; omega) (by omega) (by rw [size_alloc_]; omega) ?_; intro v1 w6 hown hgr _)
            have hr0 := hq5.lt
            have hbw : Below wr.heap.size w5 w6 := ((Below.refl _ _).alloc (by omega) _).grown hgr (by rw [size_alloc_]; omega) (fun g hg => (hr0 g hg).1)
            have HO6 := Lib.hid (show w6.ownsRow wr.heap.size 3 1 v1 (k + 1) ((xs ++ [y]).map (.int .i64)) by simpa using hown)
            have HB6 := Lib.hid ((hbk.out.trans (hb5.mono hzy)).trans hbw)
            clear hown hgr hbw hc5 hcx
            go_roundw
            case rel => exact ⟨k + 1, v1, xs ++ [y], by omega, by go_num, rfl, Lib.hid (by rw [List.length_append, hl.out]; rfl), HO6, HB6⟩
            case measure => simp [intOf]; omega
          · obtain rfl : k = n := by omega
            obtain ⟨Bx, cx, rfl, -⟩ := IntR.of_own hq.out (by omega)
            have hFy := HFr.out.on hbk.out
            have y4 : wy.cell? ⟨fB, 4, none⟩ = some (.slice fa rows.length fc) := hFy.blk.at_ 4 rfl
            have hw0 := hFy.below.size
            obtain ⟨us, u1, u2, u3, u4⟩ := hFy.own
            have hFb := hFy.blk
            have HROW := Lib.hid (show OwnI 3 wy w0.heap.size (.slice Bx k cx) xs from ⟨by rw [hl.out]; exact own_base hq.out (by have := HFr.out.below.size; omega), by rw [hl.out]; omega⟩)
            rw [HNR.out] at y4 u2 hFb hrl
            have HFY := Lib.hid hFy
            have HU := Lib.hid (And.intro u1 (And.intro u2 u4))
            have HFB := Lib.hid hFb
            have hal := b_alloc wy (.cells #[.slice Bx k cx] 23)
            have HBL := Lib.hid hal
            have y4' : (wy.alloc (.cells #[.slice Bx k cx] 23)).cell? ⟨fB, 4, none⟩ = some (.slice fa nr fc) := (hFb.alloc_ _).at_ 4 rfl
            clear hFy u1 u3 u4 hFb hq hal
            go_wp2_with (at_builtin; refine wpList_append_own _ rfl _ _ 33 rfl w0.heap.size 23 i1 _ 1 24 Try.underlying33 hi1 hy0 hy1 hy2 rfl (by decide) (.slice fa nr fc) _ _ rfl (u2.alloc _) ⟨wy.heap.size, 0, none⟩ 1 1 [.slice Bx k cx] rfl rfl (cell_one_new _ _ _) (by simp [Value.oneCell']) (by unfold maxLen; omega) (by omega) (by rw [size_alloc_]; omega) ?_; intro v1 w7 hown hgr _; obtain ⟨A7, c7, rfl⟩ := (HoldR.of_own hown).form; have T7 := TBlk.grown (show (116 : TypeId) ≠ 23 by decide) (HFB.out.alloc_ _) (u2.alloc _) hgr; have d7 := T7.at_ 4 rfl; have f7 := T7.frozen 4; have HOWN := Lib.hid (And.intro hown (And.intro hgr T7)); clear hown hgr T7)
            obtain ⟨hown, hgr, T7⟩ := HOWN.out
            have hro : OwnOf 23 (OwnI 3) w7 w0.heap.size (.slice A7 (nr + 1) c7) (rows ++ [xs]) :=
              OwnRows.snoc (by decide) HU.out.1 (by rw [HNR.out]; exact own_below HU.out.2.1 HBL.out) (fun i u x hu hx => (OwnI.stays 3).below _ _ _ _ _ HBL.out (HU.out.2.2 i u x hu hx)) ((OwnI.stays 3).below _ _ _ _ _ HBL.out HROW.out) (by rw [HNR.out]; omega) (by rw [HNR.out]; exact hown) hgr
            have hrf := OwnOf.shuns (t := 116) (e := 23) (by decide) (OwnI.shuns (e := 3) (by decide)) _ _ _ _ _ 4 _ _ (.slice A7 (nr + 1) c7) T7 hro
            have hll : (rows ++ [xs]).length = nr + 1 := by rw [List.length_append, HNR.out]; rfl
            have hbf : Below w0.heap.size w0 (w7.setCell ⟨fB, 4, none⟩ (.slice A7 (nr + 1) c7)) := ((HFY.out.below.trans (HBL.out.mono hw0)).grown hgr (by rw [size_alloc_]; omega) (fun g hg => ((HU.out.2.1).lt g hg).1)).setCell hfB _
            have hki : KI W (w7.setCell ⟨fB, 4, none⟩ (.slice A7 (nr + 1) c7)) := KI.store (show (116 : TypeId) ≠ 3 by decide) T7 (KI.grown (show (3 : TypeId) ≠ 23 by decide) ((HKr.out.trans (KI.of_below hbk.out)).trans (KI.of_below HBL.out)) ((HU.out.2.1).alloc _) hgr)
            have hsf : W.heap.size ≤ (w7.setCell ⟨fB, 4, none⟩ (.slice A7 (nr + 1) c7)).heap.size := by
              have h1 := hgr.size
              rw [size_alloc_] at h1
              simp
              omega
            go_wp2_with fail
            refine bodyPost_ret (results_none rfl _ _ _) rfl ?_
            refine ⟨⟨_, rfl⟩, nd', A7, c7, rows ++ [xs], ⟨hbf, ?_, ?_, ?_⟩, by rw [hll]; omega, hki, hsf⟩
            · rw [hll]; exact T7.store 4 _
            · rw [hll]; exact hrf
            · intro z hz
              rcases List.mem_append.1 hz with h1 | h1
              · exact HFY.out.rowsn z h1
              · rw [List.mem_singleton.1 h1]; exact hl.out
end Go.Proofs.Ytejfnkbdmlijbaa
/- Draws of single domains. -/
namespace Go.Proofs.Ytejfnkbdmlijbaa
open Go.ChangeShapes Go.WideShapes Go.ChangeAt Go.RowKit
open Go.Shelf
set_option linter.unusedVariables false
set_option maxRecDepth 100000

theorem one (base g n c p b m c2 : Nat) (A : Option Addr) (bs : List Int) (xs : List Int) (w : World) (h : Rd w base g A n c bs p) (hp : p ≤ 1048576) (hl : xs.length = m) (hm : 0 < m) (hm2 : m ≤ 1000) (hb : b ≠ g) (hbw : b < w.heap.size) (hc : ∀ i x, xs[i]? = some x → w.cell? ⟨b, i, none⟩ = some (.int .i64 x)) :
    Calls Try.prog 83 #[.pointer (some ⟨g, 0, none⟩), .slice (some ⟨b, 0, none⟩) m c2] w fun e w' => ∃ x : Int, e = .returned (.int .i64 x) ∧ x ∈ xs ∧ Rd w' base g A n c bs (p + 1) ∧ ButG g w.heap.size w w' := by
  have HP := Lib.hid (fun k : Int => pick base g n c p A bs k w h hp)
  have HC := Lib.hid hc
  clear h hc
  go_enter Try.func83, Try.ntmps83
  go_wp2_with fail
  refine (HP.out _).mono ?_
  rintro e w1 ⟨r, rfl, ⟨-, hr⟩, hr1, hb1⟩
  obtain ⟨r0, rm⟩ := hr (by omega)
  obtain ⟨i, rfl⟩ := Int.eq_ofNat_of_zero_le r0
  obtain ⟨x, hx⟩ : ∃ x, xs[i]? = some x := ⟨_, List.getElem?_eq_getElem (by omega)⟩
  have hcell : w1.cell? ⟨b, i, none⟩ = some (.int .i64 x) := (World.cell?_of_block (w := w) (a := ⟨b, i, none⟩) (hb1.block b hbw hb)).trans (HC.out i x hx)
  have him : i < m := by omega
  have HX := Lib.hid hx
  clear hx hr r0
  go_wp2_with fail
  go_ret
  exact ⟨x, rfl, List.mem_of_getElem? HX.out, hr1, hb1⟩
set_option maxHeartbeats 4000000 in
theorem randomDomain (base g n c p : Nat) (A : Option Addr) (bs : List Int) (w : World) (h : Rd w base g A n c bs p) (hp : p ≤ 1000000) :
    Calls Try.prog 102 #[.pointer (some ⟨g, 0, none⟩)] w fun e w' => ∃ (x : Int) (q : Nat), e = .returned (.int .i64 x) ∧ (0 ≤ x ∧ x ≤ 63) ∧ q ≤ p + 3 ∧ Rd w' base g A n c bs q ∧ ButG g w.heap.size w w' := by
  have H := Lib.hid h
  clear h
  go_enter Try.func102, Try.ntmps102
  go_wp2_with fail
  refine (pick base g n c p A bs 4 w H.out (by omega)).mono ?_
  rintro e w1 ⟨r, rfl, -, hr1, hb1⟩
  by_cases h0 : r = 0
  · subst h0
    go_wp2_with fail
    go_ret
    exact ⟨63, _, rfl, by omega, by omega, hr1, hb1⟩
  · have n0 : (r == 0) = false := by simpa using h0
    by_cases h1 : r = 1
    · subst h1
      go_wp2_with fail
      refine (pick base g n c (p + 1) A bs 3 _ hr1 (by omega)).mono ?_
      rintro e w2 ⟨lo, rfl, -, hr2, hb2⟩
      go_wp2_with fail
      refine (pick base g n c (p + 1 + 1) A bs 4 _ hr2 (by omega)).mono ?_
      rintro e w3 ⟨hi, rfl, ⟨-, hhi⟩, hr3, hb3⟩
      obtain ⟨hi0, hi1⟩ := hhi (by omega)
      clear hhi
      go_wp2_with fail
      refine (sDomainRange _ _ _).mono ?_
      rintro e w4 ⟨rfl, rfl⟩
      go_wp2_with fail
      go_ret
      exact ⟨_, _, rfl, drTo_63 _ _ 6 (by omega), by omega, hr3, (hb1.go hb2).go hb3⟩
    · have n1 : (r == 1) = false := by simpa using h1
      by_cases h2 : r = 2
      · subst h2
        go_wp2_with fail
        refine (pick base g n c (p + 1) A bs 6 _ hr1 (by omega)).mono ?_
        rintro e w2 ⟨k, rfl, ⟨-, hk⟩, hr2, hb2⟩
        obtain ⟨k0, k1⟩ := hk (by omega)
        obtain ⟨k, rfl⟩ := Int.eq_ofNat_of_zero_le k0
        have hk6 : k < 6 := by omega
        have hp2 := pow_le5 k hk6
        clear hk k0 k1
        go_wp2_with fail
        go_ret
        exact ⟨_, _, rfl, by omega, by omega, hr2, hb1.go hb2⟩
      · have n2 : (r == 2) = false := by simpa using h2
        go_wp2_with fail
        refine (pick base g n c (p + 1) A bs 63 _ hr1 (by omega)).mono ?_
        rintro e w2 ⟨k, rfl, ⟨-, hk⟩, hr2, hb2⟩
        obtain ⟨k0, k1⟩ := hk (by omega)
        clear hk
        go_wp2_with fail
        go_ret
        exact ⟨_, _, rfl, by omega, by omega, hr2, hb1.go hb2⟩
set_option maxHeartbeats 4000000 in
theorem anyDomain (base g n c p : Nat) (A : Option Addr) (bs : List Int) (w : World) (h : Rd w base g A n c bs p) (hp : p ≤ 900000) :
    Calls Try.prog 74 #[.pointer (some ⟨g, 0, none⟩)] w fun e w' => ∃ (x : Int) (q : Nat), e = .returned (.int .i64 x) ∧ (-1 ≤ x ∧ x ≤ 255) ∧ q ≤ p + 4 ∧ Rd w' base g A n c bs q ∧ ButG g w.heap.size w w' := by
  have hg : g < w.heap.size := (Array.getElem?_eq_some_iff.1 h.block).1
  have H := Lib.hid h
  clear h
  go_enter Try.func74, Try.ntmps74
  go_wp2_with fail
  refine (pick base g n c p A bs 10 w H.out (by omega)).mono ?_
  rintro e w1 ⟨r, rfl, -, hr1, hb1⟩
  have s1 := hb1.size
  by_cases h0 : r = 0
  · subst h0
    go_wp2_with fail
    have hN0 : (w1.alloc (.cells #[.int .i64 0, .int .i64 (-1), .int .i64 64, .int .i64 255] 3)).heap.size = w1.heap.size + 1 := size_alloc_ _ _
    have hc0 : ∀ i x, ([0, -1, 64, 255] : List Int)[i]? = some x → (w1.alloc (.cells #[.int .i64 0, .int .i64 (-1), .int .i64 64, .int .i64 255] 3)).cell? ⟨w1.heap.size, i, none⟩ = some (.int .i64 x) := fun i x hx => by
      rw [World.cell?_alloc_at _ _ _ _ rfl]
      match i, hx with
      | 0, hx => simp at hx; subst hx; rfl
      | 1, hx => simp at hx; subst hx; rfl
      | 2, hx => simp at hx; subst hx; rfl
      | 3, hx => simp at hx; subst hx; rfl
      | i + 4, hx => simp at hx
    refine (one base g n c (p + 1) w1.heap.size 4 4 A bs [0, -1, 64, 255] _ (hr1.under (b_alloc _ _) (by omega)) (by omega) rfl (by omega) (by omega) (by omega) (by omega) hc0).mono ?_
    rintro e w3 ⟨x1, rfl, hx1, hr3, hb3⟩
    have hb23 := hb1.go ((below_butG (b_alloc w1 (.cells #[.int .i64 0, .int .i64 (-1), .int .i64 64, .int .i64 255] 3)) g).go hb3)
    have hxb : -1 ≤ x1 ∧ x1 ≤ 255 := by
      simp at hx1
      omega
    clear hc0 hN0 hb3 hx1
    go_wp2_with fail
    go_ret
    exact ⟨x1, _, rfl, hxb, by omega, hr3, hb23⟩
  · have n0 : (r == 0) = false := by simpa using h0
    go_wp2_with fail
    refine (randomDomain base g n c (p + 1) A bs _ hr1 (by omega)).mono ?_
    rintro e w2 ⟨x, q, rfl, hx, hq, hr2, hb2⟩
    go_wp2_with fail
    go_ret
    exact ⟨x, q, rfl, by omega, by omega, hr2, hb1.go hb2⟩
theorem drawValidDomain (A : Option Addr) (n c : Nat) (bs : List Int) (w : World) (h : CodeA w w.heap.size A n c bs) :
    Calls Try.prog 31 #[.slice A n c] w fun e w' => ∃ x : Int, e = .returned (.int .i64 x) ∧ (-1 ≤ x ∧ x ≤ 255) ∧ Below w.heap.size w w' := by
  have HN := newReader A n c bs w h
  go_enter Try.func31, Try.ntmps31
  go_wp2_with fail
  refine HN.mono ?_
  rintro e w1 ⟨g, m, c', bs', rfl, hr, hb1, hg⟩
  go_wp2_with fail
  refine (anyDomain _ g m c' 0 A bs' w1 hr (by omega)).mono ?_
  rintro e w2 ⟨x, q, rfl, hx, -, -, hb2⟩
  go_wp2_with fail
  go_ret
  exact ⟨x, rfl, hx, hb1.trans (hb2.below hr.base_le hb1.size)⟩
end Go.Proofs.Ytejfnkbdmlijbaa
