/- Texts laid into one: DrawA Nums TupP Range Dvals Tup Tup2 DrawF DrawG DrawM DrawN DrawO DrawMV CopyV CopyX SolI Ent SatS EntS Fil. -/
import Derived.Test.YtjpcdbdaimonlaaDraw
import Derived.Test.YtjpcdbdaimonlaaInts
import Derived.Test.YtjpcdbdaimonlaaMem
import Derived.Test.YtjpcdbdaimonlaaSatP
import Derived.RangeFuncCalls
import Derived.RangeFuncLeaves
import Derived.RangeFuncFrom
import Derived.RangeFuncNested
import Derived.Shelf.Abstract
import Derived.Shelf.RegionOpen
import Derived.OwnWalkIn
import Derived.TacticsInMore
import Derived.LoopNIn
import Derived.LoopIn
import Derived.OrdersHeld
import Derived.Deep.RegionHeld3
import Derived.StillTailTactics
import Derived.Maps.AppendAt
import Derived.ArgAppend
import Derived.Laws.EntriesVeiled
import Derived.Test.YtjpcdbdaimonlaaDrawR
import Derived.Test.YtjpcdbdaimonlaaExt
import Derived.Test.YtjpcdbdaimonlaaDrawRV
import Derived.Test.YtjpcdbdaimonlaaVmod
import Derived.Test.YtjpcdbdaimonlaaCopyT
import Derived.Test.YtjpcdbdaimonlaaSatI
import Derived.Test.YtjpcdbdaimonlaaHold
/- Draws of single domains. -/
namespace Go.Proofs.Ytjpcdbdaimonlaa
open Go.ChangeShapes Go.WideShapes Go.ChangeAt Go.RowKit
open Go.Shelf
set_option linter.unusedVariables false
set_option maxRecDepth 100000

theorem one (base g n c p b m c2 : Nat) (A : Option Addr) (bs : List Int) (xs : List Int) (w : World) (h : Rd w base g A n c bs p) (hp : p ≤ 1048576) (hl : xs.length = m) (hm : 0 < m) (hm2 : m ≤ 1000) (hb : b ≠ g) (hbw : b < w.heap.size) (hc : ∀ i x, xs[i]? = some x → w.cell? ⟨b, i, none⟩ = some (.int .i64 x)) :
    Calls Try.prog 29 #[.pointer (some ⟨g, 0, none⟩), .slice (some ⟨b, 0, none⟩) m c2] w fun e w' => ∃ x : Int, e = .returned (.int .i64 x) ∧ x ∈ xs ∧ Rd w' base g A n c bs (p + 1) ∧ ButG g w.heap.size w w' := by
  have HP := Lib.hid (fun k : Int => pick base g n c p A bs k w h hp)
  have HC := Lib.hid hc
  clear h hc
  go_enter Try.func29, Try.ntmps29
  go_wp2_with fail
  refine (HP.out _).mono ?_
  rintro e w1 ⟨r, rfl, ⟨-, hr⟩, hr1, hb1⟩
  obtain ⟨r0, rm⟩ := hr (by omega)
  obtain ⟨i, rfl⟩ := Int.eq_ofNat_of_zero_le r0
  obtain ⟨x, hx⟩ : ∃ x, xs[i]? = some x := ⟨_, List.getElem?_eq_getElem (by omega)⟩
  have hcell : w1.cell? ⟨b, i, none⟩ = some (.int .i64 x) := (World.cell?_of_block (w := w) (a := ⟨b, i, none⟩) (hb1.block b hbw hb)).trans (HC.out i x hx)
  have him : i < m := by omega
  have HX := Lib.hid hx
  clear hx hr r0
  go_wp2_with fail
  go_ret
  exact ⟨x, rfl, List.mem_of_getElem? HX.out, hr1, hb1⟩
set_option maxHeartbeats 4000000 in
theorem randomDomain (base g n c p : Nat) (A : Option Addr) (bs : List Int) (w : World) (h : Rd w base g A n c bs p) (hp : p ≤ 1000000) :
    Calls Try.prog 42 #[.pointer (some ⟨g, 0, none⟩)] w fun e w' => ∃ (x : Int) (q : Nat), e = .returned (.int .i64 x) ∧ (0 ≤ x ∧ x ≤ 63) ∧ q ≤ p + 3 ∧ Rd w' base g A n c bs q ∧ ButG g w.heap.size w w' := by
  have H := Lib.hid h
  clear h
  go_enter Try.func42, Try.ntmps42
  go_wp2_with fail
  refine (pick base g n c p A bs 4 w H.out (by omega)).mono ?_
  rintro e w1 ⟨r, rfl, -, hr1, hb1⟩
  by_cases h0 : r = 0
  · subst h0
    go_wp2_with fail
    go_ret
    exact ⟨63, _, rfl, by omega, by omega, hr1, hb1⟩
  · have n0 : (r == 0) = false := by simpa using h0
    by_cases h1 : r = 1
    · subst h1
      go_wp2_with fail
      refine (pick base g n c (p + 1) A bs 3 _ hr1 (by omega)).mono ?_
      rintro e w2 ⟨lo, rfl, -, hr2, hb2⟩
      go_wp2_with fail
      refine (pick base g n c (p + 1 + 1) A bs 4 _ hr2 (by omega)).mono ?_
      rintro e w3 ⟨hi, rfl, ⟨-, hhi⟩, hr3, hb3⟩
      obtain ⟨hi0, hi1⟩ := hhi (by omega)
      clear hhi
      go_wp2_with fail
      refine (sDomainRange _ _ _).mono ?_
      rintro e w4 ⟨rfl, rfl⟩
      go_wp2_with fail
      go_ret
      exact ⟨_, _, rfl, drTo_63 _ _ 6 (by omega), by omega, hr3, (hb1.go hb2).go hb3⟩
    · have n1 : (r == 1) = false := by simpa using h1
      by_cases h2 : r = 2
      · subst h2
        go_wp2_with fail
        refine (pick base g n c (p + 1) A bs 6 _ hr1 (by omega)).mono ?_
        rintro e w2 ⟨k, rfl, ⟨-, hk⟩, hr2, hb2⟩
        obtain ⟨k0, k1⟩ := hk (by omega)
        obtain ⟨k, rfl⟩ := Int.eq_ofNat_of_zero_le k0
        have hk6 : k < 6 := by omega
        have hp2 := pow_le5 k hk6
        clear hk k0 k1
        go_wp2_with fail
        go_ret
        exact ⟨_, _, rfl, by omega, by omega, hr2, hb1.go hb2⟩
      · have n2 : (r == 2) = false := by simpa using h2
        go_wp2_with fail
        refine (pick base g n c (p + 1) A bs 63 _ hr1 (by omega)).mono ?_
        rintro e w2 ⟨k, rfl, ⟨-, hk⟩, hr2, hb2⟩
        obtain ⟨k0, k1⟩ := hk (by omega)
        clear hk
        go_wp2_with fail
        go_ret
        exact ⟨_, _, rfl, by omega, by omega, hr2, hb1.go hb2⟩
end Go.Proofs.Ytjpcdbdaimonlaa
/- Numbers as cells. No program in sight. -/
namespace Go.Proofs.Ytjpcdbdaimonlaa
set_option linter.unusedVariables false

/-- numbers as cells. -/
def ints (xs : List Int) : Array Value := (xs.map (.int .i64)).toArray
theorem ints_at {xs : List Int} {k : Nat} {x : Int} (h : xs[k]? = some x) : (ints xs)[k]? = some (.int .i64 x) := by unfold ints; simp [h]
theorem ints_set (xs : List Int) (k : Nat) (x : Int) : (ints xs).setIfInBounds k (.int .i64 x) = ints (xs.set k x) := by
  unfold ints
  rw [List.setIfInBounds_toArray, List.map_set]
theorem ints_zero {Z : Array Value} {m : Nat} (h : Z.toList = List.replicate m (.int .i64 0)) : Z = ints (List.replicate m 0) := by
  unfold ints
  rw [List.map_replicate, ← h]
end Go.Proofs.Ytjpcdbdaimonlaa
/- Tuples of domains, and the supports of a constraint: plain lists. No program in sight. -/
namespace Go.Proofs.Ytjpcdbdaimonlaa
open Go.ChangeShapes Go.WideShapes Go.ChangeAt Go.RowKit
open Go.Shelf
set_option linter.unusedVariables false
set_option maxRecDepth 100000

/-- all lists with a value of each domain, the least ones first. -/
def allT : List Int → List (List Int)
  | [] => [[]]
  | d :: ds => (valsTo d 6).flatMap fun v => (allT ds).map (v :: ·)
/-- all that begin with t. -/
def extT (ds : List Int) (t : List Int) : List (List Int) := (allT (ds.drop t.length)).map (t ++ ·)
theorem extT_nil (ds : List Int) : extT ds [] = allT ds := by simp [extT]
theorem extT_full {ds t : List Int} (h : t.length = ds.length) : extT ds t = [t] := by
  unfold extT
  rw [List.drop_eq_nil_of_le (by omega)]
  simp [allT]
theorem extT_step {ds t : List Int} {d : Int} (h : ds[t.length]? = some d) : extT ds t = (valsTo d 6).flatMap fun v => extT ds (t ++ [v]) := by
  have hk : t.length < ds.length := by
    rcases Nat.lt_or_ge t.length ds.length with h1 | h1
    · exact h1
    · rw [List.getElem?_eq_none h1] at h; cases h
  unfold extT
  rw [List.drop_eq_getElem_cons hk]
  rw [List.getElem?_eq_getElem hk] at h
  injection h with h
  rw [h, allT, List.map_flatMap]
  congr 1
  funext v
  rw [List.map_map]
  simp [Function.comp_def]
/-- the tuples of the first k values of a position. -/
def extK (ds t : List Int) (vs : List Int) (k : Nat) : List (List Int) := (vs.take k).flatMap fun v => extT ds (t ++ [v])
theorem extK_zero (ds t vs : List Int) : extK ds t vs 0 = [] := rfl
theorem extK_succ {ds t vs : List Int} {k : Nat} {v : Int} (h : vs[k]? = some v) : extK ds t vs (k + 1) = extK ds t vs k ++ extT ds (t ++ [v]) := by
  unfold extK
  rw [List.take_add_one, h, List.flatMap_append]
  simp
theorem extK_done {ds t : List Int} {d : Int} (h : ds[t.length]? = some d) : extK ds t (valsTo d 6) (valsTo d 6).length = extT ds t := by
  unfold extK
  rw [List.take_length, extT_step h]
theorem valsTo_mem {d v : Int} {k : Nat} (h : v ∈ valsTo d k) : 0 ≤ v ∧ v < (k : Int) ∧ hasB d v = true := by
  induction k with
  | zero => simp [valsTo] at h
  | succ k ih =>
    rw [valsTo, List.mem_append] at h
    rcases h with h | h
    · have := ih h; exact ⟨this.1, by omega, this.2.2⟩
    · split at h
      · rename_i hh
        rw [List.mem_singleton.1 h]
        exact ⟨by omega, by omega, hh⟩
      · simp at h
theorem valsTo_has {d v : Int} {k : Nat} (h0 : 0 ≤ v) (h1 : v < (k : Int)) (h2 : hasB d v = true) : v ∈ valsTo d k := by
  induction k with
  | zero => omega
  | succ k ih =>
    rw [valsTo, List.mem_append]
    by_cases h3 : v < (k : Int)
    · exact .inl (ih h3)
    · obtain rfl : v = (k : Int) := by omega
      right
      rw [h2]
      simp
/-- t takes its values from ds. -/
def InDs (ds t : List Int) : Prop := t.length = ds.length ∧ ∀ (j : Nat) d v, ds[j]? = some d → t[j]? = some v → 0 ≤ v ∧ v ≤ 5 ∧ hasB d v = true
theorem mem_allT {ds t : List Int} : t ∈ allT ds ↔ InDs ds t := by
  induction ds generalizing t with
  | nil =>
    constructor
    · intro h
      simp [allT] at h
      subst h
      exact ⟨rfl, fun j d v h => by simp at h⟩
    · rintro ⟨h, -⟩
      simp at h
      subst h
      simp [allT]
  | cons d ds ih =>
    constructor
    · intro h
      rw [allT, List.mem_flatMap] at h
      obtain ⟨v, hv, h⟩ := h
      obtain ⟨t', ht', rfl⟩ := List.mem_map.1 h
      obtain ⟨h1, h2⟩ := ih.1 ht'
      obtain ⟨g0, g1, g2⟩ := valsTo_mem hv
      refine ⟨by simp [h1], fun j e x hj hx => ?_⟩
      cases j with
      | zero =>
        simp at hj hx
        subst hj hx
        exact ⟨g0, by omega, g2⟩
      | succ j => exact h2 j e x (by simpa using hj) (by simpa using hx)
    · rintro ⟨h1, h2⟩
      cases t with
      | nil => simp at h1
      | cons v t =>
        obtain ⟨g0, g1, g2⟩ := h2 0 d v rfl rfl
        rw [allT, List.mem_flatMap]
        refine ⟨v, valsTo_has g0 (by omega) g2, List.mem_map.2 ⟨t, ih.2 ⟨by simpa using h1, fun j e x hj hx => h2 (j + 1) e x (by simpa using hj) (by simpa using hx)⟩, rfl⟩⟩

/-- v put into the domain a. -/
def orB (a : Int) (v : Int) : Int := if hasB a v then a else a + 2 ^ v.toNat
theorem orB_tab : ∀ a : Fin 64, ∀ v : Fin 6, 0 ≤ orB a.val v.val ∧ orB a.val v.val ≤ 63 ∧ bits .or .i64 (a.val : Int) (2 ^ (v.val : Int).toNat) = orB a.val v.val ∧ (hasB a.val v.val = false → orB a.val v.val = (a.val : Int) + 2 ^ (v.val : Int).toNat) ∧ (hasB a.val v.val = true → orB a.val v.val = a.val) := by decide +kernel
theorem orB_has : ∀ a : Fin 64, ∀ v u : Fin 6, hasB (orB a.val v.val) u.val = (hasB a.val u.val || u.val == v.val) := by decide +kernel
theorem orB_in {a v : Int} (h0 : 0 ≤ a) (h1 : a ≤ 63) (v0 : 0 ≤ v) (v1 : v ≤ 5) : 0 ≤ orB a v ∧ orB a v ≤ 63 ∧ bits .or .i64 a (2 ^ v.toNat) = orB a v ∧ (hasB a v = false → orB a v = a + 2 ^ v.toNat) ∧ (hasB a v = true → orB a v = a) := by
  obtain ⟨n, rfl⟩ := dom_fin h0 h1
  have := orB_tab n ⟨v.toNat, by omega⟩
  have e : ((v.toNat : Nat) : Int) = v := by omega
  simp only [e] at this
  exact this
theorem orB_has' {a v u : Int} (h0 : 0 ≤ a) (h1 : a ≤ 63) (v0 : 0 ≤ v) (v1 : v ≤ 5) (u0 : 0 ≤ u) (u1 : u ≤ 5) : hasB (orB a v) u = (hasB a u || u == v) := by
  obtain ⟨n, rfl⟩ := dom_fin h0 h1
  have := orB_has n ⟨v.toNat, by omega⟩ ⟨u.toNat, by omega⟩
  have e : ((v.toNat : Nat) : Int) = v := by omega
  have e2 : ((u.toNat : Nat) : Int) = u := by omega
  simp only [e, e2] at this
  rw [this]
  congr 1
  rw [Bool.eq_iff_iff]; simp; omega
/-- the first k places of acc, each with t's value put in. -/
def updTo (acc t : List Int) (k : Nat) : List Int := (List.zipWith orB acc t).take k ++ acc.drop k
theorem updTo_zero (acc t : List Int) : updTo acc t 0 = acc := by simp [updTo]
theorem updTo_len {acc t : List Int} (h : acc.length = t.length) (k : Nat) : (updTo acc t k).length = acc.length := by simp [updTo]; omega
theorem updTo_at {acc t : List Int} {k : Nat} {a : Int} (h : acc.length = t.length) (ha : acc[k]? = some a) : (updTo acc t k)[k]? = some a := by
  have hk : k < acc.length := by
    rcases Nat.lt_or_ge k acc.length with h1 | h1
    · exact h1
    · rw [List.getElem?_eq_none h1] at ha; cases ha
  unfold updTo
  rw [List.getElem?_append_right (by simp; omega)]
  have : k - (List.take k (List.zipWith orB acc t)).length = 0 := by simp; omega
  rw [this, List.getElem?_drop, Nat.add_zero]
  exact ha
theorem updTo_succ {acc t : List Int} {k : Nat} {a v : Int} (h : acc.length = t.length) (ha : acc[k]? = some a) (hv : t[k]? = some v) : (updTo acc t k).set k (orB a v) = updTo acc t (k + 1) := by
  have hk : k < acc.length := by
    rcases Nat.lt_or_ge k acc.length with h1 | h1
    · exact h1
    · rw [List.getElem?_eq_none h1] at ha; cases ha
  unfold updTo
  rw [List.set_append_right _ _ (by simp; omega)]
  have : k - (List.take k (List.zipWith orB acc t)).length = 0 := by simp; omega
  rw [this, List.drop_eq_getElem_cons hk, List.set_cons_zero, List.take_add_one]
  have hz : (List.zipWith orB acc t)[k]? = some (orB a v) := by
    rw [List.getElem?_zipWith, ha, hv]
  rw [hz]
  simp
theorem updTo_done {acc t : List Int} {n : Nat} (h : acc.length = t.length) (hn : acc.length = n) : updTo acc t n = List.zipWith orB acc t := by
  subst hn
  unfold updTo
  rw [List.take_of_length_le (by rw [List.length_zipWith]; omega), List.drop_eq_nil_of_le (by omega), List.append_nil]
def stepV (c : Con) (acc t : List Int) : List Int := if satF c t then List.zipWith orB acc t else acc
/-- what the satisfying tuples among ts support, place by place. -/
def supV (c : Con) (m : Nat) (ts : List (List Int)) : List Int := ts.foldl (stepV c) (List.replicate m 0)
theorem supV_snoc (c : Con) (m : Nat) (ts : List (List Int)) (t : List Int) : supV c m (ts ++ [t]) = stepV c (supV c m ts) t := by simp [supV]
/-- all are domains. -/
def Doms (xs : List Int) : Prop := ∀ x ∈ xs, 0 ≤ x ∧ x ≤ 63
theorem stepV_ok {c : Con} {acc t : List Int} (h : Doms acc) (hl : acc.length = t.length) (ht : ∀ v ∈ t, 0 ≤ v ∧ v ≤ 5) : Doms (stepV c acc t) ∧ (stepV c acc t).length = acc.length := by
  unfold stepV
  split
  · refine ⟨fun x hx => ?_, by simp; omega⟩
    obtain ⟨k, hk, e⟩ := List.getElem_of_mem hx
    simp at hk
    rw [List.getElem_zipWith] at e
    have h1 := h (acc[k]'(by omega)) (List.getElem_mem _)
    have h2 := ht (t[k]'(by omega)) (List.getElem_mem _)
    have := orB_in h1.1 h1.2 h2.1 h2.2
    rw [← e]
    exact ⟨this.1, this.2.1⟩
  · exact ⟨h, rfl⟩
theorem updTo_doms {acc t : List Int} (h : Doms acc) (hl : acc.length = t.length) (ht : ∀ v ∈ t, 0 ≤ v ∧ v ≤ 5) (k : Nat) : Doms (updTo acc t k) := by
  intro x hx
  unfold updTo at hx
  rcases List.mem_append.1 hx with hx | hx
  · obtain ⟨j, hj, e⟩ := List.getElem_of_mem (List.mem_of_mem_take hx)
    simp at hj
    rw [List.getElem_zipWith] at e
    have h1 := h (acc[j]'(by omega)) (List.getElem_mem _)
    have h2 := ht (t[j]'(by omega)) (List.getElem_mem _)
    have := orB_in h1.1 h1.2 h2.1 h2.2
    rw [← e]
    exact ⟨this.1, this.2.1⟩
  · exact h x (List.mem_of_mem_drop hx)
/-- all of ts have m values from 0 to 5. -/
def OkT (m : Nat) (ts : List (List Int)) : Prop := ∀ t ∈ ts, t.length = m ∧ ∀ v ∈ t, 0 ≤ v ∧ v ≤ 5
theorem OkT.snoc {m : Nat} {ts : List (List Int)} {t : List Int} (h : OkT m ts) (h1 : t.length = m) (h2 : ∀ v ∈ t, 0 ≤ v ∧ v ≤ 5) : OkT m (ts ++ [t]) := by
  intro x hx
  rcases List.mem_append.1 hx with hx | hx
  · exact h x hx
  · rw [List.mem_singleton.1 hx]; exact ⟨h1, h2⟩
theorem supV_ok' (c : Con) (m : Nat) : ∀ (ts : List (List Int)) (acc : List Int), OkT m ts → Doms acc → acc.length = m → Doms (ts.foldl (stepV c) acc) ∧ (ts.foldl (stepV c) acc).length = m
  | [], acc, _, h, hl => ⟨h, hl⟩
  | t :: ts, acc, ho, h, hl => by
    obtain ⟨h1, h2⟩ := ho t (by simp)
    obtain ⟨h3, h4⟩ := stepV_ok (c := c) h (by rw [hl, h1]) h2
    exact supV_ok' c m ts _ (fun x hx => ho x (by simp [hx])) h3 (by rw [h4, hl])
theorem supV_ok {c : Con} {m : Nat} {ts : List (List Int)} (h : OkT m ts) : Doms (supV c m ts) ∧ (supV c m ts).length = m :=
  supV_ok' c m ts _ h (fun x hx => by rw [List.eq_of_mem_replicate hx]; decide) (by simp)
theorem allT_ok (ds : List Int) : OkT ds.length (allT ds) := by
  intro t ht
  obtain ⟨h1, h2⟩ := mem_allT.1 ht
  refine ⟨h1, fun v hv => ?_⟩
  obtain ⟨j, hj, e⟩ := List.getElem_of_mem hv
  have := h2 j (ds[j]'(by omega)) v (List.getElem?_eq_getElem _) (by rw [List.getElem?_eq_getElem hj, e])
  exact ⟨this.1, this.2.1⟩
/-- the first k variables' domains replaced. -/
def putTo (ds vars sup : List Int) : Nat → List Int
  | 0 => ds
  | k + 1 => (putTo ds vars sup k).set (gat vars k).toNat (gat sup k)
theorem putTo_len (ds vars sup : List Int) (k : Nat) : (putTo ds vars sup k).length = ds.length := by
  induction k with
  | zero => rfl
  | succ k ih => rw [putTo, List.length_set, ih]
/-- the domains that filtering with c leaves. -/
def filF (c : Con) (ds : List Int) : List Int := putTo ds c.vars (supV c c.vars.length (allT (wordF c.vars ds))) c.vars.length
end Go.Proofs.Ytjpcdbdaimonlaa
/- A loop over a function, walked directly: the loop's two blocks between two rounds; a round out of its body's walk. No program in sight. -/
namespace Go.Proofs.Ytjpcdbdaimonlaa
open Go.RowKit
set_option linter.unusedVariables false
set_option maxRecDepth 100000

/-- Between two rounds: the loop's record at B + 1, the block for deferred calls at B. -/
def Rdy (B : Nat) (r : Loop) (W : World) : Prop := W.heap[B + 1]? = some (.loop r) ∧ W.heap[B]? = some (.deferred (some []))
/-- In a round. -/
def Bsy (B : Nat) (r : Loop) (W : World) : Prop := W.heap[B + 1]? = some (.loop { r with state := .busy }) ∧ W.heap[B]? = some (.deferred (some []))
/-- A round has left by the jump c. -/
def Don (B : Nat) (r : Loop) (c : Code) (W : World) : Prop := W.heap[B + 1]? = some (.loop { r with state := .done, pending := some c }) ∧ W.heap[B]? = some (.deferred (some []))
theorem put_heap_same {W : World} {l : Nat} {o o' : Obj} (h : W.heap[l]? = some o) : (W.putObj l o').heap[l]? = some o' := World.putObj_heap_same (Array.getElem?_eq_some_iff.1 h).1
theorem put_cell {W : World} {l : Nat} {o : Obj} {p : Addr} (hp : p.block ≠ l) : (W.putObj l o).cell? p = W.cell? p := World.cell?_of_block (World.putObj_heap_other (by omega))
theorem put_frozen {W : World} {l : Nat} {o : Obj} {p : Addr} (hp : p.block ≠ l) : (W.putObj l o).frozen? p = W.frozen? p := World.frozen?_of_block (World.putObj_heap_other (by omega))
theorem put_below {W : World} {l B : Nat} {o : Obj} (o' : Obj) (h : W.heap[l]? = some o) (hB : B ≤ l) : Below B W (W.putObj l o') :=
  (Below.refl B W).grown (grownBy_putObj' W l o') (by have := (Array.getElem?_eq_some_iff.1 h).1; omega) (fun k e => by cases e; exact hB)
theorem put_size (W : World) (l : Nat) (o : Obj) : (W.putObj l o).heap.size = W.heap.size := by simp
theorem TBlk.put_ {t : TypeId} {w : World} {b : Nat} {cs : Array Value} {l : Nat} {o o' : Obj} (h : TBlk t w b cs) (hl : w.heap[l]? = some o) (ho : o.isCells = false) : TBlk t (w.putObj l o') b cs := by
  have hne : b ≠ l := fun e => by
    subst e
    have h' : w.heap[b]? = some (.cells cs t (0, 0)) := h
    rw [h'] at hl
    injection hl with hl
    subst hl
    cases ho
  exact (World.putObj_heap_other (by omega)).trans h
theorem Rdy.busy {B : Nat} {r : Loop} {W : World} (h : Rdy B r W) : Bsy B r (W.putObj (B + 1) (.loop { r with state := .busy })) :=
  ⟨put_heap_same h.1, (World.putObj_heap_other (by omega)).trans h.2⟩
theorem Bsy.ready {B : Nat} {r : Loop} {W : World} (h : Bsy B r W) : Rdy B r (W.putObj (B + 1) (.loop r)) :=
  ⟨put_heap_same h.1, (World.putObj_heap_other (by omega)).trans h.2⟩
theorem Bsy.done {B : Nat} {r : Loop} {W : World} (c : Code) (h : Bsy B r W) : Don B r c (W.putObj (B + 1) (.loop { r with state := .done, pending := some c })) :=
  ⟨put_heap_same h.1, (World.putObj_heap_other (by omega)).trans h.2⟩
theorem Rdy.kept {B : Nat} {r : Loop} {W W' : World} (h : Rdy B r W) (hk : KeepsFrom B W W') : Rdy B r W' := ⟨hk.same _ _ (by omega) h.1 rfl, hk.same _ _ (Nat.le_refl _) h.2 rfl⟩
theorem Bsy.kept {B : Nat} {r : Loop} {W W' : World} (h : Bsy B r W) (hk : KeepsFrom B W W') : Bsy B r W' := ⟨hk.same _ _ (by omega) h.1 rfl, hk.same _ _ (Nat.le_refl _) h.2 rfl⟩
theorem Rdy.below {B : Nat} {r : Loop} {W W' : World} (h : Rdy B r W) {k : Nat} (hk : B + 1 < k) (hb : Below k W W') : Rdy B r W' := ⟨(hb.block _ hk).trans h.1, (hb.block _ (by omega)).trans h.2⟩

/-- How a round's body may be left, and what is then said of the call of yield. -/
def RndPost (B : Nat) (r : Loop) (R : Ending → World → Prop) : Exit → Act → World → Prop
  | .normal, _, W => Bsy B r W ∧ R (.returned (.bool true)) (W.putObj (B + 1) (.loop r))
  | .ret, _, W => Bsy B r W ∧ R (.returned (.bool false)) (W.putObj (B + 1) (.loop { r with state := .done, pending := some .ret }))
  | .exit id, _, W => Bsy B r W ∧ R (.returned (.bool false)) (W.putObj (B + 1) (.loop { r with state := .done, pending := some (.exit id) }))
  | _, _, _ => False
/-- One call of yield, out of the walk of the loop's body. -/
theorem yield_direct {P : Program} {B m : Nat} {r : Loop} {W : World} {args : Array Value} {R : Ending → World → Prop} {a1 : Act} {assign body : Code} {tmps : Array Value} {ps : Array Tmp} (hr : Rdy B r W) (h1 : r.state = .ready) (h2 : r.pending = none) (h3 : r.tmps = tmps) (h4 : r.params = ps) (h5 : r.assign = assign) (h6 : r.body = body) (hs : args.size = ps.size)
    (hassign : ∀ K : Act → World → Prop, K a1 W → assign.wpIn (Fence.wide.inRound (B + 1)) m P (Exit.then K (fun _ _ _ => False)) { tmps := (ps.zip args).foldl (fun t (p, v) => t.setIfInBounds p v) tmps, defers := [] } W)
    (hbody : body.wpIn (Fence.wide.inRound (B + 1)) m P (RndPost B r R) a1 (W.putObj (B + 1) (.loop { r with state := .busy }))) : YieldAt Fence.wide m P (B + 1) args W R := by
  subst h3 h4 h5 h6
  refine ⟨r.fn, _, r.assign, r.body, run_yield hr.1 hs, roundIn_of_wpIn trivial (hassign _ ⟨_, run_beginRound hr.1 h1, ?_⟩)⟩
  refine wpIn_mono hbody ?_
  rintro e a3 W3 hp
  have hready : ({ r with state := .ready, pending := none } : Loop) = r := by cases r; simp_all
  cases e with
  | normal =>
    obtain ⟨hb, hR⟩ := hp
    have hend := run_endRound (P := P) none hb.1
    simp only [Option.isNone_none, if_true] at hend
    exact ⟨_, _, hend, by simpa only [hready] using hR⟩
  | ret =>
    obtain ⟨hb, hR⟩ := hp
    exact ⟨_, _, run_endRound (P := P) (some .ret) hb.1, hR⟩
  | exit id =>
    obtain ⟨hb, hR⟩ := hp
    exact ⟨_, _, run_endRound (P := P) (some (.exit id)) hb.1, hR⟩
  | goto t => exact hp.elim
  | panic ch => exact hp.elim
  | outgrown => exact hp.elim
/-- A loop over a function, out of the iterator's call. -/
theorem wp_range_direct {P : Program} {n : Nat} {g : Operand} {ps : Array Tmp} {assign body : Code} {Q : Exit → Act → World → Prop} {a : Act} {w : World} {gf : Nat} {lb : Array Value} (hg : a.eval g = .func (.func gf) #[] lb) (eg : ∀ args w, (callFunc gf args).run P w = .ok (.enter gf args) w)
    (hcall : ∀ r : Loop, r.state = .ready → r.pending = none → r.tmps = a.tmps → r.params = ps → r.assign = assign → r.body = body → CallsIn Fence.wide (n - 1) P gf (#[.func (.yield (w.heap.size + 1)) #[] #[]] ++ lb) ((w.alloc (.deferred (some []))).alloc (.loop r)) fun e W' => (∃ v, e = .returned v) ∧
      ((Rdy w.heap.size r W' ∧ Q .normal { a with defers := { target := .collected w.heap.size, args := #[] } :: a.defers } (W'.putObj (w.heap.size + 1) (.loop { r with state := .exhausted, pending := none }))) ∨
       (∃ c, Don w.heap.size r c W' ∧ c.wpIn Fence.wide n P Q { a with defers := { target := .collected w.heap.size, args := #[] } :: a.defers } (W'.putObj (w.heap.size + 1) (.loop { r with state := .exhausted, pending := some c }))))) :
    (Code.rangeFunc g ps assign body).wpIn Fence.wide n P Q a w := by
  refine wpIn_rangeFunc ?_
  intro fn hfn
  have hro : Fence.wide.round = none := rfl
  rw [hro]
  obtain ⟨r, hrec⟩ : ∃ r : Loop, r = { state := .ready, pending := none, fn, tmps := a.tmps, params := ps, assign, body, defers := w.heap.size } := ⟨_, rfl⟩
  have hc := hcall r (by rw [hrec]) (by rw [hrec]) (by rw [hrec]) (by rw [hrec]) (by rw [hrec]) (by rw [hrec])
  have h1 : r.state = .ready := by rw [hrec]
  have h2 : r.pending = none := by rw [hrec]
  refine ⟨w.heap.size + 1, [{ target := .collected w.heap.size, args := #[] }], (w.alloc (.deferred (some []))).alloc (.loop r), { target := .fn (.func gf) lb, args := #[.func (.yield (w.heap.size + 1)) #[] #[]] }, (w.alloc (.deferred (some []))).alloc (.loop r), gf,
    #[.func (.yield (w.heap.size + 1)) #[] #[]] ++ lb, (w.alloc (.deferred (some []))).alloc (.loop r), ?_, ?_, fun _ _ => trivial, ?_, fun h => by simp [Fence.wide] at h, ?_⟩
  · rw [hrec]; exact run_enterLoop_outer _ _ _ _ _
  · simp only [resolve, hg]
    simp [go_sem]
  · simp [invoke, go_sem, eg]
  · refine hc.mono ?_
    rintro e W2 ⟨⟨v, rfl⟩, (⟨hr, hq⟩ | ⟨c, hd, hq⟩)⟩
    · exact ⟨none, _, by have := run_endLoop (P := P) hr.1 (by rw [h1]; simp); rw [h2] at this; exact this, hq⟩
    · exact ⟨some c, _, by exact run_endLoop (P := P) hd.1 (by simp), hq⟩

section
variable {P : Program} {ops : Array Oper} {Q : Exit → Act → World → Prop} {md : Region.Mode} {S : World → Prop} {l n : Nat}
/-- No deferred call among the operations. -/
def noDefer (ops : Array Oper) : Bool := ops.toList.all fun o => match o.op with | .defer _ => false | _ => true
theorem noDefer_at (h : noDefer ops = true) (i : Nat) (o : Oper) (ho : ops[i]? = some o) : ∀ c, o.op ≠ .defer c := by
  intro c hc
  have h1 := List.all_eq_true.1 h o (by
    have : ops.toList[i]? = some o := by simpa using ho
    exact List.mem_of_getElem? this)
  rw [hc] at h1
  cases h1
/-- Whatever runs outside of a round runs in it, deferred calls aside. -/
theorem wpOp_inRound {i : Nat} {K : Act → World → Prop} {a : Act} {w : World} (hd : ∀ (o : Oper), ops[i]? = some o → ∀ c, o.op ≠ .defer c) (hL : ¬ LetsOut Q) (h : wpOp P ops Q i K a w) : wpOpIn (Fence.wide.inRound l) n P ops Q i K a w := by
  unfold wpOp at h
  unfold wpOpIn
  cases ho : ops[i]? with
  | none => simpa [ho] using h
  | some o =>
    simp only [ho] at h ⊢
    split
    · rename_i hw
      simp only [hw, if_true] at h
      have h1 : o.wp P a w K Q := h.resolve_right fun h2 => hL h2.2
      unfold Oper.wp at h1
      refine ⟨fun _ _ => trivial, ?_⟩
      show o.uponIn (Fence.wide.inRound l) n P a K Q ((o.semAt (some l) a.eval).run P w)
      rw [Oper.semAt_some l _ _ (hd o ho)]
      generalize (execOp a.eval o).run P w = res at h1 ⊢
      cases res with
      | ok x w' =>
        cases x <;> simp only [Oper.upon] at h1 <;> simp only [Oper.uponIn]
        case value v => exact h1
        case skip => exact h1
        case defer d => exact h1
        case enter f args => exact ⟨fun h => by simp [Fence.wide] at h, callsIn_wide.2 h1⟩
        case row row args => exact ⟨fun h => by simp [Fence.wide] at h, fun c cs _ => let ⟨v, w', r, s⟩ := h1 c cs; ⟨v, w', r, stepsIn_wide.2 s⟩⟩
      | halt x w' => cases x <;> simp only [Oper.upon] at h1 <;> simp only [Oper.uponIn] <;> exact h1
    · rename_i hw
      simp only [hw] at h
      exact ⟨fun _ _ => trivial, h⟩
theorem wpAny_inRound (hd : noDefer ops = true) (hL : ¬ LetsOut Q) : ∀ (fuel : Nat) (listed : Array Bool) (a : Act) (w : World), wpAny P md ops Q fuel listed a w → wpAnyIn (Fence.wide.inRound l) n P md ops Q fuel listed a w
  | 0, _, _, _, h => h
  | fuel + 1, _, _, _, h => ⟨h.1, fun i hi => wpOp_inRound (noDefer_at hd i) hL (wpOp_mono (fun a' w' h' => wpAny_inRound hd hL fuel _ a' w' h') (h.2 i hi))⟩
/-- A region that draws its order, in a round. -/
theorem wpIn_region_held_round {id : Nat} {a : Act} {w : World} (hm : P.follows .mixedOrders = true) (hd : noDefer ops = true) (hL : ¬ LetsOut Q) (hS : S w.drew)
    (h : S w.drew → wpAnyH P .any ops Q S ops.size (Array.replicate ops.size false) a w.drew) : (Code.region id ops true).wpIn (Fence.wide.inRound l) n P Q a w :=
  wpIn_region_any hm (wpAny_inRound hd hL _ _ _ _ (wpAny_of_held _ _ _ _ (h hS)))
/-- A region that reads ahead of its last operations, in a round. -/
theorem wpIn_region_tail_round {id : Nat} {a : Act} {w : World} {lo : List Oper} (k : Nat) (hm : P.follows .mixedOrders = true) (hd : noDefer lo.toArray = true) (hL : ¬ LetsOut Q) (hB : Region.lexTailB .any lo.toArray k = true)
    (h : wpStill P lo.toArray { w with drawn := w.drawn + 1 } (fun a' => wpList P lo.toArray Q (lo.drop k) a' { w with drawn := w.drawn + 1 }) (lo.take k) a) : (Code.region id lo.toArray true).wpIn (Fence.wide.inRound l) n P Q a w := by
  refine wpIn_region_any hm (wpAny_inRound hd hL _ _ _ _ ?_)
  simp only [Region.lexTailB, Bool.and_eq_true, decide_eq_true_eq] at hB
  obtain ⟨⟨⟨⟨hsel, hn⟩, hs⟩, hc⟩, hlex⟩ := hB
  have hn' : k < lo.length := by simpa using hn
  have htl : (lo.take k).length = k := by simp; omega
  have hdl : (lo.drop k).length = lo.toArray.size - k := by simp
  have inv0 : HeadInv .any lo.toArray k (Array.replicate lo.toArray.size false) :=
    ⟨by simp, fun j oj _ hl => (by rw [getD_replicate_false] at hl; cases hl), fun t _ ht => getD_in (by simpa using ht) (getD_replicate_false _ _)⟩
  have H := wpAnyL_lex (md := .any) (g := lo.toArray.size - k) hsel hs hc hn (lo.take k) 0 _ a (fun j hj => by
    have hj' : j < k := by rw [htl] at hj; exact hj
    simp [hj']) (by simpa using htl) inv0 (by rw [htl]; exact hlex) h
  have := wpAny_of_head (Q' := Q) (g := lo.toArray.size - k) (fun listed a' hL => by
    have := wpAny_of_seq (md := .any) (Q' := Q) (lo.drop k) k listed a' { w with drawn := w.drawn + 1 } (fun j => by simp [List.getElem?_drop]) (by rw [hdl]; exact hL.1) hL.2
    rwa [hdl] at this) _ _ _ H
  rw [htl, show k + (lo.toArray.size - k) = lo.toArray.size by omega] at this
  exact this
end
end Go.Proofs.Ytjpcdbdaimonlaa
/- The size and the values of a domain. -/
namespace Go.Proofs.Ytjpcdbdaimonlaa
open Go.ChangeShapes Go.WideShapes Go.ChangeAt Go.RowKit
open Go.Shelf
set_option linter.unusedVariables false
set_option maxRecDepth 100000

end Go.Proofs.Ytjpcdbdaimonlaa
/- impl's iterator over the tuples of domains. -/
namespace Go.Proofs.Ytjpcdbdaimonlaa
open Go.ChangeShapes Go.WideShapes Go.ChangeAt Go.RowKit
open Go.Shelf
set_option linter.unusedVariables false
set_option maxRecDepth 100000
attribute [local go_sem] Oper.semAt_some

/-- All blocks from L on, but a and b, lie as they lay. -/
def KB (L a b : Nat) (W W' : World) : Prop := W.heap.size ≤ W'.heap.size ∧ ∀ k, L ≤ k → k < W.heap.size → k ≠ a → k ≠ b → W'.heap[k]? = W.heap[k]?
/-- All blocks from L on lie as they lay. -/
def KHi (L : Nat) (W W' : World) : Prop := W.heap.size ≤ W'.heap.size ∧ ∀ k, L ≤ k → k < W.heap.size → W'.heap[k]? = W.heap[k]?
theorem KHi.kb {L : Nat} {W W' : World} (h : KHi L W W') (a b : Nat) : KB L a b W W' := ⟨h.1, fun k h1 h2 _ _ => h.2 k h1 h2⟩
theorem KB.refl (L a b : Nat) (W : World) : KB L a b W W := ⟨Nat.le_refl _, fun _ _ _ _ _ => rfl⟩
theorem KB.trans {L a b : Nat} {W W1 W2 : World} (h : KB L a b W W1) (k : KB L a b W1 W2) : KB L a b W W2 := ⟨Nat.le_trans h.1 k.1, fun i h1 h2 h3 h4 => (k.2 i h1 (Nat.lt_of_lt_of_le h2 h.1) h3 h4).trans (h.2 i h1 h2 h3 h4)⟩
theorem Below.kb {L a b : Nat} {W W' : World} (h : Below W.heap.size W W') : KB L a b W W' := ⟨h.size, fun k _ h2 _ _ => h.block k h2⟩
theorem KB.set {L a b j : Nat} (W : World) (u : Value) : KB L a b W (W.setCell ⟨a, j, none⟩ u) := ⟨by simp, fun k _ _ h3 _ => Below.heap_setCell W ⟨a, j, none⟩ u k h3⟩
theorem KB.set2 {L a b j : Nat} (W : World) (u : Value) : KB L a b W (W.setCell ⟨b, j, none⟩ u) := ⟨by simp, fun k _ _ _ h4 => Below.heap_setCell W ⟨b, j, none⟩ u k h4⟩
theorem TBlk.kb {L a b g : Nat} {W W' : World} {t : TypeId} {cs : Array Value} (h : TBlk t W g cs) (k : KB L a b W W') (hL : L ≤ g) (ha : g ≠ a) (hb : g ≠ b) : TBlk t W' g cs := (k.2 g hL h.lt ha hb).trans h
theorem TBlk.khi {L g : Nat} {W W' : World} {t : TypeId} {cs : Array Value} (h : TBlk t W g cs) (k : KHi L W W') (hL : L ≤ g) : TBlk t W' g cs := (k.2 g hL h.lt).trans h
/-- v stands at each place of t in that place's domain. -/
def PreDs (ds t : List Int) : Prop := ∀ (j : Nat) d v, ds[j]? = some d → t[j]? = some v → v ∈ valsTo d 6
theorem PreDs.push {ds t : List Int} {d v : Int} (h : PreDs ds t) (hd : ds[t.length]? = some d) (hv : v ∈ valsTo d 6) : PreDs ds (t ++ [v]) := by
  intro j e x hj hx
  rcases Nat.lt_or_ge j t.length with h1 | h1
  · rw [List.getElem?_append_left h1] at hx
    exact h j e x hj hx
  · rw [List.getElem?_append_right h1] at hx
    have hj0 : j = t.length := by
      rcases Nat.lt_or_ge (j - t.length) 1 with h4 | h4
      · omega
      · rw [List.getElem?_eq_none (by simpa using h4)] at hx; cases hx
    subst hj0
    rw [Nat.sub_self] at hx
    simp at hx
    rw [hd] at hj
    injection hj with hj
    subst hx hj
    exact hv
theorem PreDs.mem {ds t : List Int} (h : PreDs ds t) (hl : t.length = ds.length) : t ∈ allT ds :=
  mem_allT.2 ⟨hl, fun j d v hj hv => by have := valsTo_mem (h j d v hj hv); exact ⟨this.1, by omega, this.2.2⟩⟩
/-- a fresh row of ints, as a block. -/
theorem own_blk_int {w : World} {base n : Nat} {v : Value} {xs : List Int} (h : w.ownsRow base 3 1 v n (xs.map (.int .i64))) (hn : 0 < n) : ∃ gv c cur, v = .slice (some ⟨gv, 0, none⟩) n c ∧ base ≤ gv ∧ TBlk 3 w gv cur ∧ ∀ (k : Nat) x, xs[k]? = some x → cur[k]? = some (.int .i64 x) := by
  rcases h.2 with ⟨rfl, h2⟩ | ⟨gv, cap, cur, rfl, hg, hh, hcap, hmax, hsz, ht⟩
  · omega
  · refine ⟨gv, cap, cur, rfl, hg, hh, fun k x hx => ?_⟩
    have := h.cells (g := gv) rfl k _ (by rw [List.getElem?_map, hx]; rfl)
    rw [add_own] at this
    rw [cell_of_row w gv k cur _ _ hh] at this
    exact this
/-- what an append with room leaves. -/
theorem run_push1 (ty : TypeId) (i0 : TypeInfo) (hi0 : Try.prog.info? 3 = some i0) (hz1 : i0.size = 1) {w : World} {g k m : Nat} {x : Int} {cs : Array Value} (hc : TBlk 3 w g cs) (hk : k < m) (hm : cs.size = m) (hg : g < w.heap.size) :
    Sem.run Try.prog (Builtin.append_ #[ 23, 23 ] ty #[.slice (some ⟨g, 0, none⟩) k m, .slice (some ⟨w.heap.size, 0, none⟩) 1 1]) (w.alloc (.cells #[.int .i64 x] 3)) = .ok (.slice (some ⟨g, 0, none⟩) (k + 1) m) ((w.alloc (.cells #[.int .i64 x] 3)).setCell ⟨g, k, none⟩ (.int .i64 x)) := by
  have h := run_append_room_cells (P := Try.prog) (w.alloc (.cells #[.int .i64 x] 3)) 23 ty 3 i0 Try.underlying23 hi0 g 0 k m ⟨w.heap.size, 0, none⟩ 1 1 [.int .i64 x] (by simp [hz1]) (cell_one_new _ _ _) (by simp [Value.oneCell']) (by omega)
    (fun j hj => by
      have hj0 : j = 0 := by simpa using hj
      subst hj0
      rw [hz1, Nat.mul_one, Nat.zero_add, Nat.add_zero, (hc.alloc_ _).at_ k (Array.getElem?_eq_getElem (by omega))]; rfl)
    (fun j hj => by
      have hj0 : j = 0 := by simpa using hj
      subst hj0
      rw [hz1, Nat.mul_one, Nat.zero_add, Nat.add_zero]; exact (hc.alloc_ _).frozen k)
  rw [h, hz1, Nat.mul_one, Nat.zero_add]
  simp [World.setCells]
/-- append of one int where there is room, for the walk. -/
theorem wpList_push {ops : Array Oper} {rest : List Oper} {o : Oper} {a : Act} {Q : Exit → Act → World → Prop} (i0 : TypeInfo) (hi0 : Try.prog.info? 3 = some i0) (hz1 : i0.size = 1) (hgd : o.guard = none) (s x : Operand) (ho : o.op = .call { callee := .builtin .append, args := #[s, x], argTypes := #[ 23, 23 ] })
    {w : World} {g k m : Nat} {v : Int} {cs : Array Value} (hs : a.eval s = .slice (some ⟨g, 0, none⟩) k m) (hx : a.eval x = .slice (some ⟨w.heap.size, 0, none⟩) 1 1) (hc : TBlk 3 w g cs) (hk : k < m) (hm : cs.size = m)
    (h : ∀ W', W' = (w.alloc (.cells #[.int .i64 v] 3)).setCell ⟨g, k, none⟩ (.int .i64 v) → wpList Try.prog ops Q rest (a.put o.dst (.slice (some ⟨g, 0, none⟩) (k + 1) m)) W') : wpList Try.prog ops Q (o :: rest) a (w.alloc (.cells #[.int .i64 v] 3)) := by
  refine wpList_plain hgd fun K hK => ?_
  have hrun := run_push1 o.type i0 hi0 hz1 (x := v) hc hk hm hc.lt
  unfold Oper.wp execOp
  simp only [ho, resolve, invoke, builtin, Sem.run_bind, Sem.run_pure, Result.andThen_ok, List.map_toArray, List.map_cons, List.map_nil, hs, hx, hrun]
  exact hK _ _ (h _ rfl)
end Go.Proofs.Ytjpcdbdaimonlaa
/- impl's iterator over the tuples: its start. -/
namespace Go.Proofs.Ytjpcdbdaimonlaa
open Go.ChangeShapes Go.WideShapes Go.ChangeAt Go.RowKit
open Go.Shelf
set_option linter.unusedVariables false
set_option maxRecDepth 100000
attribute [local go_sem] Oper.semAt_some

/-- What 'make' of no element and room for n lays. -/
theorem make_room {P : Program} (t e : TypeId) (i : TypeInfo) (z : Value) (ht : P.underlying t = some (.slice e)) (hi : P.info? e = some i) (hz : i.zero = some z) (hs : i.size = 1) (h1 : z.cells = #[z]) (n : Nat) (hb : i.bytes * n ≤ 281474976710656) (h63 : n ≤ maxLen) :
    ∃ Z : Array Value, Z.size = n ∧ ∀ W : World, Sem.run P (Instr.makeSlice t (.int .i64 0) (.int .i64 (n : Int))) W = .ok (.slice (some ⟨W.heap.size, 0, none⟩) 0 n) (W.alloc (.cells Z e)) := by
  refine ⟨madeCells z.cells (n * i.size), ?_, fun W => ?_⟩
  · rw [hs, Nat.mul_one, h1, ← Array.length_toList, toList_madeCells_one, List.length_replicate]
  · have h := run_make (P := P) W t e i z ht hi hz .i64 .i64 0 (n : Int) (Int.le_refl _) (Int.natCast_nonneg _) (by rw [← Int.natCast_mul]; exact Int.ofNat_le.2 hb) (by unfold maxLen at h63; omega)
    simpa using h
theorem TBlk.newAt {w : World} {cs : Array Value} {t : TypeId} {b : Nat} (h : b = w.heap.size) : TBlk t (w.alloc (.cells cs t)) b cs := by subst h; exact TBlk.new _ _ _
end Go.Proofs.Ytjpcdbdaimonlaa
/- What is drawn for Filter: a constraint that may be damaged, and domains. -/
namespace Go.Proofs.Ytjpcdbdaimonlaa
open Go.ChangeShapes Go.WideShapes Go.ChangeAt Go.RowKit
open Go.Shelf
set_option linter.unusedVariables false
set_option maxRecDepth 100000

theorem lit_cells (w : World) (xs : List Int) : ∀ (i : Nat) x, xs[i]? = some x → (w.alloc (.cells (ints xs) 3)).cell? ⟨w.heap.size, i, none⟩ = some (.int .i64 x) := fun i x hx => (TBlk.new w (ints xs) 3).at_ i (ints_at hx)
theorem CS.finish2 {w w0 : World} {B B0 bx R g base n c p : Nat} {A : Option Addr} {bs : List Int} {k : Con} {v1 v2 v3 : Option Addr} {n1 c1 n2 c2 n3 c3 : Nat} {zs : Array Value}
    (h : CS w B bx k (.slice v1 n1 c1) (.slice v2 n2 c2) (.slice v3 n3 c3)) (hr : TBlk 53 w R zs) (hz : zs.size = 5) (hne : bx ≠ R) (hd : Rd w base g A n c bs p) (hg : g < R) (hR : B0 ≤ R) (hb : ButG g B0 w0 w) {wf : World}
    (hf : wf = ((((w.setCell ⟨R, 0, none⟩ (.int .i64 k.kind)).setCell ⟨R, 1, none⟩ (.slice v1 n1 c1)).setCell ⟨R, 2, none⟩ (.slice v2 n2 c2)).setCell ⟨R, 3, none⟩ (.int .i64 k.bound)).setCell ⟨R, 4, none⟩ (.slice v3 n3 c3)) :
    (wf.cell? ⟨R, 0, none⟩ = some (.int .i64 k.kind) ∧ wf.cell? ⟨R, 1, none⟩ = some (.slice v1 n1 c1) ∧ wf.cell? ⟨R, 2, none⟩ = some (.slice v2 n2 c2) ∧ wf.cell? ⟨R, 3, none⟩ = some (.int .i64 k.bound) ∧ wf.cell? ⟨R, 4, none⟩ = some (.slice v3 n3 c3)) ∧
    OwnCon wf B (.agg #[.int .i64 k.kind, .slice v1 n1 c1, .slice v2 n2 c2, .int .i64 k.bound, .slice v3 n3 c3]) k ∧ Rd wf base g A n c bs p ∧ ButG g B0 w0 wf := by
  obtain ⟨z0, z1, z2, z3, z4, rfl⟩ : ∃ z0 z1 z2 z3 z4, zs = #[z0, z1, z2, z3, z4] := by
    rcases zs with ⟨l⟩
    match l, hz with
    | [z0, z1, z2, z3, z4], _ => exact ⟨_, _, _, _, _, rfl⟩
  have t1 := hr.store 0 (.int .i64 k.kind)
  have s1 := h.far hne hr 0 (.int .i64 k.kind)
  have t2 := t1.store 1 (.slice v1 n1 c1)
  have s2 := s1.far hne t1 1 (.slice v1 n1 c1)
  have t3 := t2.store 2 (.slice v2 n2 c2)
  have s3 := s2.far hne t2 2 (.slice v2 n2 c2)
  have t4 := t3.store 3 (.int .i64 k.bound)
  have s4 := s3.far hne t3 3 (.int .i64 k.bound)
  have t5 := t4.store 4 (.slice v3 n3 c3)
  have s5 := s4.far hne t4 4 (.slice v3 n3 c3)
  subst hf
  refine ⟨⟨t5.at_ 0 rfl, t5.at_ 1 rfl, t5.at_ 2 rfl, t5.at_ 3 rfl, t5.at_ 4 rfl⟩, s5.own, ?_, ?_⟩
  · exact ((((hd.set hg 0 _).set hg 1 _).set hg 2 _).set hg 3 _).set hg 4 _
  · exact ((((hb.setHi hR 0 _).setHi hR 1 _).setHi hR 2 _).setHi hR 3 _).setHi hR 4 _
theorem CS.put {w1 w5 w6 w0 : World} {B B0 bx R g base n c p m j : Nat} {A : Option Addr} {bs : List Int} {k k' : Con} {v1 v2 v3 v1' v2' v : Value} {xs : List Int} {zs : Array Value} (hC : CS w1 B bx k v1 v2 v3) (hT : TBlk 53 w1 R zs) (hd : Rd w1 base g A n c bs p) (hbt : ButG g B0 w0 w1) (hb : Below w1.heap.size w1 w5)
    (ho : w5.ownsRow w1.heap.size 3 1 v m (xs.map (.int .i64))) (hl : xs.length = m) (hm : m ≤ 1048576) (hB : B ≤ w1.heap.size) (hg : g < bx) (hne : R ≠ bx) (hB0 : B0 ≤ bx) (h6 : w5.setCell ⟨bx, j, none⟩ v = w6) (hj : (j = 1 ∧ k' = { k with vars := xs } ∧ v1' = v ∧ v2' = v2) ∨ (j = 2 ∧ k' = { k with args := xs } ∧ v1' = v1 ∧ v2' = v)) :
    CS w6 B bx k' v1' v2' v3 ∧ TBlk 53 w6 R zs ∧ Rd w6 base g A n c bs p ∧ ButG g B0 w0 w6 := by
  have hC5 := hC.below hb
  have hbx := hC.blk.lt
  have hoI : OwnI 3 w5 B v xs := ⟨by rw [hl]; exact own_base ho hB, by rw [hl]; omega⟩
  have hd5 : Rd w5 base g A n c bs p := hd.under hb (by omega)
  have hb5 : ButG g B0 w0 w5 := hbt.trans (below_butG (hb.mono (by have := hbt.size; omega)) g)
  subst h6
  refine ⟨?_, (hT.below_ hb hT.lt).far hne, hd5.set hg _ _, hb5.setHi hB0 _ _⟩
  rcases hj with ⟨rfl, rfl, rfl, rfl⟩ | ⟨rfl, rfl, rfl, rfl⟩
  · exact hC5.setV hoI
  · exact hC5.setA hoI
theorem CS.putV {w1 w5 w0 : World} {B bx base g n c p m nv na nr c1 c2 c3 : Nat} {A A1 A2 A3 : Option Addr} {bs : List Int} {k : Con} {v : Value} {xs : List Int} (hC : CS w1 B bx k (.slice A1 nv c1) (.slice A2 na c2) (.slice A3 nr c3))
    (hT : TBlk 53 w1 (bx + 1) #[.int .i64 0, .slice none 0 0, .slice none 0 0, .int .i64 0, .slice none 0 0]) (hd : Rd w1 base g A n c bs p) (hbt : ButG g bx w0 w1) (hb : Below w1.heap.size w1 w5)
    (ho : w5.ownsRow w1.heap.size 3 1 v m (xs.map (.int .i64))) (hl : xs.length = m) (hm : m ≤ 1048576) (hB : B ≤ w1.heap.size) (hg : g < bx) :
    ∃ A5 c5 w6, v = .slice A5 m c5 ∧ w5.setCell ⟨bx, 1, none⟩ (.slice A5 m c5) = w6 ∧ w5.cell? ⟨bx, 1, none⟩ = some (.slice A1 nv c1) ∧ w5.frozen? ⟨bx, 1, none⟩ = false ∧ (w6.cell? ⟨bx, 0, none⟩ = some (.int .i64 k.kind) ∧ w6.cell? ⟨bx, 1, none⟩ = some (.slice A5 m c5) ∧ w6.cell? ⟨bx, 2, none⟩ = some (.slice A2 na c2) ∧ w6.cell? ⟨bx, 3, none⟩ = some (.int .i64 k.bound) ∧ w6.cell? ⟨bx, 4, none⟩ = some (.slice A3 nr c3)) ∧ (w6.cell? ⟨bx + 1, 0, none⟩ = some (.int .i64 0) ∧ w6.cell? ⟨bx + 1, 1, none⟩ = some (.slice none 0 0) ∧ w6.cell? ⟨bx + 1, 2, none⟩ = some (.slice none 0 0) ∧ w6.cell? ⟨bx + 1, 3, none⟩ = some (.int .i64 0) ∧ w6.cell? ⟨bx + 1, 4, none⟩ = some (.slice none 0 0)) ∧ (w6.frozen? ⟨bx + 1, 0, none⟩ = false ∧ w6.frozen? ⟨bx + 1, 1, none⟩ = false ∧ w6.frozen? ⟨bx + 1, 2, none⟩ = false ∧ w6.frozen? ⟨bx + 1, 3, none⟩ = false ∧ w6.frozen? ⟨bx + 1, 4, none⟩ = false) ∧ w1.heap.size ≤ w6.heap.size ∧
      Hid (CS w6 B bx { k with vars := xs } (.slice A5 m c5) (.slice A2 na c2) (.slice A3 nr c3) ∧ TBlk 53 w6 (bx + 1) #[.int .i64 0, .slice none 0 0, .slice none 0 0, .int .i64 0, .slice none 0 0] ∧ Rd w6 base g A n c bs p ∧ ButG g bx w0 w6) := by
  obtain ⟨A5, c5, rfl, -⟩ := IntR.of_own ho (by omega)
  obtain ⟨w6, h6⟩ : ∃ w6, w5.setCell ⟨bx, 1, none⟩ (.slice A5 m c5) = w6 := ⟨_, rfl⟩
  have hb5 := (hC.below hb).blk
  obtain ⟨q1, q2, q3, q4⟩ := CS.put (k' := { k with vars := xs }) (v1' := .slice A5 m c5) (v2' := .slice A2 na c2) hC hT hd hbt hb ho hl hm hB hg (by omega) (Nat.le_refl _) h6 (.inl ⟨rfl, rfl, rfl, rfl⟩)
  refine ⟨A5, c5, w6, rfl, h6, hb5.at_ 1 rfl, hb5.frozen 1, ⟨q1.blk.at_ 0 rfl, q1.blk.at_ 1 rfl, q1.blk.at_ 2 rfl, q1.blk.at_ 3 rfl, q1.blk.at_ 4 rfl⟩, ⟨q2.at_ 0 rfl, q2.at_ 1 rfl, q2.at_ 2 rfl, q2.at_ 3 rfl, q2.at_ 4 rfl⟩, ⟨q2.frozen 0, q2.frozen 1, q2.frozen 2, q2.frozen 3, q2.frozen 4⟩, by rw [← h6, World.size_setCell]; exact hb.size, Lib.hid ⟨q1, q2, q3, q4⟩⟩
theorem CS.putA {w1 w5 w0 : World} {B bx base g n c p m nv na nr c1 c2 c3 : Nat} {A A1 A2 A3 : Option Addr} {bs : List Int} {k : Con} {v : Value} {xs : List Int} (hC : CS w1 B bx k (.slice A1 nv c1) (.slice A2 na c2) (.slice A3 nr c3))
    (hT : TBlk 53 w1 (bx + 1) #[.int .i64 0, .slice none 0 0, .slice none 0 0, .int .i64 0, .slice none 0 0]) (hd : Rd w1 base g A n c bs p) (hbt : ButG g bx w0 w1) (hb : Below w1.heap.size w1 w5)
    (ho : w5.ownsRow w1.heap.size 3 1 v m (xs.map (.int .i64))) (hl : xs.length = m) (hm : m ≤ 1048576) (hB : B ≤ w1.heap.size) (hg : g < bx) :
    ∃ A5 c5 w6, v = .slice A5 m c5 ∧ w5.setCell ⟨bx, 2, none⟩ (.slice A5 m c5) = w6 ∧ w5.cell? ⟨bx, 2, none⟩ = some (.slice A2 na c2) ∧ w5.frozen? ⟨bx, 2, none⟩ = false ∧ (w6.cell? ⟨bx, 0, none⟩ = some (.int .i64 k.kind) ∧ w6.cell? ⟨bx, 1, none⟩ = some (.slice A1 nv c1) ∧ w6.cell? ⟨bx, 2, none⟩ = some (.slice A5 m c5) ∧ w6.cell? ⟨bx, 3, none⟩ = some (.int .i64 k.bound) ∧ w6.cell? ⟨bx, 4, none⟩ = some (.slice A3 nr c3)) ∧ (w6.cell? ⟨bx + 1, 0, none⟩ = some (.int .i64 0) ∧ w6.cell? ⟨bx + 1, 1, none⟩ = some (.slice none 0 0) ∧ w6.cell? ⟨bx + 1, 2, none⟩ = some (.slice none 0 0) ∧ w6.cell? ⟨bx + 1, 3, none⟩ = some (.int .i64 0) ∧ w6.cell? ⟨bx + 1, 4, none⟩ = some (.slice none 0 0)) ∧ (w6.frozen? ⟨bx + 1, 0, none⟩ = false ∧ w6.frozen? ⟨bx + 1, 1, none⟩ = false ∧ w6.frozen? ⟨bx + 1, 2, none⟩ = false ∧ w6.frozen? ⟨bx + 1, 3, none⟩ = false ∧ w6.frozen? ⟨bx + 1, 4, none⟩ = false) ∧ w1.heap.size ≤ w6.heap.size ∧
      Hid (CS w6 B bx { k with args := xs } (.slice A1 nv c1) (.slice A5 m c5) (.slice A3 nr c3) ∧ TBlk 53 w6 (bx + 1) #[.int .i64 0, .slice none 0 0, .slice none 0 0, .int .i64 0, .slice none 0 0] ∧ Rd w6 base g A n c bs p ∧ ButG g bx w0 w6) := by
  obtain ⟨A5, c5, rfl, -⟩ := IntR.of_own ho (by omega)
  obtain ⟨w6, h6⟩ : ∃ w6, w5.setCell ⟨bx, 2, none⟩ (.slice A5 m c5) = w6 := ⟨_, rfl⟩
  have hb5 := (hC.below hb).blk
  obtain ⟨q1, q2, q3, q4⟩ := CS.put (k' := { k with args := xs }) (v1' := .slice A1 nv c1) (v2' := .slice A5 m c5) hC hT hd hbt hb ho hl hm hB hg (by omega) (Nat.le_refl _) h6 (.inr ⟨rfl, rfl, rfl, rfl⟩)
  refine ⟨A5, c5, w6, rfl, h6, hb5.at_ 2 rfl, hb5.frozen 2, ⟨q1.blk.at_ 0 rfl, q1.blk.at_ 1 rfl, q1.blk.at_ 2 rfl, q1.blk.at_ 3 rfl, q1.blk.at_ 4 rfl⟩, ⟨q2.at_ 0 rfl, q2.at_ 1 rfl, q2.at_ 2 rfl, q2.at_ 3 rfl, q2.at_ 4 rfl⟩, ⟨q2.frozen 0, q2.frozen 1, q2.frozen 2, q2.frozen 3, q2.frozen 4⟩, by rw [← h6, World.size_setCell]; exact hb.size, Lib.hid ⟨q1, q2, q3, q4⟩⟩
/-- a constraint and what damage makes of it. -/
def NearC (k k' : Con) : Prop := k'.vars.length ≤ k.vars.length + 1 ∧ k'.args.length ≤ k.args.length + 1 ∧ k'.rows = k.rows
end Go.Proofs.Ytjpcdbdaimonlaa
/- anyConstraint: a drawn constraint that may be damaged. -/
namespace Go.Proofs.Ytjpcdbdaimonlaa
open Go.ChangeShapes Go.WideShapes Go.ChangeAt Go.RowKit
open Go.Shelf
set_option linter.unusedVariables false
set_option maxRecDepth 100000

theorem OwnCon.shunT {w : World} {B R j : Nat} {v u : Value} {k : Con} {zs : Array Value} (h : OwnCon w B v k) (hr : TBlk 53 w R zs) : OwnCon (w.setCell ⟨R, j, none⟩ u) B v k := by
  obtain ⟨vv, av, rv, e, h1, h2, h3⟩ := h
  exact ⟨vv, av, rv, e, OwnI.shuns (t := 53) (by decide) _ _ _ _ _ j _ _ u hr h1, OwnI.shuns (t := 53) (by decide) _ _ _ _ _ j _ _ u hr h2, OwnOf.shuns (t := 53) (by decide) (OwnI.shuns (by decide)) _ _ _ _ _ j _ _ u hr h3⟩
theorem OwnCon.laid0 {w : World} {B R : Nat} {k : Con} {x0 x1 x2 x3 x4 : Value} {zs : Array Value}
    (h : OwnCon w B (.agg #[x0, x1, x2, x3, x4]) k) (hr : TBlk 53 w R zs) (hz : zs.size = 5) {wf : World}
    (hf : wf = ((((w.setCell ⟨R, 0, none⟩ x0).setCell ⟨R, 1, none⟩ x1).setCell ⟨R, 2, none⟩ x2).setCell ⟨R, 3, none⟩ x3).setCell ⟨R, 4, none⟩ x4) :
    TBlk 53 wf R #[x0, x1, x2, x3, x4] ∧ OwnCon wf B (.agg #[x0, x1, x2, x3, x4]) k := by
  obtain ⟨z0, z1, z2, z3, z4, rfl⟩ : ∃ z0 z1 z2 z3 z4, zs = #[z0, z1, z2, z3, z4] := by
    rcases zs with ⟨l⟩
    match l, hz with
    | [z0, z1, z2, z3, z4], _ => exact ⟨_, _, _, _, _, rfl⟩
  have t1 := hr.store 0 x0
  have s1 := h.shunT (j := 0) (u := x0) hr
  have t2 := t1.store 1 x1
  have s2 := s1.shunT (j := 1) (u := x1) t1
  have t3 := t2.store 2 x2
  have s3 := s2.shunT (j := 2) (u := x2) t2
  have t4 := t3.store 3 x3
  have s4 := s3.shunT (j := 3) (u := x3) t3
  have t5 := t4.store 4 x4
  have s5 := s4.shunT (j := 4) (u := x4) t4
  subst hf
  exact ⟨t5, s5⟩
theorem below_laid {w w0 : World} {B R : Nat} {x0 x1 x2 x3 x4 : Value} (h : Below B w0 w) (hR : B ≤ R) {wf : World}
    (hf : wf = ((((w.setCell ⟨R, 0, none⟩ x0).setCell ⟨R, 1, none⟩ x1).setCell ⟨R, 2, none⟩ x2).setCell ⟨R, 3, none⟩ x3).setCell ⟨R, 4, none⟩ x4) : Below B w0 wf := by
  subst hf
  exact ((((h.setCell (p := ⟨R, 0, none⟩) hR _).setCell (p := ⟨R, 1, none⟩) hR _).setCell (p := ⟨R, 2, none⟩) hR _).setCell (p := ⟨R, 3, none⟩) hR _).setCell (p := ⟨R, 4, none⟩) hR _
/-- A constraint laid into the box of the result. -/
theorem OwnCon.laid {w w0 : World} {B B0 R g base n c p : Nat} {A : Option Addr} {bs : List Int} {k : Con} {x0 x1 x2 x3 x4 : Value} {zs : Array Value}
    (h : OwnCon w B (.agg #[x0, x1, x2, x3, x4]) k) (hr : TBlk 53 w R zs) (hz : zs.size = 5) (hd : Rd w base g A n c bs p) (hg : g < R) (hR : B0 ≤ R) (hb : ButG g B0 w0 w) {wf : World}
    (hf : wf = ((((w.setCell ⟨R, 0, none⟩ x0).setCell ⟨R, 1, none⟩ x1).setCell ⟨R, 2, none⟩ x2).setCell ⟨R, 3, none⟩ x3).setCell ⟨R, 4, none⟩ x4) :
    (wf.cell? ⟨R, 0, none⟩ = some x0 ∧ wf.cell? ⟨R, 1, none⟩ = some x1 ∧ wf.cell? ⟨R, 2, none⟩ = some x2 ∧ wf.cell? ⟨R, 3, none⟩ = some x3 ∧ wf.cell? ⟨R, 4, none⟩ = some x4) ∧
    OwnCon wf B (.agg #[x0, x1, x2, x3, x4]) k ∧ Rd wf base g A n c bs p ∧ ButG g B0 w0 wf := by
  obtain ⟨z0, z1, z2, z3, z4, rfl⟩ : ∃ z0 z1 z2 z3 z4, zs = #[z0, z1, z2, z3, z4] := by
    rcases zs with ⟨l⟩
    match l, hz with
    | [z0, z1, z2, z3, z4], _ => exact ⟨_, _, _, _, _, rfl⟩
  have t1 := hr.store 0 x0
  have s1 := h.shunT (j := 0) (u := x0) hr
  have t2 := t1.store 1 x1
  have s2 := s1.shunT (j := 1) (u := x1) t1
  have t3 := t2.store 2 x2
  have s3 := s2.shunT (j := 2) (u := x2) t2
  have t4 := t3.store 3 x3
  have s4 := s3.shunT (j := 3) (u := x3) t3
  have t5 := t4.store 4 x4
  have s5 := s4.shunT (j := 4) (u := x4) t4
  subst hf
  refine ⟨⟨t5.at_ 0 rfl, t5.at_ 1 rfl, t5.at_ 2 rfl, t5.at_ 3 rfl, t5.at_ 4 rfl⟩, s5, ?_, ?_⟩
  · exact ((((hd.set hg 0 _).set hg 1 _).set hg 2 _).set hg 3 _).set hg 4 _
  · exact ((((hb.setHi hR 0 _).setHi hR 1 _).setHi hR 2 _).setHi hR 3 _).setHi hR 4 _
/-- small, with a margin. -/
def SmD (c : Con) : Prop := c.vars.length ≤ 9 ∧ c.args.length ≤ 9 ∧ c.rows.length ≤ 8 ∧ RowsLe 8 c.rows
theorem SmC.d {c : Con} (h : SmC c) : SmD c := ⟨by have := h.1; omega, by have := h.2.1; omega, h.2.2.1, h.2.2.2⟩
theorem SmC.near {c d : Con} (h : SmC c) (k : NearC c d) : SmD d := ⟨by have := h.1; have := k.1; omega, by have := h.2.1; have := k.2.1; omega, by rw [k.2.2]; exact h.2.2.1, by rw [k.2.2]; exact h.2.2.2⟩
theorem SmD.con {c : Con} (h : SmD c) : SmCon c := ⟨by have := h.1; unfold Sm1; omega, by have := h.2.1; unfold Sm1; omega, by have := h.2.2.1; omega, fun x hx => by have := h.2.2.2 x hx; unfold Sm1; omega⟩
end Go.Proofs.Ytjpcdbdaimonlaa
/- Random models. -/
namespace Go.Proofs.Ytjpcdbdaimonlaa
open Go.ChangeShapes Go.WideShapes Go.ChangeAt Go.RowKit
open Go.Shelf
set_option linter.unusedVariables false
set_option linter.unusedSimpArgs false
set_option maxRecDepth 100000

theorem OwnConU.butG0 {w w' : World} {base g : Nat} {us : List Value} {k : Con} (h : OwnConU w base us k) (hb : ButG g w.heap.size w w') (hg : g < base) : OwnConU w' base us k := by
  obtain ⟨vv, av, rv, e1, k1, k2, k3⟩ := h
  exact ⟨vv, av, rv, e1, k1.butG hb hg, k2.butG hb hg, OwnRows.butG k3 hb hg⟩
theorem OwnK.butG0 {α : Type} {e : TypeId} {m : Nat} {In : World → Nat → List Value → α → Prop} {w w' : World} {base g : Nat} {v : Value} {xs : List α} (hI : ∀ us x, In w base us x → In w' base us x) (h : OwnK e m In w base v xs) (hb : ButG g w.heap.size w w') (hg : g < base) : OwnK e m In w' base v xs := by
  obtain ⟨uss, h1, h0, h2, h3, h4⟩ := h
  exact ⟨uss, h1, h0, own_butG h2 hb hg, h3, fun i u x hu hx => hI _ _ (h4 i u x hu hx)⟩

set_option maxHeartbeats 3000000 in
theorem randomModel (base g n c p : Nat) (A : Option Addr) (bs : List Int) (w : World) (h : Rd w base g A n c bs p) (hp : p ≤ 800000) :
    Calls Try.prog 27 #[.pointer (some ⟨g, 0, none⟩)] w fun e w' => ∃ (vs : List Value) (m : Mod) (q : Nat), e = .returned (.agg vs.toArray) ∧ OwnMod w' w.heap.size (.agg vs.toArray) m ∧ 1 ≤ m.doms.length ∧ m.doms.length ≤ 4 ∧ m.cons.length ≤ 4 ∧ (∀ k ∈ m.cons, SmC k ∧ 1 ≤ k.vars.length) ∧ q ≤ p + 900 ∧ Rd w' base g A n c bs q ∧ ButG g w.heap.size w w' := by
  obtain ⟨i0, hi0, hz0, hz1, hz2⟩ := info_parts info_int
  have hg : g < w.heap.size := (Array.getElem?_eq_some_iff.1 h.block).1
  obtain ⟨wa, hwa⟩ : ∃ wa, wa = w.alloc (.cells #[.slice none 0 0, .slice none 0 0] 26) := ⟨_, rfl⟩
  obtain ⟨wb, hwb⟩ : ∃ wb, wb = wa.alloc (.cells #[.slice none 0 0, .slice none 0 0] 26) := ⟨_, rfl⟩
  have hb0 : Below w.heap.size w wa := by rw [hwa]; exact b_alloc _ _
  have hsa : wa.heap.size = w.heap.size + 1 := by rw [hwa, size_alloc_]
  have hb1 : Below wa.heap.size wa wb := by rw [hwb]; exact b_alloc _ _
  have hsb : wb.heap.size = w.heap.size + 1 + 1 := by rw [hwb, size_alloc_, hsa]
  have hb01 := bgo hb0 hb1
  have HR : Hid (TBlk 26 wb w.heap.size #[.slice none 0 0, .slice none 0 0]) := TBlk.below_ (by rw [hwa]; exact TBlk.new _ _ _) hb1 (by omega)
  have HT : Hid (TBlk 26 wb (w.heap.size + 1) #[.slice none 0 0, .slice none 0 0]) := by rw [hwb, ← hsa]; exact TBlk.new _ _ _
  have hr0 : Rd wb base g A n c bs p := h.under hb01 hg
  clear h hb0 hb1
  go_enter Try.func27, Try.ntmps27
  go_wp2_with fail
  rw [← hwa, ← hwb]
  clear hwa hwb
  have HSB := Lib.hid hsb
  clear hsb hsa
  refine (pick base g n c p A bs 4 _ hr0 (by omega)).mono ?_
  rintro e w1 ⟨r, rfl, ⟨-, hr⟩, hd1, hbq1⟩
  obtain ⟨r0, r1⟩ := hr (by omega)
  obtain ⟨k0, rfl⟩ := Int.eq_ofNat_of_zero_le r0
  have hbt := (below_butG hb01 g).go hbq1
  have HT1 := Lib.hid (HT.out.butG hbq1 (by omega))
  have HR1 := Lib.hid (HR.out.butG hbq1 (by omega))
  have hz1' := hbq1.size
  have hwr : IntKind.i64.wrap (1 + (k0 : Int)) = ((k0 + 1 : Nat) : Int) := by rw [IntKind.wrap_i64]; omega
  clear hr hr0
  go_wp2_with fail
  have O0 := Lib.hid (show OwnI 3 w1 wb.heap.size (.slice none 0 0) [] from ⟨World.ownsRow_nil _ _ _ _, by simp⟩)
  go_loopw [4] (fun t wr => ∃ (ee q : Nat) (doms : List Int) (dv : Value), ee + doms.length = k0 + 1 ∧ t = .int .i64 ee ∧ Hid (TBlk 26 wr (w.heap.size + 1) #[dv, .slice none 0 0]) ∧ Hid (OwnI 3 wr wb.heap.size dv doms) ∧ Hid (TBlk 26 wr w.heap.size #[.slice none 0 0, .slice none 0 0]) ∧ q ≤ p + 1 + 3 * doms.length ∧ Rd wr base g A n c bs q ∧ ButG g w.heap.size w wr ∧ wb.heap.size ≤ wr.heap.size) (fun t _ => (intOf t).toNat)
  case atStart => exact ⟨k0 + 1, p + 1, [], _, by simp, by first | rfl | (congr 1; omega), HT1, O0, HR1, by simp, hd1, hbt, hz1'⟩
  case round =>
    obtain ⟨ee, q, doms, dv, hsum, rfl, ht, hq, hres, hqp, hd, hb, hzr⟩ := hrel
    clear O0 HT1 HR1 hd1 hbt
    rename World => wr
    by_cases hlt : 0 < ee
    · obtain ⟨e1, rfl⟩ : ∃ e1, ee = e1 + 1 := ⟨ee - 1, by omega⟩
      have t5 : decide ((0 : Int) < ((e1 + 1 : Nat) : Int)) = true := decide_eq_true (by omega)
      have hbd3 : Below wr.heap.size wr wr.drew := Below.drew_ (Below.refl _ _)
      have d5 : wr.drew.cell? ⟨w.heap.size + 1, 0, none⟩ = some dv := ht.out.at_ 0 rfl
      have hgb : g < wb.heap.size := by have := HSB.out; omega
      have hgw : g < wr.heap.size := by omega
      go_wp2_with fail
      go_region_law (first
        | (refine step_append_any (by rfl) _ _ 23 (by rfl) wb.heap.size 3 i0 _ 1 8 Try.underlying23 hi0 hz0 hz1 hz2 rfl (by omega) dv doms.length (doms.map (.int .i64)) (by rfl) ho6.out (some ⟨W6.heap.size, 0, none⟩) 1 [.int .i64 x] (by exact ⟨_, rfl, .inr ⟨_, rfl, rfl, cell_one_new _ _ _⟩⟩) (by simp [Value.oneCell']) (by unfold maxLen; omega) (by omega) (by rw [size_alloc_]; omega) ?_
           intro v1 W7 hown hbw hgr _
           obtain ⟨A7, c7, rfl⟩ := (HoldR.of_own hown).form
           have T7 := TBlk.grown (show (26 : TypeId) ≠ 3 by decide) T6.out ho6.out hgr
           have R7 := TBlk.grown (show (26 : TypeId) ≠ 3 by decide) R6.out ho6.out hgr
           have d7 := T7.at_ 0 rfl
           have f7 := T7.frozen 0)
        | (go_simp
           go_at_call 42
           refine (randomDomain base g n c q A bs wr.drew (hd.under hbd3 hgw) (by omega)).mono ?_
           rintro e W6 ⟨x, q6, rfl, -, hq6, hd6, hb6⟩
           have bq : ButG g wr.heap.size wr W6 := (below_butG hbd3 g).go hb6
           have t6 := ht.out.butG bq (by omega)
           have d6a := t6.at_ 0 rfl
           have d6b := fun o => (t6.on (b_alloc W6 o)).at_ 0 rfl
           have bA := b_alloc W6 (.cells #[.int .i64 x] 3)
           have T6 := Lib.hid (t6.on bA)
           have R6 := Lib.hid ((hres.out.butG bq (by omega)).on bA)
           have o6 := hq.out.butG bq hgb
           have ho6 := Lib.hid (own_below o6.1 bA)
           have z6 := bq.size
           clear t6 o6))
      all_goals
        have hza : (W6.alloc (.cells #[.int .i64 x] 3)).heap.size = W6.heap.size + 1 := size_alloc_ _ _
        have hz7 := hgr.size
        have K1 := Lib.hid (T7.store 0 (.slice A7 (doms.length + 1) c7))
        have K2 := Lib.hid (OwnI.shuns (show (26 : TypeId) ≠ 3 by decide) _ _ _ _ _ 0 _ _ (.slice A7 (doms.length + 1) c7) T7 (show OwnI 3 W7 wb.heap.size (.slice A7 (doms.length + 1) c7) (doms ++ [x]) from ⟨by simpa using hown, by simp; omega⟩))
        have K3 := Lib.hid (R7.far (j := 0) (u := .slice A7 (doms.length + 1) c7) (show w.heap.size ≠ w.heap.size + 1 by omega))
        have K4 := (((hd6.under bA (by omega)).under hbw hgb).set (b := w.heap.size + 1) (by omega) 0 (.slice A7 (doms.length + 1) c7))
        have K5 : ButG g w.heap.size w (W7.setCell ⟨w.heap.size + 1, 0, none⟩ (.slice A7 (doms.length + 1) c7)) := ((((hb.go bq).trans (below_butG (bA.mono (by have := hb.size; omega)) g)).trans (below_butG (hbw.mono (by have := HSB.out; omega)) g)).trans (below_butG ((Below.refl _ _).setCell (by simp) _) g))
        have hfz : (W7.setCell ⟨w.heap.size + 1, 0, none⟩ (.slice A7 (doms.length + 1) c7)).heap.size = W7.heap.size := by simp [World.setCell]
        clear T7 R7 d7 f7 hown hbw hgr
        go_wp2_with fail
        go_roundw
        case rel => exact ⟨e1, q6, doms ++ [x], _, by simp; omega, by go_num, K1, K2, K3, by simp; omega, K4, K5, by omega⟩
        case measure => simp [intOf]
    · obtain rfl : ee = 0 := by omega
      have t5 : decide ((0 : Int) < ((0 : Nat) : Int)) = false := by decide
      go_wp2_with fail
      refine (pick base g n c q A bs 5 _ hd (by omega)).mono ?_
      rintro e w2 ⟨r2, rfl, ⟨-, hr⟩, hd2, hb2⟩
      obtain ⟨r20, r21⟩ := hr (by omega)
      obtain ⟨k2, rfl⟩ := Int.eq_ofNat_of_zero_le r20
      clear hr
      obtain ⟨i1, hi1, hy0, hy1, hy2⟩ := info_parts (P := Try.prog) (e := 53) (z := .agg #[.int .i64 0, .slice none 0 0, .slice none 0 0, .int .i64 0, .slice none 0 0]) (size := 5) (bytes := 88) (by kernel_rfl)
      have hgb : g < wb.heap.size := by have := HSB.out; omega
      obtain ⟨A0, c0, rfl⟩ := hq.out.form
      have HT2 := Lib.hid (ht.out.butG hb2 (by omega))
      have HQ2 := Lib.hid (hq.out.butG hb2 hgb)
      have HR2 := Lib.hid (hres.out.butG hb2 (by omega))
      have hbt2 := hb.go hb2
      have hz2' := hb2.size
      have hdn := Lib.hid (show doms.length = k0 + 1 by omega)
      have hdl1 : 1 ≤ doms.length := by omega
      have hdl4 : doms.length ≤ 4 := by omega
      clear hsum
      clear ht hq hres hb hd
      go_wp2_with fail
      have O1 := Lib.hid (OwnCons.nil0 w2 wb.heap.size)
      go_loopw [5] (fun t wr => ∃ (ee q1 : Nat) (cons : List Con) (cv : Value), ee + cons.length = k2 ∧ t = .int .i64 ee ∧ Hid (TBlk 26 wr (w.heap.size + 1) #[.slice A0 doms.length c0, cv]) ∧ Hid (OwnI 3 wr wb.heap.size (.slice A0 doms.length c0) doms) ∧ Hid (OwnCons wr wb.heap.size cv cons) ∧ Hid (∀ k ∈ cons, SmC k ∧ 1 ≤ k.vars.length) ∧ Hid (TBlk 26 wr w.heap.size #[.slice none 0 0, .slice none 0 0]) ∧ q1 ≤ q + 1 + 200 * cons.length ∧ Rd wr base g A n c bs q1 ∧ ButG g w.heap.size w wr ∧ wb.heap.size ≤ wr.heap.size) (fun t _ => (intOf t).toNat)
      case atStart => exact ⟨k2, q + 1, [], _, by simp, rfl, HT2, HQ2, O1, fun k hk => by simp at hk, HR2, by simp, hd2, hbt2, by omega⟩
      case round =>
        obtain ⟨ee, q1, cons, cv, hsum2, rfl, ht, hdm, hq, hsm, hres, hqp1, hd, hb, hzr⟩ := hrel
        clear O1 HT2 HQ2 HR2 hd2 hbt2
        rename World => wr
        have hzw := hb.size
        by_cases hlt : 0 < ee
        · obtain ⟨e1, rfl⟩ : ∃ e1, ee = e1 + 1 := ⟨ee - 1, by omega⟩
          have t5 : decide ((0 : Int) < ((e1 + 1 : Nat) : Int)) = true := decide_eq_true (by omega)
          have hbd3 : Below wr.heap.size wr wr.drew := Below.drew_ (Below.refl _ _)
          have d5 : wr.drew.cell? ⟨w.heap.size + 1, 1, none⟩ = some cv := ht.out.at_ 1 rfl
          have d4 : wr.drew.cell? ⟨w.heap.size + 1, 0, none⟩ = some (.slice A0 doms.length c0) := ht.out.at_ 0 rfl
          have hgw : g < wr.heap.size := by omega
          go_wp2_with fail
          go_region_law (first
            | (refine step_append_any (by rfl) _ _ 24 (by rfl) wb.heap.size 53 i1 _ 5 88 Try.underlying24 hi1 hy0 hy1 hy2 rfl (by omega) cv cons.length uss.flatten (by rfl) ho6.out (some ⟨W6.heap.size, 0, none⟩) 1 [.int .i64 kc.kind, .slice A1 kc.vars.length c1, .slice A2 kc.args.length c2, .int .i64 kc.bound, .slice A3 kc.rows.length c3] (by exact ⟨_, rfl, src_blk (t := 53) (TBlk.new _ _ _) (by simp)⟩) (by simp [Value.oneCell']) (by unfold maxLen; omega) (by omega) (by rw [size_alloc_]; omega) ?_
               intro v1 W7 hown hbw hgr _
               obtain ⟨A7, c7, rfl⟩ := (HoldR.of_own hown).form
               have T7 := TBlk.grown (show (26 : TypeId) ≠ 53 by decide) T6.out ho6.out hgr
               have R7 := TBlk.grown (show (26 : TypeId) ≠ 53 by decide) R6.out ho6.out hgr
               have d7 := T7.at_ 1 rfl
               have f7 := T7.frozen 1)
            | (go_simp
               go_at_call 43
               refine (randomConstraint base g n c q1 A bs doms.length wr.drew (hd.under hbd3 hgw) (by omega) (by omega) (by omega)).mono ?_
               rintro e W6 ⟨vk, kc, q6, rfl, hoc, hk1, hsmk, hq6, hd6, hb6⟩
               obtain ⟨usk, rfl, hcr⟩ := OwnCon.read hoc
               obtain ⟨A1, A2, A3, c1, c2, c3, rfl, -⟩ := hcr
               have bq : ButG g wr.heap.size wr W6 := (below_butG hbd3 g).go hb6
               have t6 := ht.out.butG bq (by omega)
               have d6a := t6.at_ 1 rfl
               have d6b := fun o => (t6.on (b_alloc W6 o)).at_ 1 rfl
               have d6c := t6.at_ 0 rfl
               have d6d := fun o => (t6.on (b_alloc W6 o)).at_ 0 rfl
               have bA := b_alloc W6 (.cells #[.int .i64 kc.kind, .slice A1 kc.vars.length c1, .slice A2 kc.args.length c2, .int .i64 kc.bound, .slice A3 kc.rows.length c3] 53)
               have T6 := Lib.hid (t6.on bA)
               have R6 := Lib.hid ((hres.out.butG bq (by omega)).on bA)
               have D6 := Lib.hid ((OwnI.stays 3).below _ _ _ _ _ bA (hdm.out.butG bq hgb))
               obtain ⟨uss, u1, u0, u2, u3, u4⟩ := (OwnK.stays OwnConU.stays).below _ _ _ _ _ bA (OwnK.butG0 (fun u x hx => OwnConU.butG0 hx bq hgb) hq.out bq hgb)
               have HU := Lib.hid (And.intro u1 (And.intro u0 (And.intro u2 u4)))
               have ho6 := Lib.hid u2
               have HC6 := Lib.hid (show OwnConU (W6.alloc (.cells #[.int .i64 kc.kind, .slice A1 kc.vars.length c1, .slice A2 kc.args.length c2, .int .i64 kc.bound, .slice A3 kc.rows.length c3] 53)) wb.heap.size [.int .i64 kc.kind, .slice A1 kc.vars.length c1, .slice A2 kc.args.length c2, .int .i64 kc.bound, .slice A3 kc.rows.length c3] kc from OwnConU.stays.below _ _ _ _ _ bA (OwnConU.stays.base _ _ _ _ _ hzr hoc))
               have z6 := bq.size
               clear u1 u0 u2 u3 u4 t6))
          all_goals
            have hza : (W6.alloc (.cells #[.int .i64 kc.kind, .slice A1 kc.vars.length c1, .slice A2 kc.args.length c2, .int .i64 kc.bound, .slice A3 kc.rows.length c3] 53)).heap.size = W6.heap.size + 1 := size_alloc_ _ _
            have hz7 := hgr.size
            have K1 := Lib.hid (T7.store 1 (.slice A7 (cons.length + 1) c7))
            have K2 := Lib.hid (OwnK.shuns (show (26 : TypeId) ≠ 53 by decide) OwnConU.shunsM _ _ _ _ _ 1 _ _ (.slice A7 (cons.length + 1) c7) T7
              (OwnK.snoc (OwnConU.grows (show (3 : TypeId) ≠ 53 by decide) (show (23 : TypeId) ≠ 53 by decide)) HU.out.1 HU.out.2.1 HU.out.2.2.1 HU.out.2.2.2 HC6.out rfl (by omega) hown hgr))
            have KD := Lib.hid (OwnI.shuns (show (26 : TypeId) ≠ 3 by decide) _ _ _ _ _ 1 _ _ (.slice A7 (cons.length + 1) c7) T7 (OwnI.grown (show (3 : TypeId) ≠ 53 by decide) ho6.out hgr D6.out))
            have K3 := Lib.hid (R7.far (j := 1) (u := (.slice A7 (cons.length + 1) c7)) (show w.heap.size ≠ w.heap.size + 1 by omega))
            have K4 := (((hd6.under bA (by omega)).under hbw hgb).set (b := w.heap.size + 1) (by omega) 1 (.slice A7 (cons.length + 1) c7))
            have K5 : ButG g w.heap.size w (W7.setCell ⟨w.heap.size + 1, 1, none⟩ (.slice A7 (cons.length + 1) c7)) := ((((hb.go bq).trans (below_butG (bA.mono (by have := hb.size; omega)) g)).trans (below_butG (hbw.mono (by have := HSB.out; omega)) g)).trans (below_butG ((Below.refl _ _).setCell (by simp) _) g))
            have KS := Lib.hid (show ∀ k ∈ cons ++ [kc], SmC k ∧ 1 ≤ k.vars.length from fun k hk => by
              rcases List.mem_append.1 hk with h1 | h1
              · exact hsm.out k h1
              · rw [List.mem_singleton.1 h1]; exact ⟨hsmk, hk1⟩)
            have hfz : (W7.setCell ⟨w.heap.size + 1, 1, none⟩ (.slice A7 (cons.length + 1) c7)).heap.size = W7.heap.size := by simp [World.setCell]
            clear T7 R7 d7 f7 hown hbw hgr d6a d6b d6c d6d d5 d4 hsmk hk1 hoc
            go_wp2_with fail
            go_roundw
            case rel => exact ⟨e1, q6, cons ++ [kc], _, by simp; omega, by go_num, K1, KD, K2, KS, K3, by simp; omega, K4, K5, by omega⟩
            case measure => simp [intOf]
        · obtain rfl : ee = 0 := by omega
          have t5 : decide ((0 : Int) < ((0 : Nat) : Int)) = false := by decide
          obtain ⟨Ac, cc, rfl⟩ := OwnK.form hq.out
          have x0 := ht.out.at_ 0 rfl
          have x1 := ht.out.at_ 1 rfl
          have y0 := hres.out.at_ 0 rfl
          have y1 := hres.out.at_ 1 rfl
          have f0 := hres.out.frozen 0
          have f1 := hres.out.frozen 1
          obtain ⟨wf, hwf⟩ : ∃ wf, wf = (wr.setCell ⟨w.heap.size, 0, none⟩ (.slice A0 doms.length c0)).setCell ⟨w.heap.size, 1, none⟩ (.slice Ac cons.length cc) := ⟨_, rfl⟩
          have R1 := hres.out.store 0 (.slice A0 doms.length c0)
          have TF : TBlk 26 wf w.heap.size #[.slice A0 doms.length c0, .slice Ac cons.length cc] := by rw [hwf]; exact R1.store 1 _
          have OF : OwnMod wf wb.heap.size (.agg #[.slice A0 doms.length c0, .slice Ac cons.length cc]) ⟨doms, cons⟩ := by
            rw [hwf]
            exact ⟨_, _, rfl, OwnI.shuns (show (26 : TypeId) ≠ 3 by decide) _ _ _ _ _ 1 _ _ _ R1 (OwnI.shuns (show (26 : TypeId) ≠ 3 by decide) _ _ _ _ _ 0 _ _ _ hres.out hdm.out), OwnK.shuns (show (26 : TypeId) ≠ 53 by decide) OwnConU.shunsM _ _ _ _ _ 1 _ _ _ R1 (OwnK.shuns (show (26 : TypeId) ≠ 53 by decide) OwnConU.shunsM _ _ _ _ _ 0 _ _ _ hres.out hq.out)⟩
          have DF : Rd wf base g A n c bs q1 := by rw [hwf]; exact (hd.set (b := w.heap.size) (by omega) 0 _).set (b := w.heap.size) (by omega) 1 _
          have BF : ButG g w.heap.size w wf := by rw [hwf]; exact (hb.setHi (b := w.heap.size) (Nat.le_refl _) 0 _).setHi (b := w.heap.size) (Nat.le_refl _) 1 _
          have t0 := TF.at_ 0 rfl
          have t1 := TF.at_ 1 rfl
          have HF := Lib.hid (And.intro OF (And.intro DF (And.intro BF hwf)))
          have HK := Lib.hid (And.intro hsm.out (And.intro hdn.out hsum2))
          clear OF DF BF TF hwf R1 ht hres hq hdm hd hb hsm hdn hsum2
          go_wp2_with fail
          rw [← HF.out.2.2.2]
          refine bodyPost_ret (v := .agg #[.slice A0 doms.length c0, .slice Ac cons.length cc]) ?_ rfl ?_
          · simp [results, Try.results27, go_sem, t0, t1]
          · exact ⟨[.slice A0 doms.length c0, .slice Ac cons.length cc], ⟨doms, cons⟩, q1, rfl, OwnMod.base_ HF.out.1 (by have := HSB.out; omega), by show 1 ≤ doms.length; have := HK.out.2.1; omega, by show doms.length ≤ 4; have := HK.out.2.1; omega, by show cons.length ≤ 4; have := HK.out.2.2; omega, HK.out.1, by have := HK.out; omega, HF.out.2.1, HF.out.2.2.1⟩
end Go.Proofs.Ytjpcdbdaimonlaa
/- What is drawn: a model that may be invalid; a model and a constraint. -/
namespace Go.Proofs.Ytjpcdbdaimonlaa
open Go.ChangeShapes Go.WideShapes Go.ChangeAt Go.RowKit
open Go.Shelf
set_option linter.unusedVariables false
set_option linter.unusedSimpArgs false
set_option maxRecDepth 100000

/-- a model laid into the box of a result. -/
theorem OwnMod.laid2 {w w0 : World} {B B0 R g base n c p : Nat} {A : Option Addr} {bs : List Int} {m : Mod} {x0 x1 : Value} {zs : Array Value}
    (h : OwnMod w B (.agg #[x0, x1]) m) (hr : TBlk 26 w R zs) (hz : zs.size = 2) (hd : Rd w base g A n c bs p) (hg : g < R) (hR : B0 ≤ R) (hb : ButG g B0 w0 w) {wf : World}
    (hf : wf = (w.setCell ⟨R, 0, none⟩ x0).setCell ⟨R, 1, none⟩ x1) :
    (wf.cell? ⟨R, 0, none⟩ = some x0 ∧ wf.cell? ⟨R, 1, none⟩ = some x1) ∧ OwnMod wf B (.agg #[x0, x1]) m ∧ Rd wf base g A n c bs p ∧ ButG g B0 w0 wf := by
  obtain ⟨z0, z1, rfl⟩ : ∃ z0 z1, zs = #[z0, z1] := by
    rcases zs with ⟨l⟩
    match l, hz with
    | [z0, z1], _ => exact ⟨_, _, rfl⟩
  have t1 := hr.store 0 x0
  have t2 := t1.store 1 x1
  obtain ⟨dv, cv, e, o1, o2⟩ := h
  subst hf
  refine ⟨⟨t2.at_ 0 rfl, t2.at_ 1 rfl⟩, ⟨dv, cv, e, ?_, ?_⟩, (hd.set hg 0 _).set hg 1 _, (hb.setHi hR 0 _).setHi hR 1 _⟩
  · exact OwnI.shuns (show (26 : TypeId) ≠ 3 by decide) _ _ _ _ _ 1 _ _ _ t1 (OwnI.shuns (show (26 : TypeId) ≠ 3 by decide) _ _ _ _ _ 0 _ _ _ hr o1)
  · exact OwnK.shuns (show (26 : TypeId) ≠ 53 by decide) OwnConU.shunsM _ _ _ _ _ 1 _ _ _ t1 (OwnK.shuns (show (26 : TypeId) ≠ 53 by decide) OwnConU.shunsM _ _ _ _ _ 0 _ _ _ hr o2)
/-- whatever number is stored into a block of numbers: what is owned stays owned, and as long. -/
theorem OwnI.any {w : World} {B gD j : Nat} {v : Value} {xs : List Int} {cs : Array Value} (x : Int) (hb : TBlk 3 w gD cs) (h : OwnI 3 w B v xs) : ∃ xs', OwnI 3 (w.setCell ⟨gD, j, none⟩ (.int .i64 x)) B v xs' ∧ xs'.length = xs.length := by
  obtain ⟨h1, h3⟩ := h
  obtain ⟨h1a, h2⟩ := id h1
  rcases h2 with ⟨rfl, h0⟩ | ⟨g, cap, cur, rfl, hg, hh, hcap, hmax, hsz, ht⟩
  · exact ⟨xs, ⟨⟨h1a, .inl ⟨rfl, h0⟩⟩, h3⟩, rfl⟩
  · by_cases e : g = gD
    · subst e
      refine ⟨xs.set j x, ⟨?_, by rw [List.length_set]; exact h3⟩, List.length_set⟩
      rw [List.length_set, List.map_set]
      exact (h1.stored j (.int .i64 x)).1
    · refine ⟨xs, ⟨⟨h1a, .inr ⟨g, cap, cur, rfl, hg, ?_, hcap, hmax, hsz, ht⟩⟩, h3⟩, rfl⟩
      rw [Below.heap_setCell _ _ _ _ (by exact e)]
      exact hh
theorem OwnRows.any {w : World} {B gD j : Nat} {v : Value} {xs : List (List Int)} {cs : Array Value} (x : Int) (hb : TBlk 3 w gD cs) (h : OwnOf 23 (OwnI 3) w B v xs) :
    ∃ xs', OwnOf 23 (OwnI 3) (w.setCell ⟨gD, j, none⟩ (.int .i64 x)) B v xs' ∧ xs'.length = xs.length ∧ ∀ m, RowsLe m xs → RowsLe m xs' := by
  obtain ⟨us, h1, h2, h3, h4⟩ := h
  obtain ⟨l, hl, hq⟩ := list_of xs.length (fun i (y : List Int) => ∀ u z, us[i]? = some u → xs[i]? = some z → OwnI 3 (w.setCell ⟨gD, j, none⟩ (.int .i64 x)) B u y ∧ y.length = z.length) (fun i hi => by
    obtain ⟨ys, a, b⟩ := (h4 i _ _ (List.getElem?_eq_getElem (by omega)) (List.getElem?_eq_getElem hi)).any (j := j) x hb
    refine ⟨ys, fun u z hu hz => ?_⟩
    rw [List.getElem?_eq_getElem (by omega)] at hu
    rw [List.getElem?_eq_getElem hi] at hz
    injection hu with hu
    injection hz with hz
    subst hu hz
    exact ⟨a, b⟩)
  refine ⟨l, ⟨us, by omega, by rw [hl]; exact own_shun (by decide) j _ hb h2, by omega, fun i u y hu hy => ?_⟩, hl, fun m hm y hy => ?_⟩
  · have hi : i < xs.length := by
      rw [← hl]; exact (List.getElem?_eq_some_iff.1 hy).1
    exact (hq i y hy u _ hu (List.getElem?_eq_getElem hi)).1
  · obtain ⟨i, hi, e⟩ := List.getElem_of_mem hy
    have hi2 : i < xs.length := by omega
    have := (hq i y (by rw [List.getElem?_eq_getElem hi, e]) _ _ (List.getElem?_eq_getElem (show i < us.length by omega)) (List.getElem?_eq_getElem hi2)).2
    rw [this]
    exact hm _ (List.getElem_mem hi2)
theorem OwnConU.any {w : World} {B gD j : Nat} {us : List Value} {k : Con} {cs : Array Value} (x : Int) (hb : TBlk 3 w gD cs) (h : OwnConU w B us k) : ∃ k', OwnConU (w.setCell ⟨gD, j, none⟩ (.int .i64 x)) B us k' ∧ (SmD k → SmD k') := by
  obtain ⟨vv, av, rv, e, o1, o2, o3⟩ := h
  obtain ⟨x1, a1, b1⟩ := o1.any (j := j) x hb
  obtain ⟨x2, a2, b2⟩ := o2.any (j := j) x hb
  obtain ⟨x3, a3, b3, d3⟩ := OwnRows.any (j := j) x hb o3
  exact ⟨⟨k.kind, x1, x2, k.bound, x3⟩, ⟨vv, av, rv, e, a1, a2, a3⟩, fun hs => ⟨by show x1.length ≤ 9; rw [b1]; exact hs.1, by show x2.length ≤ 9; rw [b2]; exact hs.2.1, by show x3.length ≤ 8; rw [b3]; exact hs.2.2.1, d3 8 hs.2.2.2⟩⟩
theorem OwnCons.any {w : World} {B gD j : Nat} {v : Value} {xs : List Con} {cs : Array Value} (x : Int) (hb : TBlk 3 w gD cs) (h : OwnCons w B v xs) : ∃ xs', OwnCons (w.setCell ⟨gD, j, none⟩ (.int .i64 x)) B v xs' ∧ xs'.length = xs.length ∧ ((∀ k ∈ xs, SmD k) → ∀ k ∈ xs', SmD k) := by
  obtain ⟨uss, h1, h0, h2, h3, h4⟩ := h
  obtain ⟨l, hl, hq⟩ := list_of xs.length (fun i (y : Con) => ∀ u z, uss[i]? = some u → xs[i]? = some z → OwnConU (w.setCell ⟨gD, j, none⟩ (.int .i64 x)) B u y ∧ (SmD z → SmD y)) (fun i hi => by
    obtain ⟨ys, a, b⟩ := (h4 i _ _ (List.getElem?_eq_getElem (by omega)) (List.getElem?_eq_getElem hi)).any (j := j) x hb
    refine ⟨ys, fun u z hu hz => ?_⟩
    rw [List.getElem?_eq_getElem (by omega)] at hu
    rw [List.getElem?_eq_getElem hi] at hz
    injection hu with hu
    injection hz with hz
    subst hu hz
    exact ⟨a, b⟩)
  refine ⟨l, ⟨uss, by omega, h0, by rw [hl]; exact own_shun (by decide) j _ hb h2, by omega, fun i u y hu hy => ?_⟩, hl, fun hm y hy => ?_⟩
  · have hi : i < xs.length := by
      rw [← hl]; exact (List.getElem?_eq_some_iff.1 hy).1
    exact (hq i y hy u _ hu (List.getElem?_eq_getElem hi)).1
  · obtain ⟨i, hi, e⟩ := List.getElem_of_mem hy
    have hi2 : i < xs.length := by omega
    exact (hq i y (by rw [List.getElem?_eq_getElem hi, e]) _ _ (List.getElem?_eq_getElem (show i < uss.length by omega)) (List.getElem?_eq_getElem hi2)).2 (hm _ (List.getElem_mem hi2))
theorem flat_set {uss : List (List Value)} {m i : Nat} {p : List Value} (h : ∀ u ∈ uss, u.length = m) (hi : i < uss.length) (hp : p.length = m) (z0 z1 z2 z3 z4 x0 x1 x2 x3 x4 : Value) (hz : uss[i]? = some [z0, z1, z2, z3, z4]) (hm : m = 5) (hx : p = [x0, x1, x2, x3, x4]) :
    (((((uss.flatten).set (i * 5) x0).set (i * 5 + 1) x1).set (i * 5 + 2) x2).set (i * 5 + 3) x3).set (i * 5 + 4) x4 = (uss.set i p).flatten := by
  subst hx hm
  have hs : uss = uss.take i ++ ([z0, z1, z2, z3, z4] :: uss.drop (i + 1)) := by
    have e : uss[i] = [z0, z1, z2, z3, z4] := by
      rw [List.getElem?_eq_getElem hi] at hz
      injection hz
    rw [← e, List.getElem_cons_drop, List.take_append_drop]
  have hl : ((uss.take i).flatten).length = i * 5 := by rw [flat_len (fun u hu => h u (List.mem_of_mem_take hu)), List.length_take, Nat.min_eq_left (by omega)]
  have e1 : uss.flatten = (uss.take i).flatten ++ ([z0, z1, z2, z3, z4] ++ (uss.drop (i + 1)).flatten) := by
    conv => lhs; rw [hs]
    rw [List.flatten_append, List.flatten_cons]
  have e2 : (uss.set i [x0, x1, x2, x3, x4]).flatten = (uss.take i).flatten ++ ([x0, x1, x2, x3, x4] ++ (uss.drop (i + 1)).flatten) := by
    rw [List.set_eq_take_append_cons_drop, if_pos hi, List.flatten_append, List.flatten_cons]
  rw [e1, set5 _ _ _ _ _ _ _ _ _ _ _ _ _ hl, e2]
/-- one constraint of a row is put in the place of another. -/
theorem OwnCons.put {w : World} {B g c i n : Nat} {xs : List Con} {x0 x1 x2 x3 x4 : Value} {y : Con} (hn : xs.length = n) (h : OwnCons w B (.slice (some ⟨g, 0, none⟩) n c) xs) (hi : i < n) (hy : OwnConU w B [x0, x1, x2, x3, x4] y) :
    OwnCons (((((w.setCell ⟨g, i * 5, none⟩ x0).setCell ⟨g, i * 5 + 1, none⟩ x1).setCell ⟨g, i * 5 + 2, none⟩ x2).setCell ⟨g, i * 5 + 3, none⟩ x3).setCell ⟨g, i * 5 + 4, none⟩ x4) B (.slice (some ⟨g, 0, none⟩) n c) (xs.set i y) := by
  subst hn
  obtain ⟨uss, h1, h0, ho, h3, h4⟩ := h
  obtain ⟨o1, i1⟩ := fstep OwnConU.shuns ho (i * 5) x0
  obtain ⟨o2, i2⟩ := fstep OwnConU.shuns o1 (i * 5 + 1) x1
  obtain ⟨o3, i3⟩ := fstep OwnConU.shuns o2 (i * 5 + 2) x2
  obtain ⟨o4, i4⟩ := fstep OwnConU.shuns o3 (i * 5 + 3) x3
  obtain ⟨o5, i5⟩ := fstep OwnConU.shuns o4 (i * 5 + 4) x4
  obtain ⟨z0, z1, z2, z3, z4, hz⟩ : ∃ z0 z1 z2 z3 z4, uss[i]? = some [z0, z1, z2, z3, z4] := by
    have hl := h0 _ (List.getElem_mem (show i < uss.length by omega))
    generalize hu : uss[i] = u at hl
    match u, hl with
    | [z0, z1, z2, z3, z4], _ => exact ⟨z0, z1, z2, z3, z4, by rw [List.getElem?_eq_getElem (by omega), hu]⟩
  rw [flat_set h0 (by omega) (p := [x0, x1, x2, x3, x4]) rfl z0 z1 z2 z3 z4 x0 x1 x2 x3 x4 hz rfl rfl] at o5
  refine ⟨uss.set i [x0, x1, x2, x3, x4], by rw [List.length_set, List.length_set, h1], fun u hu => ?_, by rw [List.length_set]; exact o5, by rw [List.length_set]; exact h3, fun k u x hu hx => ?_⟩
  · rcases List.mem_or_eq_of_mem_set hu with h | h
    · exact h0 u h
    · rw [h]; rfl
  · by_cases e : i = k
    · subst e
      rw [List.getElem?_set_self (by omega)] at hu hx
      injection hu with hu
      injection hx with hx
      subst hu hx
      exact i5 _ _ (i4 _ _ (i3 _ _ (i2 _ _ (i1 _ _ hy))))
    · rw [List.getElem?_set_ne e] at hu hx
      exact i5 _ _ (i4 _ _ (i3 _ _ (i2 _ _ (i1 _ _ (h4 k u x hu hx)))))
theorem OwnCons.elem {w : World} {B n c i : Nat} {A : Option Addr} {xs : List Con} (h : OwnCons w B (.slice A n c) xs) (hi : i < xs.length) :
    ∃ g : Nat, A = some ⟨g, 0, none⟩ ∧ B ≤ g ∧ ∃ us k, xs[i]? = some k ∧ us.length = 5 ∧ (∀ (j : Nat) u, us[j]? = some u → w.cell? ⟨g, i * 5 + j, none⟩ = some u) ∧ (∀ j, w.frozen? ⟨g, j, none⟩ = false) ∧ OwnConU w B us k := by
  obtain ⟨uss, h1, h0, ho, h3, h4⟩ := h
  rcases id ho.2 with ⟨_, h5⟩ | ⟨g, cap, cur, hv, hg, hh, -⟩
  · omega
  injection hv with e1 e2 e3
  subst e1
  have hn : n = xs.length := e2
  subst hn
  refine ⟨g, rfl, hg, uss[i], xs[i], List.getElem?_eq_getElem hi, h0 _ (List.getElem_mem (by omega)), fun j u hj => ?_, fun j => frozen_of_row w g j _ _ hh, h4 i _ _ (List.getElem?_eq_getElem (by omega)) (List.getElem?_eq_getElem hi)⟩
  have hc := ho.cells (g := g) rfl (i * 5 + j) u (flat_at h0 (List.getElem?_eq_getElem (show i < uss.length by omega)) hj)
  rw [add_own] at hc
  exact hc
theorem OwnCons.butG {w w' : World} {base g : Nat} {v : Value} {xs : List Con} (h : OwnCons w base v xs) (hb : ButG g w.heap.size w w') (hg : g < base) : OwnCons w' base v xs := OwnK.butG0 (fun us x h => OwnConU.butG0 h hb hg) h hb hg
theorem OwnMod.putCon {w w0 : World} {B B0 g base nb cb p gC nc cc i b1 b2 : Nat} {A : Option Addr} {bs : List Int} {doms : List Int} {cons : List Con} {y : Con} {dv x0 x1 x2 x3 x4 : Value} {cs1 cs2 : Array Value}
    (hd : OwnI 3 w B dv doms) (hc : OwnCons w B (.slice (some ⟨gC, 0, none⟩) nc cc) cons) (hn : cons.length = nc) (hi : i < nc) (hgC : B ≤ gC) (hy : OwnConU w B [x0, x1, x2, x3, x4] y)
    (t1 : TBlk 26 w b1 cs1) (t2 : TBlk 26 w b2 cs2) (hr : Rd w base g A nb cb bs p) (hg : g < B) (hb : ButG g B0 w0 w) (hB : B0 ≤ B) {wf : World}
    (hf : wf = ((((w.setCell ⟨gC, i * 5, none⟩ x0).setCell ⟨gC, i * 5 + 1, none⟩ x1).setCell ⟨gC, i * 5 + 2, none⟩ x2).setCell ⟨gC, i * 5 + 3, none⟩ x3).setCell ⟨gC, i * 5 + 4, none⟩ x4) :
    TBlk 26 wf b1 cs1 ∧ TBlk 26 wf b2 cs2 ∧ OwnMod wf B (.agg #[dv, .slice (some ⟨gC, 0, none⟩) nc cc]) ⟨doms, cons.set i y⟩ ∧ Rd wf base g A nb cb bs p ∧ ButG g B0 w0 wf := by
  obtain ⟨cur, hcur⟩ : ∃ cur, TBlk 53 w gC cur := by
    obtain ⟨uss, h1, h0, ho, -⟩ := hc
    rw [hn] at ho
    exact own_block ho
  have hcp := OwnCons.put hn hc hi hy
  have n1 : b1 ≠ gC := t1.ne hcur (by decide)
  have n2 : b2 ≠ gC := t2.ne hcur (by decide)
  have k1 := hcur.store (i * 5) x0
  have k2 := k1.store (i * 5 + 1) x1
  have k3 := k2.store (i * 5 + 2) x2
  have k4 := k3.store (i * 5 + 3) x3
  have d1 := OwnI.shuns (t := 53) (by decide) _ _ _ _ _ (i * 5) _ _ x0 hcur hd
  have d2 := OwnI.shuns (t := 53) (by decide) _ _ _ _ _ (i * 5 + 1) _ _ x1 k1 d1
  have d3 := OwnI.shuns (t := 53) (by decide) _ _ _ _ _ (i * 5 + 2) _ _ x2 k2 d2
  have d4 := OwnI.shuns (t := 53) (by decide) _ _ _ _ _ (i * 5 + 3) _ _ x3 k3 d3
  have d5 := OwnI.shuns (t := 53) (by decide) _ _ _ _ _ (i * 5 + 4) _ _ x4 k4 d4
  subst hf
  refine ⟨((((t1.far n1).far n1).far n1).far n1).far n1, ((((t2.far n2).far n2).far n2).far n2).far n2, ⟨_, _, rfl, d5, hcp⟩, ?_, ?_⟩
  · exact ((((hr.set (b := gC) (by omega) _ _).set (b := gC) (by omega) _ _).set (b := gC) (by omega) _ _).set (b := gC) (by omega) _ _).set (b := gC) (by omega) _ _
  · exact ((((hb.setHi (b := gC) (by omega) _ _).setHi (b := gC) (by omega) _ _).setHi (b := gC) (by omega) _ _).setHi (b := gC) (by omega) _ _).setHi (b := gC) (by omega) _ _

end Go.Proofs.Ytjpcdbdaimonlaa
/- What is drawn: a model and a constraint; a model. -/
namespace Go.Proofs.Ytjpcdbdaimonlaa
open Go.ChangeShapes Go.WideShapes Go.ChangeAt Go.RowKit
open Go.Shelf
set_option linter.unusedVariables false
set_option linter.unusedSimpArgs false
set_option maxRecDepth 100000

theorem OwnMod.butG {w w' : World} {base g : Nat} {v : Value} {m : Mod} (h : OwnMod w base v m) (hb : ButG g w.heap.size w w') (hg : g < base) : OwnMod w' base v m := by
  obtain ⟨a, b, e, k1, k2⟩ := h
  exact ⟨a, b, e, OwnI.butG k1 hb hg, OwnCons.butG k2 hb hg⟩
theorem OwnCon.butG {w w' : World} {base g : Nat} {v : Value} {k : Con} (h : OwnCon w base v k) (hb : ButG g w.heap.size w w') (hg : g < base) : OwnCon w' base v k := by
  obtain ⟨vv, av, rv, e, k1, k2, k3⟩ := h
  exact ⟨vv, av, rv, e, OwnI.butG k1 hb hg, OwnI.butG k2 hb hg, OwnRows.butG k3 hb hg⟩
/-- a small model. -/
def SzM (m : Mod) : Prop := 1 ≤ m.doms.length ∧ m.doms.length ≤ 4 ∧ m.cons.length ≤ 4 ∧ ∀ k ∈ m.cons, SmD k
theorem SzM.sm {m : Mod} (h : SzM m) : SmMod m := ⟨by have := h.2.1; unfold Sm1; omega, by have := h.2.2.1; omega, fun k hk => (h.2.2.2 k hk).con⟩
/-- five cells of one box. -/
theorem butG_set5 (w : World) (R B : Nat) (x0 x1 x2 x3 x4 : Value) : ButG R B w (((((w.setCell ⟨R, 0, none⟩ x0).setCell ⟨R, 1, none⟩ x1).setCell ⟨R, 2, none⟩ x2).setCell ⟨R, 3, none⟩ x3).setCell ⟨R, 4, none⟩ x4) :=
  ((((ButG.set R B 0 w x0).trans (ButG.set R B 1 _ x1)).trans (ButG.set R B 2 _ x2)).trans (ButG.set R B 3 _ x3)).trans (ButG.set R B 4 _ x4)
theorem butG_set2 (w : World) (R B : Nat) (x0 x1 : Value) : ButG R B w ((w.setCell ⟨R, 0, none⟩ x0).setCell ⟨R, 1, none⟩ x1) := (ButG.set R B 0 w x0).trans (ButG.set R B 1 _ x1)
theorem TBlk.laid5 {w : World} {R : Nat} {x0 x1 x2 x3 x4 z0 z1 z2 z3 z4 : Value} (h : TBlk 53 w R #[z0, z1, z2, z3, z4]) : TBlk 53 (((((w.setCell ⟨R, 0, none⟩ x0).setCell ⟨R, 1, none⟩ x1).setCell ⟨R, 2, none⟩ x2).setCell ⟨R, 3, none⟩ x3).setCell ⟨R, 4, none⟩ x4) R #[x0, x1, x2, x3, x4] :=
  ((((h.store 0 x0).store 1 x1).store 2 x2).store 3 x3).store 4 x4
theorem TBlk.laid2 {t : TypeId} {w : World} {R : Nat} {x0 x1 z0 z1 : Value} (h : TBlk t w R #[z0, z1]) : TBlk t ((w.setCell ⟨R, 0, none⟩ x0).setCell ⟨R, 1, none⟩ x1) R #[x0, x1] := (h.store 0 x0).store 1 x1
end Go.Proofs.Ytjpcdbdaimonlaa
/- spec's randomModel once more: what it gives is valid. -/
namespace Go.Proofs.Ytjpcdbdaimonlaa
open Go.ChangeShapes Go.WideShapes Go.ChangeAt Go.RowKit
open Go.Shelf
set_option linter.unusedVariables false
set_option linter.unusedSimpArgs false
set_option maxRecDepth 100000
theorem dom63 {doms : List Int} {x : Int} (h : ∀ x ∈ doms, 0 ≤ x ∧ x ≤ 63) (hx : 0 ≤ x ∧ x ≤ 63) : ∀ y ∈ doms ++ [x], 0 ≤ y ∧ y ≤ 63 := fun y hy => by
  rcases List.mem_append.1 hy with h1 | h1
  · exact h y h1
  · rw [List.mem_singleton.1 h1]; exact hx
theorem vmod_of {doms : List Int} {cons : List Con} (h1 : ∀ x ∈ doms, 0 ≤ x ∧ x ≤ 63) (h2 : ∀ k ∈ cons, vconF k (doms.length : Int) = true) (h3 : 1 ≤ doms.length) (h4 : doms.length ≤ 4) (h5 : cons.length ≤ 4) : vmodF ⟨doms, cons⟩ = true := by
  unfold vmodF
  show ((doms.all vdB) && ((cons.all fun c => vconF c (doms.length : Int)) && (inB (doms.length : Int) 1 4 && decide ((cons.length : Int) ≤ 6)))) = true
  rw [show (doms.all vdB) = true from List.all_eq_true.2 (fun x hx => inB_mk (h1 x hx)), show (cons.all fun c => vconF c (doms.length : Int)) = true from List.all_eq_true.2 h2, inB_mk (show (1 : Int) ≤ (doms.length : Int) ∧ (doms.length : Int) ≤ 4 by omega), decide_eq_true (show (cons.length : Int) ≤ 6 by omega)]
  rfl
set_option maxHeartbeats 3000000 in
theorem randomModelV (base g n c p : Nat) (A : Option Addr) (bs : List Int) (w : World) (h : Rd w base g A n c bs p) (hp : p ≤ 800000) :
    Calls Try.prog 27 #[.pointer (some ⟨g, 0, none⟩)] w fun e w' => ∃ (vs : List Value) (m : Mod) (q : Nat), e = .returned (.agg vs.toArray) ∧ OwnMod w' w.heap.size (.agg vs.toArray) m ∧ 1 ≤ m.doms.length ∧ m.doms.length ≤ 4 ∧ m.cons.length ≤ 4 ∧ (∀ k ∈ m.cons, SmC k ∧ 1 ≤ k.vars.length) ∧ vmodF m = true ∧ q ≤ p + 900 ∧ Rd w' base g A n c bs q ∧ ButG g w.heap.size w w' := by
  obtain ⟨i0, hi0, hz0, hz1, hz2⟩ := info_parts info_int
  have hg : g < w.heap.size := (Array.getElem?_eq_some_iff.1 h.block).1
  obtain ⟨wa, hwa⟩ : ∃ wa, wa = w.alloc (.cells #[.slice none 0 0, .slice none 0 0] 26) := ⟨_, rfl⟩
  obtain ⟨wb, hwb⟩ : ∃ wb, wb = wa.alloc (.cells #[.slice none 0 0, .slice none 0 0] 26) := ⟨_, rfl⟩
  have hb0 : Below w.heap.size w wa := by rw [hwa]; exact b_alloc _ _
  have hsa : wa.heap.size = w.heap.size + 1 := by rw [hwa, size_alloc_]
  have hb1 : Below wa.heap.size wa wb := by rw [hwb]; exact b_alloc _ _
  have hsb : wb.heap.size = w.heap.size + 1 + 1 := by rw [hwb, size_alloc_, hsa]
  have hb01 := bgo hb0 hb1
  have HR : Hid (TBlk 26 wb w.heap.size #[.slice none 0 0, .slice none 0 0]) := TBlk.below_ (by rw [hwa]; exact TBlk.new _ _ _) hb1 (by omega)
  have HT : Hid (TBlk 26 wb (w.heap.size + 1) #[.slice none 0 0, .slice none 0 0]) := by rw [hwb, ← hsa]; exact TBlk.new _ _ _
  have hr0 : Rd wb base g A n c bs p := h.under hb01 hg
  clear h hb0 hb1
  go_enter Try.func27, Try.ntmps27
  go_wp2_with fail
  rw [← hwa, ← hwb]
  clear hwa hwb
  have HSB := Lib.hid hsb
  clear hsb hsa
  refine (pick base g n c p A bs 4 _ hr0 (by omega)).mono ?_
  rintro e w1 ⟨r, rfl, ⟨-, hr⟩, hd1, hbq1⟩
  obtain ⟨r0, r1⟩ := hr (by omega)
  obtain ⟨k0, rfl⟩ := Int.eq_ofNat_of_zero_le r0
  have hbt := (below_butG hb01 g).go hbq1
  have HT1 := Lib.hid (HT.out.butG hbq1 (by omega))
  have HR1 := Lib.hid (HR.out.butG hbq1 (by omega))
  have hz1' := hbq1.size
  have hwr : IntKind.i64.wrap (1 + (k0 : Int)) = ((k0 + 1 : Nat) : Int) := by rw [IntKind.wrap_i64]; omega
  clear hr hr0
  go_wp2_with fail
  have O0 := Lib.hid (show OwnI 3 w1 wb.heap.size (.slice none 0 0) [] from ⟨World.ownsRow_nil _ _ _ _, by simp⟩)
  go_loopw [4] (fun t wr => ∃ (ee q : Nat) (doms : List Int) (dv : Value), ee + doms.length = k0 + 1 ∧ t = .int .i64 ee ∧ Hid (∀ x ∈ doms, 0 ≤ x ∧ x ≤ 63) ∧ Hid (TBlk 26 wr (w.heap.size + 1) #[dv, .slice none 0 0]) ∧ Hid (OwnI 3 wr wb.heap.size dv doms) ∧ Hid (TBlk 26 wr w.heap.size #[.slice none 0 0, .slice none 0 0]) ∧ q ≤ p + 1 + 3 * doms.length ∧ Rd wr base g A n c bs q ∧ ButG g w.heap.size w wr ∧ wb.heap.size ≤ wr.heap.size) (fun t _ => (intOf t).toNat)
  case atStart => exact ⟨k0 + 1, p + 1, [], _, by simp, by first | rfl | (congr 1; omega), Lib.hid (fun x hx => by simp at hx), HT1, O0, HR1, by simp, hd1, hbt, hz1'⟩
  case round =>
    obtain ⟨ee, q, doms, dv, hsum, rfl, hdx, ht, hq, hres, hqp, hd, hb, hzr⟩ := hrel
    clear O0 HT1 HR1 hd1 hbt
    rename World => wr
    by_cases hlt : 0 < ee
    · obtain ⟨e1, rfl⟩ : ∃ e1, ee = e1 + 1 := ⟨ee - 1, by omega⟩
      have t5 : decide ((0 : Int) < ((e1 + 1 : Nat) : Int)) = true := decide_eq_true (by omega)
      have hbd3 : Below wr.heap.size wr wr.drew := Below.drew_ (Below.refl _ _)
      have d5 : wr.drew.cell? ⟨w.heap.size + 1, 0, none⟩ = some dv := ht.out.at_ 0 rfl
      have hgb : g < wb.heap.size := by have := HSB.out; omega
      have hgw : g < wr.heap.size := by omega
      go_wp2_with fail
      go_region_law (first
        | (refine step_append_any (by rfl) _ _ 23 (by rfl) wb.heap.size 3 i0 _ 1 8 Try.underlying23 hi0 hz0 hz1 hz2 rfl (by omega) dv doms.length (doms.map (.int .i64)) (by rfl) ho6.out (some ⟨W6.heap.size, 0, none⟩) 1 [.int .i64 x] (by exact ⟨_, rfl, .inr ⟨_, rfl, rfl, cell_one_new _ _ _⟩⟩) (by simp [Value.oneCell']) (by unfold maxLen; omega) (by omega) (by rw [size_alloc_]; omega) ?_
           intro v1 W7 hown hbw hgr _
           obtain ⟨A7, c7, rfl⟩ := (HoldR.of_own hown).form
           have T7 := TBlk.grown (show (26 : TypeId) ≠ 3 by decide) T6.out ho6.out hgr
           have R7 := TBlk.grown (show (26 : TypeId) ≠ 3 by decide) R6.out ho6.out hgr
           have d7 := T7.at_ 0 rfl
           have f7 := T7.frozen 0)
        | (go_simp
           go_at_call 42
           refine (randomDomain base g n c q A bs wr.drew (hd.under hbd3 hgw) (by omega)).mono ?_
           rintro e W6 ⟨x, q6, rfl, hxx, hq6, hd6, hb6⟩
           have HXX := Lib.hid (show 0 ≤ x ∧ x ≤ 63 by omega)
           clear hxx
           have bq : ButG g wr.heap.size wr W6 := (below_butG hbd3 g).go hb6
           have t6 := ht.out.butG bq (by omega)
           have d6a := t6.at_ 0 rfl
           have d6b := fun o => (t6.on (b_alloc W6 o)).at_ 0 rfl
           have bA := b_alloc W6 (.cells #[.int .i64 x] 3)
           have T6 := Lib.hid (t6.on bA)
           have R6 := Lib.hid ((hres.out.butG bq (by omega)).on bA)
           have o6 := hq.out.butG bq hgb
           have ho6 := Lib.hid (own_below o6.1 bA)
           have z6 := bq.size
           clear t6 o6))
      all_goals
        have hza : (W6.alloc (.cells #[.int .i64 x] 3)).heap.size = W6.heap.size + 1 := size_alloc_ _ _
        have hz7 := hgr.size
        have K1 := Lib.hid (T7.store 0 (.slice A7 (doms.length + 1) c7))
        have K2 := Lib.hid (OwnI.shuns (show (26 : TypeId) ≠ 3 by decide) _ _ _ _ _ 0 _ _ (.slice A7 (doms.length + 1) c7) T7 (show OwnI 3 W7 wb.heap.size (.slice A7 (doms.length + 1) c7) (doms ++ [x]) from ⟨by simpa using hown, by simp; omega⟩))
        have K3 := Lib.hid (R7.far (j := 0) (u := .slice A7 (doms.length + 1) c7) (show w.heap.size ≠ w.heap.size + 1 by omega))
        have K4 := (((hd6.under bA (by omega)).under hbw hgb).set (b := w.heap.size + 1) (by omega) 0 (.slice A7 (doms.length + 1) c7))
        have K5 : ButG g w.heap.size w (W7.setCell ⟨w.heap.size + 1, 0, none⟩ (.slice A7 (doms.length + 1) c7)) := ((((hb.go bq).trans (below_butG (bA.mono (by have := hb.size; omega)) g)).trans (below_butG (hbw.mono (by have := HSB.out; omega)) g)).trans (below_butG ((Below.refl _ _).setCell (by simp) _) g))
        have hfz : (W7.setCell ⟨w.heap.size + 1, 0, none⟩ (.slice A7 (doms.length + 1) c7)).heap.size = W7.heap.size := by simp [World.setCell]
        clear T7 R7 d7 f7 hown hbw hgr
        go_wp2_with fail
        go_roundw
        case rel => exact ⟨e1, q6, doms ++ [x], _, by simp; omega, by go_num, Lib.hid (dom63 hdx.out HXX.out), K1, K2, K3, by simp; omega, K4, K5, by omega⟩
        case measure => simp [intOf]
    · obtain rfl : ee = 0 := by omega
      have t5 : decide ((0 : Int) < ((0 : Nat) : Int)) = false := by decide
      go_wp2_with fail
      refine (pick base g n c q A bs 5 _ hd (by omega)).mono ?_
      rintro e w2 ⟨r2, rfl, ⟨-, hr⟩, hd2, hb2⟩
      obtain ⟨r20, r21⟩ := hr (by omega)
      obtain ⟨k2, rfl⟩ := Int.eq_ofNat_of_zero_le r20
      clear hr
      obtain ⟨i1, hi1, hy0, hy1, hy2⟩ := info_parts (P := Try.prog) (e := 53) (z := .agg #[.int .i64 0, .slice none 0 0, .slice none 0 0, .int .i64 0, .slice none 0 0]) (size := 5) (bytes := 88) (by kernel_rfl)
      have hgb : g < wb.heap.size := by have := HSB.out; omega
      obtain ⟨A0, c0, rfl⟩ := hq.out.form
      have HT2 := Lib.hid (ht.out.butG hb2 (by omega))
      have HQ2 := Lib.hid (hq.out.butG hb2 hgb)
      have HR2 := Lib.hid (hres.out.butG hb2 (by omega))
      have hbt2 := hb.go hb2
      have hz2' := hb2.size
      have hdn := Lib.hid (show doms.length = k0 + 1 by omega)
      have hdl1 : 1 ≤ doms.length := by omega
      have hdl4 : doms.length ≤ 4 := by omega
      clear hsum
      clear ht hq hres hb hd
      go_wp2_with fail
      have O1 := Lib.hid (OwnCons.nil0 w2 wb.heap.size)
      go_loopw [5] (fun t wr => ∃ (ee q1 : Nat) (cons : List Con) (cv : Value), ee + cons.length = k2 ∧ t = .int .i64 ee ∧ Hid (TBlk 26 wr (w.heap.size + 1) #[.slice A0 doms.length c0, cv]) ∧ Hid (OwnI 3 wr wb.heap.size (.slice A0 doms.length c0) doms) ∧ Hid (OwnCons wr wb.heap.size cv cons) ∧ Hid (∀ k ∈ cons, (SmC k ∧ 1 ≤ k.vars.length) ∧ vconF k (doms.length : Int) = true) ∧ Hid (TBlk 26 wr w.heap.size #[.slice none 0 0, .slice none 0 0]) ∧ q1 ≤ q + 1 + 200 * cons.length ∧ Rd wr base g A n c bs q1 ∧ ButG g w.heap.size w wr ∧ wb.heap.size ≤ wr.heap.size) (fun t _ => (intOf t).toNat)
      case atStart => exact ⟨k2, q + 1, [], _, by simp, rfl, HT2, HQ2, O1, fun k hk => by simp at hk, HR2, by simp, hd2, hbt2, by omega⟩
      case round =>
        obtain ⟨ee, q1, cons, cv, hsum2, rfl, ht, hdm, hq, hsm, hres, hqp1, hd, hb, hzr⟩ := hrel
        clear O1 HT2 HQ2 HR2 hd2 hbt2
        rename World => wr
        have hzw := hb.size
        by_cases hlt : 0 < ee
        · obtain ⟨e1, rfl⟩ : ∃ e1, ee = e1 + 1 := ⟨ee - 1, by omega⟩
          have t5 : decide ((0 : Int) < ((e1 + 1 : Nat) : Int)) = true := decide_eq_true (by omega)
          have hbd3 : Below wr.heap.size wr wr.drew := Below.drew_ (Below.refl _ _)
          have d5 : wr.drew.cell? ⟨w.heap.size + 1, 1, none⟩ = some cv := ht.out.at_ 1 rfl
          have d4 : wr.drew.cell? ⟨w.heap.size + 1, 0, none⟩ = some (.slice A0 doms.length c0) := ht.out.at_ 0 rfl
          have hgw : g < wr.heap.size := by omega
          go_wp2_with fail
          go_region_law (first
            | (refine step_append_any (by rfl) _ _ 24 (by rfl) wb.heap.size 53 i1 _ 5 88 Try.underlying24 hi1 hy0 hy1 hy2 rfl (by omega) cv cons.length uss.flatten (by rfl) ho6.out (some ⟨W6.heap.size, 0, none⟩) 1 [.int .i64 kc.kind, .slice A1 kc.vars.length c1, .slice A2 kc.args.length c2, .int .i64 kc.bound, .slice A3 kc.rows.length c3] (by exact ⟨_, rfl, src_blk (t := 53) (TBlk.new _ _ _) (by simp)⟩) (by simp [Value.oneCell']) (by unfold maxLen; omega) (by omega) (by rw [size_alloc_]; omega) ?_
               intro v1 W7 hown hbw hgr _
               obtain ⟨A7, c7, rfl⟩ := (HoldR.of_own hown).form
               have T7 := TBlk.grown (show (26 : TypeId) ≠ 53 by decide) T6.out ho6.out hgr
               have R7 := TBlk.grown (show (26 : TypeId) ≠ 53 by decide) R6.out ho6.out hgr
               have d7 := T7.at_ 1 rfl
               have f7 := T7.frozen 1)
            | (go_simp
               go_at_call 43
               refine (randomConstraintV base g n c q1 A bs doms.length wr.drew (hd.under hbd3 hgw) (by omega) (by omega) (by omega)).mono ?_
               rintro e W6 ⟨vk, kc, q6, rfl, hoc, hk1, hsmk, hvk, hq6, hd6, hb6⟩
               obtain ⟨usk, rfl, hcr⟩ := OwnCon.read hoc
               obtain ⟨A1, A2, A3, c1, c2, c3, rfl, -⟩ := hcr
               have bq : ButG g wr.heap.size wr W6 := (below_butG hbd3 g).go hb6
               have t6 := ht.out.butG bq (by omega)
               have d6a := t6.at_ 1 rfl
               have d6b := fun o => (t6.on (b_alloc W6 o)).at_ 1 rfl
               have d6c := t6.at_ 0 rfl
               have d6d := fun o => (t6.on (b_alloc W6 o)).at_ 0 rfl
               have bA := b_alloc W6 (.cells #[.int .i64 kc.kind, .slice A1 kc.vars.length c1, .slice A2 kc.args.length c2, .int .i64 kc.bound, .slice A3 kc.rows.length c3] 53)
               have T6 := Lib.hid (t6.on bA)
               have R6 := Lib.hid ((hres.out.butG bq (by omega)).on bA)
               have D6 := Lib.hid ((OwnI.stays 3).below _ _ _ _ _ bA (hdm.out.butG bq hgb))
               obtain ⟨uss, u1, u0, u2, u3, u4⟩ := (OwnK.stays OwnConU.stays).below _ _ _ _ _ bA (OwnK.butG0 (fun u x hx => OwnConU.butG0 hx bq hgb) hq.out bq hgb)
               have HU := Lib.hid (And.intro u1 (And.intro u0 (And.intro u2 u4)))
               have ho6 := Lib.hid u2
               have HC6 := Lib.hid (show OwnConU (W6.alloc (.cells #[.int .i64 kc.kind, .slice A1 kc.vars.length c1, .slice A2 kc.args.length c2, .int .i64 kc.bound, .slice A3 kc.rows.length c3] 53)) wb.heap.size [.int .i64 kc.kind, .slice A1 kc.vars.length c1, .slice A2 kc.args.length c2, .int .i64 kc.bound, .slice A3 kc.rows.length c3] kc from OwnConU.stays.below _ _ _ _ _ bA (OwnConU.stays.base _ _ _ _ _ hzr hoc))
               have z6 := bq.size
               clear u1 u0 u2 u3 u4 t6))
          all_goals
            have hza : (W6.alloc (.cells #[.int .i64 kc.kind, .slice A1 kc.vars.length c1, .slice A2 kc.args.length c2, .int .i64 kc.bound, .slice A3 kc.rows.length c3] 53)).heap.size = W6.heap.size + 1 := size_alloc_ _ _
            have hz7 := hgr.size
            have K1 := Lib.hid (T7.store 1 (.slice A7 (cons.length + 1) c7))
            have K2 := Lib.hid (OwnK.shuns (show (26 : TypeId) ≠ 53 by decide) OwnConU.shunsM _ _ _ _ _ 1 _ _ (.slice A7 (cons.length + 1) c7) T7
              (OwnK.snoc (OwnConU.grows (show (3 : TypeId) ≠ 53 by decide) (show (23 : TypeId) ≠ 53 by decide)) HU.out.1 HU.out.2.1 HU.out.2.2.1 HU.out.2.2.2 HC6.out rfl (by omega) hown hgr))
            have KD := Lib.hid (OwnI.shuns (show (26 : TypeId) ≠ 3 by decide) _ _ _ _ _ 1 _ _ (.slice A7 (cons.length + 1) c7) T7 (OwnI.grown (show (3 : TypeId) ≠ 53 by decide) ho6.out hgr D6.out))
            have K3 := Lib.hid (R7.far (j := 1) (u := (.slice A7 (cons.length + 1) c7)) (show w.heap.size ≠ w.heap.size + 1 by omega))
            have K4 := (((hd6.under bA (by omega)).under hbw hgb).set (b := w.heap.size + 1) (by omega) 1 (.slice A7 (cons.length + 1) c7))
            have K5 : ButG g w.heap.size w (W7.setCell ⟨w.heap.size + 1, 1, none⟩ (.slice A7 (cons.length + 1) c7)) := ((((hb.go bq).trans (below_butG (bA.mono (by have := hb.size; omega)) g)).trans (below_butG (hbw.mono (by have := HSB.out; omega)) g)).trans (below_butG ((Below.refl _ _).setCell (by simp) _) g))
            have KS := Lib.hid (show ∀ k ∈ cons ++ [kc], (SmC k ∧ 1 ≤ k.vars.length) ∧ vconF k (doms.length : Int) = true from fun k hk => by
              rcases List.mem_append.1 hk with h1 | h1
              · exact hsm.out k h1
              · rw [List.mem_singleton.1 h1]; exact ⟨⟨hsmk, hk1⟩, hvk⟩)
            have hfz : (W7.setCell ⟨w.heap.size + 1, 1, none⟩ (.slice A7 (cons.length + 1) c7)).heap.size = W7.heap.size := by simp [World.setCell]
            clear T7 R7 d7 f7 hown hbw hgr d6a d6b d6c d6d d5 d4 hsmk hk1 hvk hoc
            go_wp2_with fail
            go_roundw
            case rel => exact ⟨e1, q6, cons ++ [kc], _, by simp; omega, by go_num, K1, KD, K2, KS, K3, by simp; omega, K4, K5, by omega⟩
            case measure => simp [intOf]
        · obtain rfl : ee = 0 := by omega
          have t5 : decide ((0 : Int) < ((0 : Nat) : Int)) = false := by decide
          obtain ⟨Ac, cc, rfl⟩ := OwnK.form hq.out
          have x0 := ht.out.at_ 0 rfl
          have x1 := ht.out.at_ 1 rfl
          have y0 := hres.out.at_ 0 rfl
          have y1 := hres.out.at_ 1 rfl
          have f0 := hres.out.frozen 0
          have f1 := hres.out.frozen 1
          obtain ⟨wf, hwf⟩ : ∃ wf, wf = (wr.setCell ⟨w.heap.size, 0, none⟩ (.slice A0 doms.length c0)).setCell ⟨w.heap.size, 1, none⟩ (.slice Ac cons.length cc) := ⟨_, rfl⟩
          have R1 := hres.out.store 0 (.slice A0 doms.length c0)
          have TF : TBlk 26 wf w.heap.size #[.slice A0 doms.length c0, .slice Ac cons.length cc] := by rw [hwf]; exact R1.store 1 _
          have OF : OwnMod wf wb.heap.size (.agg #[.slice A0 doms.length c0, .slice Ac cons.length cc]) ⟨doms, cons⟩ := by
            rw [hwf]
            exact ⟨_, _, rfl, OwnI.shuns (show (26 : TypeId) ≠ 3 by decide) _ _ _ _ _ 1 _ _ _ R1 (OwnI.shuns (show (26 : TypeId) ≠ 3 by decide) _ _ _ _ _ 0 _ _ _ hres.out hdm.out), OwnK.shuns (show (26 : TypeId) ≠ 53 by decide) OwnConU.shunsM _ _ _ _ _ 1 _ _ _ R1 (OwnK.shuns (show (26 : TypeId) ≠ 53 by decide) OwnConU.shunsM _ _ _ _ _ 0 _ _ _ hres.out hq.out)⟩
          have DF : Rd wf base g A n c bs q1 := by rw [hwf]; exact (hd.set (b := w.heap.size) (by omega) 0 _).set (b := w.heap.size) (by omega) 1 _
          have BF : ButG g w.heap.size w wf := by rw [hwf]; exact (hb.setHi (b := w.heap.size) (Nat.le_refl _) 0 _).setHi (b := w.heap.size) (Nat.le_refl _) 1 _
          have t0 := TF.at_ 0 rfl
          have t1 := TF.at_ 1 rfl
          have HF := Lib.hid (And.intro OF (And.intro DF (And.intro BF hwf)))
          have HK := Lib.hid (And.intro hsm.out (And.intro hdn.out hsum2))
          clear OF DF BF TF hwf R1 ht hres hq hdm hd hb hsm hdn hsum2
          go_wp2_with fail
          rw [← HF.out.2.2.2]
          refine bodyPost_ret (v := .agg #[.slice A0 doms.length c0, .slice Ac cons.length cc]) ?_ rfl ?_
          · simp [results, Try.results27, go_sem, t0, t1]
          · exact ⟨[.slice A0 doms.length c0, .slice Ac cons.length cc], ⟨doms, cons⟩, q1, rfl, OwnMod.base_ HF.out.1 (by have := HSB.out; omega), by show 1 ≤ doms.length; have := HK.out.2.1; omega, by show doms.length ≤ 4; have := HK.out.2.1; omega, by show cons.length ≤ 4; have := HK.out.2.2; omega, fun k hk => (HK.out.1 k hk).1, vmod_of hdx.out (fun k hk => (HK.out.1 k hk).2) (by have := HK.out.2.1; omega) (by have := HK.out.2.1; omega) (by have := HK.out.2.2; omega), by have := HK.out; omega, HF.out.2.1, HF.out.2.2.1⟩
end Go.Proofs.Ytjpcdbdaimonlaa
/- The reference's copy of a store. -/
namespace Go.Proofs.Ytjpcdbdaimonlaa
open Go.ChangeShapes Go.WideShapes Go.ChangeAt Go.RowKit
open Go.Shelf
set_option linter.unusedVariables false
set_option linter.unusedSimpArgs false
set_option maxRecDepth 100000

set_option maxHeartbeats 8000000 in
theorem scopySto (us : List Value) (s : Sto) (w : World) (h : StoR w w.heap.size us s) (hs : SmSto s) :
    Calls Try.prog 18 #[.agg us.toArray] w fun e w' => ∃ vs : List Value, e = .returned (.agg vs.toArray) ∧ OwnSto w' w.heap.size (.agg vs.toArray) s ∧ Below w.heap.size w w' := by
  obtain ⟨u, v, la, lc, rfl, hm, hl, -⟩ := h
  obtain ⟨s1, s2, s3⟩ := hs
  obtain ⟨da, nd, cd, ca, nc, cc, e2⟩ : ∃ (da : Option Addr) (nd cd : Nat) (ca : Option Addr) (nc cc : Nat), [u, v] = [.slice da nd cd, .slice ca nc cc] := by
    obtain ⟨da, ca, nd, cd, nc, cc, e⟩ := hm.two
    exact ⟨da, nd, cd, ca, nc, cc, e⟩
  simp only [List.cons.injEq, and_true] at e2
  obtain ⟨rfl, rfl⟩ := e2
  obtain ⟨i1, hi1, hy0, hy1, hy2⟩ := info_parts (P := Try.prog) (e := 23) (z := .slice none 0 0) (size := 1) (bytes := 24) (by kernel_rfl)
  obtain ⟨nl, hnl⟩ : ∃ nl, s.levels.length = nl := ⟨_, rfl⟩
  rw [hnl] at hl s2
  rw [hnl]
  obtain ⟨wa, hwa⟩ : ∃ wa, wa = w.alloc (.cells #[.slice da nd cd, .slice ca nc cc, .slice la nl lc] 29) := ⟨_, rfl⟩
  obtain ⟨wb, hwb⟩ : ∃ wb, wb = wa.alloc (.cells #[.slice none 0 0, .slice none 0 0, .slice none 0 0] 29) := ⟨_, rfl⟩
  have hb0 : Below w.heap.size w wa := by rw [hwa]; exact b_alloc _ _
  have hsa : wa.heap.size = w.heap.size + 1 := by rw [hwa, size_alloc_]
  have hb1 : Below wa.heap.size wa wb := by rw [hwb]; exact b_alloc _ _
  have hsb : wb.heap.size = w.heap.size + 1 + 1 := by rw [hwb, size_alloc_, hsa]
  have ha : TBlk 29 wa w.heap.size #[.slice da nd cd, .slice ca nc cc, .slice la nl lc] := by rw [hwa]; exact TBlk.new _ _ _
  have HA := Lib.hid (ha.below_ hb1 (by omega))
  have HR : Hid (TBlk 29 wb (w.heap.size + 1) #[.slice none 0 0, .slice none 0 0, .slice none 0 0]) := by rw [hwb, ← hsa]; exact TBlk.new _ _ _
  have hb01 := bgo hb0 hb1
  have G1 := Lib.hid (ModR.widens _ _ _ _ _ hb01.size (ModR.keeps _ _ _ _ _ (fun p hp => hb01.cell hp) hm))
  have G3 := Lib.hid (SlR.on (RowC.keeps IntC.keeps) (RowC.widens IntC.widens) hl hb01)
  have S4 := Lib.hid s3
  have SM := Lib.hid s1
  have HNL := Lib.hid hnl
  have hA2 : Hid (∀ w', Below wb.heap.size wb w' → w'.cell? ⟨w.heap.size, 2, none⟩ = some (.slice la nl lc)) := fun w' h => (HA.out.below_ h (by omega)).at_ 2 rfl
  have a0 : wb.cell? ⟨w.heap.size, 0, none⟩ = some (.slice da nd cd) := HA.out.at_ 0 rfl
  have a1 : wb.cell? ⟨w.heap.size, 1, none⟩ = some (.slice ca nc cc) := HA.out.at_ 1 rfl
  clear hm hl s1 s3 hnl ha hb0 hb1
  go_enter Try.func18, Try.ntmps18
  go_wp2_with fail
  rw [← hwa, ← hwb]
  clear hwa hwb
  have HSB := Lib.hid hsb
  clear hsb hsa
  go_wp2_with fail
  refine (scopyMod _ s.model _ G1.out SM.out).mono ?_
  rintro e W8 ⟨rs8, rfl, h8, hB8⟩
  obtain ⟨A, n, c, B, kk, d, rfl, -⟩ := OwnModL.shape h8
  have HM8 := Lib.hid h8
  obtain ⟨g3, hg⟩ : ∃ g3, g3 = W8.heap.size := ⟨_, rfl⟩
  have z8 := hB8.size
  clear a0 a1
  go_wp2_with fail
  obtain ⟨W, hW⟩ : ∃ W, W = W8.alloc (.cells #[.slice A n c, .slice B kk d, .slice none 0 0] 29) := ⟨_, rfl⟩
  have HT : Hid (TBlk 29 W g3 #[.slice A n c, .slice B kk d, .slice none 0 0]) := by rw [hW, hg]; exact TBlk.new _ _ _
  have hbW : Below W8.heap.size W8 W := by rw [hW]; exact b_alloc _ _
  have hg3 : W8.heap.size ≤ g3 := by rw [hg]; exact Nat.le_refl _
  rw [← hW, ← hg]
  clear hW hg h8
  go_wp2_with fail
  go_loopw [4] (fun i wr => ∃ (k : Nat) (rv : Value), k ≤ nl ∧ i = .int .i64 k ∧ Hid (TBlk 29 wr g3 #[.slice A n c, .slice B kk d, rv]) ∧ Hid (OwnOf 23 (OwnI 3) wr W8.heap.size rv (s.levels.take k)) ∧ Below W8.heap.size W8 wr) (fun i _ => nl - (intOf i).toNat)
  case atStart => exact ⟨0, _, by omega, rfl, HT, OwnRows.nil0 _ _, hbW⟩
  case round =>
    obtain ⟨k, rv, hk, rfl, ht, hq, hb8⟩ := hrel
    have hz8 := hb8.size
    have hb : Below wb.heap.size wb wr := hB8.trans (hb8.mono z8)
    have hzr := hb.size
    clear hbW HT
    have a4 := hA2.out _ hb
    by_cases hlt : k < nl
    · obtain ⟨ab, ao, row, u, rfl, hab, hxk, hcu, hrw⟩ := SlR.at_ (SlR.below (RowC.keeps IntC.keeps) G3.out hb) hlt
      obtain ⟨A2, d2, rfl, hri⟩ := hrw
      have hr1 := S4.out row (List.mem_of_getElem? hxk)
      have HX := Lib.hid (take_snoc hxk)
      have hlk : (s.levels.take k).length = k := by have := (List.getElem?_eq_some_iff.1 hxk).1; rw [List.length_take]; omega
      have HLK := Lib.hid hlk
      have hbd3 : Below wr.heap.size wr wr.drew := Below.drew_ (Below.refl _ _)
      have HRI := Lib.hid (IntR.on (hri.more IntC.widens hzr) hbd3)
      have hcu' : wr.drew.cell? ⟨ab, ao + k, none⟩ = some (.slice A2 row.length d2) := hcu
      have a4' : wr.drew.cell? ⟨w.heap.size, 2, none⟩ = some (.slice (some ⟨ab, ao, none⟩) nl lc) := a4
      have d5 : wr.drew.cell? ⟨g3, 2, none⟩ = some rv := ht.out.at_ 2 rfl
      clear hxk hri hlk
      go_wp2_with fail
      go_region_law (first
        | (refine step_append_any (by rfl) _ _ 27 (by rfl) W8.heap.size 23 i1 _ 1 24 Try.underlying27 hi1 hy0 hy1 hy2 rfl (by omega) rv k us (by rfl) ho6.out (some ⟨W6.heap.size, 0, none⟩) 1 [.slice A6 row.length d6] (by exact ⟨_, rfl, .inr ⟨_, rfl, rfl, cell_one_new _ _ _⟩⟩) (by simp [Value.oneCell']) (by unfold maxLen; omega) (by omega) (by rw [size_alloc_]; omega) ?_
           intro v1 W7 hown hbw hgr _
           obtain ⟨A7, c7, rfl⟩ := (HoldR.of_own hown).form
           have T7 : TBlk 29 W7 g3 #[.slice A n c, .slice B kk d, rv] := (hgr.block g3 T6.out.lt (own_blk (show (29 : TypeId) ≠ 23 by decide) ho6.out T6.out)).trans T6.out
           have d7 := T7.at_ 2 rfl
           have f7 := T7.frozen 2)
        | (go_simp
           go_at_call 35
           refine (scopy0 A2 row.length d2 row _ HRI.out hr1).mono ?_
           rintro e W6 ⟨v6, rfl, h6, hB6⟩
           obtain ⟨A6, d6, rfl⟩ := h6.form
           have b6 := bgo hbd3 hB6
           have d6a := (ht.out.below_ b6 ht.out.lt).at_ 2 rfl
           have d6b := fun o => ((ht.out.below_ b6 ht.out.lt).on (b_alloc W6 o)).at_ 2 rfl
           obtain ⟨us, u1, u2, u3, u4⟩ := (OwnOf.stays (OwnI.stays 3)).below _ _ _ _ _ (b_alloc W6 (.cells #[.slice A6 row.length d6] 23)) ((OwnOf.stays (OwnI.stays 3)).below _ _ _ _ _ b6 hq.out)
           have HU := Lib.hid (And.intro u1 (And.intro u2 u4))
           rw [HLK.out] at u2
           have ho6 := Lib.hid u2
           have H6 := Lib.hid ((OwnI.stays 3).below _ _ _ _ _ (b_alloc W6 (.cells #[.slice A6 row.length d6] 23)) ((OwnI.stays 3).base _ _ _ _ _ (Nat.le_trans hz8 hbd3.size) h6))
           have T6 := Lib.hid ((ht.out.below_ b6 ht.out.lt).on (b_alloc W6 (.cells #[.slice A6 row.length d6] 23)))
           have zz6 : W8.heap.size ≤ W6.heap.size := Nat.le_trans hz8 b6.size
           clear u1 u2 u3 u4 h6))
      all_goals
        have K1 := Lib.hid (T7.store 2 (.slice A7 (k + 1) c7))
        have K2 : Hid (OwnOf 23 (OwnI 3) (W7.setCell ⟨g3, 2, none⟩ (.slice A7 (k + 1) c7)) W8.heap.size (.slice A7 (k + 1) c7) (s.levels.take (k + 1))) := by
          show OwnOf _ _ _ _ _ _
          rw [HX.out]
          exact OwnOf.shuns (show (29 : TypeId) ≠ 23 by decide) (OwnI.shuns (show (29 : TypeId) ≠ 3 by decide)) _ _ _ _ _ 2 _ _ _ T7
            (OwnRows.snoc (show (3 : TypeId) ≠ 23 by decide) HU.out.1 HU.out.2.1 HU.out.2.2 H6.out (by rw [HLK.out]; omega) (by rw [HLK.out]; exact hown) hgr)
        have K5 : Below W8.heap.size W8 (W7.setCell ⟨g3, 2, none⟩ (.slice A7 (k + 1) c7)) := (((hb8.trans (b6.mono hz8)).trans ((b_alloc W6 (.cells #[.slice A6 row.length d6] 23)).mono zz6)).trans hbw).setCell hg3 _
        clear T7 d7 f7 hown hbw hgr
        go_wp2_with fail
        go_roundw
        case rel => exact ⟨k + 1, _, by omega, by go_num, K1, K2, K5⟩
        case measure => simp [intOf]; omega
    · obtain rfl : k = nl := by omega
      have htk : s.levels.take k = s.levels := by rw [← HNL.out, List.take_length]
      rw [htk] at hq
      obtain ⟨us, -, hu2, -⟩ := id hq.out
      obtain ⟨A7, c7, hrv⟩ := hq.out.form
      rw [HNL.out] at hrv
      subst hrv
      have hcap := own_cap hu2
      have b0 := ht.out.at_ 0 rfl
      have b1 := ht.out.at_ 1 rfl
      have b2 := ht.out.at_ 2 rfl
      have hq0 := HR.out.below_ hb (by have := HSB.out; omega)
      have p0 := hq0.at_ 0 rfl
      have p1 := hq0.at_ 1 rfl
      have p2 := hq0.at_ 2 rfl
      have f0 := hq0.frozen 0
      have f1 := hq0.frozen 1
      have f2 := hq0.frozen 2
      clear htk hu2
      go_wp2_with fail
      obtain ⟨WF, hWF⟩ : ∃ WF, WF = ((wr.setCell ⟨w.heap.size + 1, 0, none⟩ (.slice A n c)).setCell ⟨w.heap.size + 1, 1, none⟩ (.slice B kk d)).setCell ⟨w.heap.size + 1, 2, none⟩ (.slice A7 k c7) := ⟨_, rfl⟩
      have hqf : TBlk 29 WF (w.heap.size + 1) #[.slice A n c, .slice B kk d, .slice A7 k c7] := by
        rw [hWF]
        exact ((hq0.store 0 _).store 1 _).store 2 _
      have hzw : w.heap.size + 1 < W8.heap.size := by have := HSB.out; omega
      have hap : Apart W8.heap.size wr WF := by
        rw [hWF]
        exact (((Apart.refl _ _).set hzw 0 _).set hzw 1 _).set hzw 2 _
      have hap0 : Apart wb.heap.size wr WF := by
        rw [hWF]
        have := HSB.out
        exact (((Apart.refl _ _).set (by omega) 0 _).set (by omega) 1 _).set (by omega) 2 _
      have hbf : Below w.heap.size w WF := by
        rw [hWF]
        refine (hb01.trans (hb.mono (by have := HSB.out; omega))).trans ?_
        repeat' (first | exact Below.refl _ _ | refine Below.setCell ?_ (by simp) _)
      have hfin : OwnSto WF w.heap.size (.agg #[.slice A n c, .slice B kk d, .slice A7 k c7]) s :=
        ⟨_, _, _, rfl, OwnMod.base_ (OwnMod.apart (OwnMod.below HM8.out hb8) hap0) (by have := HSB.out; omega), (OwnOf.stays (OwnI.stays 3)).base _ _ _ _ _ (by omega) (OwnRows.apart hq.out hap)⟩
      have FIN := Lib.hid (And.intro hfin hbf)
      rw [← hWF]
      have r0 := hqf.at_ 0 rfl
      have r1 := hqf.at_ 1 rfl
      have r2 := hqf.at_ 2 rfl
      clear hfin hbf hap hqf hq0 hWF
      go_wp2_with fail
      exact bodyPost_ret (v := .agg #[.slice A n c, .slice B kk d, .slice A7 k c7]) (by simp [results, Try.results18, go_sem, r0, r1, r2]) rfl ⟨[.slice A n c, .slice B kk d, .slice A7 k c7], rfl, FIN.out.1, FIN.out.2⟩
end Go.Proofs.Ytjpcdbdaimonlaa
/- The reference's copy of a store: the model's blocks are not the levels'. -/
namespace Go.Proofs.Ytjpcdbdaimonlaa
open Go.ChangeShapes Go.WideShapes Go.ChangeAt Go.RowKit
open Go.Shelf
set_option linter.unusedVariables false
set_option linter.unusedSimpArgs false
set_option maxRecDepth 100000

/-- A fresh store whose levels lie above its model. -/
def StoX (w : World) (base : Nat) (dv cv lv : Value) (s : Sto) : Prop := ∃ (WM : World) (b : Nat), OwnMod WM b (.agg #[dv, cv]) s.model ∧ base ≤ b ∧ b ≤ WM.heap.size ∧ Apart b WM w ∧ OwnOf 23 (OwnI 3) w WM.heap.size lv s.levels
theorem Apart.low {b : Nat} {WM W2 W' : World} (h : Apart b WM W2) (hb : Below WM.heap.size W2 W') : Apart b WM W' :=
  ⟨Nat.le_trans h.1 hb.size, fun g h1 h2 => (hb.block g h2).trans (h.2 g h1 h2)⟩
theorem StoX.own {w : World} {base : Nat} {dv cv lv : Value} {s : Sto} (h : StoX w base dv cv lv s) : OwnSto w base (.agg #[dv, cv, lv]) s := by
  obtain ⟨WM, b, h1, h2, h3, h4, h5⟩ := h
  exact ⟨_, _, _, rfl, (OwnMod.apart h1 h4).base_ h2, (OwnOf.stays (OwnI.stays 3)).base _ _ _ _ _ (Nat.le_trans h2 h3) h5⟩
set_option maxHeartbeats 8000000 in
theorem scopyStoX (us : List Value) (s : Sto) (w : World) (h : StoR w w.heap.size us s) (hs : SmSto s) :
    Calls Try.prog 18 #[.agg us.toArray] w fun e w' => ∃ (dv cv lv : Value), e = .returned (.agg #[dv, cv, lv]) ∧ StoX w' w.heap.size dv cv lv s ∧ Below w.heap.size w w' := by
  obtain ⟨u, v, la, lc, rfl, hm, hl, -⟩ := h
  obtain ⟨s1, s2, s3⟩ := hs
  obtain ⟨da, nd, cd, ca, nc, cc, e2⟩ : ∃ (da : Option Addr) (nd cd : Nat) (ca : Option Addr) (nc cc : Nat), [u, v] = [.slice da nd cd, .slice ca nc cc] := by
    obtain ⟨da, ca, nd, cd, nc, cc, e⟩ := hm.two
    exact ⟨da, nd, cd, ca, nc, cc, e⟩
  simp only [List.cons.injEq, and_true] at e2
  obtain ⟨rfl, rfl⟩ := e2
  obtain ⟨i1, hi1, hy0, hy1, hy2⟩ := info_parts (P := Try.prog) (e := 23) (z := .slice none 0 0) (size := 1) (bytes := 24) (by kernel_rfl)
  obtain ⟨nl, hnl⟩ : ∃ nl, s.levels.length = nl := ⟨_, rfl⟩
  rw [hnl] at hl s2
  rw [hnl]
  obtain ⟨wa, hwa⟩ : ∃ wa, wa = w.alloc (.cells #[.slice da nd cd, .slice ca nc cc, .slice la nl lc] 29) := ⟨_, rfl⟩
  obtain ⟨wb, hwb⟩ : ∃ wb, wb = wa.alloc (.cells #[.slice none 0 0, .slice none 0 0, .slice none 0 0] 29) := ⟨_, rfl⟩
  have hb0 : Below w.heap.size w wa := by rw [hwa]; exact b_alloc _ _
  have hsa : wa.heap.size = w.heap.size + 1 := by rw [hwa, size_alloc_]
  have hb1 : Below wa.heap.size wa wb := by rw [hwb]; exact b_alloc _ _
  have hsb : wb.heap.size = w.heap.size + 1 + 1 := by rw [hwb, size_alloc_, hsa]
  have ha : TBlk 29 wa w.heap.size #[.slice da nd cd, .slice ca nc cc, .slice la nl lc] := by rw [hwa]; exact TBlk.new _ _ _
  have HA := Lib.hid (ha.below_ hb1 (by omega))
  have HR : Hid (TBlk 29 wb (w.heap.size + 1) #[.slice none 0 0, .slice none 0 0, .slice none 0 0]) := by rw [hwb, ← hsa]; exact TBlk.new _ _ _
  have hb01 := bgo hb0 hb1
  have G1 := Lib.hid (ModR.widens _ _ _ _ _ hb01.size (ModR.keeps _ _ _ _ _ (fun p hp => hb01.cell hp) hm))
  have G3 := Lib.hid (SlR.on (RowC.keeps IntC.keeps) (RowC.widens IntC.widens) hl hb01)
  have S4 := Lib.hid s3
  have SM := Lib.hid s1
  have HNL := Lib.hid hnl
  have hA2 : Hid (∀ w', Below wb.heap.size wb w' → w'.cell? ⟨w.heap.size, 2, none⟩ = some (.slice la nl lc)) := fun w' h => (HA.out.below_ h (by omega)).at_ 2 rfl
  have a0 : wb.cell? ⟨w.heap.size, 0, none⟩ = some (.slice da nd cd) := HA.out.at_ 0 rfl
  have a1 : wb.cell? ⟨w.heap.size, 1, none⟩ = some (.slice ca nc cc) := HA.out.at_ 1 rfl
  clear hm hl s1 s3 hnl ha hb0 hb1
  go_enter Try.func18, Try.ntmps18
  go_wp2_with fail
  rw [← hwa, ← hwb]
  clear hwa hwb
  have HSB := Lib.hid hsb
  clear hsb hsa
  go_wp2_with fail
  refine (scopyMod _ s.model _ G1.out SM.out).mono ?_
  rintro e W8 ⟨rs8, rfl, h8, hB8⟩
  obtain ⟨A, n, c, B, kk, d, rfl, -⟩ := OwnModL.shape h8
  have HM8 := Lib.hid h8
  obtain ⟨g3, hg⟩ : ∃ g3, g3 = W8.heap.size := ⟨_, rfl⟩
  have z8 := hB8.size
  clear a0 a1
  go_wp2_with fail
  obtain ⟨W, hW⟩ : ∃ W, W = W8.alloc (.cells #[.slice A n c, .slice B kk d, .slice none 0 0] 29) := ⟨_, rfl⟩
  have HT : Hid (TBlk 29 W g3 #[.slice A n c, .slice B kk d, .slice none 0 0]) := by rw [hW, hg]; exact TBlk.new _ _ _
  have hbW : Below W8.heap.size W8 W := by rw [hW]; exact b_alloc _ _
  have hg3 : W8.heap.size ≤ g3 := by rw [hg]; exact Nat.le_refl _
  rw [← hW, ← hg]
  clear hW hg h8
  go_wp2_with fail
  go_loopw [4] (fun i wr => ∃ (k : Nat) (rv : Value), k ≤ nl ∧ i = .int .i64 k ∧ Hid (TBlk 29 wr g3 #[.slice A n c, .slice B kk d, rv]) ∧ Hid (OwnOf 23 (OwnI 3) wr W8.heap.size rv (s.levels.take k)) ∧ Below W8.heap.size W8 wr) (fun i _ => nl - (intOf i).toNat)
  case atStart => exact ⟨0, _, by omega, rfl, HT, OwnRows.nil0 _ _, hbW⟩
  case round =>
    obtain ⟨k, rv, hk, rfl, ht, hq, hb8⟩ := hrel
    have hz8 := hb8.size
    have hb : Below wb.heap.size wb wr := hB8.trans (hb8.mono z8)
    have hzr := hb.size
    clear hbW HT
    have a4 := hA2.out _ hb
    by_cases hlt : k < nl
    · obtain ⟨ab, ao, row, u, rfl, hab, hxk, hcu, hrw⟩ := SlR.at_ (SlR.below (RowC.keeps IntC.keeps) G3.out hb) hlt
      obtain ⟨A2, d2, rfl, hri⟩ := hrw
      have hr1 := S4.out row (List.mem_of_getElem? hxk)
      have HX := Lib.hid (take_snoc hxk)
      have hlk : (s.levels.take k).length = k := by have := (List.getElem?_eq_some_iff.1 hxk).1; rw [List.length_take]; omega
      have HLK := Lib.hid hlk
      have hbd3 : Below wr.heap.size wr wr.drew := Below.drew_ (Below.refl _ _)
      have HRI := Lib.hid (IntR.on (hri.more IntC.widens hzr) hbd3)
      have hcu' : wr.drew.cell? ⟨ab, ao + k, none⟩ = some (.slice A2 row.length d2) := hcu
      have a4' : wr.drew.cell? ⟨w.heap.size, 2, none⟩ = some (.slice (some ⟨ab, ao, none⟩) nl lc) := a4
      have d5 : wr.drew.cell? ⟨g3, 2, none⟩ = some rv := ht.out.at_ 2 rfl
      clear hxk hri hlk
      go_wp2_with fail
      go_region_law (first
        | (refine step_append_any (by rfl) _ _ 27 (by rfl) W8.heap.size 23 i1 _ 1 24 Try.underlying27 hi1 hy0 hy1 hy2 rfl (by omega) rv k us (by rfl) ho6.out (some ⟨W6.heap.size, 0, none⟩) 1 [.slice A6 row.length d6] (by exact ⟨_, rfl, .inr ⟨_, rfl, rfl, cell_one_new _ _ _⟩⟩) (by simp [Value.oneCell']) (by unfold maxLen; omega) (by omega) (by rw [size_alloc_]; omega) ?_
           intro v1 W7 hown hbw hgr _
           obtain ⟨A7, c7, rfl⟩ := (HoldR.of_own hown).form
           have T7 : TBlk 29 W7 g3 #[.slice A n c, .slice B kk d, rv] := (hgr.block g3 T6.out.lt (own_blk (show (29 : TypeId) ≠ 23 by decide) ho6.out T6.out)).trans T6.out
           have d7 := T7.at_ 2 rfl
           have f7 := T7.frozen 2)
        | (go_simp
           go_at_call 35
           refine (scopy0 A2 row.length d2 row _ HRI.out hr1).mono ?_
           rintro e W6 ⟨v6, rfl, h6, hB6⟩
           obtain ⟨A6, d6, rfl⟩ := h6.form
           have b6 := bgo hbd3 hB6
           have d6a := (ht.out.below_ b6 ht.out.lt).at_ 2 rfl
           have d6b := fun o => ((ht.out.below_ b6 ht.out.lt).on (b_alloc W6 o)).at_ 2 rfl
           obtain ⟨us, u1, u2, u3, u4⟩ := (OwnOf.stays (OwnI.stays 3)).below _ _ _ _ _ (b_alloc W6 (.cells #[.slice A6 row.length d6] 23)) ((OwnOf.stays (OwnI.stays 3)).below _ _ _ _ _ b6 hq.out)
           have HU := Lib.hid (And.intro u1 (And.intro u2 u4))
           rw [HLK.out] at u2
           have ho6 := Lib.hid u2
           have H6 := Lib.hid ((OwnI.stays 3).below _ _ _ _ _ (b_alloc W6 (.cells #[.slice A6 row.length d6] 23)) ((OwnI.stays 3).base _ _ _ _ _ (Nat.le_trans hz8 hbd3.size) h6))
           have T6 := Lib.hid ((ht.out.below_ b6 ht.out.lt).on (b_alloc W6 (.cells #[.slice A6 row.length d6] 23)))
           have zz6 : W8.heap.size ≤ W6.heap.size := Nat.le_trans hz8 b6.size
           clear u1 u2 u3 u4 h6))
      all_goals
        have K1 := Lib.hid (T7.store 2 (.slice A7 (k + 1) c7))
        have K2 : Hid (OwnOf 23 (OwnI 3) (W7.setCell ⟨g3, 2, none⟩ (.slice A7 (k + 1) c7)) W8.heap.size (.slice A7 (k + 1) c7) (s.levels.take (k + 1))) := by
          show OwnOf _ _ _ _ _ _
          rw [HX.out]
          exact OwnOf.shuns (show (29 : TypeId) ≠ 23 by decide) (OwnI.shuns (show (29 : TypeId) ≠ 3 by decide)) _ _ _ _ _ 2 _ _ _ T7
            (OwnRows.snoc (show (3 : TypeId) ≠ 23 by decide) HU.out.1 HU.out.2.1 HU.out.2.2 H6.out (by rw [HLK.out]; omega) (by rw [HLK.out]; exact hown) hgr)
        have K5 : Below W8.heap.size W8 (W7.setCell ⟨g3, 2, none⟩ (.slice A7 (k + 1) c7)) := (((hb8.trans (b6.mono hz8)).trans ((b_alloc W6 (.cells #[.slice A6 row.length d6] 23)).mono zz6)).trans hbw).setCell hg3 _
        clear T7 d7 f7 hown hbw hgr
        go_wp2_with fail
        go_roundw
        case rel => exact ⟨k + 1, _, by omega, by go_num, K1, K2, K5⟩
        case measure => simp [intOf]; omega
    · obtain rfl : k = nl := by omega
      have htk : s.levels.take k = s.levels := by rw [← HNL.out, List.take_length]
      rw [htk] at hq
      obtain ⟨us, -, hu2, -⟩ := id hq.out
      obtain ⟨A7, c7, hrv⟩ := hq.out.form
      rw [HNL.out] at hrv
      subst hrv
      have hcap := own_cap hu2
      have b0 := ht.out.at_ 0 rfl
      have b1 := ht.out.at_ 1 rfl
      have b2 := ht.out.at_ 2 rfl
      have hq0 := HR.out.below_ hb (by have := HSB.out; omega)
      have p0 := hq0.at_ 0 rfl
      have p1 := hq0.at_ 1 rfl
      have p2 := hq0.at_ 2 rfl
      have f0 := hq0.frozen 0
      have f1 := hq0.frozen 1
      have f2 := hq0.frozen 2
      clear htk hu2
      go_wp2_with fail
      obtain ⟨WF, hWF⟩ : ∃ WF, WF = ((wr.setCell ⟨w.heap.size + 1, 0, none⟩ (.slice A n c)).setCell ⟨w.heap.size + 1, 1, none⟩ (.slice B kk d)).setCell ⟨w.heap.size + 1, 2, none⟩ (.slice A7 k c7) := ⟨_, rfl⟩
      have hqf : TBlk 29 WF (w.heap.size + 1) #[.slice A n c, .slice B kk d, .slice A7 k c7] := by
        rw [hWF]
        exact ((hq0.store 0 _).store 1 _).store 2 _
      have hzw : w.heap.size + 1 < W8.heap.size := by have := HSB.out; omega
      have hap : Apart W8.heap.size wr WF := by
        rw [hWF]
        exact (((Apart.refl _ _).set hzw 0 _).set hzw 1 _).set hzw 2 _
      have hap0 : Apart wb.heap.size wr WF := by
        rw [hWF]
        have := HSB.out
        exact (((Apart.refl _ _).set (by omega) 0 _).set (by omega) 1 _).set (by omega) 2 _
      have hbf : Below w.heap.size w WF := by
        rw [hWF]
        refine (hb01.trans (hb.mono (by have := HSB.out; omega))).trans ?_
        repeat' (first | exact Below.refl _ _ | refine Below.setCell ?_ (by simp) _)
      have hfin : StoX WF w.heap.size (.slice A n c) (.slice B kk d) (.slice A7 k c7) s :=
        ⟨W8, wb.heap.size, HM8.out, by have := HSB.out; omega, z8, ⟨Nat.le_trans hb8.size hap0.1, fun g h1 h2 => (hap0.2 g h1 (Nat.lt_of_lt_of_le h2 hb8.size)).trans (hb8.block g h2)⟩, OwnRows.apart hq.out hap⟩
      have FIN := Lib.hid (And.intro hfin hbf)
      rw [← hWF]
      have r0 := hqf.at_ 0 rfl
      have r1 := hqf.at_ 1 rfl
      have r2 := hqf.at_ 2 rfl
      clear hfin hbf hap hqf hq0 hWF
      go_wp2_with fail
      exact bodyPost_ret (v := .agg #[.slice A n c, .slice B kk d, .slice A7 k c7]) (by simp [results, Try.results18, go_sem, r0, r1, r2]) rfl ⟨.slice A n c, .slice B kk d, .slice A7 k c7, rfl, FIN.out.1, FIN.out.2⟩
end Go.Proofs.Ytjpcdbdaimonlaa
/- Solutions of a model, by the program. -/
namespace Go.Proofs.Ytjpcdbdaimonlaa
open Go.ChangeShapes Go.WideShapes Go.ChangeAt Go.RowKit
open Go.Shelf
set_option linter.unusedVariables false
set_option maxRecDepth 100000

def holdF (c : Con) (xs : List Int) : Bool := satF c (wordF c.vars xs)
theorem vcon_vars {c : Con} {n : Nat} (h : vconF c n = true) (h4 : n ≤ 4) : (1 ≤ c.vars.length ∧ c.vars.length ≤ n) ∧ (∀ v ∈ c.vars, 0 ≤ v ∧ v < (n : Int)) ∧ fitsF c = true := by
  unfold vconF at h
  simp only [Bool.and_eq_true, List.all_eq_true] at h
  have h1 := inB_true h.1
  refine ⟨by omega, fun v hv => ?_, h.2.2.2⟩
  have h2 := inB_true (h.2.1 v hv)
  rw [IntWalk.wrap64_in _ ⟨by omega, by omega⟩] at h2
  omega
theorem SatOk.of {c : Con} {n : Nat} {xs : List Int} (h : vconF c n = true) (h4 : n ≤ 4) (hl : xs.length = n) (hx : ∀ v ∈ xs, 0 ≤ v ∧ v ≤ 5) : SatOk c (wordF c.vars xs) := by
  obtain ⟨h1, h2, h3⟩ := vcon_vars h h4
  refine ⟨wordF_len _ _, by rw [wordF_len]; omega, by rw [wordF_len]; omega, fun v hv => ?_, h3⟩
  unfold wordF at hv
  obtain ⟨u, hu, rfl⟩ := List.mem_map.1 hv
  have := h2 u hu
  exact hx _ (gat_in (by omega))
/-- what a walk over valid models knows. -/
structure ModOk (m : Mod) : Prop where
  doms : ∀ d ∈ m.doms, 0 ≤ d ∧ d ≤ 63
  cons : ∀ c ∈ m.cons, vconF c m.doms.length = true
  one : 1 ≤ m.doms.length
  four : m.doms.length ≤ 4
  six : m.cons.length ≤ 6
theorem ModOk.of {m : Mod} (h : vmodF m = true) : ModOk m := by
  unfold vmodF at h
  simp only [Bool.and_eq_true, List.all_eq_true, decide_eq_true_eq] at h
  have h3 := inB_true h.2.2.1
  exact ⟨fun d hd => inB_true (h.1 d hd), h.2.1, by omega, by omega, by have := h.2.2.2; omega⟩
end Go.Proofs.Ytjpcdbdaimonlaa
/- IsEntailed. -/
namespace Go.Proofs.Ytjpcdbdaimonlaa
open Go.ChangeShapes Go.WideShapes Go.ChangeAt Go.RowKit
open Go.Shelf
set_option linter.unusedVariables false
set_option maxRecDepth 100000
attribute [local go_sem] Oper.semAt_some

set_option maxHeartbeats 4000000 in
theorem svalidDomainsF (A : Option Addr) (n c : Nat) (xs : List Int) (w : World) (h : IntR w w.heap.size A n xs) :
    Calls Try.prog 32 #[.slice A n c] w fun e w' => e = .returned (.bool (dokF xs)) ∧ w = w' := by
  have hn := h.le
  have hl := Lib.hid h.len
  go_enter Try.func32, Try.ntmps32
  go_wp2_with fail
  go_loop [3] (fun i => ∃ k : Nat, k ≤ n ∧ i = .int .i64 k ∧ Hid (AllB vdB xs k)) (fun i => n - (intOf i).toNat)
  case atStart => exact ⟨0, by omega, rfl, AllB.zero _ _⟩
  case round =>
    obtain ⟨k, hk, rfl, hq⟩ := hrel
    by_cases hlt : k < n
    · obtain ⟨ab, ao, x, rfl, hab, hxk, hcx⟩ := IntR.at_ h hlt
      have HXK := Lib.hid hxk
      clear hxk
      go_wp2_with fail
      refine (svalidDomain _ _).mono ?_
      rintro e w' ⟨rfl, rfl⟩
      cases hv : vdB x
      · have HE := Lib.hid (show dokF xs = false by unfold dokF; rw [show (xs.all fun x => inB x 0 63) = xs.all vdB from rfl, all_no (f := vdB) HXK.out hv]; simp)
        clear hv
        go_wp2_with fail
        go_ret
        exact ⟨ret_bool HE.out.symm, rfl⟩
      · have HV := Lib.hid hv
        clear hv
        go_wp2_with fail
        go_round
        case rel => exact ⟨k + 1, by omega, by go_num, AllB.succ hq.out HXK.out HV.out⟩
        case measure => simp [intOf]; omega
    · obtain rfl : k = n := by omega
      have HE := Lib.hid (show dokF xs = inB k 1 4 by unfold dokF; rw [show (xs.all fun x => inB x 0 63) = xs.all vdB from rfl, AllB.done hq.out (Nat.le_of_eq hl.out), hl.out]; simp)
      go_wp2_with fail
      refine (inRange _ _ _ _).mono ?_
      rintro e w' ⟨rfl, rfl⟩
      go_wp2_with fail
      go_ret
      exact ⟨ret_bool HE.out.symm, rfl⟩
theorem svalidDomainsF_b (A : Option Addr) (n c : Nat) (xs : List Int) (w : World) (b : Bool) (hb : dokF xs = b) (h : IntR w w.heap.size A n xs) :
    Calls Try.prog 32 #[.slice A n c] w fun e w' => e = .returned (.bool b) ∧ w = w' := by
  subst hb; exact svalidDomainsF A n c xs w h
/-- all tuples satisfy c. -/
def entF (c : Con) (ds : List Int) : Bool := (allT (wordF c.vars ds)).all (satF c)
def ientF (c : Con) (ds : List Int) : Bool := dokF ds && (vconF c ds.length && entF c ds)
theorem dok_parts {ds : List Int} (h : dokF ds = true) : 1 ≤ ds.length ∧ ds.length ≤ 4 ∧ Doms ds := by
  unfold dokF at h
  simp only [Bool.and_eq_true, List.all_eq_true] at h
  have := inB_true h.1
  exact ⟨by omega, by omega, fun x hx => inB_true (h.2 x hx)⟩
theorem word_doms {vars ds : List Int} (hv : ∀ v ∈ vars, 0 ≤ v ∧ v < (ds.length : Int)) (h : Doms ds) : Doms (wordF vars ds) := by
  intro x hx
  unfold wordF at hx
  obtain ⟨u, hu, rfl⟩ := List.mem_map.1 hx
  have := hv u hu
  exact h _ (gat_in (by omega))
theorem sat_tup {c : Con} {n : Nat} {ds t : List Int} (hv : vconF c n = true) (h4 : n ≤ 4) (ht : t ∈ allT (wordF c.vars ds)) : SatOk c t ∧ t.length = c.vars.length := by
  obtain ⟨h1, h2, h3⟩ := vcon_vars hv h4
  obtain ⟨hl, hm⟩ := mem_allT.1 ht
  rw [wordF_len] at hl
  refine ⟨⟨hl, by omega, by omega, fun v hv => ?_, h3⟩, hl⟩
  obtain ⟨k, hk, e⟩ := List.getElem_of_mem hv
  have := hm k (gat (wordF c.vars ds) k) v (by rw [gat_eq (List.getElem?_eq_getElem (by rw [wordF_len]; omega))]; exact List.getElem?_eq_getElem _) (by rw [List.getElem?_eq_getElem hk, e])
  omega
theorem results_cell1 {fn : Func} {p : Tmp} {ty : TypeId} (h : fn.results = #[.cell p ty]) (tmps : Array Value) (w : World) (a : Addr) (v : Value) (hp : tmps.getD p undef = .pointer (some a)) (hd : ∀ w, (isAgg ty).run Try.prog w = .ok false w) (hl : w.cell? a = some v) :
    (results fn tmps).run Try.prog w = .ok v w := by
  have hp' : tmps[p]?.getD undef = .pointer (some a) := by simpa using hp
  simp [results, h, hp', asAddr, loadVar, Sem.run_bind, hd, run_load, hl, Result.andThen]
theorem intR_blk {w : World} {g m : Nat} {cs : Array Value} {t : List Int} (hb : TBlk 3 w g cs) (hc : ∀ (j : Nat) v, t[j]? = some v → cs[j]? = some (.int .i64 v)) (hl : t.length = m) (hm : m ≤ 4) : IntR w w.heap.size (some ⟨g, 0, none⟩) m t :=
  ⟨hl, by omega, fun _ => ⟨g, 0, rfl, hb.lt, fun k x hx => ⟨_, by rw [Nat.zero_add]; exact hb.at_ k (hc k x hx), rfl⟩⟩⟩
end Go.Proofs.Ytjpcdbdaimonlaa
/- When values satisfy a constraint, by the reference. -/
namespace Go.Proofs.Ytjpcdbdaimonlaa
open Go.ChangeShapes Go.WideShapes Go.ChangeAt Go.RowKit
open Go.Shelf
set_option linter.unusedVariables false
set_option maxRecDepth 100000

set_option maxHeartbeats 4000000 in
theorem shasRow (A B : Option Addr) (n m c d : Nat) (rows : List (List Int)) (xs : List Int) (w : World) (h : RowsR w w.heap.size A n rows) (hx : IntR w w.heap.size B m xs) (hr : ∀ r ∈ rows, r.length = m) :
    Calls Try.prog 78 #[.slice A n c, .slice B m d] w fun e w' => e = .returned (.bool (hasF rows xs)) ∧ Below w.heap.size w w' := by
  have hn := h.le
  have hm := hx.le
  have hl := Lib.hid h.len
  have hlx := Lib.hid hx.len
  have HR := Lib.hid hr
  clear hr
  go_enter Try.func78, Try.ntmps78
  go_wp2_with fail
  go_loopw [5] (fun i wr => ∃ k : Nat, k ≤ n ∧ i = .int .i64 k ∧ Hid (AllB (fun r => !decide (r = xs)) rows k) ∧ Below w.heap.size w wr) (fun i _ => n - (intOf i).toNat)
  case atStart => exact ⟨0, by omega, rfl, AllB.zero _ _, Below.refl _ _⟩
  case round =>
    obtain ⟨k, hk, rfl, hq, hb⟩ := hrel
    rename World => wo
    by_cases hlt : k < n
    · obtain ⟨rb, ro, r, u, rfl, hrb, hrk, hcr0, A1, c1, rfl, hr0⟩ := SlR.at_ (h.below (RowC.keeps IntC.keeps) hb) hlt
      have hlr := HR.out r (List.mem_of_getElem? hrk)
      have HRK := Lib.hid hrk
      have HLR := Lib.hid hlr
      have HR0 := Lib.hid (hr0.more IntC.widens hb.size)
      rw [hlr] at hcr0
      have HCR := Lib.hid hcr0
      clear hrk hlr hr0 hcr0
      go_wp2_with fail
      go_loopw [6, 7] (fun t i wr => ∃ j : Nat, j ≤ m ∧ i = .int .i64 j ∧ t = .bool (eqTo r xs j) ∧ Below wo.heap.size wo wr) (fun _ i _ => m - (intOf i).toNat)
      case atStart => exact ⟨0, by omega, rfl, rfl, Below.refl _ _⟩
      case round =>
        obtain ⟨j, hj, rfl, rfl, hb2⟩ := hrel
        have hbb := bgo hb hb2
        by_cases hlt2 : j < m
        · have hcr : wr.cell? ⟨rb, ro + k, none⟩ = some (.slice A1 m c1) := (hb2.cell (p := ⟨rb, ro + k, none⟩) (by show rb < _; have := hb.size; omega)).trans HCR.out
          obtain ⟨ab, ao, a, rfl, hab, hak, hca⟩ := IntR.at_ (k := j) (HR0.out.below IntC.keeps hb2) (by have := HLR.out; omega)
          obtain ⟨bb, bo, b, rfl, hbb2, hbk, hcb⟩ := IntR.at_ (k := j) (hx.below IntC.keeps hbb) hlt2
          have HS := Lib.hid (eqTo_eq hak hbk)
          clear hak hbk
          cases he : eqTo r xs j
          · have HE := Lib.hid he
            go_wp2_with fail
            go_quiet (fail)
            go_wp2_with fail
            go_roundw
            case rel => exact ⟨j + 1, by omega, by go_num, by rw [HS.out, HE.out]; rfl, below_drewN hb2 _⟩
            case measure => simp [intOf]; omega
          · have HE := Lib.hid he
            go_wp2_with fail
            go_quiet (fail)
            go_wp2_with fail
            go_roundw
            case rel => exact ⟨j + 1, by omega, by go_num, by rw [HS.out, HE.out]; rfl, below_drewN hb2 _⟩
            case measure => simp [intOf]; omega
        · obtain rfl : j = m := by omega
          have HD := Lib.hid (eqTo_done HLR.out hlx.out)
          cases he : eqTo r xs j
          · have HE := Lib.hid he
            go_wp2_with fail
            go_roundw
            case rel => exact ⟨k + 1, by omega, by go_num, AllB.succ hq.out HRK.out (by rw [← HD.out, HE.out]; rfl), hbb⟩
            case measure => simp [intOf]; omega
          · have HE := Lib.hid he
            go_wp2_with fail
            go_ret
            exact ⟨ret_bool (hasF_yes HRK.out (by rw [← HD.out]; exact HE.out)).symm, hbb⟩
    · obtain rfl : k = n := by omega
      have HE := Lib.hid (hasF_no hl.out hq.out)
      go_wp2_with fail
      go_ret
      exact ⟨ret_bool HE.out.symm, hb⟩
set_option maxHeartbeats 4000000 in
theorem swithin (us : List Value) (c : Con) (A : Option Addr) (n d : Nat) (xs : List Int) (w : World) (h : ConR w w.heap.size us c) (hx : IntR w w.heap.size A n xs) (hk : c.kind = 7) (ho : SatOk c xs) :
    Calls Try.prog 79 #[.agg us.toArray, .slice A n d] w fun e w' => e = .returned (.bool (roomF c xs)) ∧ Below w.heap.size w w' := by
  obtain ⟨va, aa, ra, cv, ca, cr, rfl, g1, g2, g3, cap1, cap2⟩ := h
  obtain ⟨wa, hwa⟩ : ∃ wa, wa = w.alloc (.cells #[.int .i64 c.kind, .slice va c.vars.length cv, .slice aa c.args.length ca, .int .i64 c.bound, .slice ra c.rows.length cr] 53) := ⟨_, rfl⟩
  have hb0 : Below w.heap.size w wa := by rw [hwa]; exact b_alloc _ _
  have hsz : wa.heap.size = w.heap.size + 1 := by rw [hwa, size_alloc_]
  have ha : TBlk 53 wa w.heap.size #[.int .i64 c.kind, .slice va c.vars.length cv, .slice aa c.args.length ca, .int .i64 c.bound, .slice ra c.rows.length cr] := by rw [hwa]; exact TBlk.new _ _ _
  have HA := Lib.hid ha
  have G2 := Lib.hid (IntR.on g2 hb0)
  have GX := Lib.hid (IntR.on hx hb0)
  have hl := Lib.hid hx.len
  have h7 := ho.a7 hk
  have h4 := ho.four
  rw [hx.len] at h7 h4
  have H7 := Lib.hid h7
  obtain ⟨na, hna⟩ : ∃ na, na = c.args.length := ⟨_, rfl⟩
  rw [← hna] at G2 h7 HA
  clear g1 g2 g3 cap1 cap2 hx ha hk ho
  go_enter Try.func79, Try.ntmps79
  go_wp2_with fail
  rw [← hwa]
  clear hwa hna
  go_loopw [6] (fun t wr => ∃ j : Nat, j ≤ 15 ∧ t = .int .i64 j ∧ Hid (UpTo (roomAt c xs) j) ∧ Below wa.heap.size wa wr) (fun t _ => 15 - (intOf t).toNat)
  case atStart => exact ⟨0, by omega, rfl, UpTo.zero _, Below.refl _ _⟩
  case round =>
    obtain ⟨j, hj, rfl, hq, hb⟩ := hrel
    rename World => wo
    by_cases hlt : j < 15
    · have hj14 : decide ((j : Int) ≤ 14) = true := decide_eq_true (by omega)
      go_wp2_with fail
      go_loopw [7, 8] (fun t i wr => ∃ k : Nat, k ≤ n ∧ i = .int .i64 k ∧ t = .int .i64 (loadTo c.args xs n j k) ∧ Below wa.heap.size wa wr) (fun _ i _ => n - (intOf i).toNat)
      case atStart => exact ⟨0, by omega, rfl, rfl, hb⟩
      case round =>
        obtain ⟨k, hk, rfl, rfl, hb2⟩ := hrel
        have a2 : wr.cell? ⟨w.heap.size, 2, none⟩ = some (.slice aa na ca) := (HA.out.below_ hb2 (by omega)).at_ 2 rfl
        have a3 : wr.cell? ⟨w.heap.size, 3, none⟩ = some (.int .i64 c.bound) := (HA.out.below_ hb2 (by omega)).at_ 3 rfl
        by_cases hlt2 : k < n
        · obtain ⟨xb, xo, x, rfl, hxb, hxk, hcx⟩ := IntR.at_ (GX.out.below IntC.keeps hb2) hlt2
          obtain ⟨ab, ao, a, rfl, hab, hak, hca⟩ := IntR.at_ (k := k) (G2.out.below IntC.keeps hb2) (by omega)
          obtain ⟨bb, bo, b, e2, hbb, hbk, hcb⟩ := IntR.at_ (k := n + k) (G2.out.below IntC.keeps hb2) (by omega)
          injection e2 with e2
          injection e2 with e3 e4
          subst e3 e4
          have HR := Lib.hid (runs_eq (t := j) hak hxk)
          have HBK := Lib.hid hbk
          have hkn : (k : Int) < (na : Int) := by omega
          have hadd : wrap64 ((n : Int) + (k : Int)) = ((n + k : Nat) : Int) := by rw [IntWalk.wrap64_in _ ⟨by omega, by omega⟩]; omega
          have hnk : ((n + k : Nat) : Int) < (na : Int) := by omega
          have hnk0 : (0 : Int) ≤ ((n + k : Nat) : Int) := by omega
          have n2 : ∀ nq, (wr.drewN nq).cell? ⟨w.heap.size, 2, none⟩ = some (.slice (some ⟨ab, ao, none⟩) na ca) := fun nq => a2
          have n3 : ∀ nq, (wr.drewN nq).cell? ⟨ab, ao + (n + k), none⟩ = some (.int .i64 b) := fun nq => hcb
          clear hxk hak hbk
          cases t1 : decide (x ≤ (j : Int))
          · have HS := Lib.hid (loadTo_no (m := n) (i := k) (HR.out.trans (by rw [t1]; rfl)))
            go_wp2_with fail
            go_quiet (fail)
            go_wp2_with fail
            go_roundw
            case rel => exact ⟨k + 1, by omega, by go_num, by rw [HS.out], below_drewN hb2 _⟩
            case measure => simp [intOf]; omega
          · cases t2 : decide ((j : Int) < wrap64 (x + a))
            · have HS := Lib.hid (loadTo_no (m := n) (i := k) (HR.out.trans (by rw [t1, t2]; rfl)))
              go_wp2_with fail
              go_quiet (fail)
              go_wp2_with fail
              go_roundw
              case rel => exact ⟨k + 1, by omega, by go_num, by rw [HS.out], below_drewN hb2 _⟩
              case measure => simp [intOf]; omega
            · have HS := Lib.hid (loadTo_yes (m := n) (i := k) (HR.out.trans (by rw [t1, t2]; rfl)) HBK.out)
              go_wp2_with fail
              go_quiet (fail)
              go_wp2_with fail
              go_roundw
              case rel => exact ⟨k + 1, by omega, by go_num, by rw [HS.out], below_drewN hb2 _⟩
              case measure => simp [intOf]; omega
        · obtain rfl : k = n := by omega
          cases t3 : decide (c.bound < loadTo c.args xs k j k)
          · have T3 := Lib.hid t3
            go_wp2_with fail
            go_roundw
            case rel => exact ⟨j + 1, by omega, by go_num, UpTo.succ hq.out (by unfold roomAt; rw [hl.out, T3.out]; rfl), hb2⟩
            case measure => simp [intOf]; omega
          · have T3 := Lib.hid t3
            go_wp2_with fail
            go_ret
            refine ⟨ret_bool ?_, bgo hb0 hb2⟩
            unfold roomF
            rw [all_range_no (i := j) hlt (by unfold roomAt; rw [hl.out, T3.out]; rfl)]
    · obtain rfl : j = 15 := by omega
      have HE := Lib.hid (show roomF c xs = true from UpTo.done hq.out)
      go_wp2_with fail
      go_ret
      exact ⟨ret_bool HE.out.symm, bgo hb0 hb⟩
set_option maxHeartbeats 4000000 in
theorem saccepts (us : List Value) (c : Con) (A : Option Addr) (n d : Nat) (xs : List Int) (w : World) (h : ConR w w.heap.size us c) (hx : IntR w w.heap.size A n xs) (hk : c.kind = 8) (ho : SatOk c xs) :
    Calls Try.prog 80 #[.agg us.toArray, .slice A n d] w fun e w' => e = .returned (.bool (autF c xs)) ∧ Below w.heap.size w w' := by
  obtain ⟨va, aa, ra, cv, ca, cr, rfl, g1, g2, g3, cap1, cap2⟩ := h
  obtain ⟨wa, hwa⟩ : ∃ wa, wa = w.alloc (.cells #[.int .i64 c.kind, .slice va c.vars.length cv, .slice aa c.args.length ca, .int .i64 c.bound, .slice ra c.rows.length cr] 53) := ⟨_, rfl⟩
  have hb0 : Below w.heap.size w wa := by rw [hwa]; exact b_alloc _ _
  have hsz : wa.heap.size = w.heap.size + 1 := by rw [hwa, size_alloc_]
  have ha : TBlk 53 wa w.heap.size #[.int .i64 c.kind, .slice va c.vars.length cv, .slice aa c.args.length ca, .int .i64 c.bound, .slice ra c.rows.length cr] := by rw [hwa]; exact TBlk.new _ _ _
  have HA := Lib.hid ha
  have G2 := Lib.hid (IntR.on g2 hb0)
  have G3 := Lib.hid (SlR.on (RowC.keeps IntC.keeps) (RowC.widens IntC.widens) g3 hb0)
  have GX := Lib.hid (IntR.on hx hb0)
  have hn := hx.le
  have hna := g2.le
  have hl := Lib.hid hx.len
  have h8 := Lib.hid (ho.a8 hk)
  have HO := Lib.hid ho
  have hr1 := h8.out.1
  have hr8 := h8.out.2.1
  clear g1 g2 g3 cap1 cap2 hx ha hk ho
  go_enter Try.func80, Try.ntmps80
  go_wp2_with fail
  rw [← hwa]
  clear hwa
  go_loopw [5, 6] (fun t i wr => ∃ k : Nat, k ≤ n ∧ i = .int .i64 k ∧ t = .int .i64 (autTo c.rows xs k) ∧ 0 ≤ autTo c.rows xs k ∧ autTo c.rows xs k < c.rows.length ∧ Hid (UpTo (autAt c.rows xs) k) ∧ Below wa.heap.size wa wr) (fun _ i _ => n - (intOf i).toNat)
  case atStart => exact ⟨0, by omega, rfl, rfl, Int.le_refl 0, by show (0 : Int) < _; omega, UpTo.zero _, Below.refl _ _⟩
  case round =>
    obtain ⟨k, hk, rfl, rfl, hs0, hs1, hq, hb⟩ := hrel
    have a2 : wr.cell? ⟨w.heap.size, 2, none⟩ = some (.slice aa c.args.length ca) := (HA.out.below_ hb (by omega)).at_ 2 rfl
    have a4 : wr.cell? ⟨w.heap.size, 4, none⟩ = some (.slice ra c.rows.length cr) := (HA.out.below_ hb (by omega)).at_ 4 rfl
    by_cases hlt : k < n
    · obtain ⟨ab, ao, x, rfl, hab, hxk, hcx⟩ := IntR.at_ (GX.out.below IntC.keeps hb) hlt
      have hx0 := (HO.out.val x (List.mem_of_getElem? hxk)).1
      have hx5 := (HO.out.val x (List.mem_of_getElem? hxk)).2
      obtain ⟨rb, ro, r, u, rfl, hrb, hrk, hcr, A1, c1, rfl, hr6⟩ := SlR.at_ (k := (autTo c.rows xs k).toNat) (G3.out.below (RowC.keeps IntC.keeps) hb) (by omega)
      have h6 := (h8.out.2.2 r (List.mem_of_getElem? hrk))
      have hlr := h6.1
      rw [hlr] at hcr hr6
      obtain ⟨yb, yo, y, rfl, hyb, hyk, hcy⟩ := IntR.at_ (k := x.toNat) hr6 (by omega)
      have hy := h6.2 y (List.mem_of_getElem? hyk)
      have HS := Lib.hid (autTo_eq hrk hxk hyk)
      have HY := Lib.hid hy
      clear hxk hrk hyk h6 hy
      cases ht : decide (y < 0)
      · have HT := Lib.hid ht
        go_wp2_with fail
        go_quiet (fail)
        go_wp2_with fail
        go_roundw
        case rel => exact ⟨k + 1, by omega, by go_num, by rw [HS.out], by rw [HS.out]; have := of_decide_eq_false HT.out; omega, by rw [HS.out]; exact HY.out.2, UpTo.succ hq.out (by unfold autAt; rw [HS.out, HT.out]; rfl), below_drewN hb _⟩
        case measure => simp [intOf]; omega
      · have HT := Lib.hid ht
        go_wp2_with fail
        go_quiet (fail)
        go_wp2_with fail
        go_ret
        refine ⟨ret_bool ?_, bgo hb0 (below_drewN hb _)⟩
        unfold autF
        rw [all_range_no (i := k) (by rw [hl.out]; exact hlt) (by unfold autAt; rw [HS.out, HT.out]; rfl)]; rfl
    · obtain rfl : k = n := by omega
      have HE := Lib.hid (show autF c xs = decide (autTo c.rows xs k ∈ c.args) by unfold autF; rw [hl.out, UpTo.done hq.out, Bool.true_and])
      obtain ⟨s, hs⟩ : ∃ s, s = autTo c.rows xs k := ⟨_, rfl⟩
      rw [← hs] at HE hs0 hs1 ⊢
      clear hs hq a4
      rename World => wo
      have HB := Lib.hid hb
      go_wp2_with fail
      go_loop [7] (fun i => ∃ q : Nat, q ≤ c.args.length ∧ i = .int .i64 q ∧ Hid (AllB (fun y => !(y == s)) c.args q)) (fun i => c.args.length - (intOf i).toNat)
      case atStart => exact ⟨0, by omega, rfl, AllB.zero _ _⟩
      case round =>
        obtain ⟨q, hq, rfl, hqq⟩ := hrel
        by_cases hlt3 : q < c.args.length
        · obtain ⟨ab, ao, y, rfl, hab, hyk, hcy⟩ := IntR.at_ (G2.out.below IntC.keeps HB.out) hlt3
          have HYK := Lib.hid hyk
          clear hyk
          cases he : (y == s)
          · have HE2 := Lib.hid he
            go_wp2_with fail
            go_round
            case rel => exact ⟨q + 1, by omega, by go_num, AllB.succ hqq.out HYK.out (by rw [HE2.out]; rfl)⟩
            case measure => simp [intOf]; omega
          · have HE2 := Lib.hid he
            go_wp2_with fail
            go_ret
            refine ⟨ret_bool ?_, bgo hb0 HB.out⟩
            rw [HE.out, decide_eq_true]
            rw [← beq_iff_eq.1 HE2.out]; exact List.mem_of_getElem? HYK.out
        · obtain rfl : q = c.args.length := by omega
          have HF := Lib.hid (show decide (s ∈ c.args) = false from decide_eq_false fun hm => by
            have := AllB.done hqq.out (Nat.le_refl _)
            rw [List.all_eq_true] at this
            have := this s hm
            simp at this)
          go_wp2_with fail
          go_ret
          exact ⟨ret_bool (HE.out.trans HF.out).symm, bgo hb0 HB.out⟩
set_option maxHeartbeats 4000000 in
theorem sisCircuit (A : Option Addr) (n d : Nat) (xs : List Int) (w : World) (hx : IntR w w.heap.size A n xs) (hv : ∀ v ∈ xs, 0 ≤ v ∧ v ≤ 5) (h1 : 1 ≤ n) (h4 : n ≤ 4) :
    Calls Try.prog 81 #[.slice A n d] w fun e w' => e = .returned (.bool (cycF xs)) ∧ w = w' := by
  have hl := Lib.hid hx.len
  have HV := Lib.hid hv
  have GX := Lib.hid hx
  clear hv
  go_enter Try.func81, Try.ntmps81
  go_wp2_with fail
  go_loop [3, 4] (fun a s => ∃ k : Nat, k ≤ n ∧ s = .int .i64 ((k + 1 : Nat) : Int) ∧ a = .int .i64 (itF xs k) ∧ itF xs k < n ∧ Hid (∀ j, 1 ≤ j → j ≤ k → itF xs j ≠ 0) ∧ Hid (∀ j, j < k → gat xs (itF xs j) < (n : Int))) (fun _ s => n + 1 - (intOf s).toNat)
  case atStart => exact ⟨0, by omega, rfl, rfl, by show 0 < n; omega, Lib.hid (fun j h1 h2 => by omega), Lib.hid (fun j h => by omega)⟩
  case round =>
    obtain ⟨k, hk, rfl, rfl, hin, hq, hg⟩ := hrel
    by_cases hlt : k < n
    · have t0 : decide (((k + 1 : Nat) : Int) ≤ (n : Int)) = true := decide_eq_true (by omega)
      obtain ⟨xb, xo, x, rfl, hxb, hxk, hcx⟩ := IntR.at_ (k := itF xs k) GX.out hin
      have HM := Lib.hid (List.mem_of_getElem? hxk)
      have hx0 := (HV.out x (List.mem_of_getElem? hxk)).1
      have HIT := Lib.hid (itF_eq hxk)
      have HGX := Lib.hid (gat_eq hxk)
      clear hxk
      cases t1 : decide ((n : Int) ≤ x)
      · have hxn := of_decide_eq_false t1
        have HXN := Lib.hid hxn
        cases t2 : (x == 0)
        · have T2 := Lib.hid t2
          go_wp2_with fail
          go_round
          case rel =>
            refine ⟨k + 1, by omega, by go_num, by rw [HIT.out]; congr 1; omega, by rw [HIT.out]; have := HXN.out; omega, Lib.hid (fun j h1 h2 => ?_), Lib.hid (fun j h => ?_)⟩
            · rcases Nat.lt_or_ge j (k + 1) with h | h
              · exact hq.out j h1 (by omega)
              · obtain rfl : j = k + 1 := by omega
                rw [HIT.out]
                have := beq_eq_false_iff_ne.1 T2.out
                omega
            · rcases Nat.lt_or_ge j k with h2 | h2
              · exact hg.out j h2
              · obtain rfl : j = k := by omega
                rw [HGX.out]; have := HXN.out; omega
          case measure => simp [intOf]; omega
        · have hz : itF xs (k + 1) = 0 := by rw [HIT.out, beq_iff_eq.1 t2]; rfl
          have HE := Lib.hid (show (((k + 1 : Nat) : Int) == (n : Int)) = cycF xs by
            rcases Nat.lt_or_ge (k + 1) n with h | h
            · unfold cycF
              rw [zero_early (s := k + 1) (by omega) (by rw [hl.out]; exact h) hz, Bool.and_false]
              exact beq_eq_false_iff_ne.2 (by omega)
            · obtain rfl : n = k + 1 := by omega
              have hz2 : zeroAt xs = true := zero_now (by rw [hl.out]; exact hz) (fun j h1 h2 => hq.out j h1 (by rw [hl.out] at h2; omega))
              have ha := cyc_all (xs := xs) (by rw [hl.out]; omega) (by rw [hl.out]; exact h4) HV.out hz2 (fun j hj => by
                rw [hl.out] at hj ⊢
                rcases Nat.lt_or_ge j k with h3 | h3
                · exact hg.out j h3
                · obtain rfl : j = k := by omega
                  rw [HGX.out]; have := HXN.out; omega)
              unfold cycF
              rw [ha, hz2]; simp)
          clear hz
          go_wp2_with fail
          go_ret
          exact ⟨ret_bool HE.out, rfl⟩
      · have HE := Lib.hid (show cycF xs = false by
          unfold cycF
          rw [show (xs.all fun v => decide (v < (xs.length : Int))) = false by
            rw [List.all_eq_false]; refine ⟨x, HM.out, ?_⟩; rw [hl.out]; simpa using of_decide_eq_true t1]
          rfl)
        go_wp2_with fail
        go_ret
        exact ⟨ret_bool HE.out.symm, rfl⟩
    · obtain rfl : k = n := by omega
      have t0 : decide (((k + 1 : Nat) : Int) ≤ (k : Int)) = false := decide_eq_false (by omega)
      have HE := Lib.hid (show cycF xs = false by
        unfold cycF
        rw [zero_late (by rw [hl.out]; exact hq.out k h1 (Nat.le_refl _)), Bool.and_false])
      go_wp2_with fail
      go_ret
      exact ⟨ret_bool HE.out.symm, rfl⟩
set_option maxHeartbeats 8000000 in
theorem ssatisfies (us : List Value) (c : Con) (A : Option Addr) (n d : Nat) (xs : List Int) (w : World) (h : ConR w w.heap.size us c) (hx : IntR w w.heap.size A n xs) (ho : SatOk c xs) :
    Calls Try.prog 76 #[.agg us.toArray, .slice A n d] w fun e w' => e = .returned (.bool (satF c xs)) ∧ Below w.heap.size w w' := by
  have HC := Lib.hid h
  obtain ⟨va, aa, ra, cv, ca, cr, rfl, g1, g2, g3, cap1, cap2⟩ := h
  obtain ⟨na, hna⟩ : ∃ na, na = c.args.length := ⟨_, rfl⟩
  rw [← hna] at g2 HC
  rw [← hna]
  obtain ⟨wa, hwa⟩ : ∃ wa, wa = w.alloc (.cells #[.int .i64 c.kind, .slice va c.vars.length cv, .slice aa na ca, .int .i64 c.bound, .slice ra c.rows.length cr] 53) := ⟨_, rfl⟩
  have hb0 : Below w.heap.size w wa := by rw [hwa]; exact b_alloc _ _
  have hsz : wa.heap.size = w.heap.size + 1 := by rw [hwa, size_alloc_]
  have ha : TBlk 53 wa w.heap.size #[.int .i64 c.kind, .slice va c.vars.length cv, .slice aa na ca, .int .i64 c.bound, .slice ra c.rows.length cr] := by rw [hwa]; exact TBlk.new _ _ _
  have HA := Lib.hid ha
  have G2 := Lib.hid (IntR.on g2 hb0)
  have G3 := Lib.hid (SlR.on (RowC.keeps IntC.keeps) (RowC.widens IntC.widens) g3 hb0)
  have GX := Lib.hid (IntR.on hx hb0)
  have HCA := Lib.hid (ConR.on HC.out hb0)
  have HNA := Lib.hid hna
  have HO := Lib.hid ho
  have hl := Lib.hid hx.len
  have hn := hx.le
  have a0 : wa.cell? ⟨w.heap.size, 0, none⟩ = some (.int .i64 c.kind) := ha.at_ 0 rfl
  have a1 : wa.cell? ⟨w.heap.size, 1, none⟩ = some (.slice va c.vars.length cv) := ha.at_ 1 rfl
  have a2 : wa.cell? ⟨w.heap.size, 2, none⟩ = some (.slice aa na ca) := ha.at_ 2 rfl
  have a3 : wa.cell? ⟨w.heap.size, 3, none⟩ = some (.int .i64 c.bound) := ha.at_ 3 rfl
  have a4 : wa.cell? ⟨w.heap.size, 4, none⟩ = some (.slice ra c.rows.length cr) := ha.at_ 4 rfl
  clear ha g1 g2 g3 cap1 cap2 hx ho hna
  go_enter Try.func76, Try.ntmps76
  rcases HO.out.kinds with k | k | k | k | k | k | k | k | k
  · rw [k] at a0 hwa HA ⊢
    have hnn : na = n := by rw [HNA.out, HO.out.a1 k, hl.out]
    subst hnn
    have HE := Lib.hid (show satF c xs = decide (valTo c.args xs na ≤ c.bound) by rw [sat1 k, hl.out])
    clear k
    go_wp2_with fail
    rw [← hwa]
    clear hwa a0 a1 a2 a3 a4
    go_loopw [5, 6] (fun t i wr => ∃ k : Nat, k ≤ na ∧ i = .int .i64 k ∧ t = .int .i64 (valTo c.args xs k) ∧ Below wa.heap.size wa wr) (fun _ i _ => na - (intOf i).toNat)
    case atStart => exact ⟨0, by omega, rfl, rfl, Below.refl _ _⟩
    case round =>
      obtain ⟨k, hk, rfl, rfl, hb⟩ := hrel
      have a2 : wr.cell? ⟨w.heap.size, 2, none⟩ = some (.slice aa na ca) := (HA.out.below_ hb (by omega)).at_ 2 rfl
      have a3 : wr.cell? ⟨w.heap.size, 3, none⟩ = some (.int .i64 c.bound) := (HA.out.below_ hb (by omega)).at_ 3 rfl
      by_cases hlt : k < na
      · obtain ⟨ab, ao, x, rfl, hab, hxk, hcx⟩ := IntR.at_ (G2.out.below IntC.keeps hb) hlt
        obtain ⟨bb, bo, y, rfl, hbb, hyk, hcy⟩ := IntR.at_ (GX.out.below IntC.keeps hb) hlt
        have HS := Lib.hid (valTo_eq hxk hyk)
        clear hxk hyk
        go_wp2_with fail
        go_quiet (fail)
        go_wp2_with fail
        go_roundw
        case rel => exact ⟨k + 1, by omega, by go_num, by rw [HS.out], below_drewN hb _⟩
        case measure => simp [intOf]; omega
      · obtain rfl : k = na := by omega
        go_wp2_with fail
        go_ret
        exact ⟨ret_bool HE.out.symm, bgo hb0 hb⟩
  · rw [k] at a0 hwa HA ⊢
    obtain ⟨h21, h22⟩ := HO.out.a2 k
    obtain rfl : na = 1 := by rw [HNA.out, h21]
    obtain rfl : n = 2 := by rw [← hl.out, h22]
    obtain ⟨xb, xo, x0, rfl, hxb, hxk0, hcx0⟩ := IntR.at_ (k := 0) GX.out (by omega)
    obtain ⟨xb', xo', x1, e2, hxb', hxk1, hcx1⟩ := IntR.at_ (k := 1) GX.out (by omega)
    injection e2 with e2
    injection e2 with e3 e4
    subst e3 e4
    obtain ⟨ab, ao, y0, rfl, hab, hak0, hcy0⟩ := IntR.at_ (k := 0) G2.out (by omega)
    have HE := Lib.hid (show satF c xs = (x0 != wrap64 (x1 + y0)) by rw [sat2 k, gat_eq hxk0, gat_eq hxk1, gat_eq hak0])
    have f0 : wa.cell? ⟨xb, xo, none⟩ = some (.int .i64 x0) := hcx0
    have f1 : wa.cell? ⟨xb, xo + 1, none⟩ = some (.int .i64 x1) := hcx1
    have f2 : wa.cell? ⟨ab, ao, none⟩ = some (.int .i64 y0) := hcy0
    clear k h21 h22 hxk0 hxk1 hak0 hcx0 hcx1 hcy0
    go_wp2_with fail
    rw [← hwa]
    clear hwa
    go_quiet (fail)
    go_wp2_with fail
    go_ret
    exact ⟨ret_bool HE.out.symm, below_drewN hb0 _⟩
  · rw [k] at a0 hwa HA ⊢
    have HE := Lib.hid (show satF c xs = disF xs from sat3 k)
    clear k
    go_wp2_with fail
    rw [← hwa]
    clear hwa
    refine (sdistinct _ _ _ _ _ GX.out).mono ?_
    rintro e w2 ⟨rfl, hb2⟩
    go_wp2_with fail
    go_ret
    exact ⟨ret_bool HE.out.symm, bgo hb0 hb2⟩
  · rw [k] at a0 hwa HA ⊢
    obtain rfl : n = 2 := by rw [← hl.out, HO.out.a4 k]
    obtain ⟨xb, xo, x0, rfl, hxb, hxk0, hcx0⟩ := IntR.at_ (k := 0) GX.out (by omega)
    obtain ⟨xb', xo', x1, e2, hxb', hxk1, hcx1⟩ := IntR.at_ (k := 1) GX.out (by omega)
    injection e2 with e2
    injection e2 with e3 e4
    subst e3 e4
    have hx0 := (HO.out.val x0 (List.mem_of_getElem? hxk0)).1
    have f0 : wa.cell? ⟨xb, xo, none⟩ = some (.int .i64 x0) := hcx0
    have f1 : wa.cell? ⟨xb, xo + 1, none⟩ = some (.int .i64 x1) := hcx1
    have hE : satF c xs = (decide (x0 < (na : Int)) && (gat c.args x0.toNat == x1)) := by rw [sat4 k, gat_eq hxk0, gat_eq hxk1, HNA.out]
    have HE := Lib.hid hE
    clear k hxk0 hxk1 hcx0 hcx1 hE
    cases t1 : decide (x0 < (na : Int))
    · have HF := Lib.hid (HE.out.trans (by rw [t1, Bool.false_and]))
      go_wp2_with fail
      rw [← hwa]
      clear hwa
      go_quiet (fail)
      go_wp2_with fail
      go_ret
      exact ⟨ret_bool HF.out.symm, below_drewN hb0 _⟩
    · have hlt := of_decide_eq_true t1
      obtain ⟨ab, ao, y0, rfl, hab, hak0, hcy0⟩ := IntR.at_ (k := x0.toNat) G2.out (by omega)
      have HF := Lib.hid (HE.out.trans (by rw [t1, gat_eq hak0, Bool.true_and]))
      clear hak0
      go_wp2_with fail
      rw [← hwa]
      clear hwa
      go_quiet (fail)
      go_wp2_with fail
      go_ret
      exact ⟨ret_bool HF.out.symm, below_drewN hb0 _⟩
  · have HR := Lib.hid (HO.out.a5 k)
    rw [k] at a0 hwa HA ⊢
    have HE := Lib.hid (show satF c xs = hasF c.rows xs from sat5 k)
    clear k
    go_wp2_with fail
    rw [← hwa]
    clear hwa
    refine (shasRow _ _ _ _ _ _ c.rows xs _ G3.out GX.out (by intro r hr; rw [HR.out r hr, hl.out])).mono ?_
    rintro e w2 ⟨rfl, hb2⟩
    go_wp2_with fail
    go_ret
    exact ⟨ret_bool HE.out.symm, bgo hb0 hb2⟩
  · have k6 := k
    rw [k] at a0 hwa HA ⊢
    obtain rfl : na = 1 := by rw [HNA.out, HO.out.a6 k6]
    obtain ⟨ab, ao, y0, rfl, hab, hak0, hcy0⟩ := IntR.at_ (k := 0) G2.out (by omega)
    have HE := Lib.hid (show satF c xs = (cntTo xs y0 n == c.bound) by rw [sat6 k6, gat_eq hak0, hl.out])
    have HF2 : Hid (wa.cell? ⟨ab, ao, none⟩ = some (.int .i64 y0)) := hcy0
    clear k k6 hak0 hcy0
    go_wp2_with fail
    rw [← hwa]
    clear hwa a0 a1 a2 a3 a4
    go_loopw [7, 8] (fun t i wr => ∃ k : Nat, k ≤ n ∧ i = .int .i64 k ∧ t = .int .i64 (cntTo xs y0 k) ∧ Below wa.heap.size wa wr) (fun _ i _ => n - (intOf i).toNat)
    case atStart => exact ⟨0, by omega, rfl, rfl, Below.refl _ _⟩
    case round =>
      obtain ⟨k, hk, rfl, rfl, hb⟩ := hrel
      have a2 : wr.cell? ⟨w.heap.size, 2, none⟩ = some (.slice (some ⟨ab, ao, none⟩) 1 ca) := (HA.out.below_ hb (by omega)).at_ 2 rfl
      have a3 : wr.cell? ⟨w.heap.size, 3, none⟩ = some (.int .i64 c.bound) := (HA.out.below_ hb (by omega)).at_ 3 rfl
      have f2 : wr.cell? ⟨ab, ao, none⟩ = some (.int .i64 y0) := (hb.cell (p := ⟨ab, ao, none⟩) hab).trans HF2.out
      by_cases hlt : k < n
      · obtain ⟨xb, xo, x, rfl, hxb, hxk, hcx⟩ := IntR.at_ (GX.out.below IntC.keeps hb) hlt
        cases t1 : (x == y0)
        · have HS := Lib.hid (cntTo_no hxk t1)
          clear hxk
          go_wp2_with fail
          go_quiet (fail)
          go_wp2_with fail
          go_roundw
          case rel => exact ⟨k + 1, by omega, by go_num, by rw [HS.out], below_drewN hb _⟩
          case measure => simp [intOf]; omega
        · have HS := Lib.hid (cntTo_yes hxk t1)
          clear hxk
          go_wp2_with fail
          go_quiet (fail)
          go_wp2_with fail
          go_roundw
          case rel => exact ⟨k + 1, by omega, by go_num, by rw [HS.out], below_drewN hb _⟩
          case measure => simp [intOf]; omega
      · obtain rfl : k = n := by omega
        go_wp2_with fail
        go_ret
        exact ⟨ret_bool HE.out.symm, bgo hb0 hb⟩
  · have HK := Lib.hid k
    have HE := Lib.hid (show satF c xs = roomF c xs from sat7 k)
    rw [k] at a0 hwa HA ⊢
    clear k
    go_wp2_with fail
    rw [← hwa]
    clear hwa
    refine (swithin _ c _ _ _ xs _ (by have := HCA.out; rw [HK.out] at this; exact this) GX.out HK.out HO.out).mono ?_
    rintro e w2 ⟨rfl, hb2⟩
    go_wp2_with fail
    go_ret
    exact ⟨ret_bool HE.out.symm, bgo hb0 hb2⟩
  · have HK := Lib.hid k
    have HE := Lib.hid (show satF c xs = autF c xs from sat8 k)
    rw [k] at a0 hwa HA ⊢
    clear k
    go_wp2_with fail
    rw [← hwa]
    clear hwa
    refine (saccepts _ c _ _ _ xs _ (by have := HCA.out; rw [HK.out] at this; exact this) GX.out HK.out HO.out).mono ?_
    rintro e w2 ⟨rfl, hb2⟩
    go_wp2_with fail
    go_ret
    exact ⟨ret_bool HE.out.symm, bgo hb0 hb2⟩
  · rw [k] at a0 hwa HA ⊢
    have HE := Lib.hid (show satF c xs = cycF xs from sat9 k)
    clear k
    go_wp2_with fail
    rw [← hwa]
    clear hwa
    refine (sisCircuit _ _ _ xs _ GX.out HO.out.val (by have := HO.out.one; rw [hl.out] at this; exact this) (by have := HO.out.four; rw [hl.out] at this; exact this)).mono ?_
    rintro e w2 ⟨rfl, rfl⟩
    go_wp2_with fail
    go_ret
    exact ⟨ret_bool HE.out.symm, hb0⟩
end Go.Proofs.Ytjpcdbdaimonlaa
/- spec's IsEntailed. -/
namespace Go.Proofs.Ytjpcdbdaimonlaa
open Go.ChangeShapes Go.WideShapes Go.ChangeAt Go.RowKit
open Go.Shelf
set_option linter.unusedVariables false
set_option maxRecDepth 100000
attribute [local go_sem] Oper.semAt_some

/-- what begins with t and goes on with a value of d below k. -/
def belK (ws t : List Int) (d : Int) (k : Nat) : List (List Int) := (valsTo d k).flatMap fun u => extT ws (t ++ [u])
theorem belK_zero (ws t : List Int) (d : Int) : belK ws t d 0 = [] := rfl
theorem belK_yes {ws t : List Int} {d : Int} {k : Nat} (h : hasB d k = true) : belK ws t d (k + 1) = belK ws t d k ++ extT ws (t ++ [(k : Int)]) := by
  unfold belK
  rw [valsTo, h]
  simp
theorem belK_no {ws t : List Int} {d : Int} {k : Nat} (h : hasB d k = false) : belK ws t d (k + 1) = belK ws t d k := by
  unfold belK
  rw [valsTo, h]
  simp
theorem belK_six {ws t : List Int} {d : Int} (h : ws[t.length]? = some d) : belK ws t d 6 = extT ws t := (extT_step h).symm
theorem ext_false {c : Con} {ws t : List Int} {d : Int} {k : Nat} (h : ws[t.length]? = some d) (hk : k < 6) (hb : hasB d k = true) (he : (extT ws (t ++ [(k : Int)])).all (satF c) = false) : (extT ws t).all (satF c) = false := by
  refine Bool.eq_false_iff.2 fun h2 => ?_
  rw [Bool.eq_false_iff] at he
  refine he (List.all_eq_true.2 fun x hx => List.all_eq_true.1 h2 x ?_)
  rw [extT_step h]
  exact List.mem_flatMap.2 ⟨k, valsTo_has (by omega) (by omega) hb, hx⟩
theorem word_mem {vars ds : List Int} {i : Nat} {v d : Int} (hv : vars[i]? = some v) (hd : ds[v.toNat]? = some d) : (wordF vars ds)[i]? = some d := by
  rw [wordF_at hv, gat_eq hd]
theorem take_snocE {xs : List Int} {cs : Array Value} {v : Int} (h : ∀ (j : Nat) x, xs[j]? = some x → cs[j]? = some (.int .i64 x)) (hl : xs.length < cs.size) : ∀ (j : Nat) x, (xs ++ [v])[j]? = some x → (cs.setIfInBounds xs.length (.int .i64 v))[j]? = some (.int .i64 x) := by
  intro j x hj
  rcases Nat.lt_or_ge j xs.length with hlt | hge
  · rw [Array.getElem?_setIfInBounds_ne (by omega)]
    rw [List.getElem?_append_left hlt] at hj
    exact h j x hj
  · rw [List.getElem?_append_right hge] at hj
    have hj0 : j = xs.length := by
      rcases Nat.lt_or_ge (j - xs.length) 1 with h4 | h4
      · omega
      · rw [List.getElem?_eq_none (by simpa using h4)] at hj; cases hj
    subst hj0
    rw [Nat.sub_self] at hj
    simp at hj
    subst hj
    rw [Array.getElem?_setIfInBounds_self_of_lt (by omega)]
/-- t stands at the front of the cells. -/
def Front (m : Nat) (W : World) (g : Nat) (t : List Int) : Prop := ∃ cs : Array Value, cs.size = m ∧ TBlk 3 W g cs ∧ ∀ (j : Nat) x, t[j]? = some x → cs[j]? = some (.int .i64 x)
theorem Front.on {m g : Nat} {W W' : World} {t : List Int} (h : Front m W g t) (hb : Below W.heap.size W W') : Front m W' g t := by
  obtain ⟨cs, h1, h2, h3⟩ := h
  exact ⟨cs, h1, h2.below_ hb h2.lt, h3⟩
theorem Front.push {m g : Nat} {W : World} {t : List Int} (h : Front m W g t) (hl : t.length < m) (v : Int) : Front m (W.setCell ⟨g, t.length, none⟩ (.int .i64 v)) g (t ++ [v]) := by
  obtain ⟨cs, h1, h2, h3⟩ := h
  exact ⟨_, by rw [Array.size_setIfInBounds, h1], h2.store _ _, take_snocE h3 (by omega)⟩
theorem Front.pop {m g : Nat} {W : World} {t : List Int} {v : Int} (h : Front m W g (t ++ [v])) : Front m W g t := by
  obtain ⟨cs, h1, h2, h3⟩ := h
  refine ⟨cs, h1, h2, fun j x hj => h3 j x ?_⟩
  have hlt : j < t.length := by
    rcases Nat.lt_or_ge j t.length with h4 | h4
    · exact h4
    · rw [List.getElem?_eq_none h4] at hj; cases hj
  rw [List.getElem?_append_left hlt]; exact hj
theorem Front.intR {m g : Nat} {W : World} {t : List Int} (h : Front m W g t) (hl : t.length = m) (hm : m ≤ 4) : IntR W W.heap.size (some ⟨g, 0, none⟩) m t := by
  obtain ⟨cs, h1, h2, h3⟩ := h
  exact intR_blk h2 h3 hl hm
theorem Front.frozen {m g : Nat} {W : World} {t : List Int} (h : Front m W g t) (j : Nat) : W.frozen? ⟨g, j, none⟩ = false := by
  obtain ⟨cs, h1, h2, h3⟩ := h
  exact h2.frozen j
theorem Front.cell {m g j : Nat} {W : World} {t : List Int} (h : Front m W g t) (hj : j < m) : ∃ u, W.cell? ⟨g, j, none⟩ = some u := by
  obtain ⟨cs, h1, h2, h3⟩ := h
  exact ⟨_, h2.at_ j (Array.getElem?_eq_getElem (by omega))⟩
theorem make_blk1 {P : Program} (t e : TypeId) (i : TypeInfo) (z : Value) (ht : P.underlying t = some (.slice e)) (hi : P.info? e = some i) (hz : i.zero = some z) (hs : i.size = 1) (h1 : z.cells = #[z]) (n : Nat) (hb : i.bytes * n ≤ 281474976710656) (h63 : n ≤ maxLen) :
    ∃ Z : Array Value, Z.toList = List.replicate n z ∧ ∀ W : World, Sem.run P (Instr.makeSlice t (.int .i64 (n : Int)) (.int .i64 (n : Int))) W = .ok (.slice (some ⟨W.heap.size, 0, none⟩) n n) (W.alloc (.cells Z e)) := by
  refine ⟨madeCells z.cells (n * i.size), ?_, fun W => ?_⟩
  · rw [hs, Nat.mul_one, h1]; exact toList_madeCells_one _ _
  · have h := run_make (P := P) W t e i z ht hi hz .i64 .i64 (n : Int) (n : Int) (Int.natCast_nonneg _) (Int.le_refl _) (by rw [← Int.natCast_mul]; exact Int.ofNat_le.2 hb) (by unfold maxLen at h63; omega)
    simpa using h
end Go.Proofs.Ytjpcdbdaimonlaa
/- impl's filter. -/
namespace Go.Proofs.Ytjpcdbdaimonlaa
open Go.ChangeShapes Go.WideShapes Go.ChangeAt Go.RowKit
open Go.Shelf
set_option linter.unusedVariables false
set_option maxRecDepth 100000
attribute [local go_sem] Oper.semAt_some

/-- Numbers in memory as what an append takes. -/
theorem IntR.srcF {w : World} {B n c : Nat} {A : Option Addr} {xs : List Int} (h : IntR w B A n xs) (h0 : 0 < n) : Src w 1 A n c (xs.map (.int .i64)) := by
  obtain ⟨h1, -, h2⟩ := h
  obtain ⟨b, o, rfl, hb, hc⟩ := h2 h0
  refine .inr ⟨_, rfl, by rw [List.length_map, h1]; omega, fun j u hj => ?_⟩
  rw [List.getElem?_map] at hj
  cases hx : xs[j]? with
  | none => rw [hx] at hj; cases hj
  | some x =>
    rw [hx] at hj
    obtain ⟨u', hu, he⟩ := hc j x hx
    simp only [Option.map_some, Option.some.injEq] at hj
    rw [← hj, Addr.add_lit]
    rw [hu, he]
set_option maxHeartbeats 4000000 in
theorem scopyRF (A : Option Addr) (n c : Nat) (xs : List Int) (w : World) (h : IntR w w.heap.size A n xs) (h0 : 0 < n) (hn : n ≤ 1048576) :
    Calls Try.prog 35 #[.slice A n c] w fun e w' => ∃ v', e = .returned v' ∧ OwnI 3 w' w.heap.size v' xs ∧ Below w.heap.size w w' := by
  obtain ⟨i0, hi0, hz0, hz1, hz2⟩ := info_parts info_int
  have hl := Lib.hid h.len
  have ol : (w.alloc (.cells #[] 3)).ownsRow w.heap.size 3 1 (.slice (some ⟨w.heap.size, 0, none⟩) 0 0) 0 [] := World.ownsRow_lit w #[] 0 (Nat.le_refl _) (by decide) rfl
  have hs : Src (w.alloc (.cells #[] 3)) 1 A n c (xs.map (.int .i64)) := (IntR.on h (b_alloc w (.cells #[] 3))).srcF h0
  clear h
  go_enter Try.func35, Try.ntmps35
  go_wp2_with (at_builtin; refine wpList_append_any rfl _ _ 23 rfl w.heap.size 3 i0 _ 1 8 Try.underlying23 hi0 hz0 hz1 hz2 rfl (by decide) (.slice (some ⟨w.heap.size, 0, none⟩) 0 0) _ _ rfl ol _ _ _ _ rfl hs (by simp [Value.oneCell']) (by unfold maxLen; omega) (by omega) (by rw [size_alloc_]; omega) ?_; intro v1 w1 ho1 hb1 _ _)
  have ho2 : OwnI 3 w1 w.heap.size v1 xs := ⟨by rw [hl.out]; simpa using ho1, by rw [hl.out]; omega⟩
  go_ret
  exact ⟨v1, rfl, ho2, (b_alloc _ _).trans hb1⟩
set_option maxHeartbeats 4000000 in
theorem cloneRF (A : Option Addr) (n c : Nat) (xs : List Int) (w : World) (h : IntR w w.heap.size A n xs) (h0 : 0 < n) (hn : n ≤ 1048576) :
    Calls Try.prog 48 #[.slice A n c] w fun e w' => ∃ v', e = .returned v' ∧ OwnI 3 w' w.heap.size v' xs ∧ Below w.heap.size w w' := by
  obtain ⟨i0, hi0, hz0, hz1, hz2⟩ := info_parts info_int
  have hl := Lib.hid h.len
  have ol : (w.alloc (.cells #[] 3)).ownsRow w.heap.size 3 1 (.slice (some ⟨w.heap.size, 0, none⟩) 0 0) 0 [] := World.ownsRow_lit w #[] 0 (Nat.le_refl _) (by decide) rfl
  have hs : Src (w.alloc (.cells #[] 3)) 1 A n c (xs.map (.int .i64)) := (IntR.on h (b_alloc w (.cells #[] 3))).srcF h0
  obtain ⟨b, o, rfl, -⟩ := h.2.2 h0
  clear h
  have q22 : ∀ (w : World) (a : Option Addr) (n c n' c' : Nat), (binOp .eql 23 (.slice a n c) (.slice none n' c')).run Try.prog w = .ok (.bool a.isNone) w := fun w a n c n' c' => Lib.run_eql_slice_nil w _ _ a n c n' c' Try.underlying23
  have u22 : ∀ w, Sem.run Try.prog (underlying 23) w = .ok (TypeDesc.slice 3) w := run_underlying Try.underlying23
  go_enter Try.func48, Try.ntmps48
  go_wp2_with (at_builtin; refine wpList_append_any rfl _ _ 23 rfl w.heap.size 3 i0 _ 1 8 Try.underlying23 hi0 hz0 hz1 hz2 rfl (by decide) (.slice (some ⟨w.heap.size, 0, none⟩) 0 0) _ _ rfl ol _ _ _ _ rfl hs (by simp [Value.oneCell']) (by unfold maxLen; omega) (by omega) (by rw [size_alloc_]; omega) ?_; intro v1 w1 ho1 hb1 _ _)
  have ho2 : OwnI 3 w1 w.heap.size v1 xs := ⟨by rw [hl.out]; simpa using ho1, by rw [hl.out]; omega⟩
  go_ret
  exact ⟨v1, rfl, ho2, (b_alloc _ _).trans hb1⟩
set_option maxHeartbeats 4000000 in
theorem icopiedRF (A : Option Addr) (n c : Nat) (xs : List Int) (w : World) (h : IntR w w.heap.size A n xs) (h0 : 0 < n) (hn : n ≤ 1048576) :
    Calls Try.prog 31 #[.slice A n c] w fun e w' => ∃ v', e = .returned v' ∧ HoldR w' w.heap.size 3 1 v' n (xs.map (.int .i64)) ∧ Below w.heap.size w w' := by
  have hl := Lib.hid h.len
  have H := Lib.hid h
  clear h
  go_enter Try.func31, Try.ntmps31
  go_wp2_with fail
  refine (cloneRF _ _ _ xs _ H.out h0 hn).mono ?_
  rintro e w1 ⟨v, rfl, ho, hb⟩
  obtain ⟨A1, c1, rfl, -⟩ := IntR.of_own ho.1 ho.2
  have hh := HoldR.of_own ho.1
  rw [hl.out] at hh
  have HH := Lib.hid hh
  have hl2 := hl.out
  rw [hl2]
  clear hh ho hl2
  go_wp2_with fail
  refine (clipInt _ _ _ _ _ _ HH.out).mono ?_
  rintro e w2 ⟨rfl, rfl⟩
  go_wp2_with fail
  go_ret
  exact ⟨_, rfl, HH.out.clip, hb⟩
theorem updTo_at2 {acc t : List Int} {k : Nat} {v : Int} (hl : acc.length = t.length) (hv : t[k]? = some v) : ∃ a, acc[k]? = some a ∧ (updTo acc t k)[k]? = some a := by
  have hk : k < t.length := by
    rcases Nat.lt_or_ge k t.length with h | h
    · exact h
    · rw [List.getElem?_eq_none h] at hv; cases hv
  exact ⟨_, List.getElem?_eq_getElem (by omega), updTo_at hl (List.getElem?_eq_getElem (by omega))⟩
theorem HoldR.put_ {w : World} {base n size l : Nat} {e : TypeId} {v : Value} {xs : List Value} {o o' : Obj} (h : HoldR w base e size v n xs) (hl : w.heap[l]? = some o) (ho : o.isCells = false) : HoldR (w.putObj l o') base e size v n xs :=
  ⟨h.1, h.2.imp id fun ⟨g, cap, cur, h1, h2, h3, r⟩ => ⟨g, cap, cur, h1, h2, TBlk.put_ (t := e) h3 hl ho, r⟩⟩
theorem putTo_succ {ds vars sup : List Int} {k v : Nat} {a : Int} (hv : vars[k]? = some (v : Int)) (ha : sup[k]? = some a) : putTo ds vars sup (k + 1) = (putTo ds vars sup k).set v a := by
  rw [putTo, gat_eq hv, gat_eq ha, Int.toNat_natCast]
theorem filF_len (c : Con) (ds : List Int) : (filF c ds).length = ds.length := putTo_len _ _ _ _
theorem wrap_pow6 : ∀ a : Fin 6, IntKind.i64.wrap (2 ^ (a.val : Int).toNat) = 2 ^ (a.val : Int).toNat := by decide +kernel
theorem wrap_pow {v : Int} (h0 : 0 ≤ v) (h1 : v ≤ 5) : IntKind.i64.wrap (2 ^ v.toNat) = 2 ^ v.toNat := by
  obtain ⟨a, rfl⟩ := fin6 h0 h1
  exact wrap_pow6 a
/-- what Filter gives. -/
def filtF (c : Con) (ds : List Int) : List Int := if dokF ds && vconF c ds.length then filF c ds else []
theorem filtF_len (c : Con) (ds : List Int) : (filtF c ds).length ≤ 4 := by
  unfold filtF
  split
  · rename_i h
    simp only [Bool.and_eq_true] at h
    rw [filF_len]; exact (dok_parts h.1).2.1
  · simp
end Go.Proofs.Ytjpcdbdaimonlaa
