/- impl's iterator over the tuples: its start. -/
import Derived.Test.YtfmdgdamelkelaaTup
import Derived.Laws.EntriesVeiled
namespace Go.Proofs.Ytfmdgdamelkelaa
open Go.ChangeShapes Go.WideShapes Go.ChangeAt Go.RowKit
open Go.Shelf
set_option linter.unusedVariables false
set_option maxRecDepth 100000
attribute [local go_sem] Oper.semAt_some

/-- What 'make' of no element and room for n lays. -/
theorem make_room {P : Program} (t e : TypeId) (i : TypeInfo) (z : Value) (ht : P.underlying t = some (.slice e)) (hi : P.info? e = some i) (hz : i.zero = some z) (hs : i.size = 1) (h1 : z.cells = #[z]) (n : Nat) (hb : i.bytes * n ≤ 281474976710656) (h63 : n ≤ maxLen) :
    ∃ Z : Array Value, Z.size = n ∧ ∀ W : World, Sem.run P (Instr.makeSlice t (.int .i64 0) (.int .i64 (n : Int))) W = .ok (.slice (some ⟨W.heap.size, 0, none⟩) 0 n) (W.alloc (.cells Z e)) := by
  refine ⟨madeCells z.cells (n * i.size), ?_, fun W => ?_⟩
  · rw [hs, Nat.mul_one, h1, ← Array.length_toList, toList_madeCells_one, List.length_replicate]
  · have h := run_make (P := P) W t e i z ht hi hz .i64 .i64 0 (n : Int) (Int.le_refl _) (Int.natCast_nonneg _) (by rw [← Int.natCast_mul]; exact Int.ofNat_le.2 hb) (by unfold maxLen at h63; omega)
    simpa using h
theorem TBlk.newAt {w : World} {cs : Array Value} {t : TypeId} {b : Nat} (h : b = w.heap.size) : TBlk t (w.alloc (.cells cs t)) b cs := by subst h; exact TBlk.new _ _ _
theorem ituples (A : Option Addr) (n c : Nat) (w : World) : Calls Try.prog 62 #[.slice A n c] w fun e w' => e = .returned (.func (.func 98) #[] #[.pointer (some ⟨w.heap.size, 0, none⟩)]) ∧ w' = w.alloc (.cells #[.slice A n c] 22) := by
  go_enter Try.func62, Try.ntmps62
  go_wp2
  go_ret
  exact ⟨rfl, rfl⟩
set_option maxHeartbeats 4000000 in
/-- The iterator goes over all tuples, or is told to stop. -/
theorem tuples1 (bD m l db dof cd : Nat) (ds : List Int) (hds : Doms ds) (hm : ds.length = m) (hm4 : m ≤ 4) (W : World) (J : List (List Int) → World → Prop) (Jx : World → Prop)
    (hJb : ∀ vis W1 W', J vis W1 → Below W.heap.size W1 W' → J vis W')
    (hJd : ∀ vis W1, J vis W1 → W1.cell? ⟨bD, 0, none⟩ = some (.slice (some ⟨db, dof, none⟩) m cd) ∧ ∀ (j : Nat) x, ds[j]? = some x → W1.cell? ⟨db, dof + j, none⟩ = some (.int .i64 x))
    (hY : ∀ mm g vis t W1, J vis W1 → t ∈ allT ds → W.heap.size ≤ g → (∃ cs : Array Value, cs.size = m ∧ TBlk 3 W1 g cs ∧ ∀ (j : Nat) v, t[j]? = some v → cs[j]? = some (.int .i64 v)) → YieldAt Fence.wide mm Try.prog l #[.slice (some ⟨g, 0, none⟩) m m] W1 fun e W' => (e = .returned (.bool true) ∧ J (vis ++ [t]) W' ∧ KHi W.heap.size W1 W') ∨ (e = .returned (.bool false) ∧ Jx W'))
    (h0 : J [] W) :
    Calls Try.prog 98 #[.func (.yield l) #[] #[], .pointer (some ⟨bD, 0, none⟩)] W fun e W' => (∃ v, e = .returned v) ∧ (J (allT ds) W' ∨ Jx W') := by
  obtain ⟨i0, hi0, hz0, hz1, hz2⟩ := info_parts info_int
  have hd1 := (hJd [] W h0).1
  have hd2 : (W.alloc (.cells #[.func (.yield l) #[] #[]] 56)).cell? ⟨bD, 0, none⟩ = some (.slice (some ⟨db, dof, none⟩) m cd) := (World.cell?_alloc_some _ _ _ (by rw [hd1]; rfl)).trans hd1
  obtain ⟨Z, hZ, hmk⟩ := make_room (P := Try.prog) 22 3 i0 _ Try.underlying22 hi0 hz0 hz1 rfl m (by rw [hz2]; omega) (by unfold maxLen; omega)
  have HZ := Lib.hid hZ
  have HJ0 := Lib.hid h0
  have HDS := Lib.hid hds
  have HM := Lib.hid hm
  clear h0 hds hm hZ hd1
  go_enter Try.func98, Try.ntmps98
  go_wp2_with fail
  refine (from1 W.heap.size (W.heap.size + 1 + 1) bD W.heap.size (W.heap.size + 1 + 1 + 1) (W.heap.size + 1) m l db dof cd ds HDS.out HM.out hm4 J Jx hJb hJd
    (fun mm vis t W1 hJ1 ht hit => hY mm (W.heap.size + 1) vis t W1 hJ1 ht (by omega) hit.cs) m [] [] _ (by simp) (fun j d v _ hv => by simp at hv) ?_ ?_ ?_).mono ?_
  · refine ⟨?_, ⟨Z, HZ.out, ?_, fun j v hj => by simp at hj⟩, ?_, ?_, by omega⟩
    · exact (TBlk.newAt (by simp)).alloc_ _
    · exact ((TBlk.newAt (by simp)).alloc_ _).alloc_ _
    · exact (((TBlk.newAt rfl).alloc_ _).alloc_ _).alloc_ _
    · exact TBlk.newAt (by simp)
  · exact hJb _ _ _ HJ0.out ((((Below.refl _ _).alloc (Nat.le_refl _) _).alloc (by simp) _ |>.alloc (by simp; omega) _).alloc (by simp; omega) _)
  · simp; omega
  · rintro e w9 (⟨rfl, hJ9, -, -⟩ | ⟨rfl, hJ9⟩)
    · have HJ9 := Lib.hid hJ9
      clear hJ9
      go_wp2_with fail
      refine bodyPost_end (results_none rfl _ _ _) rfl ?_
      refine ⟨⟨_, rfl⟩, .inl ?_⟩
      have := HJ9.out
      rw [extT_nil, List.nil_append] at this
      exact this
    · have HJ9 := Lib.hid hJ9
      clear hJ9
      go_wp2_with fail
      refine bodyPost_end (results_none rfl _ _ _) rfl ?_
      exact ⟨⟨_, rfl⟩, .inr HJ9.out⟩
end Go.Proofs.Ytfmdgdamelkelaa
