/- The fixpoint of filtering, plain: it does not hang on the order of the constraints. No program in sight. -/
import Derived.Test.YtejfnkbdmlijbaaFilP
namespace Go.Proofs.Ytejfnkbdmlijbaa
set_option linter.unusedVariables false
set_option maxRecDepth 100000

def cntD (d : Int) : Nat := (valsTo d 6).length
theorem cntD64 : ∀ a b : Fin 64, (∀ u : Fin 6, hasB a.val u.val = true → hasB b.val u.val = true) → cntD a.val ≤ cntD b.val ∧ (cntD a.val = cntD b.val → a = b) := by decide +kernel
theorem cntD_sub {a b : Int} (a0 : 0 ≤ a) (a1 : a ≤ 63) (b0 : 0 ≤ b) (b1 : b ≤ 63) (h : ∀ u : Int, 0 ≤ u → u ≤ 5 → hasB a u = true → hasB b u = true) : cntD a ≤ cntD b ∧ (cntD a = cntD b → a = b) := by
  obtain ⟨x, rfl⟩ := dom_fin a0 a1
  obtain ⟨y, rfl⟩ := dom_fin b0 b1
  have := cntD64 x y (fun u => h u.val (by omega) (by omega))
  exact ⟨this.1, fun e => by rw [this.2 e]⟩
def card (ds : List Int) : Nat := (ds.map cntD).sum
theorem SubD.refl (S : List Int) : SubD S S := fun _ _ _ _ _ h => h
theorem SubD.trans {S T U : List Int} (hl : S.length = T.length) (h : SubD S T) (k : SubD T U) : SubD S U := fun j hj u u0 u1 hb => k j (by omega) u u0 u1 (h j hj u u0 u1 hb)
theorem card_sub : ∀ (S W : List Int), S.length = W.length → Doms S → Doms W → SubD S W → card S ≤ card W ∧ (card S = card W → S = W)
  | [], [], _, _, _, _ => ⟨Nat.le_refl _, fun _ => rfl⟩
  | [], w :: W, h, _, _, _ => by simp at h
  | s :: S, [], h, _, _, _ => by simp at h
  | s :: S, w :: W, h, hs, hw, hd => by
    have a := hs s (by simp)
    have b := hw w (by simp)
    obtain ⟨c1, c2⟩ := cntD_sub a.1 a.2 b.1 b.2 (fun u u0 u1 hb => hd 0 (by simp) u u0 u1 hb)
    obtain ⟨d1, d2⟩ := card_sub S W (by simpa using h) (fun x hx => hs x (by simp [hx])) (fun x hx => hw x (by simp [hx])) (fun j hj u u0 u1 hb => hd (j + 1) (by simp; omega) u u0 u1 hb)
    have e1 : card (s :: S) = cntD s + card S := by simp [card]
    have e2 : card (w :: W) = cntD w + card W := by simp [card]
    rw [e1, e2]
    exact ⟨by omega, fun e => by rw [c2 (by omega), d2 (by omega)]⟩
theorem sub_anti {S W : List Int} (hl : S.length = W.length) (hs : Doms S) (hw : Doms W) (h : SubD S W) (k : SubD W S) : S = W :=
  (card_sub S W hl hs hw h).2 (Nat.le_antisymm (card_sub S W hl hs hw h).1 (card_sub W S hl.symm hw hs k).1)
/-- filtering leaves a part. -/
theorem fil_sub {c : Con} {ds : List Int} (hv : DiffV c.vars ds.length) : SubD (filF c ds) ds := by
  intro j hj u u0 u1 hb
  rw [filF_len] at hj
  have hs := supV_ok (c := c) (allT_ok (wordF c.vars ds))
  rw [wordF_len] at hs
  have hm := sup_sub (c := c) (ws := wordF c.vars ds)
  rw [wordF_len] at hm
  unfold filF at hb
  rcases putTo_case c.vars c.vars.length j with ⟨i, hi, e⟩ | hn
  · rw [← e, putTo_var hv (Nat.le_refl _) hi] at hb
    have := hm i (by rw [hs.2]; exact hi) u u0 u1 hb
    rw [word_gat hi, e] at this
    exact this
  · rw [putTo_else hv (Nat.le_refl _) hn] at hb
    exact hb
/-- the constraints' variables differ. -/
def DiffC (cs : List Con) (n : Nat) : Prop := ∀ c ∈ cs, DiffV c.vars n
def foldF (cs : List Con) (ds : List Int) : List Int := cs.foldl (fun d c => filF c d) ds
theorem foldF_len : ∀ (cs : List Con) (ds : List Int), (foldF cs ds).length = ds.length
  | [], _ => rfl
  | c :: cs, ds => by
    show (foldF cs (filF c ds)).length = _
    rw [foldF_len cs, filF_len]
theorem foldF_ok : ∀ (cs : List Con) (ds : List Int), DiffC cs ds.length → Doms ds → Doms (foldF cs ds) ∧ SubD (foldF cs ds) ds
  | [], ds, _, hd => ⟨hd, SubD.refl _⟩
  | c :: cs, ds, hv, hd => by
    have h1 := hv c (by simp)
    have h2 := filF_doms h1 hd
    obtain ⟨a, b⟩ := foldF_ok cs (filF c ds) (fun c' hc => by rw [filF_len]; exact hv c' (by simp [hc])) h2
    exact ⟨a, SubD.trans (by rw [foldF_len, filF_len]) b (fil_sub h1)⟩
theorem foldF_fix {cs : List Con} {ds : List Int} (h : ∀ c ∈ cs, filF c ds = ds) : foldF cs ds = ds := by
  induction cs with
  | nil => rfl
  | cons c cs ih =>
    show foldF cs (filF c ds) = ds
    rw [h c (by simp)]
    exact ih fun c' hc => h c' (by simp [hc])
theorem foldF_all : ∀ (cs : List Con) (ds : List Int), DiffC cs ds.length → Doms ds → foldF cs ds = ds → ∀ c ∈ cs, filF c ds = ds
  | [], _, _, _, _ => by simp
  | c :: cs, ds, hv, hd, h => by
    have h1 := hv c (by simp)
    have h2 := filF_doms h1 hd
    have hv2 : DiffC cs (filF c ds).length := fun c' hc => by rw [filF_len]; exact hv c' (by simp [hc])
    obtain ⟨a, b⟩ := foldF_ok cs (filF c ds) hv2 h2
    have h3 : foldF cs (filF c ds) = ds := h
    rw [h3] at b
    have h4 : filF c ds = ds := sub_anti (filF_len c ds) h2 hd (fil_sub h1) b
    rw [h4] at h3
    intro c' hc
    rcases List.mem_cons.1 hc with rfl | hc
    · exact h4
    · exact foldF_all cs ds (fun c' hc => hv c' (by simp [hc])) hd h3 c' hc
theorem foldF_mono : ∀ (cs : List Con) (G D : List Int), G.length = D.length → DiffC cs D.length → SubD G D → (∀ c ∈ cs, filF c G = G) → SubD G (foldF cs D)
  | [], _, _, _, _, h, _ => h
  | c :: cs, G, D, hl, hv, h, hG => by
    have h1 := hv c (by simp)
    have h2 := sub_fil (c := c) hl (by rw [hl]; exact h1) h
    rw [hG c (by simp)] at h2
    exact foldF_mono cs G (filF c D) (by rw [filF_len, hl]) (fun c' hc => by rw [filF_len]; exact hv c' (by simp [hc])) h2 fun c' hc => hG c' (by simp [hc])
def hasZ (ds : List Int) : Bool := ds.any (· == 0)
/-- the last domains that filtering comes to. -/
def limF (cs : List Con) (ds : List Int) : List Int := if hasZ ds then ds else if card (foldF cs ds) < card ds then limF cs (foldF cs ds) else ds
termination_by card ds
def zerosF (n : Nat) : List Int := List.replicate n 0
def fixF (cs : List Con) (ds : List Int) : List Int := if hasZ (limF cs ds) then zerosF ds.length else limF cs ds
theorem lim_z {cs : List Con} {ds : List Int} (h : hasZ ds = true) : limF cs ds = ds := by rw [limF, if_pos h]
theorem lim_end {cs : List Con} {ds : List Int} (h : foldF cs ds = ds) : limF cs ds = ds := by
  rw [limF, h, if_neg (Nat.lt_irrefl _)]; simp
theorem card_step {cs : List Con} {ds : List Int} (hv : DiffC cs ds.length) (hd : Doms ds) (hn : foldF cs ds ≠ ds) : card (foldF cs ds) < card ds := by
  obtain ⟨a, b⟩ := foldF_ok cs ds hv hd
  obtain ⟨c1, c2⟩ := card_sub _ _ (foldF_len cs ds) a hd b
  rcases Nat.lt_or_ge (card (foldF cs ds)) (card ds) with h | h
  · exact h
  · exact (hn (c2 (by omega))).elim
theorem lim_step {cs : List Con} {ds : List Int} (hv : DiffC cs ds.length) (hd : Doms ds) (hz : hasZ ds = false) (hn : foldF cs ds ≠ ds) : limF cs ds = limF cs (foldF cs ds) := by
  rw [limF, if_neg (by rw [hz]; decide), if_pos (card_step hv hd hn)]
theorem lim_ok (cs : List Con) : ∀ (k : Nat) (ds : List Int), card ds ≤ k → DiffC cs ds.length → Doms ds → (limF cs ds).length = ds.length ∧ Doms (limF cs ds) ∧ SubD (limF cs ds) ds ∧ (hasZ (limF cs ds) = false → foldF cs (limF cs ds) = limF cs ds) ∧
    ∀ G : List Int, G.length = ds.length → SubD G ds → (∀ c ∈ cs, filF c G = G) → SubD G (limF cs ds) := by
  intro k
  induction k with
  | zero =>
    intro ds hk hv hd
    cases hz : hasZ ds
    · by_cases hn : foldF cs ds = ds
      · rw [lim_end hn]
        exact ⟨rfl, hd, SubD.refl _, fun _ => hn, fun G _ h _ => h⟩
      · exact absurd (card_step hv hd hn) (by omega)
    · rw [lim_z hz]
      exact ⟨rfl, hd, SubD.refl _, fun h => (by rw [hz] at h; cases h), fun G _ h _ => h⟩
  | succ k ih =>
    intro ds hk hv hd
    cases hz : hasZ ds
    · by_cases hn : foldF cs ds = ds
      · rw [lim_end hn]
        exact ⟨rfl, hd, SubD.refl _, fun _ => hn, fun G _ h _ => h⟩
      · have hlt := card_step hv hd hn
        obtain ⟨a, b⟩ := foldF_ok cs ds hv hd
        have hfl := foldF_len cs ds
        obtain ⟨h1, h2, h3, h4, h5⟩ := ih (foldF cs ds) (by omega) (by rw [hfl]; exact hv) a
        rw [lim_step hv hd hz hn]
        exact ⟨by rw [h1, hfl], h2, SubD.trans (by rw [h1]) h3 b, h4, fun G hG hs hf => h5 G (by rw [hG, hfl]) (foldF_mono cs G ds hG hv hs hf) hf⟩
    · rw [lim_z hz]
      exact ⟨rfl, hd, SubD.refl _, fun h => (by rw [hz] at h; cases h), fun G _ h _ => h⟩
theorem zero64 : ∀ a : Fin 64, (∀ u : Fin 6, hasB a.val u.val = true → hasB 0 u.val = true) → a = 0 := by decide +kernel
theorem hasZ_sub {S W : List Int} (hl : S.length = W.length) (hs : Doms S) (h : SubD S W) (hz : hasZ W = true) : hasZ S = true := by
  obtain ⟨x, hx, e⟩ := List.any_eq_true.1 hz
  obtain ⟨j, hj, ej⟩ := List.getElem_of_mem hx
  have e0 : x = 0 := by simpa using e
  have hg : gat W j = 0 := by rw [gat_eq (List.getElem?_eq_getElem hj), ej, e0]
  have a := doms_gat hs (j := j) (by omega)
  have hh := h j (by omega)
  rw [hg] at hh
  obtain ⟨y, hy⟩ := dom_fin a.1 a.2
  have hy2 := zero64 y (fun u hb => hh u.val (by omega) (by omega) (by rw [hy]; exact hb))
  have h0 : gat S j = 0 := by rw [hy, hy2]; rfl
  refine List.any_eq_true.2 ⟨0, ?_, by rfl⟩
  rw [← h0]
  exact gat_in (by omega)
/-- THE ORDER DOES NOT MATTER. -/
theorem fix_order {cs cs' : List Con} {ds : List Int} (hm : ∀ c, c ∈ cs ↔ c ∈ cs') (hv : DiffC cs ds.length) (hd : Doms ds) : fixF cs ds = fixF cs' ds := by
  have hv' : DiffC cs' ds.length := fun c hc => hv c ((hm c).2 hc)
  obtain ⟨a1, a2, a3, a4, a5⟩ := lim_ok cs _ ds (Nat.le_refl _) hv hd
  obtain ⟨b1, b2, b3, b4, b5⟩ := lim_ok cs' _ ds (Nat.le_refl _) hv' hd
  unfold fixF
  cases hz : hasZ (limF cs ds)
  · have f1 := foldF_all cs _ (by rw [a1]; exact hv) a2 (a4 hz)
    have s1 := b5 _ a1 a3 (fun c hc => f1 c ((hm c).2 hc))
    cases hz' : hasZ (limF cs' ds)
    · have f2 := foldF_all cs' _ (by rw [b1]; exact hv') b2 (b4 hz')
      have s2 := a5 _ b1 b3 (fun c hc => f2 c ((hm c).1 hc))
      have e := sub_anti (by rw [a1, b1]) a2 b2 s1 s2
      rw [e]
    · have := hasZ_sub (by rw [a1, b1]) a2 s1 hz'
      rw [hz] at this; cases this
  · cases hz' : hasZ (limF cs' ds)
    · have f2 := foldF_all cs' _ (by rw [b1]; exact hv') b2 (b4 hz')
      have s2 := a5 _ b1 b3 (fun c hc => f2 c ((hm c).1 hc))
      have := hasZ_sub (by rw [a1, b1]) b2 s2 hz
      rw [hz'] at this; cases this
    · rfl
theorem fix_z {cs : List Con} {ds : List Int} (h : hasZ ds = true) : fixF cs ds = zerosF ds.length := by unfold fixF; rw [lim_z h, h]; rfl
theorem fix_end {cs : List Con} {ds : List Int} (hz : hasZ ds = false) (h : foldF cs ds = ds) : fixF cs ds = ds := by unfold fixF; rw [lim_end h, hz]; rfl
theorem fix_step {cs : List Con} {ds : List Int} (hv : DiffC cs ds.length) (hd : Doms ds) (hz : hasZ ds = false) (hn : foldF cs ds ≠ ds) : fixF cs ds = fixF cs (foldF cs ds) := by
  unfold fixF
  rw [lim_step hv hd hz hn, foldF_len]
theorem fix_len {cs : List Con} {ds : List Int} (hv : DiffC cs ds.length) (hd : Doms ds) : (fixF cs ds).length = ds.length := by
  obtain ⟨a1, -⟩ := lim_ok cs _ ds (Nat.le_refl _) hv hd
  unfold fixF
  split
  · simp [zerosF]
  · exact a1
theorem fix_doms {cs : List Con} {ds : List Int} (hv : DiffC cs ds.length) (hd : Doms ds) : Doms (fixF cs ds) := by
  obtain ⟨a1, a2, -⟩ := lim_ok cs _ ds (Nat.le_refl _) hv hd
  unfold fixF
  split
  · intro x hx
    rw [List.eq_of_mem_replicate hx]; decide
  · exact a2
/-- all constraints leave the domains as they are. -/
def conF (cs : List Con) (ds : List Int) : Bool := cs.all fun c => filF c ds == ds
theorem conF_iff {cs : List Con} {ds : List Int} (hv : DiffC cs ds.length) (hd : Doms ds) : conF cs ds = true ↔ foldF cs ds = ds := by
  constructor
  · intro h
    exact foldF_fix fun c hc => by simpa using List.all_eq_true.1 h c hc
  · intro h
    exact List.all_eq_true.2 fun c hc => by simpa using foldF_all cs ds hv hd h c hc
end Go.Proofs.Ytejfnkbdmlijbaa
