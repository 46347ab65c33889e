/- Tasks that come to do something once: each step, and what holds behind it. No condition. -/
import Derived.Test.YtegdbpbafdpkfaaLOnk
namespace Go.Proofs.Ytegdbpbafdpkfaa
open SY
open Go.RowKit
set_option linter.unusedSimpArgs false
set_option linter.unusedVariables false

theorem upd {w s v told over w' s' : Int} {fs ins wts row : List Int} {t : Nat} (h : MInv w s v told over fs ins wts row) (ht : t < 5) (hw : i2b (gI wts t) = false) (f' : Fr) (hok : okO f' (i2b (gI ins t)))
    (hinv : Inv w' s' (mv (cn fs ins) (md fs ins t) (clsO f' (i2b (gI ins t))))) (hst : i2b (gI ins t) = true → f'.st = (frAt fs t).st) (h3 : i2b (gI ins t) = false → f'.st = 3 → v = 1) : MInv w' s' v told over (splice fs (t * 10) (cellsF f')) ins wts row := by
  have hh := h
  obtain ⟨l1, l2, l3, h4, h5, h6, h7, h8⟩ := hh
  refine minv_upd h ht (put_len l1 ht _) l2 l3 (put_other l1 ht _) (fun _ _ _ => rfl) ?_ ?_ (row_keep h4 hw (put_other l1 ht _) (fun _ _ _ => rfl) fun _ _ _ => rfl) ?_ id ?_
  · unfold okT; rw [put_same l1 ht]; exact hok
  · have : md (splice fs (t * 10) (cellsF f')) ins t = clsO f' (i2b (gI ins t)) := by unfold md; rw [put_same l1 ht]
    rw [this]; exact hinv
  · refine jj_keep h7 fun k hk hi => ?_
    by_cases e : k = t
    · subst e; rw [put_same l1 ht]; exact hst hi
    · rw [put_other l1 ht _ k hk e]
  · rw [put_same l1 ht]; exact h3
/-- The same frame, put again. -/
theorem upd_self {w s v told over : Int} {fs ins wts row : List Int} {t : Nat} (h : MInv w s v told over fs ins wts row) (ht : t < 5) (hw : i2b (gI wts t) = false) : MInv w s v told over (splice fs (t * 10) (cellsF (frAt fs t))) ins wts row := by
  have hh := h
  obtain ⟨l1, l2, l3, h4, h5, h6, h7, h8⟩ := hh
  refine upd h ht hw _ (h5 t ht) ?_ (fun _ => rfl) fun hi hs => h8 t ht hi hs
  show Inv w s (mv (cn fs ins) (md fs ins t) (md fs ins t))
  rw [lk_idle]; exact h6
theorem st_begin {w s v told over : Int} {fs ins wts row : List Int} {t : Nat} (h : MInv w s v told over fs ins wts row) (ht : t < 5) (hi : i2b (gI ins t) = false) (hw : i2b (gI wts t) = false) (h0 : frAt fs t = F0) : MInv w s v told over (splice fs (t * 10) (cellsF (fB 34))) ins wts row := by
  have hm : md fs ins t = 0 := by unfold md; rw [hi, h0]; rfl
  refine upd h ht hw _ (by rw [hi]; exact .inr ⟨rfl, .inl rfl⟩) ?_ (fun e => by rw [hi] at e; cases e) fun _ e => absurd e (by decide)
  rw [hm, hi, show clsO (fB 34) false = 0 from rfl, lk_idle]
  exact h.2.2.2.2.2.1
theorem idle_out {w s v told over : Int} {fs ins wts row : List Int} {t : Nat} (h : MInv w s v told over fs ins wts row) (ht : t < 5) (h0 : (frAt fs t).op = 0) : i2b (gI ins t) = false := by
  have := h.2.2.2.2.1 t ht
  unfold okT at this
  cases hi : i2b (gI ins t)
  · rfl
  · rw [hi] at this
    have := this.1
    omega

theorem want_facts {fs ins : List Int} {t : Nat} (h : okT fs ins t) (hn : 0 < (frAt fs t).ne) : i2b (gI ins t) = false ∧ (frAt fs t).st = 1 ∧ okL (frAt fs t) ∧ (frAt fs t).op = 34 ∧ (frAt fs t).ne = 2 ∧ (frAt fs t).ph = 3 := by
  unfold okT at h
  cases hi : i2b (gI ins t)
  · rw [hi] at h
    rcases h with h | ⟨hop, h | ⟨hst, h⟩ | ⟨_, h⟩ | ⟨_, _, h⟩⟩
    · rw [h] at hn; exact absurd hn (by decide)
    · rw [h] at hn; exact absurd hn (by decide)
    · have := h.2.1
      exact ⟨rfl, hst, h, hop, by omega, by omega⟩
    · omega
    · omega
  · rw [hi] at h
    rcases h with ⟨_, ⟨_, h⟩ | ⟨_, _, h⟩⟩ <;> omega
theorem want_md {fs ins : List Int} {t : Nat} (h : okT fs ins t) (hn : 0 < (frAt fs t).ne) : md fs ins t = 2 := by
  obtain ⟨hi, hst, _, _, hne, hph⟩ := want_facts h hn
  unfold md clsO; rw [hi]; simp [hst, clsL, hne, hph]
theorem md_want {fs ins : List Int} {t : Nat} (h : okT fs ins t) (hm : md fs ins t = 2) : 0 < (frAt fs t).ne := by
  unfold md at hm
  unfold okT at h
  have hu : ∀ f : Fr, clsU f ≠ 2 := fun f => by
    unfold clsU
    split
    · simp
    · split
      · simp
      · split <;> simp
  cases hi : i2b (gI ins t)
  · rw [hi] at hm
    simp only [clsO] at hm
    split at hm
    · unfold clsL at hm
      split at hm
      · split at hm
        · assumption
        · cases hm
      · split at hm
        · cases hm
        · split at hm <;> cases hm
    · split at hm
      · cases hm
      · split at hm
        · exact (hu _ hm).elim
        · cases hm
  · rw [hi] at hm
    simp only [clsO] at hm
    split at hm
    · cases hm
    · exact (hu _ hm).elim

theorem st_take {w s v told over : Int} {fs ins wts row : List Int} {t : Nat} (h : MInv w s v told over fs ins wts row) (ht : t < 5) (hw : i2b (gI wts t) = false) (hn : 0 < (frAt fs t).ne) (hs : 0 < s) : MInv w (s - 1) v told over (splice fs (t * 10) (cellsF { frAt fs t with ne := 0 })) ins wts row := by
  have h5 := h.2.2.2.2.1 t ht
  obtain ⟨hi, hst, hok, hop, hne, hph⟩ := want_facts h5 hn
  have m1 := want_md h5 hn
  refine upd h ht hw _ (by rw [hi]; exact .inr ⟨hop, .inr (.inl ⟨hst, hok.1, .inl rfl, hok.2.2.1, hok.2.2.2⟩)⟩) ?_ (fun _ => rfl) fun _ e => by
    have e : (frAt fs t).st = 3 := e
    omega
  have m2 : clsO { frAt fs t with ne := 0 } (i2b (gI ins t)) = 3 := by rw [hi]; simp [clsO, hst, clsL, hph]
  rw [m1, m2]
  exact take_inv h.2.2.2.2.2.1 hs (by have := cn_ge fs ins t ht; rwa [m1] at this)
theorem ne_st {fs : List Int} {t : Nat} (hl : fs.length = 50) (ht : t < 5) (v : Int) : (frAt (splice fs (t * 10 + 8) [v]) t).st = (frAt fs t).st := by rw [ne_same hl ht]
theorem st_take8 {w s v told over : Int} {fs ins wts row : List Int} {t : Nat} (h : MInv w s v told over fs ins wts row) (ht : t < 5) (hw : i2b (gI wts t) = false) (hn : 0 < (frAt fs t).ne) (hs : 0 < s) : MInv w (s - 1) v told over (splice fs (t * 10 + 8) [0]) ins wts row := by
  have hh := h
  obtain ⟨l1, l2, l3, h4, h5, h6, h7, h8⟩ := hh
  obtain ⟨hi, hst, hok, hop, hne, hph⟩ := want_facts (h5 t ht) hn
  have m1 := want_md (h5 t ht) hn
  have m2 : md (splice fs (t * 10 + 8) [0]) ins t = 3 := by unfold md; rw [ne_same l1 ht, hi]; simp [clsO, hst, clsL, hph]
  refine minv_upd h ht (ne_len l1 ht _) l2 l3 (ne_other l1 ht _) (fun _ _ _ => rfl) ?_ ?_ (row_keep h4 hw (ne_other l1 ht _) (fun _ _ _ => rfl) fun _ _ _ => rfl) (jj_keep h7 fun k hk hik => ?_) id fun _ e => ?_
  · unfold okT
    rw [ne_same l1 ht, hi]
    exact .inr ⟨hop, .inr (.inl ⟨hst, hok.1, .inl rfl, hok.2.2.1, hok.2.2.2⟩)⟩
  · rw [m1, m2]
    exact take_inv h6 hs (by have := cn_ge fs ins t ht; rwa [m1] at this)
  · by_cases e : k = t
    · rw [e, ne_st l1 ht]
    · rw [ne_other l1 ht _ k hk e]
  · rw [ne_st l1 ht] at e; omega

theorem st_wait {w s v told over : Int} {fs ins wts row row' : List Int} {t : Int} (h : MInv w s v told over fs ins wts row) (h0 : 0 ≤ t) (h1 : t < 5) (hw : i2b (gI wts t.toNat) = false) (hn : 0 < (frAt fs t.toNat).ne) (hr : row' = row ++ [t] ∨ row' = t :: row) : MInv w s v told over fs ins (splice wts t.toNat [1]) row' := by
  have ht : t.toNat < 5 := by omega
  have hh := h
  obtain ⟨l1, l2, l3, h4, h5, h6, h7, h8⟩ := hh
  have hmd := want_md (h5 _ ht) hn
  have hnot := row_in h4 h0 hw
  refine ⟨l1, l2, bit_len l3 ht _, ?_, h5, h6, h7, h8⟩
  have old : ∀ u ∈ row, (0 ≤ u ∧ u < 5) ∧ i2b (gI (splice wts t.toNat [1]) u.toNat) = true ∧ md fs ins u.toNat = 2 := by
    intro u hu
    obtain ⟨q1, q2, q3⟩ := h4.2 u hu
    have hne : u.toNat ≠ t.toNat := fun e => hnot (by rw [show t = u by omega]; exact hu)
    rw [bit_other l3 ht _ _ hne]
    exact ⟨q1, q2, q3⟩
  have new : (0 ≤ t ∧ t < 5) ∧ i2b (gI (splice wts t.toNat [1]) t.toNat) = true ∧ md fs ins t.toNat = 2 := by
    rw [bit_same l3 ht]
    exact ⟨⟨h0, h1⟩, rfl, hmd⟩
  rcases hr with rfl | rfl
  · refine ⟨?_, fun u hu => ?_⟩
    · rw [List.nodup_append]
      exact ⟨h4.1, by simp, fun a ha b hb => by simp at hb; rw [hb]; exact fun e => hnot (e ▸ ha)⟩
    · rw [List.mem_append, List.mem_singleton] at hu
      rcases hu with hu | rfl
      · exact old u hu
      · exact new
  · refine ⟨List.nodup_cons.2 ⟨hnot, h4.1⟩, fun u hu => ?_⟩
    rcases List.mem_cons.1 hu with rfl | hu
    · exact new
    · exact old u hu
theorem row_tail {fs ins wts row : List Int} {u : Int} (h : rowOK fs ins wts (u :: row)) : u ∉ row ∧ (0 ≤ u ∧ u < 5) ∧ md fs ins u.toNat = 2 ∧ rowOK fs ins wts row := by
  obtain ⟨h1, h2⟩ := h
  rw [List.nodup_cons] at h1
  have := h2 u (List.mem_cons_self ..)
  exact ⟨h1.1, this.1, this.2.2, h1.2, fun v hv => h2 v (List.mem_cons_of_mem _ hv)⟩
theorem st_give {w s v told over : Int} {fs ins wts row : List Int} {u : Int} (h : MInv w s v told over fs ins wts (u :: row)) : MInv w s v told over fs ins (splice wts u.toNat [0]) row := by
  obtain ⟨l1, l2, l3, h4, h5, h6, h7⟩ := h
  obtain ⟨r1, r2, r3, r5⟩ := row_tail h4
  have hu : u.toNat < 5 := by omega
  refine ⟨l1, l2, bit_len l3 hu _, ⟨r5.1, fun v hv => ?_⟩, h5, h6, h7⟩
  obtain ⟨q1, q2, q3⟩ := r5.2 v hv
  have hne : v.toNat ≠ u.toNat := fun e => r1 (by rw [show u = v by omega]; exact hv)
  rw [bit_other l3 hu _ _ hne]
  exact ⟨q1, q2, q3⟩
theorem st_hand {w s v told over : Int} {fs ins wts row : List Int} {u : Int} (h : MInv w s v told over fs ins wts (u :: row)) (hs : 0 < s) : MInv w (s - 1) v told over (splice fs (u.toNat * 10 + 8) [0]) ins (splice wts u.toNat [0]) row := by
  have h' := st_give h
  obtain ⟨l1, l2, l3, h4, h5, h6, _⟩ := h
  obtain ⟨r1, r2, r3, r5⟩ := row_tail h4
  have hu : u.toNat < 5 := by omega
  refine st_take8 h' hu ?_ (md_want (h5 _ hu) r3) hs
  rw [bit_same l3 hu]; rfl

theorem inv_s {w s : Int} {C : Nat → Int} (h : Inv w s C) : 0 ≤ s ∧ s ≤ 1 ∧ 0 ≤ w ∧ w ≤ 1000 := by
  obtain ⟨s0, w0, w1, hC, hb, h5, hN, hS⟩ := h
  have c1 := hC 1; have c2 := hC 2; have c3 := hC 3; have c4 := hC 4; have c5 := hC 5; have c6 := hC 6; have c7 := hC 7
  refine ⟨s0, ?_, w0, w1⟩
  by_cases h : w % 8 < 4
  · have := hN h; omega
  · have := hS (by omega); omega

/-! ### Steps of once -/

/-- What is due behind a step: what the frame says is put already. -/
def Fin (w s v told over : Int) (fs ins wts row : List Int) (t : Nat) (dn : Bool) (vl : Int) : Prop :=
  (dn = false → MInv w s v told over fs ins wts row) ∧
  (dn = true → i2b (gI ins t) = true → MInv w s v told (over + 1) fs (splice ins t [0]) wts row) ∧
  (dn = true → i2b (gI ins t) = false → vl = 1 → MInv w s v (told + 1) over (splice fs (t * 10) (cellsF (fB 35))) (splice ins t [1]) wts row) ∧
  (dn = true → i2b (gI ins t) = false → vl ≠ 1 → v = 1 ∧ MInv w s v told over fs ins wts row)
theorem fin_no {w s v told over vl : Int} {fs ins wts row : List Int} {t : Nat} (h : MInv w s v told over fs ins wts row) : Fin w s v told over fs ins wts row t false vl :=
  ⟨fun _ => h, (fun e => nomatch e), (fun e => nomatch e), (fun e => nomatch e)⟩
theorem fin_go {w s v told over vl : Int} {fs ins wts row : List Int} {t : Nat} (h : MInv w s v told over fs ins wts row) (hi : i2b (gI ins t) = false) (hv : v = 1) (hl : vl ≠ 1) : Fin w s v told over fs ins wts row t true vl :=
  ⟨(fun e => nomatch e), (fun _ e => by rw [hi] at e; cases e), (fun _ _ e => absurd e hl), fun _ _ _ => ⟨hv, h⟩⟩

section
variable {w s v told over : Int} {fs ins wts row : List Int} {t : Nat}

theorem once_begun (h : MInv w s v told over fs ins wts row) (ht : t < 5) (hi : i2b (gI ins t) = false) (hop : (frAt fs t).op ≠ 0) : (frAt fs t).op = 34 ∧ (frAt fs t = fB 34 ∨ ((frAt fs t).st = 1 ∧ okL (frAt fs t)) ∨ ((frAt fs t).st = 2 ∧ (frAt fs t).ne = 0) ∨ ((frAt fs t).st = 3 ∧ okU (frAt fs t))) := by
  have h5 := h.2.2.2.2.1 t ht
  unfold okT at h5
  rw [hi] at h5
  rcases h5 with h5 | h5
  · rw [h5] at hop; exact absurd rfl hop
  · exact h5

theorem once0 (h : MInv w s v told over fs ins wts row) (ht : t < 5) (hi : i2b (gI ins t) = false) (hw : i2b (gI wts t) = false) (hop : (frAt fs t).op ≠ 0) (hst : (frAt fs t).st = 0) (hv : v = 1) : Fin w s v told over (splice fs (t * 10) (cellsF F0)) ins wts row t true 0 := by
  obtain ⟨_, hf⟩ := once_begun h ht hi hop
  have hf : frAt fs t = fB 34 := by rcases hf with hf | hf | hf | hf <;> first | exact hf | (have := hf.1; omega)
  refine fin_go (upd h ht hw _ (by rw [hi]; exact .inl rfl) ?_ (fun e => by rw [hi] at e; cases e) fun _ e => absurd e (by decide)) hi hv (by decide)
  rw [show md fs ins t = 0 by unfold md; rw [hi, hf]; rfl, hi, show clsO F0 false = 0 from rfl, lk_idle]
  exact h.2.2.2.2.2.1
theorem once0' (h : MInv w s v told over fs ins wts row) (ht : t < 5) (hi : i2b (gI ins t) = false) (hw : i2b (gI wts t) = false) (hop : (frAt fs t).op ≠ 0) (hst : (frAt fs t).st = 0) (vl : Int) : Fin w s v told over (splice fs (t * 10) (cellsF { frAt fs t with st := 1, ph := 0 })) ins wts row t false vl := by
  obtain ⟨_, hf⟩ := once_begun h ht hi hop
  have hf : frAt fs t = fB 34 := by rcases hf with hf | hf | hf | hf <;> first | exact hf | (have := hf.1; omega)
  refine fin_no (upd h ht hw _ (by rw [hi, hf]; exact .inr ⟨rfl, .inr (.inl ⟨rfl, ⟨by simp, by simp, by simp, by simp⟩⟩)⟩) ?_ (fun e => by rw [hi] at e; cases e) fun _ e => absurd e (by simp))
  rw [show md fs ins t = 0 by unfold md; rw [hi, hf]; rfl, hi, hf, show clsO { fB 34 with st := 1, ph := 0 } false = 0 from rfl, lk_idle]
  exact h.2.2.2.2.2.1
theorem once1 (h : MInv w s v told over fs ins wts row) (ht : t < 5) (hi : i2b (gI ins t) = false) (hw : i2b (gI wts t) = false) (hop : (frAt fs t).op ≠ 0) (hst : (frAt fs t).st = 1) (hne : ¬ 0 < (frAt fs t).ne) (now pat : Int) (vl : Int) :
    ((KeepLk w (frAt fs t) now pat).dn = true → Fin (KeepLk w (frAt fs t) now pat).w s v told over (splice fs (t * 10) (cellsF { fB (frAt fs t).op with st := 2 })) ins wts row t false vl) ∧
    ((KeepLk w (frAt fs t) now pat).dn = false → Fin (KeepLk w (frAt fs t) now pat).w s v told over (splice fs (t * 10) (cellsF (KeepLk w (frAt fs t) now pat).f)) ins wts row t false vl) := by
  obtain ⟨hop, hf⟩ := once_begun h ht hi hop
  have hf : okL (frAt fs t) := by rcases hf with hf | hf | hf | hf <;> first | exact hf.2 | (rw [hf] at hst; exact absurd hst (by decide)) | (have := hf.1; omega)
  have hn : (frAt fs t).ne = 0 := by have := hf.2.1; omega
  have hm : md fs ins t = clsL (frAt fs t) := by unfold md; rw [hi]; simp [clsO, hst]
  have hc := cn_ge fs ins t ht
  rw [hm] at hc
  rcases lk_step (now := now) (pat := pat) h.2.2.2.2.2.1 hf hn hc (by have := cn_le fs ins 2; omega) with ⟨d1, d2, d3⟩ | ⟨d1, d2, d3, d4, d5⟩
  · refine ⟨fun _ => fin_no (upd h ht hw _ (by rw [hi, hop]; exact .inr ⟨rfl, .inr (.inr (.inl ⟨rfl, rfl⟩))⟩) ?_ (fun e => by rw [hi] at e; cases e) fun _ e => absurd e (by simp)), fun e => by rw [d1] at e; cases e⟩
    rw [hm, hi, hop]
    exact d2
  · refine ⟨(fun e => by rw [d1] at e; cases e), fun _ => fin_no (upd h ht hw _ (by rw [hi]; exact .inr ⟨by rw [d4, hop], .inr (.inl ⟨by rw [d5, hst], d3⟩)⟩) ?_ (fun e => by rw [hi] at e; cases e) fun _ e => by rw [d5, hst] at e; exact absurd e (by decide))⟩
    rw [hm, hi, show clsO (KeepLk w (frAt fs t) now pat).f false = clsL (KeepLk w (frAt fs t) now pat).f by simp [clsO, d5, hst]]
    exact d2
theorem once2 (h : MInv w s v told over fs ins wts row) (ht : t < 5) (hi : i2b (gI ins t) = false) (hw : i2b (gI wts t) = false) (hop : (frAt fs t).op ≠ 0) (hst : (frAt fs t).st = 2) (hv : v ≠ 1) : Fin w s v told over (splice fs (t * 10) (cellsF F0)) ins wts row t true 1 := by
  have hm : md fs ins t = 5 := by unfold md; rw [hi]; simp [clsO, hst]
  have hh := h
  obtain ⟨l1, l2, l3, h4, h5, h6, h7, h8⟩ := hh
  refine ⟨(fun e => nomatch e), (fun _ e => by rw [hi] at e; cases e), fun _ _ _ => ?_, fun _ _ e => absurd rfl e⟩
  have hb := bit_other l2 ht 1
  have hfo : ∀ k, k < 5 → k ≠ t → frAt (splice (splice fs (t * 10) (cellsF F0)) (t * 10) (cellsF (fB 35))) k = frAt fs k := put_put l1 ht _ _
  have hfs : frAt (splice (splice fs (t * 10) (cellsF F0)) (t * 10) (cellsF (fB 35))) t = fB 35 := put_same (put_len l1 ht _) ht _
  have hbt : i2b (gI (splice ins t [1]) t) = true := by rw [bit_same l2 ht]; rfl
  refine minv_upd h ht (put_len (put_len l1 ht _) ht _) (bit_len l2 ht _) l3 hfo (fun k _ e => hb k e) ?_ ?_ (row_keep h4 hw hfo (fun k _ e => hb k e) fun _ _ _ => rfl) ?_ id fun e => by rw [hbt] at e; cases e
  · unfold okT; rw [hfs, hbt]; exact ⟨rfl, .inl ⟨rfl, rfl⟩⟩
  · rw [hm, show md (splice (splice fs (t * 10) (cellsF F0)) (t * 10) (cellsF (fB 35))) (splice ins t [1]) t = 5 by unfold md; rw [hfs, hbt]; rfl, lk_idle]
    exact h6
  · rcases h7 with ⟨j1, j2, j3, j4⟩ | ⟨j1, j2, j3, e, j4, j5, j6, j7⟩ | ⟨j1, j2, j3, _⟩ | ⟨j1, j2, j3, _⟩
    · refine .inr (.inl ⟨by omega, j2, j3, t, ht, hbt, by rw [hfs], fun k hk e => ?_⟩)
      rw [hb k e]; exact j4 k hk
    · exfalso
      have hne : e ≠ t := fun x => by rw [x, hi] at j5; cases j5
      have hme : md fs ins e = 5 := by unfold md; rw [j5]; simp [clsO, j6]
      have := cn_two fs ins t e ht j4 (Ne.symm hne) (by rw [hm, hme])
      rw [hm] at this
      have h5 := h6.2.2.2.2.2.1
      omega
    · exact absurd j3 hv
    · exact absurd j3 hv
theorem once2' (h : MInv w s v told over fs ins wts row) (ht : t < 5) (hi : i2b (gI ins t) = false) (hw : i2b (gI wts t) = false) (hop : (frAt fs t).op ≠ 0) (hst : (frAt fs t).st = 2) (hv : v = 1) (vl : Int) : Fin w s v told over (splice fs (t * 10) (cellsF { frAt fs t with st := 3, ph := 0 })) ins wts row t false vl := by
  have hm : md fs ins t = 5 := by unfold md; rw [hi]; simp [clsO, hst]
  obtain ⟨hop, hf⟩ := once_begun h ht hi hop
  have hn : (frAt fs t).ne = 0 := by rcases hf with hf | hf | hf | hf <;> first | exact hf.2 | (rw [hf]) | (have := hf.1; omega)
  refine fin_no (upd h ht hw _ (by rw [hi]; exact .inr ⟨hop, .inr (.inr (.inr ⟨rfl, ⟨by simp, hn⟩⟩))⟩) ?_ (fun e => by rw [hi] at e; cases e) fun _ _ => hv)
  rw [hm, hi, show clsO { frAt fs t with st := 3, ph := 0 } false = 5 from rfl, lk_idle]
  exact h.2.2.2.2.2.1

/-- What comes of unlocking. -/
def UnD (w s v told over : Int) (fs ins wts row : List Int) (t : Nat) (r : UR) : Prop :=
  r.ft = 0 ∧ ((r.gv = 0 ∧ Fin r.w s v told over (splice fs (t * 10) (cellsF r.f)) ins wts row t r.dn 0) ∨ (r.gv = 2 ∧ r.dn = true ∧ Fin r.w (s + 1) v told over (splice fs (t * 10) (cellsF r.f)) ins wts row t r.dn 0))
theorem once3 (h : MInv w s v told over fs ins wts row) (ht : t < 5) (hi : i2b (gI ins t) = false) (hw : i2b (gI wts t) = false) (hop : (frAt fs t).op ≠ 0) (hst : (frAt fs t).st = 3) : UnD w s v told over fs ins wts row t (KeepUn w (frAt fs t)) := by
  have hv := h.2.2.2.2.2.2.2 t ht hi hst
  obtain ⟨hop, hf⟩ := once_begun h ht hi hop
  have hf : okU (frAt fs t) := by rcases hf with hf | hf | hf | hf <;> first | exact hf.2 | (rw [hf] at hst; exact absurd hst (by decide)) | (have := hf.1; omega)
  have hm : md fs ins t = clsU (frAt fs t) := by unfold md; rw [hi]; simp [clsO, hst]
  have hc := cn_ge fs ins t ht
  rw [hm] at hc
  obtain ⟨q1, q2⟩ := un_step h.2.2.2.2.2.1 hf hc
  have hgo : ∀ (w' s' : Int) (f' : Fr), Inv w' s' (mv (cn fs ins) (clsU (frAt fs t)) 0) → f' = F0 → MInv w' s' v told over (splice fs (t * 10) (cellsF f')) ins wts row := by
    intro w' s' f' hI e
    subst e
    refine upd h ht hw _ (by rw [hi]; exact .inl rfl) ?_ (fun e => by rw [hi] at e; cases e) fun _ e => absurd e (by decide)
    rw [hm, hi]
    exact hI
  refine ⟨q1, ?_⟩
  rcases q2 with ⟨d1, d2, d3, d4, d5⟩ | ⟨d1, d2, d3, d4, d5, d6, d7, d8⟩ | ⟨d1, d2, d3, d4, d5, d6, d7⟩
  · rw [d1]
    exact .inl ⟨d2, fin_go (hgo _ _ _ d4 d5) hi hv (by decide)⟩
  · rw [d1]
    refine .inl ⟨d2, fin_no (upd h ht hw _ (by rw [hi]; exact .inr ⟨by rw [d6, hop], .inr (.inr (.inr ⟨by rw [d7, hst], d5⟩))⟩) ?_ (fun e => by rw [hi] at e; cases e) fun _ _ => hv)⟩
    rw [hm, hi, show clsO (KeepUn w (frAt fs t)).f false = clsU (KeepUn w (frAt fs t)).f by simp [clsO, d7, hst]]
    exact d4
  · rw [d1]
    refine .inr ⟨d2, rfl, fin_go (hgo _ _ _ ?_ d3) hi hv (by decide)⟩
    rw [d4]; exact d6

/-! ### Steps of who does it -/

theorem ends_begun (h : MInv w s v told over fs ins wts row) (ht : t < 5) (hi : i2b (gI ins t) = true) : (frAt fs t).op = 35 ∧ (((frAt fs t).st = 0 ∧ (frAt fs t).ne = 0) ∨ ((frAt fs t).st = 1 ∧ okU (frAt fs t))) := by
  have h5 := h.2.2.2.2.1 t ht
  unfold okT at h5
  rw [hi] at h5
  exact h5
theorem end_locked (h : MInv w s v told over fs ins wts row) (ht : t < 5) (hi : i2b (gI ins t) = true) (hst : (frAt fs t).st = 0) : KeepBit w 0 = true := by
  have hm : md fs ins t = 5 := by unfold md; rw [hi]; simp [clsO, hst]
  have hc := cn_ge fs ins t ht
  rw [hm] at hc
  have h5 := h.2.2.2.2.2.1.2.2.2.2.2.1
  have := inv_s h.2.2.2.2.2.1
  rw [kb0]; simp; omega
theorem end0 (h : MInv w s v told over fs ins wts row) (ht : t < 5) (hi : i2b (gI ins t) = true) (hw : i2b (gI wts t) = false) (hst : (frAt fs t).st = 0) (vl : Int) : Fin w s 1 told over (splice fs (t * 10) (cellsF { frAt fs t with st := 1, ph := 0 })) ins wts row t false vl := by
  have hm : md fs ins t = 5 := by unfold md; rw [hi]; simp [clsO, hst]
  obtain ⟨hop, hf⟩ := ends_begun h ht hi
  have hn : (frAt fs t).ne = 0 := by rcases hf with hf | hf <;> first | exact hf.2 | (have := hf.1; omega)
  have hh := h
  obtain ⟨l1, l2, l3, h4, h5, h6, h7, h8⟩ := hh
  have hfs := put_same l1 ht { frAt fs t with st := 1, ph := 0 }
  refine fin_no (minv_upd h ht (put_len l1 ht _) l2 l3 (put_other l1 ht _) (fun _ _ _ => rfl) ?_ ?_ (row_keep h4 hw (put_other l1 ht _) (fun _ _ _ => rfl) fun _ _ _ => rfl) ?_ (fun _ => rfl) fun _ _ => rfl)
  · unfold okT; rw [hfs, hi]; exact ⟨hop, .inr ⟨rfl, ⟨by simp, hn⟩⟩⟩
  · rw [hm, show md (splice fs (t * 10) (cellsF { frAt fs t with st := 1, ph := 0 })) ins t = 5 by unfold md; rw [hfs, hi]; rfl, lk_idle]
    exact h6
  · rcases h7 with ⟨j1, j2, j3, j4⟩ | ⟨j1, j2, j3, e, j4, j5, j6, j7⟩ | ⟨j1, j2, j3, e, j4, j5, j6, j7⟩ | ⟨j1, j2, j3, j4⟩
    · have := j4 t ht; rw [hi] at this; cases this
    · have : t = e := Decidable.byContradiction fun x => by have := j7 t ht x; rw [hi] at this; cases this
      subst this
      exact .inr (.inr (.inl ⟨j1, j2, rfl, t, ht, hi, by rw [hfs], j7⟩))
    · have : t = e := Decidable.byContradiction fun x => by have := j7 t ht x; rw [hi] at this; cases this
      subst this
      rw [j6] at hst; exact absurd hst (by decide)
    · have := j4 t ht; rw [hi] at this; cases this
theorem end1 (h : MInv w s v told over fs ins wts row) (ht : t < 5) (hi : i2b (gI ins t) = true) (hw : i2b (gI wts t) = false) (hst : (frAt fs t).st = 1) : UnD w s v told over fs ins wts row t (KeepUn w (frAt fs t)) := by
  obtain ⟨hop, hf⟩ := ends_begun h ht hi
  have hf : okU (frAt fs t) := by rcases hf with hf | hf <;> first | exact hf.2 | (have := hf.1; omega)
  have hm : md fs ins t = clsU (frAt fs t) := by unfold md; rw [hi]; simp [clsO, hst]
  have hc := cn_ge fs ins t ht
  rw [hm] at hc
  obtain ⟨q1, q2⟩ := un_step h.2.2.2.2.2.1 hf hc
  have hh := h
  obtain ⟨l1, l2, l3, h4, h5, h6, h7, h8⟩ := hh
  have hb := bit_other l2 ht 0
  have hbt : i2b (gI (splice ins t [0]) t) = false := by rw [bit_same l2 ht]; rfl
  have hgo : ∀ (w' s' : Int) (f' : Fr), Inv w' s' (mv (cn fs ins) (clsU (frAt fs t)) 0) → f' = F0 → Fin w' s' v told over (splice fs (t * 10) (cellsF f')) ins wts row t true 0 := by
    intro w' s' f' hI e
    subst e
    refine ⟨(fun e => nomatch e), fun _ _ => ?_, (fun _ e => by rw [hi] at e; cases e), fun _ e => by rw [hi] at e; cases e⟩
    have hfs := put_same l1 ht F0
    refine minv_upd h ht (put_len l1 ht _) (bit_len l2 ht _) l3 (put_other l1 ht _) (fun k _ e => hb k e) ?_ ?_ (row_keep h4 hw (put_other l1 ht _) (fun k _ e => hb k e) fun _ _ _ => rfl) ?_ id fun _ e => ?_
    · unfold okT; rw [hfs, hbt]; exact .inl rfl
    · rw [hm, show md (splice fs (t * 10) (cellsF F0)) (splice ins t [0]) t = 0 by unfold md; rw [hfs, hbt]; rfl]
      exact hI
    · rcases h7 with ⟨j1, j2, j3, j4⟩ | ⟨j1, j2, j3, e, j4, j5, j6, j7⟩ | ⟨j1, j2, j3, e, j4, j5, j6, j7⟩ | ⟨j1, j2, j3, j4⟩
      · have := j4 t ht; rw [hi] at this; cases this
      · have : t = e := Decidable.byContradiction fun x => by have := j7 t ht x; rw [hi] at this; cases this
        subst this
        rw [j6] at hst; exact absurd hst (by decide)
      · have : t = e := Decidable.byContradiction fun x => by have := j7 t ht x; rw [hi] at this; cases this
        subst this
        refine .inr (.inr (.inr ⟨j1, by omega, j3, fun k hk => ?_⟩))
        by_cases x : k = t
        · rw [x]; exact hbt
        · rw [hb k x]; exact j7 k hk x
      · have := j4 t ht; rw [hi] at this; cases this
    · rw [hfs] at e; exact absurd e (by decide)
  refine ⟨q1, ?_⟩
  rcases q2 with ⟨d1, d2, d3, d4, d5⟩ | ⟨d1, d2, d3, d4, d5, d6, d7, d8⟩ | ⟨d1, d2, d3, d4, d5, d6, d7⟩
  · rw [d1]
    exact .inl ⟨d2, hgo _ _ _ d4 d5⟩
  · rw [d1]
    refine .inl ⟨d2, fin_no (upd h ht hw _ (by rw [hi]; exact ⟨by rw [d6, hop], .inr ⟨by rw [d7, hst], d5⟩⟩) ?_ (fun _ => d7) fun e => by rw [hi] at e; cases e)⟩
    rw [hm, hi, show clsO (KeepUn w (frAt fs t)).f true = clsU (KeepUn w (frAt fs t)).f by simp [clsO, d7, hst]]
    exact d4
  · rw [d1]
    refine .inr ⟨d2, rfl, hgo _ _ _ ?_ d3⟩
    rw [d4]; exact d6
end
theorem sp_sp {fs : List Int} {t : Nat} (hl : fs.length = 50) (ht : t < 5) (f g : Fr) : splice (splice fs (t * 10) (cellsF f)) (t * 10) (cellsF g) = splice fs (t * 10) (cellsF g) := by
  have h1 := put_len hl ht f
  have h2 := put_len h1 ht g
  have h3 := put_len hl ht g
  apply List.ext_getElem (by omega)
  intro j q1 q2
  have e : ∀ (l : List Int) (h : j < l.length), l[j] = gI l j := fun l h => by simp [gI, h]
  rw [e _ q1, e _ q2, gsp _ _ _ _ (by simp at h1 ⊢; omega), gsp fs _ (cellsF g) j (by simp; omega)]
  split
  · rfl
  · rw [gsp _ _ _ _ (by simp; omega)]
    exact if_neg (by assumption)
end Go.Proofs.Ytegdbpbafdpkfaa
