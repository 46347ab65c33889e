/- Tasks that lock and unlock: each step, and what holds behind it. No condition. -/
import Derived.Test.YtgnninoehdnciaaLMk
namespace Go.Proofs.Ytgnninoehdnciaa
open SY
open Go.RowKit
set_option linter.unusedSimpArgs false
set_option linter.unusedVariables false

abbrev fB (op : Int) : Fr := ⟨op, 0, 0, 0, -1, 0, false, false, 0, false⟩
theorem md_in {fs ins : List Int} {t : Nat} (h : i2b (gI ins t) = true) : md fs ins t = clsU (frAt fs t) := by unfold md; rw [if_pos h]
theorem md_out {fs ins : List Int} {t : Nat} (h : i2b (gI ins t) = false) : md fs ins t = clsL (frAt fs t) := by unfold md; rw [if_neg (by rw [h]; decide)]

theorem st_begin {w s : Int} {fs ins wts row : List Int} {t : Nat} (h : MInv w s fs ins wts row) (ht : t < 6) (hi : i2b (gI ins t) = false) (hw : i2b (gI wts t) = false) (h0 : frAt fs t = F0) : MInv w s (splice fs (t * 10) (cellsF (fB 26))) ins wts row := by
  have hh := h
  obtain ⟨l1, l2, l3, h4, h5, h6⟩ := hh
  refine minv_upd h ht (put_len l1 ht _) l2 l3 (put_other l1 ht _) (fun _ _ _ => rfl) ⟨fun e => (by rw [hi] at e; cases e), fun _ => .inr ?_⟩ ?_ (row_keep h4 hw (put_other l1 ht _) (fun _ _ _ => rfl) fun _ _ _ => rfl)
  · rw [put_same l1 ht]
    exact ⟨⟨by simp, by simp, by simp, by simp⟩, rfl⟩
  · rw [md_out hi, md_out hi, put_same l1 ht, h0, show clsL (fB 26) = clsL F0 from rfl, lk_idle]
    exact h6

theorem want_facts {fs ins : List Int} {t : Nat} (h : okT fs ins t) (hn : 0 < (frAt fs t).ne) : i2b (gI ins t) = false ∧ okL (frAt fs t) ∧ (frAt fs t).op = 26 ∧ (frAt fs t).ne = 2 ∧ (frAt fs t).ph = 3 := by
  cases hi : i2b (gI ins t)
  · rcases h.2 hi with h | ⟨h, hop⟩
    · rw [h] at hn; exact absurd hn (by decide)
    · have := h.2.1
      exact ⟨rfl, h, hop, by omega, by omega⟩
  · have := (h.1 hi).1.2; omega

theorem st_take {w s : Int} {fs ins wts row : List Int} {t : Nat} (h : MInv w s fs ins wts row) (ht : t < 6) (hw : i2b (gI wts t) = false) (hn : 0 < (frAt fs t).ne) (hs : 0 < s) : MInv w (s - 1) (splice fs (t * 10 + 8) [0]) ins wts row := by
  have hh := h
  obtain ⟨l1, l2, l3, h4, h5, h6⟩ := hh
  obtain ⟨hi, hok, hop, hne, hph⟩ := want_facts (h5 t ht) hn
  have m1 : md fs ins t = 2 := by rw [md_out hi]; simp [clsL, hne, hph]
  have m2 : md (splice fs (t * 10 + 8) [0]) ins t = 3 := by rw [md_out hi, ne_same l1 ht]; simp [clsL, hph]
  refine minv_upd h ht (ne_len l1 ht _) l2 l3 (ne_other l1 ht _) (fun _ _ _ => rfl) ⟨fun e => (by rw [hi] at e; cases e), fun _ => .inr ?_⟩ ?_ (row_keep h4 hw (ne_other l1 ht _) (fun _ _ _ => rfl) fun _ _ _ => rfl)
  · rw [ne_same l1 ht]
    exact ⟨⟨hok.1, .inl rfl, hok.2.2.1, hok.2.2.2⟩, hop⟩
  · rw [m1, m2]
    exact take_inv h6 hs (by have := cn_ge fs ins t ht; rwa [m1] at this)

theorem st_wait {w s : Int} {fs ins wts row row' : List Int} {t : Int} (h : MInv w s fs ins wts row) (h0 : 0 ≤ t) (h1 : t < 6) (hw : i2b (gI wts t.toNat) = false) (hn : 0 < (frAt fs t.toNat).ne) (hr : row' = row ++ [t] ∨ row' = t :: row) : MInv w s fs ins (splice wts t.toNat [1]) row' := by
  have ht : t.toNat < 6 := by omega
  have hh := h
  obtain ⟨l1, l2, l3, h4, h5, h6⟩ := hh
  obtain ⟨hi, hok, hop, hne, hph⟩ := want_facts (h5 _ ht) hn
  have hnot := row_in h4 h0 hw
  refine ⟨l1, l2, bit_len l3 ht _, ?_, h5, h6⟩
  have old : ∀ u ∈ row, (0 ≤ u ∧ u < 6) ∧ i2b (gI (splice wts t.toNat [1]) u.toNat) = true ∧ i2b (gI ins u.toNat) = false ∧ clsL (frAt fs u.toNat) = 2 := by
    intro u hu
    obtain ⟨q1, q2, q3, q4⟩ := h4.2 u hu
    have hne : u.toNat ≠ t.toNat := fun e => hnot (by rw [show t = u by omega]; exact hu)
    rw [bit_other l3 ht _ _ hne]
    exact ⟨q1, q2, q3, q4⟩
  have new : (0 ≤ t ∧ t < 6) ∧ i2b (gI (splice wts t.toNat [1]) t.toNat) = true ∧ i2b (gI ins t.toNat) = false ∧ clsL (frAt fs t.toNat) = 2 := by
    rw [bit_same l3 ht]
    exact ⟨⟨h0, h1⟩, rfl, hi, by simp [clsL, hne, hph]⟩
  rcases hr with rfl | rfl
  · refine ⟨?_, fun u hu => ?_⟩
    · rw [List.nodup_append]
      exact ⟨h4.1, by simp, fun a ha b hb => by simp at hb; rw [hb]; exact fun e => hnot (e ▸ ha)⟩
    · rw [List.mem_append, List.mem_singleton] at hu
      rcases hu with hu | rfl
      · exact old u hu
      · exact new
  · refine ⟨List.nodup_cons.2 ⟨hnot, h4.1⟩, fun u hu => ?_⟩
    rcases List.mem_cons.1 hu with rfl | hu
    · exact new
    · exact old u hu

theorem st_lock {w s : Int} {fs ins wts row : List Int} {t : Nat} {now pat : Int} (h : MInv w s fs ins wts row) (ht : t < 6) (hi : i2b (gI ins t) = false) (hw : i2b (gI wts t) = false) (hok : okL (frAt fs t)) (hop : (frAt fs t).op = 26) (hne : ¬ 0 < (frAt fs t).ne) :
    ((KeepLk w (frAt fs t) now pat).dn = false ∧ MInv (KeepLk w (frAt fs t) now pat).w s (splice fs (t * 10) (cellsF (KeepLk w (frAt fs t) now pat).f)) ins wts row) ∨
    ((KeepLk w (frAt fs t) now pat).dn = true ∧ (splice fs (t * 10) (cellsF (KeepLk w (frAt fs t) now pat).f)).length = 60 ∧ ins.length = 6 ∧ MInv (KeepLk w (frAt fs t) now pat).w s (splice (splice fs (t * 10) (cellsF (KeepLk w (frAt fs t) now pat).f)) (t * 10) (cellsF (fB 27))) (splice ins t [1]) wts row) := by
  have hh := h
  obtain ⟨l1, l2, l3, h4, h5, h6⟩ := hh
  have hn : (frAt fs t).ne = 0 := by have := hok.2.1; omega
  have hm := md_out (fs := fs) hi
  have hc := cn_ge fs ins t ht
  rw [hm] at hc
  rcases lk_step (now := now) (pat := pat) h6 hok hn hc (by have := cn_le fs ins 2; omega) with ⟨d1, d2, d3⟩ | ⟨d1, d2, d3, d4, d5⟩
  · refine .inr ⟨d1, put_len l1 ht _, l2, ?_⟩
    have hb := bit_other l2 ht 1
    refine minv_upd h ht (put_len (put_len l1 ht _) ht _) (bit_len l2 ht _) l3 (put_put l1 ht _ _) (fun k _ e => hb k e) ⟨fun _ => ?_, fun e => ?_⟩ ?_ (row_keep h4 hw (put_put l1 ht _ _) (fun k _ e => hb k e) fun _ _ _ => rfl)
    · rw [put_same (put_len l1 ht _) ht]
      exact ⟨⟨by simp, rfl⟩, rfl⟩
    · rw [bit_same l2 ht] at e; cases e
    · rw [hm, md_in (by rw [bit_same l2 ht]; rfl), put_same (put_len l1 ht _) ht]
      exact d2
  · refine .inl ⟨d1, ?_⟩
    refine minv_upd h ht (put_len l1 ht _) l2 l3 (put_other l1 ht _) (fun _ _ _ => rfl) ⟨fun e => (by rw [hi] at e; cases e), fun _ => .inr ?_⟩ ?_ (row_keep h4 hw (put_other l1 ht _) (fun _ _ _ => rfl) fun _ _ _ => rfl)
    · rw [put_same l1 ht]
      exact ⟨d3, by rw [d4, hop]⟩
    · rw [hm, md_out hi, put_same l1 ht]
      exact d2

def insD (ins : List Int) (t : Nat) (d : Bool) : List Int := if d = true then splice ins t [0] else ins
theorem insD_len {ins : List Int} {t : Nat} {d : Bool} (hl : ins.length = 6) (ht : t < 6) : (insD ins t d).length = 6 := by
  unfold insD; split
  · exact bit_len hl ht _
  · exact hl
theorem insD_other {ins : List Int} {t : Nat} {d : Bool} (hl : ins.length = 6) (ht : t < 6) (k : Nat) (e : k ≠ t) : gI (insD ins t d) k = gI ins k := by
  unfold insD; split
  · exact bit_other hl ht _ k e
  · rfl
theorem st_unlock {w s : Int} {fs ins wts row : List Int} {t : Nat} (h : MInv w s fs ins wts row) (ht : t < 6) (hi : i2b (gI ins t) = true) (hw : i2b (gI wts t) = false) :
    (KeepUn w (frAt fs t)).ft = 0 ∧
    (((KeepUn w (frAt fs t)).gv = 0 ∧ MInv (KeepUn w (frAt fs t)).w s (splice fs (t * 10) (cellsF (KeepUn w (frAt fs t)).f)) (insD ins t (KeepUn w (frAt fs t)).dn) wts row) ∨
     ((KeepUn w (frAt fs t)).gv = 2 ∧ (KeepUn w (frAt fs t)).dn = true ∧ MInv (KeepUn w (frAt fs t)).w (s + 1) (splice fs (t * 10) (cellsF (KeepUn w (frAt fs t)).f)) (insD ins t (KeepUn w (frAt fs t)).dn) wts row)) := by
  have hh := h
  obtain ⟨l1, l2, l3, h4, h5, h6⟩ := hh
  obtain ⟨hok, hop⟩ := (h5 t ht).1 hi
  have hm := md_in (fs := fs) hi
  have hc := cn_ge fs ins t ht
  rw [hm] at hc
  obtain ⟨q1, q2⟩ := un_step h6 hok hc
  refine ⟨q1, ?_⟩
  have hb := fun d => insD_other (d := d) l2 ht
  have h0 : i2b (gI (splice ins t [0]) t) = false := by rw [bit_same l2 ht]; rfl
  have hgo : ∀ (w' s' : Int) (f' : Fr), Inv w' s' (mv (cn fs ins) (clsU (frAt fs t)) 0) → f' = F0 → MInv w' s' (splice fs (t * 10) (cellsF f')) (insD ins t true) wts row := by
    intro w' s' f' hI e
    refine minv_upd h ht (put_len l1 ht _) (insD_len l2 ht) l3 (put_other l1 ht _) (fun k _ e => hb _ k e) ⟨fun e => ?_, fun _ => .inl ?_⟩ ?_ (row_keep h4 hw (put_other l1 ht _) (fun k _ e => hb _ k e) fun _ _ _ => rfl)
    · have : i2b (gI (splice ins t [0]) t) = true := e
      rw [h0] at this; cases this
    · rw [put_same l1 ht, e]
    · rw [hm, md_out (show i2b (gI (insD ins t true) t) = false from h0), put_same l1 ht, e]
      exact hI
  rcases q2 with ⟨d1, d2, d3, d4, d5⟩ | ⟨d1, d2, d3, d4, d5, d6, d7, d8⟩ | ⟨d1, d2, d3, d4, d5, d6, d7⟩
  · refine .inl ⟨d2, ?_⟩
    rw [d1]
    exact hgo _ _ _ d4 d5
  · refine .inl ⟨d2, ?_⟩
    rw [d1, show insD ins t false = ins from rfl]
    refine minv_upd h ht (put_len l1 ht _) l2 l3 (put_other l1 ht _) (fun _ _ _ => rfl) ⟨fun _ => ?_, fun e => (by rw [hi] at e; cases e)⟩ ?_ (row_keep h4 hw (put_other l1 ht _) (fun _ _ _ => rfl) fun _ _ _ => rfl)
    · rw [put_same l1 ht]
      exact ⟨d5, by rw [d6, hop]⟩
    · rw [hm, md_in hi, put_same l1 ht]
      exact d4
  · refine .inr ⟨d2, d1, ?_⟩
    rw [d1, d4]
    exact hgo _ _ _ d6 d3

/-- The first one of the row is let go. -/
theorem row_tail {fs ins wts row : List Int} {u : Int} (h : rowOK fs ins wts (u :: row)) : u ∉ row ∧ (0 ≤ u ∧ u < 6) ∧ i2b (gI ins u.toNat) = false ∧ clsL (frAt fs u.toNat) = 2 ∧ rowOK fs ins wts row := by
  obtain ⟨h1, h2⟩ := h
  rw [List.nodup_cons] at h1
  have := h2 u (List.mem_cons_self ..)
  exact ⟨h1.1, this.1, this.2.2.1, this.2.2.2, h1.2, fun v hv => h2 v (List.mem_cons_of_mem _ hv)⟩
theorem st_give {w s : Int} {fs ins wts row : List Int} {u : Int} (h : MInv w s fs ins wts (u :: row)) : MInv w s fs ins (splice wts u.toNat [0]) row := by
  obtain ⟨l1, l2, l3, h4, h5, h6⟩ := h
  obtain ⟨r1, r2, r3, r4, r5⟩ := row_tail h4
  have hu : u.toNat < 6 := by omega
  refine ⟨l1, l2, bit_len l3 hu _, ⟨r5.1, fun v hv => ?_⟩, h5, h6⟩
  obtain ⟨q1, q2, q3, q4⟩ := r5.2 v hv
  have hne : v.toNat ≠ u.toNat := fun e => r1 (by rw [show u = v by omega]; exact hv)
  rw [bit_other l3 hu _ _ hne]
  exact ⟨q1, q2, q3, q4⟩
theorem st_hand {w s : Int} {fs ins wts row : List Int} {u : Int} (h : MInv w s fs ins wts (u :: row)) (hs : 0 < s) : MInv w (s - 1) (splice fs (u.toNat * 10 + 8) [0]) ins (splice wts u.toNat [0]) row := by
  have h' := st_give h
  obtain ⟨l1, l2, l3, h4, h5, h6⟩ := h
  obtain ⟨r1, r2, r3, r4, r5⟩ := row_tail h4
  have hu : u.toNat < 6 := by omega
  have hn : 0 < (frAt fs u.toNat).ne := by
    unfold clsL at r4
    split at r4
    · split at r4
      · assumption
      · cases r4
    · split at r4
      · cases r4
      · split at r4 <;> cases r4
  refine st_take h' hu ?_ hn hs
  rw [bit_same l3 hu]; rfl
theorem inv_s {w s : Int} {C : Nat → Int} (h : Inv w s C) : 0 ≤ s ∧ s ≤ 1 ∧ 0 ≤ w ∧ w ≤ 1000 := by
  obtain ⟨s0, w0, w1, hC, hb, h5, hN, hS⟩ := h
  have c1 := hC 1; have c2 := hC 2; have c3 := hC 3; have c4 := hC 4; have c5 := hC 5; have c6 := hC 6; have c7 := hC 7
  refine ⟨s0, ?_, w0, w1⟩
  by_cases h : w % 8 < 4
  · have := hN h; omega
  · have := hS (by omega); omega
/-- Who has it is alone. -/
theorem alone {w s : Int} {fs ins wts row : List Int} {t k : Nat} (h : MInv w s fs ins wts row) (ht : t < 6) (hk : k < 6) (hne : k ≠ t) (h1 : i2b (gI ins t) = true) (h2 : gI fs (t * 10 + 2) = 0) (h3 : i2b (gI ins k) = true) (h4 : gI fs (k * 10 + 2) = 0) : False := by
  have m1 : md fs ins t = 5 := by rw [md_in h1]; unfold clsU; exact if_pos h2
  have m2 : md fs ins k = 5 := by rw [md_in h3]; unfold clsU; exact if_pos h4
  have := cn_two fs ins t k ht hk (Ne.symm hne) (by rw [m1, m2])
  rw [m1] at this
  have h5 := h.2.2.2.2.2.2.2.2.2.2.1
  omega
end Go.Proofs.Ytgnninoehdnciaa
