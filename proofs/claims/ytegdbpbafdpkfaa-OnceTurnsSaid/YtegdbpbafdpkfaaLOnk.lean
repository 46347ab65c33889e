/- Tasks that come to do something once: what holds of all of them stays when one makes a step. No condition. -/
import Derived.Test.YtegdbpbafdpkfaaLMi
namespace Go.Proofs.Ytegdbpbafdpkfaa
open SY
open Go.RowKit
set_option linter.unusedSimpArgs false
set_option linter.unusedVariables false

theorem gsp (l : List Int) (o : Nat) (m : List Int) (j : Nat) (h : o + m.length ≤ l.length) : gI (splice l o m) j = if o ≤ j ∧ j < o + m.length then gI m (j - o) else gI l j := by
  unfold gI splice
  simp only [List.getD_eq_getElem?_getD, List.getElem?_append, List.length_take]
  by_cases h1 : j < o
  · rw [if_pos (by omega), if_neg (by omega), List.getElem?_take, if_pos h1]
  · rw [if_neg (by omega), show min o l.length = o by omega]
    by_cases h2 : j < o + m.length
    · rw [if_pos (by omega), if_pos (by omega)]
    · rw [if_neg (by omega), if_neg (by omega), List.getElem?_drop]
      congr 2
      omega
theorem lsp (l : List Int) (o : Nat) (m : List Int) (h : o + m.length ≤ l.length) : (splice l o m).length = l.length := by
  simp [splice]; omega
theorem i2b_b2i (b : Bool) : i2b (b2i b) = b := by cases b <;> rfl

def frAt (fs : List Int) (t : Nat) : Fr := ⟨gI fs (t * 10), gI fs (t * 10 + 1), gI fs (t * 10 + 2), gI fs (t * 10 + 3), gI fs (t * 10 + 4), gI fs (t * 10 + 5), i2b (gI fs (t * 10 + 6)), i2b (gI fs (t * 10 + 7)), gI fs (t * 10 + 8), i2b (gI fs (t * 10 + 9))⟩
/-- The class of a task; ends: it does it. -/
def clsO (f : Fr) (e : Bool) : Nat := match e with
  | true => if f.st = 0 then 5 else clsU f
  | false => if f.st = 1 then clsL f else if f.st = 2 then 5 else if f.st = 3 then clsU f else 0
abbrev fB (op : Int) : Fr := ⟨op, 0, 0, 0, -1, 0, false, false, 0, false⟩
def okO (f : Fr) (e : Bool) : Prop := match e with
  | true => f.op = 35 ∧ ((f.st = 0 ∧ f.ne = 0) ∨ (f.st = 1 ∧ okU f))
  | false => f = F0 ∨ (f.op = 34 ∧ (f = fB 34 ∨ (f.st = 1 ∧ okL f) ∨ (f.st = 2 ∧ f.ne = 0) ∨ (f.st = 3 ∧ okU f)))
def md (fs ins : List Int) (t : Nat) : Nat := clsO (frAt fs t) (i2b (gI ins t))
def cn (fs ins : List Int) (c : Nat) : Int := dl (md fs ins 0) c + dl (md fs ins 1) c + dl (md fs ins 2) c + dl (md fs ins 3) c + dl (md fs ins 4) c
def okT (fs ins : List Int) (t : Nat) : Prop := okO (frAt fs t) (i2b (gI ins t))
def rowOK (fs ins wts row : List Int) : Prop := row.Nodup ∧ ∀ u ∈ row, (0 ≤ u ∧ u < 5) ∧ i2b (gI wts u.toNat) = true ∧ md fs ins u.toNat = 2
/-- Who was told, and who has done it. -/
def JJ (v told over : Int) (fs ins : List Int) : Prop :=
  (told = 0 ∧ over = 0 ∧ v = 0 ∧ ∀ t, t < 5 → i2b (gI ins t) = false) ∨
  (told = 1 ∧ over = 0 ∧ v = 0 ∧ ∃ e, e < 5 ∧ i2b (gI ins e) = true ∧ (frAt fs e).st = 0 ∧ ∀ t, t < 5 → t ≠ e → i2b (gI ins t) = false) ∨
  (told = 1 ∧ over = 0 ∧ v = 1 ∧ ∃ e, e < 5 ∧ i2b (gI ins e) = true ∧ (frAt fs e).st = 1 ∧ ∀ t, t < 5 → t ≠ e → i2b (gI ins t) = false) ∨
  (told = 1 ∧ over = 1 ∧ v = 1 ∧ ∀ t, t < 5 → i2b (gI ins t) = false)
def K3 (v : Int) (fs ins : List Int) : Prop := ∀ t, t < 5 → i2b (gI ins t) = false → (frAt fs t).st = 3 → v = 1
def MInv (w s v told over : Int) (fs ins wts row : List Int) : Prop := fs.length = 50 ∧ ins.length = 5 ∧ wts.length = 5 ∧ rowOK fs ins wts row ∧ (∀ t, t < 5 → okT fs ins t) ∧ Inv w s (cn fs ins) ∧ JJ v told over fs ins ∧ K3 v fs ins

theorem dl_self (a : Nat) : dl a a = 1 := if_pos rfl
theorem dl_nn (a c : Nat) : 0 ≤ dl a c ∧ dl a c ≤ 1 := by unfold dl; split <;> omega
theorem cn_ge (fs ins : List Int) (t : Nat) (ht : t < 5) : 1 ≤ cn fs ins (md fs ins t) := by
  have n := fun k => dl_nn (md fs ins k) (md fs ins t)
  have n0 := n 0; have n1 := n 1; have n2 := n 2; have n3 := n 3; have n4 := n 4
  have h1 : t = 0 ∨ t = 1 ∨ t = 2 ∨ t = 3 ∨ t = 4 := by omega
  have s1 : dl (md fs ins t) (md fs ins t) = 1 := dl_self _
  unfold cn
  rcases h1 with rfl | rfl | rfl | rfl | rfl <;> omega
theorem cn_le (fs ins : List Int) (c : Nat) : cn fs ins c ≤ 5 := by
  have n := fun k => dl_nn (md fs ins k) c
  have := n 0; have := n 1; have := n 2; have := n 3; have := n 4
  unfold cn; omega
theorem cn_two (fs ins : List Int) (t k : Nat) (ht : t < 5) (hk : k < 5) (h : t ≠ k) (e : md fs ins t = md fs ins k) : 2 ≤ cn fs ins (md fs ins t) := by
  have n := fun k => dl_nn (md fs ins k) (md fs ins t)
  have n0 := n 0; have n1 := n 1; have n2 := n 2; have n3 := n 3; have n4 := n 4
  have h1 : t = 0 ∨ t = 1 ∨ t = 2 ∨ t = 3 ∨ t = 4 := by omega
  have h2 : k = 0 ∨ k = 1 ∨ k = 2 ∨ k = 3 ∨ k = 4 := by omega
  have s1 : dl (md fs ins t) (md fs ins t) = 1 := dl_self _
  have s2 : dl (md fs ins k) (md fs ins t) = 1 := by rw [e]; exact dl_self _
  unfold cn
  rcases h1 with rfl | rfl | rfl | rfl | rfl <;> rcases h2 with rfl | rfl | rfl | rfl | rfl <;> first | omega | (exfalso; exact h rfl)
theorem cn_mv {fs ins fs' ins' : List Int} {t : Nat} (ht : t < 5) (h : ∀ k, k < 5 → k ≠ t → md fs' ins' k = md fs ins k) : cn fs' ins' = mv (cn fs ins) (md fs ins t) (md fs' ins' t) := by
  funext c
  have h0 := h 0 (by decide); have h1 := h 1 (by decide); have h2 := h 2 (by decide); have h3 := h 3 (by decide); have h4 := h 4 (by decide)
  have hh : t = 0 ∨ t = 1 ∨ t = 2 ∨ t = 3 ∨ t = 4 := by omega
  unfold cn mv
  rcases hh with rfl | rfl | rfl | rfl | rfl <;> simp at h0 h1 h2 h3 h4 <;> simp only [*] <;> omega

theorem minv_upd {w s v told over w' s' v' told' over' : Int} {fs ins wts row fs' ins' wts' row' : List Int} {t : Nat} (h : MInv w s v told over fs ins wts row) (ht : t < 5) (l1 : fs'.length = 50) (l2 : ins'.length = 5) (l3 : wts'.length = 5)
    (hfr : ∀ k, k < 5 → k ≠ t → frAt fs' k = frAt fs k) (hin : ∀ k, k < 5 → k ≠ t → gI ins' k = gI ins k) (hok : okT fs' ins' t) (hinv : Inv w' s' (mv (cn fs ins) (md fs ins t) (md fs' ins' t))) (hrow : rowOK fs' ins' wts' row')
    (hj : JJ v' told' over' fs' ins') (hk : v = 1 → v' = 1) (hk' : i2b (gI ins' t) = false → (frAt fs' t).st = 3 → v' = 1) : MInv w' s' v' told' over' fs' ins' wts' row' := by
  obtain ⟨h1, h2, h3, h4, h5, h6, h7, h8⟩ := h
  refine ⟨l1, l2, l3, hrow, fun k hk => ?_, ?_, hj, fun k hkk hi hs => ?_⟩
  · by_cases e : k = t
    · rw [e]; exact hok
    · have := h5 k hk
      unfold okT at this ⊢
      rw [hfr k hk e, hin k hk e]
      exact this
  · have e := cn_mv (fs := fs) (ins := ins) (fs' := fs') (ins' := ins') ht (fun k hk e => by unfold md; rw [hfr k hk e, hin k hk e])
    rw [e]
    exact hinv
  · by_cases e : k = t
    · rw [e] at hi hs; exact hk' hi hs
    · rw [hin k hkk e] at hi
      rw [hfr k hkk e] at hs
      exact hk (h8 k hkk hi hs)
theorem jj_keep {v told over : Int} {fs ins fs' : List Int} (h : JJ v told over fs ins) (hs : ∀ k, k < 5 → i2b (gI ins k) = true → (frAt fs' k).st = (frAt fs k).st) : JJ v told over fs' ins := by
  rcases h with h | ⟨h1, h2, h3, e, h4, h5, h6, h7⟩ | ⟨h1, h2, h3, e, h4, h5, h6, h7⟩ | h
  · exact .inl h
  · exact .inr (.inl ⟨h1, h2, h3, e, h4, h5, by rw [hs e h4 h5, h6], h7⟩)
  · exact .inr (.inr (.inl ⟨h1, h2, h3, e, h4, h5, by rw [hs e h4 h5, h6], h7⟩))
  · exact .inr (.inr (.inr h))
theorem row_keep {fs ins wts row fs' ins' wts' : List Int} {t : Nat} (h : rowOK fs ins wts row) (hw : i2b (gI wts t) = false)
    (hfr : ∀ k, k < 5 → k ≠ t → frAt fs' k = frAt fs k) (hin : ∀ k, k < 5 → k ≠ t → gI ins' k = gI ins k) (hwt : ∀ k, k < 5 → k ≠ t → gI wts' k = gI wts k) : rowOK fs' ins' wts' row := by
  refine ⟨h.1, fun u hu => ?_⟩
  obtain ⟨h1, h2, h3⟩ := h.2 u hu
  have hne : u.toNat ≠ t := fun e => by rw [e, hw] at h2; cases h2
  unfold md at h3 ⊢
  rw [hfr _ (by omega) hne, hin _ (by omega) hne, hwt _ (by omega) hne]
  exact ⟨h1, h2, h3⟩
theorem row_in {fs ins wts row : List Int} {t : Int} (h : rowOK fs ins wts row) (ht : 0 ≤ t) (hw : i2b (gI wts t.toNat) = false) : t ∉ row := fun hm => by
  have := (h.2 t hm).2.1
  rw [hw] at this; cases this
theorem row_len {fs ins wts row : List Int} (h : rowOK fs ins wts row) : row.length ≤ 5 := by
  have key : ∀ l : List Int, l.Nodup → (∀ u ∈ l, 0 ≤ u ∧ u < 5) → l.length = (l.contains 0).toNat + (l.contains 1).toNat + (l.contains 2).toNat + (l.contains 3).toNat + (l.contains 4).toNat := by
    intro l
    induction l with
    | nil => intro _ _; rfl
    | cons a l ih =>
      intro hn hr
      rw [List.nodup_cons] at hn
      have := ih hn.2 fun u hu => hr u (List.mem_cons_of_mem _ hu)
      have ha := hr a (List.mem_cons_self ..)
      have hc : l.contains a = false := by simpa using hn.1
      have hh : a = 0 ∨ a = 1 ∨ a = 2 ∨ a = 3 ∨ a = 4 := by omega
      simp only [List.length_cons, List.contains_cons]
      rcases hh with rfl | rfl | rfl | rfl | rfl <;> simp only [hc] at this <;> simp [hc] <;> simp at this <;> omega
  rw [key row h.1 fun u hu => (h.2 u hu).1]
  have b : ∀ x : Bool, x.toNat ≤ 1 := fun x => by cases x <;> decide
  have := b (row.contains 0); have := b (row.contains 1); have := b (row.contains 2); have := b (row.contains 3); have := b (row.contains 4)
  omega

/-! ### Frames and bits, put -/
abbrev cellsF (f : Fr) : List Int := [f.op, f.st, f.ph, f.od, f.si, f.le, b2i f.aw, b2i f.sv, f.ne, b2i f.fr]
theorem put_same {fs : List Int} {t : Nat} (hl : fs.length = 50) (ht : t < 5) (f : Fr) : frAt (splice fs (t * 10) (cellsF f)) t = f := by
  have hb : t * 10 + (cellsF f).length ≤ fs.length := by simp; omega
  have g : ∀ j, j < 10 → gI (splice fs (t * 10) (cellsF f)) (t * 10 + j) = gI (cellsF f) j := fun j hj => by
    rw [gsp _ _ _ _ hb, if_pos (by simp; omega)]; congr 1; omega
  obtain ⟨op, st, ph, od, si, le, aw, sv, ne, fr⟩ := f
  unfold frAt
  have g0 := g 0 (by omega)
  simp only [Nat.add_zero] at g0
  rw [g0, g 1 (by omega), g 2 (by omega), g 3 (by omega), g 4 (by omega), g 5 (by omega), g 6 (by omega), g 7 (by omega), g 8 (by omega), g 9 (by omega)]
  simp [gI, i2b_b2i]
theorem put_other {fs : List Int} {t : Nat} (hl : fs.length = 50) (ht : t < 5) (f : Fr) (k : Nat) (hk : k < 5) (hne : k ≠ t) : frAt (splice fs (t * 10) (cellsF f)) k = frAt fs k := by
  have hb : t * 10 + (cellsF f).length ≤ fs.length := by simp; omega
  have g : ∀ j, j < 10 → gI (splice fs (t * 10) (cellsF f)) (k * 10 + j) = gI fs (k * 10 + j) := fun j hj => by
    rw [gsp _ _ _ _ hb, if_neg (by simp; omega)]
  unfold frAt
  have g0 := g 0 (by omega)
  simp only [Nat.add_zero] at g0
  rw [g0, g 1 (by omega), g 2 (by omega), g 3 (by omega), g 4 (by omega), g 5 (by omega), g 6 (by omega), g 7 (by omega), g 8 (by omega), g 9 (by omega)]
theorem put_len {fs : List Int} {t : Nat} (hl : fs.length = 50) (ht : t < 5) (f : Fr) : (splice fs (t * 10) (cellsF f)).length = 50 := by
  rw [lsp _ _ _ (by simp; omega), hl]
theorem ne_same {fs : List Int} {t : Nat} (hl : fs.length = 50) (ht : t < 5) (v : Int) : frAt (splice fs (t * 10 + 8) [v]) t = { frAt fs t with ne := v } := by
  have g : ∀ j, j < 10 → gI (splice fs (t * 10 + 8) [v]) (t * 10 + j) = if j = 8 then v else gI fs (t * 10 + j) := fun j hj => by
    rw [gsp _ _ _ _ (by simp; omega)]
    by_cases e : j = 8
    · subst e; rw [if_pos (by simp), if_pos rfl]; simp [gI]
    · rw [if_neg (by simp; omega), if_neg e]
  unfold frAt
  have g0 := g 0 (by omega)
  simp only [Nat.add_zero] at g0
  rw [g0, g 1 (by omega), g 2 (by omega), g 3 (by omega), g 4 (by omega), g 5 (by omega), g 6 (by omega), g 7 (by omega), g 8 (by omega), g 9 (by omega)]
  simp
theorem ne_other {fs : List Int} {t : Nat} (hl : fs.length = 50) (ht : t < 5) (v : Int) (k : Nat) (hk : k < 5) (hne : k ≠ t) : frAt (splice fs (t * 10 + 8) [v]) k = frAt fs k := by
  have g : ∀ j, j < 10 → gI (splice fs (t * 10 + 8) [v]) (k * 10 + j) = gI fs (k * 10 + j) := fun j hj => by
    rw [gsp _ _ _ _ (by simp; omega), if_neg (by simp; omega)]
  unfold frAt
  have g0 := g 0 (by omega)
  simp only [Nat.add_zero] at g0
  rw [g0, g 1 (by omega), g 2 (by omega), g 3 (by omega), g 4 (by omega), g 5 (by omega), g 6 (by omega), g 7 (by omega), g 8 (by omega), g 9 (by omega)]
theorem ne_len {fs : List Int} {t : Nat} (hl : fs.length = 50) (ht : t < 5) (v : Int) : (splice fs (t * 10 + 8) [v]).length = 50 := by
  rw [lsp _ _ _ (by simp; omega), hl]
theorem bit_same {l : List Int} {t : Nat} (hl : l.length = 5) (ht : t < 5) (v : Int) : gI (splice l t [v]) t = v := by
  rw [gsp _ _ _ _ (by simp; omega), if_pos (by simp)]; simp [gI]
theorem bit_other {l : List Int} {t : Nat} (hl : l.length = 5) (ht : t < 5) (v : Int) (k : Nat) (hne : k ≠ t) : gI (splice l t [v]) k = gI l k := by
  rw [gsp _ _ _ _ (by simp; omega), if_neg (by simp; omega)]
theorem bit_len {l : List Int} {t : Nat} (hl : l.length = 5) (ht : t < 5) (v : Int) : (splice l t [v]).length = 5 := by
  rw [lsp _ _ _ (by simp; omega), hl]
theorem put_put {fs : List Int} {t : Nat} (hl : fs.length = 50) (ht : t < 5) (f g : Fr) : ∀ k, k < 5 → k ≠ t → frAt (splice (splice fs (t * 10) (cellsF f)) (t * 10) (cellsF g)) k = frAt fs k := fun k hk e => by
  rw [put_other (put_len hl ht f) ht g k hk e, put_other hl ht f k hk e]
end Go.Proofs.Ytegdbpbafdpkfaa
