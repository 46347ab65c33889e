/- What holds of a mutex's words while tasks lock and unlock: how many tasks are of which class. No condition. -/
import Derived.Test.YtegdbpbafdpkfaaLMu
namespace Go.Proofs.Ytegdbpbafdpkfaa
open SY
open Go.RowKit
set_option linter.unusedSimpArgs false
set_option linter.unusedVariables false

/-- The class of a task that is locking: 0 none counted, 1 awoke, 2 it wants a unit, 3 it has got one, 4 it is handed the mutex. -/
def clsL (f : Fr) : Nat := if f.ph = 3 then (if f.ne > 0 then 2 else 3) else if f.ph = 4 then 4 else if f.aw = true ∧ (f.ph = 1 ∨ f.ph = 2) then 1 else 0
/-- The class of a task that has it, or unlocks: 5 it has it, 6 it hands it over, 7 it gives a unit. -/
def clsU (f : Fr) : Nat := if f.ph = 0 then 5 else if f.ph = 2 then 6 else if f.ph = 3 then 7 else 0
def okL (f : Fr) : Prop := (0 ≤ f.ph ∧ f.ph ≤ 4) ∧ (f.ne = 0 ∨ (f.ne = 2 ∧ f.ph = 3)) ∧ (f.ph ≠ 4 → f.sv = true → f.aw = true) ∧ (f.ph = 0 → f.aw = false)
def okU (f : Fr) : Prop := (0 ≤ f.ph ∧ f.ph ≤ 3) ∧ f.ne = 0

def dl (a c : Nat) : Int := if a = c then 1 else 0
def mv (C : Nat → Int) (a b : Nat) : Nat → Int := fun c => C c - dl a c + dl b c
def Inv (w s : Int) (C : Nat → Int) : Prop := 0 ≤ s ∧ 0 ≤ w ∧ w ≤ 1000 ∧ (∀ c, 0 ≤ C c) ∧ C 2 + C 3 + C 4 ≤ 100 ∧ C 5 = w % 2 ∧
  (w % 8 < 4 → C 7 + s + C 3 + C 1 = w / 2 % 2 ∧ w / 8 = C 2 - s - C 7 ∧ C 4 = 0 ∧ C 6 = 0) ∧
  (4 ≤ w % 8 → C 1 = 0 ∧ C 7 = 0 ∧ w / 2 % 2 = 0 ∧ C 6 + s + C 3 + C 4 = 1 - w % 2 ∧ w / 8 = C 2 + C 3 + C 4)
theorem kb0 (x : Int) : KeepBit x 0 = decide (x % 2 = 1) := by
  unfold KeepBit lo3
  apply decide_eq_decide.2
  simp only [Nat.pow_zero, Nat.div_one]
  omega
theorem kb1 (x : Int) : KeepBit x 1 = decide (x / 2 % 2 = 1) := by
  unfold KeepBit lo3
  apply decide_eq_decide.2
  simp only [Nat.pow_one]
  omega
theorem kb2 (x : Int) : KeepBit x 2 = decide (4 ≤ x % 8) := by
  unfold KeepBit lo3
  apply decide_eq_decide.2
  simp only [show (2 : Nat) ^ 2 = 4 from rfl]
  omega
theorem st_cases (x : Int) (sv aw : Bool) (h0 : 0 ≤ x) (h1 : x ≤ 1000) : KeepSt x sv aw = x + (if x % 2 = 0 ∧ x % 8 < 4 then 1 else 0) + (if x % 2 = 1 ∨ 4 ≤ x % 8 then 8 else 0) + (if sv = true ∧ x % 2 = 1 ∧ x % 8 < 4 then 4 else 0) - (if aw = true ∧ x / 2 % 2 = 1 then 2 else 0) := by
  have h : x % 8 = 0 ∨ x % 8 = 1 ∨ x % 8 = 2 ∨ x % 8 = 3 ∨ x % 8 = 4 ∨ x % 8 = 5 ∨ x % 8 = 6 ∨ x % 8 = 7 := by omega
  unfold KeepSt stD lo3
  simp only [IntKind.wrap_i64]
  rcases h with h | h | h | h | h | h | h | h <;> rw [h] <;> cases sv <;> cases aw <;> simp <;> omega

/-- One class more, one less. -/
theorem mv_inv {w s : Int} {C : Nat → Int} {a b : Nat} (h : Inv w s C) (ha : 1 ≤ C a) : ∀ c, 0 ≤ mv C a b c := by
  intro c
  have := h.2.2.2.1 c
  unfold mv dl
  split <;> split <;> (try subst_vars) <;> omega
theorem lk_idle {C : Nat → Int} {a : Nat} : mv C a a = C := by funext c; unfold mv; omega

/-- A step of locking of one that doesn't want a unit. -/
theorem lk_step {w s : Int} {C : Nat → Int} {f : Fr} {now pat : Int} (h : Inv w s C) (hf : okL f) (hn : f.ne = 0) (hc : 1 ≤ C (clsL f)) (hl : C (2 : Nat) ≤ 10) :
    ((KeepLk w f now pat).dn = true ∧ Inv (KeepLk w f now pat).w s (mv C (clsL f) 5) ∧ (KeepLk w f now pat).f = F0) ∨
    ((KeepLk w f now pat).dn = false ∧ Inv (KeepLk w f now pat).w s (mv C (clsL f) (clsL (KeepLk w f now pat).f)) ∧ okL (KeepLk w f now pat).f ∧ (KeepLk w f now pat).f.op = f.op ∧ (KeepLk w f now pat).f.st = f.st) := by
  have hp := fun b => mv_inv (b := b) h hc
  obtain ⟨⟨p0, p4⟩, hne, hsv, haw⟩ := hf
  obtain ⟨s0, w0, w1, hC, hb, h5, hN, hS⟩ := h
  have c1 := hC 1; have c2 := hC 2; have c3 := hC 3; have c4 := hC 4; have c5 := hC 5; have c6 := hC 6; have c7 := hC 7
  obtain ⟨op, st, ph, od, si, le, aw, sv, ne, fr⟩ := f
  simp only at p0 p4 hne hsv haw hn
  subst hn
  have hph : ph = 0 ∨ ph = 1 ∨ ph = 2 ∨ ph = 3 ∨ ph = 4 := by omega
  rcases hph with rfl | rfl | rfl | rfl | rfl
  · -- try
    obtain rfl : aw = false := haw rfl
    by_cases hw : w = 0
    · subst hw
      refine .inl ?_
      simp only [KeepLk, clsL] at hp ⊢
      refine ⟨by simp, ⟨s0, by simp, by simp, by simpa using hp 5, ?_, ?_, ?_, ?_⟩, by simp⟩
      all_goals (simp [mv, dl] <;> omega)
    · refine .inr ?_
      simp [KeepLk, hw, clsL, lk_idle, Inv, okL]
      refine ⟨⟨s0, w0, w1, hC, hb, h5, hN, hS⟩, ?_⟩
      have h := hsv (by decide)
      cases sv <;> simp_all
  · -- look
    refine .inr ?_
    simp [KeepLk, clsL, lk_idle, Inv, okL]
    exact ⟨⟨s0, w0, w1, hC, hb, h5, hN, hS⟩, hsv (by decide)⟩
  · -- swap
    by_cases hw : w = od
    · subst hw
      have hst := st_cases w sv aw w0 w1
      by_cases hfree : KeepBit w 0 = false ∧ KeepBit w 2 = false
      · refine .inl ?_
        have e : KeepLk w ⟨op, st, 2, w, si, le, aw, sv, 0, fr⟩ now pat = ⟨KeepSt w sv aw, F0, true⟩ := by simp [KeepLk, hfree]
        rw [e]
        simp only [kb0, kb2, decide_eq_false_iff_not] at hfree
        have hN := hN (by omega)
        simp only [clsL] at hp hc ⊢
        cases aw
        · simp at hp hc hst ⊢
          rw [if_pos (by omega), if_neg (by omega), if_neg (by omega)] at hst
          refine ⟨s0, by omega, by omega, by simpa using hp 5, ?_, ?_, ?_, ?_⟩
          all_goals (simp [mv, dl] <;> omega)
        · simp at hp hc hst ⊢
          rw [if_pos (by omega), if_neg (by omega), if_neg (by omega), if_pos (by omega)] at hst
          refine ⟨s0, by omega, by omega, by simpa using hp 5, ?_, ?_, ?_, ?_⟩
          all_goals (simp [mv, dl] <;> omega)
      · refine .inr ?_
        have e : KeepLk w ⟨op, st, 2, w, si, le, aw, sv, 0, fr⟩ now pat = ⟨KeepSt w sv aw, ⟨op, st, 3, w, if si ≥ 0 then si else now, le, aw, sv, 2, decide (si ≥ 0)⟩, false⟩ := by simp only [KeepLk]; simp [hfree]
        rw [e]
        simp only [kb0, kb2, decide_eq_false_iff_not] at hfree
        have hb' : w % 2 = 1 ∨ 4 ≤ w % 8 := by omega
        simp only [clsL] at hp hc ⊢
        refine ⟨by trivial, ?_, ⟨by simp, by simp, fun _ => hsv (by decide), by simp⟩, by trivial, by trivial⟩
        rw [if_neg (by omega), if_pos hb'] at hst
        by_cases h4 : 4 ≤ w % 8
        · have hS := hS h4
          cases aw
          · simp at hp hc hst ⊢
            rw [if_neg (by omega)] at hst
            refine ⟨s0, by omega, by omega, by simpa using hp 2, ?_, ?_, ?_, ?_⟩
            all_goals (simp [mv, dl] <;> omega)
          · simp at hp hc hst ⊢
            omega
        · have hN := hN (by omega)
          cases aw
          · have : sv = false := by cases sv <;> simp_all
            subst this
            simp at hp hc hst ⊢
            refine ⟨s0, by omega, by omega, by simpa using hp 2, ?_, ?_, ?_, ?_⟩
            all_goals (simp [mv, dl] <;> omega)
          · simp at hp hc hst ⊢
            rw [if_pos (show w / 2 % 2 = 1 by omega)] at hst
            cases sv
            · simp at hst
              refine ⟨s0, by omega, by omega, by simpa using hp 2, ?_, ?_, ?_, ?_⟩
              all_goals (simp [mv, dl] <;> omega)
            · simp at hst
              rw [if_pos (by omega)] at hst
              refine ⟨s0, by omega, by omega, by simpa using hp 2, ?_, ?_, ?_, ?_⟩
              all_goals (simp [mv, dl] <;> omega)
    · refine .inr ?_
      simp [KeepLk, hw, clsL, lk_idle, Inv, okL]
      exact ⟨⟨s0, w0, w1, hC, hb, h5, hN, hS⟩, hsv (by decide)⟩
  · -- got
    refine .inr ?_
    by_cases h2 : 4 ≤ w % 8
    · have hS := hS h2
      simp [KeepLk, kb2, h2, clsL, okL] at hp hc ⊢
      refine ⟨s0, by omega, by omega, by simpa using hp 4, ?_, ?_, ?_, ?_⟩
      all_goals (simp [mv, dl] <;> omega)
    · have hN := hN (by omega)
      simp [KeepLk, kb2, h2, clsL, okL] at hp hc ⊢
      refine ⟨s0, by omega, by omega, by simpa using hp 1, ?_, ?_, ?_, ?_⟩
      all_goals (simp [mv, dl] <;> omega)
  · -- own
    refine .inl ?_
    have hc : 1 ≤ C 4 := by simpa [clsL] using hc
    have h4 : 4 ≤ w % 8 := by
      rcases Int.lt_or_le (w % 8) 4 with h | h
      · have := hN h; omega
      · exact h
    have hS := hS h4
    have hcl : clsL ⟨op, st, 4, od, si, le, aw, sv, 0, fr⟩ = 4 := rfl
    rw [hcl] at hp ⊢
    by_cases hx : sv = false ∨ od / 8 = 1
    · have e : KeepLk w ⟨op, st, 4, od, si, le, aw, sv, 0, fr⟩ now pat = ⟨IntKind.wrap .i64 (w - 11), F0, true⟩ := by simp only [KeepLk]; simp [hx]
      rw [e, w_i64 (by omega)]
      refine ⟨rfl, ⟨s0, ?_, ?_, hp 5, ?_, ?_, ?_, ?_⟩, rfl⟩
      all_goals (simp [mv, dl] <;> omega)
    · have e : KeepLk w ⟨op, st, 4, od, si, le, aw, sv, 0, fr⟩ now pat = ⟨IntKind.wrap .i64 (w - 7), F0, true⟩ := by simp only [KeepLk]; simp [hx]
      rw [e, w_i64 (by omega)]
      refine ⟨rfl, ⟨s0, ?_, ?_, hp 5, ?_, ?_, ?_, ?_⟩, rfl⟩
      all_goals (simp [mv, dl] <;> omega)

/-- A step of unlocking. -/
theorem un_step {w s : Int} {C : Nat → Int} {f : Fr} (h : Inv w s C) (hf : okU f) (hc : 1 ≤ C (clsU f)) :
    (KeepUn w f).ft = 0 ∧
    (((KeepUn w f).dn = true ∧ (KeepUn w f).gv = 0 ∧ (KeepUn w f).hd = false ∧ Inv (KeepUn w f).w s (mv C (clsU f) 0) ∧ (KeepUn w f).f = F0) ∨
     ((KeepUn w f).dn = false ∧ (KeepUn w f).gv = 0 ∧ (KeepUn w f).hd = false ∧ Inv (KeepUn w f).w s (mv C (clsU f) (clsU (KeepUn w f).f)) ∧ okU (KeepUn w f).f ∧ (KeepUn w f).f.op = f.op ∧ (KeepUn w f).f.st = f.st ∧ (KeepUn w f).f.ph ≠ 0) ∨
     ((KeepUn w f).dn = true ∧ (KeepUn w f).gv = 2 ∧ (KeepUn w f).f = F0 ∧ (KeepUn w f).w = w ∧ f.ph ≠ 0 ∧ Inv w (s + 1) (mv C (clsU f) 0) ∧ ((KeepUn w f).hd = true → 4 ≤ w % 8))) := by
  have hp := fun b => mv_inv (b := b) h hc
  obtain ⟨⟨p0, p3⟩, hne⟩ := hf
  obtain ⟨s0, w0, w1, hC, hb, h5, hN, hS⟩ := h
  have c1 := hC 1; have c2 := hC 2; have c3 := hC 3; have c4 := hC 4; have c5 := hC 5; have c6 := hC 6; have c7 := hC 7
  obtain ⟨op, st, ph, od, si, le, aw, sv, ne, fr⟩ := f
  simp only at p0 p3 hne
  subst hne
  have hph : ph = 0 ∨ ph = 1 ∨ ph = 2 ∨ ph = 3 := by omega
  rcases hph with rfl | rfl | rfl | rfl
  · have hc : 1 ≤ C 5 := by simpa [clsU] using hc
    have hcl : clsU ⟨op, st, 0, od, si, le, aw, sv, 0, fr⟩ = 5 := rfl
    rw [hcl] at hp ⊢
    have k0 : KeepBit w 0 = true := by rw [kb0]; simp; omega
    by_cases hw : w = 1
    · subst hw
      have hN := hN (by decide)
      have e : KeepUn 1 ⟨op, st, 0, od, si, le, aw, sv, 0, fr⟩ = ⟨0, F0, true, 0, false, 0⟩ := by simp [KeepUn, k0]; rfl
      rw [e]
      refine ⟨rfl, .inl ⟨rfl, rfl, rfl, ⟨s0, ?_, ?_, hp 0, ?_, ?_, ?_, ?_⟩, rfl⟩⟩
      all_goals (simp [mv, dl] <;> omega)
    · have hwr : IntKind.wrap .i64 (w - 1) = w - 1 := w_i64 (by omega)
      by_cases h2 : 4 ≤ w % 8
      · have hS := hS h2
        have e : KeepUn w ⟨op, st, 0, od, si, le, aw, sv, 0, fr⟩ = ⟨w - 1, ⟨op, st, 2, w - 1, si, le, aw, sv, 0, fr⟩, false, 0, false, 0⟩ := by simp [KeepUn, k0, hw, hwr, kb2, h2]
        rw [e]
        refine ⟨rfl, .inr (.inl ⟨rfl, rfl, rfl, ⟨s0, ?_, ?_, hp 6, ?_, ?_, ?_, ?_⟩, ⟨by simp, by simp⟩, rfl, rfl, by simp⟩)⟩
        all_goals (first | omega | (simp [mv, dl, clsU] <;> omega))
      · have hN := hN (by omega)
        have e : KeepUn w ⟨op, st, 0, od, si, le, aw, sv, 0, fr⟩ = ⟨w - 1, ⟨op, st, 1, w - 1, si, le, aw, sv, 0, fr⟩, false, 0, false, 0⟩ := by simp [KeepUn, k0, hw, hwr, kb2, h2]
        rw [e]
        refine ⟨rfl, .inr (.inl ⟨rfl, rfl, rfl, ⟨s0, ?_, ?_, hp 0, ?_, ?_, ?_, ?_⟩, ⟨by simp, by simp⟩, rfl, rfl, by simp⟩)⟩
        all_goals (first | omega | (simp [mv, dl, clsU] <;> omega))
  · have hcl : clsU ⟨op, st, 1, od, si, le, aw, sv, 0, fr⟩ = 0 := rfl
    rw [hcl] at hp hc ⊢
    have hI : Inv w s C := ⟨s0, w0, w1, hC, hb, h5, hN, hS⟩
    by_cases hd : od / 8 = 0 ∨ KeepBit od 0 = true ∨ KeepBit od 1 = true ∨ KeepBit od 2 = true
    · have e : KeepUn w ⟨op, st, 1, od, si, le, aw, sv, 0, fr⟩ = ⟨w, F0, true, 0, false, 0⟩ := by simp only [KeepUn]; simp [hd]
      rw [e]
      exact ⟨rfl, .inl ⟨rfl, rfl, rfl, by rw [lk_idle]; exact hI, rfl⟩⟩
    · by_cases hw : w = od
      · subst hw
        have hd' := hd
        simp only [kb0, kb1, kb2, decide_eq_true_eq, not_or] at hd'
        have hN := hN (by omega)
        have hwr : IntKind.wrap .i64 (IntKind.wrap .i64 (w - 8) + 2) = w - 6 := by rw [w_i64 (n := w - 8) (by omega), w_i64 (by omega)]; omega
        have e : KeepUn w ⟨op, st, 1, w, si, le, aw, sv, 0, fr⟩ = ⟨w - 6, ⟨op, st, 3, w, si, le, aw, sv, 0, fr⟩, false, 0, false, 0⟩ := by simp only [KeepUn]; simp [hd, hwr]
        rw [e]
        refine ⟨rfl, .inr (.inl ⟨rfl, rfl, rfl, ⟨s0, ?_, ?_, hp 7, ?_, ?_, ?_, ?_⟩, ⟨by simp, by simp⟩, rfl, rfl, by simp⟩)⟩
        all_goals (first | omega | (simp [mv, dl, clsU] <;> omega))
      · have e : KeepUn w ⟨op, st, 1, od, si, le, aw, sv, 0, fr⟩ = ⟨w, ⟨op, st, 1, w, si, le, aw, sv, 0, fr⟩, false, 0, false, 0⟩ := by simp only [KeepUn]; simp [hd, hw]
        rw [e]
        exact ⟨rfl, .inr (.inl ⟨rfl, rfl, rfl, by rw [show clsU ⟨op, st, 1, w, si, le, aw, sv, 0, fr⟩ = 0 from rfl, lk_idle]; exact hI, ⟨by simp, by simp⟩, rfl, rfl, by simp⟩)⟩
  · have hc : 1 ≤ C 6 := by simpa [clsU] using hc
    have hcl : clsU ⟨op, st, 2, od, si, le, aw, sv, 0, fr⟩ = 6 := rfl
    rw [hcl] at hp ⊢
    have h4 : 4 ≤ w % 8 := by
      rcases Int.lt_or_le (w % 8) 4 with h | h
      · have := hN h; omega
      · exact h
    have hS := hS h4
    have e : KeepUn w ⟨op, st, 2, od, si, le, aw, sv, 0, fr⟩ = ⟨w, F0, true, 2, true, 0⟩ := by simp [KeepUn]
    rw [e]
    refine ⟨rfl, .inr (.inr ⟨rfl, rfl, rfl, rfl, by simp, ⟨by omega, ?_, ?_, hp 0, ?_, ?_, ?_, ?_⟩, fun _ => h4⟩)⟩
    all_goals (first | omega | (simp [mv, dl, clsU] <;> omega))
  · have hc : 1 ≤ C 7 := by simpa [clsU] using hc
    have hcl : clsU ⟨op, st, 3, od, si, le, aw, sv, 0, fr⟩ = 7 := rfl
    rw [hcl] at hp ⊢
    have h4 : w % 8 < 4 := by
      rcases Int.lt_or_le (w % 8) 4 with h | h
      · exact h
      · have := hS h; omega
    have hN := hN h4
    have e : KeepUn w ⟨op, st, 3, od, si, le, aw, sv, 0, fr⟩ = ⟨w, F0, true, 2, false, 0⟩ := by simp [KeepUn]
    rw [e]
    refine ⟨rfl, .inr (.inr ⟨rfl, rfl, rfl, rfl, by simp, ⟨by omega, ?_, ?_, hp 0, ?_, ?_, ?_, ?_⟩, fun h => by cases h⟩)⟩
    all_goals (first | omega | (simp [mv, dl, clsU] <;> omega))

/-- A unit is taken. -/
theorem take_inv {w s : Int} {C : Nat → Int} (h : Inv w s C) (hs : 0 < s) (hc : 1 ≤ C 2) : Inv w (s - 1) (mv C 2 3) := by
  have hp := mv_inv (b := 3) h hc
  obtain ⟨s0, w0, w1, hC, hb, h5, hN, hS⟩ := h
  have c1 := hC 1; have c2 := hC 2; have c3 := hC 3; have c4 := hC 4; have c5 := hC 5; have c6 := hC 6; have c7 := hC 7
  refine ⟨by omega, w0, w1, hp, ?_, ?_, fun h => ?_, fun h => ?_⟩
  · simp [mv, dl]; omega
  · simp [mv, dl]; omega
  · have := hN h; simp [mv, dl]; omega
  · have := hS h; simp [mv, dl]; omega
end Go.Proofs.Ytegdbpbafdpkfaa
