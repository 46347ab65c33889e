/- Whether a program is right. No condition. -/
import Derived.Test.YtlckkciicchneaaRK3
namespace Go.Proofs.Ytlckkciicchneaa
open SY
open Go.RowKit
set_option linter.unusedSimpArgs false
set_option linter.unusedVariables false
set_option maxRecDepth 100000
theorem i64_nat {k : Nat} (h : k < 9223372036854775807) : ((k + 1 : Nat) : Int) = IntKind.i64.wrap ((k : Int) + 1) := by rw [IntKind.wrap_i64]; omega
def K1P (k s : Int) : Prop := 1 ≤ k ∧ k ≤ 6 ∧ (k = 6 → 1 ≤ s ∧ s ≤ 1073741824) ∧ (k ≠ 6 → s = 0)
theorem k1_iff {k s : Int} : KeepK1 k s = true ↔ K1P k s := by
  unfold KeepK1 K1P
  by_cases h : k = 6
  · subst h; simp
  · simp [h]; omega
def ObP (p : PF) : Prop := p.ks.length ≤ 8 ∧ p.sz.length = p.ks.length ∧ ∀ j, j < p.ks.length → KeepK1 (gI p.ks j) (gI p.sz j) = true
theorem ob_iff {p : PF} : KeepOb p = true ↔ ObP p := by
  unfold KeepOb ObP
  simp only [Bool.and_eq_true, decide_eq_true_eq, List.all_eq_true, List.mem_range]
theorem ob_no {p : PF} (h : ¬ ObP p) : KeepOb p = false := by
  cases h' : KeepOb p
  · rfl
  · exact absurd (ob_iff.1 h') h
theorem objs_ok : GOK Try.prog 29 (hPr KeepOb) := by
  refine gokW mixed tab_ok hkL_nil fun vs s r hg hs => ?_
  unfold hPr at hg
  split at hg <;> try (cases hg; done)
  rename_i a
  simp only [Option.some.injEq, Prod.mk.injEq] at hg
  obtain ⟨rfl, rfl⟩ := hg
  refine ⟨lhL [(1, hintOb (cP a) 23)], 10, [prgV (cP a)], ⟨hs.1, trivial⟩, ?_⟩
  have hl := hs.2.1
  clear hs
  generalize cP a = p at *
  rw [objs_res]
  simp only [Int.toNat_natCast, true_and, and_true]
  refine br_in (fun c => ?_) fun c => br_in (fun d => ?_) fun d => ⟨⟨⟨0⟩, ⟨Nat.zero_le _, fun j hj => absurd hj (Nat.not_lt_zero _)⟩, rfl⟩, fun x hx => br_in (fun e => ?_) fun e => ?_⟩
  · have c := of_decide_eq_true c
    exact ob_no fun h => by have := h.1; omega
  · have d : (!decide (((p.sz.length : Nat) : Int) = ((p.ks.length : Nat) : Int))) = true := d
    simp only [Bool.not_eq_true', decide_eq_false_iff_not] at d
    exact ob_no fun h => d (by rw [h.2.1])
  · have d : (!decide (((p.sz.length : Nat) : Int) = ((p.ks.length : Nat) : Int))) = false := d
    simp only [Bool.not_eq_false', decide_eq_true_eq] at d
    have e := of_decide_eq_true e
    have e : ((x.i : Nat) : Int) < ((p.ks.length : Nat) : Int) := e
    have no : ¬ K1P (gI p.ks x.i) (gI p.sz x.i) → KeepOb p = false := fun h => ob_no fun q => h (k1_iff.1 (q.2.2 x.i (by omega)))
    have next : K1P (gI p.ks x.i) (gI p.sz x.i) → ∃ x' : NX, KeepO p x' ∧ p.ks.length - x'.i < p.ks.length - x.i ∧ (x'.i : Int) = IntKind.i64.wrap ((x.i : Int) + 1) := fun h =>
      ⟨⟨x.i + 1⟩, ⟨by show x.i + 1 ≤ _; omega, fun j hj => by
        rcases Nat.lt_or_ge j x.i with h' | h'
        · exact hx.2 j h'
        · have hj : j < x.i + 1 := hj
          obtain rfl : j = x.i := by omega
          exact k1_iff.2 h⟩, by show p.ks.length - (x.i + 1) < p.ks.length - x.i; omega, i64_nat (by omega)⟩
    have b1 : (true && decide (((x.i : Nat) : Int) < ((p.sz.length : Nat) : Int))) = true := by simp; omega
    unfold K1P at no next
    refine br_y (by simp; omega) <| br_in (fun f => ?_) fun f => ?_
    · have f := of_decide_eq_true f
      refine br_in (fun g => br_in (fun h => ?_) fun h => br_y b1 <| br_in (fun k => br_in (fun l => ?_) fun l => ?_) fun k => ?_) fun g => ?_
      all_goals simp at *
      all_goals first | (refine no ?_; omega) | exact next (by omega) (by omega) (by omega) | exact next (by omega) (by omega) (by omega) (by omega)
    · have f := of_decide_eq_false f
      refine br_in (fun g => br_in (fun h => ?_) fun h => br_y b1 <| br_in (fun k => br_in (fun l => ?_) fun l => ?_) fun k => ?_) fun g => ?_
      all_goals simp at *
      all_goals first | (refine no ?_; omega) | exact next (by omega) (by omega) (by omega) | exact next (by omega) (by omega) (by omega) (by omega)
  · have d : (!decide (((p.sz.length : Nat) : Int) = ((p.ks.length : Nat) : Int))) = false := d
    simp only [Bool.not_eq_false', decide_eq_true_eq] at d
    have c := of_decide_eq_false c
    have e := of_decide_eq_false e
    exact ob_iff.2 ⟨by omega, by omega, fun j hj => hx.2 j (by omega)⟩
def KeepLast (p : PF) : Bool := decide (gI p.cd ((p.cd.length / 4 - 1) * 4) = 0) || (decide (gI p.cd ((p.cd.length / 4 - 1) * 4) = 6) || decide (gI p.cd ((p.cd.length / 4 - 1) * 4) = 24))
def KeepRt (p : PF) : Bool := decide (1 ≤ p.cd.length / 4) && (decide (p.cd.length / 4 ≤ 60) && (KeepOb p && (decide (0 ≤ p.cl ∧ p.cl ≤ 32 ∧ 0 ≤ p.rc ∧ p.rc ≤ 64 ∧ 1 ≤ p.pt ∧ p.pt ≤ 1000) && ((List.range (p.cd.length / 4)).all (fun j => KeepIns p (j : Int)) && KeepLast p))))
def RtP (p : PF) : Prop := 1 ≤ p.cd.length / 4 ∧ p.cd.length / 4 ≤ 60 ∧ KeepOb p = true ∧ (0 ≤ p.cl ∧ p.cl ≤ 32 ∧ 0 ≤ p.rc ∧ p.rc ≤ 64 ∧ 1 ≤ p.pt ∧ p.pt ≤ 1000) ∧ (∀ j : Nat, j < p.cd.length / 4 → KeepIns p j = true) ∧ KeepLast p = true
theorem rt_iff {p : PF} : KeepRt p = true ↔ RtP p := by
  unfold KeepRt RtP
  simp only [Bool.and_eq_true, decide_eq_true_eq, List.all_eq_true, List.mem_range]
theorem rt_no {p : PF} (h : ¬ RtP p) : KeepRt p = false := by
  cases h' : KeepRt p
  · rfl
  · exact absurd (rt_iff.1 h') h
theorem rt_yes {p : PF} (h : RtP p) : KeepRt p = true := rt_iff.2 h
theorem hkRt_ok : HookOK Try.prog (hkRt KeepIns KeepOb) := hkL_cons ins_ok (hkL_cons objs_ok hkL_nil)
theorem hkRr_ok : HookOK Try.prog (hkRr KeepIns) := hkL_cons rins_ok hkL_nil
theorem last_or {p : PF} {r : Bool} (h : r = KeepLast p) (o : Int) (ho : gI p.cd ((p.cd.length / 4 - 1) * 4) = o) : br (decide (o = 0)) (r = true) (br (decide (o = 6)) (r = true) (br (decide (o = 24)) (r = true) (r = false))) := by
  unfold KeepLast at h
  rw [ho] at h
  subst h
  cases decide (o = 0) <;> cases decide (o = 6) <;> cases decide (o = 24) <;> rfl
theorem right_ok : GOK Try.prog 13 (hPr KeepRt) := by
  refine gokW mixed tab_ok hkRt_ok fun vs s r hg hs => ?_
  unfold hPr at hg
  split at hg <;> try (cases hg; done)
  rename_i a
  simp only [Option.some.injEq, Prod.mk.injEq] at hg
  obtain ⟨rfl, rfl⟩ := hg
  refine ⟨lhL [(1, hintCd (cP a) 35)], 10, [prgV (cP a)], ⟨hs.1, trivial⟩, ?_⟩
  have hl := hs.2
  clear hs
  generalize cP a = p at *
  rw [right_res]
  simp only [Int.toNat_natCast, cP_eq, cI_i, pf_eta, true_and, and_true]
  refine br_in (fun c1 => br_in (fun c2 => ?_) fun c2 => ⟨hl, br_in (fun c3 => ?_) fun c3 => br_in (fun c4 => br_in (fun c5 => ?_) fun c5 => br_in (fun c6 => br_in (fun c7 => ?_) fun c7 => br_in (fun c8 => br_in (fun c9 => ?_) fun c9 => ⟨⟨⟨0⟩, ⟨Nat.zero_le _, fun j hj => absurd hj (Nat.not_lt_zero _)⟩, rfl⟩, fun x hx => br_in (fun e => br_in (fun f => ?_) fun f => ?_) fun e => ?_⟩) fun c8 => ?_) fun c6 => ?_) fun c4 => ?_⟩) fun c1 => ?_
  all_goals simp only [Bool.not_eq_true', Bool.not_eq_false', decide_eq_true_eq, decide_eq_false_iff_not] at *
  all_goals first
    | (refine rt_no fun h => ?_; obtain ⟨h1, h2, h3, ⟨h4, h5, h6, h7, h8, h9⟩, h10, h11⟩ := h; first | omega | exact Bool.noConfusion (h3.symm.trans c3) | exact Bool.noConfusion ((h10 x.i (by omega)).symm.trans f))
    | skip
  · exact ⟨⟨x.i + 1⟩, ⟨by show x.i + 1 ≤ _; omega, fun j hj => by
        rcases Nat.lt_or_ge j x.i with h' | h'
        · exact hx.2 j h'
        · have hj : j < x.i + 1 := hj
          obtain rfl : j = x.i := by omega
          exact f⟩, by show p.cd.length - (x.i + 1) < p.cd.length - x.i; omega, i64_nat (by omega)⟩
  · have e1 : IntKind.i64.wrap (((p.cd.length / 4 : Nat) : Int) - 1) = ((p.cd.length / 4 - 1 : Nat) : Int) := by rw [w_i64 (by omega)]; omega
    rw [e1, Int.toNat_natCast]
    refine br_y (by simp; omega) (last_or ?_ _ rfl)
    cases hq : KeepLast p
    · exact rt_no fun h => by rw [h.2.2.2.2.2] at hq; cases hq
    · exact rt_yes ⟨by omega, by omega, c3, ⟨by omega, by omega, by omega, by omega, by omega, by omega⟩, fun j hj => hx.2 j (by omega), hq⟩
theorem last_or2 {p : PF} {r : Bool} (h : r = KeepLast p) (o : Int) (ho : gI p.cd ((p.cd.length / 4 - 1) * 4) = o) : br (decide (o = 0)) (r = true) (br (decide (o = 6)) (r = true) (r = decide (o = 24))) := by
  unfold KeepLast at h
  rw [ho] at h
  subst h
  cases decide (o = 0) <;> cases decide (o = 6) <;> cases decide (o = 24) <;> rfl
theorem rright_ok : GOK Try.prog 14 (hPr KeepRt) := by
  refine gokW mixed tab_ok hkRr_ok fun vs s r hg hs => ?_
  unfold hPr at hg
  split at hg <;> try (cases hg; done)
  rename_i a
  simp only [Option.some.injEq, Prod.mk.injEq] at hg
  obtain ⟨rfl, rfl⟩ := hg
  refine ⟨lhL [(1, hintOb (cP a) 4), (3, hintCd (cP a) 7)], 10, [prgV (cP a)], ⟨hs.1, trivial⟩, ?_⟩
  have hl := hs.2
  clear hs
  generalize cP a = p at *
  rw [rright_res]
  simp only [Int.toNat_natCast, cP_eq, cI_i, pf_eta, true_and, and_true]
  have nob : (ObP p → False) → KeepRt p = false := fun h => rt_no fun q => h (ob_iff.1 q.2.2.1)
  refine br_in (fun c1 => ?_) fun c1 => br_in (fun c2 => ?_) fun c2 => br_in (fun o1 => ?_) fun o1 => br_in (fun o2 => ?_) fun o2 => br_in (fun c4 => ?_) fun c4 => br_in (fun c5 => ?_) fun c5 => br_in (fun c6 => ?_) fun c6 => br_in (fun c7 => ?_) fun c7 => br_in (fun c8 => ?_) fun c8 => br_in (fun c9 => ?_) fun c9 =>
    ⟨⟨⟨0⟩, ⟨Nat.zero_le _, fun j hj => absurd hj (Nat.not_lt_zero _)⟩, rfl⟩, fun x hx => br_in (fun e => ?_) fun e => ⟨⟨⟨0⟩, ⟨Nat.zero_le _, fun j hj => absurd hj (Nat.not_lt_zero _)⟩, rfl⟩, fun y hy => br_in (fun g => br_in (fun f => ?_) fun f => ?_) fun g => ?_⟩⟩
  all_goals simp only [Bool.not_eq_true', Bool.not_eq_false', decide_eq_true_eq, decide_eq_false_iff_not] at *
  all_goals first
    | (refine nob fun h => ?_; obtain ⟨h1, h2, h3⟩ := h; omega)
    | (refine rt_no fun h => ?_; obtain ⟨h1, h2, h3, ⟨h4, h5, h6, h7, h8, h9⟩, h10, h11⟩ := h; first | omega | exact Bool.noConfusion ((h10 y.i (by omega)).symm.trans f))
    | skip
  · have no : ¬ K1P (gI p.ks x.i) (gI p.sz x.i) → KeepRt p = false := fun h => nob fun q => h (k1_iff.1 (q.2.2 x.i (by omega)))
    have next : K1P (gI p.ks x.i) (gI p.sz x.i) → ∃ x' : NX, KeepO p x' ∧ p.ks.length - x'.i < p.ks.length - x.i ∧ (x'.i : Int) = IntKind.i64.wrap ((x.i : Int) + 1) := fun h =>
      ⟨⟨x.i + 1⟩, ⟨by show x.i + 1 ≤ _; omega, fun j hj => by
        rcases Nat.lt_or_ge j x.i with h' | h'
        · exact hx.2 j h'
        · have hj : j < x.i + 1 := hj
          obtain rfl : j = x.i := by omega
          exact k1_iff.2 h⟩, by show p.ks.length - (x.i + 1) < p.ks.length - x.i; omega, i64_nat (by omega)⟩
    have b1 : (true && decide (((x.i : Nat) : Int) < ((p.sz.length : Nat) : Int))) = true := by simp; omega
    unfold K1P at no next
    refine br_y (by simp; omega) <| br_y b1 <| br_in (fun q1 => ?_) fun q1 => br_in (fun q2 => ?_) fun q2 => br_in (fun q3 => br_in (fun q4 => ?_) fun q4 => br_in (fun q5 => ?_) fun q5 => br_in (fun q6 => br_in (fun q7 => ?_) fun q7 => ?_) fun q6 => ?_) fun q3 => br_in (fun q4 => br_in (fun q5 => ?_) fun q5 => ?_) fun q4 => ?_
    all_goals simp at *
    all_goals first | (exfalso; omega) | (refine no ?_; omega) | exact next (by omega) (by omega) (by omega) | exact next (by omega) (by omega) (by omega) (by omega)
  · exact ⟨⟨y.i + 1⟩, ⟨by show y.i + 1 ≤ _; omega, fun j hj => by
        rcases Nat.lt_or_ge j y.i with h' | h'
        · exact hy.2 j h'
        · have hj : j < y.i + 1 := hj
          obtain rfl : j = y.i := by omega
          exact f⟩, by show p.cd.length - (y.i + 1) < p.cd.length - y.i; omega, i64_nat (by omega)⟩
  · have e1 : IntKind.i64.wrap (((p.cd.length / 4 : Nat) : Int) - 1) = ((p.cd.length / 4 - 1 : Nat) : Int) := by rw [w_i64 (by omega)]; omega
    rw [e1, Int.toNat_natCast]
    have hob : KeepOb p = true := ob_iff.2 ⟨by omega, by omega, fun j hj => hx.2 j (by omega)⟩
    refine br_y (by simp; omega) (last_or2 ?_ _ rfl)
    cases hq : KeepLast p
    · exact rt_no fun h => by rw [h.2.2.2.2.2] at hq; cases hq
    · exact rt_yes ⟨by omega, by omega, hob, ⟨by omega, by omega, by omega, by omega, by omega, by omega⟩, fun j hj => hy.2 j (by omega), hq⟩
end Go.Proofs.Ytlckkciicchneaa
