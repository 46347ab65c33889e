/- Whether an instruction is right. No condition. -/
import Derived.Test.YtlckkciicchneaaRK2
namespace Go.Proofs.Ytlckkciicchneaa
open SY
open Go.RowKit
set_option linter.unusedSimpArgs false
set_option linter.unusedVariables false
set_option maxRecDepth 100000
theorem mulE4 (n : Nat) : mulE 4 n = n * 4 := rfl
theorem rd_i (a : Int) : rdV (CK.int IntKind.i64) a = Value.int IntKind.i64 a := rfl
theorem cI_i (a : Int) : cI (S.t (T.c (SC.v (Value.int IntKind.i64 a)))) = a := rfl
theorem cP_eq (cd ks sz : List Int) (a b c : Int) : cP (S.t (T.agg [SC.sl [CK.int IntKind.i64, CK.int IntKind.i64, CK.int IntKind.i64, CK.int IntKind.i64] cd none, SC.sl [CK.int IntKind.i64] ks none, SC.sl [CK.int IntKind.i64] sz none, SC.v (Value.int IntKind.i64 a), SC.v (Value.int IntKind.i64 b), SC.v (Value.int IntKind.i64 c)])) = ⟨cd, ks, sz, a, b, c⟩ := rfl
theorem pf_eta (p : PF) : PF.mk p.1 p.2 p.3 p.4 p.5 p.6 = p := rfl
theorem cA0 (a b c d : Int) : cA (S.t (T.agg [SC.v (Value.int IntKind.i64 a), SC.v (Value.int IntKind.i64 b), SC.v (Value.int IntKind.i64 c), SC.v (Value.int IntKind.i64 d)])) 0 = a := rfl
theorem cA1 (a b c d : Int) : cA (S.t (T.agg [SC.v (Value.int IntKind.i64 a), SC.v (Value.int IntKind.i64 b), SC.v (Value.int IntKind.i64 c), SC.v (Value.int IntKind.i64 d)])) 1 = b := rfl
theorem cA2 (a b c d : Int) : cA (S.t (T.agg [SC.v (Value.int IntKind.i64 a), SC.v (Value.int IntKind.i64 b), SC.v (Value.int IntKind.i64 c), SC.v (Value.int IntKind.i64 d)])) 2 = c := rfl
theorem cA3 (a b c d : Int) : cA (S.t (T.agg [SC.v (Value.int IntKind.i64 a), SC.v (Value.int IntKind.i64 b), SC.v (Value.int IntKind.i64 c), SC.v (Value.int IntKind.i64 d)])) 3 = d := rfl
theorem p2 (n : Nat) : n + 1 + 1 = n + 2 := rfl
theorem p3 (n : Nat) : n + 2 + 1 = n + 3 := rfl
theorem hkF_ok : HookOK Try.prog hkF := hkL_cons shape_ok (hkL_cons fits_ok hkL_nil)
theorem hkP_ok : HookOK Try.prog (hkP KeepPl KeepSy) := hkL_cons plain_ok (hkL_cons sync_ok hkL_nil)
theorem ins_ok : GOK Try.prog 11 (hIns KeepIns) := by
  refine gokW mixed tab_ok hkF_ok fun vs s r hg hs => ?_
  unfold hIns at hg
  split at hg <;> try (cases hg; done)
  rename_i a b
  simp only [Option.some.injEq, Prod.mk.injEq] at hg
  obtain ⟨rfl, rfl⟩ := hg
  refine ⟨noL, 10, [prgV (cP a), iS (cI b)], ⟨hs.1, hs.2, trivial⟩, ?_⟩
  generalize cP a = p at *
  generalize cI b = i at *
  rw [ins_res]
  simp only [mulE4, rd_i, cI_i, pf_eta, true_and, and_true]
  refine br_in (fun c => ?_) fun c => br_in (fun d => ?_) fun d => ?_
  · have c := of_decide_eq_true c
    unfold KeepIns; rw [decide_eq_false (show ¬ i ≥ 0 by omega)]; rfl
  · have d := of_decide_eq_true d
    unfold KeepIns; rw [decide_eq_false (show ¬ i < ((p.cd.length / 4 : Nat) : Int) by omega)]; simp
  · have c := of_decide_eq_false c
    have d := of_decide_eq_false d
    refine br_y (by simp; omega) ?_
    simp only [br_sel]
    unfold KeepIns KeepOpI
    rw [decide_eq_true (show i ≥ 0 by omega), decide_eq_true (show i < ((p.cd.length / 4 : Nat) : Int) by omega)]
    rfl
theorem or_parts (p : PF) (o x y z : Int) : (KeepPl p o x y z || KeepSy p o x y z) = KeepOpI p o x y z := by
  unfold KeepPl KeepSy
  by_cases h1 : o ≤ 25
  · simp [h1, show ¬ 26 ≤ o by omega]
  · by_cases h2 : o ≤ 40
    · simp [h2, show 26 ≤ o by omega, h1, show ¬ o = 41 by omega]
    · by_cases h3 : o = 41
      · simp [h3]
      · have e : KeepSh o = (0, 0, 0, false) := by
          unfold KeepSh
          repeat (rw [if_neg (by omega)])
        simp [KeepOpI, e]
theorem rins_ok : GOK Try.prog 12 (hIns KeepIns) := by
  refine gokW mixed tab_ok hkP_ok fun vs s r hg hs => ?_
  unfold hIns at hg
  split at hg <;> try (cases hg; done)
  rename_i a b
  simp only [Option.some.injEq, Prod.mk.injEq] at hg
  obtain ⟨rfl, rfl⟩ := hg
  refine ⟨noL, 10, [prgV (cP a), iS (cI b)], ⟨hs.1, hs.2, trivial⟩, ?_⟩
  generalize cP a = p at *
  generalize cI b = i at *
  rw [rins_res]
  simp only [mulE4, rd_i, cI_i, cP_eq, pf_eta, cA0, cA1, cA2, cA3, true_and, and_true]
  unfold KeepIns
  by_cases h1 : i ≥ 0
  · by_cases h2 : i < ((p.cd.length / 4 : Nat) : Int)
    · have q : (decide (0 ≤ i) && decide (i < ((p.cd.length / 4 : Nat) : Int))) = true := by simp; omega
      rw [decide_eq_true h1, decide_eq_true h2]
      simp only [br_tt, Bool.true_and, Bool.and_true, p2, p3, ← or_parts]
      cases KeepPl p (gI p.cd (i.toNat * 4)) (gI p.cd (i.toNat * 4 + 1)) (gI p.cd (i.toNat * 4 + 2)) (gI p.cd (i.toNat * 4 + 3)) <;> simp [br_tt, br_ff]
    · rw [decide_eq_true h1, decide_eq_false h2]
      simp [br_tt, br_ff]
  · rw [decide_eq_false h1]
    simp [br_tt, br_ff]
end Go.Proofs.Ytlckkciicchneaa
