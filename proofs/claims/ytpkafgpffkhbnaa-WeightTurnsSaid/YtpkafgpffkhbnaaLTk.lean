/- What weight.Take and torporref20.Take answer: the same; and a copy is the same. No condition. -/
import Derived.Test.YtpkafgpffkhbnaaRTk
namespace Go.Proofs.Ytpkafgpffkhbnaa
open SY
open Go.RowKit
set_option linter.unusedSimpArgs false
set_option linter.unusedVariables false

theorem tm_cases (o : O) (st n : Int) : (st = 1 ∧ KeepTm o st n = 4) ∨ (st ≠ 1 ∧ st ≠ 0 ∧ KeepTm o st n = 5) ∨ (st = 0 ∧ (n < 0 ∨ n > o.w0) ∧ KeepTm o st n = 0) ∨
    (st = 0 ∧ 0 ≤ n ∧ n ≤ o.w0 ∧ o.ls.length / 2 = 0 ∧ IntKind.i64.wrap (o.w1 + n) ≤ o.w0 ∧ KeepTm o st n = 1) ∨
    (st = 0 ∧ 0 ≤ n ∧ n ≤ o.w0 ∧ ¬ (o.ls.length / 2 = 0 ∧ IntKind.i64.wrap (o.w1 + n) ≤ o.w0) ∧ 12 ≤ o.ls.length / 2 ∧ KeepTm o st n = 2) ∨
    (st = 0 ∧ 0 ≤ n ∧ n ≤ o.w0 ∧ ¬ (o.ls.length / 2 = 0 ∧ IntKind.i64.wrap (o.w1 + n) ≤ o.w0) ∧ o.ls.length / 2 < 12 ∧ KeepTm o st n = 3) := by
  by_cases h1 : st = 1
  · exact .inl ⟨h1, by simp [KeepTm, h1]⟩
  refine .inr ?_
  by_cases h2 : st = 0
  · refine .inr ?_
    subst h2
    have e : KeepTm o 0 n = if n < 0 ∨ n > o.w0 then 0 else if o.ls.length / 2 = 0 ∧ IntKind.i64.wrap (o.w1 + n) ≤ o.w0 then 1 else if 12 ≤ o.ls.length / 2 then 2 else 3 := by simp [KeepTm]
    rw [e]
    by_cases h3 : n < 0 ∨ n > o.w0
    · rw [if_pos h3]; exact .inl ⟨rfl, h3, rfl⟩
    rw [if_neg h3]
    refine .inr ?_
    have h4 : 0 ≤ n ∧ n ≤ o.w0 := by omega
    by_cases h5 : o.ls.length / 2 = 0 ∧ IntKind.i64.wrap (o.w1 + n) ≤ o.w0
    · rw [if_pos h5]; exact .inl ⟨rfl, h4.1, h4.2, h5.1, h5.2, rfl⟩
    rw [if_neg h5]
    refine .inr ?_
    by_cases h6 : 12 ≤ o.ls.length / 2
    · rw [if_pos h6]; exact .inl ⟨rfl, h4.1, h4.2, h5, h6, rfl⟩
    · rw [if_neg h6]; exact .inr ⟨rfl, h4.1, h4.2, h5, by omega, rfl⟩
  · exact .inl ⟨h1, h2, by simp [KeepTm, h1, h2]⟩

theorem take_ok : GOK Try.prog 8 hTake := by
  refine gokW mixed tab_ok hkL_nil fun vs s r hg hs => ?_
  unfold hTake at hg
  split at hg <;> try (cases hg; done)
  rename_i a b c d
  simp only [Option.some.injEq, Prod.mk.injEq] at hg
  obtain ⟨rfl, rfl⟩ := hg
  obtain ⟨h1, h2, h3, h4, f1, f2⟩ := hs
  refine ⟨noL, 10, [objS (objOf a), frS (frOf b), iS (cI c 0), iS (cI d 0)], ⟨h1, h2, h3, h4, trivial⟩, ?_⟩
  generalize objOf a = o at *
  generalize frOf b = f at *
  generalize cI c 0 = t at *
  generalize cI d 0 = n at *
  have hc := tm_cases o f.st n
  generalize KeepTm o f.st n = m at *
  clear h1 h2 h3 h4
  rw [take_res]
  have hl : o.ls.length / 2 * 2 = o.ls.length := by omega
  simp only [Int.toNat_natCast, hl, List.take_length]
  rcases hc with ⟨h1, rfl⟩ | ⟨h1, h2, rfl⟩ | ⟨h1, h2, rfl⟩ | ⟨h1, h2, h3, h4, h5, rfl⟩ | ⟨h1, h2, h3, h4, h5, rfl⟩ | ⟨h1, h2, h3, h4, h5, rfl⟩
  all_goals (repeat' (refine br_in (fun hb => ?_) (fun hb => ?_) <;> (try simp (disch := omega) only [decide_eq_true_eq, decide_eq_false_iff_not, Bool.and_eq_true, Bool.or_eq_true, Bool.not_eq_true', Bool.not_eq_false', Bool.and_eq_false_iff, Bool.or_eq_false_iff, Bool.true_and, Bool.and_true, Bool.false_and, Bool.and_false, Bool.not_true, Bool.not_false, Bool.true_eq_false, Bool.false_eq_true, reduceCtorEq, beq_iff_eq, bne_iff_ne, ne_eq, beq_self_eq_true, bne_self_eq_false, Bool.true_beq, Bool.false_beq, beq_true, beq_false, not_true_eq_false, not_false_eq_true, decide_true, decide_false, Bool.not_not, Decidable.not_not, false_and, and_false, true_and, and_true, Bool.or_true, Bool.true_or, Bool.or_false, Bool.false_or, bne_eq_false_iff_eq, beq_eq_false_iff_ne, Nat.ble_eq, ble_f, w_i64, w_u64, w_u32, w_u8, w_i32, w_u16] at hb) <;> (try (exfalso; omega))))
  all_goals first
    | (simp [KeepTw, KeepTl, KeepTi, KeepTs, KeepTb, KeepTd, KeepTp, KeepTf, *]; done)
    | (simp at *; omega)

theorem rtake_ok : GOK Try.prog 9 hTake := by
  refine gokW mixed tab_ok hkL_nil fun vs s r hg hs => ?_
  unfold hTake at hg
  split at hg <;> try (cases hg; done)
  rename_i a b c d
  simp only [Option.some.injEq, Prod.mk.injEq] at hg
  obtain ⟨rfl, rfl⟩ := hg
  obtain ⟨h1, h2, h3, h4, f1, f2⟩ := hs
  refine ⟨noL, 10, [objS (objOf a), frS (frOf b), iS (cI c 0), iS (cI d 0)], ⟨h1, h2, h3, h4, trivial⟩, ?_⟩
  generalize objOf a = o at *
  generalize frOf b = f at *
  generalize cI c 0 = t at *
  generalize cI d 0 = n at *
  have hc := tm_cases o f.st n
  generalize KeepTm o f.st n = m at *
  clear h1 h2 h3 h4
  rw [rtake_res]
  simp only [List.nil_append, Nat.zero_add]
  rcases hc with ⟨h1, rfl⟩ | ⟨h1, h2, rfl⟩ | ⟨h1, h2, rfl⟩ | ⟨h1, h2, h3, h4, h5, rfl⟩ | ⟨h1, h2, h3, h4, h5, rfl⟩ | ⟨h1, h2, h3, h4, h5, rfl⟩
  all_goals (repeat' (refine br_in (fun hb => ?_) (fun hb => ?_) <;> (try simp (disch := omega) only [decide_eq_true_eq, decide_eq_false_iff_not, Bool.and_eq_true, Bool.or_eq_true, Bool.not_eq_true', Bool.not_eq_false', Bool.and_eq_false_iff, Bool.or_eq_false_iff, Bool.true_and, Bool.and_true, Bool.false_and, Bool.and_false, Bool.not_true, Bool.not_false, Bool.true_eq_false, Bool.false_eq_true, reduceCtorEq, beq_iff_eq, bne_iff_ne, ne_eq, beq_self_eq_true, bne_self_eq_false, Bool.true_beq, Bool.false_beq, beq_true, beq_false, not_true_eq_false, not_false_eq_true, decide_true, decide_false, Bool.not_not, Decidable.not_not, false_and, and_false, true_and, and_true, Bool.or_true, Bool.true_or, Bool.or_false, Bool.false_or, bne_eq_false_iff_eq, beq_eq_false_iff_ne, Nat.ble_eq, ble_f, w_i64, w_u64, w_u32, w_u8, w_i32, w_u16] at hb) <;> (try (exfalso; omega))))
  all_goals first
    | (simp [KeepTw, KeepTl, KeepTi, KeepTs, KeepTb, KeepTd, KeepTp, KeepTf, *]; done)
    | (simp at *; omega)

theorem copy_ok : GOK Try.prog 7 hCopy := by
  refine gokW mixed tab_ok hkL_nil fun vs s r hg hs => ?_
  unfold hCopy at hg
  split at hg <;> try (cases hg; done)
  rename_i a
  simp only [Option.some.injEq, Prod.mk.injEq] at hg
  obtain ⟨rfl, rfl⟩ := hg
  obtain ⟨h1, ⟨f1, f2⟩, f3, f4⟩ := hs
  refine ⟨noL, 10, [objS (objOf a)], ⟨h1, trivial⟩, ?_⟩
  rw [copy_res]
  rw [br_t (by rw [Nat.ble_eq]; omega), br_t (by rw [Nat.ble_eq]; omega)]
  simp
end Go.Proofs.Ytpkafgpffkhbnaa
