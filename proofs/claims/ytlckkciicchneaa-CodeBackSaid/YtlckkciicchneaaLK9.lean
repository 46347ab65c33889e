/- A count, and so many numbers. No condition. -/
import Derived.Test.YtlckkciicchneaaRK9
namespace Go.Proofs.Ytlckkciicchneaa
open SY
open Go.RowKit
set_option linter.unusedSimpArgs false
set_option linter.unusedVariables false
set_option maxRecDepth 100000
def KeepMl (b : List Int) (a n : Int) : List Int := (KeepMs b a n.toNat).2.1
def KeepMc (b : List Int) (a n : Int) : Int := if (KeepMs b a n.toNat).2.2 = 0 then (KeepMs b a n.toNat).1 else 0
def KeepMe (b : List Int) (a n : Int) : Int := (KeepMs b a n.toNat).2.2
theorem mnV_eq : hMnV KeepMl KeepMc KeepMe = hMany := rfl
theorem hkCn_ok : HookOK Try.prog (hkCn KeepMl KeepMc KeepMe) := hkL_cons (by rw [mnV_eq]; exact many_ok) hkL_nil
theorem ms_one (b : List Int) (a : Int) : KeepMs b a 1 = if V.KeepRe b a ≠ 0 then (0, [], V.KeepRe b a) else (V.KeepRn b a, [V.KeepZag (V.KeepRx b a)], 0) := rfl
theorem ml_one {b : List Int} {a : Int} (h : KeepMe b a 1 = 0) : (KeepMl b a 1).length = 1 := by
  unfold KeepMe at h
  unfold KeepMl
  have e : (1 : Int).toNat = 1 := rfl
  rw [e, ms_one] at h
  rw [e, ms_one]
  by_cases c : V.KeepRe b a ≠ 0
  · rw [if_pos c] at h; exact absurd h c
  · rw [if_neg c]; rfl
/-- The numbers, the place behind, the error. -/
def KeepCt (b : List Int) (a m n : Int) : List Int × Int × Int :=
  if KeepMe b a 1 ≠ 0 then ([], 0, KeepMe b a 1) else if gI (KeepMl b a 1) 0 < 0 ∨ gI (KeepMl b a 1) 0 > m then ([], 0, 4)
  else (KeepMl b (KeepMc b a 1) (gI (KeepMl b a 1) 0 * n), KeepMc b (KeepMc b a 1) (gI (KeepMl b a 1) 0 * n), KeepMe b (KeepMc b a 1) (gI (KeepMl b a 1) 0 * n))
noncomputable def hCnt : Hk := fun vs => match vs with
  | [x, y, z, w] => some (subS (slB (cL x)) x ∧ subS (iS (cI y)) y ∧ subS (iS (cI z)) z ∧ subS (iS (cI w)) w ∧ V.KeepFew (cL x) ∧ V.KeepBy (cL x) ∧ cI z ≤ 60 ∧ 0 ≤ cI w ∧ cI w ≤ 4,
      .tup [.c (.sl [.int .i64] (KeepCt (cL x) (cI y) (cI z) (cI w)).1 none), .c (.v (.int .i64 (KeepCt (cL x) (cI y) (cI z) (cI w)).2.1)), .c (.v (.int .i64 (KeepCt (cL x) (cI y) (cI z) (cI w)).2.2))])
  | _ => none
theorem t0 : Int.toNat 0 = 0 := rfl
theorem cLB (l : List Int) : cL (S.t (T.c (SC.sl [CK.int IntKind.u8] l none))) = l := rfl
theorem counted_ok : GOK Try.prog 36 hCnt := by
  refine gokW mixed tab_ok hkCn_ok fun vs s r hg hs => ?_
  unfold hCnt at hg
  split at hg <;> try (cases hg; done)
  rename_i x y z w
  simp only [Option.some.injEq, Prod.mk.injEq] at hg
  obtain ⟨rfl, rfl⟩ := hg
  obtain ⟨h1, h2, h3, h4, h5, h6, h7, h8, h9⟩ := hs
  refine ⟨noL, 10, [slB (cL x), iS (cI y), iS (cI z), iS (cI w)], ⟨h1, h2, h3, h4, trivial⟩, ?_⟩
  generalize cL x = b at *
  generalize cI y = a at *
  generalize cI z = m at *
  generalize cI w = n at *
  rw [counted_res]
  simp only [cLB, cI_i, mulE1, t0, true_and, and_true]
  unfold KeepCt
  refine ⟨⟨h5, h6, by decide⟩, br_in (fun c => ?_) fun c => ?_⟩
  · have c : (!decide (KeepMe b a 1 = 0)) = true := c
    simp only [Bool.not_eq_true', decide_eq_false_iff_not] at c
    rw [if_pos c]
    exact ⟨rfl, rfl, rfl⟩
  have c : (!decide (KeepMe b a 1 = 0)) = false := c
  simp only [Bool.not_eq_false', decide_eq_true_eq] at c
  have hl := ml_one c
  have b1 : (true && decide ((0 : Int) < ((KeepMl b a 1).length : Int))) = true := by rw [hl]; rfl
  rw [if_neg (by rw [c]; simp)]
  refine br_y b1 <| br_in (fun d => ?_) fun d => br_y b1 <| br_in (fun e => ?_) fun e => br_y b1 ?_
  · rw [if_pos (.inl (of_decide_eq_true d))]; exact ⟨rfl, rfl, rfl⟩
  · rw [if_pos (.inr (of_decide_eq_true e))]; exact ⟨rfl, rfl, rfl⟩
  · have d := of_decide_eq_false d
    have e := of_decide_eq_false e
    rw [if_neg (by omega)]
    obtain ⟨v, hv⟩ : ∃ v, gI (KeepMl b a 1) 0 = v := ⟨_, rfl⟩
    rw [hv] at d e ⊢
    have hm : 0 ≤ v * n ∧ v * n ≤ 240 := by
      have h0 : 0 ≤ v := by omega
      have h1 : v ≤ 60 := by omega
      have := Int.mul_nonneg h0 h8
      have := Int.mul_le_mul h1 h9 h8 (by decide)
      omega
    rw [w_i64 (by omega)]
    exact ⟨⟨h5, h6, by omega⟩, rfl, rfl, rfl⟩
end Go.Proofs.Ytlckkciicchneaa
