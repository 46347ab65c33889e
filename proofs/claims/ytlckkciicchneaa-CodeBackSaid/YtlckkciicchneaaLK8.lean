/- So many numbers, as the document reads them. No condition. -/
import Derived.Test.YtlckkciicchneaaRK8
import Derived.Test.YtlckkciicchneaaLKx
namespace Go.Proofs.Ytlckkciicchneaa
open SY
open Go.RowKit
set_option linter.unusedSimpArgs false
set_option linter.unusedVariables false
set_option maxRecDepth 100000
/-- So many numbers from a place on: the place behind, the numbers, the error. -/
def KeepMs (b : List Int) (a : Int) : Nat → Int × List Int × Int
  | 0 => (a, [], 0)
  | k + 1 => if (KeepMs b a k).2.2 ≠ 0 then KeepMs b a k else if V.KeepRe b (KeepMs b a k).1 ≠ 0 then (0, [], V.KeepRe b (KeepMs b a k).1)
    else (V.KeepRn b (KeepMs b a k).1, (KeepMs b a k).2.1 ++ [V.KeepZag (V.KeepRx b (KeepMs b a k).1)], 0)
theorem ms_succ (b : List Int) (a : Int) (k : Nat) : KeepMs b a (k + 1) = if (KeepMs b a k).2.2 ≠ 0 then KeepMs b a k else if V.KeepRe b (KeepMs b a k).1 ≠ 0 then (0, [], V.KeepRe b (KeepMs b a k).1)
    else (V.KeepRn b (KeepMs b a k).1, (KeepMs b a k).2.1 ++ [V.KeepZag (V.KeepRx b (KeepMs b a k).1)], 0) := rfl
theorem ms_len (b : List Int) (a : Int) : ∀ k, (KeepMs b a k).2.1.length ≤ k
  | 0 => Nat.le_refl _
  | k + 1 => by
    have := ms_len b a k
    unfold KeepMs
    split
    · omega
    · split
      · simp
      · simp; omega
theorem ms_err {b : List Int} {a : Int} {k : Nat} (h : (KeepMs b a k).2.2 ≠ 0) : ∀ j, KeepMs b a (k + j) = KeepMs b a k
  | 0 => rfl
  | j + 1 => by
    have ih := ms_err h j
    show KeepMs b a (k + j + 1) = _
    rw [ms_succ, ih, if_pos h]
def KeepMi (b : List Int) (a n : Int) (z : MX) : Prop := z.i ≤ n.toNat ∧ KeepMs b a z.i = (z.at_, z.out, 0)
noncomputable def hMany : Hk := fun vs => match vs with
  | [x, y, z] => some (subS (slB (cL x)) x ∧ subS (iS (cI y)) y ∧ subS (iS (cI z)) z ∧ V.KeepFew (cL x) ∧ V.KeepBy (cL x) ∧ cI z ≤ 1000,
      .tup [.c (.sl [.int .i64] (KeepMs (cL x) (cI y) (cI z).toNat).2.1 none), .c (.v (.int .i64 (if (KeepMs (cL x) (cI y) (cI z).toNat).2.2 = 0 then (KeepMs (cL x) (cI y) (cI z).toNat).1 else 0))), .c (.v (.int .i64 (KeepMs (cL x) (cI y) (cI z).toNat).2.2))])
  | _ => none
theorem hkZ_ok : HookOK Try.prog hkZ := hkL_cons V.rread_ok (hkL_cons V.rzag_ok (hkL_cons V.read_ok (hkL_cons V.zag_ok hkL_nil)))
theorem many_ok : GOK Try.prog 37 hMany := by
  refine gokW mixed tab_ok hkZ_ok fun vs s r hg hs => ?_
  unfold hMany at hg
  split at hg <;> try (cases hg; done)
  rename_i x y z
  simp only [Option.some.injEq, Prod.mk.injEq] at hg
  obtain ⟨rfl, rfl⟩ := hg
  obtain ⟨h1, h2, h3, h4, h5, h6⟩ := hs
  refine ⟨lhL [(1, hintMy (cI z) (KeepMi (cL x) (cI y) (cI z)))], 10, [slB (cL x), iS (cI y), iS (cI z)], ⟨h1, h2, h3, trivial⟩, ?_⟩
  generalize cL x = b at *
  generalize cI y = a at *
  generalize cI z = n at *
  rw [many_res]
  simp only [true_and, and_true]
  refine ⟨⟨⟨0, a, []⟩, ⟨Nat.zero_le _, rfl⟩, rfl, rfl, rfl⟩, fun q hq => br_in (fun d => ?_) fun d => ?_⟩
  · have d : ((q.i : Nat) : Int) < n := of_decide_eq_true d
    obtain ⟨q1, q2⟩ := hq
    have hl := ms_len b a q.i
    rw [q2] at hl
    have hl : q.out.length ≤ q.i := hl
    have st : KeepMs b a (q.i + 1) = if V.KeepRe b q.at_ ≠ 0 then (0, [], V.KeepRe b q.at_) else (V.KeepRn b q.at_, q.out ++ [V.KeepZag (V.KeepRx b q.at_)], 0) := by
      rw [KeepMs, q2, if_neg (by simp)]
    refine ⟨⟨h4, h5⟩, br_in (fun e => br_y e ?_) fun e => ⟨V.rx_u b _ h5, br_y (ble_of (by omega)) ⟨⟨q.i + 1, V.KeepRn b q.at_, q.out ++ [V.KeepZag (V.KeepRx b q.at_)]⟩, ⟨by show q.i + 1 ≤ _; omega, ?_⟩, by show n.toNat - (q.i + 1) < n.toNat - q.i; omega, rfl, rfl, i64_nat (by omega)⟩⟩⟩
    · simp only [Bool.not_eq_true', decide_eq_false_iff_not] at e
      rw [if_pos e] at st
      have h0 : (KeepMs b a (q.i + 1)).2.2 ≠ 0 := by rw [st]; exact e
      have := ms_err h0 (n.toNat - (q.i + 1))
      rw [show q.i + 1 + (n.toNat - (q.i + 1)) = n.toNat by omega, st] at this
      rw [this]
      exact ⟨rfl, by rw [if_neg e], rfl⟩
    · simp only [Bool.not_eq_false', decide_eq_true_eq] at e
      rw [if_neg (by rw [e]; simp)] at st
      exact st
  · have d : ¬ ((q.i : Nat) : Int) < n := of_decide_eq_false d
    obtain ⟨q1, q2⟩ := hq
    rw [show n.toNat = q.i by omega, q2]
    exact ⟨rfl, rfl, rfl⟩
end Go.Proofs.Ytlckkciicchneaa
