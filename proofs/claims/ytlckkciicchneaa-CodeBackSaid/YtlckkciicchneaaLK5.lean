/- Numbers behind bytes. No condition. -/
import Derived.Test.YtlckkciicchneaaRK5
namespace Go.Proofs.Ytlckkciicchneaa
open SY
open Go.RowKit
set_option linter.unusedSimpArgs false
set_option linter.unusedVariables false
set_option maxRecDepth 100000
theorem zig_u {y : Int} (h : V.KeepI y) : V.KeepU (V.KeepZig y) := by
  unfold V.KeepI at h
  unfold V.KeepZig V.KeepU
  split <;> omega
theorem en_len (ns : List Int) : ∀ k, (KeepEn ns k).length ≤ 10 * k
  | 0 => Nat.le_refl _
  | k + 1 => by
    have h1 := en_len ns k
    have h2 := (V.vbk_len 9 (V.KeepZig (gI ns k))).2
    show (KeepEn ns k ++ V.vbk 9 (V.KeepZig (gI ns k))).length ≤ _
    rw [List.length_append]; omega
noncomputable def KeepEc (ns : List Int) : List Int := KeepEn ns ns.length
theorem hkV_ok : HookOK Try.prog hkV := hkL_cons V.app_ok (hkL_cons V.zig_ok hkL_nil)
theorem put_ok : GOK Try.prog 19 (hPut KeepEc) := by
  refine gokW mixed tab_ok hkV_ok fun vs s r hg hs => ?_
  unfold hPut at hg
  split at hg <;> try (cases hg; done)
  rename_i a b
  simp only [Option.some.injEq, Prod.mk.injEq] at hg
  obtain ⟨rfl, rfl⟩ := hg
  obtain ⟨h1, h2, h3, h4, h5⟩ := hs
  refine ⟨lhL [(1, hintPut (cL a) (cL b))], 10, [slB (cL a), slI (cL b)], ⟨h1, h2, trivial⟩, ?_⟩
  generalize cL a = x at *
  generalize cL b = ns at *
  rw [put_res]
  simp only [Int.toNat_natCast, true_and, and_true]
  refine ⟨⟨⟨0⟩, Nat.zero_le _, by simp [KeepEn], rfl⟩, fun z hz => br_in (fun d => ?_) fun d => ?_⟩
  · have d := of_decide_eq_true d
    have d : ((z.i : Nat) : Int) < ((ns.length : Nat) : Int) := d
    have hk := h5 z.i (by omega)
    have hl := en_len ns z.i
    refine br_y (by simp; omega) ⟨hk, ⟨zig_u hk, by unfold V.KeepFew; rw [List.length_append]; omega⟩, ⟨z.i + 1⟩, by show z.i + 1 ≤ ns.length; omega, by show ns.length - (z.i + 1) < ns.length - z.i; omega, ?_, i64_nat (by omega)⟩
    show x ++ (KeepEn ns z.i ++ _) = _
    rw [List.append_assoc]
  · have d := of_decide_eq_false d
    have d : ¬ ((z.i : Nat) : Int) < ((ns.length : Nat) : Int) := d
    have hz : z.i ≤ ns.length := hz
    unfold KeepEc
    rw [show z.i = ns.length by omega]
end Go.Proofs.Ytlckkciicchneaa
