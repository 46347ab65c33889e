/- What draw's next one, and many, answer. No condition. -/
import Derived.Test.YthjbgidnoiedmaaRD1
namespace Go.Proofs.Ythjbgidnoiedmaa
open SY
open Go.RowKit
set_option linter.unusedSimpArgs false
set_option linter.unusedVariables false


/-! ### Functions without a text -/
theorem bits_ok : GOK Try.prog 27 hBits := by
  intro vs s r hg hs
  unfold hBits at hg
  split at hg <;> try (cases hg; done)
  rename_i a
  simp only [Option.some.injEq, Prod.mk.injEq] at hg
  obtain ⟨rfl, rfl⟩ := hg
  refine .inr ⟨Extern.MathFloatBits.float64bits, ⟨Try.f27, by kernel_rfl, by kernel_rfl, by kernel_rfl, by kernel_rfl, by kernel_rfl⟩, fun g w vals _ hv => ?_⟩
  obtain ⟨v, l, rfl, h1, h2⟩ := hv.cons_left
  obtain rfl := h2.nil_left
  have h1 : DS g w (fS (cF a)) v := subS_ok hs h1
  have h1 : v = .float .f64 (cF a) := h1
  subst h1
  exact ⟨.int .u64 (cF a), w, rfl, rfl, Below.refl _ _⟩
theorem from_ok : GOK Try.prog 37 hFrom := by
  intro vs s r hg hs
  unfold hFrom at hg
  split at hg <;> try (cases hg; done)
  rename_i a
  simp only [Option.some.injEq, Prod.mk.injEq] at hg
  obtain ⟨rfl, rfl⟩ := hg
  refine .inr ⟨Extern.MathFloatBits.float64frombits, ⟨Try.f37, by kernel_rfl, by kernel_rfl, by kernel_rfl, by kernel_rfl, by kernel_rfl⟩, fun g w vals _ hv => ?_⟩
  obtain ⟨v, l, rfl, h1, h2⟩ := hv.cons_left
  obtain rfl := h2.nil_left
  have h1 : DS g w (uS (cI a)) v := subS_ok hs h1
  have h1 : v = .int .u64 (cI a) := h1
  subst h1
  exact ⟨.float .f64 (cI a).toNat, w, rfl, rfl, Below.refl _ _⟩
theorem wrap_U (x : Int) : KeepU (IntKind.u64.wrap x) := by rw [IntKind.wrap_u64]; unfold KeepU; omega
theorem nx_U (s : Int) : KeepU (KeepNx s) := wrap_U _
theorem shr_div {z : Int} (h : KeepU z) (d : Nat) (hd : d ≤ 64) (c : Int) (hc : c = 2 ^ d) : IntKind.u64.wrap (z.tdiv c) = sShr .u64 z (d : Int) := by
  obtain ⟨h0, h1⟩ := h
  have hp : (0 : Int) < 2 ^ d := Int.pow_pos (by decide)
  rw [sShr_eq, show min (d : Int).toNat IntKind.u64.bits = d from by show min d 64 = d; omega, hc, Int.tdiv_eq_ediv_of_nonneg h0, IntKind.wrap_u64]
  have a : 0 ≤ z / 2 ^ d := Int.ediv_nonneg h0 (Int.le_of_lt hp)
  have b : z / 2 ^ d ≤ z := Int.ediv_le_self _ h0
  omega
theorem next_ok : GOK Try.prog 10 hNext := by
  refine gokW mixed tab_ok hkL_nil fun vs s r hg hs => ?_
  unfold hNext at hg
  split at hg <;> try (cases hg; done)
  rename_i a
  simp only [Option.some.injEq, Prod.mk.injEq] at hg
  obtain ⟨rfl, rfl⟩ := hg
  refine ⟨noL, 10, [uS (cI a)], ⟨hs.1, trivial⟩, ?_⟩
  rw [next_res]
  exact ⟨rfl, rfl, trivial⟩
theorem rnext_ok : GOK Try.prog 11 hNext := by
  refine gokW mixed tab_ok hkL_nil fun vs s r hg hs => ?_
  unfold hNext at hg
  split at hg <;> try (cases hg; done)
  rename_i a
  simp only [Option.some.injEq, Prod.mk.injEq] at hg
  obtain ⟨rfl, rfl⟩ := hg
  refine ⟨noL, 10, [uS (cI a)], ⟨hs.1, trivial⟩, ?_⟩
  rw [rnext_res]
  rw [shr_div (wrap_U _) 30 (by decide) 1073741824 (by decide), shr_div (wrap_U _) 27 (by decide) 134217728 (by decide), shr_div (wrap_U _) 31 (by decide) 2147483648 (by decide)]
  exact ⟨rfl, rfl, trivial⟩
theorem hkA_ok : HookOK Try.prog hkA := hkL_cons next_ok <| hkL_cons rnext_ok hkL_nil
theorem st_U {s : Int} (h : KeepU s) (i : Nat) : KeepU (KeepSt s i) := by
  cases i with
  | zero => exact h
  | succ i => exact nx_U _
theorem wl_len (s : Int) (i : Nat) : (KeepWl s i).length = i := by
  induction i with
  | zero => rfl
  | succ i ih => show (wlI s i ++ _).length = _; rw [List.length_append, show (wlI s i).length = i from ih]; rfl
theorem i64_nat {k : Nat} (h : k < 9223372036854775807) : ((k + 1 : Nat) : Int) = IntKind.i64.wrap ((k : Int) + 1) := by rw [IntKind.wrap_i64]; omega
theorem cnt_mid {n : Int} {i : Nat} (h0 : ¬ n < 0) (h1 : ¬ n > 1000) (hi : ¬ (i : Int) < n) (hl : i = 0 ∨ ((i : Int) ≤ n ∧ n ≤ 1000)) : cntI n = i := by
  unfold cntI; rw [if_neg (by omega)]; omega
theorem many_ok : GOK Try.prog 12 hMany := by
  refine gokW mixed tab_ok hkA_ok fun vs s r hg hs => ?_
  unfold hMany at hg
  split at hg <;> try (cases hg; done)
  rename_i a b
  simp only [Option.some.injEq, Prod.mk.injEq] at hg
  obtain ⟨rfl, rfl⟩ := hg
  obtain ⟨h1, h2, hu⟩ := hs
  refine ⟨lhL [(1, hintMany (cI a) (cI b))], 10, [uS (cI a), iS (cI b)], ⟨h1, h2, trivial⟩, ?_⟩
  generalize cI a = s at *
  generalize cI b = n at *
  rw [many_res]
  refine br_in (fun c => ?_) fun c => br_in (fun d => ?_) fun d => ⟨?_, fun z hz => br_in (fun e => ?_) fun e => ?_⟩
  · have c := of_decide_eq_true c
    have : cntI n = 0 := by unfold cntI; rw [if_pos (.inl c)]
    unfold KeepMl KeepMt; rw [this]; exact ⟨rfl, rfl, trivial⟩
  · have d := of_decide_eq_true d
    have : cntI n = 0 := by unfold cntI; rw [if_pos (.inr d)]
    unfold KeepMl KeepMt; rw [this]; exact ⟨rfl, rfl, trivial⟩
  · exact ⟨⟨0⟩, ⟨Nat.zero_le _, .inl rfl⟩, ⟨rfl, rfl, rfl, trivial⟩, trivial, trivial⟩
  · have e := of_decide_eq_true e
    have d := of_decide_eq_false d
    refine ⟨⟨rfl, st_U hu _⟩, br_y (by rw [wl_len]; have := hz.1; simp; omega) ⟨⟨z.1 + 1⟩, ⟨by show z.1 + 1 ≤ 1000; omega, .inr ⟨by show ((z.1 + 1 : Nat) : Int) ≤ n; omega, by omega⟩⟩, by show 1000 - (z.1 + 1) < 1000 - z.1; omega, ⟨rfl, rfl, i64_nat (by have := hz.1; omega), trivial⟩, trivial, trivial⟩⟩
  · have := cnt_mid (of_decide_eq_false c) (of_decide_eq_false d) (of_decide_eq_false e) hz.2
    unfold KeepMl KeepMt; rw [this]; exact ⟨rfl, rfl, trivial⟩
theorem rmany_ok : GOK Try.prog 13 hMany := by
  refine gokW mixed tab_ok hkA_ok fun vs s r hg hs => ?_
  unfold hMany at hg
  split at hg <;> try (cases hg; done)
  rename_i a b
  simp only [Option.some.injEq, Prod.mk.injEq] at hg
  obtain ⟨rfl, rfl⟩ := hg
  obtain ⟨h1, h2, hu⟩ := hs
  refine ⟨lhL [(1, hintRMany (cI a) (cI b))], 10, [uS (cI a), iS (cI b)], ⟨h1, h2, trivial⟩, ?_⟩
  generalize cI a = s at *
  generalize cI b = n at *
  rw [rmany_res]
  refine ⟨⟨⟨0⟩, ⟨Nat.zero_le _, .inl rfl⟩, ⟨rfl, rfl, rfl, trivial⟩, trivial, trivial⟩, fun z hz => br_in (fun e => br_in (fun d => ?_) fun d => ?_) fun e => ?_⟩
  · have e := of_decide_eq_true e
    have d := of_decide_eq_true d
    refine ⟨⟨rfl, st_U hu _⟩, br_y (by rw [wl_len]; have := hz.1; simp; omega) ⟨⟨z.1 + 1⟩, ⟨by show z.1 + 1 ≤ 1000; omega, .inr ⟨by show ((z.1 + 1 : Nat) : Int) ≤ n; omega, by omega⟩⟩, by show 1000 - (z.1 + 1) < 1000 - z.1; omega, ⟨rfl, rfl, i64_nat (by have := hz.1; omega), trivial⟩, trivial, trivial⟩⟩
  · have d := of_decide_eq_false d
    have e := of_decide_eq_true e
    have c : cntI n = z.1 := by unfold cntI; rw [if_pos (.inr (by omega))]; have := hz.2; omega
    unfold KeepMl KeepMt; rw [c]; exact ⟨rfl, rfl, trivial⟩
  · have e := of_decide_eq_false e
    have c : cntI n = z.1 := by
      have := hz.2
      unfold cntI; split <;> omega
    unfold KeepMl KeepMt; rw [c]; exact ⟨rfl, rfl, trivial⟩
theorem alive_fr {x r : Nat} (h : KeepFr (.ar .mul) 4607182418800017408 x r) (e : floatBits .mul .f64 4607182418800017408 x = some x) : r = x := by
  unfold KeepFr fqBits at h
  simp only at h
  rw [e] at h
  exact h
noncomputable def hAlive : Hk := fun vs => match vs with
  | [] => some (True, .t (.c (.v (.bool true))))
  | _ => none
theorem hkB_ok : HookOK Try.prog hkB := hkL_cons next_ok <| hkL_cons many_ok <| hkL_cons bits_ok <| hkL_cons from_ok hkL_nil
theorem alive_ok : GOK Try.prog 9 hAlive := by
  refine gok mixed tab_ok hkB_ok fun vs s r hg hs => ?_
  unfold hAlive at hg
  split at hg <;> try (cases hg; done)
  simp only [Option.some.injEq, Prod.mk.injEq] at hg
  obtain ⟨rfl, rfl⟩ := hg
  refine ⟨noL, 10, ?_⟩
  show callT Try.prog _ tab noL 10 _ [] tru
  rw [alive_res 0]
  have z : KeepU 0 := ⟨by decide, by decide⟩
  simp only [z, true_and, and_self]
  refine fun r h => ?_
  obtain rfl := alive_fr h (by decide)
  refine br_y (by decide) fun r h => ?_
  obtain rfl := alive_fr h (by decide)
  refine br_y (by decide) fun r h => ?_
  obtain rfl := alive_fr h (by decide)
  exact congrArg (fun b => S.t (T.c (SC.v (Value.bool b)))) (by decide : (!KeepFo .lss (KeepN ((4602678819172646912 : Nat) : Int)) 4602678819172646912) = true)
end Go.Proofs.Ythjbgidnoiedmaa
