/- What octet's Put, Cut and Take, and the document's, answer: the same. No condition. -/
import Derived.Test.YtccchfhjmahlpaaLOc
namespace Go.Proofs.Ytccchfhjmahlpaa
open SY
open Go.RowKit
set_option linter.unusedSimpArgs false
set_option linter.unusedVariables false

theorem p256 {i : Nat} (h : i ≤ 8) : (1 : Int) ≤ 256 ^ i ∧ (256 : Int) ^ i ≤ 18446744073709551616 := by
  have h1 : 1 ≤ 256 ^ i := Nat.one_le_pow _ _ (by decide)
  have h2 : 256 ^ i ≤ 256 ^ 8 := Nat.pow_le_pow_right (by decide) h
  have h3 : (256 : Nat) ^ 8 = 18446744073709551616 := by decide
  have e : ((256 ^ i : Nat) : Int) = 256 ^ i := by rw [Int.natCast_pow]; rfl
  omega
theorem pow8 (i : Nat) : (2 : Int) ^ (i * 8) = 256 ^ i := by
  rw [Nat.mul_comm, Int.pow_mul]; rfl
theorem q_le {x : Int} (h : KeepU x) (i : Nat) : 0 ≤ x / 256 ^ i ∧ x / 256 ^ i < 18446744073709551616 := by
  obtain ⟨h0, h1⟩ := h
  have hp : (0 : Int) < 256 ^ i := Int.pow_pos (by decide)
  have := Int.ediv_le_self (256 ^ i) h0
  exact ⟨Int.ediv_nonneg h0 (by omega), by omega⟩

theorem put_ok : GOK Try.prog 8 hPut := by
  refine gokW mixed tab_ok (hkL_cons size_ok hkL_nil) fun vs s r hg hs => ?_
  unfold hPut at hg
  split at hg <;> try (cases hg; done)
  rename_i a b c
  simp only [Option.some.injEq, Prod.mk.injEq] at hg
  obtain ⟨rfl, rfl⟩ := hg
  obtain ⟨h1, h2, h3, h4, h5⟩ := hs
  refine ⟨lhL [(2, hintPut (cL a) (cI b) (cI c))], 10, [slB (cL a), uS (cI b), iS (cI c)], ⟨h1, h2, h3, trivial⟩, ?_⟩
  generalize cL a = l at *
  generalize cI b = x at *
  generalize cI c = w at *
  clear h1 h2 h3
  rw [put_res]
  unfold KeepFew at h5
  refine br_in (fun c1 => br_in (fun c2 => ?_) fun c2 => ?_) fun c1 => ?_
  · simp at c1 c2
    have : KeepPe x w = 1 := by unfold KeepPe; rw [if_neg (by omega)]
    simp [KeepPp, this]
  · rw [br_t c1]
    simp at c1 c2
    rw [br_t (by simp; omega)]
    refine ⟨⟨rfl, h4⟩, br_in (fun c3 => ?_) fun c3 => ?_⟩
    · simp at c3
      have : KeepPe x w = 4 := by unfold KeepPe; rw [if_pos (by omega), if_neg (by omega)]
      simp [KeepPp, this]
    · simp at c3
      have hpe : KeepPe x w = 0 := by unfold KeepPe; rw [if_pos (by omega), if_pos (by omega)]
      rw [br_t (by simp)]
      refine ⟨⟨⟨0, l⟩, ⟨by show (0 : Int) ≤ w; omega, c2, by simp [KeepLe]⟩, by simp⟩, ?_⟩
      rintro ⟨i, out⟩ ⟨i1, i2, i3⟩
      simp only at i1 i2 i3 ⊢
      have hlen : out.length ≤ l.length + 8 := by rw [i3, List.length_append, le_len]; omega
      refine br_in (fun d => ?_) fun d => ?_
      · simp only [decide_eq_true_eq] at d
        rw [w_i64 (n := (i : Int) * 8) (by omega), w_u64 (n := (i : Int) * 8) (by omega), br_t (by simp; omega), br_t (by rw [Nat.ble_eq]; omega)]
        refine ⟨⟨i + 1, l ++ KeepLe (i + 1) x⟩, ⟨by simp; omega, i2, rfl⟩, by simp; omega, ⟨?_, by rw [w_i64 (by omega)]; simp, trivial⟩, trivial, trivial⟩
        rw [le_succ, i3, List.append_assoc]
        have e : sShr .u64 x ((i : Int) * 8) = x / 256 ^ i := by
          have := sh_u64 x (i * 8) (by omega)
          rw [pow8] at this
          rw [← this]; congr 1
        rw [e, IntKind.wrap_u8]
      · simp only [decide_eq_false_iff_not] at d
        have : i = w.toNat := by omega
        subst this
        unfold KeepPp
        rw [if_pos hpe, i3]
        exact ⟨rfl, hpe, trivial⟩
  · simp at c1
    have : KeepPe x w = 1 := by unfold KeepPe; rw [if_neg (by omega)]
    simp [KeepPp, this]

theorem rput_ok : GOK Try.prog 9 hPut := by
  refine gokW mixed tab_ok (hkL_cons rsize_ok hkL_nil) fun vs s r hg hs => ?_
  unfold hPut at hg
  split at hg <;> try (cases hg; done)
  rename_i a b c
  simp only [Option.some.injEq, Prod.mk.injEq] at hg
  obtain ⟨rfl, rfl⟩ := hg
  obtain ⟨h1, h2, h3, h4, h5⟩ := hs
  refine ⟨lhL [(1, hintRPut (cL a) (cI b) (cI c))], 10, [slB (cL a), uS (cI b), iS (cI c)], ⟨h1, h2, h3, trivial⟩, ?_⟩
  generalize cL a = l at *
  generalize cI b = x at *
  generalize cI c = w at *
  clear h1 h2 h3
  rw [rput_res]
  unfold KeepFew at h5
  refine br_in (fun c1 => ?_) fun c1 => br_in (fun c2 => ?_) fun c2 => ?_
  · simp at c1
    have : KeepPe x w = 1 := by unfold KeepPe; rw [if_neg (by omega)]
    simp [KeepPp, this]
  · simp at c2
    have : KeepPe x w = 1 := by unfold KeepPe; rw [if_neg (by omega)]
    simp [KeepPp, this]
  · simp at c1 c2
    rw [br_t (by simp; omega), br_t (by simp; omega)]
    refine ⟨⟨rfl, h4⟩, br_in (fun c3 => ?_) fun c3 => ?_⟩
    · simp at c3
      have : KeepPe x w = 4 := by unfold KeepPe; rw [if_pos (by omega), if_neg (by omega)]
      simp [KeepPp, this]
    · simp at c3
      have hpe : KeepPe x w = 0 := by unfold KeepPe; rw [if_pos (by omega), if_pos (by omega)]
      rw [br_t (by rw [Nat.ble_eq]; omega)]
      refine ⟨⟨⟨0, l⟩, ⟨by show (0 : Int) ≤ w; omega, c2, by simp [KeepLe]⟩, by simp [KeepQ]⟩, ?_⟩
      rintro ⟨i, out⟩ ⟨i1, i2, i3⟩
      simp only at i1 i2 i3 ⊢
      have hlen : out.length ≤ l.length + 8 := by rw [i3, List.length_append, le_len]; omega
      refine br_in (fun d => ?_) fun d => ?_
      · simp only [decide_eq_true_eq] at d
        have hq := q_le h4 i
        rw [br_t (by rw [Nat.ble_eq]; omega)]
        refine ⟨⟨i + 1, l ++ KeepLe (i + 1) x⟩, ⟨by simp; omega, i2, rfl⟩, by simp; omega, ⟨?_, ?_, by rw [w_i64 (by omega)]; simp, trivial⟩, trivial, trivial⟩
        · unfold KeepQ
          rw [Int.tdiv_eq_ediv_of_nonneg hq.1, w_u64 (by omega), Int.pow_succ, Int.ediv_ediv_of_nonneg (by have := p256 (i := i) (by omega); omega)]
        · unfold KeepQ
          rw [le_succ, i3, List.append_assoc, Int.tmod_eq_emod_of_nonneg hq.1, w_u8 (by omega)]
      · simp only [decide_eq_false_iff_not] at d
        have : i = w.toNat := by omega
        subst this
        unfold KeepPp
        rw [if_pos hpe, i3]
        exact ⟨rfl, hpe, trivial⟩

theorem cut_ok : GOK Try.prog 16 hCut := by
  refine gokW mixed tab_ok hkL_nil fun vs s r hg hs => ?_
  unfold hCut at hg
  split at hg <;> try (cases hg; done)
  rename_i a b c
  simp only [Option.some.injEq, Prod.mk.injEq] at hg
  obtain ⟨rfl, rfl⟩ := hg
  obtain ⟨h1, h2, h3, h4, h5, h6⟩ := hs
  refine ⟨noL, 10, [slB (cL a), iS (cI b), iS (cI c)], ⟨h1, h2, h3, trivial⟩, ?_⟩
  generalize cL a = l at *
  generalize cI b = p at *
  generalize cI c = n at *
  clear h1 h2 h3
  rw [cut_res]
  unfold KeepFew at h6
  obtain ⟨h4, h4'⟩ := h4
  obtain ⟨h5, h5'⟩ := h5
  refine br_in (fun c1 => ?_) fun c1 => br_in (fun c2 => ?_) fun c2 => br_in (fun c3 => ?_) fun c3 => ?_
  · simp at c1
    have : KeepCe l p n = 1 := by unfold KeepCe; rw [if_pos (by omega)]
    simp [KeepCp, KeepCn, this]
  · simp at c2
    have : KeepCe l p n = 1 := by unfold KeepCe; rw [if_pos (by omega)]
    simp [KeepCp, KeepCn, this]
  · simp at c3
    have : KeepCe l p n = 1 := by unfold KeepCe; rw [if_pos (by omega)]
    simp [KeepCp, KeepCn, this]
  · simp at c1 c2 c3
    rw [w_i64 (n := (l.length : Int) - p) (by omega)]
    refine br_in (fun c4 => ?_) fun c4 => ?_
    · simp at c4
      have : KeepCe l p n = 2 := by unfold KeepCe; rw [if_neg (by omega), if_pos (by omega)]
      simp [KeepCp, KeepCn, this]
    · simp at c4
      have : KeepCe l p n = 0 := by unfold KeepCe; rw [if_neg (by omega), if_neg (by omega)]
      rw [w_i64 (n := p + n) (by omega), br_t (by simp; omega)]
      have e : (p + n).toNat = p.toNat + n.toNat := by omega
      simp [KeepCp, KeepCn, this, e, List.drop_take, Nat.add_sub_cancel_left]

theorem rcut_ok : GOK Try.prog 17 hCut := by
  refine gokW mixed tab_ok hkL_nil fun vs s r hg hs => ?_
  unfold hCut at hg
  split at hg <;> try (cases hg; done)
  rename_i a b c
  simp only [Option.some.injEq, Prod.mk.injEq] at hg
  obtain ⟨rfl, rfl⟩ := hg
  obtain ⟨h1, h2, h3, h4, h5, h6⟩ := hs
  refine ⟨noL, 10, [slB (cL a), iS (cI b), iS (cI c)], ⟨h1, h2, h3, trivial⟩, ?_⟩
  generalize cL a = l at *
  generalize cI b = p at *
  generalize cI c = n at *
  clear h1 h2 h3
  rw [rcut_res]
  unfold KeepFew at h6
  obtain ⟨h4, h4'⟩ := h4
  obtain ⟨h5, h5'⟩ := h5
  refine br_in (fun c1 => ?_) fun c1 => br_in (fun c2 => ?_) fun c2 => br_in (fun c3 => ?_) fun c3 => ?_
  · simp at c1
    have : KeepCe l p n = 1 := by unfold KeepCe; rw [if_pos (by omega)]
    simp [KeepCp, KeepCn, this]
  · simp at c2
    have : KeepCe l p n = 1 := by unfold KeepCe; rw [if_pos (by omega)]
    simp [KeepCp, KeepCn, this]
  · simp at c3
    have : KeepCe l p n = 1 := by unfold KeepCe; rw [if_pos (by omega)]
    simp [KeepCp, KeepCn, this]
  · simp at c1 c2 c3
    rw [w_i64 (n := (l.length : Int) - p) (by omega)]
    refine br_in (fun c4 => ?_) fun c4 => ?_
    · simp at c4
      have : KeepCe l p n = 2 := by unfold KeepCe; rw [if_neg (by omega), if_pos (by omega)]
      simp [KeepCp, KeepCn, this]
    · simp at c4
      have : KeepCe l p n = 0 := by unfold KeepCe; rw [if_neg (by omega), if_neg (by omega)]
      rw [w_i64 (n := p + n) (by omega), br_t (by simp; omega), br_t (by rw [Nat.ble_eq]; simp; omega)]
      have e : (p + n).toNat = p.toNat + n.toNat := by omega
      simp [KeepCp, KeepCn, this, e, List.drop_take, Nat.add_sub_cancel_left]
end Go.Proofs.Ytccchfhjmahlpaa
