/- What octet's Take, and the document's, answer: the same. No condition. -/
import Derived.Test.YtccchfhjmahlpaaLOd
namespace Go.Proofs.Ytccchfhjmahlpaa
open SY
open Go.RowKit
set_option linter.unusedSimpArgs false
set_option linter.unusedVariables false

theorem val_bound : ∀ {l : List Int}, KeepBy l → 0 ≤ val l ∧ val l < 256 ^ l.length
  | [], _ => by simp [val]
  | c :: l, h => by
    obtain ⟨h1, h2⟩ := by_cons h
    have := val_bound h2
    rw [List.length_cons, Int.pow_succ]
    simp only [val]
    omega
theorem val_app : ∀ (l : List Int) (c : Int), val (l ++ [c]) = val l + c * 256 ^ l.length
  | [], c => by simp [val]
  | a :: l, c => by
    simp only [List.cons_append, val, List.length_cons]
    rw [val_app l c, Int.pow_succ, Int.mul_add, Int.mul_comm (256 ^ l.length) 256, ← Int.mul_assoc c, Int.mul_comm c 256, Int.mul_assoc, Int.add_assoc]
theorem take_succ' {l : List Int} {i : Nat} (h : i < l.length) : l.take (i + 1) = l.take i ++ [gI l i] := by
  rw [List.take_succ_eq_append_getElem h]
  simp [gI, h]
theorem cp_by {l : List Int} (h : KeepBy l) (p n : Int) : KeepBy (KeepCp l p n) := by
  unfold KeepCp
  split
  · exact by_take (by_drop h _) _
  · intro j hj; simp at hj
theorem cp_len (l : List Int) (p n : Int) (h : n ≤ 8) : (KeepCp l p n).length ≤ 8 := by
  unfold KeepCp
  split
  · simp; omega
  · simp
theorem tx_eq {l : List Int} {p n : Int} (h : 1 ≤ n ∧ n ≤ 8) : KeepTx l p n = val (KeepCp l p n) ∧ KeepTn l p n = KeepCn l p n ∧ KeepTe l p n = KeepCe l p n := by
  have e : KeepTe l p n = KeepCe l p n := by unfold KeepTe; rw [if_pos h]
  refine ⟨?_, ?_, e⟩
  · unfold KeepTx
    rw [e]
    split
    · rfl
    · rename_i h0
      unfold KeepCp; rw [if_neg h0]; rfl
  · unfold KeepTn KeepCn
    rw [e]

theorem take_ok : GOK Try.prog 14 hTake := by
  refine gokW mixed tab_ok (hkL_cons cut_ok hkL_nil) fun vs s r hg hs => ?_
  unfold hTake at hg
  split at hg <;> try (cases hg; done)
  rename_i a b c
  simp only [Option.some.injEq, Prod.mk.injEq] at hg
  obtain ⟨rfl, rfl⟩ := hg
  obtain ⟨h1, h2, h3, h4, h5, h6, h7⟩ := hs
  refine ⟨lhL [(1, hintTake (KeepCp (cL a) (cI b) (cI c)))], 10, [slB (cL a), iS (cI b), iS (cI c)], ⟨h1, h2, h3, trivial⟩, ?_⟩
  generalize cL a = l at *
  generalize cI b = p at *
  generalize cI c = n at *
  clear h1 h2 h3
  rw [take_res]
  refine br_in (fun c1 => br_in (fun c2 => ?_) fun c2 => ?_) fun c1 => ?_
  · simp at c1 c2
    have : KeepTe l p n = 1 := by unfold KeepTe; rw [if_neg (by omega)]
    simp [KeepTx, KeepTn, this]
  · simp at c1 c2
    obtain ⟨t1, t2, t3⟩ := tx_eq (l := l) (p := p) ⟨c1, c2⟩
    rw [t1, t2, t3]
    have hb := cp_by h7 p n
    have hl := cp_len l p n c2
    refine ⟨⟨rfl, rfl, rfl, h4, h5, h6⟩, ?_⟩
    generalize KeepCp l p n = q at *
    refine ⟨⟨⟨0⟩, Nat.zero_le _, by simp [KeepV, val]⟩, ?_⟩
    rintro ⟨i⟩ hi
    have hi : i ≤ q.length := hi
    simp only [Int.toNat_natCast]
    refine br_in (fun d => ?_) fun d => ?_
    · simp only [decide_eq_true_eq] at d
      have hlt : i < q.length := by omega
      have hby := hb i hlt
      rw [br_t (by simp; omega), w_i64 (n := (i : Int) * 8) (by omega), w_u64 (n := (i : Int) * 8) (by omega), br_t (by simp; omega)]
      refine ⟨⟨i + 1⟩, hlt, by simp; omega, ⟨?_, by rw [w_i64 (by omega)]; simp, trivial⟩, trivial⟩
      unfold KeepV
      have hv := val_bound (by_take hb i)
      have hlen : (q.take i).length = i := by rw [List.length_take]; omega
      rw [hlen] at hv
      rw [take_succ' hlt, val_app, hlen]
      generalize gI q i = c at *
      generalize val (q.take i) = v at *
      have hp := p256 (i := i) (by omega)
      have hp7 : (256 : Int) ^ i ≤ 72057594037927936 := by
        have h2 : 256 ^ i ≤ 256 ^ 7 := Nat.pow_le_pow_right (by decide) (by omega)
        have h3 : (256 : Nat) ^ 7 = 72057594037927936 := by decide
        have e : ((256 ^ i : Nat) : Int) = 256 ^ i := by rw [Int.natCast_pow]; rfl
        omega
      have hm : c * 256 ^ i ≤ 255 * 72057594037927936 := Int.mul_le_mul hby.2 hp7 (by omega) (by omega)
      have hm0 : 0 ≤ c * 256 ^ i := Int.mul_nonneg hby.1 (by omega)
      unfold sShl
      have e : min (Int.toNat ((i : Int) * 8)) IntKind.u64.bits = i * 8 := by
        rw [show ((i : Int) * 8).toNat = i * 8 by omega]
        exact Nat.min_eq_left (by show i * 8 ≤ 64; omega)
      rw [w_u64 (n := c) (by omega), e, pow8, w_u64 (by omega)]
      have := bOr_above (x := v) (c := c) (n := i * 8) hv.1 (by rw [pow8]; exact hv.2) hby.1 (by omega) (by rw [pow8]; omega)
      rw [pow8] at this
      exact this.symm
    · simp only [decide_eq_false_iff_not] at d
      have : i = q.length := by omega
      subst this
      unfold KeepV
      rw [List.take_length]
      exact ⟨by trivial, by trivial, by trivial, trivial⟩
  · simp at c1
    have : KeepTe l p n = 1 := by unfold KeepTe; rw [if_neg (by omega)]
    simp [KeepTx, KeepTn, this]

theorem rtake_ok : GOK Try.prog 15 hTake := by
  refine gokW mixed tab_ok (hkL_cons rcut_ok hkL_nil) fun vs s r hg hs => ?_
  unfold hTake at hg
  split at hg <;> try (cases hg; done)
  rename_i a b c
  simp only [Option.some.injEq, Prod.mk.injEq] at hg
  obtain ⟨rfl, rfl⟩ := hg
  obtain ⟨h1, h2, h3, h4, h5, h6, h7⟩ := hs
  refine ⟨lhL [(1, hintRTake (KeepCp (cL a) (cI b) (cI c)))], 10, [slB (cL a), iS (cI b), iS (cI c)], ⟨h1, h2, h3, trivial⟩, ?_⟩
  generalize cL a = l at *
  generalize cI b = p at *
  generalize cI c = n at *
  clear h1 h2 h3
  rw [rtake_res]
  refine br_in (fun c1 => ?_) fun c1 => br_in (fun c2 => ?_) fun c2 => ?_
  · simp at c1
    have : KeepTe l p n = 1 := by unfold KeepTe; rw [if_neg (by omega)]
    simp [KeepTx, KeepTn, this]
  · simp at c2
    have : KeepTe l p n = 1 := by unfold KeepTe; rw [if_neg (by omega)]
    simp [KeepTx, KeepTn, this]
  · simp at c1 c2
    obtain ⟨t1, t2, t3⟩ := tx_eq (l := l) (p := p) (n := n) ⟨by omega, c2⟩
    refine ⟨⟨rfl, rfl, rfl, h4, h5, h6⟩, br_in (fun c3 => ?_) fun c3 => ?_⟩
    · simp at c3
      rw [t2, t3]
      refine ⟨?_, ?_, rfl, trivial⟩
      · unfold KeepTx; rw [if_neg (by rw [t3]; exact c3)]
      · unfold KeepCn; rw [if_neg c3]
    · simp at c3
      rw [t1, t2, t3, c3]
      have hb := cp_by h7 p n
      have hl := cp_len l p n c2
      generalize KeepCp l p n = q at *
      refine ⟨⟨⟨q.length⟩, Nat.le_refl _, by unfold KeepD KeepI1; rw [List.drop_length, w_i64 (by omega)]; simp [val]⟩, ?_⟩
      rintro ⟨i⟩ hi
      have hi : i ≤ q.length := hi
      simp only
      refine br_in (fun d => ?_) fun d => ?_
      · simp only [decide_eq_true_eq] at d
        have hd : 0 ≤ (i : Int) - 1 := d
        obtain ⟨j, rfl⟩ : ∃ j, i = j + 1 := ⟨i - 1, by omega⟩
        have e : KeepI1 (j + 1) = j := by unfold KeepI1; simp
        simp only [e, Int.toNat_natCast]
        rw [br_t (by simp; omega)]
        have hby := hb j (by omega)
        have hv := val_bound (by_drop hb (j + 1))
        have hp : (256 : Int) ^ (q.drop (j + 1)).length ≤ 72057594037927936 := by
          have h2 : 256 ^ (q.drop (j + 1)).length ≤ 256 ^ 7 := Nat.pow_le_pow_right (by decide) (by simp; omega)
          have h3 : (256 : Nat) ^ 7 = 72057594037927936 := by decide
          have e : ((256 ^ (q.drop (j + 1)).length : Nat) : Int) = 256 ^ (q.drop (j + 1)).length := by rw [Int.natCast_pow]; rfl
          omega
        refine ⟨⟨j⟩, (by show j ≤ q.length; omega), by simp, ⟨?_, ?_, trivial⟩, trivial⟩
        · unfold KeepD
          rw [drop_cons (i := j) (by omega)]
          simp only [val]
          rw [w_u64 (n := gI q j) (by omega), w_u64 (n := val (q.drop (j + 1)) * 256) (by omega), w_u64 (by omega)]
          omega
        · unfold KeepI1; rw [w_i64 (by omega)]
      · simp only [decide_eq_false_iff_not] at d
        have hd : ¬ 0 ≤ (i : Int) - 1 := d
        obtain rfl : i = 0 := by omega
        unfold KeepD
        rw [List.drop_zero]
        exact ⟨by trivial, by trivial, by trivial, trivial⟩
end Go.Proofs.Ytccchfhjmahlpaa
