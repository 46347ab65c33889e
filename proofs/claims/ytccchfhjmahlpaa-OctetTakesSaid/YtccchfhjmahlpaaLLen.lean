/- What math/bits.Len64 answers. No condition. -/
import Derived.Test.YtccchfhjmahlpaaRLen
import Derived.Test.YtccchfhjmahlpaaSyW
namespace Go.Proofs.Ytccchfhjmahlpaa
open SY
open Go.RowKit
set_option linter.unusedSimpArgs false
set_option linter.unusedVariables false

theorem log2_shift : ∀ (k x : Nat), 2 ^ k ≤ x → Nat.log2 x = Nat.log2 (x / 2 ^ k) + k
  | 0, x, _ => by simp
  | k + 1, x, h => by
    have h2 : 2 ≤ x := by
      have : 2 ^ 1 ≤ 2 ^ (k + 1) := Nat.pow_le_pow_right (by decide) (by omega)
      omega
    rw [Nat.log2_def, if_pos h2, log2_shift k (x / 2) (by rw [Nat.pow_succ] at h; omega), Nat.div_div_eq_div_mul, Nat.pow_succ, Nat.mul_comm 2, Nat.add_assoc]
theorem ln_shift {x : Int} (k : Nat) (h : 2 ^ k ≤ x) : KeepLn x = k + KeepLn (x / 2 ^ k) := by
  have hp : (0 : Int) < 2 ^ k := Int.pow_pos (by decide)
  obtain ⟨n, rfl⟩ := Int.eq_ofNat_of_zero_le (show 0 ≤ x by omega)
  have hn : 2 ^ k ≤ n := by exact_mod_cast h
  have hp' := Nat.two_pow_pos k
  have e : ((n : Int) / 2 ^ k) = ((n / 2 ^ k : Nat) : Int) := by simp
  have h1 : n / 2 ^ k ≠ 0 := by
    have := Nat.div_pos hn hp'
    omega
  rw [e]
  unfold KeepLn
  rw [if_neg (by omega), if_neg (by omega), Int.toNat_natCast, Int.toNat_natCast, log2_shift k n hn]
  omega
theorem ln_leaf {T : List Int} (hT : ∀ n : Fin 256, ((m8 (gI T n.val) : Nat) : Int) = KeepLn n.val) {x y k : Int} (hk : KeepLn x = k + KeepLn y) (h0 : 0 ≤ y) (h1 : y < 256) (hb : 0 ≤ k ∧ k ≤ 56) :
    br (decide (0 ≤ IntKind.u8.wrap y) && decide (IntKind.u8.wrap y < 256)) (KeepLn x = IntKind.i64.wrap (k + IntKind.i64.wrap (m8 (gI T (IntKind.u8.wrap y).toNat) : Int))) False := by
  rw [w_u8 (by omega), br_t (by simp [h0, h1])]
  have := hT ⟨y.toNat, by omega⟩
  simp only [Int.toNat_of_nonneg h0] at this
  have hm : m8 (gI T y.toNat) < 256 := Nat.mod_lt _ (by decide)
  rw [w_i64 (n := (m8 (gI T y.toNat) : Int)) (by omega), w_i64 (by omega), this, hk]
theorem sh_u64 (x : Int) (b : Nat) (hb : b ≤ 64) : sShr .u64 x b = x / 2 ^ b := by
  rw [sShr_eq]
  have : min (Int.toNat (b : Int)) IntKind.u64.bits = b := by
    rw [Int.toNat_natCast]; exact Nat.min_eq_left hb
  rw [this]

theorem len_ok : GOK Try.prog 20 hLen := by
  refine gokW mixed tab_ok hkL_nil fun vs s r hg hs => ?_
  unfold hLen at hg
  split at hg <;> try (cases hg; done)
  rename_i a
  simp only [Option.some.injEq, Prod.mk.injEq] at hg
  obtain ⟨rfl, rfl⟩ := hg
  obtain ⟨h1, h2, h3⟩ := hs
  refine ⟨noL, 10, [uS (cI a)], ⟨h1, trivial⟩, ?_⟩
  generalize cI a = x at *
  rw [len_res]
  rw [show sShr IntKind.u64 x 32 = x / 2 ^ 32 from sh_u64 x 32 (by decide), show sShr IntKind.u64 x 16 = x / 2 ^ 16 from sh_u64 x 16 (by decide), show sShr IntKind.u64 x 8 = x / 2 ^ 8 from sh_u64 x 8 (by decide),
    show sShr IntKind.u64 (x / 2 ^ 32) 16 = x / 2 ^ 32 / 2 ^ 16 from sh_u64 _ 16 (by decide), show sShr IntKind.u64 (x / 2 ^ 32) 8 = x / 2 ^ 32 / 2 ^ 8 from sh_u64 _ 8 (by decide), show sShr IntKind.u64 (x / 2 ^ 16) 8 = x / 2 ^ 16 / 2 ^ 8 from sh_u64 _ 8 (by decide),
    show sShr IntKind.u64 (x / 2 ^ 32 / 2 ^ 16) 8 = x / 2 ^ 32 / 2 ^ 16 / 2 ^ 8 from sh_u64 _ 8 (by decide)]
  refine br_in (fun b1 => ?_) fun b1 => ?_ <;> simp only [decide_eq_true_eq, decide_eq_false_iff_not] at b1
  · have e1 := ln_shift (x := x) 32 (by omega)
    refine br_in (fun b2 => ?_) fun b2 => ?_ <;> simp only [decide_eq_true_eq, decide_eq_false_iff_not] at b2
    · have e2 := ln_shift (x := x / 2 ^ 32) 16 (by omega)
      refine br_in (fun b3 => ?_) fun b3 => ?_ <;> simp only [decide_eq_true_eq, decide_eq_false_iff_not] at b3
      · have e3 := ln_shift (x := x / 2 ^ 32 / 2 ^ 16) 8 (by omega)
        exact ln_leaf (by decide +kernel) (by omega) (by omega) (by omega) (by decide)
      · exact ln_leaf (by decide +kernel) (by omega) (by omega) (by omega) (by decide)
    · refine br_in (fun b3 => ?_) fun b3 => ?_ <;> simp only [decide_eq_true_eq, decide_eq_false_iff_not] at b3
      · have e3 := ln_shift (x := x / 2 ^ 32) 8 (by omega)
        exact ln_leaf (by decide +kernel) (by omega) (by omega) (by omega) (by decide)
      · exact ln_leaf (by decide +kernel) (by omega) (by omega) (by omega) (by decide)
  · refine br_in (fun b2 => ?_) fun b2 => ?_ <;> simp only [decide_eq_true_eq, decide_eq_false_iff_not] at b2
    · have e2 := ln_shift (x := x) 16 (by omega)
      refine br_in (fun b3 => ?_) fun b3 => ?_ <;> simp only [decide_eq_true_eq, decide_eq_false_iff_not] at b3
      · have e3 := ln_shift (x := x / 2 ^ 16) 8 (by omega)
        exact ln_leaf (by decide +kernel) (by omega) (by omega) (by omega) (by decide)
      · exact ln_leaf (by decide +kernel) (by omega) (by omega) (by omega) (by decide)
    · refine br_in (fun b3 => ?_) fun b3 => ?_ <;> simp only [decide_eq_true_eq, decide_eq_false_iff_not] at b3
      · have e3 := ln_shift (x := x) 8 (by omega)
        exact ln_leaf (by decide +kernel) (by omega) (by omega) (by omega) (by decide)
      · have e3 : KeepLn x = 0 + KeepLn x := by omega
        exact ln_leaf (by decide +kernel) (by omega) (by omega) (by omega) (by decide)


theorem ln_64 {x : Int} (h : KeepU x) : 0 ≤ KeepLn x ∧ KeepLn x ≤ 64 := by
  obtain ⟨h0, h3⟩ := h
  unfold KeepLn
  split
  · omega
  · rename_i hx
    have : Nat.log2 x.toNat < 64 := (Nat.log2_lt (by omega)).2 (by omega)
    omega
/-- Bits of a number of one unit more. -/
theorem ln_unit {x : Int} (k : Nat) (h0 : 0 ≤ x) (h1 : x < 2 ^ k) : 0 ≤ KeepLn x ∧ KeepLn x ≤ k := by
  unfold KeepLn
  split
  · omega
  · rename_i hx
    have : Nat.log2 x.toNat < k := (Nat.log2_lt (by omega)).2 (by
      have e : ((2 ^ k : Nat) : Int) = 2 ^ k := by simp
      omega)
    omega
theorem gI_drop (b : List Int) (k i : Nat) : gI (b.drop k) i = gI b (k + i) := by simp [gI, List.getElem?_drop]
theorem drop_cons {b : List Int} {i : Nat} (h : i < b.length) : b.drop i = gI b i :: b.drop (i + 1) := by
  rw [List.drop_eq_getElem_cons h]
  simp [gI, h]
theorem lbeq_self : ∀ l : List Nat, lbeq l l = true
  | [] => rfl
  | a :: l => by simp [lbeq, lbeq_self l]
theorem lbeq_eq : ∀ {l m : List Nat}, lbeq l m = true → l = m
  | [], [], _ => rfl
  | [], _ :: _, h => by simp [lbeq] at h
  | _ :: _, [], h => by simp [lbeq] at h
  | a :: l, b :: m, h => by
    simp only [lbeq, Bool.and_eq_true, Nat.beq_eq] at h
    rw [h.1, lbeq_eq h.2]
theorem strEq_self (l : List Int) : strEq l l = true := lbeq_self _
theorem by_cons {c : Int} {l : List Int} (h : KeepBy (c :: l)) : (0 ≤ c ∧ c ≤ 255) ∧ KeepBy l :=
  ⟨by have := h 0 (by simp); simpa [gI] using this, fun j hj => by have := h (j + 1) (by simp; omega); simpa [gI] using this⟩
theorem by_mk {c : Int} {l : List Int} (h : 0 ≤ c ∧ c ≤ 255) (hl : KeepBy l) : KeepBy (c :: l) := by
  intro j hj
  cases j with
  | zero => simpa [gI] using h
  | succ j => have := hl j (by simp at hj; omega); simpa [gI] using this
theorem by_app {l m : List Int} (h : KeepBy l) (hm : KeepBy m) : KeepBy (l ++ m) := by
  induction l with
  | nil => exact hm
  | cons c l ih => exact by_mk (by_cons h).1 (ih (by_cons h).2)
theorem by_take {l : List Int} (h : KeepBy l) (k : Nat) : KeepBy (l.take k) := by
  induction l generalizing k with
  | nil => simpa using h
  | cons c l ih =>
    cases k with
    | zero => intro j hj; simp at hj
    | succ k => exact by_mk (by_cons h).1 (ih (by_cons h).2 k)
theorem by_drop {l : List Int} (h : KeepBy l) (k : Nat) : KeepBy (l.drop k) := by
  intro j hj
  rw [gI_drop]
  exact h _ (by simp at hj; omega)
theorem by_map : ∀ {l m : List Int}, KeepBy l → KeepBy m → l.map m8 = m.map m8 → l = m
  | [], [], _, _, _ => rfl
  | [], _ :: _, _, _, h => by simp at h
  | _ :: _, [], _, _, h => by simp at h
  | a :: l, b :: m, hl, hm, h => by
    simp only [List.map_cons, List.cons.injEq] at h
    have h1 := (by_cons hl).1
    have h2 := (by_cons hm).1
    have h3 := h.1
    unfold m8 at h3
    rw [by_map (by_cons hl).2 (by_cons hm).2 h.2, show a = b by omega]
theorem strEq_iff {l m : List Int} (hl : KeepBy l) (hm : KeepBy m) : strEq l m = decide (l = m) := by
  by_cases h : l = m
  · subst h; simp [strEq_self]
  · rw [decide_eq_false h, Bool.eq_false_iff]
    exact fun e => h (by_map hl hm (lbeq_eq e))

theorem inR_by {l : List Int} (h : InR [.int .u8] l) : KeepBy l := fun j hj => in_u8 (at_in1 h hj)
theorem u_of {x : Int} (h : inK (.int .u64) x) : KeepU x := by have := in_u64 h; exact ⟨this.1, by omega⟩
theorem i_of {x : Int} (h : inK (.int .i64) x) : KeepI x := by have := in_i64 h; exact ⟨this.1, by omega⟩

end Go.Proofs.Ytccchfhjmahlpaa
