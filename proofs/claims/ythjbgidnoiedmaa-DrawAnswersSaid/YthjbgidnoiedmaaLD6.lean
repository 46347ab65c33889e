/- What a unit is, and a chance. No condition. -/
import Derived.Test.YthjbgidnoiedmaaRD6
namespace Go.Proofs.Ythjbgidnoiedmaa
open SY
open Go.RowKit
set_option linter.unusedSimpArgs false
set_option linter.unusedVariables false

theorem hkG_ok : HookOK Try.prog (hkG KeepUn) := hkL_cons alive_ok <| hkL_cons unit_ok <| hkL_cons bits_ok <| hkL_cons from_ok hkL_nil
theorem un_lt {m : Nat} (h : m < 9007199254740992) : unN m < 4607182418800017408 := by
  unfold unN
  split
  · decide
  · obtain ⟨e, f, e1, e2, e3, e4⟩ := rg_in (show 0 < m by omega) h
    omega
theorem un_mono {m n : Nat} (h : m ≤ n) : unN m ≤ unN n := by
  unfold unN
  by_cases a : m = 0
  · rw [if_pos a]; exact Nat.zero_le _
  · rw [if_neg a, if_neg (by omega)]
    exact Nat.sub_le_sub_right (rgI_mono h) _
theorem sgn_annG {a : Nat} (h : a < 18446744073709551616) : bAnn .u64 (a : Int) 9223372036854775808 = ((a % 9223372036854775808 : Nat) : Int) := by
  unfold bAnn
  rw [show IntKind.u64.bits = 64 from rfl, BitVec.toNat_and, BitVec.toNat_not, ofInt_nat (by omega), show BitVec.ofInt 64 9223372036854775808 = 9223372036854775808#64 from by decide]
  have e : a &&& (2 ^ 64 - 1 - (9223372036854775808#64).toNat) = a % 9223372036854775808 := by
    rw [show 2 ^ 64 - 1 - (9223372036854775808#64).toNat = 2 ^ 63 - 1 from by decide, Nat.and_two_pow_sub_one_eq_mod]
  rw [e, IntKind.wrap_u64]
  omega
theorem isN_mod (a : Nat) : isN (a % 9223372036854775808) = isN a := by unfold isN; rw [Nat.mod_mod]
theorem u_of' {x : Int} (h : inK (.int .u64) x) : KeepU x := by have := in_u64 h; exact ⟨this.1, by omega⟩
theorem units_walk (W : World) (w v p : Int) (hw : KeepU w) (hv : KeepU v) (hp : KeepU p) :
    Calls Try.prog 8 #[.int .u64 w, .int .u64 v, .int .u64 p] W fun e w' => e = .returned (.bool true) ∧ Below W.heap.size W w' := by
  refine law (vals := [.int .u64 w, .int .u64 v, .int .u64 p]) (lh := noL) (m := 10) (args := [uS w, uS v, uS p]) mixed tab_ok hkG_ok ?_ ⟨rfl, rfl, rfl, trivial⟩
  rw [units_res]
  have c1 : ∀ x, cI (S.t (T.c (SC.v (Value.int IntKind.u64 x)))) = x := fun _ => rfl
  have hi : KeepU (imin w v) := by unfold imin; split <;> assumption
  have ha : KeepU (imax w v) := by unfold imax; split <;> assumption
  have hm : imin w v ≤ imax w v := by unfold imin imax; split <;> split <;> omega
  have kn : ∀ n : Nat, KeepN (n : Int) = n := fun _ => rfl
  obtain ⟨P, rfl⟩ := Int.eq_ofNat_of_zero_le hp.1
  have hP : P < 18446744073709551616 := by have := hp.2; omega
  obtain ⟨a, ea⟩ : ∃ a : Nat, KeepUn w = a ∧ a < 4607182418800017408 := ⟨_, rfl, un_lt (by have := hw.1; have := hw.2; omega)⟩
  obtain ⟨lo, el⟩ : ∃ a : Nat, KeepUn (imin w v) = a ∧ a < 4607182418800017408 := ⟨_, rfl, un_lt (by have := hi.1; have := hi.2; omega)⟩
  obtain ⟨hg, eh⟩ : ∃ a : Nat, KeepUn (imax w v) = a ∧ a < 4607182418800017408 := ⟨_, rfl, un_lt (by have := ha.1; have := ha.2; omega)⟩
  have hle : lo ≤ hg := by
    have : ((lo : Nat) : Int) ≤ (hg : Nat) := by
      rw [← el.1, ← eh.1]
      unfold KeepUn
      have := un_mono (m := (imin w v).toNat / 2048) (n := (imax w v).toNat / 2048) (Nat.div_le_div_right (by omega))
      omega
    omega
  have inR : ∀ {x : Nat}, x < 4607182418800017408 → x < infR := fun h => by unfold infR; omega
  have z1 : isN 0 = false := by decide
  have z2 : sk 0 = 0 := by decide
  have f0 : KeepFo .lss a 0 = false := by rw [fo_lss, sk_in (inR ea.2), z1, z2]; simp <;> omega
  have f1 : KeepFo .lss a 4607182418800017408 = true := by rw [fo_lss, isN_in (inR ea.2), sk_in (inR ea.2), show isN 4607182418800017408 = false by decide, show sk 4607182418800017408 = 4607182418800017408 by decide]; simp <;> omega
  have f2 : KeepFo .lss hg lo = false := by rw [fo_lss, sk_in (inR eh.2), sk_in (inR el.2)]; simp <;> omega
  simp only [c1, kn, ea.1, el.1, eh.1, f0, f1, f2, Bool.not_false, br_tt, hw, hi, ha, true_and, and_self, sgn_annG hP, fo_self, isN_mod]
  have rest : ∀ b1 b2 b3 : Bool, br b1 True (br b2 True (br b3 True True)) := fun b1 b2 b3 => br_in (fun _ => trivial) fun _ => br_in (fun _ => trivial) fun _ => br_in (fun _ => trivial) fun _ => trivial
  have nanp : isN P = true → KeepFo .lss a P = false := fun h => by rw [fo_lss, h]; simp
  have pos : KeepFo .lss a P = true → KeepFo .lss 0 P = true := fun h => by
    rw [fo_lss, isN_in (inR ea.2), sk_in (inR ea.2)] at h
    rw [fo_lss, z1, z2]
    simp at h ⊢
    exact ⟨h.1, by omega⟩
  cases h : KeepFo .lss a P
  · cases hn : isN P <;> simp [br_tt, br_ff, rest]
  · have q := pos h
    cases hn : isN P
    · simp [br_tt, br_ff, rest, q]
    · have := nanp hn
      rw [h] at this; cases this
end Go.Proofs.Ythjbgidnoiedmaa
