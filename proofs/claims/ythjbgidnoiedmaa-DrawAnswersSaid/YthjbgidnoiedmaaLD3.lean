/- Unlike states have unlike words. No condition. -/
import Derived.Test.YthjbgidnoiedmaaRD3
namespace Go.Proofs.Ythjbgidnoiedmaa
open SY
open Go.RowKit
set_option linter.unusedSimpArgs false
set_option linter.unusedVariables false

theorem xs_inj {a b d : Nat} (hd : 1 ≤ d) (h : a ^^^ (a >>> d) = b ^^^ (b >>> d)) : a = b := by
  have hc : (a ^^^ b) = (a ^^^ b) >>> d := by
    rw [Nat.shiftRight_xor_distrib]
    have e : (a ^^^ (a >>> d)) ^^^ (b ^^^ (a >>> d)) = (b ^^^ (b >>> d)) ^^^ (b ^^^ (a >>> d)) := by rw [h]
    have l : (a ^^^ (a >>> d)) ^^^ (b ^^^ (a >>> d)) = a ^^^ b := by
      rw [Nat.xor_comm b (a >>> d), Nat.xor_assoc, ← Nat.xor_assoc (a >>> d) (a >>> d) b, Nat.xor_self, Nat.zero_xor]
    have r : (b ^^^ (b >>> d)) ^^^ (b ^^^ (a >>> d)) = a >>> d ^^^ b >>> d := by
      rw [Nat.xor_comm b (b >>> d), Nat.xor_assoc, ← Nat.xor_assoc b b, Nat.xor_self, Nat.zero_xor, Nat.xor_comm]
    rw [l, r] at e; exact e
  rw [Nat.shiftRight_eq_div_pow] at hc
  have hz : a ^^^ b = 0 := by
    rcases Nat.eq_zero_or_pos (a ^^^ b) with z | z
    · exact z
    · have := Nat.div_lt_self z (Nat.one_lt_two_pow (n := d) (by omega))
      omega
  have : a ^^^ b ^^^ b = b := by rw [hz, Nat.zero_xor]
  rw [Nat.xor_assoc, Nat.xor_self, Nat.xor_zero] at this
  exact this
theorem mul_inj {a b t i : Nat} (ha : a < 18446744073709551616) (hb : b < 18446744073709551616) (ht : t * i % 18446744073709551616 = 1) (h : a * t % 18446744073709551616 = b * t % 18446744073709551616) : a = b := by
  have key : ∀ c, c < 18446744073709551616 → c * t % 18446744073709551616 * i % 18446744073709551616 = c := fun c hc => by
    rw [Nat.mul_mod, Nat.mod_mod, ← Nat.mul_mod, Nat.mul_assoc, Nat.mul_mod, ht, Nat.mul_one, Nat.mod_mod, Nat.mod_eq_of_lt hc]
  rw [← key a ha, ← key b hb, h]
def mxN (z d t : Nat) : Nat := (z ^^^ (z >>> d)) * t % 18446744073709551616
theorem shr_lt {z d : Nat} (h : z < 18446744073709551616) : z >>> d < 18446744073709551616 := by
  rw [Nat.shiftRight_eq_div_pow]; exact Nat.lt_of_le_of_lt (Nat.div_le_self _ _) h
theorem xs_eq {z d : Nat} (hz : z < 18446744073709551616) (hd : d ≤ 64) : bXor .u64 (z : Int) (sShr .u64 (z : Int) (d : Int)) = ((z ^^^ (z >>> d) : Nat) : Int) := by
  rw [sShr_eq, show min (d : Int).toNat IntKind.u64.bits = d from by show min d 64 = d; omega, show (z : Int) / 2 ^ d = ((z >>> d : Nat) : Int) from by rw [Nat.shiftRight_eq_div_pow]; simp]
  exact bXor_u64 hz (shr_lt hz)
theorem mx_eq {z d t : Nat} (hz : z < 18446744073709551616) (hd : d ≤ 64) : mxI z d t = (mxN z d t : Int) := by
  unfold mxI mxN
  rw [xs_eq hz hd, IntKind.wrap_u64]
  omega
theorem mxN_lt (z d t : Nat) : mxN z d t < 18446744073709551616 := Nat.mod_lt _ (by decide)
theorem xs_lt {z d : Nat} (h : z < 18446744073709551616) : z ^^^ (z >>> d) < 18446744073709551616 := Nat.xor_lt_two_pow (n := 64) h (shr_lt h)
theorem wd_eq {z : Nat} (hz : z < 18446744073709551616) : KeepWd z = ((mxN (mxN z 30 13787848793156543929) 27 10723151780598845931 ^^^ (mxN (mxN z 30 13787848793156543929) 27 10723151780598845931 >>> 31) : Nat) : Int) := by
  unfold KeepWd wdI
  have e1 := mx_eq (d := 30) (t := 13787848793156543929) hz (by decide)
  have e2 := mx_eq (d := 27) (t := 10723151780598845931) (mxN_lt z 30 13787848793156543929) (by decide)
  have e3 := xs_eq (d := 31) (mxN_lt (mxN z 30 13787848793156543929) 27 10723151780598845931) (by decide)
  rw [← e3, ← e2, ← e1]
  rfl
theorem wd_inj {z w : Int} (hz : KeepU z) (hw : KeepU w) (h : KeepWd z = KeepWd w) : z = w := by
  obtain ⟨a, rfl⟩ := Int.eq_ofNat_of_zero_le hz.1
  obtain ⟨b, rfl⟩ := Int.eq_ofNat_of_zero_le hw.1
  have ha : a < 18446744073709551616 := by have := hz.2; omega
  have hb : b < 18446744073709551616 := by have := hw.2; omega
  rw [wd_eq ha, wd_eq hb] at h
  have h1 := xs_inj (by decide) (Int.ofNat.inj h)
  have h2 := xs_inj (by decide) (mul_inj (i := 3573116690164977347) (xs_lt (mxN_lt _ _ _)) (xs_lt (mxN_lt _ _ _)) (by decide) h1)
  have h3 := xs_inj (by decide) (mul_inj (i := 10871156337175269513) (xs_lt ha) (xs_lt hb) (by decide) h2)
  rw [h3]
theorem back_ok : GOK Try.prog 21 (hBackV KeepBk) := by
  refine gokW mixed tab_ok hkL_nil fun vs s r hg hs => ?_
  unfold hBackV at hg
  split at hg <;> try (cases hg; done)
  rename_i a
  simp only [Option.some.injEq, Prod.mk.injEq] at hg
  obtain ⟨rfl, rfl⟩ := hg
  refine ⟨noL, 10, [uS (cI a)], ⟨hs.1, trivial⟩, ?_⟩
  rw [back_res]
  rfl
theorem hkC_ok : HookOK Try.prog (hkC KeepNx KeepWd KeepBk) := hkL_cons alive_ok <| hkL_cons next_ok <| hkL_cons back_ok hkL_nil
theorem nx_inj {s t : Int} (hs : KeepU s) (ht : KeepU t) (h : KeepNx s = KeepNx t) : s = t := by
  obtain ⟨_, _⟩ := hs
  obtain ⟨_, _⟩ := ht
  unfold KeepNx at h
  simp only [IntKind.wrap_u64] at h
  omega
theorem bk_nx {s : Int} (hs : KeepU s) : KeepBk (KeepNx s) = s := by
  obtain ⟨_, _⟩ := hs
  unfold KeepNx KeepBk
  simp only [IntKind.wrap_u64]
  omega
theorem u_of {x : Int} (h : inK (.int .u64) x) : KeepU x := by have := in_u64 h; exact ⟨this.1, by omega⟩
theorem unlike_walk (W : World) (s t : Int) (hs : KeepU s) (ht : KeepU t) :
    Calls Try.prog 5 #[.int .u64 s, .int .u64 t] W fun e w' => e = .returned (.bool true) ∧ Below W.heap.size W w' := by
  refine law (vals := [.int .u64 s, .int .u64 t]) (lh := noL) (m := 10) (args := [uS s, uS t]) mixed tab_ok hkC_ok ?_ ⟨rfl, rfl, trivial⟩
  rw [unlike_res]
  have c1 : ∀ x, cI (S.t (T.c (SC.v (Value.int IntKind.u64 x)))) = x := fun _ => rfl
  simp only [c1]
  have d1 : decide (KeepWd (KeepNx s) = KeepWd (KeepNx t)) = decide (s = t) := by
    rw [decide_eq_decide]
    exact ⟨fun h => nx_inj hs ht (wd_inj (nx_U s) (nx_U t) h), fun h => by rw [h]⟩
  have d2 : decide (KeepNx s = KeepNx t) = decide (s = t) := by
    rw [decide_eq_decide]
    exact ⟨nx_inj hs ht, fun h => by rw [h]⟩
  simp [hs, ht, d1, d2, br_tt, nx_U, bk_nx hs]
end Go.Proofs.Ythjbgidnoiedmaa
