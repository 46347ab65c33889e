/- The document's answers for draw's words. No condition. -/
import Derived.Test.YthjbgidnoiedmaaRD7
namespace Go.Proofs.Ythjbgidnoiedmaa
open SY
open Go.RowKit
set_option linter.unusedSimpArgs false
set_option linter.unusedVariables false
set_option exponentiation.threshold 2000
set_option maxRecDepth 100000

theorem fi_eq {i : Int} (h : KeepI i) : KeepFi i = if i < 0 then 9223372036854775808 + (rgI i.natAbs : Int) else (rgI i.natAbs : Int) := by
  obtain ⟨h0, h1⟩ := h
  unfold KeepFi
  rw [i2f_eq i (by omega)]
  split <;> simp
theorem mu_lt {a k : Nat} (h : k < a) : a - (k + 1) < a - k := by omega
theorem half_pow {d : Nat} (h : 1 ≤ d) : 2 ^ d = 2 * 2 ^ (d - 1) := by
  rw [show d = d - 1 + 1 from by omega, Nat.pow_succ, Nat.mul_comm, Nat.add_sub_cancel]
/-- The great ones, rounded. -/
theorem rg_big {u n d : Nat} (hn : n = d + 53) (hd : 1 ≤ d) (h0 : 2 ^ (n - 1) ≤ u) (h : u < 2 ^ n) : rgI u = (n + 1021) * 4503599627370496 + rnd u d ∧ 4503599627370496 ≤ u / 2 ^ d ∧ u / 2 ^ d < 9007199254740992 := by
  have hl := log2_of h0 (by omega) h
  have hu : 0 < u := by have := Nat.two_pow_pos (n - 1); omega
  refine ⟨?_, ?_, ?_⟩
  · unfold rgI
    rw [if_neg (by omega), hl, show 52 - (n - 1) = 0 by omega, show n - 1 - 52 = d by omega, Nat.shiftLeft_zero, show n - 1 + 1022 = n + 1021 by omega]
  · rw [Nat.le_div_iff_mul_le (Nat.two_pow_pos d)]
    refine Nat.le_trans ?_ h0
    rw [show n - 1 = 52 + d by omega, Nat.pow_add]; exact Nat.le_refl _
  · rw [Nat.div_lt_iff_lt_mul (Nat.two_pow_pos d)]
    refine Nat.lt_of_lt_of_le h ?_
    rw [show n = 53 + d by omega, Nat.pow_add]; exact Nat.le_refl _
theorem tm52 (a : Nat) : (a : Int).tmod 4503599627370496 = ((a % 4503599627370496 : Nat) : Int) := by rw [Int.tmod_eq_emod_of_nonneg (by omega)]; omega
theorem l_e2 {n : Nat} (h : n ≤ 65) : IntKind.u64.wrap (IntKind.i64.wrap ((n : Int) + 1022)) = ((n + 1022 : Nat) : Int) := by
  rw [show IntKind.i64.wrap ((n : Int) + 1022) = ((n + 1022 : Nat) : Int) by rw [IntKind.wrap_i64]; omega]
  exact wn5 (by omega)
theorem l_e2' {n : Nat} (h : n ≤ 64) : IntKind.u64.wrap (IntKind.i64.wrap (IntKind.i64.wrap ((n : Int) + 1) + 1022)) = ((n + 1023 : Nat) : Int) := by
  rw [show IntKind.i64.wrap ((n : Int) + 1) = ((n + 1 : Nat) : Int) by rw [IntKind.wrap_i64]; omega]
  rw [show n + 1023 = n + 1 + 1022 by omega]
  exact l_e2 (n := n + 1) (Nat.succ_le_succ h)
theorem l_e3 {n : Nat} (h : n ≤ 1100) : sShl .u64 (n : Int) 52 = ((n * 4503599627370496 : Nat) : Int) := sh_nat5 (b := 52) (by decide) (by omega)
theorem l_e1 {n : Nat} (h : n ≤ 53) : IntKind.u64.wrap (IntKind.i64.wrap (53 - (n : Int))) = ((53 - n : Nat) : Int) := by
  rw [show IntKind.i64.wrap (53 - (n : Int)) = ((53 - n : Nat) : Int) by rw [IntKind.wrap_i64]; omega]
  exact wn5 (by omega)
theorem l_e1' {n : Nat} (h : n ≤ 64) : IntKind.u64.wrap (IntKind.i64.wrap (((n + 53 : Nat) : Int) - 53)) = (n : Int) := by
  rw [show IntKind.i64.wrap (((n + 53 : Nat) : Int) - 53) = (n : Int) by rw [IntKind.wrap_i64]; omega]
  exact wn5 (by omega)
/-- What the rounding comes to. -/
theorem l_round {s q n rg : Nat} {r : Int} (hn : n ≤ 64) (hs : s = 0 ∨ s = 9223372036854775808) (h1 : 4503599627370496 ≤ q) (h2 : q ≤ 9007199254740992) (hg : rg = (n + 1021) * 4503599627370496 + q) (hr : r = (s + rg : Nat)) :
    br (decide ((q : Int) = 9007199254740992)) (r = IntKind.u64.wrap (IntKind.u64.wrap ((s : Int) + ((n + 1023 : Nat) * 4503599627370496 : Nat)) + ((q / 2 % 4503599627370496 : Nat) : Int))) (r = IntKind.u64.wrap (IntKind.u64.wrap ((s : Int) + ((n + 1022 : Nat) * 4503599627370496 : Nat)) + ((q % 4503599627370496 : Nat) : Int))) := by
  subst hr
  refine br_in (fun a => ?_) fun a => ?_
  · have a := of_decide_eq_true a
    have a : q = 9007199254740992 := by omega
    subst a
    simp only [IntKind.wrap_u64]
    rcases hs with hs | hs <;> omega
  · have a := of_decide_eq_false a
    have a : q < 9007199254740992 := by omega
    have : q % 4503599627370496 = q - 4503599627370496 := by omega
    rw [this]
    simp only [IntKind.wrap_u64]
    rcases hs with hs | hs <;> omega
theorem rfrom_law {x : Int} (hx : KeepI x) : callT Try.prog (hkL []) tab (lhL [(20014, hintSg x), (1, hintFi x)]) 10 29 [iS x] (fun u => subS (uS (KeepFi x)) u) := by
  obtain ⟨x0, x1⟩ := id hx
  have hf := fi_eq hx
  rw [rfrom_res]
  refine br_in (fun a => ?_) fun a => ?_
  · have a := of_decide_eq_true a
    subst a; decide
  have a := of_decide_eq_false a
  refine ⟨br_in (fun b => ?_) fun b => ?_, fun z hz => ⟨?_, fun y hy => br_in (fun c => ?_) fun c => ?_⟩⟩
  · have b := of_decide_eq_true b
    refine ⟨⟨x.natAbs, 9223372036854775808, 0, 0⟩, ⟨rfl, by rw [if_pos b]⟩, ⟨?_, rfl, trivial⟩, trivial⟩
    show ((x.natAbs : Nat) : Int) = _
    simp only [IntKind.wrap_u64]; omega
  · have b := of_decide_eq_false b
    refine ⟨⟨x.natAbs, 0, 0, 0⟩, ⟨rfl, by rw [if_neg b]⟩, ⟨?_, rfl, trivial⟩, trivial⟩
    show ((x.natAbs : Nat) : Int) = _
    simp only [IntKind.wrap_u64]; omega
  · exact ⟨⟨z.u, z.s, 0, z.u⟩, ⟨hz.1, hz.2, by show z.u = z.u / 2 ^ 0; rw [Nat.pow_zero, Nat.div_one], fun h => absurd h (Nat.lt_irrefl 0), Nat.zero_le _⟩, ⟨rfl, rfl, rfl, rfl, trivial⟩, trivial⟩
  · have c := of_decide_eq_true c
    obtain ⟨y1, y2, y3, y4, y5⟩ := hy
    have hk : 2 ^ y.n ≤ y.u := by
      rcases Nat.lt_or_ge y.u (2 ^ y.n) with h | h
      · rw [Nat.div_eq_of_lt h] at y3; omega
      · exact h
    have hn : y.n < 64 := by
      rcases Nat.lt_or_ge y.n 64 with h | h
      · exact h
      · have := Nat.le_trans (Nat.pow_le_pow_right (show 0 < 2 by decide) h) hk
        omega
    have hkk : y.k ≤ y.u := by rw [y3]; exact Nat.div_le_self _ _
    exact ⟨⟨y.u, y.s, y.n + 1, y.k / 2⟩, ⟨y1, y2, by show y.k / 2 = y.u / 2 ^ (y.n + 1); rw [y3, Nat.pow_succ, Nat.div_div_eq_div_mul], fun _ => hk, hn⟩, mu_lt hn, ⟨rfl, rfl, i64_nat (by omega), (by
      show ((y.k / 2 : Nat) : Int) = _
      rw [IntKind.wrap_u64, Int.tdiv_eq_ediv_of_nonneg (by omega)]; omega), trivial⟩, trivial⟩
  · have c := of_decide_eq_false c
    obtain ⟨y1, y2, y3, y4, y5⟩ := hy
    have hu : y.u < 2 ^ y.n := by
      rcases Nat.lt_or_ge y.u (2 ^ y.n) with h | h
      · exact h
      · have := Nat.div_pos h (Nat.two_pow_pos y.n)
        omega
    have hp : 0 < y.n := by
      rcases Nat.eq_zero_or_pos y.n with h | h
      · rw [h] at hu; omega
      · exact h
    have h0 := y4 hp
    have hu64 : y.u ≤ 9223372036854775808 := by omega
    rw [← y1] at hf
    have e2 := l_e2 (Nat.le_succ_of_le y5)
    have e3 := l_e3 (n := y.n + 1022) (by omega)
    have e2' := l_e2' y5
    have e3' := l_e3 (n := y.n + 1023) (by omega)
    refine br_in (fun d => ?_) fun d => ?_
    · have d := of_decide_eq_true d
      obtain ⟨r1, r2⟩ := rg_small (show y.n ≤ 53 by omega) hp h0 hu
      have e1 := l_e1 (n := y.n) (by omega)
      have e4 : sShl .u64 (y.u : Int) ((53 - y.n : Nat) : Int) = ((y.u * 2 ^ (53 - y.n) : Nat) : Int) := sh_nat5 (by omega) (by omega)
      rw [e1, e2, e3, e4, tm52]
      refine br_y (decide_eq_true (by omega)) ?_
      rw [hf, r1, y2]
      simp only [IntKind.wrap_u64]
      split <;> omega
    · have d := of_decide_eq_false d
      obtain ⟨dd, hd⟩ : ∃ dd, y.n = dd + 53 := ⟨y.n - 53, by omega⟩
      obtain ⟨r1, r2, r3⟩ := rg_big hd (by omega) h0 hu
      have e1 : IntKind.u64.wrap (IntKind.i64.wrap ((y.n : Int) - 53)) = ((dd : Nat) : Int) := by rw [hd]; exact l_e1' (by omega)
      have hpd : 2 ^ dd ≤ 2048 := Nat.le_trans (Nat.pow_le_pow_right (by decide) (show dd ≤ 11 by omega)) (by decide)
      have hpp := Nat.two_pow_pos dd
      have hh := half_pow (d := dd) (by omega)
      have eU : sShl .u64 1 ((dd : Nat) : Int) = ((2 ^ dd : Nat) : Int) := by
        have := sh_nat5 (a := 1) (b := dd) (by omega) (by omega)
        rw [Nat.one_mul] at this; exact this
      have eq : (y.u : Int).tdiv ((2 ^ dd : Nat) : Int) = ((y.u / 2 ^ dd : Nat) : Int) := rfl
      have er : (y.u : Int).tmod ((2 ^ dd : Nat) : Int) = ((y.u % 2 ^ dd : Nat) : Int) := rfl
      unfold rnd at r1
      rw [e1, e2, e3, e2', e3', eU, eq, er]
      generalize y.u / 2 ^ dd = q at *
      generalize y.u % 2 ^ dd = rest at *
      generalize 2 ^ (dd - 1) = half at *
      generalize 2 ^ dd = unit at *
      have eh : IntKind.u64.wrap ((unit : Int).tdiv 2) = (half : Int) := by rw [IntKind.wrap_u64, Int.tdiv_eq_ediv_of_nonneg (by omega)]; omega
      have f1 : IntKind.u64.wrap ((q : Int) + 1) = ((q + 1 : Nat) : Int) := by rw [IntKind.wrap_u64]; omega
      have f2 : IntKind.u64.wrap (((q + 1 : Nat) : Int).tdiv 2) = (((q + 1) / 2 : Nat) : Int) := by rw [IntKind.wrap_u64, Int.tdiv_eq_ediv_of_nonneg (by omega)]; omega
      have f3 : IntKind.u64.wrap ((q : Int).tdiv 2) = ((q / 2 : Nat) : Int) := by rw [IntKind.wrap_u64, Int.tdiv_eq_ediv_of_nonneg (by omega)]; omega
      have f4 : (q : Int).tmod 2 = ((q % 2 : Nat) : Int) := by rw [Int.tmod_eq_emod_of_nonneg (by omega)]; omega
      obtain ⟨s, hs, hs2, hs3⟩ : ∃ s : Nat, y.s = s ∧ (s = 0 ∨ s = 9223372036854775808) ∧ KeepFi x = (s + rgI y.u : Nat) := by
        rw [hf, y2]; split
        · exact ⟨9223372036854775808, rfl, .inr rfl, by simp⟩
        · exact ⟨0, rfl, .inl rfl, by simp⟩
      have g1 : half < rest → rgI y.u = (y.n + 1021) * 4503599627370496 + (q + 1) := fun h => by rw [r1]; simp [show unit < 2 * rest by omega]
      have g2 : rest = half → q % 2 = 1 → rgI y.u = (y.n + 1021) * 4503599627370496 + (q + 1) := fun h h' => by rw [r1]; simp [show unit = 2 * rest by omega, h']
      have g3 : rest = half → ¬ q % 2 = 1 → rgI y.u = (y.n + 1021) * 4503599627370496 + q := fun h h' => by rw [r1]; simp [show unit = 2 * rest by omega, h']
      have g4 : rest < half → rgI y.u = (y.n + 1021) * 4503599627370496 + q := fun h => by rw [r1]; simp [show ¬ unit < 2 * rest by omega, show ¬ unit = 2 * rest by omega]
      simp only [wn5 (show q < 18446744073709551616 by omega), eh, f1, f2, f3, f4, tm52, hs]
      refine br_y (decide_eq_true (by omega)) <| br_y (by simp; omega) <| br_y (by simp; omega) ?_
      refine br_in (fun a1 => ?_) fun a1 => br_in (fun a2 => ?_) fun a2 => ?_
      · have a1 := of_decide_eq_true a1
        exact l_round y5 hs2 (by omega) (by omega) (g1 (by omega)) hs3
      · have a2 := of_decide_eq_true a2
        refine br_in (fun a4 => ?_) fun a4 => ?_
        · have a4 := of_decide_eq_true a4
          exact l_round y5 hs2 (by omega) (by omega) (g2 (by omega) (by omega)) hs3
        · have a4 := of_decide_eq_false a4
          exact l_round y5 hs2 (by omega) (by omega) (g3 (by omega) (by omega)) hs3
      · have a1 := of_decide_eq_false a1
        have a2 := of_decide_eq_false a2
        exact l_round y5 hs2 (by omega) (by omega) (g4 (by omega)) hs3
theorem rfrom_ok : GOK Try.prog 29 hFromInt := by
  refine gokW mixed tab_ok hkL_nil fun vs s r hg hs => ?_
  unfold hFromInt at hg
  split at hg <;> try (cases hg; done)
  rename_i a
  simp only [Option.some.injEq, Prod.mk.injEq] at hg
  obtain ⟨rfl, rfl⟩ := hg
  exact ⟨lhL [(20014, hintSg (cI a)), (1, hintFi (cI a))], 10, [iS (cI a)], ⟨hs.1, trivial⟩, rfrom_law hs.2⟩
theorem tm32 (a : Nat) : (a : Int).tmod 4294967296 = ((a % 4294967296 : Nat) : Int) := by rw [Int.tmod_eq_emod_of_nonneg (by omega)]; omega
theorem rbelow_ok : GOK Try.prog 16 hBelow := by
  refine gokW mixed tab_ok hkL_nil fun vs s r hg hs => ?_
  unfold hBelow at hg
  split at hg <;> try (cases hg; done)
  rename_i a b
  simp only [Option.some.injEq, Prod.mk.injEq] at hg
  obtain ⟨rfl, rfl⟩ := hg
  obtain ⟨h1, h2, hu, hi⟩ := hs
  refine ⟨noL, 10, [uS (cI a), iS (cI b)], ⟨h1, h2, trivial⟩, ?_⟩
  generalize cI a = w at *
  generalize cI b = n at *
  rw [rbelow_res]
  obtain ⟨w0, w1⟩ := hu
  obtain ⟨n0, n1⟩ := hi
  unfold KeepBl
  refine br_in (fun c => ?_) fun c => ?_
  · rw [if_pos (of_decide_eq_true c)]
  · have c := of_decide_eq_false c
    rw [if_neg c]
    obtain ⟨x, rfl⟩ := Int.eq_ofNat_of_zero_le w0
    obtain ⟨y, rfl⟩ := Int.eq_ofNat_of_zero_le (show 0 ≤ n by omega)
    have hx : x < 18446744073709551616 := by omega
    have hy : y < 9223372036854775808 := by omega
    have hh := high (x := x) (y := y) hx (by omega)
    have hle : x * y / 18446744073709551616 ≤ y := by
      rw [Nat.div_le_iff_le_mul_add_pred (by decide)]
      have := Nat.mul_le_mul (show x ≤ 18446744073709551616 by omega) (Nat.le_refl y)
      omega
    have m11 := mul_lt' (a := x / 4294967296) (b := y / 4294967296) (by omega) (by omega)
    have m10 := mul_lt' (a := x / 4294967296) (b := y % 4294967296) (by omega) (by omega)
    have m01 := mul_lt' (a := x % 4294967296) (b := y / 4294967296) (by omega) (by omega)
    have m00 := mul_lt' (a := x % 4294967296) (b := y % 4294967296) (by omega) (by omega)
    rw [wn (show y < 18446744073709551616 by omega)]
    simp only [sh32, tm32]
    rw [wm (by omega), wm (by omega), wm (by omega), wm (by omega)]
    simp only [sh32]
    rw [wa (by omega)]
    simp only [sh32]
    rw [tm32, wa (by omega), wa (by omega)]
    simp only [sh32]
    rw [wa (by omega), hh, show ((x : Int) * (y : Int)) / 18446744073709551616 = ((x * y / 18446744073709551616 : Nat) : Int) from by rw [← Int.natCast_mul]; rfl]
    generalize x * y / 18446744073709551616 = q at *
    rw [IntKind.wrap_i64]; omega
theorem hkR_ok : HookOK Try.prog hkR := hkL_cons rfrom_ok hkL_nil
theorem runit_ok : GOK Try.prog 18 (hUnitV KeepUn) := by
  refine gokW mixed tab_ok hkR_ok fun vs s r hg hs => ?_
  unfold hUnitV at hg
  split at hg <;> try (cases hg; done)
  rename_i a
  simp only [Option.some.injEq, Prod.mk.injEq] at hg
  obtain ⟨rfl, rfl⟩ := hg
  refine ⟨noL, 10, [uS (cI a)], ⟨hs.1, trivial⟩, ?_⟩
  obtain ⟨_, hw⟩ := hs
  generalize cI a = w at *
  obtain ⟨a, rfl⟩ := Int.eq_ofNat_of_zero_le hw.1
  have ha : a < 18446744073709551616 := by have := hw.2; omega
  obtain ⟨m, hm⟩ : ∃ m, a / 2048 = m := ⟨_, rfl⟩
  have hm' : m < 9007199254740992 := by omega
  have e1 : IntKind.i64.wrap (IntKind.u64.wrap ((a : Int).tdiv 2048)) = (m : Int) := by rw [Int.tdiv_eq_ediv_of_nonneg (by omega)]; simp only [IntKind.wrap_i64, IntKind.wrap_u64]; omega
  have hI : KeepI (m : Int) := ⟨by omega, by omega⟩
  have hF : KeepFi (m : Int) = rgI m := by rw [fi_eq hI, if_neg (by omega)]; rfl
  have hU : KeepUn (a : Int) = (unN m : Nat) := by unfold KeepUn; rw [← hm]; rfl
  rw [runit_res, e1, hF, hU]
  unfold unN
  by_cases h0 : m = 0
  · subst h0
    exact ⟨⟨rfl, hI⟩, br_y (by decide) rfl⟩
  · obtain ⟨e, f, e1, e2, e3, e4⟩ := rg_in (show 0 < m by omega) hm'
    rw [if_neg h0]
    generalize rgI m = y at *
    refine ⟨⟨rfl, hI⟩, br_n (decide_eq_false (by omega)) ?_⟩
    rw [IntKind.wrap_u64]; omega
end Go.Proofs.Ythjbgidnoiedmaa
