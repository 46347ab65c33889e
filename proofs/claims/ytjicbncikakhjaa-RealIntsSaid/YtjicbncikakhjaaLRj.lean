/- Layer 5's laws: ticks, and whole numbers' reals. No condition. -/
import Derived.Test.YtjicbncikakhjaaLRi
namespace Go.Proofs.Ytjicbncikakhjaa
open SY
open Go.RowKit
set_option linter.unusedSimpArgs false
set_option linter.unusedVariables false
set_option exponentiation.threshold 2000
set_option maxRecDepth 100000

theorem log2_of {u n : Nat} (h0 : 2 ^ (n - 1) ≤ u) (hn : 0 < n) (h : u < 2 ^ n) : u.log2 = n - 1 := by
  have hu : u ≠ 0 := by have := Nat.two_pow_pos (n - 1); omega
  have a : u.log2 < n := (Nat.log2_lt hu).2 h
  have b : n - 1 ≤ u.log2 := (Nat.le_log2 hu).2 h0
  omega
theorem wn {n : Nat} (h : n < 18446744073709551616) : IntKind.u64.wrap (n : Int) = n := by rw [IntKind.wrap_u64]; omega
theorem sh_nat {a b : Nat} (hb : b ≤ 64) (h : a * 2 ^ b < 18446744073709551616) : sShl .u64 (a : Int) (b : Int) = ((a * 2 ^ b : Nat) : Int) := by
  unfold sShl
  rw [show min (b : Int).toNat IntKind.u64.bits = b from by show min b 64 = b; omega, show (a : Int) * 2 ^ b = ((a * 2 ^ b : Nat) : Int) from by simp, wn h]
theorem half_pow {d : Nat} (h : 1 ≤ d) : 2 ^ d = 2 * 2 ^ (d - 1) := by
  rw [show d = d - 1 + 1 from by omega, Nat.pow_succ, Nat.mul_comm, Nat.add_sub_cancel]
/-- The great ones, rounded. -/
theorem rg_big {u n d : Nat} (hn : n = d + 53) (hd : 1 ≤ d) (h0 : 2 ^ (n - 1) ≤ u) (h : u < 2 ^ n) : rgI u = (n + 1021) * 4503599627370496 + rnd u d ∧ 4503599627370496 ≤ u / 2 ^ d ∧ u / 2 ^ d < 9007199254740992 := by
  have hl := log2_of h0 (by omega) h
  have hu : 0 < u := by have := Nat.two_pow_pos (n - 1); omega
  refine ⟨?_, ?_, ?_⟩
  · unfold rgI
    rw [if_neg (by omega), hl, show 52 - (n - 1) = 0 by omega, show n - 1 - 52 = d by omega, Nat.shiftLeft_zero, show n - 1 + 1022 = n + 1021 by omega]
  · rw [Nat.le_div_iff_mul_le (Nat.two_pow_pos d)]
    refine Nat.le_trans ?_ h0
    rw [show n - 1 = 52 + d by omega, Nat.pow_add]; exact Nat.le_refl _
  · rw [Nat.div_lt_iff_lt_mul (Nat.two_pow_pos d)]
    refine Nat.lt_of_lt_of_le h ?_
    rw [show n = 53 + d by omega, Nat.pow_add]; exact Nat.le_refl _
theorem rg_small {u n : Nat} (hn : n ≤ 53) (hp : 0 < n) (h0 : 2 ^ (n - 1) ≤ u) (h : u < 2 ^ n) : rgI u = (n + 1022) * 4503599627370496 + u * 2 ^ (53 - n) % 4503599627370496 ∧ u * 2 ^ (53 - n) < 9007199254740992 := by
  have hl := log2_of h0 hp h
  have hu : 0 < u := by have := Nat.two_pow_pos (n - 1); omega
  have a : 4503599627370496 ≤ u * 2 ^ (53 - n) := by
    refine Nat.le_trans ?_ (Nat.mul_le_mul_right _ h0)
    rw [← Nat.pow_add, show n - 1 + (53 - n) = 52 by omega]; decide
  have b : u * 2 ^ (53 - n) < 9007199254740992 := by
    refine Nat.lt_of_lt_of_le (Nat.mul_lt_mul_of_pos_right h (Nat.two_pow_pos _)) ?_
    rw [← Nat.pow_add, show n + (53 - n) = 53 by omega]; decide
  refine ⟨?_, b⟩
  unfold rgI
  rw [if_neg (by omega), hl, show n - 1 - 52 = 0 by omega, rnd_zero, show 52 - (n - 1) = 53 - n by omega, Nat.shiftLeft_eq]
  omega
theorem V_lt_iff {r s : Nat} : V r < V s ↔ r < s := by
  refine ⟨fun h => ?_, V_lt⟩
  rcases Nat.lt_trichotomy r s with a | a | a
  · exact a
  · subst a; omega
  · have := V_lt a; omega
theorem div_lt_iff {a p : Nat} : a / p * p < a ↔ ¬ a % p = 0 := by
  have q := Nat.div_add_mod a p
  rw [Nat.mul_comm] at q
  omega
theorem rticks_ok' {x : Int} (hx : KeepU x) (hn : nanI x = false) (c : ¬ 4787326403894837248 < skI x) (d : 0 < skI x) :
    KeepTi x = whole x.toNat ∧ (whole x.toNat) ≤ 1099511627776 ∧ KeepTk x = (whole x.toNat : Int) + (if KeepLs (KeepFi (KeepTi x)) x = true then 1 else 0) := by
  obtain ⟨h0, h1⟩ := id hx
  have hp : ¬ 9223372036854775808 ≤ x := by unfold skI at d; split at d <;> omega
  have hk : skI x = x := by unfold skI; rw [if_neg hp]
  have hr : x.toNat % 9223372036854775808 = x.toNat := by omega
  have e1 : KeepTi x = whole x.toNat := by
    unfold KeepTi tiI mgI
    rw [hn, if_neg (by decide), if_neg (by omega), if_neg (by omega), if_neg hp]
  have e2 : whole x.toNat ≤ 1099511627776 := by
    unfold whole
    rw [hr]
    have : V x.toNat ≤ 1099511627776 * 2 ^ 1074 := by
      rw [← V40]
      rcases Nat.lt_or_eq_of_le (show x.toNat ≤ 4787326403894837248 by omega) with a | a
      · exact Nat.le_of_lt (V_lt a)
      · rw [a]; exact Nat.le_refl _
    exact Nat.le_trans (Nat.div_le_div_right this) (by rw [Nat.mul_div_cancel _ (Nat.two_pow_pos _)]; exact Nat.le_refl _)
  refine ⟨e1, e2, ?_⟩
  have hI : KeepI (whole x.toNat : Int) := ⟨by omega, by omega⟩
  have hv := V_rgI (m := whole x.toNat) (by omega)
  have hls : KeepLs (KeepFi (KeepTi x)) x = true ↔ ¬ V x.toNat % 2 ^ 1074 = 0 := by
    unfold KeepLs
    rw [e1, nan_fi hI, hn, sk_fi hI, hk, if_neg (by omega)]
    simp only [Bool.not_false, Bool.true_and, decide_eq_true_eq, Int.natAbs_natCast]
    have : ((rgI (whole x.toNat) : Int) < x) ↔ rgI (whole x.toNat) < x.toNat := by omega
    rw [this, ← V_lt_iff, hv]
    unfold whole
    rw [hr]
    exact div_lt_iff
  unfold KeepTk upI
  rw [hn, if_neg (by decide), if_neg c, if_pos d, hr]
  by_cases z : V x.toNat % 2 ^ 1074 = 0
  · rw [if_pos z, if_neg (fun h => (hls.1 h) z)]
  · rw [if_neg z, if_pos (hls.2 z)]
theorem tm52 (a : Nat) : (a : Int).tmod 4503599627370496 = ((a % 4503599627370496 : Nat) : Int) := by rw [Int.tmod_eq_emod_of_nonneg (by omega)]; omega
theorem l_e2 {n : Nat} (h : n ≤ 65) : IntKind.u64.wrap (IntKind.i64.wrap ((n : Int) + 1022)) = ((n + 1022 : Nat) : Int) := by
  rw [show IntKind.i64.wrap ((n : Int) + 1022) = ((n + 1022 : Nat) : Int) by rw [IntKind.wrap_i64]; omega]
  exact wn (by omega)
theorem l_e2' {n : Nat} (h : n ≤ 64) : IntKind.u64.wrap (IntKind.i64.wrap (IntKind.i64.wrap ((n : Int) + 1) + 1022)) = ((n + 1023 : Nat) : Int) := by
  rw [show IntKind.i64.wrap ((n : Int) + 1) = ((n + 1 : Nat) : Int) by rw [IntKind.wrap_i64]; omega]
  rw [show n + 1023 = n + 1 + 1022 by omega]
  exact l_e2 (n := n + 1) (Nat.succ_le_succ h)
theorem l_e3 {n : Nat} (h : n ≤ 1100) : sShl .u64 (n : Int) 52 = ((n * 4503599627370496 : Nat) : Int) := sh_nat (b := 52) (by decide) (by omega)
theorem l_e1 {n : Nat} (h : n ≤ 53) : IntKind.u64.wrap (IntKind.i64.wrap (53 - (n : Int))) = ((53 - n : Nat) : Int) := by
  rw [show IntKind.i64.wrap (53 - (n : Int)) = ((53 - n : Nat) : Int) by rw [IntKind.wrap_i64]; omega]
  exact wn (by omega)
theorem l_e1' {n : Nat} (h : n ≤ 64) : IntKind.u64.wrap (IntKind.i64.wrap (((n + 53 : Nat) : Int) - 53)) = (n : Int) := by
  rw [show IntKind.i64.wrap (((n + 53 : Nat) : Int) - 53) = (n : Int) by rw [IntKind.wrap_i64]; omega]
  exact wn (by omega)
/-- What the rounding comes to. -/
theorem l_round {s q n rg : Nat} {r : Int} (hn : n ≤ 64) (hs : s = 0 ∨ s = 9223372036854775808) (h1 : 4503599627370496 ≤ q) (h2 : q ≤ 9007199254740992) (hg : rg = (n + 1021) * 4503599627370496 + q) (hr : r = (s + rg : Nat)) :
    br (decide ((q : Int) = 9007199254740992)) (r = IntKind.u64.wrap (IntKind.u64.wrap ((s : Int) + ((n + 1023 : Nat) * 4503599627370496 : Nat)) + ((q / 2 % 4503599627370496 : Nat) : Int))) (r = IntKind.u64.wrap (IntKind.u64.wrap ((s : Int) + ((n + 1022 : Nat) * 4503599627370496 : Nat)) + ((q % 4503599627370496 : Nat) : Int))) := by
  subst hr
  refine br_in (fun a => ?_) fun a => ?_
  · have a := of_decide_eq_true a
    have a : q = 9007199254740992 := by omega
    subst a
    simp only [IntKind.wrap_u64]
    rcases hs with hs | hs <;> omega
  · have a := of_decide_eq_false a
    have a : q < 9007199254740992 := by omega
    have : q % 4503599627370496 = q - 4503599627370496 := by omega
    rw [this]
    simp only [IntKind.wrap_u64]
    rcases hs with hs | hs <;> omega
theorem rfrom_law {x : Int} (hx : KeepI x) : callT Try.prog (hkL []) tab (lhL [(20014, hintSg x), (1, hintFi x)]) 10 40 [iS x] (fun u => subS (uS (KeepFi x)) u) := by
  obtain ⟨x0, x1⟩ := id hx
  have hf := fi_eq hx
  rw [rfrom_res]
  refine br_in (fun a => ?_) fun a => ?_
  · have a := of_decide_eq_true a
    subst a; decide
  have a := of_decide_eq_false a
  refine ⟨br_in (fun b => ?_) fun b => ?_, fun z hz => ⟨?_, fun y hy => br_in (fun c => ?_) fun c => ?_⟩⟩
  · have b := of_decide_eq_true b
    refine ⟨⟨x.natAbs, 9223372036854775808, 0, 0⟩, ⟨rfl, by rw [if_pos b]⟩, ⟨?_, rfl, trivial⟩, trivial⟩
    show ((x.natAbs : Nat) : Int) = _
    simp only [IntKind.wrap_u64]; omega
  · have b := of_decide_eq_false b
    refine ⟨⟨x.natAbs, 0, 0, 0⟩, ⟨rfl, by rw [if_neg b]⟩, ⟨?_, rfl, trivial⟩, trivial⟩
    show ((x.natAbs : Nat) : Int) = _
    simp only [IntKind.wrap_u64]; omega
  · exact ⟨⟨z.u, z.s, 0, z.u⟩, ⟨hz.1, hz.2, by show z.u = z.u / 2 ^ 0; rw [Nat.pow_zero, Nat.div_one], fun h => absurd h (Nat.lt_irrefl 0), Nat.zero_le _⟩, ⟨rfl, rfl, rfl, rfl, trivial⟩, trivial⟩
  · have c := of_decide_eq_true c
    obtain ⟨y1, y2, y3, y4, y5⟩ := hy
    have hk : 2 ^ y.n ≤ y.u := by
      rcases Nat.lt_or_ge y.u (2 ^ y.n) with h | h
      · rw [Nat.div_eq_of_lt h] at y3; omega
      · exact h
    have hn : y.n < 64 := by
      rcases Nat.lt_or_ge y.n 64 with h | h
      · exact h
      · have := Nat.le_trans (Nat.pow_le_pow_right (show 0 < 2 by decide) h) hk
        omega
    have hkk : y.k ≤ y.u := by rw [y3]; exact Nat.div_le_self _ _
    exact ⟨⟨y.u, y.s, y.n + 1, y.k / 2⟩, ⟨y1, y2, by show y.k / 2 = y.u / 2 ^ (y.n + 1); rw [y3, Nat.pow_succ, Nat.div_div_eq_div_mul], fun _ => hk, hn⟩, mu_lt hn, ⟨rfl, rfl, i64_nat (by omega), (by
      show ((y.k / 2 : Nat) : Int) = _
      rw [IntKind.wrap_u64, Int.tdiv_eq_ediv_of_nonneg (by omega)]; omega), trivial⟩, trivial⟩
  · have c := of_decide_eq_false c
    obtain ⟨y1, y2, y3, y4, y5⟩ := hy
    have hu : y.u < 2 ^ y.n := by
      rcases Nat.lt_or_ge y.u (2 ^ y.n) with h | h
      · exact h
      · have := Nat.div_pos h (Nat.two_pow_pos y.n)
        omega
    have hp : 0 < y.n := by
      rcases Nat.eq_zero_or_pos y.n with h | h
      · rw [h] at hu; omega
      · exact h
    have h0 := y4 hp
    have hu64 : y.u ≤ 9223372036854775808 := by omega
    rw [← y1] at hf
    have e2 := l_e2 (Nat.le_succ_of_le y5)
    have e3 := l_e3 (n := y.n + 1022) (by omega)
    have e2' := l_e2' y5
    have e3' := l_e3 (n := y.n + 1023) (by omega)
    refine br_in (fun d => ?_) fun d => ?_
    · have d := of_decide_eq_true d
      obtain ⟨r1, r2⟩ := rg_small (show y.n ≤ 53 by omega) hp h0 hu
      have e1 := l_e1 (n := y.n) (by omega)
      have e4 : sShl .u64 (y.u : Int) ((53 - y.n : Nat) : Int) = ((y.u * 2 ^ (53 - y.n) : Nat) : Int) := sh_nat (by omega) (by omega)
      rw [e1, e2, e3, e4, tm52]
      refine br_y (decide_eq_true (by omega)) ?_
      rw [hf, r1, y2]
      simp only [IntKind.wrap_u64]
      split <;> omega
    · have d := of_decide_eq_false d
      obtain ⟨dd, hd⟩ : ∃ dd, y.n = dd + 53 := ⟨y.n - 53, by omega⟩
      obtain ⟨r1, r2, r3⟩ := rg_big hd (by omega) h0 hu
      have e1 : IntKind.u64.wrap (IntKind.i64.wrap ((y.n : Int) - 53)) = ((dd : Nat) : Int) := by rw [hd]; exact l_e1' (by omega)
      have hpd : 2 ^ dd ≤ 2048 := Nat.le_trans (Nat.pow_le_pow_right (by decide) (show dd ≤ 11 by omega)) (by decide)
      have hpp := Nat.two_pow_pos dd
      have hh := half_pow (d := dd) (by omega)
      have eU : sShl .u64 1 ((dd : Nat) : Int) = ((2 ^ dd : Nat) : Int) := by
        have := sh_nat (a := 1) (b := dd) (by omega) (by omega)
        rw [Nat.one_mul] at this; exact this
      have eq : (y.u : Int).tdiv ((2 ^ dd : Nat) : Int) = ((y.u / 2 ^ dd : Nat) : Int) := rfl
      have er : (y.u : Int).tmod ((2 ^ dd : Nat) : Int) = ((y.u % 2 ^ dd : Nat) : Int) := rfl
      unfold rnd at r1
      rw [e1, e2, e3, e2', e3', eU, eq, er]
      generalize y.u / 2 ^ dd = q at *
      generalize y.u % 2 ^ dd = rest at *
      generalize 2 ^ (dd - 1) = half at *
      generalize 2 ^ dd = unit at *
      have eh : IntKind.u64.wrap ((unit : Int).tdiv 2) = (half : Int) := by rw [IntKind.wrap_u64, Int.tdiv_eq_ediv_of_nonneg (by omega)]; omega
      have f1 : IntKind.u64.wrap ((q : Int) + 1) = ((q + 1 : Nat) : Int) := by rw [IntKind.wrap_u64]; omega
      have f2 : IntKind.u64.wrap (((q + 1 : Nat) : Int).tdiv 2) = (((q + 1) / 2 : Nat) : Int) := by rw [IntKind.wrap_u64, Int.tdiv_eq_ediv_of_nonneg (by omega)]; omega
      have f3 : IntKind.u64.wrap ((q : Int).tdiv 2) = ((q / 2 : Nat) : Int) := by rw [IntKind.wrap_u64, Int.tdiv_eq_ediv_of_nonneg (by omega)]; omega
      have f4 : (q : Int).tmod 2 = ((q % 2 : Nat) : Int) := by rw [Int.tmod_eq_emod_of_nonneg (by omega)]; omega
      obtain ⟨s, hs, hs2, hs3⟩ : ∃ s : Nat, y.s = s ∧ (s = 0 ∨ s = 9223372036854775808) ∧ KeepFi x = (s + rgI y.u : Nat) := by
        rw [hf, y2]; split
        · exact ⟨9223372036854775808, rfl, .inr rfl, by simp⟩
        · exact ⟨0, rfl, .inl rfl, by simp⟩
      have g1 : half < rest → rgI y.u = (y.n + 1021) * 4503599627370496 + (q + 1) := fun h => by rw [r1]; simp [show unit < 2 * rest by omega]
      have g2 : rest = half → q % 2 = 1 → rgI y.u = (y.n + 1021) * 4503599627370496 + (q + 1) := fun h h' => by rw [r1]; simp [show unit = 2 * rest by omega, h']
      have g3 : rest = half → ¬ q % 2 = 1 → rgI y.u = (y.n + 1021) * 4503599627370496 + q := fun h h' => by rw [r1]; simp [show unit = 2 * rest by omega, h']
      have g4 : rest < half → rgI y.u = (y.n + 1021) * 4503599627370496 + q := fun h => by rw [r1]; simp [show ¬ unit < 2 * rest by omega, show ¬ unit = 2 * rest by omega]
      simp only [wn (show q < 18446744073709551616 by omega), eh, f1, f2, f3, f4, tm52, hs]
      refine br_y (decide_eq_true (by omega)) <| br_y (by simp; omega) <| br_y (by simp; omega) ?_
      refine br_in (fun a1 => ?_) fun a1 => br_in (fun a2 => ?_) fun a2 => ?_
      · have a1 := of_decide_eq_true a1
        exact l_round y5 hs2 (by omega) (by omega) (g1 (by omega)) hs3
      · have a2 := of_decide_eq_true a2
        refine br_in (fun a4 => ?_) fun a4 => ?_
        · have a4 := of_decide_eq_true a4
          exact l_round y5 hs2 (by omega) (by omega) (g2 (by omega) (by omega)) hs3
        · have a4 := of_decide_eq_false a4
          exact l_round y5 hs2 (by omega) (by omega) (g3 (by omega) (by omega)) hs3
      · have a1 := of_decide_eq_false a1
        have a2 := of_decide_eq_false a2
        exact l_round y5 hs2 (by omega) (by omega) (g4 (by omega)) hs3
theorem rfrom_ok : GOK Try.prog 40 hFromInt := by
  refine gokW mixed tab_ok hkL_nil fun vs s r hg hs => ?_
  unfold hFromInt at hg
  split at hg <;> try (cases hg; done)
  rename_i a
  simp only [Option.some.injEq, Prod.mk.injEq] at hg
  obtain ⟨rfl, rfl⟩ := hg
  exact ⟨lhL [(20014, hintSg (cI a)), (1, hintFi (cI a))], 10, [iS (cI a)], ⟨hs.1, trivial⟩, rfrom_law hs.2⟩
theorem hkI_ok : HookOK Try.prog hkI := hkL_cons rclass_ok <| hkL_cons rless_ok <| hkL_cons rfrom_ok <| hkL_cons rto_ok hkL_nil
theorem rticks_ok : GOK Try.prog 44 hTicks := by
  refine one_ok (lh := fun _ => noL) (F := fun x => iS (KeepTk x)) hkI_ok fun x hx => ?_
  rw [rticks_res]
  have zu : KeepU 0 := ⟨by decide, by decide⟩
  have zt : KeepU 4787326403894837248 := ⟨by decide, by decide⟩
  have l0 : KeepLs 0 x = (!nanI x && decide (0 < skI x)) := rfl
  have l1 : KeepLs 4787326403894837248 x = (!nanI x && decide (4787326403894837248 < skI x)) := rfl
  cases hn : nanI x
  · by_cases d : 0 < skI x
    · refine ⟨⟨rfl, rfl, zu, hx⟩, br_n (by rw [l0, hn]; simp [d]) ⟨⟨rfl, by decide, by decide⟩, ⟨rfl, rfl, zt, hx⟩, ?_⟩⟩
      by_cases c : 4787326403894837248 < skI x
      · refine br_y (by rw [l1, hn]; simp [c]) ?_
        unfold KeepTk; rw [hn, if_neg (by decide), if_pos c]
      · obtain ⟨q1, q2, q3⟩ := rticks_ok' hx hn c d
        have hI : KeepI (KeepTi x) := by rw [q1]; exact ⟨by omega, by omega⟩
        refine br_n (by rw [l1, hn]; simp; omega) ⟨⟨rfl, hx⟩, ⟨rfl, hI⟩, ⟨rfl, rfl, fi_U hI, hx⟩, br_in (fun e => ?_) fun e => ?_⟩
        · rw [q3, if_pos e, q1, IntKind.wrap_i64]; omega
        · rw [q3, e, q1]; simp
    · refine ⟨⟨rfl, rfl, zu, hx⟩, br_y (by rw [l0, hn]; simp; omega) ?_⟩
      unfold KeepTk; rw [hn, if_neg (by decide), if_neg (by omega), if_neg d]
  · refine ⟨⟨rfl, rfl, zu, hx⟩, br_y (by rw [l0, hn]; simp) ?_⟩
    unfold KeepTk; rw [if_pos hn]
theorem hkU_ok : HookOK Try.prog hkU := hkL_cons alive_ok <| hkL_cons fromint_ok <| hkL_cons rfrom_ok <| hkL_cons toint_ok <| hkL_cons rto_ok <| hkL_cons ticks_ok <| hkL_cons rticks_ok hkL_nil
theorem ints_walk (W : World) (x y : Int) (hx : KeepI x) (hy : KeepU y) :
    Calls Try.prog 5 #[.int .i64 x, .int .u64 y] W fun e w' => e = .returned (.bool true) ∧ Below W.heap.size W w' := by
  refine law (vals := [.int .i64 x, .int .u64 y]) (lh := noL) (m := 10) (args := [iS x, uS y]) mixed tab_ok hkU_ok ?_ ⟨rfl, rfl, trivial⟩
  rw [ints_res]
  simp [hx, hy, br_tt]
end Go.Proofs.Ytjicbncikakhjaa
