/- Waiters: what the functions answer. No condition. -/
import Derived.Test.YtgoigcnibjcjpaaRN1
namespace Go.Proofs.Ytgoigcnibjcjpaa
open SY
open Go.RowKit Go.Maps
set_option linter.unusedSimpArgs false
set_option linter.unusedVariables false

theorem i64_nat {k : Nat} (h : k < 9223372036854775807) : ((k + 1 : Nat) : Int) = IntKind.i64.wrap ((k : Int) + 1) := by rw [IntKind.wrap_i64]; omega
theorem g0k (xs : List Int) (k : Nat) : gI xs (k * 2) = tkI xs k := by unfold tkI; rw [Nat.mul_comm]
theorem g1k (xs : List Int) (k : Nat) : gI xs (k * 2 + 1) = tsI xs k := by unfold tsI; rw [Nat.mul_comm]
theorem far_eq {a b : Int} (ha : 0 ≤ a ∧ a < 4294967296) (hb : 0 ≤ b ∧ b < 4294967296) : (IntKind.u64.wrap (IntKind.u64.wrap (IntKind.u64.wrap a + 4294967296) - IntKind.u64.wrap b)).tmod 4294967296 = (a - b) % 4294967296 := by
  simp only [IntKind.wrap_u64]
  rw [Int.tmod_eq_emod_of_nonneg (by omega)]; omega
theorem wf_u32 {x : Int} (h : 0 ≤ x ∧ x < 4294967296) : (Lit.int .u32 x).wf = true := by
  simp only [Lit.wf, IntKind.min, IntKind.max, IntKind.signed, IntKind.bits, Bool.and_eq_true, decide_eq_true_eq]
  simp; omega
theorem wf_i64 {x : Int} (h : -9223372036854775808 ≤ x ∧ x < 9223372036854775808) : (Lit.int .i64 x).wf = true := by
  simp only [Lit.wf, IntKind.min, IntKind.max, IntKind.signed, IntKind.bits, Bool.and_eq_true, decide_eq_true_eq]
  simp; omega
theorem cnt_dup {f : Nat → Int} {x : Int} : ∀ {k j : Nat}, j < k → f j = x → 1 ≤ cnt f k x
  | k + 1, j, hj, h => by
    show 1 ≤ cnt f k x + if f k = x then 1 else 0
    have := cnt_in f x k
    rcases Nat.lt_or_ge j k with h' | h'
    · have := cnt_dup h' h
      split <;> omega
    · obtain rfl : j = k := by omega
      rw [if_pos h]; omega
theorem cnt_no {f : Nat → Int} {x : Int} : ∀ {k : Nat}, (∀ j, j < k → f j ≠ x) → cnt f k x = 0
  | 0, _ => rfl
  | k + 1, h => by
    show cnt f k x + (if f k = x then 1 else 0) = 0
    rw [cnt_no fun j hj => h j (by omega), if_neg (h k (by omega))]; rfl
theorem cnt_two {f : Nat → Int} {k j : Nat} (hj : j < k) (h : f j = f k) : 1 < cnt f (k + 1) (f k) := by
  show 1 < cnt f k (f k) + if f k = f k then 1 else 0
  have := cnt_dup hj h
  rw [if_pos rfl]; omega
theorem cnt_one {f : Nat → Int} {k : Nat} (h : ∀ j, j < k → f j ≠ f k) : cnt f (k + 1) (f k) ≤ 1 := by
  show cnt f k (f k) + (if f k = f k then 1 else 0) ≤ 1
  rw [cnt_no h, if_pos rfl]; exact Int.le_refl _

/-! Right -/
set_option maxRecDepth 100000 in
theorem right_none (wt td : Int) (a : Option Addr) (c : Nat) (w : World) :
    Calls Try.prog 14 #[.agg #[.int .u32 wt, .int .u32 td, .slice a 0 c]] w fun e w' => e = .returned (.bool (KeepRt wt td [])) ∧ Below w.heap.size w w' := by
  have hmm := @run_makeMap Try.prog
  have b1 : ∀ A : Obj, Below w.heap.size w ((w.alloc A).alloc A) := fun A => Below.alloc (Below.alloc (Below.refl _ _) (Nat.le_refl _) _) (by rw [al_size]; omega) _
  have b2 : ∀ A B : Obj, Below w.heap.size w ((((w.alloc A).alloc A).alloc B).alloc B) := fun A B => Below.alloc (Below.alloc (b1 A) (by simp only [al_size]; omega) _) (by simp only [al_size]; omega) _
  go_enter Try.func14, Try.ntmps14
  go_wp2
  · refine wp_loop_rounds 1 ?_
    rw [rounds_succ]; go_wp2
    go_ret
    exact ⟨ret_eq (rt_true (n := 0) rfl (by omega) (by omega) fun k hk => absurd hk (Nat.not_lt_zero _)), b2 _ _⟩
  · go_ret
    exact ⟨ret_eq (rt_out1 (by omega)), b1 _⟩
theorem right_ok : GOK Try.prog 14 (hRt KeepRn) := by
  intro vs s r hg hs
  unfold hRt at hg
  split at hg <;> try (cases hg; done)
  rename_i a
  simp only [Option.some.injEq, Prod.mk.injEq] at hg
  obtain ⟨rfl, rfl⟩ := hg
  refine .inl ⟨isFn_of (fn := Try.f14) (by kernel_rfl) (by kernel_rfl) (by kernel_rfl), fun g w vals hb hv => ?_⟩
  obtain ⟨v, l, rfl, h1, h2⟩ := hv.cons_left
  obtain rfl := h2.nil_left
  have h1 := subS_ok hs.1 h1
  have hw := hs.2
  generalize cN a = n at *
  obtain ⟨us, rfl, d0⟩ := h1
  obtain ⟨z0, u1, rfl, rfl, d1⟩ := d0.cons_left
  obtain ⟨z1, u2, rfl, rfl, d2⟩ := d1.cons_left
  obtain ⟨z2, u3, rfl, ⟨A, m, c, rfl, hS⟩, d3⟩ := d2.cons_left
  obtain rfl := d3.nil_left
  have hl := hS.len
  simp only [List.length_cons, List.length_nil] at hl
  have key : Calls Try.prog 14 #[.agg #[.int .u32 n.wt, .int .u32 n.td, .slice A m c]] w fun e w' => e = .returned (.bool (KeepRt n.wt n.td n.ns)) ∧ Below w.heap.size w w' := by
    by_cases hm : m = 0
    · subst hm
      have : n.ns = [] := List.eq_nil_of_length_eq_zero (by omega)
      rw [this]
      exact right_none n.wt n.td A c w
    · cases A with
      | none => exact absurd (hS.nil rfl).1 hm
      | some A =>
        obtain ⟨sp, hbk, x0, x1⟩ := sl_cells hS (by omega)
        obtain ⟨B, off, spot⟩ := A
        simp only at sp
        subst sp
        obtain ⟨_, _, hi⟩ := hw
        have hi := hi.2.2
        exact right_some n.wt n.td n.ns B off m c w hbk hl x0 x1 (fun k hk => wf_u32 (hi k (by omega)).1) (fun k hk => wf_i64 (hi k (by omega)).2)
  refine key.mono ?_
  rintro e w' ⟨rfl, hbel⟩
  exact ⟨_, rfl, rfl, hbel⟩
theorem rright_ok : GOK Try.prog 15 (hRt KeepRn) := by
  refine gokW mixed tab_ok hkL_nil fun vs s r hg hs => ?_
  unfold hRt at hg
  split at hg <;> try (cases hg; done)
  rename_i a
  simp only [Option.some.injEq, Prod.mk.injEq] at hg
  obtain ⟨rfl, rfl⟩ := hg
  refine ⟨lhR (cN a), 10, [notV (cN a)], ⟨hs.1, trivial⟩, ?_⟩
  have hw := hs.2
  generalize cN a = n at *
  obtain ⟨hwt, htd, he, hlen, hin⟩ := hw
  have hn : n.ns.length = n.ns.length / 2 * 2 := by omega
  rw [rright_res]
  simp only [Int.toNat_natCast, g0k, g1k]
  unfold KeepRn
  rw [far_eq hwt htd]
  refine br_in (fun c => ?_) fun c => br_in (fun c' => ?_) fun c' => ⟨⟨⟨0⟩, ⟨Nat.zero_le _, fun j hj => absurd hj (Nat.not_lt_zero _)⟩, by simp, by simp⟩, fun x hx => br_in (fun d => ?_) fun d => ?_⟩
  · have c := of_decide_eq_true c
    exact (rt_out1 (by omega)).symm
  · have c' := of_decide_eq_true c'
    exact (rt_out2 hn (by omega)).symm
  · have d := of_decide_eq_true d
    have hxl : x.i < n.ns.length / 2 := by omega
    have hr := hin x.i hxl
    have out : ∀ h, okW n.wt n.td n.ns x.i = h → h = false → KeepRt n.wt n.td n.ns = false := fun h e e' => (rt_false hn hxl (by rw [e, e'])).symm
    refine br_y (by simp; omega) <| br_in (fun e => ?_) fun e => ⟨trivial, trivial, ?_⟩
    · have e := of_decide_eq_true e
      exact out _ rfl (ok_no (.inl e))
    have e := of_decide_eq_false e
    rw [far_eq hr.1 htd]
    refine br_in (fun f => ?_) fun f => ⟨⟨⟨0⟩, ⟨by show (0 : Int) ≤ _; omega, fun j hj => absurd hj (Nat.not_lt_zero _)⟩, by simp⟩, fun y hy => br_in (fun q => ?_) fun q => ?_⟩
    · simp only [Bool.not_eq_true', decide_eq_false_iff_not] at f
      exact out _ rfl (ok_no (.inr (.inl (by omega))))
    · have q := of_decide_eq_true q
      have hyx : y.i < x.i := by omega
      refine br_y (by simp; omega) <| br_in (fun u => ?_) fun u => br_y (by simp; omega) <| br_in (fun v => ?_) fun v => ?_
      · exact out _ rfl (ok_no (.inr (.inr (.inl (cnt_two hyx (of_decide_eq_true u))))))
      · exact out _ rfl (ok_no (.inr (.inr (.inr (cnt_two hyx (of_decide_eq_true v))))))
      · have u := of_decide_eq_false u
        have v := of_decide_eq_false v
        refine ⟨⟨y.i + 1⟩, ⟨by show ((y.i + 1 : Nat) : Int) ≤ x.i; omega, fun j hj => ?_⟩, by show x.i - (y.i + 1) < x.i - y.i; omega, by simp [← i64_nat (show y.i < 9223372036854775807 by omega)]⟩
        rcases Nat.lt_or_ge j y.i with h | h
        · exact hy.2 j h
        · have hj : j < y.i + 1 := hj
          obtain rfl : j = y.i := by omega
          exact ⟨u, v⟩
    · have q := of_decide_eq_false q
      simp only [Bool.not_eq_false', decide_eq_true_eq] at f
      have hy1 := hy.1
      refine ⟨⟨x.i + 1⟩, ⟨hxl, fun j hj => ?_⟩, by show n.ns.length - (x.i + 1) < n.ns.length - x.i; omega, by simp [← i64_nat (show x.i < 9223372036854775807 by omega)]⟩
      rcases Nat.lt_or_ge j x.i with h | h
      · exact hx.2 j h
      · have hj : j < x.i + 1 := hj
        obtain rfl : j = x.i := by omega
        exact ok_yes (by omega) f (cnt_one fun j hj => (hy.2 j (by omega)).1) (cnt_one fun j hj => (hy.2 j (by omega)).2)
  · have c := of_decide_eq_false c
    have c' := of_decide_eq_false c'
    have d := of_decide_eq_false d
    exact (rt_true hn (by omega) (by omega) fun k hk => hx.2 k (by omega)).symm
end Go.Proofs.Ytgoigcnibjcjpaa
