/- Waiters: what the functions answer. No condition. -/
import Derived.Test.YtmmliaobjendoaaDoorQN1
namespace Go.Proofs.YtmmliaobjendoaaDoor
open SY
open Go.RowKit Go.Maps
set_option linter.unusedSimpArgs false
set_option linter.unusedVariables false

theorem i64_nat {k : Nat} (h : k < 9223372036854775807) : ((k + 1 : Nat) : Int) = IntKind.i64.wrap ((k : Int) + 1) := by rw [IntKind.wrap_i64]; omega
theorem g0k (xs : List Int) (k : Nat) : gI xs (k * 2) = tkI xs k := by unfold tkI; rw [Nat.mul_comm]
theorem g1k (xs : List Int) (k : Nat) : gI xs (k * 2 + 1) = tsI xs k := by unfold tsI; rw [Nat.mul_comm]
theorem far_eq {a b : Int} (ha : 0 ≤ a ∧ a < 4294967296) (hb : 0 ≤ b ∧ b < 4294967296) : (IntKind.u64.wrap (IntKind.u64.wrap (IntKind.u64.wrap a + 4294967296) - IntKind.u64.wrap b)).tmod 4294967296 = (a - b) % 4294967296 := by
  simp only [IntKind.wrap_u64]
  rw [Int.tmod_eq_emod_of_nonneg (by omega)]; omega
theorem wf_u32 {x : Int} (h : 0 ≤ x ∧ x < 4294967296) : (Lit.int .u32 x).wf = true := by
  simp only [Lit.wf, IntKind.min, IntKind.max, IntKind.signed, IntKind.bits, Bool.and_eq_true, decide_eq_true_eq]
  simp; omega
theorem wf_i64 {x : Int} (h : -9223372036854775808 ≤ x ∧ x < 9223372036854775808) : (Lit.int .i64 x).wf = true := by
  simp only [Lit.wf, IntKind.min, IntKind.max, IntKind.signed, IntKind.bits, Bool.and_eq_true, decide_eq_true_eq]
  simp; omega
theorem cnt_dup {f : Nat → Int} {x : Int} : ∀ {k j : Nat}, j < k → f j = x → 1 ≤ cnt f k x
  | k + 1, j, hj, h => by
    show 1 ≤ cnt f k x + if f k = x then 1 else 0
    have := cnt_in f x k
    rcases Nat.lt_or_ge j k with h' | h'
    · have := cnt_dup h' h
      split <;> omega
    · obtain rfl : j = k := by omega
      rw [if_pos h]; omega
theorem cnt_no {f : Nat → Int} {x : Int} : ∀ {k : Nat}, (∀ j, j < k → f j ≠ x) → cnt f k x = 0
  | 0, _ => rfl
  | k + 1, h => by
    show cnt f k x + (if f k = x then 1 else 0) = 0
    rw [cnt_no fun j hj => h j (by omega), if_neg (h k (by omega))]; rfl
theorem cnt_two {f : Nat → Int} {k j : Nat} (hj : j < k) (h : f j = f k) : 1 < cnt f (k + 1) (f k) := by
  show 1 < cnt f k (f k) + if f k = f k then 1 else 0
  have := cnt_dup hj h
  rw [if_pos rfl]; omega
theorem cnt_one {f : Nat → Int} {k : Nat} (h : ∀ j, j < k → f j ≠ f k) : cnt f (k + 1) (f k) ≤ 1 := by
  show cnt f k (f k) + (if f k = f k then 1 else 0) ≤ 1
  rw [cnt_no h, if_pos rfl]; exact Int.le_refl _

/-! Right -/
set_option maxRecDepth 100000 in
theorem right_none (wt td : Int) (a : Option Addr) (c : Nat) (w : World) :
    Calls Tryd.prog 17 #[.agg #[.int .u32 wt, .int .u32 td, .slice a 0 c]] w fun e w' => e = .returned (.bool (KeepRt wt td [])) ∧ Below w.heap.size w w' := by
  have hmm := @run_makeMap Tryd.prog
  have b1 : ∀ A : Obj, Below w.heap.size w ((w.alloc A).alloc A) := fun A => Below.alloc (Below.alloc (Below.refl _ _) (Nat.le_refl _) _) (by rw [al_size]; omega) _
  have b2 : ∀ A B : Obj, Below w.heap.size w ((((w.alloc A).alloc A).alloc B).alloc B) := fun A B => Below.alloc (Below.alloc (b1 A) (by simp only [al_size]; omega) _) (by simp only [al_size]; omega) _
  go_enter Tryd.func17, Tryd.ntmps17
  go_wp2
  · refine wp_loop_rounds 1 ?_
    rw [rounds_succ]; go_wp2
    go_ret
    exact ⟨ret_eq (rt_true (n := 0) rfl (by omega) (by omega) fun k hk => absurd hk (Nat.not_lt_zero _)), b2 _ _⟩
  · go_ret
    exact ⟨ret_eq (rt_out1 (by omega)), b1 _⟩
theorem right_ok : GOK Tryd.prog 17 (hRt KeepRn) := by
  intro vs s r hg hs
  unfold hRt at hg
  split at hg <;> try (cases hg; done)
  rename_i a
  simp only [Option.some.injEq, Prod.mk.injEq] at hg
  obtain ⟨rfl, rfl⟩ := hg
  refine .inl ⟨isFn_of (fn := Tryd.f17) (by kernel_rfl) (by kernel_rfl) (by kernel_rfl), fun g w vals hb hv => ?_⟩
  obtain ⟨v, l, rfl, h1, h2⟩ := hv.cons_left
  obtain rfl := h2.nil_left
  have h1 := subS_ok hs.1 h1
  have hw := hs.2
  generalize cN a = n at *
  obtain ⟨us, rfl, d0⟩ := h1
  obtain ⟨z0, u1, rfl, rfl, d1⟩ := d0.cons_left
  obtain ⟨z1, u2, rfl, rfl, d2⟩ := d1.cons_left
  obtain ⟨z2, u3, rfl, ⟨A, m, c, rfl, hS⟩, d3⟩ := d2.cons_left
  obtain rfl := d3.nil_left
  have hl := hS.len
  simp only [List.length_cons, List.length_nil] at hl
  have key : Calls Tryd.prog 17 #[.agg #[.int .u32 n.wt, .int .u32 n.td, .slice A m c]] w fun e w' => e = .returned (.bool (KeepRt n.wt n.td n.ns)) ∧ Below w.heap.size w w' := by
    by_cases hm : m = 0
    · subst hm
      have : n.ns = [] := List.eq_nil_of_length_eq_zero (by omega)
      rw [this]
      exact right_none n.wt n.td A c w
    · cases A with
      | none => exact absurd (hS.nil rfl).1 hm
      | some A =>
        obtain ⟨sp, hbk, x0, x1⟩ := sl_cells hS (by omega)
        obtain ⟨B, off, spot⟩ := A
        simp only at sp
        subst sp
        obtain ⟨_, _, hi⟩ := hw
        have hi := hi.2.2
        exact right_some n.wt n.td n.ns B off m c w hbk hl x0 x1 (fun k hk => wf_u32 (hi k (by omega)).1) (fun k hk => wf_i64 (hi k (by omega)).2)
  refine key.mono ?_
  rintro e w' ⟨rfl, hbel⟩
  exact ⟨_, rfl, rfl, hbel⟩
end Go.Proofs.YtmmliaobjendoaaDoor
