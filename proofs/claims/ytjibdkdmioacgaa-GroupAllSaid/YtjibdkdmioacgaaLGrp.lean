/- GroupSums: the call answers true. -/
import Derived.Test.YtjibdkdmioacgaaRGrp
import Derived.Test.YtjibdkdmioacgaaSyU
namespace Go.Proofs.Ytjibdkdmioacgaa
open SY
open Go.RowKit
set_option linter.unusedSimpArgs false
set_option linter.unusedVariables false
theorem alive_ok : GOK Try.prog 6 hAlive := by
  refine gok mixed tab_ok hkL_nil fun vs s r hg hs => ?_
  unfold hAlive at hg
  split at hg <;> try (cases hg; done)
  simp only [Option.some.injEq, Prod.mk.injEq] at hg
  obtain ⟨rfl, rfl⟩ := hg
  refine ⟨noL, 10, ?_⟩
  show callT Try.prog (hkL []) tab noL 10 _ [] tru
  rw [alive_res 0]
  repeat' (first | exact trivial | rfl | refine And.intro ?_ ?_ | (refine br_in (fun hb => ?_) (fun hb => ?_) <;> (try simp (disch := omega) only [decide_eq_true_eq, decide_eq_false_iff_not, Bool.and_eq_true, Bool.or_eq_true, Bool.not_eq_true', Bool.not_eq_false', Bool.and_eq_false_iff, Bool.or_eq_false_iff, Bool.true_and, Bool.and_true, Bool.false_and, Bool.and_false, Bool.not_true, Bool.not_false, Bool.true_eq_false, Bool.false_eq_true, reduceCtorEq, beq_iff_eq, bne_iff_ne, ne_eq, beq_self_eq_true, bne_self_eq_false, Bool.true_beq, Bool.false_beq, beq_true, beq_false, not_true_eq_false, not_false_eq_true, decide_true, decide_false, Bool.not_not, Decidable.not_not, false_and, and_false, true_and, and_true, Bool.or_true, Bool.true_or, Bool.or_false, Bool.false_or, bne_eq_false_iff_eq, beq_eq_false_iff_ne, w_i64, w_u64, w_u32, w_u8, w_i32, w_u16] at hb) <;> (try (exfalso; omega))))

theorem sums_walk (W : World) (v : Value) (xs : List Int) (hv : SlD g0 W [.int .i8] xs none v) (hx : InR [.int .i8] xs) :
    Calls Try.prog 4 #[v] W fun e w' => e = .returned (.bool true) ∧ Below W.heap.size W w' := by
  refine law (vals := [v]) (lh := lhL [(1, hintSums xs)]) (m := 10) (args := [.t (.c (.sl [.int .i8] xs none))]) mixed tab_ok (hkL_cons alive_ok hkL_nil) ?_ ⟨hv, trivial⟩
  rw [sums_res]
  refine ⟨trivial, br_in (fun _ => rfl) fun hl => ⟨⟨(0, 0), by simp⟩, ?_⟩⟩
  simp only [decide_eq_false_iff_not] at hl
  rintro ⟨i, s⟩ ⟨h1, h2, h3⟩
  simp only [Int.toNat_natCast]
  by_cases hi : i < xs.length
  · have hb : -128 ≤ gI xs i ∧ gI xs i ≤ 127 := by
      exact in_i8 (at_in1 hx hi)
    simp (disch := omega) only [w_i64, w_u64, w_u32, w_u8, w_i32, w_u16, Int.toNat_natCast]
    repeat' (first | exact trivial | rfl | refine And.intro ?_ ?_ | (refine br_in (fun hb => ?_) (fun hb => ?_) <;> (try simp (disch := omega) only [decide_eq_true_eq, decide_eq_false_iff_not, Bool.and_eq_true, Bool.or_eq_true, Bool.not_eq_true', Bool.not_eq_false', Bool.and_eq_false_iff, Bool.or_eq_false_iff, Bool.true_and, Bool.and_true, Bool.false_and, Bool.and_false, Bool.not_true, Bool.not_false, Bool.true_eq_false, Bool.false_eq_true, reduceCtorEq, beq_iff_eq, bne_iff_ne, ne_eq, beq_self_eq_true, bne_self_eq_false, Bool.true_beq, Bool.false_beq, beq_true, beq_false, not_true_eq_false, not_false_eq_true, decide_true, decide_false, Bool.not_not, Decidable.not_not, false_and, and_false, true_and, and_true, Bool.or_true, Bool.true_or, Bool.or_false, Bool.false_or, bne_eq_false_iff_eq, beq_eq_false_iff_ne, w_i64, w_u64, w_u32, w_u8, w_i32, w_u16] at hb) <;> (try (exfalso; omega))))
    all_goals first | exact ⟨(i + 1, s + gI xs i), by simp; omega⟩ | exact ⟨(i + 1, s), by simp; omega⟩
  · rw [br_f (by simp; omega)]
    repeat' (first | exact trivial | rfl | refine And.intro ?_ ?_ | (refine br_in (fun hb => ?_) (fun hb => ?_) <;> (try simp (disch := omega) only [decide_eq_true_eq, decide_eq_false_iff_not, Bool.and_eq_true, Bool.or_eq_true, Bool.not_eq_true', Bool.not_eq_false', Bool.and_eq_false_iff, Bool.or_eq_false_iff, Bool.true_and, Bool.and_true, Bool.false_and, Bool.and_false, Bool.not_true, Bool.not_false, Bool.true_eq_false, Bool.false_eq_true, reduceCtorEq, beq_iff_eq, bne_iff_ne, ne_eq, beq_self_eq_true, bne_self_eq_false, Bool.true_beq, Bool.false_beq, beq_true, beq_false, not_true_eq_false, not_false_eq_true, decide_true, decide_false, Bool.not_not, Decidable.not_not, false_and, and_false, true_and, and_true, Bool.or_true, Bool.true_or, Bool.or_false, Bool.false_or, bne_eq_false_iff_eq, beq_eq_false_iff_ne, w_i64, w_u64, w_u32, w_u8, w_i32, w_u16] at hb) <;> (try (exfalso; omega))))

theorem all_walk (W : World) (n b : Int) (hn : 0 ≤ n ∧ n ≤ 255) (hb : 0 ≤ b ∧ b ≤ 255) :
    Calls Try.prog 5 #[.int .u8 n, .int .u8 b] W fun e w' => e = .returned (.bool true) ∧ Below W.heap.size W w' := by
  refine law (vals := [.int .u8 n, .int .u8 b]) (lh := lhL [(1, hintAllA n b), (3, hintAllB n b)]) (m := 10) (args := [.t (.c (.v (.int .u8 n))), .t (.c (.v (.int .u8 b)))]) mixed tab_ok (hkL_cons alive_ok hkL_nil) ?_ ⟨rfl, rfl, trivial⟩
  rw [all_res]
  simp (disch := omega) only [w_i64, w_u64, w_u32, w_u8, w_i32, w_u16, Int.toNat_natCast]
  refine ⟨trivial, ⟨0, by simp; omega⟩, ?_⟩
  intro i hi
  simp (disch := omega) only [w_i64, w_u64, w_u32, w_u8, w_i32, w_u16, Int.toNat_natCast]
  repeat' (first | exact trivial | rfl | refine And.intro ?_ ?_ | (refine br_in (fun hb => ?_) (fun hb => ?_) <;> (try simp (disch := omega) only [decide_eq_true_eq, decide_eq_false_iff_not, Bool.and_eq_true, Bool.or_eq_true, Bool.not_eq_true', Bool.not_eq_false', Bool.and_eq_false_iff, Bool.or_eq_false_iff, Bool.true_and, Bool.and_true, Bool.false_and, Bool.and_false, Bool.not_true, Bool.not_false, Bool.true_eq_false, Bool.false_eq_true, reduceCtorEq, beq_iff_eq, bne_iff_ne, ne_eq, beq_self_eq_true, bne_self_eq_false, Bool.true_beq, Bool.false_beq, beq_true, beq_false, not_true_eq_false, not_false_eq_true, decide_true, decide_false, Bool.not_not, Decidable.not_not, false_and, and_false, true_and, and_true, Bool.or_true, Bool.true_or, Bool.or_false, Bool.false_or, bne_eq_false_iff_eq, beq_eq_false_iff_ne, w_i64, w_u64, w_u32, w_u8, w_i32, w_u16] at hb) <;> (try (exfalso; omega))))
  · exact ⟨i + 1, by simp; omega⟩
  · exact ⟨⟨0, 1 + b, i, 32, 0, -1, 0, 0⟩, by simp [KeepIA]; omega⟩
  · rintro ⟨k, w0, w1, op, st, si, le, gv⟩ hI
    simp only [KeepIA] at hI
    simp (disch := omega) only [w_i64, w_u64, w_u32, w_u8, w_i32, w_u16, Int.toNat_natCast]
    repeat' (first | exact trivial | rfl | refine And.intro ?_ ?_ | (refine br_in (fun hb => ?_) (fun hb => ?_) <;> (try simp (disch := omega) only [decide_eq_true_eq, decide_eq_false_iff_not, Bool.and_eq_true, Bool.or_eq_true, Bool.not_eq_true', Bool.not_eq_false', Bool.and_eq_false_iff, Bool.or_eq_false_iff, Bool.true_and, Bool.and_true, Bool.false_and, Bool.and_false, Bool.not_true, Bool.not_false, Bool.true_eq_false, Bool.false_eq_true, reduceCtorEq, beq_iff_eq, bne_iff_ne, ne_eq, beq_self_eq_true, bne_self_eq_false, Bool.true_beq, Bool.false_beq, beq_true, beq_false, not_true_eq_false, not_false_eq_true, decide_true, decide_false, Bool.not_not, Decidable.not_not, false_and, and_false, true_and, and_true, Bool.or_true, Bool.true_or, Bool.or_false, Bool.false_or, bne_eq_false_iff_eq, beq_eq_false_iff_ne, w_i64, w_u64, w_u32, w_u8, w_i32, w_u16] at hb) <;> (try (exfalso; omega))))
    all_goals first | exact ⟨⟨k + 1, 0, 0, 0, 0, 0, 0, n⟩, by simp [KeepIA]; omega⟩ | exact ⟨⟨k + 1, 0, 0, 32, 1, -1, n - k, k⟩, by simp [KeepIA]; omega⟩ | (simp; omega)
end Go.Proofs.Ytjibdkdmioacgaa
