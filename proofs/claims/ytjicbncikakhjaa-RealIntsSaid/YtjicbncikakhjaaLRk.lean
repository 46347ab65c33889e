/- Layer 5's laws: answers, sums, order, steps. No condition. -/
import Derived.Test.YtjicbncikakhjaaRRk
namespace Go.Proofs.Ytjicbncikakhjaa
open SY
open Go.RowKit
set_option linter.unusedSimpArgs false
set_option linter.unusedVariables false

theorem u_of {x : Int} (h : inK (.int .u64) x) : KeepU x := by have := in_u64 h; exact ⟨this.1, by omega⟩
theorem i_of {x : Int} (h : inK (.int .i64) x) : KeepI x := by have := in_i64 h; exact ⟨this.1, by omega⟩
theorem hkK_ok : HookOK Try.prog hkK := hkL_cons class_ok <| hkL_cons plain_ok <| hkL_cons key_ok <| hkL_cons unkey_ok <| hkL_cons less_ok <| hkL_cons same_ok <| hkL_cons least_ok <| hkL_cons most_ok <| hkL_cons up_ok <| hkL_cons down_ok <| hkL_cons add_ok <| hkL_cons sub_ok <| hkL_cons mul_ok <| hkL_cons div_ok <| hkL_cons fromint_ok <| hkL_cons toint_ok <| hkL_cons ticks_ok hkL_nil
theorem alive_ok : GOK Try.prog 10 hAlive := by
  refine gok mixed tab_ok hkK_ok fun vs s r hg hs => ?_
  unfold hAlive at hg
  split at hg <;> try (cases hg; done)
  simp only [Option.some.injEq, Prod.mk.injEq] at hg
  obtain ⟨rfl, rfl⟩ := hg
  refine ⟨noL, 10, ?_⟩
  show callT Try.prog _ tab noL 10 _ [] tru
  rw [alive_res 0]
  simp [KeepU, KeepI]
theorem hkQ_ok : HookOK Try.prog hkQ := hkL_cons alive_ok <| hkL_cons class_ok <| hkL_cons rclass_ok <| hkL_cons plain_ok <| hkL_cons rplain_ok <| hkL_cons key_ok <| hkL_cons rkey_ok <| hkL_cons unkey_ok <| hkL_cons runkey_ok <|
  hkL_cons less_ok <| hkL_cons rless_ok <| hkL_cons same_ok <| hkL_cons rsame_ok <| hkL_cons least_ok <| hkL_cons rleast_ok <| hkL_cons most_ok <| hkL_cons rmost_ok <| hkL_cons up_ok <| hkL_cons rup_ok <| hkL_cons down_ok <| hkL_cons rdown_ok <|
  hkL_cons add_ok <| hkL_cons sub_ok <| hkL_cons mul_ok <| hkL_cons div_ok <| hkL_cons radd_ok <| hkL_cons rsub_ok <| hkL_cons rmul_ok <| hkL_cons rdiv_ok hkL_nil
theorem hkJ_ok : HookOK Try.prog hkJ := hkL_cons alive_ok <| hkL_cons class_ok <| hkL_cons less_ok <| hkL_cons fromint_ok <| hkL_cons toint_ok <| hkL_cons ticks_ok <| hkL_cons add_ok <| hkL_cons sub_ok <| hkL_cons mul_ok <| hkL_cons div_ok hkL_nil

theorem answers_walk (W : World) (x y : Int) (hx : KeepU x) (hy : KeepU y) :
    Calls Try.prog 3 #[.int .u64 x, .int .u64 y] W fun e w' => e = .returned (.bool true) ∧ Below W.heap.size W w' := by
  refine law (vals := [.int .u64 x, .int .u64 y]) (lh := noL) (m := 10) (args := [uS x, uS y]) mixed tab_ok hkQ_ok ?_ ⟨rfl, rfl, trivial⟩
  rw [answers_res]
  simp [hx, hy, br_tt]

theorem sum_comm (p q : Ieee.Datum) : p.sum q = q.sum p := by
  cases p <;> cases q <;> simp only [Ieee.Datum.sum]
  · rename_i s m i t n j
    rw [Int.min_comm j i, Int.add_comm (Ieee.signed t n _), Bool.and_comm t s]
  · rename_i s t
    by_cases h : s = t
    · rw [if_pos h, if_pos h.symm, h]
    · rw [if_neg h, if_neg (Ne.symm h)]
theorem product_comm (p q : Ieee.Datum) : p.product q = q.product p := by
  cases p <;> cases q <;> simp only [Ieee.Datum.product, Bool.xor_comm, Nat.mul_comm, Int.add_comm]
theorem arI_add (x y : Int) : KeepAr .add x y = KeepAr .add y x := by
  unfold KeepAr arI floatBits
  show (match ((Ieee.double.read _).sum (Ieee.double.read _)).map Ieee.double.write with | some v => (v : Int) | none => NONE) = _
  rw [sum_comm]; rfl
theorem arI_mul (x y : Int) : KeepAr .mul x y = KeepAr .mul y x := by
  unfold KeepAr arI floatBits
  show (match ((Ieee.double.read _).product (Ieee.double.read _)).map Ieee.double.write with | some v => (v : Int) | none => NONE) = _
  rw [product_comm]; rfl
theorem sums_walk (W : World) (x y : Int) (hx : KeepU x) (hy : KeepU y) :
    Calls Try.prog 4 #[.int .u64 x, .int .u64 y] W fun e w' => e = .returned (.bool true) ∧ Below W.heap.size W w' := by
  refine law (vals := [.int .u64 x, .int .u64 y]) (lh := noL) (m := 10) (args := [uS x, uS y]) mixed tab_ok hkQ_ok ?_ ⟨rfl, rfl, trivial⟩
  rw [sums_res]
  simp [hx, hy, br_tt, arI_add x y, arI_mul x y]

theorem bt_iff (b : Bool) : (S.t (T.c (SC.v (Value.bool b))) = S.t (T.c (SC.v (Value.bool true)))) ↔ b = true := by
  cases b <;> simp
theorem key_cases (x y : Int) : (KeepKy x ≤ KeepKy y ∧ (nanI x || nanI y) = false → KeepLo x y = x ∧ KeepHi x y = if KeepKy y ≤ KeepKy x then x else y) ∧ (¬ KeepKy x ≤ KeepKy y ∧ (nanI x || nanI y) = false → KeepLo x y = y ∧ KeepHi x y = x) := by
  unfold KeepLo KeepHi
  refine ⟨fun ⟨h, n⟩ => ?_, fun ⟨h, n⟩ => ?_⟩
  · rw [n]; simp [h]
  · rw [n]; simp [h]; omega
theorem order_walk (W : World) (x y : Int) (hx : KeepU x) (hy : KeepU y) :
    Calls Try.prog 6 #[.int .u64 x, .int .u64 y] W fun e w' => e = .returned (.bool true) ∧ Below W.heap.size W w' := by
  refine law (vals := [.int .u64 x, .int .u64 y]) (lh := noL) (m := 10) (args := [uS x, uS y]) mixed tab_ok hkQ_ok ?_ ⟨rfl, rfl, trivial⟩
  rw [order_res]
  obtain ⟨x0, x1⟩ := id hx
  obtain ⟨y0, y1⟩ := id hy
  have a1 : KeepUk (KeepKy x) = x := by unfold KeepUk KeepKy; (repeat' split) <;> omega
  have a2 : KeepKy (KeepUk x) = x := by unfold KeepUk KeepKy; (repeat' split) <;> omega
  have a3 : (KeepKy x = KeepKy y) ↔ x = y := by unfold KeepKy; (repeat' split) <;> omega
  have u1 : KeepU (KeepKy x) := by unfold KeepU KeepKy; split <;> omega
  have u2 : KeepU (KeepUk x) := by unfold KeepU KeepUk; split <;> omega
  have u3 : KeepU (KeepLo x y) := by unfold KeepLo; (repeat' split) <;> first | exact none_U | assumption
  have u4 : KeepU (KeepHi x y) := by unfold KeepHi; (repeat' split) <;> first | exact none_U | assumption
  have n1 : (nanI x || nanI y) = true → KeepLo x y = KeepHi x y := fun h => by unfold KeepLo KeepHi; rw [if_pos h, if_pos h]
  simp only [a1, a2, a3, u1, u2, u3, u4, hx, hy, cl_nan, decide_true, Bool.not_true, true_and, and_self, br_ff, br_tt, bt_iff]
  cases h1 : nanI x
  · cases h2 : nanI y
    · have l1 : ∀ a b, nanI a = false → nanI b = false → KeepLs a b = decide (skI a < skI b) := fun a b h h' => by unfold KeepLs; simp [h, h']
      have l2 : KeepSm x y = decide (skI x = skI y) := by unfold KeepSm; simp [h1, h2]
      have k1 : skI x < skI y → KeepKy x < KeepKy y := fun h => by unfold skI at h; unfold KeepKy; (repeat' split at h) <;> (repeat' split) <;> omega
      have k2 : KeepKy x ≤ KeepKy y → ¬ skI y < skI x := fun h => by unfold KeepKy at h; unfold skI; (repeat' split at h) <;> (repeat' split) <;> omega
      have k3 : KeepKy y ≤ KeepKy x → ¬ skI x < skI y := fun h => by unfold KeepKy at h; unfold skI; (repeat' split at h) <;> (repeat' split) <;> omega
      have hh : (KeepLo x y = x ∧ KeepHi x y = y ∧ ¬ skI y < skI x) ∨ (KeepLo x y = y ∧ KeepHi x y = x ∧ ¬ skI x < skI y) := by
        by_cases h : KeepKy x ≤ KeepKy y
        · obtain ⟨e1, e2⟩ := (key_cases x y).1 ⟨h, by rw [h1, h2]; rfl⟩
          by_cases h' : KeepKy y ≤ KeepKy x
          · have := a3.1 (by omega)
            subst this
            refine .inl ⟨e1, by rw [e2, if_pos h'], k2 h⟩
          · exact .inl ⟨e1, by rw [e2, if_neg h'], k2 h⟩
        · obtain ⟨e1, e2⟩ := (key_cases x y).2 ⟨h, by rw [h1, h2]; rfl⟩
          exact .inr ⟨e1, e2, k3 (by omega)⟩
      have t := Int.lt_trichotomy (skI x) (skI y)
      rcases hh with ⟨e1, e2, e3⟩ | ⟨e1, e2, e3⟩ <;>
      simp only [e1, e2, l1 x y h1 h2, l1 y x h2 h1, l2, br_ff, br_tt, decide_true] <;>
      (rcases t with t | t | t
       · have f2 : ¬ skI y < skI x := by omega
         have f3 : ¬ skI x = skI y := by omega
         simp [t, f2, f3, k1 t, br_ff, br_tt, br_iff]
         try omega
       · have f2 : ¬ skI y < skI x := by omega
         have f3 : ¬ skI x < skI y := by omega
         simp [t, f2, f3, br_ff, br_tt, br_iff]
         try omega
       · have f2 : ¬ skI x < skI y := by omega
         have f3 : ¬ skI x = skI y := by omega
         simp [t, f2, f3, br_ff, br_tt, br_iff]
         try omega)
    · have l1 : KeepLs x y = false := by unfold KeepLs; simp [h2]
      have l2 : KeepSm x y = false := by unfold KeepSm; simp [h2]
      simp [l1, l2, br_ff, br_tt, n1 (by rw [h1, h2]; rfl)]
  · have l1 : KeepLs x y = false := by unfold KeepLs; simp [h1]
    have l2 : KeepSm x y = false := by unfold KeepSm; simp [h1]
    simp [l1, l2, br_ff, br_tt, n1 (by rw [h1]; rfl)]

theorem steps_walk (W : World) (x y : Int) (hx : KeepU x) (hy : KeepU y) :
    Calls Try.prog 7 #[.int .u64 x, .int .u64 y] W fun e w' => e = .returned (.bool true) ∧ Below W.heap.size W w' := by
  refine law (vals := [.int .u64 x, .int .u64 y]) (lh := noL) (m := 10) (args := [uS x, uS y]) mixed tab_ok hkQ_ok ?_ ⟨rfl, rfl, trivial⟩
  rw [steps_res]
  obtain ⟨x0, x1⟩ := id hx
  obtain ⟨y0, y1⟩ := id hy
  have l1 : ∀ a b, KeepLs a b = (!nanI a && (!nanI b && decide (skI a < skI b))) := fun _ _ => rfl
  have l2 : ∀ a b, KeepSm a b = (!nanI a && (!nanI b && decide (skI a = skI b))) := fun _ _ => rfl
  have dn_U : ∀ {a}, KeepU a → KeepU (KeepDn a) := fun {a} h => by
    unfold KeepDn; split
    · exact none_U
    · exact flp_U (up_U (flp_U h))
  have nan_dn : ∀ {a}, KeepU a → nanI a = false → nanI (KeepDn a) = false := fun {a} h n => by
    unfold KeepDn
    rw [n, if_neg (by decide), nan_flp (up_U (flp_U h)), nan_up (flp_U h) (by rw [nan_flp h]; exact n)]
  have sk_flp : ∀ {a}, KeepU a → skI (flp a) = -skI a := fun {a} h => by
    obtain ⟨_, _⟩ := h
    unfold skI flp; (repeat' split) <;> omega
  have bd : ∀ {a}, KeepU a → nanI a = false → -9218868437227405312 ≤ skI a ∧ skI a ≤ 9218868437227405312 ∧ (skI a = 9218868437227405312 ↔ a = 9218868437227405312) ∧ (skI a = -9218868437227405312 ↔ a = 18442240474082181120) := fun {a} h n => by
    obtain ⟨_, _⟩ := h
    unfold nanI at n
    have n := of_decide_eq_false n
    unfold skI; split <;> omega
  have sk_up : ∀ {a}, KeepU a → nanI a = false → a ≠ 9218868437227405312 → skI (KeepUp a) = skI a + 1 := fun {a} h n e => by
    obtain ⟨_, _⟩ := h
    unfold nanI at n
    have n' := of_decide_eq_false n
    unfold KeepUp
    rw [if_neg (by unfold nanI; rw [n]; decide)]
    by_cases hz : skI a = 0
    · rw [if_pos hz, hz]; decide
    · rw [if_neg hz, if_neg e]
      unfold skI at hz ⊢
      (repeat' split) <;> (repeat' split at hz) <;> omega
  have sk_dn : ∀ {a}, KeepU a → nanI a = false → a ≠ 18442240474082181120 → skI (KeepDn a) = skI a - 1 := fun {a} h n e => by
    have nf : nanI (flp a) = false := by rw [nan_flp h]; exact n
    unfold KeepDn
    rw [n, if_neg (by decide), sk_flp (up_U (flp_U h)), sk_up (flp_U h) nf, sk_flp h]
    · omega
    · intro e'
      apply e
      have := ((bd (flp_U h) nf).2.2.1).2 e'
      rw [sk_flp h] at this
      exact ((bd h n).2.2.2).1 (by omega)
  cases h1 : nanI x
  · have b := bd hx h1
    simp only [hx, hy, up_U hx, dn_U (up_U hx), dn_U hx, up_U (dn_U hx), cl_nan, h1, true_and, and_self, br_ff, br_tt, bt_iff, l1, l2, Bool.not_false, Bool.true_and, nan_up hx h1, nan_dn hx h1, nan_dn (up_U hx) (nan_up hx h1), nan_up (dn_U hx) (nan_dn hx h1)]
    by_cases hi : x = 9218868437227405312
    · subst hi
      refine br_y (by decide) <| br_y (by decide) (by decide)
    · have s1 := sk_up hx h1 hi
      have s2 : skI (KeepDn (KeepUp x)) = skI x := by
        have bu := bd (up_U hx) (nan_up hx h1)
        rw [sk_dn (up_U hx) (nan_up hx h1) (fun e => by have := bu.2.2.2.2 e; omega), s1]; omega
      have tail : br (decide (x = 18442240474082181120)) (br (decide (KeepDn x = x)) True (br (decide (skI (KeepDn x) < skI x)) (decide (skI (KeepUp (KeepDn x)) = skI x) = true) (false = true))) (br (decide (skI (KeepDn x) < skI x)) (decide (skI (KeepUp (KeepDn x)) = skI x) = true) (false = true)) := by
        by_cases hm : x = 18442240474082181120
        · subst hm
          refine br_y (by decide) <| br_y (by decide) trivial
        · have s3 := sk_dn hx h1 hm
          have bv := bd (dn_U hx) (nan_dn hx h1)
          have s4 : skI (KeepUp (KeepDn x)) = skI x := by
            rw [sk_up (dn_U hx) (nan_dn hx h1) (fun e => by have := bv.2.2.1.2 e; omega), s3]; omega
          exact br_n (by simpa using hm) <| br_y (by simp [s3]; omega) (by simp [s4])
      simp only [s1, s2, decide_true, br_tt, show skI x < skI x + 1 from by omega]
      refine br_n (by simpa using hi) (br_in (fun c => br_y ?_ tail) fun _ => tail)
      simp at c
      simp [c.1]; omega
  · have e1 : KeepUp x = NONE := by unfold KeepUp; rw [if_pos h1]
    have e2 : KeepDn x = NONE := by unfold KeepDn; rw [if_pos h1]
    simp [hx, cl_nan, h1, e1, e2, NONE, br_tt]
end Go.Proofs.Ytjicbncikakhjaa
