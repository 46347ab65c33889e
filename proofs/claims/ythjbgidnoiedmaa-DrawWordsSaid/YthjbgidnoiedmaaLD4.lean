/- Many words are the first ones, and those behind them. No condition. -/
import Derived.Test.YthjbgidnoiedmaaRD4
namespace Go.Proofs.Ythjbgidnoiedmaa
open SY
open Go.RowKit
set_option linter.unusedSimpArgs false
set_option linter.unusedVariables false

theorem words_ok : GOK Try.prog 14 (hWordsV KeepEq) := by
  refine gokW mixed tab_ok hkL_nil fun vs s r hg hs => ?_
  unfold hWordsV at hg
  split at hg <;> try (cases hg; done)
  rename_i a b
  simp only [Option.some.injEq, Prod.mk.injEq] at hg
  obtain ⟨rfl, rfl⟩ := hg
  obtain ⟨h1, h2, h3⟩ := hs
  refine ⟨lhL [(1, hintWords (cL a) (cL b))], 10, [slU (cL a), slU (cL b)], ⟨h1, h2, trivial⟩, ?_⟩
  generalize cL a = x at *
  generalize cL b = y at *
  unfold KeepFew at h3
  rw [words_res]
  unfold KeepEq
  refine br_in (fun c => ?_) fun c => ⟨⟨⟨0⟩, ⟨Nat.zero_le _, by rw [List.take_zero, List.take_zero]⟩, ⟨rfl, trivial⟩, trivial⟩, fun z hz => br_in (fun d => ?_) fun d => ?_⟩
  · apply decide_eq_false
    intro e; subst e; simp at c
  · have d := of_decide_eq_true d
    obtain ⟨z1, z2⟩ := hz
    have hl : x.length = y.length := by simp at c; omega
    have hx : z.i < x.length := by omega
    have hy : z.i < y.length := by omega
    have ex : gI x z.i = x[z.i] := by simp [gI, hx]
    have ey : gI y z.i = y[z.i] := by simp [gI, hy]
    have e1 : (z.i : Int).toNat = z.i := rfl
    refine br_y (by simp; omega) <| br_y (by simp; omega) <| br_in (fun e => ?_) fun e => ?_
    · apply decide_eq_false
      intro h; subst h; simp at e
    · have e : gI x z.i = gI y z.i := by simpa using e
      rw [ex, ey] at e
      refine ⟨⟨z.i + 1⟩, ⟨hx, ?_⟩, by show x.length - (z.i + 1) < x.length - z.i; omega, ⟨i64_nat (by omega), trivial⟩, trivial⟩
      show x.take (z.i + 1) = y.take (z.i + 1)
      rw [← List.take_append_getElem hx, ← List.take_append_getElem hy, z2, e]
  · have d := of_decide_eq_false d
    obtain ⟨z1, z2⟩ := hz
    have hl : x.length = y.length := by simp at c; omega
    apply decide_eq_true
    rw [List.take_of_length_le (by omega), List.take_of_length_le (by omega)] at z2
    exact z2
theorem many_okV : GOK Try.prog 12 (hManyV KeepMl KeepMt) := many_ok
theorem hkM_ok : HookOK Try.prog (hkM KeepMl KeepMt KeepBk KeepEq) := hkL_cons alive_ok <| hkL_cons many_okV <| hkL_cons back_ok <| hkL_cons words_ok hkL_nil
theorem st_add (s : Int) (a b : Nat) : stI (stI s a) b = stI s (a + b) := by
  induction b with
  | zero => rfl
  | succ b ih => show KeepNx (stI (stI s a) b) = KeepNx (stI s (a + b)); rw [ih]
theorem wl_add (s : Int) (a b : Nat) : wlI s (a + b) = wlI s a ++ wlI (stI s a) b := by
  induction b with
  | zero => show wlI s a = wlI s a ++ []; rw [List.append_nil]
  | succ b ih =>
    show wlI s (a + b) ++ [KeepWd (KeepNx (stI s (a + b)))] = wlI s a ++ (wlI (stI s a) b ++ [KeepWd (KeepNx (stI (stI s a) b))])
    rw [ih, st_add, List.append_assoc]
theorem cnt_nat {n : Nat} (h : n ≤ 1000) : cntI (n : Int) = n := by unfold cntI; rw [if_neg (by omega)]; rfl
theorem many_walk (W : World) (s a b : Int) (hs : KeepU s) (ha : 0 ≤ a ∧ a ≤ 255) (hb : 0 ≤ b ∧ b ≤ 255) :
    Calls Try.prog 7 #[.int .u64 s, .agg #[.int .u8 a, .int .u8 b]] W fun e w' => e = .returned (.bool true) ∧ Below W.heap.size W w' := by
  obtain ⟨A, rfl⟩ := Int.eq_ofNat_of_zero_le ha.1
  obtain ⟨B, rfl⟩ := Int.eq_ofNat_of_zero_le hb.1
  have hA : A ≤ 255 := by omega
  have hB : B ≤ 255 := by omega
  refine law (vals := [.int .u64 s, .agg #[.int .u8 A, .int .u8 B]]) (lh := lhL [(1, hintB (fun i => KeepSt s (A - i)) A)]) (m := 10) (args := [uS s, aS A B]) mixed tab_ok hkM_ok ?_ ⟨rfl, ⟨_, rfl, rfl, rfl, trivial⟩, trivial⟩
  rw [manyl_res]
  have c1 : ∀ x, cI (S.t (T.c (SC.v (Value.int IntKind.u64 x)))) = x := fun _ => rfl
  have c2 : ∀ x, cI (S.t (T.c (SC.v (Value.int IntKind.i64 x)))) = x := fun _ => rfl
  have c3 : ∀ l, cL (S.t (T.c (SC.sl [CK.int IntKind.u64] l none))) = l := fun _ => rfl
  have w1 : IntKind.i64.wrap (A : Int) = A := by rw [IntKind.wrap_i64]; omega
  have w2 : IntKind.i64.wrap (B : Int) = B := by rw [IntKind.wrap_i64]; omega
  have w3 : IntKind.i64.wrap ((A : Int) + B) = ((A + B : Nat) : Int) := by rw [IntKind.wrap_i64]; omega
  simp only [c1, c2, c3, w1, w2, w3]
  have m1 : KeepMt s A = KeepSt s A := by unfold KeepMt KeepSt; rw [cnt_nat (by omega)]
  have m2 : KeepMt (KeepSt s A) B = KeepMt s (A + B : Nat) := by unfold KeepMt KeepSt; rw [cnt_nat (by omega), cnt_nat (by omega), st_add]
  have m3 : KeepMl s A = KeepWl s A := by unfold KeepMl KeepWl; rw [cnt_nat (by omega)]
  have m4 : KeepMl s (A + B : Nat) = KeepWl s (A + B) := by unfold KeepMl KeepWl; rw [cnt_nat (by omega)]
  have m5 : KeepMl (KeepSt s A) B = KeepWl (KeepSt s A) B := by unfold KeepMl KeepWl; rw [cnt_nat (by omega)]
  have m6 : KeepWl s (A + B) = KeepWl s A ++ KeepWl (KeepSt s A) B := wl_add s A B
  have u1 := st_U hs A
  rw [m1]
  simp only [m2, m3, m4, m5, wl_len]
  have q1 : KeepEq (KeepWl s (A + B)) ([] ++ KeepWl s A ++ KeepWl (KeepSt s A) B) = true := by
    unfold KeepEq; apply decide_eq_true; rw [m6]; simp
  have f1 : KeepFew (KeepWl s (A + B)) := by unfold KeepFew; rw [wl_len]; omega
  refine ⟨trivial, ⟨trivial, trivial, hs⟩, ⟨trivial, trivial, u1⟩, ⟨trivial, trivial, hs⟩, br_n (by simp) <| br_n (by simp) <| br_n (by simp) ⟨⟨⟨0⟩, by show ((0 : Nat) : Int) ≤ A; omega, ⟨rfl, rfl, trivial⟩, trivial⟩, fun z hz => br_in (fun d => ?_) fun d => ?_⟩⟩
  · have d := of_decide_eq_true d
    refine ⟨⟨trivial, st_U hs _⟩, ⟨z.i + 1⟩, by show ((z.i + 1 : Nat) : Int) ≤ A; omega, by show 255 - (z.i + 1) < 255 - z.i; omega, ⟨?_, i64_nat (by omega), trivial⟩, trivial⟩
    show KeepSt s (A - (z.i + 1)) = KeepBk (KeepSt s (A - z.i))
    rw [show A - z.i = A - (z.i + 1) + 1 by omega]
    exact (bk_nx (st_U hs (A - (z.i + 1)))).symm
  · have d := of_decide_eq_false d
    have hz : (z.i : Int) ≤ A := hz
    have e : A - z.i = 0 := by omega
    refine br_y (by rw [e]; apply decide_eq_true; rfl) <| br_y (by simp; omega) <| br_y (by simp [wl_len]; omega) ⟨⟨trivial, trivial, f1⟩, ?_⟩
    rw [q1]
theorem arr2u_open {H : Type} {enc : TypeId × Value → H} {P : Program} {W : World} {t : TypeId} {v : Value} {d : DataW H} {p : List MemPlace} (hag : ∃ cs, v = .agg cs) (hs : shapeT P 20 t = some [.int .u8, .int .u8])
    (h : DataW.Trod enc P W 0 (fun _ => true) true t v d p) : ∃ a b, v = .agg #[.int .u8 a, .int .u8 b] ∧ (0 ≤ a ∧ a ≤ 255) ∧ (0 ≤ b ∧ b ≤ 255) := by
  obtain ⟨cs, rfl⟩ := hag
  have hsh := trod_leafs hs h
  obtain ⟨l⟩ := cs
  simp only [Value.cells] at hsh
  obtain ⟨_, l, rfl, ⟨a, rfl, ha⟩, q0⟩ := hsh.cons_left
  obtain ⟨_, l, rfl, ⟨b, rfl, hb⟩, q1⟩ := q0.cons_left
  obtain rfl := q1.nil_left
  exact ⟨a, b, rfl, in_u8 ha, in_u8 hb⟩

end Go.Proofs.Ythjbgidnoiedmaa
