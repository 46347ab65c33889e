/- Waiters: the laws. No condition. -/
import Derived.Test.YtgoigcnibjcjpaaRN2
namespace Go.Proofs.Ytgoigcnibjcjpaa
open SY
open Go.RowKit Go.Maps
set_option linter.unusedSimpArgs false
set_option linter.unusedVariables false
set_option maxRecDepth 100000

/-! Ints -/
theorem ints_law {x y : List Int} (h3 : KeepFew x) : callT Try.prog (hkL []) tab (lhL [(1, hintEqI 5 x y)]) 10 22 [slI x, slI y] (fun u => subS (bS (KeepEq x y)) u) := by
  unfold KeepFew at h3
  rw [ints_res]
  unfold KeepEq
  refine br_in (fun c => ?_) fun c => ⟨⟨⟨0⟩, ⟨Nat.zero_le _, by rw [List.take_zero, List.take_zero]⟩, ⟨rfl, trivial⟩, trivial⟩, fun z hz => br_in (fun d => ?_) fun d => ?_⟩
  · apply decide_eq_false
    intro e; subst e; simp at c
  · have d := of_decide_eq_true d
    obtain ⟨z1, z2⟩ := hz
    have hl : x.length = y.length := by simp at c; omega
    have hx : z.i < x.length := by omega
    have hy : z.i < y.length := by omega
    have ex : gI x z.i = x[z.i] := by simp [gI, hx]
    have ey : gI y z.i = y[z.i] := by simp [gI, hy]
    refine br_y (by simp; omega) <| br_y (by simp; omega) <| br_in (fun e => ?_) fun e => ?_
    · apply decide_eq_false
      intro h; subst h; simp at e
    · have e : gI x z.i = gI y z.i := by simpa using e
      rw [ex, ey] at e
      refine ⟨⟨z.i + 1⟩, ⟨hx, ?_⟩, by show x.length - (z.i + 1) < x.length - z.i; omega, ⟨i64_nat (by omega), trivial⟩, trivial⟩
      show x.take (z.i + 1) = y.take (z.i + 1)
      rw [← List.take_append_getElem hx, ← List.take_append_getElem hy, z2, e]
  · have d := of_decide_eq_false d
    obtain ⟨z1, z2⟩ := hz
    have hl : x.length = y.length := by simp at c; omega
    apply decide_eq_true
    rw [List.take_of_length_le (by omega), List.take_of_length_le (by omega)] at z2
    exact z2
theorem ints_ok : GOK Try.prog 22 (hEqV KeepEq) := by
  refine gokW mixed tab_ok hkL_nil fun vs s r hg hs => ?_
  unfold hEqV at hg
  split at hg <;> try (cases hg; done)
  rename_i a b
  simp only [Option.some.injEq, Prod.mk.injEq] at hg
  obtain ⟨rfl, rfl⟩ := hg
  exact ⟨lhL [(1, hintEqI 5 (cL a) (cL b))], 10, [slI (cL a), slI (cL b)], ⟨hs.1, hs.2.1, trivial⟩, ints_law hs.2.2⟩

/-! alive -/
theorem rtC_ok : GOK Try.prog 14 hRtC := by
  intro vs s r hg hs
  unfold hRtC at hg
  split at hg <;> try (cases hg; done)
  rename_i a
  simp only [Option.some.injEq, Prod.mk.injEq] at hg
  obtain ⟨rfl, rfl⟩ := hg
  obtain ⟨h1, h2, h3⟩ := hs
  refine right_ok [a] (subS (notV (cN a)) a ∧ KeepWs (cN a)) _ ?_ ⟨h1, h2⟩
  simp only [hRt, h3]
theorem pkC_ok : GOK Try.prog 11 hPkC := by
  intro vs s r hg hs
  unfold hPkC at hg
  split at hg <;> try (cases hg; done)
  rename_i a b c
  simp only [Option.some.injEq, Prod.mk.injEq] at hg
  obtain ⟨rfl, rfl⟩ := hg
  obtain ⟨h1, h2, h3, h4, h5, h6, h7⟩ := hs
  refine park_ok [a, b, c] (subS (notV (cN a)) a ∧ subS (uS (cI b)) b ∧ subS (iS (cI c)) c ∧ KeepWs (cN a) ∧ KeepU (cI b) ∧ KeepI (cI c)) _ ?_ ⟨h1, h2, h3, h4, h5, h6⟩
  simp only [hPark, KeepPn, KeepPe, h7]
theorem okC_ok : GOK Try.prog 18 hOkC := by
  intro vs s r hg hs
  unfold hOkC at hg
  split at hg <;> try (cases hg; done)
  rename_i a
  simp only [Option.some.injEq, Prod.mk.injEq] at hg
  obtain ⟨rfl, rfl⟩ := hg
  obtain ⟨h1, h2, h3⟩ := hs
  refine one_ok [a] (subS (notV (cN a)) a ∧ KeepWs (cN a)) _ ?_ ⟨h1, h2⟩
  simp only [hOne, KeepOn, KeepOt, KeepOe, h3]
theorem akC_ok : GOK Try.prog 20 hAkC := by
  intro vs s r hg hs
  unfold hAkC at hg
  split at hg <;> try (cases hg; done)
  rename_i a
  simp only [Option.some.injEq, Prod.mk.injEq] at hg
  obtain ⟨rfl, rfl⟩ := hg
  obtain ⟨h1, h2, h3⟩ := hs
  refine all_ok [a] (subS (notV (cN a)) a ∧ KeepWs (cN a)) _ ?_ ⟨h1, h2⟩
  simp only [hAll, KeepAn, KeepAl, KeepAe, h3]
theorem ws_nil {a b : Int} (ha : 0 ≤ a ∧ a < 4294967296) (hb : 0 ≤ b ∧ b < 4294967296) : KeepWs ⟨a, b, []⟩ := ⟨ha, hb, by simp, by simp, fun k hk => by simp at hk⟩
theorem ws_one {a b t s : Int} (ha : 0 ≤ a ∧ a < 4294967296) (hb : 0 ≤ b ∧ b < 4294967296) (ht : 0 ≤ t ∧ t < 4294967296) (hs : -9223372036854775808 ≤ s ∧ s < 9223372036854775808) : KeepWs ⟨a, b, [t, s]⟩ :=
  ⟨ha, hb, by simp, by simp, fun k hk => by
    have hk : k < 1 := by simpa using hk
    obtain rfl : k = 0 := by omega
    exact ⟨ht, hs⟩⟩
theorem alive_ok : GOK Try.prog 7 hAlive := by
  refine gok mixed tab_ok (hk := hkAl) (hkL_cons rtC_ok (hkL_cons pkC_ok (hkL_cons okC_ok (hkL_cons akC_ok hkL_nil)))) fun vs s r hg hs => ?_
  unfold hAlive at hg
  split at hg <;> try (cases hg; done)
  simp only [Option.some.injEq, Prod.mk.injEq] at hg
  obtain ⟨rfl, rfl⟩ := hg
  refine ⟨noL, 10, ?_⟩
  show callT Try.prog _ tab noL 10 _ [] tru
  rw [alive_res 0]
  have r1 : KeepRtC ⟨4294967295, 4294967295, []⟩ := ⟨ws_nil (by decide) (by decide), by decide⟩
  have r2 : KeepRtC ⟨0, 4294967295, []⟩ := ⟨ws_nil (by decide) (by decide), by decide⟩
  have r3 : KeepRtC ⟨1, 4294967295, [0, 5]⟩ := ⟨ws_one (by decide) (by decide) (by decide) (by decide), by decide⟩
  have r4 : KeepRtC ⟨1001, 0, []⟩ := ⟨ws_nil (by decide) (by decide), by decide⟩
  have p1 : KeepPkC ⟨1, 4294967295, []⟩ 0 5 := ⟨ws_nil (by decide) (by decide), by unfold KeepU; decide, by unfold KeepI; decide, by rfl⟩
  have p2 : KeepPkC ⟨1, 0, [0, 5]⟩ 4294967295 6 := ⟨ws_one (by decide) (by decide) (by decide) (by decide), by unfold KeepU; decide, by unfold KeepI; decide, by rfl⟩
  have o1 : KeepOkC ⟨1, 4294967295, [0, 5]⟩ := ⟨ws_one (by decide) (by decide) (by decide) (by decide), by rfl⟩
  have o2 : KeepOkC ⟨1, 0, [0, 5]⟩ := ⟨ws_one (by decide) (by decide) (by decide) (by decide), by rfl⟩
  have o3 : KeepOkC ⟨1, 1, []⟩ := ⟨ws_nil (by decide) (by decide), by rfl⟩
  have a1 : KeepAkC ⟨1, 4294967295, [0, 5]⟩ := ⟨ws_one (by decide) (by decide) (by decide) (by decide), by rfl⟩
  simp only [r1, r2, r3, r4, p1, p2, o1, o2, o3, a1, and_self]
theorem hkNs_ok : HookOK Try.prog (hkNs KeepRn KeepPn KeepPe KeepOn KeepOt KeepOe KeepAn KeepAl KeepAe KeepEq KeepSe) :=
  hkL_cons alive_ok <| hkL_cons right_ok <| hkL_cons rright_ok <| hkL_cons park_ok <| hkL_cons rpark_ok <| hkL_cons one_ok <| hkL_cons rone_ok <| hkL_cons all_ok <| hkL_cons rall_ok <| hkL_cons ints_ok <| hkL_cons same_ok hkL_nil

/-! The laws -/
theorem cN_eq (a b : Int) (l : List Int) : cN (S.t (T.agg [SC.v (Value.int IntKind.u32 a), SC.v (Value.int IntKind.u32 b), SC.sl [CK.int IntKind.u32, CK.int IntKind.i64] l none])) = ⟨a, b, l⟩ := rfl
theorem cI_u (a : Int) : cI (S.t (T.c (SC.v (Value.int IntKind.u32 a)))) = a := rfl
theorem cI_i (a : Int) : cI (S.t (T.c (SC.v (Value.int IntKind.i64 a)))) = a := rfl
theorem cL_eq (l : List Int) : cL (S.t (T.c (SC.sl [CK.int IntKind.i64] l none))) = l := rfl
theorem nf_eta (n : NF) : NF.mk n.1 n.2 n.3 = n := rfl
theorem se_refl (n : NF) : KeepSe n n = true := by simp [KeepSe]
theorem eq_refl' (l : List Int) : KeepEq l l = true := by simp [KeepEq]
theorem ns_pn {n : NF} (h : KeepWs n) (h' : n.ns.length / 2 ≤ 30) (t s : Int) : KeepNs (KeepPn n t s) := by
  obtain ⟨_, _, he, _⟩ := h
  have : KeepNs n := ⟨by omega, he⟩
  unfold KeepPn KeepPk
  split; · exact this
  split; · exact this
  split; · exact this
  split; · exact this
  split; · exact this
  exact ⟨by show (n.ns ++ [t, s]).length ≤ _; simp; omega, by show (n.ns ++ [t, s]).length % 2 = 0; simp; omega⟩
theorem ns_on {n : NF} (h : KeepWs n) (h' : n.ns.length / 2 ≤ 30) : KeepNs (KeepOn n) := by
  obtain ⟨_, _, he, _⟩ := h
  have : KeepNs n := ⟨by omega, he⟩
  unfold KeepOn KeepOk
  split; · exact this
  split; · exact this
  split
  · rename_i c
    obtain ⟨_, i2, _⟩ := ixF_in _ _ c
    have i2 : (KeepIx n.ns n.td).toNat < 0 + n.ns.length / 2 := i2
    refine ⟨?_, ?_⟩
    · show (_ ++ _ : List Int).length ≤ _
      simp only [List.length_append, List.length_take, List.length_drop]; omega
    · show (_ ++ _ : List Int).length % 2 = 0
      simp only [List.length_append, List.length_take, List.length_drop]; omega
  · exact this
theorem ns_an {n : NF} (h : KeepWs n) (h' : n.ns.length / 2 ≤ 30) : KeepNs (KeepAn n) := by
  obtain ⟨_, _, he, _⟩ := h
  have : KeepNs n := ⟨by omega, he⟩
  unfold KeepAn KeepAk
  split
  · exact this
  · exact ⟨Nat.zero_le _, rfl⟩
theorem few_al {n : NF} (h' : n.ns.length / 2 ≤ 30) : KeepFew (KeepAl n) := by
  unfold KeepAl KeepAk
  split
  · show ([] : List Int).length < _; simp
  · show (KeepTs _ _).length < _; rw [ts_len]; omega
theorem tells_law {n : NF} (h : n.ns.length % 2 = 0) (hw : n.ns.length / 2 ≤ 30 → KeepWs n) : callT Try.prog (hkNs KeepRn KeepPn KeepPe KeepOn KeepOt KeepOe KeepAn KeepAl KeepAe KeepEq KeepSe) tab noL 10 4 [notV n] tru := by
  rw [ntel_res]
  simp only [cN_eq, cI_u, cI_i, cL_eq, nf_eta, List.nil_append, Nat.zero_add, se_refl, eq_refl', decide_true, br_tt, and_true, true_and]
  refine br_in (fun c => trivial) fun c => ?_
  have c : ¬ ((n.ns.length / 2 : Nat) : Int) > 30 := of_decide_eq_false c
  have h30 : n.ns.length / 2 ≤ 30 := by omega
  have w := hw h30
  refine br_y (ble_of (by omega)) ?_
  have n1 : KeepNs n := ⟨by omega, h⟩
  simp only [w, n1, ns_on w h30, ns_an w h30, few_al h30, and_self, true_and, and_true]
theorem told_eq {t td : Int} (ht : 0 ≤ t ∧ t < 4294967296) (hd : 0 ≤ td ∧ td < 4294967296) : decide (IntKind.i32.wrap ((t - td) % 4294967296) < 0) = decide ((t - td) % 4294967296 ≥ 2147483648) := by
  congr 1
  rw [IntKind.wrap_i32]
  apply propext
  omega
theorem answers_law {n : NF} {t s : Int} (h : n.ns.length % 2 = 0) (hw : n.ns.length / 2 ≤ 30 → KeepWs n) (hwt : KeepU n.wt) (htd : KeepU n.td) (ht : KeepU t) (hs : KeepI s) : callT Try.prog (hkNs KeepRn KeepPn KeepPe KeepOn KeepOt KeepOe KeepAn KeepAl KeepAe KeepEq KeepSe) tab noL 10 3 [notV n, uS t, iS s] tru := by
  rw [nans_res]
  simp only [cN_eq, cI_u, cI_i, cL_eq, nf_eta, List.nil_append, Nat.zero_add, se_refl, eq_refl', decide_true, br_tt, and_true, true_and]
  refine br_in (fun c => trivial) fun c => ?_
  have c : ¬ ((n.ns.length / 2 : Nat) : Int) > 30 := of_decide_eq_false c
  have h30 : n.ns.length / 2 ≤ 30 := by omega
  have w := hw h30
  refine br_y (ble_of (by omega)) ?_
  have n1 : KeepNs n := ⟨by omega, h⟩
  have n2 := ns_pn w h30 t s
  have n3 : ∀ x, KeepNs ⟨x, n.td, n.ns⟩ := fun _ => n1
  rw [far_eq hwt htd, far_eq ht htd]
  simp only [IntKind.wrap_u32, told_eq ht htd]
  cases hr : KeepRn n <;> by_cases h1 : (n.wt - n.td) % 4294967296 = 1000 <;> simp [w, n1, n2, n3, ht, hs, hr, h1, br_tt, br_ff, se_refl]
end Go.Proofs.Ytgoigcnibjcjpaa
