/- Programs: what is alive, and the laws. No condition. -/
import Derived.Test.YtlckkciicchneaaRK11
import Derived.Test.YtlckkciicchneaaSyU
section
namespace Go.Proofs.Ytlckkciicchneaa
open SY
open Go.RowKit
set_option linter.unusedSimpArgs false
set_option linter.unusedVariables false
set_option maxRecDepth 100000
theorem rdC_ok : GOK Try.prog 17 hRdC := by
  intro vs s r hg hs
  unfold hRdC at hg
  split at hg <;> try (cases hg; done)
  rename_i x y
  simp only [Option.some.injEq, Prod.mk.injEq] at hg
  obtain ⟨rfl, rfl⟩ := hg
  obtain ⟨h1, h2, h3, h4, h5⟩ := hs
  refine read_ok [x, y] (subS (slB (cL x)) x ∧ subS (iS (cI y)) y ∧ V.KeepFew (cL x) ∧ V.KeepBy (cL x)) _ ?_ ⟨h1, h2, h3, h4⟩
  simp only [hRd, h5]
theorem apC_ok : GOK Try.prog 9 hApC := by
  intro vs s r hg hs
  unfold hApC at hg
  split at hg <;> try (cases hg; done)
  rename_i a b
  simp only [Option.some.injEq, Prod.mk.injEq] at hg
  obtain ⟨rfl, rfl⟩ := hg
  obtain ⟨h1, h2, h3, h4, h5⟩ := hs
  refine append_ok [a, b] (subS (slB (cL a)) a ∧ subS (prgV (cP b)) b ∧ (cL a).length ≤ 10000 ∧ KeepPs (cP b)) _ ?_ ⟨h1, h2, h3, h4⟩
  have e1 := congrArg Prod.fst h5
  have e2 := congrArg Prod.snd h5
  simp only at e1 e2
  simp only [hAp, e1, e2]
theorem rtC_ok : GOK Try.prog 13 hRtC := by
  intro vs s r hg hs
  unfold hRtC at hg
  split at hg <;> try (cases hg; done)
  rename_i a
  simp only [Option.some.injEq, Prod.mk.injEq] at hg
  obtain ⟨rfl, rfl⟩ := hg
  obtain ⟨h1, h2, h3, h4⟩ := hs
  refine right_ok [a] (subS (prgV (cP a)) a ∧ (cP a).ks.length < 1000000 ∧ (cP a).cd.length < 1000000) _ ?_ ⟨h1, h2, h3⟩
  simp only [hPr, h4]
theorem inC_ok : GOK Try.prog 11 hInC := by
  intro vs s r hg hs
  unfold hInC at hg
  split at hg <;> try (cases hg; done)
  rename_i a b
  simp only [Option.some.injEq, Prod.mk.injEq] at hg
  obtain ⟨rfl, rfl⟩ := hg
  obtain ⟨h1, h2, h3⟩ := hs
  refine ins_ok [a, b] (subS (prgV (cP a)) a ∧ subS (iS (cI b)) b) _ ?_ ⟨h1, h2⟩
  have h3 : KeepIns (cP a) (cI b) = rtC (cP a) := h3
  simp only [hIns, h3]
theorem smC_ok : GOK Try.prog 15 hSmC := by
  intro vs s r hg hs
  unfold hSmC at hg
  split at hg <;> try (cases hg; done)
  rename_i a b
  simp only [Option.some.injEq, Prod.mk.injEq] at hg
  obtain ⟨rfl, rfl⟩ := hg
  obtain ⟨h1, h2, h3, h4, h5⟩ := hs
  refine same_ok [a, b] (subS (prgV (cP a)) a ∧ subS (prgV (cP b)) b ∧ KeepPf (cP a) ∧ KeepPf (cP b)) _ ?_ ⟨h1, h2, h3, h4⟩
  simp only [hSm, h5]
theorem all_rng {l : List Int} {f : Int → Prop} (h : ∀ x, x ∈ l → f x) : ∀ k, k < l.length → f (gI l k) := fun k hk => by
  have : gI l k = l[k] := by simp [gI, hk]
  rw [this]; exact h _ (List.getElem_mem hk)
theorem by_of {l : List Int} (h : ∀ x, x ∈ l → 0 ≤ x ∧ x ≤ 255) : V.KeepBy l := all_rng h
theorem rd_a : KeepRdC bA 0 := ⟨by unfold V.KeepFew; decide, by_of (by decide), by kernel_rfl⟩
theorem rd_b : KeepRdC [122] 0 := ⟨by unfold V.KeepFew; decide, by_of (by decide), by kernel_rfl⟩
theorem rd_c : KeepRdC [2, 0, 0, 0, 0, 0, 0, 0, 0] 0 := ⟨by unfold V.KeepFew; decide, by_of (by decide), by kernel_rfl⟩
theorem ps_a : KeepPs pA := ⟨by decide, by decide, by decide, by decide, all_rng (by unfold V.KeepI; decide), all_rng (by unfold V.KeepI; decide), all_rng (by unfold V.KeepI; decide), by unfold V.KeepI; decide, by unfold V.KeepI; decide, by unfold V.KeepI; decide⟩
theorem ps_z : KeepPs ⟨[0, 0, 0, 0], [], [], 0, 0, 1⟩ := ⟨by decide, by decide, by decide, by decide, all_rng (by unfold V.KeepI; decide), all_rng (by unfold V.KeepI; decide), all_rng (by unfold V.KeepI; decide), by unfold V.KeepI; decide, by unfold V.KeepI; decide, by unfold V.KeepI; decide⟩
theorem ap_a : KeepApC [] pA := ⟨by decide, ps_a, by kernel_rfl⟩
theorem ap_b : KeepApC [7] ⟨[0, 0, 0, 0], [], [], 0, 0, 1⟩ := ⟨by decide, ps_z, by kernel_rfl⟩
theorem rt_a : KeepRtC pA := ⟨by decide, by decide, by kernel_rfl⟩
theorem rt_b : KeepRtC ⟨[26, 0, 0, 0, 1, 3, -7, 0, 39, 1, 3, 0, 7, 2, 4, 0, 0, 0, 0, 0], [1, 3], [0, 9], 2, 5, 20⟩ := ⟨by decide, by decide, by kernel_rfl⟩
theorem in_a : KeepInC pA 2 := show KeepIns pA 2 = rtC pA by kernel_rfl
theorem in_b : KeepInC ⟨[26, 0, 0, 0, 1, 3, -7, 0, 39, 1, 3, 0, 7, 2, 4, 0, 0, 0, 0, 0], [1, 3], [0, 9], 2, 5, 20⟩ 2 := show KeepIns _ 2 = rtC _ by kernel_rfl
theorem sm_a : KeepSmC pA pA := ⟨⟨⟨by decide, by decide⟩, by unfold KeepFew; decide, by unfold KeepFew; decide⟩, ⟨⟨by decide, by decide⟩, by unfold KeepFew; decide, by unfold KeepFew; decide⟩, by kernel_rfl⟩
theorem alive_ok : GOK Try.prog 7 hAlive := by
  refine gok mixed tab_ok (hk := hkAl) (hkL_cons apC_ok (hkL_cons rdC_ok (hkL_cons rtC_ok (hkL_cons inC_ok (hkL_cons smC_ok hkL_nil))))) fun vs s r hg hs => ?_
  unfold hAlive at hg
  split at hg <;> try (cases hg; done)
  simp only [Option.some.injEq, Prod.mk.injEq] at hg
  obtain ⟨rfl, rfl⟩ := hg
  refine ⟨noL, 10, ?_⟩
  show callT Try.prog _ tab noL 10 _ [] tru
  rw [alive_res 0]
  have e1 := rd_a
  have e2 := rd_b
  have e3 := rd_c
  have e4 := ap_a
  have e5 := ap_b
  have e6 := rt_a
  have e7 := rt_b
  have e8 := in_a
  have e9 := in_b
  have e0 := sm_a
  unfold pA at *
  unfold bA at *
  simp only [e1, e2, e3, e4, e5, e6, e7, e8, e9, e0, and_self]
theorem hkC_ok : HookOK Try.prog (hkC KeepAr KeepAe KeepRd KeepRt KeepIns KeepSm) :=
  hkL_cons alive_ok <| hkL_cons append_ok <| hkL_cons read_ok <| hkL_cons right_ok <| hkL_cons ins_ok <| hkL_cons same_ok <| hkL_cons rappend_ok <| hkL_cons rread_ok <| hkL_cons rright_ok <| hkL_cons rins_ok <| hkL_cons rsame_ok hkL_nil
theorem str_refl (l : List Int) : strEq l l = true := by rw [strEq_eq]; simp
theorem eq_refl' (l : List Int) : KeepEq l l = true := by simp [KeepEq]
theorem sm_refl (p : PF) : KeepSm p p = true := by simp [KeepSm, eq_refl']
/-- Numbers of a program, in their ranges; whole instructions. -/
def KeepRg (p : PF) : Prop := p.cd.length % 4 = 0 ∧ (∀ k, k < p.cd.length → V.KeepI (gI p.cd k)) ∧ (∀ k, k < p.ks.length → V.KeepI (gI p.ks k)) ∧ (∀ k, k < p.sz.length → V.KeepI (gI p.sz k)) ∧ V.KeepI p.cl ∧ V.KeepI p.rc ∧ V.KeepI p.pt
theorem rg_ps {p : PF} (h : KeepRg p) (h1 : ¬ ((p.cd.length / 4 : Nat) : Int) > 61) (h2 : ¬ (p.ks.length : Int) > 20) (h3 : ¬ (p.sz.length : Int) > 20) : KeepPs p ∧ KeepPf p := by
  obtain ⟨a, b, c, d, e, f, g⟩ := h
  exact ⟨⟨a, by omega, by omega, by omega, b, c, d, e, f, g⟩, ⟨by omega, a⟩, by unfold KeepFew; omega, by unfold KeepFew; omega⟩
theorem answers_law {p q : PF} {i : Int} (hp : KeepRg p) (hq : KeepRg q) : callT Try.prog (hkC KeepAr KeepAe KeepRd KeepRt KeepIns KeepSm) tab noL 10 3 [prgV p, prgV q, iS i] tru := by
  rw [kans_res]
  simp only [cP_eq, cI_i, cLB, cL1, pf_eta, sm_refl, beq_self_eq_true, br_tt, and_true, true_and]
  refine br_in (fun c => trivial) fun c1 => br_in (fun c => trivial) fun c2 => br_in (fun c => trivial) fun c3 => br_in (fun c => trivial) fun c4 => br_in (fun c => trivial) fun c5 => br_in (fun c => trivial) fun c6 => ?_
  obtain ⟨p1, p2⟩ := rg_ps hp (of_decide_eq_false c1) (of_decide_eq_false c2) (of_decide_eq_false c3)
  obtain ⟨q1, q2⟩ := rg_ps hq (of_decide_eq_false c4) (of_decide_eq_false c5) (of_decide_eq_false c6)
  have l1 := p1.2.1
  have l2 := p1.2.2.1
  simp [p1, p2, q2, str_refl, br_tt, l1, l2]
theorem rd_pf (b : List Int) (a : Int) : KeepPf (KeepRd b a).1 := by
  have z : KeepPf zPF := ⟨⟨by decide, by decide⟩, by unfold KeepFew; decide, by unfold KeepFew; decide⟩
  have l1 := cl_len (b := b) (a := a) (m := 60) (n := 4) (by decide) (by decide) (by decide)
  have l2 := cl_len (b := b) (a := KeepCc b a 60 4) (m := 8) (n := 2) (by decide) (by decide) (by decide)
  unfold KeepRd
  split; · exact z
  split; · exact z
  split; · exact z
  split; · exact z
  simp only
  split
  · exact z
  · refine ⟨⟨?_, ?_⟩, ?_, ?_⟩
    · show (List.take _ _).length < _; rw [List.length_take]; omega
    · show (List.take _ _).length % 4 = 0; rw [List.length_take]; omega
    · unfold KeepFew; show (KeepEv _ _).length < _; rw [ev_len]; omega
    · unfold KeepFew; show (KeepOdd _ _).length < _; rw [odd_len]; omega
theorem reads_law {b : List Int} {a : Int} (hb : V.KeepBy b) : callT Try.prog (hkC KeepAr KeepAe KeepRd KeepRt KeepIns KeepSm) tab noL 10 4 [slB b, iS a] tru := by
  rw [krd_res]
  simp only [cP_eq, cI_i, cLB, cL1, pf_eta, sm_refl, beq_self_eq_true, br_tt, and_true, true_and, decide_true]
  refine br_in (fun c => trivial) fun c => ?_
  have c := of_decide_eq_false c
  have k1 : V.KeepFew b := by unfold V.KeepFew; omega
  exact ⟨⟨k1, hb⟩, ⟨k1, hb⟩, rd_pf b a, rd_pf b a⟩
theorem op_facts {p : PF} {o a b c : Int} (h : KeepOpI p o a b c = true) : 0 ≤ o ∧ o ≤ 41 ∧ ((o = 6 ∨ o = 23) → 0 ≤ a ∧ a < ((p.cd.length / 4 : Nat) : Int)) ∧ ((o = 7 ∨ o = 22) → 0 ≤ b ∧ b < ((p.cd.length / 4 : Nat) : Int)) ∧ ((o = 0 ∨ o = 24) → b = 0 ∧ c = 0) ∧
    (26 ≤ o ∧ o ≤ 40 → 0 ≤ a ∧ a < (p.ks.length : Int)) ∧ ((o = 6 ∨ o = 23 ∨ o = 7 ∨ o = 22 ∨ o = 0 ∨ o = 24 ∨ 26 ≤ o ∧ o ≤ 40) ∨ 0 ≤ a ∧ a < 4) := by
  by_cases e0 : o = 0
  · subst e0; simp [KeepOpI, KeepSh, KeepFit] at h; refine ⟨by omega, by omega, ?_, ?_, ?_, ?_, ?_⟩ <;> omega
  by_cases e1 : o = 1
  · subst e1; simp [KeepOpI, KeepSh, KeepFit] at h; refine ⟨by omega, by omega, ?_, ?_, ?_, ?_, ?_⟩ <;> omega
  by_cases e2 : o = 2
  · subst e2; simp [KeepOpI, KeepSh, KeepFit] at h; refine ⟨by omega, by omega, ?_, ?_, ?_, ?_, ?_⟩ <;> omega
  by_cases e3 : o = 3
  · subst e3; simp [KeepOpI, KeepSh, KeepFit] at h; refine ⟨by omega, by omega, ?_, ?_, ?_, ?_, ?_⟩ <;> omega
  by_cases e4 : o = 4
  · subst e4; simp [KeepOpI, KeepSh, KeepFit] at h; refine ⟨by omega, by omega, ?_, ?_, ?_, ?_, ?_⟩ <;> omega
  by_cases e5 : o = 5
  · subst e5; simp [KeepOpI, KeepSh, KeepFit] at h; refine ⟨by omega, by omega, ?_, ?_, ?_, ?_, ?_⟩ <;> omega
  by_cases e6 : o = 6
  · subst e6; simp [KeepOpI, KeepSh, KeepFit] at h; refine ⟨by omega, by omega, ?_, ?_, ?_, ?_, ?_⟩ <;> omega
  by_cases e7 : o = 7
  · subst e7; simp [KeepOpI, KeepSh, KeepFit] at h; refine ⟨by omega, by omega, ?_, ?_, ?_, ?_, ?_⟩ <;> omega
  by_cases e8 : o = 8
  · subst e8; simp [KeepOpI, KeepSh, KeepFit] at h; refine ⟨by omega, by omega, ?_, ?_, ?_, ?_, ?_⟩ <;> omega
  by_cases e9 : o = 9
  · subst e9; simp [KeepOpI, KeepSh, KeepFit] at h; refine ⟨by omega, by omega, ?_, ?_, ?_, ?_, ?_⟩ <;> omega
  by_cases e10 : o = 10
  · subst e10; simp [KeepOpI, KeepSh, KeepFit] at h; refine ⟨by omega, by omega, ?_, ?_, ?_, ?_, ?_⟩ <;> omega
  by_cases e11 : o = 11
  · subst e11; simp [KeepOpI, KeepSh, KeepFit] at h; refine ⟨by omega, by omega, ?_, ?_, ?_, ?_, ?_⟩ <;> omega
  by_cases e12 : o = 12
  · subst e12; simp [KeepOpI, KeepSh, KeepFit] at h; refine ⟨by omega, by omega, ?_, ?_, ?_, ?_, ?_⟩ <;> omega
  by_cases e13 : o = 13
  · subst e13; simp [KeepOpI, KeepSh, KeepFit] at h; refine ⟨by omega, by omega, ?_, ?_, ?_, ?_, ?_⟩ <;> omega
  by_cases e14 : o = 14
  · subst e14; simp [KeepOpI, KeepSh, KeepFit] at h; refine ⟨by omega, by omega, ?_, ?_, ?_, ?_, ?_⟩ <;> omega
  by_cases e15 : o = 15
  · subst e15; simp [KeepOpI, KeepSh, KeepFit] at h; refine ⟨by omega, by omega, ?_, ?_, ?_, ?_, ?_⟩ <;> omega
  by_cases e16 : o = 16
  · subst e16; simp [KeepOpI, KeepSh, KeepFit] at h; refine ⟨by omega, by omega, ?_, ?_, ?_, ?_, ?_⟩ <;> omega
  by_cases e17 : o = 17
  · subst e17; simp [KeepOpI, KeepSh, KeepFit] at h; refine ⟨by omega, by omega, ?_, ?_, ?_, ?_, ?_⟩ <;> omega
  by_cases e18 : o = 18
  · subst e18; simp [KeepOpI, KeepSh, KeepFit] at h; refine ⟨by omega, by omega, ?_, ?_, ?_, ?_, ?_⟩ <;> omega
  by_cases e19 : o = 19
  · subst e19; simp [KeepOpI, KeepSh, KeepFit] at h; refine ⟨by omega, by omega, ?_, ?_, ?_, ?_, ?_⟩ <;> omega
  by_cases e20 : o = 20
  · subst e20; simp [KeepOpI, KeepSh, KeepFit] at h; refine ⟨by omega, by omega, ?_, ?_, ?_, ?_, ?_⟩ <;> omega
  by_cases e21 : o = 21
  · subst e21; simp [KeepOpI, KeepSh, KeepFit] at h; refine ⟨by omega, by omega, ?_, ?_, ?_, ?_, ?_⟩ <;> omega
  by_cases e22 : o = 22
  · subst e22; simp [KeepOpI, KeepSh, KeepFit] at h; refine ⟨by omega, by omega, ?_, ?_, ?_, ?_, ?_⟩ <;> omega
  by_cases e23 : o = 23
  · subst e23; simp [KeepOpI, KeepSh, KeepFit] at h; refine ⟨by omega, by omega, ?_, ?_, ?_, ?_, ?_⟩ <;> omega
  by_cases e24 : o = 24
  · subst e24; simp [KeepOpI, KeepSh, KeepFit] at h; refine ⟨by omega, by omega, ?_, ?_, ?_, ?_, ?_⟩ <;> omega
  by_cases e25 : o = 25
  · subst e25; simp [KeepOpI, KeepSh, KeepFit] at h; refine ⟨by omega, by omega, ?_, ?_, ?_, ?_, ?_⟩ <;> omega
  by_cases e26 : o = 26
  · subst e26; simp [KeepOpI, KeepSh, KeepFit] at h; refine ⟨by omega, by omega, ?_, ?_, ?_, ?_, ?_⟩ <;> omega
  by_cases e27 : o = 27
  · subst e27; simp [KeepOpI, KeepSh, KeepFit] at h; refine ⟨by omega, by omega, ?_, ?_, ?_, ?_, ?_⟩ <;> omega
  by_cases e28 : o = 28
  · subst e28; simp [KeepOpI, KeepSh, KeepFit] at h; refine ⟨by omega, by omega, ?_, ?_, ?_, ?_, ?_⟩ <;> omega
  by_cases e29 : o = 29
  · subst e29; simp [KeepOpI, KeepSh, KeepFit] at h; refine ⟨by omega, by omega, ?_, ?_, ?_, ?_, ?_⟩ <;> omega
  by_cases e30 : o = 30
  · subst e30; simp [KeepOpI, KeepSh, KeepFit] at h; refine ⟨by omega, by omega, ?_, ?_, ?_, ?_, ?_⟩ <;> omega
  by_cases e31 : o = 31
  · subst e31; simp [KeepOpI, KeepSh, KeepFit] at h; refine ⟨by omega, by omega, ?_, ?_, ?_, ?_, ?_⟩ <;> omega
  by_cases e32 : o = 32
  · subst e32; simp [KeepOpI, KeepSh, KeepFit] at h; refine ⟨by omega, by omega, ?_, ?_, ?_, ?_, ?_⟩ <;> omega
  by_cases e33 : o = 33
  · subst e33; simp [KeepOpI, KeepSh, KeepFit] at h; refine ⟨by omega, by omega, ?_, ?_, ?_, ?_, ?_⟩ <;> omega
  by_cases e34 : o = 34
  · subst e34; simp [KeepOpI, KeepSh, KeepFit] at h; refine ⟨by omega, by omega, ?_, ?_, ?_, ?_, ?_⟩ <;> omega
  by_cases e35 : o = 35
  · subst e35; simp [KeepOpI, KeepSh, KeepFit] at h; refine ⟨by omega, by omega, ?_, ?_, ?_, ?_, ?_⟩ <;> omega
  by_cases e36 : o = 36
  · subst e36; simp [KeepOpI, KeepSh, KeepFit] at h; refine ⟨by omega, by omega, ?_, ?_, ?_, ?_, ?_⟩ <;> omega
  by_cases e37 : o = 37
  · subst e37; simp [KeepOpI, KeepSh, KeepFit] at h; refine ⟨by omega, by omega, ?_, ?_, ?_, ?_, ?_⟩ <;> omega
  by_cases e38 : o = 38
  · subst e38; simp [KeepOpI, KeepSh, KeepFit] at h; refine ⟨by omega, by omega, ?_, ?_, ?_, ?_, ?_⟩ <;> omega
  by_cases e39 : o = 39
  · subst e39; simp [KeepOpI, KeepSh, KeepFit] at h; refine ⟨by omega, by omega, ?_, ?_, ?_, ?_, ?_⟩ <;> omega
  by_cases e40 : o = 40
  · subst e40; simp [KeepOpI, KeepSh, KeepFit] at h; refine ⟨by omega, by omega, ?_, ?_, ?_, ?_, ?_⟩ <;> omega
  by_cases e41 : o = 41
  · subst e41; simp [KeepOpI, KeepSh, KeepFit] at h; refine ⟨by omega, by omega, ?_, ?_, ?_, ?_, ?_⟩ <;> omega
  exfalso
  simp [KeepOpI, KeepSh, e0, e1, e2, e3, e4, e5, e6, e7, e8, e9, e10, e11, e12, e13, e14, e15, e16, e17, e18, e19, e20, e21, e22, e23, e24, e25, e26, e27, e28, e29, e30, e31, e32, e33, e34, e35, e36, e37, e38, e39, e40, e41] at h
theorem places_law {p : PF} {i : Int} (hp : KeepRg p) (hi : 0 ≤ i ∧ i ≤ 255) : callT Try.prog (hkC KeepAr KeepAe KeepRd KeepRt KeepIns KeepSm) tab noL 10 6 [prgV p, .t (.c (.v (.int .u8 i)))] tru := by
  rw [kpl_res]
  simp only [cP_eq, cI_i, cLB, cL1, pf_eta, sm_refl, beq_self_eq_true, br_tt, and_true, true_and, decide_true]
  refine br_in (fun c => trivial) fun c1 => br_in (fun c => trivial) fun c2 => br_in (fun c => trivial) fun c3 => ?_
  obtain ⟨p1, p2⟩ := rg_ps hp (of_decide_eq_false c1) (of_decide_eq_false c2) (of_decide_eq_false c3)
  refine ⟨⟨p1.2.2.1, p1.2.1⟩, br_in (fun c => trivial) fun c4 => ?_⟩
  simp only [Bool.not_eq_false'] at c4
  obtain ⟨r1, r2, r3, r4, r5, r6⟩ := rt_iff.1 c4
  have h4 : p.cd.length = 4 * (p.cd.length / 4) := by have := hp.1; omega
  have el : lenE [CK.int IntKind.i64, CK.int IntKind.i64, CK.int IntKind.i64, CK.int IntKind.i64] p.cd = p.cd.length / 4 := rfl
  obtain ⟨n, hn⟩ : ∃ n, p.cd.length / 4 = n := ⟨_, rfl⟩
  rw [el, hn, w_i64 (show -9223372036854775808 ≤ i ∧ i ≤ 9223372036854775807 by omega)]
  rw [hn] at r1 r2 r5
  obtain ⟨k, hk, e⟩ : ∃ k : Nat, k < n ∧ i.tmod (n : Int) = k := by
    have q1 := Int.emod_nonneg i (show (n : Int) ≠ 0 by omega)
    have q2 := Int.emod_lt_of_pos i (show (0 : Int) < n by omega)
    rw [Int.tmod_eq_emod_of_nonneg hi.1]
    exact ⟨(i % n).toNat, by omega, by omega⟩
  rw [e]
  have hi5 := r5 k hk
  have hw : IntKind.i64.wrap ((k : Int) + 1) = (k : Int) + 1 := w_i64 (by omega)
  simp only [Int.toNat_natCast, hw]
  unfold KeepIns at hi5
  rw [hn, Int.toNat_natCast] at hi5
  have hop : KeepOpI p (gI p.cd (k * 4)) (gI p.cd (k * 4 + 1)) (gI p.cd (k * 4 + 1 + 1)) (gI p.cd (k * 4 + 1 + 1 + 1)) = true := by
    simp only [Bool.and_eq_true] at hi5
    exact hi5.2.2
  have f := op_facts hop
  rw [hn] at f
  have lst : k + 1 = n → gI p.cd (k * 4) = 0 ∨ gI p.cd (k * 4) = 6 ∨ gI p.cd (k * 4) = 24 := fun h => by
    unfold KeepLast at r6
    rw [hn, show n - 1 = k by omega] at r6
    simpa using r6
  have hki : KeepIns p (k : Int) = true := r5 k hk
  rw [hki]
  clear hi5 hop r5 r6 hki r3 r4 p1 p2 hp c1 c2 c3 c4
  refine br_y (by simp; omega) <| br_y (by simp; omega) <| br_n rfl ?_
  repeat' (first | exact trivial | refine br_in (fun d => ?_) (fun d => ?_))
  all_goals simp only [decide_eq_true_eq, decide_eq_false_iff_not, S.t.injEq, T.c.injEq, SC.v.injEq, Value.bool.injEq, Bool.false_eq_true, reduceCtorEq] at *
  all_goals omega
end Go.Proofs.Ytlckkciicchneaa
end
section
namespace Go.Proofs.Ytlckkciicchneaa
open SY
open Go.RowKit
set_option linter.unusedVariables false
theorem prg_open {H : Type} {enc : TypeId × Value → H} {P : Program} {W : World} {t e0 e1 e2 : TypeId} {v : Value} {d : DataW H} {p : List MemPlace} (hag : ∃ cs, v = .agg cs) (hs : shapeT P 20 t = some [.slice e0, .slice e1, .slice e2, .int .i64, .int .i64, .int .i64])
    (hs0 : shapeT P 20 e0 = some ([.int .i64, .int .i64, .int .i64, .int .i64].map ofCK)) (hc0 : P.cellsOf e0 = 4)
    (hs1 : shapeT P 20 e1 = some ([.int .i64].map ofCK)) (hc1 : P.cellsOf e1 = 1)
    (hs2 : shapeT P 20 e2 = some ([.int .i64].map ofCK)) (hc2 : P.cellsOf e2 = 1)
    (h : DataW.Trod enc P W 0 (fun _ => true) true t v d p) : ∃ x : PF, DS g0 W (prgV x) v ∧ InR [.int .i64, .int .i64, .int .i64, .int .i64] x.1 ∧ x.1.length % 4 = 0 ∧ InR [.int .i64] x.2 ∧ InR [.int .i64] x.3 ∧ inK (.int .i64) x.4 ∧ inK (.int .i64) x.5 ∧ inK (.int .i64) x.6 := by
  obtain ⟨cs, rfl⟩ := hag
  have hsh := trod_leafs hs h
  obtain ⟨l⟩ := cs
  simp only [Value.cells] at hsh
  obtain ⟨_, l, rfl, s0, q0⟩ := hsh.cons_left
  obtain ⟨_, l, rfl, s1, q1⟩ := q0.cons_left
  obtain ⟨_, l, rfl, s2, q2⟩ := q1.cons_left
  obtain ⟨_, l, rfl, ⟨c3, rfl, r3⟩, q3⟩ := q2.cons_left
  obtain ⟨_, l, rfl, ⟨c4, rfl, r4⟩, q4⟩ := q3.cons_left
  obtain ⟨_, l, rfl, ⟨c5, rfl, r5⟩, q5⟩ := q4.cons_left
  obtain rfl := q5.nil_left
  obtain ⟨c0, n0, m0⟩ := leaf_slice (ks := [.int .i64, .int .i64, .int .i64, .int .i64]) (by decide) hs0 hc0 s0
  obtain ⟨c1, n1, m1⟩ := leaf_slice (ks := [.int .i64]) (by decide) hs1 hc1 s1
  obtain ⟨c2, n2, m2⟩ := leaf_slice (ks := [.int .i64]) (by decide) hs2 hc2 s2
  exact ⟨⟨c0, c1, c2, c3, c4, c5⟩, ⟨_, rfl, n0, n1, n2, rfl, rfl, rfl, trivial⟩, m0, by obtain ⟨a, n, c, _, hS⟩ := n0; rw [hS.len]; simp, m1, m2, r3, r4, r5⟩

theorem inI {x : Int} (h : inK (.int .i64) x) : V.KeepI x := by
  unfold inK at h
  simp only [Lit.wf, IntKind.min, IntKind.max, IntKind.signed, IntKind.bits, Bool.and_eq_true, decide_eq_true_eq] at h
  simp at h
  exact ⟨h.1, by omega⟩
theorem in8 {x : Int} (h : inK (.int .u8) x) : 0 ≤ x ∧ x ≤ 255 := by
  unfold inK at h
  simp only [Lit.wf, IntKind.min, IntKind.max, IntKind.signed, IntKind.bits, Bool.and_eq_true, decide_eq_true_eq] at h
  simp at h
  exact ⟨h.1, by omega⟩
theorem rng_of {ks : List CK} {xs : List Int} (hp : 0 < ks.length) (ha : ∀ c ∈ ks, c = .int .i64) (h : InR ks xs) : ∀ k, k < xs.length → V.KeepI (gI xs k) := fun k hk => by
  have := h k _ (List.getElem?_eq_getElem hk)
  rw [kAt_all hp ha] at this
  have := inI this
  simpa [gI, List.getD_eq_getElem?_getD, List.getElem?_eq_getElem hk] using this
theorem by_in {xs : List Int} (h : InR [.int .u8] xs) : V.KeepBy xs := fun k hk => by
  have := h k _ (List.getElem?_eq_getElem hk)
  have e : kAt [CK.int .u8] k = .int .u8 := by simp [kAt, Nat.mod_one]
  rw [e] at this
  have := in8 this
  simpa [gI, List.getD_eq_getElem?_getD, List.getElem?_eq_getElem hk] using this
/-- What an argument that is a program is. -/
def Prg (x : PF) : Prop := InR [.int .i64, .int .i64, .int .i64, .int .i64] x.1 ∧ x.1.length % 4 = 0 ∧ InR [.int .i64] x.2 ∧ InR [.int .i64] x.3 ∧ inK (.int .i64) x.4 ∧ inK (.int .i64) x.5 ∧ inK (.int .i64) x.6
theorem rg_of {x : PF} (h : Prg x) : KeepRg x := by
  obtain ⟨a, b, c, d, e, f, g⟩ := h
  exact ⟨b, rng_of (by decide) (by simp) a, rng_of (by decide) (by simp) c, rng_of (by decide) (by simp) d, inI e, inI f, inI g⟩
theorem answers_walk (W : World) (v0 v1 : Value) (p q : PF) (i : Int) (h : DS g0 W (prgV p) v0) (h' : DS g0 W (prgV q) v1) (hp : Prg p) (hq : Prg q) :
    Calls Try.prog 3 #[v0, v1, .int .i64 i] W fun e w' => e = .returned (.bool true) ∧ Below W.heap.size W w' :=
  law (vals := [v0, v1, .int .i64 i]) (lh := noL) (m := 10) (args := [prgV p, prgV q, iS i]) mixed tab_ok hkC_ok (answers_law (rg_of hp) (rg_of hq)) ⟨h, h', rfl, trivial⟩
theorem reads_walk (W : World) (v0 : Value) (b : List Int) (a : Int) (h : DS g0 W (slB b) v0) (hr : InR [.int .u8] b) :
    Calls Try.prog 4 #[v0, .int .i64 a] W fun e w' => e = .returned (.bool true) ∧ Below W.heap.size W w' :=
  law (vals := [v0, .int .i64 a]) (lh := noL) (m := 10) (args := [slB b, iS a]) mixed tab_ok hkC_ok (reads_law (by_in hr)) ⟨h, rfl, trivial⟩
theorem places_walk (W : World) (v0 : Value) (p : PF) (i : Int) (h : DS g0 W (prgV p) v0) (hp : Prg p) (hi : inK (.int .u8) i) :
    Calls Try.prog 6 #[v0, .int .u8 i] W fun e w' => e = .returned (.bool true) ∧ Below W.heap.size W w' :=
  law (vals := [v0, .int .u8 i]) (lh := noL) (m := 10) (args := [prgV p, .t (.c (.v (.int .u8 i)))]) mixed tab_ok hkC_ok (places_law (rg_of hp) (in8 hi)) ⟨h, rfl, trivial⟩
end Go.Proofs.Ytlckkciicchneaa
end
