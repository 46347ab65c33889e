/- A program's bytes, as the document has them. No condition. -/
import Derived.Test.YtlckkciicchneaaRK7
namespace Go.Proofs.Ytlckkciicchneaa
open SY
open Go.RowKit
set_option linter.unusedSimpArgs false
set_option linter.unusedVariables false
set_option maxRecDepth 100000
theorem ble_of {a b : Nat} (h : a ≤ b) : a.ble b = true := Nat.ble_eq ▸ h
theorem num_ok : GOK Try.prog 20 (hNum KeepNu) := by
  refine gokW mixed tab_ok hkL_nil fun vs s r hg hs => ?_
  unfold hNum at hg
  split at hg <;> try (cases hg; done)
  rename_i a
  simp only [Option.some.injEq, Prod.mk.injEq] at hg
  obtain ⟨rfl, rfl⟩ := hg
  obtain ⟨h1, q3, q2, q4, q1⟩ := hs
  refine ⟨lhL [(1, hintN1 (cP a) (KeepN1 (cP a))), (3, hintN3 (cP a) (KeepN2 (cP a)))], 10, [prgV (cP a)], ⟨h1, trivial⟩, ?_⟩
  generalize cP a = p at *
  have l1 : ∀ i, i ≤ p.cd.length / 4 → (KeepN1 p i).length ≤ 1000001 := fun i hi => by
    unfold KeepN1; simp only [List.length_append, List.length_cons, List.length_nil, List.length_take]; omega
  have l2 : ∀ i, i ≤ p.ks.length → (KeepN2 p i).length ≤ 10000000 := fun i hi => by
    unfold KeepN2; simp only [List.length_append, List.length_cons, List.length_nil, it_len]; omega
  rw [num_res]
  simp only [Int.toNat_natCast, p2, p3, true_and, and_true]
  refine ⟨⟨⟨0⟩, Nat.zero_le _, by simp [KeepN1], rfl⟩, fun x hx => br_in (fun d => ?_) fun d => ?_⟩
  · have d := of_decide_eq_true d
    have d : ((x.i : Nat) : Int) < ((p.cd.length / 4 : Nat) : Int) := d
    have := l1 x.i (by omega)
    refine br_y (by simp; omega) <| br_y (ble_of (by omega)) ⟨⟨x.i + 1⟩, by show x.i + 1 ≤ _; omega, by show p.cd.length - (x.i + 1) < p.cd.length - x.i; omega, ?_, i64_nat (by omega)⟩
    show KeepN1 p (x.i + 1) = _
    unfold KeepN1
    rw [take4 (by omega), List.append_assoc]
  · have d := of_decide_eq_false d
    have d : ¬ ((x.i : Nat) : Int) < ((p.cd.length / 4 : Nat) : Int) := d
    have hx : x.i ≤ p.cd.length / 4 := hx
    have := l1 x.i hx
    refine br_y (ble_of (by omega)) ⟨⟨⟨0⟩, Nat.zero_le _, ?_, rfl⟩, fun y hy => br_in (fun e => ?_) fun e => ?_⟩
    · unfold KeepN1 KeepN2
      rw [List.take_of_length_le (by omega)]; simp [KeepIt]
    · have e := of_decide_eq_true e
      have e : ((y.i : Nat) : Int) < ((p.ks.length : Nat) : Int) := e
      have := l2 y.i (by omega)
      refine br_y (by simp; omega) <| br_y (by simp; omega) <| br_y (ble_of (by omega)) ⟨⟨y.i + 1⟩, by show y.i + 1 ≤ _; omega, by show p.ks.length - (y.i + 1) < p.ks.length - y.i; omega, ?_, i64_nat (by omega)⟩
      have e3 : KeepIt p.ks p.sz (y.i + 1) = KeepIt p.ks p.sz y.i ++ [gI p.ks y.i, gI p.sz y.i] := rfl
      show KeepN2 p (y.i + 1) = _
      unfold KeepN2
      simp only [e3, List.append_assoc]
    · have e := of_decide_eq_false e
      have e : ¬ ((y.i : Nat) : Int) < ((p.ks.length : Nat) : Int) := e
      have hy : y.i ≤ p.ks.length := hy
      have := l2 y.i hy
      refine br_y (ble_of (by omega)) ?_
      unfold KeepNu KeepN2
      rw [show y.i = p.ks.length by omega]
theorem hkN_ok : HookOK Try.prog (hkN KeepRt KeepNu) := hkL_cons rright_ok (hkL_cons num_ok (hkL_cons V.bytes_ok (hkL_cons V.rzig_ok hkL_nil)))
theorem nu_range {p : PF} (h : KeepPs p) (hsz : p.sz.length = p.ks.length) : ∀ v, v ∈ KeepNu p → V.KeepI v := by
  obtain ⟨q1, q2, q3, q4, q5, q6, q7, q8, q9, q10⟩ := h
  have nI : ∀ n : Nat, n < 2000000 → V.KeepI (n : Int) := fun n h => by unfold V.KeepI; omega
  have gm : ∀ {l : List Int} {v : Int}, v ∈ l → ∃ k, k < l.length ∧ gI l k = v := fun {l v} h => by
    obtain ⟨k, hk, e⟩ := List.getElem_of_mem h
    exact ⟨k, hk, by simp [gI, hk, e]⟩
  have it : ∀ k, k ≤ p.ks.length → ∀ v, v ∈ KeepIt p.ks p.sz k → V.KeepI v := by
    intro k
    induction k with
    | zero => intro _ v hv; cases hv
    | succ k ih =>
      intro hk v hv
      have hv : v ∈ KeepIt p.ks p.sz k ++ [gI p.ks k, gI p.sz k] := hv
      rw [List.mem_append] at hv
      rcases hv with hv | hv
      · exact ih (by omega) v hv
      · simp at hv
        rcases hv with rfl | rfl
        · exact q6 _ (by omega)
        · exact q7 _ (by omega)
  intro v hv
  unfold KeepNu at hv
  rw [List.mem_append, List.mem_append, List.mem_append, List.mem_append] at hv
  rcases hv with (((hv | hv) | hv) | hv) | hv
  · rw [List.mem_singleton] at hv; subst hv; exact nI _ (by omega)
  · obtain ⟨k, hk, rfl⟩ := gm hv; exact q5 k hk
  · rw [List.mem_singleton] at hv; subst hv; exact nI _ (by omega)
  · exact it _ (Nat.le_refl _) v hv
  · simp at hv; rcases hv with rfl | rfl | rfl <;> assumption
theorem rappend_ok : GOK Try.prog 10 (hAp KeepAr KeepAe) := by
  refine gokW mixed tab_ok hkN_ok fun vs s r hg hs => ?_
  unfold hAp at hg
  split at hg <;> try (cases hg; done)
  rename_i a b
  simp only [Option.some.injEq, Prod.mk.injEq] at hg
  obtain ⟨rfl, rfl⟩ := hg
  obtain ⟨h1, h2, h3, h4⟩ := hs
  refine ⟨lhL [(1, hintRA (cL a) (KeepNu (cP b)) (cP b))], 10, [slB (cL a), prgV (cP b)], ⟨h1, h2, trivial⟩, ?_⟩
  generalize cL a = b at *
  generalize cP _ = p at *
  have h4' := h4
  obtain ⟨q1, q2, q3, q4, _⟩ := h4
  rw [rappend_res]
  simp only [Int.toNat_natCast, cP_eq, cL1, pf_eta, true_and, and_true]
  refine ⟨⟨q3, q2⟩, br_in (fun c => ?_) fun c => ?_⟩
  · simp only [Bool.not_eq_true'] at c
    unfold KeepAr KeepAe
    rw [if_neg (by rw [c]; decide), if_neg (by rw [c]; decide)]
    exact ⟨rfl, rfl⟩
  simp only [Bool.not_eq_false'] at c
  obtain ⟨r1, r2, r3, r4, r5, r6⟩ := rt_iff.1 c
  obtain ⟨o1, o2, _⟩ := ob_iff.1 r3
  have hr := nu_range h4' o2
  have hnl : (KeepNu p).length ≤ 1000 := by unfold KeepNu; simp only [List.length_append, List.length_cons, List.length_nil, it_len]; omega
  have hg : ∀ k, k < (KeepNu p).length → V.KeepI (gI (KeepNu p) k) := fun k hk => hr _ (by
    have e : gI (KeepNu p) k = (KeepNu p)[k] := by simp [gI, hk]
    rw [e]; exact List.getElem_mem hk)
  refine ⟨⟨q3, q2, o2, q1⟩, br_y (ble_of (by omega)) ⟨⟨⟨0⟩, Nat.zero_le _, by simp [KeepEn], rfl⟩, fun x hx => br_in (fun d => ?_) fun d => ?_⟩⟩
  · have d := of_decide_eq_true d
    have d : ((x.i : Nat) : Int) < (((KeepNu p).length : Nat) : Int) := d
    have hk := hg x.i (by omega)
    have hl := en_len (KeepNu p) x.i
    have hv := (V.vbk_len 9 (V.KeepZig (gI (KeepNu p) x.i))).2
    refine br_y (by simp; omega) ⟨hk, zig_u hk, br_y (ble_of ?_) ⟨⟨x.i + 1⟩, by show x.i + 1 ≤ (KeepNu p).length; omega, by show (KeepNu p).length - (x.i + 1) < (KeepNu p).length - x.i; omega, ?_, i64_nat (by omega)⟩⟩
    · rw [List.length_append]
      have : (V.KeepVb (V.KeepZig (gI (KeepNu p) x.i))).length ≤ 10 := hv
      omega
    · show b ++ (KeepEn (KeepNu p) x.i ++ _) = _
      rw [List.append_assoc]
  · have d := of_decide_eq_false d
    have d : ¬ ((x.i : Nat) : Int) < (((KeepNu p).length : Nat) : Int) := d
    have hx : x.i ≤ (KeepNu p).length := hx
    unfold KeepAr KeepAe
    rw [if_pos c, if_pos c, ← ec_ef, show x.i = (KeepNu p).length by omega]
    exact ⟨rfl, rfl⟩
end Go.Proofs.Ytlckkciicchneaa
