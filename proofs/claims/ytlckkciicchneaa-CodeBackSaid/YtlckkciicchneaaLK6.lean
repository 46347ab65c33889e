/- A program's bytes. No condition. -/
import Derived.Test.YtlckkciicchneaaRK6
namespace Go.Proofs.Ytlckkciicchneaa
open SY
open Go.RowKit
set_option linter.unusedSimpArgs false
set_option linter.unusedVariables false
set_option maxRecDepth 100000
theorem ef_app (a b : List Int) : KeepEf (a ++ b) = KeepEf a ++ KeepEf b := by unfold KeepEf; rw [List.flatMap_append]
theorem ef_one (v : Int) : KeepEf [v] = V.KeepVb (V.KeepZig v) := by unfold KeepEf; simp
theorem en_ef (ns : List Int) : ∀ k, k ≤ ns.length → KeepEn ns k = KeepEf (ns.take k)
  | 0, _ => rfl
  | k + 1, h => by
    have hk : k < ns.length := by omega
    have e : gI ns k = ns[k] := by simp [gI, hk]
    show KeepEn ns k ++ _ = _
    rw [en_ef ns k (by omega), ← List.take_append_getElem hk, ef_app, ef_one, e]
theorem ec_ef (ns : List Int) : KeepEc ns = KeepEf ns := by
  unfold KeepEc
  rw [en_ef ns _ (Nat.le_refl _), List.take_length]
theorem ef_len : ∀ ns : List Int, (KeepEf ns).length ≤ 10 * ns.length
  | [] => Nat.le_refl _
  | v :: l => by
    have h1 := ef_len l
    have h2 := (V.vbk_len 9 (V.KeepZig v)).2
    rw [show v :: l = [v] ++ l from rfl, ef_app, ef_one]
    show (V.vbk 9 (V.KeepZig v) ++ KeepEf l).length ≤ _
    rw [List.length_append, List.length_append]; simp only [List.length_cons, List.length_nil]; omega
theorem it_len (ks sz : List Int) : ∀ k, (KeepIt ks sz k).length = 2 * k
  | 0 => rfl
  | k + 1 => by show (KeepIt ks sz k ++ [_, _]).length = _; rw [List.length_append, it_len ks sz k]; simp; omega
def KeepNu (p : PF) : List Int := [((p.cd.length / 4 : Nat) : Int)] ++ p.cd ++ [(p.ks.length : Int)] ++ KeepIt p.ks p.sz p.ks.length ++ [p.cl, p.rc, p.pt]
noncomputable def KeepAr (b : List Int) (p : PF) : List Int := if KeepRt p = true then b ++ KeepEf (KeepNu p) else []
noncomputable def KeepAe (p : PF) : Int := if KeepRt p = true then 0 else 1
def KeepPs (p : PF) : Prop := p.cd.length % 4 = 0 ∧ p.cd.length < 1000000 ∧ p.ks.length < 1000000 ∧ p.sz.length < 1000000 ∧ (∀ k, k < p.cd.length → V.KeepI (gI p.cd k)) ∧ (∀ k, k < p.ks.length → V.KeepI (gI p.ks k)) ∧ (∀ k, k < p.sz.length → V.KeepI (gI p.sz k)) ∧ V.KeepI p.cl ∧ V.KeepI p.rc ∧ V.KeepI p.pt
noncomputable def hAp (ar : List Int → PF → List Int) (ae : PF → Int) : Hk := fun vs => match vs with
  | [a, b] => some (subS (slB (cL a)) a ∧ subS (prgV (cP b)) b ∧ (cL a).length ≤ 10000 ∧ KeepPs (cP b), .tup [.c (.sl [.int .u8] (ar (cL a) (cP b)) none), .c (.v (.int .i64 (ae (cP b))))])
  | _ => none
theorem sp1 (x : Int) : splice [0] 0 [x] = [x] := rfl
theorem sp2 (x y : Int) : splice (splice [0, 0] 0 [x]) 1 [y] = [x, y] := rfl
theorem sp3 (x y z : Int) : splice (splice (splice [0, 0, 0] 0 [x]) 1 [y]) 2 [z] = [x, y, z] := rfl
theorem sp4 (x y z u : Int) : splice (splice (splice (splice [0, 0, 0, 0] 0 [x]) 1 [y]) 2 [z]) 3 [u] = [x, y, z, u] := rfl
theorem lenE4 (xs : List Int) : lenE [CK.int IntKind.i64, CK.int IntKind.i64, CK.int IntKind.i64, CK.int IntKind.i64] xs = xs.length / 4 := rfl
theorem lenE1 (xs : List Int) : lenE [CK.int IntKind.i64] xs = xs.length := rfl
theorem mulE1 (n : Nat) : mulE 1 n = n := rfl
theorem hkA_ok : HookOK Try.prog (hkA KeepRt KeepEc) := hkL_cons right_ok (hkL_cons put_ok hkL_nil)
theorem pu_of {b ns : List Int} (h1 : b.length ≤ 80000) (h2 : ns.length ≤ 1000) (h3 : ∀ v, v ∈ ns → V.KeepI v) : KeepPu b ns := ⟨h1, h2, fun k hk => h3 _ (by
  have e : gI ns k = ns[k] := by simp [gI, hk]
  rw [e]; exact List.getElem_mem hk)⟩
theorem append_ok : GOK Try.prog 9 (hAp KeepAr KeepAe) := by
  refine gokW mixed tab_ok hkA_ok fun vs s r hg hs => ?_
  unfold hAp at hg
  split at hg <;> try (cases hg; done)
  rename_i a b
  simp only [Option.some.injEq, Prod.mk.injEq] at hg
  obtain ⟨rfl, rfl⟩ := hg
  obtain ⟨h1, h2, h3, h4⟩ := hs
  refine ⟨lhL [(1, hintA1 (cL a) (cP b)), (3, hintA3 (cL a) (cP b))], 10, [slB (cL a), prgV (cP b)], ⟨h1, h2, trivial⟩, ?_⟩
  generalize cL a = b at *
  generalize cP _ = p at *
  obtain ⟨q1, q2, q3, q4, q5, q6, q7, q8, q9, q10⟩ := h4
  rw [append_res]
  simp only [Int.toNat_natCast, cP_eq, cL1, sp1, sp2, sp3, sp4, lenE4, lenE1, mulE4, mulE1, p2, p3, pf_eta, true_and, and_true, ec_ef]
  refine ⟨⟨q3, q2⟩, br_in (fun c => ?_) fun c => ?_⟩
  · simp only [Bool.not_eq_true'] at c
    unfold KeepAr KeepAe
    rw [if_neg (by rw [c]; decide), if_neg (by rw [c]; decide)]
    exact ⟨rfl, rfl⟩
  simp only [Bool.not_eq_false'] at c
  obtain ⟨r1, r2, r3, r4, r5, r6⟩ := rt_iff.1 c
  obtain ⟨o1, o2, _⟩ := ob_iff.1 r3
  have nI : ∀ n : Nat, n < 2000000 → V.KeepI (n : Int) := fun n h => by unfold V.KeepI; omega
  have l1 : ∀ i, i ≤ p.cd.length / 4 → (KeepB1 b p i).length ≤ 80000 := fun i hi => by
    have := ef_len ([((p.cd.length / 4 : Nat) : Int)] ++ p.cd.take (4 * i))
    unfold KeepB1
    rw [List.length_append]
    simp only [List.length_append, List.length_cons, List.length_nil, List.length_take] at this
    omega
  have l2 : ∀ i, i ≤ p.ks.length → (KeepB2 b p i).length ≤ 80000 := fun i hi => by
    have := ef_len ([((p.cd.length / 4 : Nat) : Int)] ++ p.cd ++ [(p.ks.length : Int)] ++ KeepIt p.ks p.sz i)
    unfold KeepB2
    rw [List.length_append]
    simp only [List.length_append, List.length_cons, List.length_nil, it_len] at this
    omega
  refine ⟨pu_of (by omega) (by simp) (fun v hv => by rw [List.mem_singleton] at hv; subst hv; exact nI _ (by omega)), ⟨⟨0⟩, Nat.zero_le _, by unfold KeepB1; simp, rfl⟩, fun x hx => br_in (fun d => ?_) fun d => ?_⟩
  · have d := of_decide_eq_true d
    have d : ((x.i : Nat) : Int) < ((p.cd.length / 4 : Nat) : Int) := d
    refine br_y (by simp; omega) ⟨pu_of (l1 _ (by omega)) (by simp) (fun v hv => ?_), ⟨x.i + 1⟩, by show x.i + 1 ≤ _; omega, by show p.cd.length - (x.i + 1) < p.cd.length - x.i; omega, ?_, i64_nat (by omega)⟩
    · simp at hv
      rcases hv with rfl | rfl | rfl | rfl <;> exact q5 _ (by omega)
    · show KeepB1 b p (x.i + 1) = _
      unfold KeepB1
      rw [take4 (by omega), List.append_assoc b, ← ef_app, List.append_assoc]
  · have d := of_decide_eq_false d
    have d : ¬ ((x.i : Nat) : Int) < ((p.cd.length / 4 : Nat) : Int) := d
    have hx : x.i ≤ p.cd.length / 4 := hx
    have ex : KeepB1 b p x.i = b ++ KeepEf ([((p.cd.length / 4 : Nat) : Int)] ++ p.cd) := by unfold KeepB1; rw [List.take_of_length_le (by omega)]
    refine ⟨pu_of (l1 _ hx) (by simp) (fun v hv => by rw [List.mem_singleton] at hv; subst hv; exact nI _ (by omega)), ⟨⟨0⟩, Nat.zero_le _, ?_, rfl⟩, fun y hy => br_in (fun e => ?_) fun e => ?_⟩
    · rw [ex]
      unfold KeepB2
      rw [List.append_assoc b, ← ef_app]; simp [KeepIt]
    · have e := of_decide_eq_true e
      have e : ((y.i : Nat) : Int) < ((p.ks.length : Nat) : Int) := e
      refine br_y (by simp; omega) <| br_y (by simp; omega) ⟨pu_of (l2 _ (by omega)) (by simp) (fun v hv => ?_), ⟨y.i + 1⟩, by show y.i + 1 ≤ _; omega, by show p.ks.length - (y.i + 1) < p.ks.length - y.i; omega, ?_, i64_nat (by omega)⟩
      · simp at hv
        rcases hv with rfl | rfl
        · exact q6 _ (by omega)
        · exact q7 _ (by omega)
      · show KeepB2 b p (y.i + 1) = _
        have e3 : KeepIt p.ks p.sz (y.i + 1) = KeepIt p.ks p.sz y.i ++ [gI p.ks y.i, gI p.sz y.i] := rfl
        unfold KeepB2
        simp only [e3, ef_app, List.append_assoc]
    · have e := of_decide_eq_false e
      have e : ¬ ((y.i : Nat) : Int) < ((p.ks.length : Nat) : Int) := e
      have hy : y.i ≤ p.ks.length := hy
      refine ⟨pu_of (l2 _ hy) (by simp) (fun v hv => ?_), ?_, ?_⟩
      · simp at hv
        rcases hv with rfl | rfl | rfl <;> assumption
      · unfold KeepAr KeepNu
        rw [if_pos c, show p.ks.length = y.i by omega]
        have : KeepB2 b p y.i = b ++ KeepEf ([((p.cd.length / 4 : Nat) : Int)] ++ p.cd ++ [(p.ks.length : Int)] ++ KeepIt p.ks p.sz y.i) := rfl
        rw [this, List.append_assoc b, ← ef_app, show p.ks.length = y.i by omega]
      · unfold KeepAe; rw [if_pos c]
end Go.Proofs.Ytlckkciicchneaa
