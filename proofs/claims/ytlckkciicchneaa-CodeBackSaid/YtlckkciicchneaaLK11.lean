/- The document's reading of a program. No condition. -/
import Derived.Test.YtlckkciicchneaaRK10
section
namespace Go.Proofs.Ytlckkciicchneaa
open SY
open Go.RowKit
set_option linter.unusedSimpArgs false
set_option linter.unusedVariables false
set_option maxRecDepth 100000
def KeepCl (b : List Int) (a m n : Int) : List Int := (KeepCt b a m n).1
def KeepCc (b : List Int) (a m n : Int) : Int := (KeepCt b a m n).2.1
def KeepCe (b : List Int) (a m n : Int) : Int := (KeepCt b a m n).2.2
theorem cnV_eq : hCnV KeepCl KeepCc KeepCe = hCnt := rfl
theorem hkRd_ok : HookOK Try.prog (hkRd KeepCl KeepCc KeepCe KeepMl KeepMc KeepMe KeepRt) := hkL_cons (by rw [cnV_eq]; exact counted_ok) (hkL_cons (by rw [mnV_eq]; exact many_ok) (hkL_cons rright_ok hkL_nil))
def KeepEv (l : List Int) : Nat → List Int
  | 0 => []
  | k + 1 => KeepEv l k ++ [gI l (2 * k)]
def KeepOdd (l : List Int) : Nat → List Int
  | 0 => []
  | k + 1 => KeepOdd l k ++ [gI l (2 * k + 1)]
def zPF : PF := ⟨[], [], [], 0, 0, 0⟩
/-- What the document reads. -/
def KeepRd (b : List Int) (a : Int) : PF × Int × Int :=
  if a < 0 ∨ a > b.length then (zPF, 0, 1) else if KeepCe b a 60 4 ≠ 0 then (zPF, 0, KeepCe b a 60 4) else
  if KeepCe b (KeepCc b a 60 4) 8 2 ≠ 0 then (zPF, 0, KeepCe b (KeepCc b a 60 4) 8 2) else
  if KeepMe b (KeepCc b (KeepCc b a 60 4) 8 2) 3 ≠ 0 then (zPF, 0, KeepMe b (KeepCc b (KeepCc b a 60 4) 8 2) 3) else
  let l := KeepCl b a 60 4; let o := KeepCl b (KeepCc b a 60 4) 8 2; let r := KeepMl b (KeepCc b (KeepCc b a 60 4) 8 2) 3
  let p : PF := ⟨l.take (4 * (l.length / 4)), KeepEv o (o.length / 2), KeepOdd o (o.length / 2), gI r 0, gI r 1, gI r 2⟩
  if KeepRt p = false then (zPF, 0, 3) else (p, KeepMc b (KeepCc b (KeepCc b a 60 4) 8 2) 3, 0)
noncomputable def hRd (f : List Int → Int → PF × Int × Int) : Hk := fun vs => match vs with
  | [x, y] => some (subS (slB (cL x)) x ∧ subS (iS (cI y)) y ∧ V.KeepFew (cL x) ∧ V.KeepBy (cL x), .tup [prgT (f (cL x) (cI y)).1, .c (.v (.int .i64 (f (cL x) (cI y)).2.1)), .c (.v (.int .i64 (f (cL x) (cI y)).2.2))])
  | _ => none
theorem cl_len {b : List Int} {a m n : Int} (hm : m ≤ 60) (h8 : 0 ≤ n) (h9 : n ≤ 4) : (KeepCl b a m n).length ≤ 240 := by
  unfold KeepCl KeepCt
  split
  · simp
  · split
    · simp
    · rename_i h1 h2
      have hl := ms_len b (KeepMc b a 1) (gI (KeepMl b a 1) 0 * n).toNat
      have h0 : 0 ≤ gI (KeepMl b a 1) 0 := by omega
      have h1 : gI (KeepMl b a 1) 0 ≤ 60 := by omega
      have := Int.mul_nonneg h0 h8
      have := Int.mul_le_mul h1 h9 h8 (by decide)
      have hq : (KeepMl b (KeepMc b a 1) (gI (KeepMl b a 1) 0 * n)).length ≤ (gI (KeepMl b a 1) 0 * n).toNat := hl
      show (KeepMl b (KeepMc b a 1) (gI (KeepMl b a 1) 0 * n)).length ≤ 240
      generalize gI (KeepMl b a 1) 0 * n = t at *
      omega
theorem ml_all {b : List Int} {a : Int} : ∀ k, (KeepMs b a k).2.2 = 0 → (KeepMs b a k).2.1.length = k
  | 0, _ => rfl
  | k + 1, h => by
    rw [ms_succ] at h ⊢
    by_cases c : (KeepMs b a k).2.2 ≠ 0
    · rw [if_pos c] at h; exact absurd h c
    · rw [if_neg c] at h ⊢
      by_cases d : V.KeepRe b (KeepMs b a k).1 ≠ 0
      · rw [if_pos d] at h; exact absurd h d
      · rw [if_neg d]
        have := ml_all k (Decidable.not_not.1 c)
        simp [this]
theorem ev_len (l : List Int) : ∀ k, (KeepEv l k).length = k
  | 0 => rfl
  | k + 1 => by show (KeepEv l k ++ _).length = _; simp [ev_len l k]
theorem odd_len (l : List Int) : ∀ k, (KeepOdd l k).length = k
  | 0 => rfl
  | k + 1 => by show (KeepOdd l k ++ _).length = _; simp [odd_len l k]
end Go.Proofs.Ytlckkciicchneaa
end
section
namespace Go.Proofs.Ytlckkciicchneaa
open SY
open Go.RowKit
set_option linter.unusedSimpArgs false
set_option linter.unusedVariables false
set_option maxRecDepth 100000
def KeepI1 (l : List Int) (z : RX) : Prop := z.i ≤ l.length / 4 ∧ z.cd = l.take (4 * z.i)
def KeepI3 (l o : List Int) (z : RY) : Prop := z.i ≤ o.length / 2 ∧ z.cd = l.take (4 * (l.length / 4)) ∧ z.ks = KeepEv o z.i ∧ z.sz = KeepOdd o z.i
theorem rread_ok : GOK Try.prog 18 (hRd KeepRd) := by
  refine gokW mixed tab_ok hkRd_ok fun vs s r hg hs => ?_
  unfold hRd at hg
  split at hg <;> try (cases hg; done)
  rename_i x y
  simp only [Option.some.injEq, Prod.mk.injEq] at hg
  obtain ⟨rfl, rfl⟩ := hg
  obtain ⟨h1, h2, h3, h4⟩ := hs
  generalize cL x = b at *
  generalize cI y = a at *
  obtain ⟨l, hl⟩ : ∃ l, KeepCl b a 60 4 = l := ⟨_, rfl⟩
  obtain ⟨o, ho⟩ : ∃ o, KeepCl b (KeepCc b a 60 4) 8 2 = o := ⟨_, rfl⟩
  obtain ⟨q, hq⟩ : ∃ q, KeepMl b (KeepCc b (KeepCc b a 60 4) 8 2) 3 = q := ⟨_, rfl⟩
  refine ⟨lhL [(1, hintR1 (gI q 0) (gI q 1) (gI q 2) (l.length / 4) (KeepI1 l)), (3, hintR3 (gI q 0) (gI q 1) (gI q 2) (o.length / 2) (KeepI3 l o))], 10, [slB b, iS a], ⟨h1, h2, trivial⟩, ?_⟩
  have ll : l.length ≤ 240 := hl ▸ cl_len (by decide) (by decide) (by decide)
  have lo : o.length ≤ 240 := ho ▸ cl_len (by decide) (by decide) (by decide)
  rw [rread_res]
  simp only [cLB, cI_i, cL1, cP_eq, mulE1, t0, lenE1, hl, ho, hq, Int.toNat_natCast, true_and, and_true]
  unfold KeepRd
  simp only [hl, ho, hq]
  refine br_in (fun c => ?_) fun c => br_in (fun c1 => ?_) fun c1 => ⟨⟨h3, h4, by decide⟩, br_in (fun c2 => ?_) fun c2 => ⟨⟨h3, h4, by decide⟩, br_in (fun c3 => ?_) fun c3 => ⟨⟨h3, h4, by decide⟩, br_in (fun c4 => ?_) fun c4 => ?_⟩⟩⟩
  · rw [if_pos (.inl (of_decide_eq_true c))]; simp [zPF]
  · rw [if_pos (.inr (of_decide_eq_true c1))]; simp [zPF]
  all_goals have c := of_decide_eq_false c
  all_goals have c1 := of_decide_eq_false c1
  all_goals rw [if_neg (by omega)]
  · have c2 : (!decide (KeepCe b a 60 4 = 0)) = true := c2
    rw [if_pos (by simpa using c2)]; simp [zPF]
  all_goals have c2 : (!decide (KeepCe b a 60 4 = 0)) = false := c2
  all_goals rw [if_neg (by simpa using c2)]
  · have c3 : (!decide (KeepCe b (KeepCc b a 60 4) 8 2 = 0)) = true := c3
    rw [if_pos (by simpa using c3)]; simp [zPF]
  all_goals have c3 : (!decide (KeepCe b (KeepCc b a 60 4) 8 2 = 0)) = false := c3
  all_goals rw [if_neg (by simpa using c3)]
  · have c4 : (!decide (KeepMe b (KeepCc b (KeepCc b a 60 4) 8 2) 3 = 0)) = true := c4
    rw [if_pos (by simpa using c4)]; simp [zPF]
  have c4 : (!decide (KeepMe b (KeepCc b (KeepCc b a 60 4) 8 2) 3 = 0)) = false := c4
  rw [if_neg (by simpa using c4)]
  have q3 : q.length = 3 := by
    rw [← hq]
    have c5 := c4
    simp only [Bool.not_eq_false', decide_eq_true_eq] at c5
    exact ml_all 3 c5
  refine br_y (by simp; omega) <| br_y (by simp; omega) <| br_y (by simp; omega) ⟨⟨⟨0, []⟩, ⟨Nat.zero_le _, by simp⟩, by simp, rfl⟩, fun z hz => br_in (fun d => ?_) fun d => ?_⟩
  · have d := of_decide_eq_true d
    have e1 : ∀ j : Int, 0 ≤ j → j ≤ 4 → IntKind.i64.wrap (((4 * z.i : Nat) : Int) + j) = ((4 * z.i : Nat) : Int) + j := fun j a b => w_i64 (by have := hz.1; omega)
    rw [e1 3 (by decide) (by decide)] at d
    rw [e1 1 (by decide) (by decide), e1 2 (by decide) (by decide), e1 3 (by decide) (by decide)]
    have t1 : (((4 * z.i : Nat) : Int) + 1).toNat = z.i * 4 + 1 := by omega
    have t2 : (((4 * z.i : Nat) : Int) + 2).toNat = z.i * 4 + 2 := by omega
    have t3 : (((4 * z.i : Nat) : Int) + 3).toNat = z.i * 4 + 3 := by omega
    rw [t1, t2, t3, Nat.mul_comm 4 z.i]
    obtain ⟨z1, z2⟩ := hz
    have zl : z.cd.length ≤ 240 := by rw [z2, List.length_take]; omega
    refine br_y (by simp; omega) <| br_y (by simp; omega) <| br_y (by simp; omega) <| br_y (by simp; omega) <| br_y (ble_of (by omega)) ⟨⟨z.i + 1, l.take (4 * (z.i + 1))⟩, ⟨by show z.i + 1 ≤ _; omega, rfl⟩, by show l.length / 4 - (z.i + 1) < l.length / 4 - z.i; omega, ?_, ?_⟩
    · show ((4 * (z.i + 1) : Nat) : Int) = _
      rw [w_i64 (by omega)]; omega
    · show l.take (4 * (z.i + 1)) = _
      rw [take4 (by omega), z2]
  · have d := of_decide_eq_false d
    rw [w_i64 (by have := hz.1; omega)] at d
    obtain ⟨z1, z2⟩ := hz
    refine ⟨⟨⟨0, l.take (4 * (l.length / 4)), [], []⟩, ⟨Nat.zero_le _, rfl, rfl, rfl⟩, by simp, by rw [z2, show z.i = l.length / 4 by omega], rfl, rfl⟩, fun u hu => br_in (fun e => ?_) fun e => ?_⟩
    · have e := of_decide_eq_true e
      obtain ⟨u1, u2, u3, u4⟩ := hu
      have e1 : IntKind.i64.wrap (((2 * u.i : Nat) : Int) + 1) = ((2 * u.i + 1 : Nat) : Int) := by rw [w_i64 (by omega)]; omega
      rw [e1] at e ⊢
      rw [Int.toNat_natCast]
      have k1 : u.ks.length = u.i := by rw [u3, ev_len]
      have k2 : u.sz.length = u.i := by rw [u4, odd_len]
      refine br_y (by simp; omega) <| br_y (ble_of (by omega)) <| br_y (by simp; omega) <| br_y (ble_of (by omega)) ⟨⟨u.i + 1, u.cd, KeepEv o (u.i + 1), KeepOdd o (u.i + 1)⟩, ⟨by show u.i + 1 ≤ _; omega, u2, rfl, rfl⟩, by show o.length / 2 - (u.i + 1) < o.length / 2 - u.i; omega, ?_, rfl, ?_, ?_⟩
      · show ((2 * (u.i + 1) : Nat) : Int) = _
        rw [w_i64 (by omega)]; omega
      · show KeepEv o u.i ++ _ = _; rw [u3]
      · show KeepOdd o u.i ++ _ = _; rw [u4]
    · have e := of_decide_eq_false e
      obtain ⟨u1, u2, u3, u4⟩ := hu
      rw [w_i64 (by omega)] at e
      have un : u.i = o.length / 2 := by omega
      have k1 : u.ks.length = u.i := by rw [u3, ev_len]
      rw [un] at u3 u4
      refine ⟨⟨by omega, by rw [u2, List.length_take]; omega⟩, ?_⟩
      rw [u2, u3, u4]
      refine br_in (fun f => ?_) fun f => ?_
      · simp only [Bool.not_eq_true'] at f
        rw [if_pos f]; simp [zPF]
      · simp only [Bool.not_eq_false'] at f
        rw [if_neg (by rw [f]; simp)]
        exact ⟨⟨rfl, rfl, rfl, rfl, rfl, rfl⟩, rfl, rfl⟩
end Go.Proofs.Ytlckkciicchneaa
end
