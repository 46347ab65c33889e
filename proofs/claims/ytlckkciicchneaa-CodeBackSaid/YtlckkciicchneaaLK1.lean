/- Instructions: shapes and what fits. No condition. -/
import Derived.Test.YtlckkciicchneaaRK1
namespace Go.Proofs.Ytlckkciicchneaa
open SY
open Go.RowKit
set_option linter.unusedSimpArgs false
set_option linter.unusedVariables false
set_option maxRecDepth 100000
/-- What stands in an instruction. -/
def KeepSh (o : Int) : Int × Int × Int × Bool :=
  if o = 0 then (0, 0, 0, true) else
  if o = 1 then ((-1), (-2), 0, true) else
  if o = 2 then ((-1), (-1), 0, true) else
  if o = 17 then ((-1), (-1), 0, true) else
  if o = 18 then ((-1), (-1), 0, true) else
  if o = 25 then ((-1), (-1), 0, true) else
  if o = 3 then ((-1), (-1), (-1), true) else
  if o = 4 then ((-1), (-1), (-1), true) else
  if o = 5 then ((-1), (-1), (-1), true) else
  if o = 12 then ((-1), (-1), (-1), true) else
  if o = 13 then ((-1), (-1), (-1), true) else
  if o = 14 then ((-1), (-1), (-1), true) else
  if o = 15 then ((-1), (-1), (-1), true) else
  if o = 16 then ((-1), (-1), (-1), true) else
  if o = 6 then ((-3), 0, 0, true) else
  if o = 23 then ((-3), 0, 0, true) else
  if o = 7 then ((-1), (-3), 0, true) else
  if o = 22 then ((-1), (-3), 0, true) else
  if o = 8 then ((-1), (-4), 0, true) else
  if o = 9 then ((-1), (-4), 0, true) else
  if o = 11 then ((-1), (-4), 0, true) else
  if o = 10 then ((-1), (-4), (-1), true) else
  if o = 19 then ((-1), 0, 0, true) else
  if o = 20 then ((-1), 0, 0, true) else
  if o = 21 then ((-1), 0, 0, true) else
  if o = 24 then ((-1), 0, 0, true) else
  if o = 41 then ((-1), 0, 0, true) else
  if o = 26 then (1, 0, 0, true) else
  if o = 27 then (1, 0, 0, true) else
  if o = 28 then (2, 0, 0, true) else
  if o = 29 then (2, 0, 0, true) else
  if o = 30 then (2, 0, 0, true) else
  if o = 31 then (2, 0, 0, true) else
  if o = 32 then (3, (-1), 0, true) else
  if o = 33 then (3, 0, 0, true) else
  if o = 34 then (4, (-1), 0, true) else
  if o = 35 then (4, 0, 0, true) else
  if o = 36 then (5, 1, 0, true) else
  if o = 37 then (5, 0, 0, true) else
  if o = 38 then (5, 0, 0, true) else
  if o = 39 then (6, (-1), 0, true) else
  if o = 40 then (6, (-1), 0, true) else
  (0, 0, 0, false)
def KeepFit (p : PF) (w n : Int) : Bool :=
  if w = 0 then decide (n = 0) else if w = -1 then decide (n ≥ 0) && decide (n < 4) else if w = -2 then decide (n = IntKind.i64.wrap (IntKind.i32.wrap n)) else if w = -3 then decide (n ≥ 0) && decide (n < ((p.cd.length / 4 : Nat) : Int)) else if w = -4 then decide (n ≥ 0) && decide (n < p.cl)
  else decide (n ≥ 0) && (decide (n < (p.ks.length : Int)) && decide (gI p.ks n.toNat = w))
def KeepOpI (p : PF) (o a b c : Int) : Bool := (KeepSh o).2.2.2 && (KeepFit p (KeepSh o).1 a && (KeepFit p (KeepSh o).2.1 b && KeepFit p (KeepSh o).2.2.1 c))
def KeepPl (p : PF) (o a b c : Int) : Bool := (decide (o ≤ 25) || decide (o = 41)) && KeepOpI p o a b c
def KeepSy (p : PF) (o a b c : Int) : Bool := decide (26 ≤ o) && (decide (o ≤ 40) && KeepOpI p o a b c)
theorem br_sel {d e r : Bool} : br d (r = e) (r = false) = (r = (d && e)) := by cases d <;> rfl
theorem br_idx {n m : Int} {e r : Bool} : br (decide (n ≥ 0)) (br (decide (n < m)) (br (decide (0 ≤ n) && decide (n < m)) (r = e) False) (r = false)) (r = false) = (r = (decide (n ≥ 0) && (decide (n < m) && e))) := by
  have q : decide (n ≥ 0) = decide (0 ≤ n) := rfl
  rw [q]
  cases h : decide (0 ≤ n) <;> cases h' : decide (n < m) <;> rfl
theorem br_if {c : Prop} [Decidable c] {r x y : Bool} : br (decide c) (r = x) (r = y) = (r = if c then x else y) := by
  by_cases h : c <;> simp [h, br]
noncomputable def hFit : Hk := fun vs => match vs with
  | [a, b, c] => some (subS (prgV (cP a)) a ∧ subS (iS (cI b)) b ∧ subS (iS (cI c)) c, bS (KeepFit (cP a) (cI b) (cI c)))
  | _ => none
noncomputable def hShp : Hk := fun vs => match vs with
  | [a] => some (subS (iS (cI a)) a, .tup [.agg [.v (.int .i64 (KeepSh (cI a)).1), .v (.int .i64 (KeepSh (cI a)).2.1), .v (.int .i64 (KeepSh (cI a)).2.2.1)], .c (.v (.bool (KeepSh (cI a)).2.2.2))])
  | _ => none
noncomputable def hPl (f : PF → Int → Int → Int → Int → Bool) : Hk := fun vs => match vs with
  | [a, b] => some (subS (prgV (cP a)) a ∧ subS (insV (cA b 0) (cA b 1) (cA b 2) (cA b 3)) b, bS (f (cP a) (cA b 0) (cA b 1) (cA b 2) (cA b 3)))
  | _ => none
theorem fits_ok : GOK Try.prog 24 hFit := by
  refine gokW mixed tab_ok hkL_nil fun vs s r hg hs => ?_
  unfold hFit at hg
  split at hg <;> try (cases hg; done)
  rename_i a b c
  simp only [Option.some.injEq, Prod.mk.injEq] at hg
  obtain ⟨rfl, rfl⟩ := hg
  refine ⟨noL, 10, [prgV (cP a), iS (cI b), iS (cI c)], ⟨hs.1, hs.2.1, hs.2.2, trivial⟩, ?_⟩
  rw [fits_res]
  simp only [br_idx, br_sel, br_if]
  rfl
theorem br_op {o k : Int} {t e : Prop} (h1 : o = k → t) (h2 : ¬ o = k → e) : br (decide (o = k)) t e := br_in (fun h => h1 (of_decide_eq_true h)) fun h => h2 (of_decide_eq_false h)
theorem shape_ok : GOK Try.prog 23 hShp := by
  refine gokW mixed tab_ok hkL_nil fun vs s r hg hs => ?_
  unfold hShp at hg
  split at hg <;> try (cases hg; done)
  rename_i a
  simp only [Option.some.injEq, Prod.mk.injEq] at hg
  obtain ⟨rfl, rfl⟩ := hg
  refine ⟨noL, 10, [iS (cI a)], ⟨hs, trivial⟩, ?_⟩
  generalize cI a = o at *
  rw [shape_res]
  refine br_op (fun h => ?_) fun h0 => ?_
  · subst h; exact ⟨⟨rfl, rfl, rfl, trivial⟩, rfl, trivial⟩
  refine br_op (fun h => ?_) fun h1 => ?_
  · subst h; exact ⟨⟨rfl, rfl, rfl, trivial⟩, rfl, trivial⟩
  refine br_op (fun h => ?_) fun h2 => ?_
  · subst h; exact ⟨⟨rfl, rfl, rfl, trivial⟩, rfl, trivial⟩
  refine br_op (fun h => ?_) fun h17 => ?_
  · subst h; exact ⟨⟨rfl, rfl, rfl, trivial⟩, rfl, trivial⟩
  refine br_op (fun h => ?_) fun h18 => ?_
  · subst h; exact ⟨⟨rfl, rfl, rfl, trivial⟩, rfl, trivial⟩
  refine br_op (fun h => ?_) fun h25 => ?_
  · subst h; exact ⟨⟨rfl, rfl, rfl, trivial⟩, rfl, trivial⟩
  refine br_op (fun h => ?_) fun h3 => ?_
  · subst h; exact ⟨⟨rfl, rfl, rfl, trivial⟩, rfl, trivial⟩
  refine br_op (fun h => ?_) fun h4 => ?_
  · subst h; exact ⟨⟨rfl, rfl, rfl, trivial⟩, rfl, trivial⟩
  refine br_op (fun h => ?_) fun h5 => ?_
  · subst h; exact ⟨⟨rfl, rfl, rfl, trivial⟩, rfl, trivial⟩
  refine br_op (fun h => ?_) fun h12 => ?_
  · subst h; exact ⟨⟨rfl, rfl, rfl, trivial⟩, rfl, trivial⟩
  refine br_op (fun h => ?_) fun h13 => ?_
  · subst h; exact ⟨⟨rfl, rfl, rfl, trivial⟩, rfl, trivial⟩
  refine br_op (fun h => ?_) fun h14 => ?_
  · subst h; exact ⟨⟨rfl, rfl, rfl, trivial⟩, rfl, trivial⟩
  refine br_op (fun h => ?_) fun h15 => ?_
  · subst h; exact ⟨⟨rfl, rfl, rfl, trivial⟩, rfl, trivial⟩
  refine br_op (fun h => ?_) fun h16 => ?_
  · subst h; exact ⟨⟨rfl, rfl, rfl, trivial⟩, rfl, trivial⟩
  refine br_op (fun h => ?_) fun h6 => ?_
  · subst h; exact ⟨⟨rfl, rfl, rfl, trivial⟩, rfl, trivial⟩
  refine br_op (fun h => ?_) fun h23 => ?_
  · subst h; exact ⟨⟨rfl, rfl, rfl, trivial⟩, rfl, trivial⟩
  refine br_op (fun h => ?_) fun h7 => ?_
  · subst h; exact ⟨⟨rfl, rfl, rfl, trivial⟩, rfl, trivial⟩
  refine br_op (fun h => ?_) fun h22 => ?_
  · subst h; exact ⟨⟨rfl, rfl, rfl, trivial⟩, rfl, trivial⟩
  refine br_op (fun h => ?_) fun h8 => ?_
  · subst h; exact ⟨⟨rfl, rfl, rfl, trivial⟩, rfl, trivial⟩
  refine br_op (fun h => ?_) fun h9 => ?_
  · subst h; exact ⟨⟨rfl, rfl, rfl, trivial⟩, rfl, trivial⟩
  refine br_op (fun h => ?_) fun h11 => ?_
  · subst h; exact ⟨⟨rfl, rfl, rfl, trivial⟩, rfl, trivial⟩
  refine br_op (fun h => ?_) fun h10 => ?_
  · subst h; exact ⟨⟨rfl, rfl, rfl, trivial⟩, rfl, trivial⟩
  refine br_op (fun h => ?_) fun h19 => ?_
  · subst h; exact ⟨⟨rfl, rfl, rfl, trivial⟩, rfl, trivial⟩
  refine br_op (fun h => ?_) fun h20 => ?_
  · subst h; exact ⟨⟨rfl, rfl, rfl, trivial⟩, rfl, trivial⟩
  refine br_op (fun h => ?_) fun h21 => ?_
  · subst h; exact ⟨⟨rfl, rfl, rfl, trivial⟩, rfl, trivial⟩
  refine br_op (fun h => ?_) fun h24 => ?_
  · subst h; exact ⟨⟨rfl, rfl, rfl, trivial⟩, rfl, trivial⟩
  refine br_op (fun h => ?_) fun h41 => ?_
  · subst h; exact ⟨⟨rfl, rfl, rfl, trivial⟩, rfl, trivial⟩
  refine br_op (fun h => ?_) fun h26 => ?_
  · subst h; exact ⟨⟨rfl, rfl, rfl, trivial⟩, rfl, trivial⟩
  refine br_op (fun h => ?_) fun h27 => ?_
  · subst h; exact ⟨⟨rfl, rfl, rfl, trivial⟩, rfl, trivial⟩
  refine br_op (fun h => ?_) fun h28 => ?_
  · subst h; exact ⟨⟨rfl, rfl, rfl, trivial⟩, rfl, trivial⟩
  refine br_op (fun h => ?_) fun h29 => ?_
  · subst h; exact ⟨⟨rfl, rfl, rfl, trivial⟩, rfl, trivial⟩
  refine br_op (fun h => ?_) fun h30 => ?_
  · subst h; exact ⟨⟨rfl, rfl, rfl, trivial⟩, rfl, trivial⟩
  refine br_op (fun h => ?_) fun h31 => ?_
  · subst h; exact ⟨⟨rfl, rfl, rfl, trivial⟩, rfl, trivial⟩
  refine br_op (fun h => ?_) fun h32 => ?_
  · subst h; exact ⟨⟨rfl, rfl, rfl, trivial⟩, rfl, trivial⟩
  refine br_op (fun h => ?_) fun h33 => ?_
  · subst h; exact ⟨⟨rfl, rfl, rfl, trivial⟩, rfl, trivial⟩
  refine br_op (fun h => ?_) fun h34 => ?_
  · subst h; exact ⟨⟨rfl, rfl, rfl, trivial⟩, rfl, trivial⟩
  refine br_op (fun h => ?_) fun h35 => ?_
  · subst h; exact ⟨⟨rfl, rfl, rfl, trivial⟩, rfl, trivial⟩
  refine br_op (fun h => ?_) fun h36 => ?_
  · subst h; exact ⟨⟨rfl, rfl, rfl, trivial⟩, rfl, trivial⟩
  refine br_op (fun h => ?_) fun h37 => ?_
  · subst h; exact ⟨⟨rfl, rfl, rfl, trivial⟩, rfl, trivial⟩
  refine br_op (fun h => ?_) fun h38 => ?_
  · subst h; exact ⟨⟨rfl, rfl, rfl, trivial⟩, rfl, trivial⟩
  refine br_op (fun h => ?_) fun h39 => ?_
  · subst h; exact ⟨⟨rfl, rfl, rfl, trivial⟩, rfl, trivial⟩
  refine br_op (fun h => ?_) fun h40 => ?_
  · subst h; exact ⟨⟨rfl, rfl, rfl, trivial⟩, rfl, trivial⟩
  simp [KeepSh, h0, h1, h2, h17, h18, h25, h3, h4, h5, h12, h13, h14, h15, h16, h6, h23, h7, h22, h8, h9, h11, h10, h19, h20, h21, h24, h41, h26, h27, h28, h29, h30, h31, h32, h33, h34, h35, h36, h37, h38, h39, h40]
theorem num_eq (y : Int) : decide (y = IntKind.i64.wrap (IntKind.i32.wrap y)) = (decide (y ≥ -2147483648) && decide (y ≤ 2147483647)) := by
  rw [IntKind.wrap_i64, IntKind.wrap_i32]
  by_cases h : y ≥ -2147483648 <;> by_cases h2 : y ≤ 2147483647 <;> simp [h, h2] <;> omega
theorem plain_eq (p : PF) (o x y z : Int) : KeepPl p o x y z = if o = 0 then decide (x = 0) && (decide (y = 0) && (decide (z = 0))) else if o = 1 then decide (x ≥ 0) && (decide (x < 4) && (decide (y ≥ -2147483648) && (decide (y ≤ 2147483647) && (decide (z = 0))))) else if o = 2 then decide (x ≥ 0) && (decide (x < 4) && (decide (y ≥ 0) && (decide (y < 4) && (decide (z = 0))))) else if o = 17 then decide (x ≥ 0) && (decide (x < 4) && (decide (y ≥ 0) && (decide (y < 4) && (decide (z = 0))))) else if o = 18 then decide (x ≥ 0) && (decide (x < 4) && (decide (y ≥ 0) && (decide (y < 4) && (decide (z = 0))))) else if o = 25 then decide (x ≥ 0) && (decide (x < 4) && (decide (y ≥ 0) && (decide (y < 4) && (decide (z = 0))))) else if o = 3 then decide (x ≥ 0) && (decide (x < 4) && (decide (y ≥ 0) && (decide (y < 4) && (decide (z ≥ 0) && (decide (z < 4)))))) else if o = 4 then decide (x ≥ 0) && (decide (x < 4) && (decide (y ≥ 0) && (decide (y < 4) && (decide (z ≥ 0) && (decide (z < 4)))))) else if o = 5 then decide (x ≥ 0) && (decide (x < 4) && (decide (y ≥ 0) && (decide (y < 4) && (decide (z ≥ 0) && (decide (z < 4)))))) else if o = 12 then decide (x ≥ 0) && (decide (x < 4) && (decide (y ≥ 0) && (decide (y < 4) && (decide (z ≥ 0) && (decide (z < 4)))))) else if o = 13 then decide (x ≥ 0) && (decide (x < 4) && (decide (y ≥ 0) && (decide (y < 4) && (decide (z ≥ 0) && (decide (z < 4)))))) else if o = 14 then decide (x ≥ 0) && (decide (x < 4) && (decide (y ≥ 0) && (decide (y < 4) && (decide (z ≥ 0) && (decide (z < 4)))))) else if o = 15 then decide (x ≥ 0) && (decide (x < 4) && (decide (y ≥ 0) && (decide (y < 4) && (decide (z ≥ 0) && (decide (z < 4)))))) else if o = 16 then decide (x ≥ 0) && (decide (x < 4) && (decide (y ≥ 0) && (decide (y < 4) && (decide (z ≥ 0) && (decide (z < 4)))))) else if o = 6 then decide (x ≥ 0) && (decide (x < ((p.cd.length / 4 : Nat) : Int)) && (decide (y = 0) && (decide (z = 0)))) else if o = 23 then decide (x ≥ 0) && (decide (x < ((p.cd.length / 4 : Nat) : Int)) && (decide (y = 0) && (decide (z = 0)))) else if o = 7 then decide (x ≥ 0) && (decide (x < 4) && (decide (y ≥ 0) && (decide (y < ((p.cd.length / 4 : Nat) : Int)) && (decide (z = 0))))) else if o = 22 then decide (x ≥ 0) && (decide (x < 4) && (decide (y ≥ 0) && (decide (y < ((p.cd.length / 4 : Nat) : Int)) && (decide (z = 0))))) else if o = 8 then decide (x ≥ 0) && (decide (x < 4) && (decide (y ≥ 0) && (decide (y < p.cl) && (decide (z = 0))))) else if o = 9 then decide (x ≥ 0) && (decide (x < 4) && (decide (y ≥ 0) && (decide (y < p.cl) && (decide (z = 0))))) else if o = 11 then decide (x ≥ 0) && (decide (x < 4) && (decide (y ≥ 0) && (decide (y < p.cl) && (decide (z = 0))))) else if o = 10 then decide (x ≥ 0) && (decide (x < 4) && (decide (y ≥ 0) && (decide (y < p.cl) && (decide (z ≥ 0) && (decide (z < 4)))))) else if o = 19 then decide (x ≥ 0) && (decide (x < 4) && (decide (y = 0) && (decide (z = 0)))) else if o = 20 then decide (x ≥ 0) && (decide (x < 4) && (decide (y = 0) && (decide (z = 0)))) else if o = 21 then decide (x ≥ 0) && (decide (x < 4) && (decide (y = 0) && (decide (z = 0)))) else if o = 24 then decide (x ≥ 0) && (decide (x < 4) && (decide (y = 0) && (decide (z = 0)))) else if o = 41 then decide (x ≥ 0) && (decide (x < 4) && (decide (y = 0) && (decide (z = 0)))) else false := by
  by_cases h0 : o = 0
  · subst h0; simp [KeepPl, KeepOpI, KeepSh, KeepFit, num_eq, Bool.and_assoc]
  by_cases h1 : o = 1
  · subst h1; simp [KeepPl, KeepOpI, KeepSh, KeepFit, num_eq, Bool.and_assoc]
  by_cases h2 : o = 2
  · subst h2; simp [KeepPl, KeepOpI, KeepSh, KeepFit, num_eq, Bool.and_assoc]
  by_cases h17 : o = 17
  · subst h17; simp [KeepPl, KeepOpI, KeepSh, KeepFit, num_eq, Bool.and_assoc]
  by_cases h18 : o = 18
  · subst h18; simp [KeepPl, KeepOpI, KeepSh, KeepFit, num_eq, Bool.and_assoc]
  by_cases h25 : o = 25
  · subst h25; simp [KeepPl, KeepOpI, KeepSh, KeepFit, num_eq, Bool.and_assoc]
  by_cases h3 : o = 3
  · subst h3; simp [KeepPl, KeepOpI, KeepSh, KeepFit, num_eq, Bool.and_assoc]
  by_cases h4 : o = 4
  · subst h4; simp [KeepPl, KeepOpI, KeepSh, KeepFit, num_eq, Bool.and_assoc]
  by_cases h5 : o = 5
  · subst h5; simp [KeepPl, KeepOpI, KeepSh, KeepFit, num_eq, Bool.and_assoc]
  by_cases h12 : o = 12
  · subst h12; simp [KeepPl, KeepOpI, KeepSh, KeepFit, num_eq, Bool.and_assoc]
  by_cases h13 : o = 13
  · subst h13; simp [KeepPl, KeepOpI, KeepSh, KeepFit, num_eq, Bool.and_assoc]
  by_cases h14 : o = 14
  · subst h14; simp [KeepPl, KeepOpI, KeepSh, KeepFit, num_eq, Bool.and_assoc]
  by_cases h15 : o = 15
  · subst h15; simp [KeepPl, KeepOpI, KeepSh, KeepFit, num_eq, Bool.and_assoc]
  by_cases h16 : o = 16
  · subst h16; simp [KeepPl, KeepOpI, KeepSh, KeepFit, num_eq, Bool.and_assoc]
  by_cases h6 : o = 6
  · subst h6; simp [KeepPl, KeepOpI, KeepSh, KeepFit, num_eq, Bool.and_assoc]
  by_cases h23 : o = 23
  · subst h23; simp [KeepPl, KeepOpI, KeepSh, KeepFit, num_eq, Bool.and_assoc]
  by_cases h7 : o = 7
  · subst h7; simp [KeepPl, KeepOpI, KeepSh, KeepFit, num_eq, Bool.and_assoc]
  by_cases h22 : o = 22
  · subst h22; simp [KeepPl, KeepOpI, KeepSh, KeepFit, num_eq, Bool.and_assoc]
  by_cases h8 : o = 8
  · subst h8; simp [KeepPl, KeepOpI, KeepSh, KeepFit, num_eq, Bool.and_assoc]
  by_cases h9 : o = 9
  · subst h9; simp [KeepPl, KeepOpI, KeepSh, KeepFit, num_eq, Bool.and_assoc]
  by_cases h11 : o = 11
  · subst h11; simp [KeepPl, KeepOpI, KeepSh, KeepFit, num_eq, Bool.and_assoc]
  by_cases h10 : o = 10
  · subst h10; simp [KeepPl, KeepOpI, KeepSh, KeepFit, num_eq, Bool.and_assoc]
  by_cases h19 : o = 19
  · subst h19; simp [KeepPl, KeepOpI, KeepSh, KeepFit, num_eq, Bool.and_assoc]
  by_cases h20 : o = 20
  · subst h20; simp [KeepPl, KeepOpI, KeepSh, KeepFit, num_eq, Bool.and_assoc]
  by_cases h21 : o = 21
  · subst h21; simp [KeepPl, KeepOpI, KeepSh, KeepFit, num_eq, Bool.and_assoc]
  by_cases h24 : o = 24
  · subst h24; simp [KeepPl, KeepOpI, KeepSh, KeepFit, num_eq, Bool.and_assoc]
  by_cases h41 : o = 41
  · subst h41; simp [KeepPl, KeepOpI, KeepSh, KeepFit, num_eq, Bool.and_assoc]
  have e : KeepPl p o x y z = false := by
    by_cases c : o ≤ 25
    · have q : KeepSh o = (0, 0, 0, false) := by
        have n26 : ¬ o = 26 := by omega
        have n27 : ¬ o = 27 := by omega
        have n28 : ¬ o = 28 := by omega
        have n29 : ¬ o = 29 := by omega
        have n30 : ¬ o = 30 := by omega
        have n31 : ¬ o = 31 := by omega
        have n32 : ¬ o = 32 := by omega
        have n33 : ¬ o = 33 := by omega
        have n34 : ¬ o = 34 := by omega
        have n35 : ¬ o = 35 := by omega
        have n36 : ¬ o = 36 := by omega
        have n37 : ¬ o = 37 := by omega
        have n38 : ¬ o = 38 := by omega
        have n39 : ¬ o = 39 := by omega
        have n40 : ¬ o = 40 := by omega
        simp [KeepSh, h0, h1, h2, h17, h18, h25, h3, h4, h5, h12, h13, h14, h15, h16, h6, h23, h7, h22, h8, h9, h11, h10, h19, h20, h21, h24, h41, n26, n27, n28, n29, n30, n31, n32, n33, n34, n35, n36, n37, n38, n39, n40]
      unfold KeepPl KeepOpI; rw [q]; simp
    · unfold KeepPl; rw [decide_eq_false c, decide_eq_false h41]; rfl
  rw [e]; simp [h0, h1, h2, h17, h18, h25, h3, h4, h5, h12, h13, h14, h15, h16, h6, h23, h7, h22, h8, h9, h11, h10, h19, h20, h21, h24, h41]
theorem plain_ok : GOK Try.prog 26 (hPl KeepPl) := by
  refine gokW mixed tab_ok hkL_nil fun vs s r hg hs => ?_
  unfold hPl at hg
  split at hg <;> try (cases hg; done)
  rename_i a b
  simp only [Option.some.injEq, Prod.mk.injEq] at hg
  obtain ⟨rfl, rfl⟩ := hg
  refine ⟨noL, 10, [prgV (cP a), insV (cA b 0) (cA b 1) (cA b 2) (cA b 3)], ⟨hs.1, hs.2, trivial⟩, ?_⟩
  generalize cP a = p at *
  generalize cA b 0 = o at *
  generalize cA b 1 = x at *
  generalize cA b 2 = y at *
  generalize cA b 3 = z at *
  rw [plain_res, plain_eq]
  simp only [br_idx, br_sel, br_if]
  by_cases hx : x ≥ 0 <;> by_cases hx4 : x < 4 <;> by_cases hy : y ≥ 0 <;> by_cases hy4 : y < 4 <;> simp [hx, hx4, hy, hy4, br_tt, br_ff]
theorem sync_ok : GOK Try.prog 27 (hPl KeepSy) := by
  refine gokW mixed tab_ok hkL_nil fun vs s r hg hs => ?_
  unfold hPl at hg
  split at hg <;> try (cases hg; done)
  rename_i a b
  simp only [Option.some.injEq, Prod.mk.injEq] at hg
  obtain ⟨rfl, rfl⟩ := hg
  refine ⟨noL, 10, [prgV (cP a), insV (cA b 0) (cA b 1) (cA b 2) (cA b 3)], ⟨hs.1, hs.2, trivial⟩, ?_⟩
  generalize cP a = p at *
  generalize cA b 0 = o at *
  generalize cA b 1 = x at *
  generalize cA b 2 = y at *
  generalize cA b 3 = z at *
  rw [sync_res]
  simp only [br_idx, br_sel, br_if]
  by_cases h26 : o = 26
  · subst h26; simp [KeepSy, KeepOpI, KeepSh, KeepFit, Bool.and_assoc]
  by_cases h27 : o = 27
  · subst h27; simp [KeepSy, KeepOpI, KeepSh, KeepFit, Bool.and_assoc]
  by_cases h28 : o = 28
  · subst h28; simp [KeepSy, KeepOpI, KeepSh, KeepFit, Bool.and_assoc]
  by_cases h29 : o = 29
  · subst h29; simp [KeepSy, KeepOpI, KeepSh, KeepFit, Bool.and_assoc]
  by_cases h30 : o = 30
  · subst h30; simp [KeepSy, KeepOpI, KeepSh, KeepFit, Bool.and_assoc]
  by_cases h31 : o = 31
  · subst h31; simp [KeepSy, KeepOpI, KeepSh, KeepFit, Bool.and_assoc]
  by_cases h32 : o = 32
  · subst h32; simp [KeepSy, KeepOpI, KeepSh, KeepFit, Bool.and_assoc]
  by_cases h33 : o = 33
  · subst h33; simp [KeepSy, KeepOpI, KeepSh, KeepFit, Bool.and_assoc]
  by_cases h34 : o = 34
  · subst h34; simp [KeepSy, KeepOpI, KeepSh, KeepFit, Bool.and_assoc]
  by_cases h35 : o = 35
  · subst h35; simp [KeepSy, KeepOpI, KeepSh, KeepFit, Bool.and_assoc]
  by_cases h36 : o = 36
  · subst h36; simp [KeepSy, KeepOpI, KeepSh, KeepFit, Bool.and_assoc]
  by_cases h37 : o = 37
  · subst h37; simp [KeepSy, KeepOpI, KeepSh, KeepFit, Bool.and_assoc]
  by_cases h38 : o = 38
  · subst h38; simp [KeepSy, KeepOpI, KeepSh, KeepFit, Bool.and_assoc]
  by_cases h39 : o = 39
  · subst h39; simp [KeepSy, KeepOpI, KeepSh, KeepFit, Bool.and_assoc]
  by_cases h40 : o = 40
  · subst h40; simp [KeepSy, KeepOpI, KeepSh, KeepFit, Bool.and_assoc]
  have : (decide (26 ≤ o) && decide (o ≤ 40)) = false := by simp; omega
  have e : KeepSy p o x y z = false := by unfold KeepSy; rw [← Bool.and_assoc, this]; rfl
  rw [e]; simp [h26, h27, h28, h29, h30, h31, h32, h33, h34, h35, h36, h37, h38, h39, h40]
end Go.Proofs.Ytlckkciicchneaa
