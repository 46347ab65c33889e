/- Deferred blocks begin the last one first. No condition. -/
import Derived.Test.YtfolgbjjmapaaaaRT2
import Derived.Test.YtfolgbjjmapaaaaRT3
namespace Go.Proofs.Ytfolgbjjmapaaaa
open SY
open Go.RowKit
set_option linter.unusedSimpArgs false
set_option linter.unusedVariables false
set_option maxRecDepth 100000

theorem hkA_ok : HookOK Try.prog hkA := hkL_cons alive_ok hkL_nil
theorem df_len (xs : List Int) (i : Nat) : (KeepDf xs i).length = i := by
  induction i with
  | zero => rfl
  | succ n ih => show (KeepDf xs n ++ [_]).length = _; rw [List.length_append, ih]; rfl
theorem br_ne {a : Int} {t e : Prop} (k : e) : br (!decide (a = a)) t e := br_n (by rw [decide_eq_true rfl]; rfl) k
theorem d0tt : callT Try.prog hkA tab noL 10 4 [slB [], bS true, bS true] tru := by
  rw [d0tt_res 0 0 0 0 0 0]
  repeat' (first | refine And.intro ?_ ?_ | refine br_ne ?_ | exact trivial | exact rfl)
theorem d0tf : callT Try.prog hkA tab noL 10 4 [slB [], bS true, bS false] tru := by
  rw [d0tf_res 0 0 0 0 0 0]
  repeat' (first | refine And.intro ?_ ?_ | refine br_ne ?_ | exact trivial | exact rfl)
theorem d0ft : callT Try.prog hkA tab noL 10 4 [slB [], bS false, bS true] tru := by
  rw [d0ft_res 0 0 0 0 0 0]
  repeat' (first | refine And.intro ?_ ?_ | refine br_ne ?_ | exact trivial | exact rfl)
theorem d0ff : callT Try.prog hkA tab noL 10 4 [slB [], bS false, bS false] tru := by
  rw [d0ff_res 0 0 0 0 0 0]
  repeat' (first | refine And.intro ?_ ?_ | refine br_ne ?_ | exact trivial | exact rfl)
theorem d1tt (a0 : Int) : callT Try.prog hkA tab noL 10 4 [slB [a0], bS true, bS true] tru := by
  rw [d1tt_res a0 0 0 0 0 0]
  repeat' (first | refine And.intro ?_ ?_ | refine br_ne ?_ | exact trivial | exact rfl)
theorem d1tf (a0 : Int) : callT Try.prog hkA tab noL 10 4 [slB [a0], bS true, bS false] tru := by
  rw [d1tf_res a0 0 0 0 0 0]
  repeat' (first | refine And.intro ?_ ?_ | refine br_ne ?_ | exact trivial | exact rfl)
theorem d1ft (a0 : Int) : callT Try.prog hkA tab noL 10 4 [slB [a0], bS false, bS true] tru := by
  rw [d1ft_res a0 0 0 0 0 0]
  repeat' (first | refine And.intro ?_ ?_ | refine br_ne ?_ | exact trivial | exact rfl)
theorem d1ff (a0 : Int) : callT Try.prog hkA tab noL 10 4 [slB [a0], bS false, bS false] tru := by
  rw [d1ff_res a0 0 0 0 0 0]
  repeat' (first | refine And.intro ?_ ?_ | refine br_ne ?_ | exact trivial | exact rfl)
theorem d2tt (a0 a1 : Int) : callT Try.prog hkA tab noL 10 4 [slB [a0, a1], bS true, bS true] tru := by
  rw [d2tt_res a0 a1 0 0 0 0]
  repeat' (first | refine And.intro ?_ ?_ | refine br_ne ?_ | exact trivial | exact rfl)
theorem d2tf (a0 a1 : Int) : callT Try.prog hkA tab noL 10 4 [slB [a0, a1], bS true, bS false] tru := by
  rw [d2tf_res a0 a1 0 0 0 0]
  repeat' (first | refine And.intro ?_ ?_ | refine br_ne ?_ | exact trivial | exact rfl)
theorem d2ft (a0 a1 : Int) : callT Try.prog hkA tab noL 10 4 [slB [a0, a1], bS false, bS true] tru := by
  rw [d2ft_res a0 a1 0 0 0 0]
  repeat' (first | refine And.intro ?_ ?_ | refine br_ne ?_ | exact trivial | exact rfl)
theorem d2ff (a0 a1 : Int) : callT Try.prog hkA tab noL 10 4 [slB [a0, a1], bS false, bS false] tru := by
  rw [d2ff_res a0 a1 0 0 0 0]
  repeat' (first | refine And.intro ?_ ?_ | refine br_ne ?_ | exact trivial | exact rfl)
theorem d3tt (a0 a1 a2 : Int) : callT Try.prog hkA tab noL 10 4 [slB [a0, a1, a2], bS true, bS true] tru := by
  rw [d3tt_res a0 a1 a2 0 0 0]
  repeat' (first | refine And.intro ?_ ?_ | refine br_ne ?_ | exact trivial | exact rfl)
theorem d3tf (a0 a1 a2 : Int) : callT Try.prog hkA tab noL 10 4 [slB [a0, a1, a2], bS true, bS false] tru := by
  rw [d3tf_res a0 a1 a2 0 0 0]
  repeat' (first | refine And.intro ?_ ?_ | refine br_ne ?_ | exact trivial | exact rfl)
theorem d3ft (a0 a1 a2 : Int) : callT Try.prog hkA tab noL 10 4 [slB [a0, a1, a2], bS false, bS true] tru := by
  rw [d3ft_res a0 a1 a2 0 0 0]
  repeat' (first | refine And.intro ?_ ?_ | refine br_ne ?_ | exact trivial | exact rfl)
theorem d3ff (a0 a1 a2 : Int) : callT Try.prog hkA tab noL 10 4 [slB [a0, a1, a2], bS false, bS false] tru := by
  rw [d3ff_res a0 a1 a2 0 0 0]
  repeat' (first | refine And.intro ?_ ?_ | refine br_ne ?_ | exact trivial | exact rfl)
theorem d4tt (a0 a1 a2 a3 : Int) : callT Try.prog hkA tab noL 10 4 [slB [a0, a1, a2, a3], bS true, bS true] tru := by
  rw [d4tt_res a0 a1 a2 a3 0 0]
  repeat' (first | refine And.intro ?_ ?_ | refine br_ne ?_ | exact trivial | exact rfl)
theorem d4tf (a0 a1 a2 a3 : Int) : callT Try.prog hkA tab noL 10 4 [slB [a0, a1, a2, a3], bS true, bS false] tru := by
  rw [d4tf_res a0 a1 a2 a3 0 0]
  repeat' (first | refine And.intro ?_ ?_ | refine br_ne ?_ | exact trivial | exact rfl)
theorem d4ft (a0 a1 a2 a3 : Int) : callT Try.prog hkA tab noL 10 4 [slB [a0, a1, a2, a3], bS false, bS true] tru := by
  rw [d4ft_res a0 a1 a2 a3 0 0]
  repeat' (first | refine And.intro ?_ ?_ | refine br_ne ?_ | exact trivial | exact rfl)
theorem d4ff (a0 a1 a2 a3 : Int) : callT Try.prog hkA tab noL 10 4 [slB [a0, a1, a2, a3], bS false, bS false] tru := by
  rw [d4ff_res a0 a1 a2 a3 0 0]
  repeat' (first | refine And.intro ?_ ?_ | refine br_ne ?_ | exact trivial | exact rfl)
theorem d5tt (a0 a1 a2 a3 a4 : Int) : callT Try.prog hkA tab noL 10 4 [slB [a0, a1, a2, a3, a4], bS true, bS true] tru := by
  rw [d5tt_res a0 a1 a2 a3 a4 0]
  repeat' (first | refine And.intro ?_ ?_ | refine br_ne ?_ | exact trivial | exact rfl)
theorem d5tf (a0 a1 a2 a3 a4 : Int) : callT Try.prog hkA tab noL 10 4 [slB [a0, a1, a2, a3, a4], bS true, bS false] tru := by
  rw [d5tf_res a0 a1 a2 a3 a4 0]
  repeat' (first | refine And.intro ?_ ?_ | refine br_ne ?_ | exact trivial | exact rfl)
theorem d5ft (a0 a1 a2 a3 a4 : Int) : callT Try.prog hkA tab noL 10 4 [slB [a0, a1, a2, a3, a4], bS false, bS true] tru := by
  rw [d5ft_res a0 a1 a2 a3 a4 0]
  repeat' (first | refine And.intro ?_ ?_ | refine br_ne ?_ | exact trivial | exact rfl)
theorem d5ff (a0 a1 a2 a3 a4 : Int) : callT Try.prog hkA tab noL 10 4 [slB [a0, a1, a2, a3, a4], bS false, bS false] tru := by
  rw [d5ff_res a0 a1 a2 a3 a4 0]
  repeat' (first | refine And.intro ?_ ?_ | refine br_ne ?_ | exact trivial | exact rfl)
theorem d6tt (a0 a1 a2 a3 a4 a5 : Int) : callT Try.prog hkA tab noL 10 4 [slB [a0, a1, a2, a3, a4, a5], bS true, bS true] tru := by
  rw [d6tt_res a0 a1 a2 a3 a4 a5]
  repeat' (first | refine And.intro ?_ ?_ | refine br_ne ?_ | exact trivial | exact rfl)
theorem d6tf (a0 a1 a2 a3 a4 a5 : Int) : callT Try.prog hkA tab noL 10 4 [slB [a0, a1, a2, a3, a4, a5], bS true, bS false] tru := by
  rw [d6tf_res a0 a1 a2 a3 a4 a5]
  repeat' (first | refine And.intro ?_ ?_ | refine br_ne ?_ | exact trivial | exact rfl)
theorem d6ft (a0 a1 a2 a3 a4 a5 : Int) : callT Try.prog hkA tab noL 10 4 [slB [a0, a1, a2, a3, a4, a5], bS false, bS true] tru := by
  rw [d6ft_res a0 a1 a2 a3 a4 a5]
  repeat' (first | refine And.intro ?_ ?_ | refine br_ne ?_ | exact trivial | exact rfl)
theorem d6ff (a0 a1 a2 a3 a4 a5 : Int) : callT Try.prog hkA tab noL 10 4 [slB [a0, a1, a2, a3, a4, a5], bS false, bS false] tru := by
  rw [d6ff_res a0 a1 a2 a3 a4 a5]
  repeat' (first | refine And.intro ?_ ?_ | refine br_ne ?_ | exact trivial | exact rfl)
theorem many_law {xs : List Int} (h : 6 < xs.length) (p r : Bool) : callT Try.prog hkA tab (lhL [(1, hintD xs), (20060, hintNo)]) 10 4 [slB xs, bS p, bS r] tru := by
  rw [many_res]
  have hm : imin (xs.length : Int) 6 = 6 := by unfold imin; rw [if_pos (by omega)]
  have tk : ∀ i : Nat, List.take (i : Int).toNat (KeepDf xs i) = KeepDf xs i := fun i => by rw [Int.toNat_natCast]; exact List.take_of_length_le (by rw [df_len]; exact Nat.le_refl _)
  have d6 : decide ((xs.length : Int) > 6) = true := decide_eq_true (by omega)
  have d7 : decide ((6 : Int) < (xs.length : Int)) = true := decide_eq_true (by omega)
  simp only [hm, df_len, tk, d6, d7]
  refine ⟨trivial, ⟨⟨0⟩, ⟨by decide, Nat.zero_le _⟩, ?_⟩, fun z hz => br_in (fun c => ?_) fun c => ?_⟩
  · simp; rfl
  · have c := of_decide_eq_true c
    have e1 : decide ((z.i : Int) ≥ 6) = false := decide_eq_false (by omega)
    have e2 : decide ((z.i : Int) < (xs.length : Int)) = true := decide_eq_true (by omega)
    have e3 : Nat.ble (z.i + 1) 1099511627776 = true := by rw [Nat.ble_eq]; omega
    simp [e1, e2, e3, br_tt, br_ff]
    refine br_y (decide_eq_true (by omega)) <| br_n ?_ ⟨⟨z.i + 1⟩, ⟨by show z.i + 1 ≤ 6; omega, by show z.i + 1 ≤ xs.length; omega⟩, by show 6 - (z.i + 1) < 6 - z.i; omega, i64_nat (by omega), ?_, rfl⟩
    · rw [decide_eq_true (by simp only [IntKind.wrap_i64]; omega)]; rfl
    · show (1 : Int) + ((z.i + 1 : Nat) : Int) = _
      rw [IntKind.wrap_i64]; omega
  · have c := of_decide_eq_false c
    have e0 : z.i = 6 := by have := hz.1; omega
    have e3 : Nat.ble (6 + 1) 1099511627776 = true := by decide
    simp [e0, e3, br_tt, br_ff]
    exact fun _ h => h.elim
theorem few_law : ∀ (xs : List Int) (p r : Bool), xs.length ≤ 6 → callT Try.prog hkA tab noL 10 4 [slB xs, bS p, bS r] tru
  | [], true, true, _ => d0tt
  | [], true, false, _ => d0tf
  | [], false, true, _ => d0ft
  | [], false, false, _ => d0ff
  | [a0], true, true, _ => d1tt a0
  | [a0], true, false, _ => d1tf a0
  | [a0], false, true, _ => d1ft a0
  | [a0], false, false, _ => d1ff a0
  | [a0, a1], true, true, _ => d2tt a0 a1
  | [a0, a1], true, false, _ => d2tf a0 a1
  | [a0, a1], false, true, _ => d2ft a0 a1
  | [a0, a1], false, false, _ => d2ff a0 a1
  | [a0, a1, a2], true, true, _ => d3tt a0 a1 a2
  | [a0, a1, a2], true, false, _ => d3tf a0 a1 a2
  | [a0, a1, a2], false, true, _ => d3ft a0 a1 a2
  | [a0, a1, a2], false, false, _ => d3ff a0 a1 a2
  | [a0, a1, a2, a3], true, true, _ => d4tt a0 a1 a2 a3
  | [a0, a1, a2, a3], true, false, _ => d4tf a0 a1 a2 a3
  | [a0, a1, a2, a3], false, true, _ => d4ft a0 a1 a2 a3
  | [a0, a1, a2, a3], false, false, _ => d4ff a0 a1 a2 a3
  | [a0, a1, a2, a3, a4], true, true, _ => d5tt a0 a1 a2 a3 a4
  | [a0, a1, a2, a3, a4], true, false, _ => d5tf a0 a1 a2 a3 a4
  | [a0, a1, a2, a3, a4], false, true, _ => d5ft a0 a1 a2 a3 a4
  | [a0, a1, a2, a3, a4], false, false, _ => d5ff a0 a1 a2 a3 a4
  | [a0, a1, a2, a3, a4, a5], true, true, _ => d6tt a0 a1 a2 a3 a4 a5
  | [a0, a1, a2, a3, a4, a5], true, false, _ => d6tf a0 a1 a2 a3 a4 a5
  | [a0, a1, a2, a3, a4, a5], false, true, _ => d6ft a0 a1 a2 a3 a4 a5
  | [a0, a1, a2, a3, a4, a5], false, false, _ => d6ff a0 a1 a2 a3 a4 a5
  | _ :: _ :: _ :: _ :: _ :: _ :: _ :: l, _, _, h => absurd h (by simp)
theorem defers_walk (W : World) (v0 : Value) (xs : List Int) (p r : Bool) (h0 : DS g0 W (slB xs) v0) :
    Calls Try.prog 4 #[v0, .bool p, .bool r] W fun e w' => e = .returned (.bool true) ∧ Below W.heap.size W w' := by
  rcases Nat.lt_or_ge 6 xs.length with h | h
  · exact law (vals := [v0, .bool p, .bool r]) (m := 10) (args := [slB xs, bS p, bS r]) mixed tab_ok hkA_ok (many_law h p r) ⟨h0, rfl, rfl, trivial⟩
  · exact law (vals := [v0, .bool p, .bool r]) (lh := noL) (m := 10) (args := [slB xs, bS p, bS r]) mixed tab_ok hkA_ok (few_law xs p r h) ⟨h0, rfl, rfl, trivial⟩
end Go.Proofs.Ytfolgbjjmapaaaa
