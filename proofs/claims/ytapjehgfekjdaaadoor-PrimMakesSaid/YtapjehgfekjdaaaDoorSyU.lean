/- What the executor leaves over, taken apart. No condition. -/
import Derived.Test.YtapjehgfekjdaaaDoorSyS
import Derived.Test.YtapjehgfekjdaaaDoorSyT
namespace Go.Proofs.YtapjehgfekjdaaaDoor
open Go.RowKit
namespace SY

theorem br_in {b : Bool} {t e : Prop} (h1 : b = true → t) (h2 : b = false → e) : br b t e := by
  cases b
  · exact h2 rfl
  · exact h1 rfl
theorem br_t {b : Bool} {t e : Prop} (h : b = true) : br b t e = t := by subst h; rfl
theorem br_f {b : Bool} {t e : Prop} (h : b = false) : br b t e = e := by subst h; rfl
theorem br_y {b : Bool} {t e : Prop} (h : b = true) (k : t) : br b t e := by subst h; exact k
theorem br_n {b : Bool} {t e : Prop} (h : b = false) (k : e) : br b t e := by subst h; exact k
theorem br_iff {b : Bool} {t e : Prop} : br b t e ↔ (b = true → t) ∧ (b = false → e) := by cases b <;> simp [br]
theorem br_tt {t e : Prop} : br true t e = t := rfl
theorem br_ff {t e : Prop} : br false t e = e := rfl
theorem w_i64 {n : Int} (h : -9223372036854775808 ≤ n ∧ n ≤ 9223372036854775807) : IntKind.i64.wrap n = n := by rw [IntKind.wrap_i64]; omega
theorem w_u64 {n : Int} (h : 0 ≤ n ∧ n ≤ 18446744073709551615) : IntKind.u64.wrap n = n := by rw [IntKind.wrap_u64]; omega
theorem w_u32 {n : Int} (h : 0 ≤ n ∧ n ≤ 4294967295) : IntKind.u32.wrap n = n := by rw [IntKind.wrap_u32]; omega
theorem w_u8 {n : Int} (h : 0 ≤ n ∧ n ≤ 255) : IntKind.u8.wrap n = n := by rw [IntKind.wrap_u8]; omega
theorem w_i32 {n : Int} (h : -2147483648 ≤ n ∧ n ≤ 2147483647) : IntKind.i32.wrap n = n := by rw [IntKind.wrap_i32]; omega
theorem w_u16 {n : Int} (h : 0 ≤ n ∧ n ≤ 65535) : IntKind.u16.wrap n = n := by rw [IntKind.wrap_u16]; omega

theorem ble_f {a b : Nat} : (a.ble b = false) = (b < a) := by
  apply propext
  rw [← Bool.not_eq_true, Nat.ble_eq]
  omega
theorem in_i8 {x : Int} (h : inK (.int .i8) x) : -128 ≤ x ∧ x ≤ 127 := by
  have h : (Lit.int .i8 x).wf = true := h
  simpa [Lit.wf, IntKind.min, IntKind.max, IntKind.bits, IntKind.signed] using h
theorem in_u8 {x : Int} (h : inK (.int .u8) x) : 0 ≤ x ∧ x ≤ 255 := by
  have h : (Lit.int .u8 x).wf = true := h
  simpa [Lit.wf, IntKind.min, IntKind.max, IntKind.bits, IntKind.signed] using h
theorem in_u32 {x : Int} (h : inK (.int .u32) x) : 0 ≤ x ∧ x ≤ 4294967295 := by
  have h : (Lit.int .u32 x).wf = true := h
  simpa [Lit.wf, IntKind.min, IntKind.max, IntKind.bits, IntKind.signed] using h
theorem in_u64 {x : Int} (h : inK (.int .u64) x) : 0 ≤ x ∧ x ≤ 18446744073709551615 := by
  have h : (Lit.int .u64 x).wf = true := h
  simpa [Lit.wf, IntKind.min, IntKind.max, IntKind.bits, IntKind.signed] using h
theorem in_i64 {x : Int} (h : inK (.int .i64) x) : -9223372036854775808 ≤ x ∧ x ≤ 9223372036854775807 := by
  have h : (Lit.int .i64 x).wf = true := h
  simpa [Lit.wf, IntKind.min, IntKind.max, IntKind.bits, IntKind.signed] using h
theorem at_in {ks : List CK} {xs : List Int} (h : InR ks xs) {i : Nat} (hi : i < xs.length) : inK (kAt ks i) (gI xs i) := h i _ (by simp [gI, hi])
theorem at_in1 {k : CK} {xs : List Int} (h : InR [k] xs) {i : Nat} (hi : i < xs.length) : inK k (gI xs i) := by
  have := at_in h hi
  rwa [show kAt [k] i = k by simp [kAt, Nat.mod_one]] at this


theorem arg_slice {H : Type} {enc : TypeId × Value → H} {P : Program} {W : World} {r : Reach} {base : Nat} {t e : TypeId} {ks : List CK} {v : Value} {d : DataW H} {p : List MemPlace} (ht : P.underlying t = some (.slice e)) (hk : 0 < ks.length) (hs : shapeT P 20 e = some (ks.map ofCK)) (hc : P.cellsOf e = ks.length)
    (hval : Value.okWide P W r base t v) (h : DataW.Trod enc P W 0 (fun _ => true) true t v d p) : ∃ xs, SlD g0 W ks xs none v ∧ InR ks xs := by
  obtain ⟨a, len, cap, rfl⟩ := Go.WideShapes.okWide_slice ht hval
  have hl := trod_leafs (ks := [.slice e]) (by simp [shapeT, ht]) h
  obtain ⟨v', l, e1, h1, _⟩ := hl.cons_left
  have : v' = .slice a len cap := by
    have e2 : (Value.slice a len cap).cells.toList = [.slice a len cap] := rfl
    rw [e2] at e1
    exact (List.cons.inj e1).1.symm
  subst this
  exact leaf_slice hk hs hc h1

/-- A law's call: what it comes to. -/
theorem law {P : Program} {hk : Hooks} {tab : List (Nat × CF)} {lh : LH} {m f : Nat} {args : List S} {W : World} {vals : List Value} (hm : ProgOK P) (ht : TabOK P tab) (hh : HookOK P hk)
    (h : callT P hk tab lh m f args (fun s => s = .t (.c (.v (.bool true))))) (ha : All2 (DS g0 W) args vals) :
    Calls P f vals.toArray W fun e w' => e = .returned (.bool true) ∧ Below W.heap.size W w' :=
  ((callT_ok hm ht hh h).2 g0 W vals (g0_bound W) ha).mono fun e w' ⟨r, v, h1, h2, h3, h4⟩ => by
    subst h2
    have h3 : v = .bool true := h3
    subst h3
    exact ⟨h1, h4⟩
end SY
end Go.Proofs.YtapjehgfekjdaaaDoor
