/- MutexOne: the call answers true. No condition. -/
import Derived.Test.YtgnninoehdnciaaRMl
import Derived.Test.YtgnninoehdnciaaLEq
namespace Go.Proofs.Ytgnninoehdnciaa
open SY
open Go.RowKit
set_option linter.unusedSimpArgs false
set_option linter.unusedVariables false

theorem alive_ok : GOK Try.prog 8 hAlive := by
  refine gok mixed tab_ok hkL_nil fun vs s r hg hs => ?_
  unfold hAlive at hg
  split at hg <;> try (cases hg; done)
  simp only [Option.some.injEq, Prod.mk.injEq] at hg
  obtain ⟨rfl, rfl⟩ := hg
  refine ⟨noL, 10, ?_⟩
  show callT Try.prog _ tab noL 10 _ [] tru
  rw [alive_res 0]
theorem const_ok {f : Nat} {h : Hk} {us : List S} {s : Prop} {r : S} (hg : GOK Try.prog f h) (e : h us = some (s, r)) (hs : s) : GOK Try.prog f (hConst us r) := by
  intro vs s' r' h' hs'
  unfold hConst at h'
  simp only [Option.some.injEq, Prod.mk.injEq] at h'
  obtain ⟨rfl, rfl⟩ := h'
  subst hs'
  exact hg _ _ _ e hs
theorem lockC_ok (o : O) (f : Fr) (a b : Int) : GOK Try.prog 10 (hConst [objS o, frS f, iS a, iS b] (lockS o (KeepLk o.w0 f a b))) := by
  refine const_ok lock_ok (h := hLock) (us := [objS o, frS f, iS a, iS b]) rfl ?_
  refine ⟨?_, ?_, ?_, ?_⟩ <;> (repeat' (first | trivial | exact rfl | constructor))
theorem unlockC_ok (o : O) (f : Fr) (h : KeepI o.w0) : GOK Try.prog 16 (hConst [objS o, frS f] (unlockS o (KeepUn o.w0 f))) := by
  refine const_ok unlock_ok (h := hUnlock) (us := [objS o, frS f]) rfl ?_
  refine ⟨?_, ?_, h⟩ <;> (repeat' (first | trivial | exact rfl | constructor))
theorem hk1_ok (o : O) (f : Fr) (a b : Int) (h : KeepI o.w0) : HookOK Try.prog (hk1 o f a b (KeepLk o.w0 f a b) (KeepUn o.w0 f)) :=
  hkL_cons alive_ok <| hkL_cons (lockC_ok o f a b) <| hkL_cons (unlockC_ok o f h) <| hkL_cons locked_ok <| hkL_cons obj_ok hkL_nil

theorem st_bit (o : Int) (sv aw : Bool) (h0 : KeepBit o 0 = false) (h2 : KeepBit o 2 = false) : KeepBit (KeepSt o sv aw) 0 = true := by
  have e : lo3 (KeepSt o sv aw) % 2 = 1 := by
    rcases lo3_cases o with h | h | h | h | h | h | h | h <;> have hm := lo3_mod h <;> simp [KeepBit, h] at h0 h2 <;> cases sv <;> cases aw <;> simp [KeepSt, stD, h] <;> unfold lo3 <;> simp only [IntKind.wrap_i64] <;> omega
  unfold KeepBit
  simp [e]
theorem lock_cases (w : Int) (f : Fr) (a b : Int) :
    (∃ n g, KeepLk w f a b = ⟨n, g, false⟩) ∨
    (∃ n, KeepLk w f a b = ⟨n, F0, true⟩ ∧ (f.ph = 0 ∨ f.ph = 2 → KeepBit w 0 = false ∧ KeepBit n 0 = true)) := by
  unfold KeepLk
  split
  · rename_i h
    exact .inr ⟨1, rfl, fun _ => ⟨by rw [h.2]; decide, by decide⟩⟩
  split
  · exact .inl ⟨w, _, rfl⟩
  split
  · exact .inl ⟨w, _, rfl⟩
  split
  · rename_i h1 _ h2
    split
    · rename_i h
      have hw : w = f.od := Decidable.byContradiction fun e => h1 (.inr ⟨h2, e⟩)
      exact .inr ⟨_, rfl, fun _ => ⟨by rw [hw]; exact h.1, st_bit _ _ _ h.1 h.2⟩⟩
    · exact .inl ⟨_, _, rfl⟩
  split
  · split <;> exact .inl ⟨w, _, rfl⟩
  split
  · rename_i h
    split <;> exact .inr ⟨_, rfl, fun e => by omega⟩
  · exact .inl ⟨w, _, rfl⟩
theorem unlock_cases (w : Int) (f : Fr) :
    (∃ n g d gv hd, KeepUn w f = ⟨n, g, d, gv, hd, 0⟩ ∧ (f.ph = 0 → KeepBit w 0 = true)) ∨
    (KeepUn w f = ⟨w, F0, false, 0, false, 1⟩ ∧ f.ph = 0 ∧ KeepBit w 0 = false) := by
  unfold KeepUn
  split
  · rename_i h0
    split
    · rename_i h; exact .inr ⟨rfl, h0, h⟩
    · rename_i h
      have h : KeepBit w 0 = true := by simpa using h
      split
      · exact .inl ⟨_, _, true, 0, false, rfl, fun _ => h⟩
      split <;> exact .inl ⟨_, _, false, 0, false, rfl, fun _ => h⟩
  rename_i h0
  split
  · split
    · exact .inl ⟨w, _, true, 0, false, rfl, fun e => absurd e h0⟩
    split
    · exact .inl ⟨w, _, false, 0, false, rfl, fun e => absurd e h0⟩
    · exact .inl ⟨_, _, false, 0, false, rfl, fun e => absurd e h0⟩
  split
  · exact .inl ⟨w, _, true, 2, true, rfl, fun e => absurd e h0⟩
  split
  · exact .inl ⟨w, _, true, 2, false, rfl, fun e => absurd e h0⟩
  · exact .inl ⟨w, _, false, 0, false, rfl, fun e => absurd e h0⟩

theorem one_walk (W : World) (v0 v1 : Value) (o : O) (f : Fr) (a b : Int) (h0 : DS g0 W (objS o) v0) (h1 : DS g0 W (frS f) v1) (e1 : o.ns.length % 2 = 0) (e2 : o.ls.length % 2 = 0) (hw : inK (.int .i64) o.w0) :
    Calls Try.prog 5 #[v0, v1, .agg #[.int .i64 a, .int .i64 b]] W fun e w' => e = .returned (.bool true) ∧ Below W.heap.size W w' := by
  have hw : KeepI o.w0 := in_i64 hw
  refine law (vals := [v0, v1, .agg #[.int .i64 a, .int .i64 b]]) (lh := noL) (m := 10) (args := [objS o, frS f, .t (.agg [cInt a, cInt b])]) mixed tab_ok (hk1_ok o f a b hw) ?_ ⟨h0, h1, ⟨_, rfl, rfl, rfl, trivial⟩, trivial⟩
  rcases lock_cases o.w0 f a b with ⟨n, g, e⟩ | ⟨n, e, hl⟩ <;> rcases unlock_cases o.w0 f with ⟨m, g', d, gv, hd, e', hu⟩ | ⟨e', hu⟩ <;> rw [e, e']
  · rw [oneAC_res]
    refine ⟨trivial, br_in (fun _ => rfl) fun g1 => br_in (fun _ => rfl) fun g2 => ?_⟩
    simp only [decide_eq_false_iff_not] at g1 g2
    have k1 : KeepFew 2 o.ns := ⟨by omega, e1⟩
    have k2 : KeepFew 2 o.ls := ⟨by omega, e2⟩
    simp [br_iff, k1, k2]
    exact ⟨hu, fun _ => hu⟩
  · rw [oneAD_res]
    refine ⟨trivial, br_in (fun _ => rfl) fun g1 => br_in (fun _ => rfl) fun g2 => ?_⟩
    simp only [decide_eq_false_iff_not] at g1 g2
    have k1 : KeepFew 2 o.ns := ⟨by omega, e1⟩
    have k2 : KeepFew 2 o.ls := ⟨by omega, e2⟩
    simp [br_iff, k1, k2, hu.1, hu.2, F0]
  · rw [oneBC_res]
    refine ⟨trivial, br_in (fun _ => rfl) fun g1 => br_in (fun _ => rfl) fun g2 => ?_⟩
    simp only [decide_eq_false_iff_not] at g1 g2
    have k1 : KeepFew 2 o.ns := ⟨by omega, e1⟩
    have k2 : KeepFew 2 o.ls := ⟨by omega, e2⟩
    by_cases q0 : f.ph = 0
    · have := hl (.inl q0); have := hu q0; simp_all
    · by_cases q2 : f.ph = 2
      · have := hl (.inr q2); simp_all [br_iff, F0]
      · simp [br_iff, k1, k2, q0, q2, F0]
  · rw [oneBD_res]
    refine ⟨trivial, br_in (fun _ => rfl) fun g1 => br_in (fun _ => rfl) fun g2 => ?_⟩
    simp only [decide_eq_false_iff_not] at g1 g2
    have k1 : KeepFew 2 o.ns := ⟨by omega, e1⟩
    have k2 : KeepFew 2 o.ls := ⟨by omega, e2⟩
    have := hl (.inl hu.1)
    simp [br_iff, k1, k2, hu.1, hu.2, this, F0]
end Go.Proofs.Ytgnninoehdnciaa
