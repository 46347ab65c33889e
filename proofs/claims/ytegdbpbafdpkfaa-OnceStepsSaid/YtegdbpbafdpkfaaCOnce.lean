/- What once's and its reference's steps come to: one and the same plain function each. -/
import Derived.Test.YtegdbpbafdpkfaaROnce
namespace Go.Proofs.Ytegdbpbafdpkfaa
open SX
open Go.RowKit
set_option linter.unusedSimpArgs false
set_option linter.unusedVariables false

def once (w : W6) (f : F) (now pat : Int) : R3 :=
  if f.st = 0 ∧ w.w2 = 1 then (w, F0, { A0 with dn := true })
  else if f.st = 2 ∧ ¬ w.w2 = 1 then (w, F0, { A0 with dn := true, vl := 1 })
  else if f.st = 0 then (w, { f with st := 1, ph := 0 }, A0)
  else if f.st = 2 then (w, { f with st := 3, ph := 0 }, A0)
  else if f.st = 1 then
    if (lock w f now pat).2.2.dn = true then ((lock w f now pat).1, { F0 with op := f.op, si := -1, st := 2 }, A0) else lock w f now pat
  else if f.st = 3 then unlock w f
  else (w, f, A0)
def ende (w : W6) (f : F) : R3 :=
  if f.st = 0 then
    if KeepBit w.w0 0 = false then (w, F0, { A0 with ft := 1 })
    else ({ w with w2 := 1 }, { f with st := 1, ph := 0 }, A0)
  else if f.st = 1 then unlock w f
  else (w, f, A0)

theorem lock_done {w : W6} {f : F} {a b : Int} (h : (lock w f a b).2.2.dn = true) : (lock w f a b).2.2 = { A0 with dn := true } := by
  revert h
  unfold lock
  repeat' split
  all_goals simp [A0]

theorem once_ok (W : World) : GOK Try.prog W 7 (hOFIIs KeepW0 once) := by
  refine gok_OFIIs mixed (hooksM_ok W) (n := 1000) fun x w f a b hs => ?_
  rw [once_res]
  obtain ⟨w0, w1, w2, w3, w4, w5⟩ := w
  obtain ⟨op, st, ph, ol, si, le, aw, sv, ne, fr⟩ := f
  by_cases h0 : st = 0
  · by_cases h2 : w2 = 1 <;> simp [br_iff, once, h0, h2, ret3, objV, frV, actV, F0, A0]
  · by_cases h1 : st = 1
    · cases hd : (lock ⟨w0, w1, w2, w3, w4, w5⟩ ⟨op, st, ph, ol, si, le, aw, sv, ne, fr⟩ a b).2.2.dn
      · simp [br_iff, once, h0, h1] at hd ⊢
        simp [hd, ret3, objV, frV, actV]
      · have he := lock_done hd
        simp [br_iff, once, h0, h1] at hd he ⊢
        simp [hd, he, ret3, objV, frV, actV, F0, A0]
    · by_cases h2 : st = 2
      · by_cases h3 : w2 = 1 <;> simp [br_iff, once, h2, h3, ret3, objV, frV, actV, F0, A0]
      · by_cases h3 : st = 3
        · subst h3
          simp [br_iff, once, ret3, objV, frV, actV]
          exact hs
        · simp [br_iff, once, h0, h1, h2, h3, ret3, objV, frV, actV, A0]

theorem ronce_ok (W : World) : GOK Try.prog W 8 (hOFIIs KeepW0 once) := by
  refine gok_OFIIs mixed (hooksM_ok W) (n := 1000) fun x w f a b hs => ?_
  rw [ronce_res]
  obtain ⟨w0, w1, w2, w3, w4, w5⟩ := w
  obtain ⟨op, st, ph, ol, si, le, aw, sv, ne, fr⟩ := f
  by_cases h0 : st = 0
  · by_cases h2 : w2 = 1 <;> simp [br_iff, once, h0, h2, ret3, objV, frV, actV, F0, A0] <;> try decide
  · by_cases h1 : st = 1
    · cases hd : (lock ⟨w0, w1, w2, w3, w4, w5⟩ ⟨op, st, ph, ol, si, le, aw, sv, ne, fr⟩ a b).2.2.dn
      · simp [br_iff, once, h0, h1] at hd ⊢
        simp [hd, ret3, objV, frV, actV]
      · have he := lock_done hd
        simp [br_iff, once, h0, h1] at hd he ⊢
        simp [hd, he, ret3, objV, frV, actV, F0, A0]
    · by_cases h2 : st = 2
      · by_cases h3 : w2 = 1 <;> simp [br_iff, once, h2, h3, ret3, objV, frV, actV, F0, A0] <;> try decide
      · by_cases h3 : st = 3
        · subst h3
          simp [br_iff, once, ret3, objV, frV, actV]
          exact hs
        · simp [br_iff, once, h0, h1, h2, h3, ret3, objV, frV, actV, A0]

theorem end_ok (W : World) : GOK Try.prog W 9 (hOFs KeepW0 ende) := by
  refine gok_OFs mixed (hooksM_ok W) (n := 1000) fun x w f hs => ?_
  rw [end_res]
  obtain ⟨w0, w1, w2, w3, w4, w5⟩ := w
  obtain ⟨op, st, ph, ol, si, le, aw, sv, ne, fr⟩ := f
  by_cases h0 : st = 0
  · cases h1 : KeepBit w0 0 <;> simp [br_iff, ende, h0, h1, ret3, objV, frV, actV, F0, A0]
  · by_cases h1 : st = 1
    · subst h1
      simp [br_iff, ende, ret3, objV, frV, actV]
      exact hs
    · simp [br_iff, ende, h0, h1, ret3, objV, frV, actV, A0]

theorem rend_ok (W : World) : GOK Try.prog W 10 (hOFs KeepW0 ende) := by
  refine gok_OFs mixed (hooksM_ok W) (n := 1000) fun x w f hs => ?_
  rw [rend_res]
  obtain ⟨w0, w1, w2, w3, w4, w5⟩ := w
  obtain ⟨op, st, ph, ol, si, le, aw, sv, ne, fr⟩ := f
  by_cases h0 : st = 0
  · cases h1 : KeepBit w0 0 <;> simp [br_iff, ende, h0, h1, ret3, objV, frV, actV, F0, A0]
  · by_cases h1 : st = 1
    · subst h1
      simp [br_iff, ende, ret3, objV, frV, actV]
      exact hs
    · simp [br_iff, ende, h0, h1, ret3, objV, frV, actV, A0]

def hTrue : Hk
  | [] => some (True, .bool true)
  | _ => none
theorem alive_ok (W : World) : GOK Try.prog W 5 hTrue := by
  refine gok mixed (hkL_nil _ W) fun vs s v hg _ => ?_
  unfold hTrue at hg
  split at hg <;> cases hg
  refine ⟨noL, 1000, ?_⟩
  rw [alive_res]
  repeat' (first | exact rfl | refine ⟨?_, ?_⟩)

def hooks (W : World) : Hooks := hkL [(5, hTrue), (7, hOFIIs KeepW0 once), (8, hOFIIs KeepW0 once), (9, hOFs KeepW0 ende), (10, hOFs KeepW0 ende), (11, hObj W), (12, hAct)]
theorem hooks_ok (W : World) : HookOK Try.prog W (hooks W) :=
  hkL_cons (alive_ok W) (hkL_cons (once_ok W) (hkL_cons (ronce_ok W) (hkL_cons (end_ok W) (hkL_cons (rend_ok W) (hkL_cons (obj_ok W) (hkL_cons (act_ok W) (hkL_nil _ W)))))))
end Go.Proofs.Ytegdbpbafdpkfaa
