/- The hooks of mutex's steps. -/
import Derived.Test.YtegdbpbafdpkfaaCMut
namespace Go.Proofs.Ytegdbpbafdpkfaa
open SX
open Go.RowKit
set_option linter.unusedVariables false
def hooksM (W : World) : Hooks := hkL [(22, hBit), (21, hLocked), (15, hOFII lock), (18, hOFII lock), (17, hOFs KeepW0 unlock), (20, hOFs KeepW0 unlock)]
theorem hooksM_ok (W : World) : HookOK Try.prog W (hooksM W) :=
  hkL_cons (bit_ok W) (hkL_cons (locked_ok W) (hkL_cons (lock_ok W) (hkL_cons (rlock_ok W) (hkL_cons (unlock_ok W) (hkL_cons (runlock_ok W) (hkL_nil _ W))))))
/-- As hOFII, under a condition. -/
def hOFIIs (s : W6 → F → Prop) (c : W6 → F → Int → Int → R3) : Hk
  | [o, f, .int .i64 a, .int .i64 b] => match decO o with
    | some (x, w) => match decF f with
      | some f => some (s w f, ret3 x (c w f a b))
      | none => none
    | none => none
  | _ => none
theorem gok_OFIIs {P : Program} {W : World} {hk : Hooks} (hm : ProgOK P) (hh : HookOK P W hk) {f : FuncId} {s : W6 → F → Prop} {c : W6 → F → Int → Int → R3} {n : Nat}
    (h : ∀ x w fr a b, s w fr → callL P W hk noL n f [objV x w, frV fr, .int .i64 a, .int .i64 b] (fun u => u = ret3 x (c w fr a b))) : GOK P W f (hOFIIs s c) := by
  refine gok hm hh fun vs p v hg hs => ⟨noL, n, ?_⟩
  unfold hOFIIs at hg
  split at hg <;> try (cases hg; done)
  split at hg <;> try (cases hg; done)
  rename_i ho
  split at hg <;> try (cases hg; done)
  rename_i hf
  simp only [Option.some.injEq, Prod.mk.injEq] at hg
  rw [decO_eq ho, decF_eq hf, ← hg.2]
  rw [← hg.1] at hs
  exact h _ _ _ _ _ hs
end Go.Proofs.Ytegdbpbafdpkfaa
