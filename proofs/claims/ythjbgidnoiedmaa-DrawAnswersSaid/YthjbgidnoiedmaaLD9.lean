/- Draw's words and answers: the laws' walks. No condition. -/
import Derived.Test.YthjbgidnoiedmaaLD8
namespace Go.Proofs.Ythjbgidnoiedmaa
open SY
open Go.RowKit
set_option linter.unusedSimpArgs false
set_option linter.unusedVariables false

theorem rmany_okV : GOK Try.prog 13 (hManyV KeepMl KeepMt) := rmany_ok
theorem below_okV : GOK Try.prog 15 (hBelowV KeepBl) := below_ok
theorem rbelow_okV : GOK Try.prog 16 (hBelowV KeepBl) := rbelow_ok
theorem hkT_ok : HookOK Try.prog (hkT KeepUn KeepBl KeepCh) := hkL_cons alive_ok <| hkL_cons unit_ok <| hkL_cons runit_ok <| hkL_cons below_okV <| hkL_cons rbelow_okV <| hkL_cons chance_ok <| hkL_cons rchance_ok hkL_nil
theorem hkS_ok : HookOK Try.prog (hkS KeepUn KeepBl KeepCh KeepNx KeepWd KeepBk KeepMl KeepMt KeepEq) := hkL_cons alive_ok <| hkL_cons unit_ok <| hkL_cons runit_ok <| hkL_cons below_okV <| hkL_cons rbelow_okV <| hkL_cons chance_ok <| hkL_cons rchance_ok <|
  hkL_cons next_ok <| hkL_cons rnext_ok <| hkL_cons back_ok <| hkL_cons many_okV <| hkL_cons rmany_okV <| hkL_cons words_ok hkL_nil
theorem words_walk (W : World) (w p n : Int) (hw : KeepU w) (hp : KeepU p) (hn : KeepI n) :
    Calls Try.prog 4 #[.int .u64 w, .int .u64 p, .int .i64 n] W fun e w' => e = .returned (.bool true) ∧ Below W.heap.size W w' := by
  refine law (vals := [.int .u64 w, .int .u64 p, .int .i64 n]) (lh := noL) (m := 10) (args := [uS w, uS p, iS n]) mixed tab_ok hkT_ok ?_ ⟨rfl, rfl, rfl, trivial⟩
  rw [lwords_res]
  simp [hw, hp, hn, br_tt]
theorem wd_U {z : Int} (hz : KeepU z) : KeepU (KeepWd z) := by
  obtain ⟨a, rfl⟩ := Int.eq_ofNat_of_zero_le hz.1
  have ha : a < 18446744073709551616 := by have := hz.2; omega
  rw [wd_eq ha]
  have := xs_lt (d := 31) (mxN_lt (mxN a 30 13787848793156543929) 27 10723151780598845931)
  exact ⟨by omega, by omega⟩
theorem ml_few (s n : Int) : KeepFew (KeepMl s n) := by
  unfold KeepFew KeepMl
  have := wl_len s (cntI n)
  unfold KeepWl at this
  rw [this]
  unfold cntI
  split <;> omega
theorem answers_walk (W : World) (s n p : Int) (hs : KeepU s) (hn : KeepI n) (hp : KeepU p) :
    Calls Try.prog 3 #[.int .u64 s, .int .i64 n, .int .u64 p] W fun e w' => e = .returned (.bool true) ∧ Below W.heap.size W w' := by
  refine law (vals := [.int .u64 s, .int .i64 n, .int .u64 p]) (lh := noL) (m := 10) (args := [uS s, iS n, uS p]) mixed tab_ok hkS_ok ?_ ⟨rfl, rfl, rfl, trivial⟩
  rw [lansw_res]
  have c1 : ∀ x, cI (S.t (T.c (SC.v (Value.int IntKind.u64 x)))) = x := fun _ => rfl
  have c2 : ∀ x, cI (S.t (T.c (SC.v (Value.int IntKind.i64 x)))) = x := fun _ => rfl
  have hw : KeepU (KeepWd (KeepNx s)) := wd_U (nx_U s)
  have hx : KeepU (KeepNx s) := nx_U s
  have q : ∀ l, KeepEq l l = true := fun l => by unfold KeepEq; simp
  simp [c1, c2, hs, hp, hn, br_tt, ml_few, q, hw, hx, bk_nx hs]
end Go.Proofs.Ythjbgidnoiedmaa
