/- Cells: the laws. No condition. -/
import Derived.Test.YtlapjaodhdifoaaRC2
namespace Go.Proofs.Ytlapjaodhdifoaa
open SY
open Go.RowKit Go.Maps
set_option linter.unusedSimpArgs false
set_option linter.unusedVariables false
set_option maxRecDepth 100000
theorem ldC_ok : GOK Try.prog 6 hLdC := by
  intro vs s r hg hs
  unfold hLdC at hg
  split at hg <;> try (cases hg; done)
  rename_i a b
  simp only [Option.some.injEq, Prod.mk.injEq] at hg
  obtain ⟨rfl, rfl⟩ := hg
  obtain ⟨h1, h2, h3, h4⟩ := hs
  refine load_ok [a, b] (subS (slU (cL a)) a ∧ subS (iS (cI b)) b ∧ KeepLe (cL a)) _ ?_ ⟨h1, h2, h3⟩
  have e1 := congrArg Prod.fst h4
  have e2 := congrArg Prod.snd h4
  simp only at e1 e2
  simp only [hLd, e1, e2]
theorem stC_ok : GOK Try.prog 8 hStC := by
  intro vs s r hg hs
  unfold hStC at hg
  split at hg <;> try (cases hg; done)
  rename_i a b c
  simp only [Option.some.injEq, Prod.mk.injEq] at hg
  obtain ⟨rfl, rfl⟩ := hg
  obtain ⟨h1, h2, h3, h4, h5⟩ := hs
  refine store_ok [a, b, c] (subS (slU (cL a)) a ∧ subS (iS (cI b)) b ∧ subS (uS (cI c)) c ∧ KeepLe (cL a)) _ ?_ ⟨h1, h2, h3, h4⟩
  have e1 := congrArg Prod.fst h5
  have e2 := congrArg Prod.snd h5
  simp only at e1 e2
  simp only [hSt, e1, e2]
theorem swC_ok : GOK Try.prog 10 hSwC := by
  intro vs s r hg hs
  unfold hSwC at hg
  split at hg <;> try (cases hg; done)
  rename_i a b c d
  simp only [Option.some.injEq, Prod.mk.injEq] at hg
  obtain ⟨rfl, rfl⟩ := hg
  obtain ⟨h1, h2, h3, h4, h5, h6⟩ := hs
  refine swap_ok [a, b, c, d] (subS (slU (cL a)) a ∧ subS (iS (cI b)) b ∧ subS (uS (cI c)) c ∧ subS (uS (cI d)) d ∧ KeepLe (cL a)) _ ?_ ⟨h1, h2, h3, h4, h5⟩
  have e1 := congrArg Prod.fst h6
  have e2 := congrArg (fun p => p.2.1) h6
  have e3 := congrArg (fun p => p.2.2) h6
  simp only at e1 e2 e3
  simp only [hSw, e1, e2, e3]
theorem moC_ok : GOK Try.prog 12 hMoC := by
  intro vs s r hg hs
  unfold hMoC at hg
  split at hg <;> try (cases hg; done)
  rename_i a b c
  simp only [Option.some.injEq, Prod.mk.injEq] at hg
  obtain ⟨rfl, rfl⟩ := hg
  obtain ⟨h1, h2, h3, h4, h5⟩ := hs
  refine more_ok [a, b, c] (subS (slU (cL a)) a ∧ subS (iS (cI b)) b ∧ subS (uS (cI c)) c ∧ KeepLe (cL a)) _ ?_ ⟨h1, h2, h3, h4⟩
  have e1 := congrArg Prod.fst h5
  have e2 := congrArg (fun p => p.2.1) h5
  have e3 := congrArg (fun p => p.2.2) h5
  simp only at e1 e2 e3
  simp only [hMo, e1, e2, e3]
theorem le57 : KeepLe [5, 7] := by unfold KeepLe; decide
theorem alive_ok : GOK Try.prog 5 hAlive := by
  refine gok mixed tab_ok (hk := hkAl) (hkL_cons ldC_ok (hkL_cons stC_ok (hkL_cons swC_ok (hkL_cons moC_ok hkL_nil)))) fun vs s r hg hs => ?_
  unfold hAlive at hg
  split at hg <;> try (cases hg; done)
  simp only [Option.some.injEq, Prod.mk.injEq] at hg
  obtain ⟨rfl, rfl⟩ := hg
  refine ⟨noL, 10, ?_⟩
  show callT Try.prog _ tab noL 10 _ [] tru
  rw [alive_res 0]
  have l1 : KeepLdC [5, 7] 1 := ⟨le57, by decide⟩
  have l2 : KeepLdC [5, 7] 2 := ⟨le57, by decide⟩
  have s1 : KeepStC [5, 7] 0 9 := ⟨le57, by decide⟩
  have w1 : KeepSwC [5, 7] 1 7 8 := ⟨le57, by decide⟩
  have w2 : KeepSwC [5, 7] 1 8 7 := ⟨le57, by decide⟩
  have m1 : KeepMoC [5, 7] 0 18446744073709551615 := ⟨le57, by decide⟩
  simp only [l1, l2, s1, w1, w2, m1, and_self]
theorem hkC_ok : HookOK Try.prog (hkC KeepAt KeepIn KeepSt KeepSw KeepWs KeepMo KeepMx KeepEq) :=
  hkL_cons alive_ok <| hkL_cons load_ok <| hkL_cons store_ok <| hkL_cons swap_ok <| hkL_cons more_ok <| hkL_cons rload_ok <| hkL_cons rstore_ok <| hkL_cons rswap_ok <| hkL_cons rmore_ok <| hkL_cons words_ok <| hkL_cons equal_ok hkL_nil
theorem eq_refl' (l : List Int) : KeepEq l l = true := by simp [KeepEq]
theorem st_len {xs : List Int} {i y : Int} : (KeepSt xs i y).length ≤ xs.length := by
  unfold KeepSt; split <;> simp
theorem answers_law {xs : List Int} {i x y : Int} : callT Try.prog (hkC KeepAt KeepIn KeepSt KeepSw KeepWs KeepMo KeepMx KeepEq) tab noL 10 3 [slU xs, iS i, aS2 x y] tru := by
  rw [cans_res]
  simp only [cL_eq, cI_i, cI_u, List.nil_append, Nat.zero_add, eq_refl', decide_true, br_tt, and_true, true_and]
  refine br_in (fun c => trivial) fun c => ?_
  have c : ¬ ((xs.length : Nat) : Int) > 100 := of_decide_eq_false c
  have h1 : KeepLe xs := by unfold KeepLe; omega
  have f0 : KeepFew xs := by unfold KeepFew; omega
  have f1 : ∀ y, KeepFew (KeepSt xs i y) := fun y => by unfold KeepFew; have := st_len (xs := xs) (i := i) (y := y); omega
  have f2 : KeepFew (KeepSt xs i x) := f1 _
  have f3 : ∀ a b, KeepFew (KeepSw xs i a b) := fun a b => f1 _
  have f4 : ∀ a, KeepFew (KeepMo xs i a) := fun a => f1 _
  refine br_y (ble_of (by omega)) ?_
  simp [h1, f0, f1, f3, f4, br_tt, br_ff]
theorem lenE_u (xs : List Int) : lenE [CK.int IntKind.u64] xs = xs.length := by simp [lenE]
theorem mulE_one (n : Nat) : mulE 1 n = n := rfl
theorem rd_u (a : Int) : rdV (CK.int IntKind.u64) a = Value.int IntKind.u64 a := rfl
theorem in_at {xs : List Int} {n : Nat} (h : n < xs.length) : KeepIn xs n = true := in_yes (by omega) (by omega)
theorem at_at {xs : List Int} {n : Nat} (h : n < xs.length) : KeepAt xs n = gI xs n := by unfold KeepAt; rw [if_pos (in_at h), Int.toNat_natCast]
theorem st_at {xs : List Int} {n : Nat} {y : Int} (h : n < xs.length) : KeepSt xs n y = xs.set n y := by unfold KeepSt; rw [if_pos (in_at h), Int.toNat_natCast]
theorem sw_at {xs : List Int} {n : Nat} {o y : Int} (h : n < xs.length) (e : gI xs n = o) : KeepSw xs n o y = xs.set n y := by unfold KeepSw; rw [at_at h, if_pos e, st_at h]
theorem ws_at {xs : List Int} {n : Nat} {o : Int} (h : n < xs.length) (e : gI xs n = o) : KeepWs xs n o = true := by unfold KeepWs; rw [in_at h, at_at h, decide_eq_true e]; rfl
theorem mo_at {xs : List Int} {n : Nat} {y : Int} (h : n < xs.length) : KeepMo xs n y = xs.set n (IntKind.u64.wrap (gI xs n + y)) := by unfold KeepMo; rw [at_at h, st_at h]
theorem mx_at {xs : List Int} {n : Nat} {y : Int} (h : n < xs.length) : KeepMx xs n y = IntKind.u64.wrap (gI xs n + y) := by unfold KeepMx; rw [if_pos (in_at h), at_at h]
theorem g_set {xs : List Int} {n : Nat} {y : Int} (h : n < xs.length) : gI (xs.set n y) n = y := by simp [gI, List.getD_eq_getElem?_getD, h]
theorem g_other {xs : List Int} {n m : Nat} {y : Int} (h : n ≠ m) : gI (xs.set n y) m = gI xs m := by simp [gI, List.getD_eq_getElem?_getD, List.getElem?_set, h]
theorem set_back {xs : List Int} {n : Nat} {y : Int} (h : n < xs.length) : (xs.set n y).set n (gI xs n) = xs := by
  have : gI xs n = xs[n] := by simp [gI, h]
  rw [this, List.set_set, List.set_getElem_self]
theorem back_law {xs : List Int} {p q x y z : Int} (hp : 0 ≤ p ∧ p ≤ 255) (hq : 0 ≤ q ∧ q ≤ 255) : callT Try.prog (hkC KeepAt KeepIn KeepSt KeepSw KeepWs KeepMo KeepMx KeepEq) tab noL 10 4 [slU xs, b2 p q, aS3 x y z] tru := by
  rw [cback_res]
  simp only [lenE_u, mulE_one, rd_u, cL_eq, cI_i, cI_u, List.nil_append, Nat.zero_add, eq_refl', decide_true, br_tt, and_true, true_and]
  refine br_in (fun c => trivial) fun c => br_in (fun c1 => trivial) fun c1 => ?_
  have c : ¬ ((xs.length : Nat) : Int) > 100 := of_decide_eq_false c
  have c2 : ¬ ((xs.length : Nat) : Int) = 0 := of_decide_eq_false c1
  rw [w_i64 (show -9223372036854775808 ≤ p ∧ p ≤ 9223372036854775807 by omega), w_i64 (show -9223372036854775808 ≤ q ∧ q ≤ 9223372036854775807 by omega), c1]
  have tm : ∀ a : Int, 0 ≤ a → ∃ n : Nat, n < xs.length ∧ a.tmod (xs.length : Int) = n := fun a ha => by
    have h1 := Int.emod_nonneg a c2
    have h2 := Int.emod_lt_of_pos a (show (0 : Int) < xs.length by omega)
    rw [Int.tmod_eq_emod_of_nonneg ha]
    exact ⟨(a % xs.length).toNat, by omega, by omega⟩
  obtain ⟨n, hn, e1⟩ := tm p hp.1
  obtain ⟨m, hm, e2⟩ := tm q hq.1
  rw [e1, e2]
  have i1 : (decide (0 ≤ (n : Int)) && decide ((n : Int) < xs.length)) = true := by simp; omega
  have i2 : (decide (0 ≤ (m : Int)) && decide ((m : Int) < xs.length)) = true := by simp; omega
  have le : ∀ l : List Int, l.length = xs.length → KeepLe l := fun l h => by unfold KeepLe; omega
  have fe : ∀ l : List Int, l.length = xs.length → KeepFew l := fun l h => by unfold KeepFew; omega
  have hn1 : ∀ v : Int, n < (xs.set n v).length := fun v => by simpa using hn
  simp only [Int.toNat_natCast, i1, i2, br_tt, br_ff, Bool.not_false, Bool.not_true, in_at hn, sw_at hn rfl, ws_at hn rfl, mo_at hn, st_at hn, in_at (hn1 _), sw_at (hn1 _) (g_set hn), ws_at (hn1 _) (g_set hn), mo_at (hn1 _), mx_at (hn1 _), g_set hn, set_back hn, List.set_set, List.length_set, le _ rfl, le _ (List.length_set ..), fe _ rfl, fe _ (List.length_set ..), eq_refl', true_and, and_true, decide_true]
  by_cases h : n = m
  · subst h
    simp [g_set hn, br_tt]
  · have h' : ¬ ((n : Nat) : Int) = (m : Nat) := by omega
    simp [h, h', g_other h, br_tt, br_ff]
section
variable {H : Type} {enc : TypeId × Value → H} {P : Program} {W : World}
theorem arr2u_open {t : TypeId} {v : Value} {d : DataW H} {p : List MemPlace} (hag : ∃ cs, v = .agg cs) (hs : shapeT P 20 t = some [.int .u64, .int .u64])
    (h : DataW.Trod enc P W 0 (fun _ => true) true t v d p) : ∃ a b, v = .agg #[.int .u64 a, .int .u64 b] := by
  obtain ⟨cs, rfl⟩ := hag
  have hsh := trod_leafs hs h
  obtain ⟨l⟩ := cs
  simp only [Value.cells] at hsh
  obtain ⟨_, l, rfl, ⟨a, rfl, _⟩, q0⟩ := hsh.cons_left
  obtain ⟨_, l, rfl, ⟨b, rfl, _⟩, q1⟩ := q0.cons_left
  obtain rfl := q1.nil_left
  exact ⟨a, b, rfl⟩
theorem arr2b_open {t : TypeId} {v : Value} {d : DataW H} {p : List MemPlace} (hag : ∃ cs, v = .agg cs) (hs : shapeT P 20 t = some [.int .u8, .int .u8])
    (h : DataW.Trod enc P W 0 (fun _ => true) true t v d p) : ∃ a b, v = .agg #[.int .u8 a, .int .u8 b] ∧ inK (.int .u8) a ∧ inK (.int .u8) b := by
  obtain ⟨cs, rfl⟩ := hag
  have hsh := trod_leafs hs h
  obtain ⟨l⟩ := cs
  simp only [Value.cells] at hsh
  obtain ⟨_, l, rfl, ⟨a, rfl, ra⟩, q0⟩ := hsh.cons_left
  obtain ⟨_, l, rfl, ⟨b, rfl, rb⟩, q1⟩ := q0.cons_left
  obtain rfl := q1.nil_left
  exact ⟨a, b, rfl, ra, rb⟩
theorem arr3u_open {t : TypeId} {v : Value} {d : DataW H} {p : List MemPlace} (hag : ∃ cs, v = .agg cs) (hs : shapeT P 20 t = some [.int .u64, .int .u64, .int .u64])
    (h : DataW.Trod enc P W 0 (fun _ => true) true t v d p) : ∃ a b c, v = .agg #[.int .u64 a, .int .u64 b, .int .u64 c] := by
  obtain ⟨cs, rfl⟩ := hag
  have hsh := trod_leafs hs h
  obtain ⟨l⟩ := cs
  simp only [Value.cells] at hsh
  obtain ⟨_, l, rfl, ⟨a, rfl, _⟩, q0⟩ := hsh.cons_left
  obtain ⟨_, l, rfl, ⟨b, rfl, _⟩, q1⟩ := q0.cons_left
  obtain ⟨_, l, rfl, ⟨c, rfl, _⟩, q2⟩ := q1.cons_left
  obtain rfl := q2.nil_left
  exact ⟨a, b, c, rfl⟩
end
theorem answers_walk (W : World) (v0 : Value) (xs : List Int) (i x y : Int) (h : DS g0 W (slU xs) v0) :
    Calls Try.prog 3 #[v0, .int .i64 i, .agg #[.int .u64 x, .int .u64 y]] W fun e w' => e = .returned (.bool true) ∧ Below W.heap.size W w' :=
  law (vals := [v0, .int .i64 i, .agg #[.int .u64 x, .int .u64 y]]) (lh := noL) (m := 10) (args := [slU xs, iS i, aS2 x y]) mixed tab_ok hkC_ok answers_law ⟨h, rfl, ⟨[_, _], rfl, rfl, rfl, trivial⟩, trivial⟩
theorem back_walk (W : World) (v0 : Value) (xs : List Int) (p q x y z : Int) (h : DS g0 W (slU xs) v0) (hp : inK (.int .u8) p) (hq : inK (.int .u8) q) :
    Calls Try.prog 4 #[v0, .agg #[.int .u8 p, .int .u8 q], .agg #[.int .u64 x, .int .u64 y, .int .u64 z]] W fun e w' => e = .returned (.bool true) ∧ Below W.heap.size W w' :=
  law (vals := [v0, .agg #[.int .u8 p, .int .u8 q], .agg #[.int .u64 x, .int .u64 y, .int .u64 z]]) (lh := noL) (m := 10) (args := [slU xs, b2 p q, aS3 x y z]) mixed tab_ok hkC_ok (back_law (in_u8 hp) (in_u8 hq)) ⟨h, ⟨[_, _], rfl, rfl, rfl, trivial⟩, ⟨[_, _, _], rfl, rfl, rfl, rfl, trivial⟩, trivial⟩
end Go.Proofs.Ytlapjaodhdifoaa
