/- PrimMakes: the law's call. No condition. -/
import Derived.Test.YtapjehgfekjdaaaDoorLQ8
import Derived.Test.YtapjehgfekjdaaaDoorLQ9
namespace Go.Proofs.YtapjehgfekjdaaaDoor
open SY
open Go.RowKit
theorem alive_ok : GOK Tryd.prog 6 hAlive := by
  intro vs s r hg hs
  unfold hAlive at hg
  split at hg <;> try (cases hg; done)
  simp only [Option.some.injEq, Prod.mk.injEq] at hg
  obtain ⟨rfl, rfl⟩ := hg
  refine .inl ⟨isFn_of (fn := Tryd.f6) (by kernel_rfl) (by kernel_rfl) (by kernel_rfl), fun g w vals hb hv => ?_⟩
  obtain rfl := hv.nil_left
  refine (alive_calls w).mono ?_
  rintro e w' ⟨rfl, hbel⟩
  exact ⟨_, rfl, rfl, hbel⟩
theorem ins_open {H : Type} {enc : TypeId × Value → H} {P : Program} {W : World} {t : TypeId} {v : Value} {d : DataW H} {p : List MemPlace} (hag : ∃ cs, v = .agg cs) (hs : shapeT P 20 t = some [.int .i64, .int .i64, .int .i64, .int .i64])
    (h : DataW.Trod enc P W 0 (fun _ => true) true t v d p) : ∃ a b c e : Int, v = .agg #[.int .i64 a, .int .i64 b, .int .i64 c, .int .i64 e] := by
  obtain ⟨cs, rfl⟩ := hag
  have hsh := trod_leafs hs h
  obtain ⟨l⟩ := cs
  simp only [Value.cells] at hsh
  obtain ⟨_, l, rfl, ⟨c0, rfl, r0⟩, q0⟩ := hsh.cons_left
  obtain ⟨_, l, rfl, ⟨c1, rfl, r1⟩, q1⟩ := q0.cons_left
  obtain ⟨_, l, rfl, ⟨c2, rfl, r2⟩, q2⟩ := q1.cons_left
  obtain ⟨_, l, rfl, ⟨c3, rfl, r3⟩, q3⟩ := q2.cons_left
  obtain rfl := q3.nil_left
  exact ⟨c0, c1, c2, c3, rfl⟩
theorem makes_walk (W : World) (k s op a b c : Int) (hs : inK (.int .i64) s) :
    Calls Tryd.prog 4 #[.int .i64 k, .int .i64 s, .agg #[.int .i64 op, .int .i64 a, .int .i64 b, .int .i64 c]] W fun e w' => e = .returned (.bool true) ∧ Below W.heap.size W w' := by
  have h := makes_law k s op a b c (by unfold KeepI; have := in_i64 hs; omega)
  refine calls_val (args := [.c (.v (.int .i64 k)), .c (.v (.int .i64 s)), inT op a b c]) (r := .t (.c (.v (.bool true)))) (hkL_cons alive_ok <| hkL_cons kind_ok <| hkL_cons rkind_ok <| hkL_cons make_ok <| hkL_cons rmake_ok hkL_nil) h rfl rfl W
end Go.Proofs.YtapjehgfekjdaaaDoor
