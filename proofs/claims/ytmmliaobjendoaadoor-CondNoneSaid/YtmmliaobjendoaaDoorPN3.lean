/- Two slices, one behind the other: slices.Concat, by hand. No condition. -/
import Derived.Test.YtmmliaobjendoaaDoorPN1
import Derived.Test.YtmmliaobjendoaaDoorSyV
import Derived.OwnWalk
namespace Go.Proofs.YtmmliaobjendoaaDoor
open Go.RowKit Go.Maps
set_option linter.unusedVariables false
theorem wp_append {P : Program} (w w' : World) {ops : Array Oper} {rest : List Oper} {o : Oper} {a : Act} {Q : Exit → Act → World → Prop} (hg : o.guard = none) (t u : TypeId) (x y : Operand) (hop : o.op = .call ⟨.builtin .append, #[x, y], #[t, u]⟩) (vx vy v' : Value)
    (hx : a.eval x = vx) (hy : a.eval y = vy) (hrun : (Builtin.append_ #[t, u] o.type #[vx, vy]).run P w = .ok v' w') (hK : wpList P ops Q rest (a.put o.dst v') w') : wpList P ops Q (o :: rest) a w := by
  refine wpList_plain hg fun K' hK' => ?_
  unfold Oper.wp
  simp [execOp, hop, resolve, invoke, builtin, hx, hy, hrun, Result.andThen]
  exact hK' _ _ hK
theorem run_append_make {P : Program} (w : World) (t ty e u : TypeId) (i : TypeInfo) (z : Value) (ht : P.underlying t = some (.slice e)) (hu : P.underlying u = some (.int .i64)) (hi : P.info? e = some i) (hz : i.zero = some z) (n : Nat) (h0 : 0 < n) (hs : 0 < i.size) (hb : n * i.bytes ≤ 281474976710656) (hn : n ≤ 9223372036854775807) :
    (Builtin.append_ #[t, u] ty #[.slice none 0 0, .int .i64 (n : Int)]).run P w =
      .ok (.slice (some ⟨w.heap.size, 0, none⟩) n (grownCap w n 0 e)) (w.drew.alloc (.cells (Builtin.zeroCells z.cells n ++ Builtin.zeroCells z.cells (grownCap w n 0 e - n)) e)) := by
  have w0 : IntKind.i64.wrap (n : Int) = n := by rw [IntKind.wrap_i64]; omega
  have n0 : ¬ (n : Int) < 0 := by omega
  have n1 : n ≠ 0 := by omega
  have n2 : i.size ≠ 0 := by omega
  have b1 : ¬ (281474976710656 < (n : Int) * (i.bytes : Int)) := by
    have : ((n * i.bytes : Nat) : Int) ≤ 281474976710656 := by omega
    rw [Int.natCast_mul] at this; omega
  have h63' : ¬ (9223372036854775807 < (n : Int)) := by omega
  have h48' : ¬ (281474976710656 < Builtin.nextslicecap n 0 * i.bytes) := by rw [nextslicecap_zero h0]; omega
  have hz0 : n * i.size ≠ 0 := Nat.mul_ne_zero n1 n2
  simp [Builtin.append_, run_underlying ht, run_underlying hu, asInt, asIntOf, sizeOf, typeInfo, zeroValue, hi, hz, Builtin.lenOf, w0, n0, n1, n2, b1, h63', h48', hz0, Question.forced, run_firstCells_none, newRow, grownCap]
theorem concat_none (w : World) (b0 off : Nat) (a1 a2 : Option Addr) (c1 c2 : Nat) (h0 : w.cell? ⟨b0, off, none⟩ = some (.slice a1 0 c1)) (h1 : w.cell? ⟨b0, off + 1, none⟩ = some (.slice a2 0 c2)) :
    Calls Tryd.prog 26 #[.slice (some ⟨b0, off, none⟩) 2 2] w fun e w' => e = .returned (.slice none 0 0) ∧ Below w.heap.size w w' := by
  obtain ⟨ti, z, hel⟩ := SY.el_ok (P := Tryd.prog) (e := 67) (ks := [.int .u32, .int .i64]) (by kernel_rfl) (by kernel_rfl)
  have z := fun (w : World) (a : Option Addr) (c : Nat) => SY.run_append_zero (P := Tryd.prog) w 24 24 67 ti Tryd.underlying24 hel.info none 0 0 a c (Nat.le_refl _)
  go_enter Tryd.func26, Tryd.ntmps26
  go_wp2
  refine wp_loop_rounds 3 ?_
  rw [rounds_succ]; go_wp2
  rw [rounds_succ]; go_wp2
  rw [rounds_succ]; go_wp2
  refine wp_loop_rounds 3 ?_
  rw [rounds_succ]
  go_wp2_with (first | (at_builtin; refine wp_append _ _ rfl 24 24 _ _ rfl _ _ _ rfl rfl (z _ _ _) ?_) | go_in)
  rw [rounds_succ]
  go_wp2_with (first | (at_builtin; refine wp_append _ _ rfl 24 24 _ _ rfl _ _ _ rfl rfl (z _ _ _) ?_) | go_in)
  rw [rounds_succ]; go_wp2
  go_ret
  exact ⟨rfl, Below.refl _ _⟩
set_option maxRecDepth 100000 in
theorem concat_some (w W1 w2 w3 : World) (b0 off : Nat) (a1 a2 v2 v3 : Option Addr) (B n1 n2 c1 c2 cap m2 m3 d2 d3 : Nat) (hn : 0 < n1 + n2) (hN : n1 + n2 ≤ 1000) (h0 : w.cell? ⟨b0, off, none⟩ = some (.slice a1 n1 c1)) (h1 : w.cell? ⟨b0, off + 1, none⟩ = some (.slice a2 n2 c2))
    (h0' : W1.cell? ⟨b0, off, none⟩ = some (.slice a1 n1 c1)) (h1' : w2.cell? ⟨b0, off + 1, none⟩ = some (.slice a2 n2 c2))
    (hmk : (Builtin.append_ #[24, 3] 24 #[.slice none 0 0, .int .i64 ((n1 : Int) + (n2 : Int))]).run Tryd.prog w = .ok (.slice (some ⟨B, 0, none⟩) (n1 + n2) cap) W1)
    (r1 : (Builtin.append_ #[24, 24] 24 #[.slice (some ⟨B, 0, none⟩) 0 cap, .slice a1 n1 c1]).run Tryd.prog W1 = .ok (.slice v2 m2 d2) w2)
    (r2 : (Builtin.append_ #[24, 24] 24 #[.slice v2 m2 d2, .slice a2 n2 c2]).run Tryd.prog w2 = .ok (.slice v3 m3 d3) w3) :
    Calls Tryd.prog 26 #[.slice (some ⟨b0, off, none⟩) 2 2] w fun e w' => e = .returned (.slice v3 m3 d3) ∧ w' = w3 := by
  go_enter Tryd.func26, Tryd.ntmps26
  go_wp2
  refine wp_loop_rounds 3 ?_
  rw [rounds_succ]; go_wp2
  rw [rounds_succ]; go_wp2
  rw [rounds_succ]
  go_wp2_with (first | (at_builtin; refine wp_append _ _ rfl 24 3 _ _ rfl _ _ _ rfl rfl hmk ?_) | go_in)
  refine wp_loop_rounds 3 ?_
  rw [rounds_succ]
  go_wp2_with (first | (at_builtin; refine wp_append _ _ rfl 24 24 _ _ rfl _ _ _ rfl rfl r1 ?_) | go_in)
  rw [rounds_succ]
  go_wp2_with (first | (at_builtin; refine wp_append _ _ rfl 24 24 _ _ rfl _ _ _ rfl rfl r2 ?_) | go_in)
  rw [rounds_succ]; go_wp2
  go_ret
  exact ⟨rfl, rfl⟩
open SY in
noncomputable def lS (a : SC) : List Int := match asL a with
  | some l => l
  | none => []
def KeepSh (xs ys : List Int) : Prop := xs.length + ys.length ≤ 2000
open SY in
noncomputable def hConcat : Hk := fun vs => match vs with
  | [.nest [a, b]] => some (subC (.sl [.int .u32, .int .i64] (lS a) none) a ∧ subC (.sl [.int .u32, .int .i64] (lS b) none) b ∧ KeepSh (lS a) (lS b), .t (.c (.sl [.int .u32, .int .i64] (lS a ++ lS b) none)))
  | _ => none
theorem isFn_concat : SY.IsFn Tryd.prog 26 := by
  have h : Tryd.f26.body.isSome = true := by kernel_rfl
  obtain ⟨c, hc⟩ := Option.isSome_iff_exists.1 h
  exact ⟨_, c, by kernel_rfl, hc, by kernel_rfl⟩
open SY in
theorem mem_start {g : G} {w : World} (hb : Bound g w) : Mem (Lim g) w ⟨fun _ => none, fun _ => none, fun _ => none, Lim g⟩ .lf w := by
  have hlk : ∀ i, lkB (.lf : Tr (Option Blk)) i = none := fun _ => rfl
  exact ⟨Below.refl _ _, rfl, hb, fun k B hB => (by rw [hlk] at hB; cases hB), fun k b h => (by cases h), fun k e i h => (by cases h), fun k q h => (by cases h), fun k k' b h => (by cases h), fun k k' b f f' h => (by cases h), fun k k' b f h => (by cases h), fun k b f h => (by cases h)⟩
open SY in
theorem lim_start {g : G} {b f : Nat} (h : Lim (⟨fun _ => none, fun _ => none, fun _ => none, Lim g⟩ : G) b f) : Lim g b f := by
  rcases h with ⟨_, k, hk⟩ | ⟨k, hk⟩ | hp
  · cases hk
  · cases hk
  · exact hp
open SY in
theorem zero_size (cs : Array Value) (n : Nat) : (Builtin.zeroCells cs n).size = n * cs.size := by simp [Builtin.zeroCells]
open SY in
theorem concat_ok : GOK Tryd.prog 26 hConcat := by
  intro vs s r hg hs
  unfold hConcat at hg
  split at hg <;> try (cases hg; done)
  rename_i a b
  simp only [Option.some.injEq, Prod.mk.injEq] at hg
  obtain ⟨rfl, rfl⟩ := hg
  refine .inl ⟨isFn_concat, fun g w vals hb hv => ?_⟩
  obtain ⟨v, l, rfl, h1, h2⟩ := hv.cons_left
  obtain rfl := h2.nil_left
  obtain ⟨A, us, rfl, hf, hus, hrd⟩ := h1
  obtain ⟨u1, us, rfl, d1, hus⟩ := hus.cons_left
  obtain ⟨u2, us, rfl, d2, hus⟩ := hus.cons_left
  obtain rfl := hus.nil_left
  obtain ⟨s1, s2, s3⟩ := hs
  have e1 := subC_ok s1 d1
  have e2 := subC_ok s2 d2
  generalize lS a = xs at *
  generalize lS b = ys at *
  clear d1 d2 s1 s2
  obtain ⟨a1, n1, c1, rfl, i1⟩ := e1
  obtain ⟨a2, n2, c2, rfl, i2⟩ := e2
  obtain ⟨b0, off, spot⟩ := A
  have hsp := hf.spot
  simp only at hsp
  subst hsp
  have hb0 : b0 < w.heap.size := hf.lt
  have q0 : w.cell? ⟨b0, off, none⟩ = some (.slice a1 n1 c1) := by simpa [Addr.add] using hrd 0 _ rfl
  have q1 : w.cell? ⟨b0, off + 1, none⟩ = some (.slice a2 n2 c2) := by simpa [Addr.add] using hrd 1 _ rfl
  have x1 := i1.len
  have x2 := i2.len
  simp only [List.length_cons, List.length_nil] at x1 x2
  unfold KeepSh at s3
  by_cases hn : n1 + n2 = 0
  · obtain rfl : n1 = 0 := by omega
    obtain rfl : n2 = 0 := by omega
    refine (concat_none w b0 off a1 a2 c1 c2 q0 q1).mono ?_
    rintro e w' ⟨rfl, hbel⟩
    have z1 : xs = [] := List.eq_nil_of_length_eq_zero (by omega)
    have z2 : ys = [] := List.eq_nil_of_length_eq_zero (by omega)
    subst z1 z2
    exact ⟨_, rfl, ⟨none, 0, 0, rfl, nil_sl (by decide)⟩, hbel⟩
  · obtain ⟨ti, zv, hel⟩ := el_ok (P := Tryd.prog) (e := 67) (ks := [.int .u32, .int .i64]) (by kernel_rfl) (by kernel_rfl)
    have hsz : ti.size = 2 := hel.size
    have hmk := run_append_make (P := Tryd.prog) w 24 24 67 3 ti zv Tryd.underlying24 Tryd.underlying3 hel.info hel.zero (n1 + n2) (by omega) (by omega) (by have := Nat.mul_le_mul (show n1 + n2 ≤ 1000 by omega) hel.bytes; omega) (by omega)
    have hcap := grownCap_ge w (n1 + n2) 0 67
    have hcap' := grownCap_le_maxLen w (n1 + n2) 0 67 (by unfold maxLen; omega)
    generalize grownCap w (n1 + n2) 0 67 = cap at *
    obtain ⟨cur, hcur⟩ : ∃ cur, Builtin.zeroCells zv.cells (n1 + n2) ++ Builtin.zeroCells zv.cells (cap - (n1 + n2)) = cur := ⟨_, rfl⟩
    have hcz : cap * 2 = cur.size := by
      rw [← hcur, Array.size_append, zero_size, zero_size, hel.zsize, hsz]; omega
    rw [hcur] at hmk
    have hbel : Below w.heap.size w (w.drew.alloc (.cells cur 67)) := (Below.refl w.heap.size w).drew.alloc (Nat.le_refl _) _
    have hnew : (w.drew.alloc (.cells cur 67)).heap[w.heap.size]? = some (.cells cur 67 (0, 0)) := heap_alloc_new w.drew _
    have hws : (w.drew.alloc (.cells cur 67)).heap.size = w.heap.size + 1 := al_size _ _
    generalize w.drew.alloc (.cells cur 67) = W1 at *
    have hm := mem_start hb
    obtain ⟨g1, hx1, t1, t2, t3, hm1⟩ := hm.tokOwn (key := 0) 67 0 (some (w.heap.size, 0)) rfl hbel (fun b f h => by cases h; omega)
    have down : ∀ {v : Value} {zs : List Int}, DC g w (.sl [.int .u32, .int .i64] zs none) v → DC g1 W1 (.sl [.int .u32, .int .i64] zs none) v := fun {v zs} d => hx1.c _ _ (pureC_ok (g := g) (fun b f _ h => lim_start h) (show pureC (.sl [.int .u32, .int .i64] zs none) = some _ from rfl) d)
    obtain ⟨a', n', c', hv1, j1⟩ := down ⟨a1, n1, c1, rfl, i1⟩
    cases hv1
    obtain ⟨a', n', c', hv2, j2⟩ := down ⟨a2, n2, c2, rfl, i2⟩
    cases hv2
    have j0 : SlI g1 W1 [.int .u32, .int .i64] [] (some (0, 0)) (some ⟨w.heap.size, 0, none⟩) 0 cap := by
      refine ⟨Nat.zero_le _, hcap', by decide, rfl, (fun h => by cases h), fun A hA => ⟨fun h => absurd h (Nat.lt_irrefl _), fun j u hu => by cases hu⟩, 67, 0, t1, Nat.le_refl _, fun _ => .inr ⟨_, cur, rfl, ⟨rfl, rfl⟩, t2, hnew, hcz⟩⟩
    obtain ⟨v2, w2, g2, r1, hx2, k1, hm2⟩ := hm1.append (P := Tryd.prog) (t := 24) (ty := 24) (i' := 1) Tryd.underlying24 hel (by rw [lkB_set, if_pos rfl]) (by omega) j0 j1 (by unfold big; simp; omega)
    obtain ⟨v2, m2, d2, rfl, k1⟩ := k1
    obtain ⟨a', n', c', hv2, j2'⟩ := hx2.c (.sl [.int .u32, .int .i64] ys none) _ ⟨_, _, _, rfl, j2⟩
    cases hv2
    obtain ⟨v3, w3, g3, r2, hx3, k2, hm3⟩ := hm2.append (P := Tryd.prog) (t := 24) (ty := 24) (i' := 2) Tryd.underlying24 hel (by rw [lkB_set, if_pos rfl]) (by omega) k1 j2' (by unfold big; simp; omega)
    obtain ⟨v3, m3, d3, rfl, k2⟩ := k2
    refine (concat_some w W1 w2 w3 b0 off a1 a2 v2 v3 w.heap.size n1 n2 c1 c2 cap m2 m3 d2 d3 (by omega) (by omega) q0 q1 ((hbel.cell (by exact hb0)).trans q0) ((hm2.base.cell (by exact hb0)).trans q1) (by rw [← Int.natCast_add]; exact hmk) r1 r2).mono ?_
    rintro e w' ⟨rfl, rfl⟩
    refine ⟨_, rfl, ?_, hm3.base⟩
    have d3 : DC g3 w' (.sl [.int .u32, .int .i64] (xs ++ ys) none) (.slice v3 m3 d3) := ⟨v3, m3, d3, rfl, k2.cap, k2.most, k2.pos, k2.len, k2.nil, k2.at_, trivial⟩
    exact pureC_ok (g := g3) (fun b f _ hl => .inr (.inr (by rw [hm3.pl]; exact hl))) (show pureC (.sl [.int .u32, .int .i64] (xs ++ ys) none) = some _ from rfl) d3
end Go.Proofs.YtmmliaobjendoaaDoor
