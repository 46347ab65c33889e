/- Objects and frames that can be read, as the executor has them. No condition. -/
import Derived.Test.YtegdbpbafdpkfaaREq
namespace Go.Proofs.Ytegdbpbafdpkfaa
open SY
open Go.RowKit
set_option linter.unusedSimpArgs false
set_option linter.unusedVariables false
section
variable {H : Type} {enc : TypeId × Value → H} {P : Program} {W : World}

theorem sl_even {g : G} {w : World} {ks : List CK} {xs : List Int} {v : Value} (h : SlD g w ks xs none v) : xs.length % ks.length = 0 := by
  obtain ⟨a, n, c, _, hI⟩ := h
  rw [hI.len]; exact Nat.mul_mod_left _ _

theorem obj_open {t ew ec : TypeId} {v : Value} {d : DataW H} {p : List MemPlace} (hag : ∃ cs, v = .agg cs)
    (hs : shapeT P 20 t = some [.int .i64, .int .i64, .int .i64, .int .i64, .int .i64, .int .i64, .int .i64, .int .u32, .int .u32, .slice ew, .slice ec])
    (hw : shapeT P 20 ew = some [.int .u32, .int .i64]) (hcw : P.cellsOf ew = 2) (hc : shapeT P 20 ec = some [.int .i64, .int .i64]) (hcc : P.cellsOf ec = 2)
    (h : DataW.Trod enc P W 0 (fun _ => true) true t v d p) : ∃ x : O, DS g0 W (objS x) v ∧ x.ns.length % 2 = 0 ∧ x.ls.length % 2 = 0 ∧ InR [.int .u32, .int .i64] x.ns ∧ InR [.int .i64, .int .i64] x.ls ∧
      inK (.int .i64) x.w0 ∧ inK (.int .i64) x.w1 ∧ inK (.int .i64) x.w2 ∧ inK (.int .i64) x.w3 ∧ inK (.int .u32) x.wt ∧ inK (.int .u32) x.td := by
  obtain ⟨cs, rfl⟩ := hag
  have hsh := trod_leafs hs h
  obtain ⟨l⟩ := cs
  simp only [Value.cells] at hsh
  obtain ⟨_, l, rfl, ⟨k, rfl, _⟩, q0⟩ := hsh.cons_left
  obtain ⟨_, l, rfl, ⟨w0, rfl, e0⟩, q1⟩ := q0.cons_left
  obtain ⟨_, l, rfl, ⟨w1, rfl, e1⟩, q2⟩ := q1.cons_left
  obtain ⟨_, l, rfl, ⟨w2, rfl, e2⟩, q3⟩ := q2.cons_left
  obtain ⟨_, l, rfl, ⟨w3, rfl, e3⟩, q4⟩ := q3.cons_left
  obtain ⟨_, l, rfl, ⟨w4, rfl, e4⟩, q5⟩ := q4.cons_left
  obtain ⟨_, l, rfl, ⟨w5, rfl, e5⟩, q6⟩ := q5.cons_left
  obtain ⟨_, l, rfl, ⟨w6, rfl, e6⟩, q7⟩ := q6.cons_left
  obtain ⟨_, l, rfl, ⟨w7, rfl, e7⟩, q8⟩ := q7.cons_left
  obtain ⟨_, l, rfl, s8, q9⟩ := q8.cons_left
  obtain ⟨_, l, rfl, s9, q10⟩ := q9.cons_left
  obtain rfl := q10.nil_left
  obtain ⟨ns, n1, n2⟩ := leaf_slice (ks := [.int .u32, .int .i64]) (by decide) hw hcw s8
  obtain ⟨ls, l1, l2⟩ := leaf_slice (ks := [.int .i64, .int .i64]) (by decide) hc hcc s9
  exact ⟨⟨k, w0, w1, w2, w3, w4, w5, w6, w7, ns, ls⟩, ⟨_, rfl, rfl, rfl, rfl, rfl, rfl, rfl, rfl, rfl, rfl, n1, l1, trivial⟩, sl_even n1, sl_even l1, n2, l2, e0, e1, e2, e3, e6, e7⟩

theorem arr2_open {t : TypeId} {v : Value} {d : DataW H} {p : List MemPlace} (hag : ∃ cs, v = .agg cs) (hs : shapeT P 20 t = some [.int .i64, .int .i64])
    (h : DataW.Trod enc P W 0 (fun _ => true) true t v d p) : ∃ a b, v = .agg #[.int .i64 a, .int .i64 b] := by
  obtain ⟨cs, rfl⟩ := hag
  have hsh := trod_leafs hs h
  obtain ⟨l⟩ := cs
  simp only [Value.cells] at hsh
  obtain ⟨_, l, rfl, ⟨a, rfl, _⟩, q0⟩ := hsh.cons_left
  obtain ⟨_, l, rfl, ⟨b, rfl, _⟩, q1⟩ := q0.cons_left
  obtain rfl := q1.nil_left
  exact ⟨a, b, rfl⟩
theorem frame_open {t : TypeId} {v : Value} {d : DataW H} {p : List MemPlace} (hag : ∃ cs, v = .agg cs)
    (hs : shapeT P 20 t = some [.int .i64, .int .i64, .int .i64, .int .i64, .int .i64, .int .i64, .bool, .bool, .int .i64, .bool])
    (h : DataW.Trod enc P W 0 (fun _ => true) true t v d p) : ∃ f : Fr, DS g0 W (frS f) v ∧ inK (.int .i64) f.op ∧ inK (.int .i64) f.st ∧ inK (.int .i64) f.ph ∧ inK (.int .i64) f.od ∧ inK (.int .i64) f.si ∧ inK (.int .i64) f.le ∧ inK (.int .i64) f.ne := by
  obtain ⟨cs, rfl⟩ := hag
  have hsh := trod_leafs hs h
  obtain ⟨l⟩ := cs
  simp only [Value.cells] at hsh
  obtain ⟨_, l, rfl, ⟨a, rfl, ea⟩, q0⟩ := hsh.cons_left
  obtain ⟨_, l, rfl, ⟨b, rfl, eb⟩, q1⟩ := q0.cons_left
  obtain ⟨_, l, rfl, ⟨c, rfl, ec⟩, q2⟩ := q1.cons_left
  obtain ⟨_, l, rfl, ⟨d, rfl, ed⟩, q3⟩ := q2.cons_left
  obtain ⟨_, l, rfl, ⟨e, rfl, ee⟩, q4⟩ := q3.cons_left
  obtain ⟨_, l, rfl, ⟨f, rfl, ef⟩, q5⟩ := q4.cons_left
  obtain ⟨_, l, rfl, ⟨g, rfl⟩, q6⟩ := q5.cons_left
  obtain ⟨_, l, rfl, ⟨i, rfl⟩, q7⟩ := q6.cons_left
  obtain ⟨_, l, rfl, ⟨j, rfl, ej⟩, q8⟩ := q7.cons_left
  obtain ⟨_, l, rfl, ⟨k, rfl⟩, q9⟩ := q8.cons_left
  obtain rfl := q9.nil_left
  exact ⟨⟨a, b, c, d, e, f, g, i, j, k⟩, ⟨_, rfl, rfl, rfl, rfl, rfl, rfl, rfl, rfl, rfl, rfl, rfl, trivial⟩, ea, eb, ec, ed, ee, ef, ej⟩
end
end Go.Proofs.Ytegdbpbafdpkfaa
