/- Waiters: the laws' walks. No condition. -/
import Derived.Test.YtgoigcnibjcjpaaLN5
namespace Go.Proofs.Ytgoigcnibjcjpaa
open SY
open Go.RowKit Go.Maps
set_option linter.unusedSimpArgs false
set_option linter.unusedVariables false
theorem note_open {H : Type} {enc : TypeId × Value → H} {P : Program} {W : World} {t e2 : TypeId} {v : Value} {d : DataW H} {p : List MemPlace} (hag : ∃ cs, v = .agg cs) (hs : shapeT P 20 t = some [.int .u32, .int .u32, .slice e2])
    (hs2 : shapeT P 20 e2 = some ([.int .u32, .int .i64].map ofCK)) (hc2 : P.cellsOf e2 = 2)
    (h : DataW.Trod enc P W 0 (fun _ => true) true t v d p) : ∃ x : NF, DS g0 W (notV x) v ∧ InR [.int .u32, .int .i64] x.3 ∧ x.3.length % 2 = 0 ∧ inK (.int .u32) x.1 ∧ inK (.int .u32) x.2 := by
  obtain ⟨cs, rfl⟩ := hag
  have hsh := trod_leafs hs h
  obtain ⟨l⟩ := cs
  simp only [Value.cells] at hsh
  obtain ⟨_, l, rfl, ⟨c0, rfl, r0⟩, q0⟩ := hsh.cons_left
  obtain ⟨_, l, rfl, ⟨c1, rfl, r1⟩, q1⟩ := q0.cons_left
  obtain ⟨_, l, rfl, s2, q2⟩ := q1.cons_left
  obtain rfl := q2.nil_left
  obtain ⟨c2, n2, m2⟩ := leaf_slice (ks := [.int .u32, .int .i64]) (by decide) hs2 hc2 s2
  exact ⟨⟨c0, c1, c2⟩, ⟨_, rfl, rfl, rfl, n2, trivial⟩, m2, by obtain ⟨a, n, c, _, hS⟩ := n2; rw [hS.len]; simp, r0, r1⟩

theorem in32 {x : Int} (h : inK (.int .u32) x) : KeepU x := by
  unfold inK at h
  simp only [Lit.wf, IntKind.min, IntKind.max, IntKind.signed, IntKind.bits, Bool.and_eq_true, decide_eq_true_eq] at h
  simp at h
  exact ⟨h.1, by omega⟩
theorem inI {x : Int} (h : inK (.int .i64) x) : KeepI x := by
  unfold inK at h
  simp only [Lit.wf, IntKind.min, IntKind.max, IntKind.signed, IntKind.bits, Bool.and_eq_true, decide_eq_true_eq] at h
  simp at h
  exact ⟨h.1, by omega⟩
theorem in8 {x : Int} (h : inK (.int .u8) x) : 0 ≤ x ∧ x < 256 := by
  unfold inK at h
  simp only [Lit.wf, IntKind.min, IntKind.max, IntKind.signed, IntKind.bits, Bool.and_eq_true, decide_eq_true_eq] at h
  simp at h
  exact ⟨h.1, by omega⟩
theorem ws_of {n : NF} (hr : InR [.int .u32, .int .i64] n.3) (he : n.3.length % 2 = 0) (h0 : inK (.int .u32) n.1) (h1 : inK (.int .u32) n.2) (h30 : n.3.length / 2 ≤ 30) : KeepWs n := by
  refine ⟨in32 h0, in32 h1, he, by omega, fun k hk => ⟨?_, ?_⟩⟩
  · have hk' : 2 * k < n.ns.length := by omega
    have := hr (2 * k) _ (List.getElem?_eq_getElem hk')
    have e : kAt [CK.int .u32, CK.int .i64] (2 * k) = .int .u32 := by simp [kAt]
    rw [e] at this
    have := in32 this
    simpa [tkI, gI, List.getD_eq_getElem?_getD, List.getElem?_eq_getElem hk', KeepU] using this
  · have hk' : 2 * k + 1 < n.ns.length := by omega
    have := hr (2 * k + 1) _ (List.getElem?_eq_getElem hk')
    have e : kAt [CK.int .u32, CK.int .i64] (2 * k + 1) = .int .i64 := by
      have : (2 * k + 1) % 2 = 1 := by omega
      simp [kAt, this]
    rw [e] at this
    have := inI this
    simpa [tsI, gI, List.getD_eq_getElem?_getD, List.getElem?_eq_getElem hk', KeepI] using this
theorem answers_walk (W : World) (v0 : Value) (n : NF) (t s : Int) (h : DS g0 W (notV n) v0) (hr : InR [.int .u32, .int .i64] n.3) (he : n.3.length % 2 = 0) (h0 : inK (.int .u32) n.1) (h1 : inK (.int .u32) n.2) (ht : inK (.int .u32) t) (hs : inK (.int .i64) s) :
    Calls Try.prog 3 #[v0, .int .u32 t, .int .i64 s] W fun e w' => e = .returned (.bool true) ∧ Below W.heap.size W w' :=
  law (vals := [v0, .int .u32 t, .int .i64 s]) (lh := noL) (m := 10) (args := [notV n, uS t, iS s]) mixed tab_ok hkNs_ok (answers_law he (ws_of hr he h0 h1) (in32 h0) (in32 h1) (in32 ht) (inI hs)) ⟨h, rfl, rfl, trivial⟩
theorem tells_walk (W : World) (v0 : Value) (n : NF) (h : DS g0 W (notV n) v0) (hr : InR [.int .u32, .int .i64] n.3) (he : n.3.length % 2 = 0) (h0 : inK (.int .u32) n.1) (h1 : inK (.int .u32) n.2) :
    Calls Try.prog 4 #[v0] W fun e w' => e = .returned (.bool true) ∧ Below W.heap.size W w' :=
  law (vals := [v0]) (lh := noL) (m := 10) (args := [notV n]) mixed tab_ok hkNs_ok (tells_law he (ws_of hr he h0 h1)) ⟨h, trivial⟩
theorem out_walk (W : World) (v0 : Value) (n : NF) (t s : Int) (h : DS g0 W (notV n) v0) (hr : InR [.int .u32, .int .i64] n.3) (he : n.3.length % 2 = 0) (h0 : inK (.int .u32) n.1) (h1 : inK (.int .u32) n.2) (ht : inK (.int .u32) t) (hs : inK (.int .u8) s) :
    Calls Try.prog 6 #[v0, .int .u32 t, .int .u8 s] W fun e w' => e = .returned (.bool true) ∧ Below W.heap.size W w' :=
  law (vals := [v0, .int .u32 t, .int .u8 s]) (lh := noL) (m := 10) (args := [notV n, uS t, .t (.c (.v (.int .u8 s)))]) mixed tab_ok hkNs_ok (out_law he (ws_of hr he h0 h1) (in32 ht) (in8 hs)) ⟨h, rfl, rfl, trivial⟩
end Go.Proofs.Ytgoigcnibjcjpaa
