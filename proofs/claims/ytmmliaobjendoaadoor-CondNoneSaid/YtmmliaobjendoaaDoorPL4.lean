/- A condition: what its steps answer, as calls. No condition. -/
import Derived.Test.YtmmliaobjendoaaDoorQN2
import Derived.WalkKit
import Derived.LoopTactic
namespace Go.Proofs.YtmmliaobjendoaaDoor
open SY
open Go.RowKit Go.Maps
set_option linter.unusedSimpArgs false
set_option linter.unusedVariables false
set_option maxRecDepth 100000
theorem hkW_ok : HookOK Tryd.prog (hkW KeepRn KeepPn KeepPe KeepOn KeepOt KeepOe KeepAn KeepAl KeepAe) := hkL_cons right_ok <| hkL_cons park_ok <| hkL_cons one_ok <| hkL_cons all_ok hkL_nil
theorem cN_eq (a b : Int) (l : List Int) : cN (S.t (T.agg [SC.v (Value.int IntKind.u32 a), SC.v (Value.int IntKind.u32 b), SC.sl [CK.int IntKind.u32, CK.int IntKind.i64] l none])) = ⟨a, b, l⟩ := rfl
theorem cI_u (a : Int) : cI (S.t (T.c (SC.v (Value.int IntKind.u32 a)))) = a := rfl
theorem cI_i (a : Int) : cI (S.t (T.c (SC.v (Value.int IntKind.i64 a)))) = a := rfl
def cC (w t : Int) (v : Value) : Array Value := #[.int .i64 5, .int .i64 0, .int .i64 0, .int .i64 0, .int .i64 0, .int .i64 0, .int .i64 0, .int .u32 w, .int .u32 t, v, .slice none 0 0]
def mC (x : Int) : Array Value := #[.int .i64 1, .int .i64 x, .int .i64 0, .int .i64 0, .int .i64 0, .int .i64 0, .int .i64 0, .int .u32 0, .int .u32 0, .slice none 0 0, .slice none 0 0]
def fC (st left : Int) : Array Value := #[.int .i64 36, .int .i64 st, .int .i64 0, .int .i64 0, .int .i64 (-1), .int .i64 left, .bool false, .bool false, .int .i64 0, .bool false]
def aC (d p : Bool) (u : Value) : Array Value := #[.bool d, .bool p, .bool false, .int .i64 0, .int .i64 0, .int .u64 0, u]
abbrev WS (g : G) (w : World) (ns : List Int) (v : Value) : Prop := DC g w (.sl [.int .u32, .int .i64] ns none) v
theorem c_ds {g : G} {W : World} {w t : Int} {ns : List Int} {v : Value} (h : WS g W ns v) : DS g W (.t (cT w t ns)) (.agg (cC w t v)) := ⟨_, rfl, rfl, rfl, rfl, rfl, rfl, rfl, rfl, rfl, rfl, h, rfl, trivial⟩
theorem m_ds (g : G) (W : World) (x : Int) : DS g W (.t (mT x)) (.agg (mC x)) := ⟨_, rfl, rfl, rfl, rfl, rfl, rfl, rfl, rfl, rfl, rfl, rfl, rfl, trivial⟩
theorem f_ds (g : G) (W : World) (s l : Int) : DS g W (.t (fT s l)) (.agg (fC s l)) := ⟨_, rfl, rfl, rfl, rfl, rfl, rfl, rfl, rfl, rfl, rfl, rfl, trivial⟩
theorem c_of {g : G} {W : World} {w t : Int} {ns : List Int} {z : Value} (h : DT g W (cT w t ns) z) : ∃ v, WS g W ns v ∧ z = .agg (cC w t v) := by
  obtain ⟨us, rfl, d0⟩ := h
  obtain ⟨_, _, rfl, rfl, d1⟩ := d0.cons_left
  obtain ⟨_, _, rfl, rfl, d2⟩ := d1.cons_left
  obtain ⟨_, _, rfl, rfl, d3⟩ := d2.cons_left
  obtain ⟨_, _, rfl, rfl, d4⟩ := d3.cons_left
  obtain ⟨_, _, rfl, rfl, d5⟩ := d4.cons_left
  obtain ⟨_, _, rfl, rfl, d6⟩ := d5.cons_left
  obtain ⟨_, _, rfl, rfl, d7⟩ := d6.cons_left
  obtain ⟨_, _, rfl, rfl, d8⟩ := d7.cons_left
  obtain ⟨_, _, rfl, rfl, d9⟩ := d8.cons_left
  obtain ⟨v, _, rfl, hv, d10⟩ := d9.cons_left
  obtain ⟨_, _, rfl, rfl, d11⟩ := d10.cons_left
  obtain rfl := d11.nil_left
  exact ⟨v, hv, rfl⟩
theorem m_of {g : G} {W : World} {x : Int} {z : Value} (h : DT g W (mT x) z) : z = .agg (mC x) := by
  obtain ⟨us, rfl, d0⟩ := h
  obtain ⟨_, _, rfl, rfl, d1⟩ := d0.cons_left
  obtain ⟨_, _, rfl, rfl, d2⟩ := d1.cons_left
  obtain ⟨_, _, rfl, rfl, d3⟩ := d2.cons_left
  obtain ⟨_, _, rfl, rfl, d4⟩ := d3.cons_left
  obtain ⟨_, _, rfl, rfl, d5⟩ := d4.cons_left
  obtain ⟨_, _, rfl, rfl, d6⟩ := d5.cons_left
  obtain ⟨_, _, rfl, rfl, d7⟩ := d6.cons_left
  obtain ⟨_, _, rfl, rfl, d8⟩ := d7.cons_left
  obtain ⟨_, _, rfl, rfl, d9⟩ := d8.cons_left
  obtain ⟨_, _, rfl, rfl, d10⟩ := d9.cons_left
  obtain ⟨_, _, rfl, rfl, d11⟩ := d10.cons_left
  obtain rfl := d11.nil_left
  rfl
theorem f_of {g : G} {W : World} {s l : Int} {z : Value} (h : DT g W (fT s l) z) : z = .agg (fC s l) := by
  obtain ⟨us, rfl, d0⟩ := h
  obtain ⟨_, _, rfl, rfl, d1⟩ := d0.cons_left
  obtain ⟨_, _, rfl, rfl, d2⟩ := d1.cons_left
  obtain ⟨_, _, rfl, rfl, d3⟩ := d2.cons_left
  obtain ⟨_, _, rfl, rfl, d4⟩ := d3.cons_left
  obtain ⟨_, _, rfl, rfl, d5⟩ := d4.cons_left
  obtain ⟨_, _, rfl, rfl, d6⟩ := d5.cons_left
  obtain ⟨_, _, rfl, rfl, d7⟩ := d6.cons_left
  obtain ⟨_, _, rfl, rfl, d8⟩ := d7.cons_left
  obtain ⟨_, _, rfl, rfl, d9⟩ := d8.cons_left
  obtain ⟨_, _, rfl, rfl, d10⟩ := d9.cons_left
  obtain rfl := d10.nil_left
  rfl
theorem a_of {g : G} {W : World} {d p : Bool} {wk : List Int} {z : Value} (h : DT g W (aT d p wk) z) : ∃ A k c, DC g W (.sl [.int .i64] wk none) (.slice A k c) ∧ z = .agg (aC d p (.slice A k c)) := by
  obtain ⟨us, rfl, q0⟩ := h
  obtain ⟨_, _, rfl, rfl, q1⟩ := q0.cons_left
  obtain ⟨_, _, rfl, rfl, q2⟩ := q1.cons_left
  obtain ⟨_, _, rfl, rfl, q3⟩ := q2.cons_left
  obtain ⟨_, _, rfl, rfl, q4⟩ := q3.cons_left
  obtain ⟨_, _, rfl, rfl, q5⟩ := q4.cons_left
  obtain ⟨_, _, rfl, rfl, q6⟩ := q5.cons_left
  obtain ⟨v, _, rfl, hv, q7⟩ := q6.cons_left
  obtain rfl := q7.nil_left
  obtain ⟨A, k, c, rfl, hS⟩ := hv
  exact ⟨A, k, c, ⟨A, k, c, rfl, hS⟩, rfl⟩
theorem ws_shape {g : G} {W : World} {ns : List Int} {v : Value} (h : WS g W ns v) : ∃ A k c, v = .slice A k c := by
  obtain ⟨A, k, c, h, _⟩ := h
  exact ⟨A, k, c, h⟩
/-- Nobody waits: whatever the memory. -/
theorem ws_nil {g g' : G} {W W' : World} {v : Value} (h : WS g W [] v) : WS g' W' [] v := by
  obtain ⟨A, k, c, rfl, hS⟩ := h
  exact ⟨A, k, c, rfl, hS.cap, hS.most, hS.pos, hS.len, hS.nil, fun B hB => ⟨fun h => by simp at h, fun j u hu => by simp [encV] at hu⟩, trivial⟩
/-- What a step of waiting answers. -/
def AwPost (g : G) (W : World) (w t : Int) (ns : List Int) (x s l : Int) (d p : Bool) (e : Ending) (w' : World) : Prop :=
  ∃ A k c B j b, WS g w' ns (.slice A k c) ∧ e = .returned (.tuple #[.agg (cC w t (.slice A k c)), .agg (mC x), .agg (fC s l), .agg (aC d p (.slice B j b))]) ∧ Below W.heap.size W w'
theorem aw_post {g : G} {W : World} {w t x s l : Int} {ns : List Int} {d p : Bool} {e : Ending} {w' : World} (h : ∃ r v, e = .returned v ∧ subS (.tup [cT w t ns, mT x, fT s l, aT d p []]) r ∧ DS g w' r v ∧ Below W.heap.size W w') : AwPost g W w t ns x s l d p e w' := by
  obtain ⟨r, v, rfl, hk, hd, hb⟩ := h
  obtain ⟨us, rfl, q0⟩ := subS_ok hk hd
  obtain ⟨z1, _, rfl, h1, q1⟩ := q0.cons_left
  obtain ⟨z2, _, rfl, h2, q2⟩ := q1.cons_left
  obtain ⟨z3, _, rfl, h3, q3⟩ := q2.cons_left
  obtain ⟨z4, _, rfl, h4, q4⟩ := q3.cons_left
  obtain rfl := q4.nil_left
  obtain ⟨v, hv, rfl⟩ := c_of h1
  obtain rfl := m_of h2
  obtain rfl := f_of h3
  obtain ⟨B, j, b, _, rfl⟩ := a_of h4
  obtain ⟨A, k, c, rfl⟩ := ws_shape hv
  exact ⟨A, k, c, B, j, b, hv, rfl, hb⟩
theorem rn_nil {w t : Int} (h : (w - t) % 4294967296 ≤ 1000) : KeepRn ⟨w, t, []⟩ = true := by unfold KeepRn KeepRt; simp; exact h
theorem kws_nil {w t : Int} (hw : KeepU w) (ht : KeepU t) : KeepWs ⟨w, t, []⟩ := ⟨hw, ht, by simp, by simp, fun k hk => by simp at hk⟩
theorem aw0 {g : G} {W : World} {w t i : Int} {v : Value} (hg : Bound g W) (hv : WS g W [] v) (hw : KeepU w) (ht : KeepU t) (hd : (w - t) % 4294967296 < 1000) :
    Calls Tryd.prog 6 #[.agg (cC w t v), .agg (mC 1), .agg (fC 0 0), .int .i64 i, .int .i64 0, .int .i64 9] W (AwPost g W ((w + 1) % 4294967296) t [] 1 1 w false false) := by
  have h : callT Tryd.prog (hkW KeepRn KeepPn KeepPe KeepOn KeepOt KeepOe KeepAn KeepAl KeepAe) tab noL 10 6 [.t (cT w t []), .t (mT 1), .t (fT 0 0), iS i, iS 0, iS 9] (fun u => subS (.tup [cT ((w + 1) % 4294967296) t [], mT 1, fT 1 w, aT false false []]) u) := by
    rw [aw_res]
    have e1 : IntKind.u32.wrap (w + 1) = (w + 1) % 4294967296 := by rw [IntKind.wrap_u32]
    have e2 : IntKind.i64.wrap w = w := by unfold KeepU at hw; rw [IntKind.wrap_i64]; omega
    simp only [cN_eq, e1, e2, and_true, true_and]
    exact ⟨kws_nil hw ht, br_n (by rw [rn_nil (by omega)]; rfl) <| br_n (decide_eq_false (by rw [IntKind.wrap_u32]; omega)) trivial⟩
  exact ((callT_ok mixed tab_ok hkW_ok h).2 g W [_, _, _, .int .i64 i, .int .i64 0, .int .i64 9] hg ⟨c_ds hv, m_ds _ _ _, f_ds _ _ _ _, rfl, rfl, rfl, trivial⟩).mono fun e w' hh => aw_post hh
theorem aw0_eq {g : G} {W : World} {w t i w1 : Int} {v : Value} (hg : Bound g W) (hv : WS g W [] v) (hw : KeepU w) (ht : KeepU t) (hd : (w - t) % 4294967296 < 1000) (h1 : (w + 1) % 4294967296 = w1) :
    Calls Tryd.prog 6 #[.agg (cC w t v), .agg (mC 1), .agg (fC 0 0), .int .i64 i, .int .i64 0, .int .i64 9] W (AwPost g W w1 t [] 1 1 w false false) := by
  subst h1
  exact aw0 hg hv hw ht hd
theorem aw1 {g : G} {W : World} {w t i l : Int} {ns : List Int} {v : Value} (hg : Bound g W) (hv : WS g W ns v) :
    Calls Tryd.prog 6 #[.agg (cC w t v), .agg (mC 1), .agg (fC 1 l), .int .i64 i, .int .i64 0, .int .i64 9] W (AwPost g W w t ns 0 2 l false false) := by
  have h : callT Tryd.prog (hkW KeepRn KeepPn KeepPe KeepOn KeepOt KeepOe KeepAn KeepAl KeepAe) tab noL 10 6 [.t (cT w t ns), .t (mT 1), .t (fT 1 l), iS i, iS 0, iS 9] (fun u => subS (.tup [cT w t ns, mT 0, fT 2 l, aT false false []]) u) := by
    rw [aw1_res]
    simp
  exact ((callT_ok mixed tab_ok hkW_ok h).2 g W [_, _, _, .int .i64 i, .int .i64 0, .int .i64 9] hg ⟨c_ds hv, m_ds _ _ _, f_ds _ _ _ _, rfl, rfl, rfl, trivial⟩).mono fun e w' hh => aw_post hh
/-- The ticket is told. -/
theorem aw2a {g : G} {W : World} {w t i l : Int} {ns : List Int} {v : Value} (hg : Bound g W) (hv : WS g W ns v) (hl : KeepU l) (h0 : (l - t) % 4294967296 ≥ 2147483648) :
    Calls Tryd.prog 6 #[.agg (cC w t v), .agg (mC 0), .agg (fC 2 l), .int .i64 i, .int .i64 0, .int .i64 9] W (AwPost g W w t ns 0 3 0 false false) := by
  have e : IntKind.i32.wrap (IntKind.u32.wrap (IntKind.u32.wrap l - t)) < 0 := by
    unfold KeepU at hl
    rw [IntKind.wrap_u32, IntKind.wrap_u32, IntKind.wrap_i32]; omega
  have h : callT Tryd.prog (hkW KeepRn KeepPn KeepPe KeepOn KeepOt KeepOe KeepAn KeepAl KeepAe) tab noL 10 6 [.t (cT w t ns), .t (mT 0), .t (fT 2 l), iS i, iS 0, iS 9] (fun u => subS (.tup [cT w t ns, mT 0, fT 3 0, aT false false []]) u) := by
    rw [aw2_res]
    refine br_y (decide_eq_true e) ?_
    simp
  exact ((callT_ok mixed tab_ok hkW_ok h).2 g W [_, _, _, .int .i64 i, .int .i64 0, .int .i64 9] hg ⟨c_ds hv, m_ds _ _ _, f_ds _ _ _ _, rfl, rfl, rfl, trivial⟩).mono fun e w' hh => aw_post hh
/-- It waits. -/
theorem aw2b {g : G} {W : World} {w t i l : Int} {ns ns' : List Int} {v : Value} (hg : Bound g W) (hv : WS g W ns v) (hl : KeepU l) (hi : KeepI i) (h0 : (l - t) % 4294967296 < 2147483648) (hw : KeepWs ⟨w, t, ns⟩) (hp : KeepPk ⟨w, t, ns⟩ l i = (⟨w, t, ns'⟩, 0)) :
    Calls Tryd.prog 6 #[.agg (cC w t v), .agg (mC 0), .agg (fC 2 l), .int .i64 i, .int .i64 0, .int .i64 9] W (AwPost g W w t ns' 0 3 0 false true) := by
  have e : ¬ IntKind.i32.wrap (IntKind.u32.wrap (IntKind.u32.wrap l - t)) < 0 := by
    unfold KeepU at hl
    rw [IntKind.wrap_u32, IntKind.wrap_u32, IntKind.wrap_i32]; omega
  have el : IntKind.u32.wrap l = l := by unfold KeepU at hl; rw [IntKind.wrap_u32]; omega
  have h : callT Tryd.prog (hkW KeepRn KeepPn KeepPe KeepOn KeepOt KeepOe KeepAn KeepAl KeepAe) tab noL 10 6 [.t (cT w t ns), .t (mT 0), .t (fT 2 l), iS i, iS 0, iS 9] (fun u => subS (.tup [cT w t ns', mT 0, fT 3 0, aT false true []]) u) := by
    rw [aw2_res]
    simp only [cN_eq, cI_u, cI_i, KeepPn, KeepPe, hp, el]
    rw [el] at e
    refine br_n (decide_eq_false e) ?_
    simp [hw, hl, hi, br_ff]
  exact ((callT_ok mixed tab_ok hkW_ok h).2 g W [_, _, _, .int .i64 i, .int .i64 0, .int .i64 9] hg ⟨c_ds hv, m_ds _ _ _, f_ds _ _ _ _, rfl, rfl, rfl, trivial⟩).mono fun e w' hh => aw_post hh
theorem aall {g : G} {W : World} {w t : Int} {ns wk : List Int} {v : Value} (hg : Bound g W) (hv : WS g W ns v) (hw : KeepWs ⟨w, t, ns⟩) (hp : KeepAk ⟨w, t, ns⟩ = (⟨w, w, []⟩, wk, 0)) :
    Calls Tryd.prog 7 #[.agg (cC w t v)] W fun e w' => ∃ A k c B j b, WS g w' [] (.slice A k c) ∧ DC g w' (.sl [.int .i64] wk none) (.slice B j b) ∧ e = .returned (.tuple #[.agg (cC w w (.slice A k c)), .agg (aC true false (.slice B j b))]) ∧ Below W.heap.size W w' := by
  have h : callT Tryd.prog (hkW KeepRn KeepPn KeepPe KeepOn KeepOt KeepOe KeepAn KeepAl KeepAe) tab noL 10 7 [.t (cT w t ns)] (fun u => subS (.tup [cT w w [], aT true false wk]) u) := by
    rw [aall_res]
    simp only [cN_eq, KeepAn, KeepAl, KeepAe, hp]
    simp [hw, br_ff]
  refine ((callT_ok mixed tab_ok hkW_ok h).2 g W [_] hg ⟨c_ds hv, trivial⟩).mono fun e w' hh => ?_
  obtain ⟨r, v, rfl, hk, hd, hb⟩ := hh
  obtain ⟨us, rfl, q0⟩ := subS_ok hk hd
  obtain ⟨z1, _, rfl, h1, q1⟩ := q0.cons_left
  obtain ⟨z4, _, rfl, h4, q2⟩ := q1.cons_left
  obtain rfl := q2.nil_left
  obtain ⟨v, hv, rfl⟩ := c_of h1
  obtain ⟨B, j, b, hB, rfl⟩ := a_of h4
  obtain ⟨A, k, c, rfl⟩ := ws_shape hv
  exact ⟨A, k, c, B, j, b, hv, hB, rfl, hb⟩
theorem begin_calls (W : World) : Calls Tryd.prog 5 #[.int .i64 36] W fun e w' => e = .returned (.agg (fC 0 0)) ∧ Below W.heap.size W w' := by
  have h : callT Tryd.prog (hkL []) tab noL 10 5 [iS 36] (fun u => subS (.t (fT 0 0)) u) := by
    rw [abeg_res]
    simp
  refine ((callT_ok mixed tab_ok hkL_nil h).2 g0 W [.int .i64 36] (g0_bound W) ⟨rfl, trivial⟩).mono fun e w' hh => ?_
  obtain ⟨r, v, rfl, hk, hd, hb⟩ := hh
  obtain rfl := f_of (subS_ok hk hd)
  exact ⟨rfl, hb⟩
theorem alive_calls (W : World) : Calls Tryd.prog 4 #[] W fun e w' => e = .returned (.bool true) ∧ Below W.heap.size W w' := by
  have h : callT Tryd.prog (hkW KeepRn KeepPn KeepPe KeepOn KeepOt KeepOe KeepAn KeepAl KeepAe) tab noL 10 4 [] tru := by
    rw [aalive_res 0]
    have n7 : KeepWs ⟨1, 0, [0, 7]⟩ := ⟨by decide, by decide, by decide, by decide, fun k hk => by
      have hk : k < 1 := hk
      obtain rfl : k = 0 := by omega
      decide⟩
    have u0 : KeepU 0 := by unfold KeepU; decide
    have u1 : KeepU 1 := by unfold KeepU; decide
    have k1 := kws_nil u0 u0
    have k2 := kws_nil u1 u0
    have k3 := kws_nil u1 u1
    have i7 : KeepI 7 := by unfold KeepI; decide
    simp [k1, k2, k3, n7, u0, i7]
  exact ((callT_ok mixed tab_ok hkW_ok h).2 g0 W [] (g0_bound W) trivial).mono fun e w' ⟨r, v, h1, h2, h3, h4⟩ => by
    subst h2
    have h3 : v = .bool true := h3
    subst h3
    exact ⟨h1, h4⟩
end Go.Proofs.YtmmliaobjendoaaDoor
