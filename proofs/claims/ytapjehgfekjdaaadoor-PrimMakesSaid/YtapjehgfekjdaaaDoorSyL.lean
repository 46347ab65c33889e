/- The symbolic executor: operations with their guards, one behind the other, in the text's order. No condition. -/
import Derived.Test.YtapjehgfekjdaaaDoorSyK
namespace Go.Proofs.YtapjehgfekjdaaaDoor
open Go.RowKit
namespace SY
section
variable {P : Program} {p : Nat → Nat → Prop} {w0 w : World} {g : G} {n : Nat} {hk : Hooks} {inl : Inl}

theorem dsts_ok {ops : Array Oper} (h : dstsOk n ops.toList = true) {j : Nat} {o : Oper} (ho : ops[j]? = some o) : dOk n o.dst := by
  intro t ht
  simp only [dstsOk, List.all_eq_true] at h
  have := h o (by
    have := Array.mem_of_getElem? ho
    simpa using this)
  rw [ht] at this
  exact Nat.le_of_ble_eq_true this

theorem getD_get {a : Act} {t : Nat} (h : t < a.tmps.size) : a.tmps[t]? = some (a.tmps.getD t undef) := by
  simp [h]

theorem yielded_at {ops : Array Oper} {a : Act} {i d : Nat} {og : Oper} {b : Bool} (hg : ops[i]? = some og) (hd : og.dst = some d) (hs : a.tmps[d]? = some (.bool b)) : yielded ops a.tmps i = some b := by
  simp [yielded, hg, hd, hs]

theorem guard_dst {ops : Array Oper} {o : Oper} {d : Nat} {want : Bool} (h : guardOf ops.toList o = some (some d, want)) : ∃ i og, o.guard = some (i, want) ∧ ops[i]? = some og ∧ og.dst = some d := by
  unfold guardOf at h
  split at h
  · cases h
  · rename_i i wt hg
    split at h
    · rename_i og hog
      simp only [Option.some.injEq, Prod.mk.injEq] at h
      obtain ⟨h1, rfl⟩ := h
      exact ⟨i, og, hg, by simpa using hog, h1⟩
    · simp at h
theorem wanted_none {ops : Array Oper} {o : Oper} (h : guardOf ops.toList o = none) (y : Nat → Option Bool) : Region.wanted o y = true := by
  unfold guardOf at h
  split at h
  · rename_i hg; simp [Region.wanted, hg]
  · split at h <;> cases h
theorem wanted_some {ops : Array Oper} {o : Oper} {d : Nat} {want b : Bool} {a : Act} (h : guardOf ops.toList o = some (some d, want)) (hs : a.tmps[d]? = some (.bool b)) :
    Region.wanted o (yielded ops a.tmps) = decide (b = want) := by
  obtain ⟨i, og, h1, h2, h3⟩ := guard_dst h
  simp only [Region.wanted, h1, yielded_at h2 h3 hs]
  cases b <;> cases want <;> rfl
theorem wanted_undef {ops : Array Oper} {o : Oper} {d : Nat} {want : Bool} {a : Act} (h : guardOf ops.toList o = some (some d, want)) (hs : a.tmps[d]? = some (.tuple #[])) :
    Region.wanted o (yielded ops a.tmps) = false := by
  obtain ⟨i, og, h1, h2, h3⟩ := guard_dst h
  have : yielded ops a.tmps i = none := by simp [yielded, h2, h3, hs]
  simp [Region.wanted, h1, this]

/-- The slots, one of them read as what it is. -/
theorem Rep.lit {st : St} {a : Act} (h : Rep p w0 n g st a w) {d : Nat} {s : S} (hd : d < n) (hs : DS g w s (a.tmps.getD d undef)) : Rep p w0 n g ⟨st.sl.set undefS s (pth d), st.bl, st.nx⟩ a w := by
  refine ⟨fun t ht => ?_, h.sz, h.df, h.mem⟩
  by_cases hdt : d = t
  · subst hdt
    show DS g w ((st.sl.set undefS s (pth d)).get undefS (pth d)) _
    rw [get_set_same]; exact hs
  · show DS g w ((st.sl.set undefS s (pth d)).get undefS (pth t)) _
    rw [get_set_ne _ _ _ _ _ (pth_ne hdt)]; exact h.sl t ht

theorem skip_ok {st : St} {a : Act} (h : Rep p w0 n g st a w) {d : Option Nat} (hd : dOk n d) : Rep p w0 n g ⟨putO st.sl (optP d) undefS, st.bl, st.nx⟩ (a.put d undef) w :=
  h.put (Ext.refl _ _) hd undefS_ok h.mem _

theorem guard_lt {ops : Array Oper} (hdst : dstsOk n ops.toList = true) {o : Oper} {d : Nat} {want : Bool} (h : guardOf ops.toList o = some (some d, want)) : d < n := by
  obtain ⟨i, og, _, h2, h3⟩ := guard_dst h
  exact dsts_ok hdst h2 d h3

theorem stepC_false (hh : HookOK P hk) (hi : InlOK P inl) {N : Nat} {ops : Array Oper} (hdst : dstsOk n ops.toList = true) {st : St} {a : Act} {j : Nat} {o : Oper} {k : St → Prop} {K : Act → World → Prop} {Q : Exit → Act → World → Prop}
    (ho : ops[j]? = some o) (h : stepC P hk inl false N (cr P n ops.toList o) j st k) (hr : Rep p w0 n g st a w) (hK : ∀ g' st' v w', k st' → Rep p w0 n g' st' (a.put o.dst v) w' → Ext g w g' w' → K (a.put o.dst v) w') : wpOp P ops Q j K a w := by
  have hd := dsts_ok hdst ho
  unfold wpOp
  simp only [ho]
  unfold stepC cr at h
  simp only at h
  cases hg : guardOf ops.toList o with
  | none =>
    rw [hg] at h
    rw [if_pos (wanted_none hg _)]
    exact .inl (doC_false hh hi h hr hd hK)
  | some q =>
    obtain ⟨d, want⟩ := q
    rw [hg] at h
    cases d with
    | none => exact h.elim
    | some d =>
      have hlt := guard_lt hdst hg
      have hsl := hr.sl d hlt
      have hget := getD_get (a := a) (by rw [hr.sz]; exact hlt)
      simp only [cguard, optP] at h
      split at h
      · rename_i b hb
        rw [hb] at hsl
        have hv : a.tmps.getD d undef = .bool b := hsl
        rw [hv] at hget
        rw [wanted_some hg hget]
        have hrl : ∀ c : Bool, b = c → Rep p w0 n g ⟨st.sl.set undefS (ofB c) (pth d), st.bl, st.nx⟩ a w := fun c hc => hr.lit hlt (by subst hc; exact hv)
        cases b
        · simp only [br] at h
          have hrl := hrl false rfl
          cases want
          · simp only [decide_true, if_true]
            exact .inl (doC_false hh hi h hrl hd hK)
          · simp only [decide_eq_true_eq, Bool.false_eq_true, if_false]
            exact hK g _ undef w h (skip_ok hrl hd) (Ext.refl _ _)
        · simp only [br] at h
          have hrl := hrl true rfl
          cases want
          · simp only [decide_eq_true_eq, Bool.true_eq_false, if_false]
            exact hK g _ undef w h (skip_ok hrl hd) (Ext.refl _ _)
          · simp only [decide_true, if_true]
            exact .inl (doC_false hh hi h hrl hd hK)
      · rename_i hb
        rw [hb] at hsl
        obtain ⟨vs, hv, hvs⟩ := hsl
        rw [hvs.nil_left] at hv
        rw [hv] at hget
        rw [wanted_undef hg hget]
        rw [if_neg (by simp)]
        exact hK g _ undef w h (skip_ok hr hd) (Ext.refl _ _)
      · exact h.elim

theorem runC_cons (det : Bool) (N : Nat) (o : CR) (l : List CR) (j : Nat) (st : St) (k : St → Prop) : runC P hk inl det N (o :: l) j st k = stepC P hk inl det N o j st (fun st' => runC P hk inl det N l (j + 1) st' k) := rfl

theorem wrO_mem : ∀ {l : List Oper} {o : Oper} {d : Nat}, o ∈ l → o.dst = some d → d ∈ wrO l
  | [], o, d, h, _ => by cases h
  | x :: l, o, d, h, hd => by
    simp only [wrO]
    rcases List.mem_cons.1 h with rfl | h
    · rw [hd]; simp
    · have := wrO_mem h hd
      split
      · simp [this]
      · exact this

theorem runC_false (hh : HookOK P hk) (hi : InlOK P inl) {N : Nat} {ops : Array Oper} (hdst : dstsOk n ops.toList = true) {k : St → Prop} {Q : Exit → Act → World → Prop} {a0 : Act} {g0 : G} {w1 : World} :
    ∀ (l : List Oper) (j : Nat) (g : G) (st : St) (a : Act) (w : World), (∀ i, l[i]? = ops[j + i]?) → runC P hk inl false N (crs P n ops.toList l) j st k → Rep p w0 n g st a w → Same (wrO ops.toList) a0 a → Ext g0 w1 g w →
      (∀ g' st' a' w', k st' → Rep p w0 n g' st' a' w' → Same (wrO ops.toList) a0 a' → Ext g0 w1 g' w' → Q .normal a' w') → wpOps P ops Q (List.range' j l.length) a w
  | [], j, g, st, a, w, _, h, hr, hs, hx, hQ => hQ g st a w h hr hs hx
  | o :: l, j, g, st, a, w, hl, h, hr, hs, hx, hQ => by
    have ho : ops[j]? = some o := by simpa using (hl 0).symm
    simp only [List.length_cons, List.range'_succ, wpOps_cons]
    simp only [crs, runC_cons] at h
    refine stepC_false hh hi hdst ho h hr fun g' st' v w' hk hr' hx' => ?_
    exact runC_false hh hi hdst l (j + 1) g' st' _ w' (fun i => by have := hl (i + 1); simpa [Nat.add_assoc, Nat.add_comm 1 i] using this) hk hr'
      (hs.trans (Same.put a _ v _ fun t ht => wrO_mem (by have := Array.mem_of_getElem? ho; simpa using this) ht)) (hx.trans hx') hQ
end
end SY
end Go.Proofs.YtapjehgfekjdaaaDoor
