/- Own memory, and drawn regions: general laws. No condition. -/
import Derived.Test.YtmmliaobjendoaaDoorPL4
import Derived.Laws.AppendOwn
import Derived.Deep.RegionHeld3
import Derived.Deep.DeepCutAuto
import Derived.Deep.QuietTactic
import Derived.BigQuiet
namespace Go.Proofs.YtmmliaobjendoaaDoor
open SY
open Go.RowKit
set_option linter.unusedVariables false
set_option maxRecDepth 100000
theorem set_heap {w : World} {b k : Nat} {cs : Array Value} {t : TypeId} {v : Value} (h : w.heap[b]? = some (.cells cs t (0, 0))) (hk : k < cs.size) : (w.setCell ⟨b, k, none⟩ v).heap[b]? = some (.cells (cs.set k v hk) t (0, 0)) := by
  have hlt := SY.lt_of_heap h
  have h' : w.heap[b] = .cells cs t (0, 0) := by simpa [Array.getElem?_eq_getElem hlt] using h
  show (w.heap.modify b _)[b]? = _
  rw [Array.getElem?_eq_getElem (by simpa using hlt), Array.getElem_modify_self, h']
  simp [Array.set!, Array.setIfInBounds, hk]
theorem grown_any {w w' : World} {row : Option Nat} (h : Below w.heap.size w w') : w.grownBy w' row := ⟨h.os, h.tape, h.output, h.size, fun k hk _ => h.block k hk⟩
theorem grown_drew {w w' : World} {row : Option Nat} (h : Below w.drew.heap.size w.drew w') : w.grownBy w' row := ⟨h.os, h.tape, h.output, h.size, fun k hk _ => h.block k hk⟩
theorem grown_trans {a b c : World} {row : Option Nat} (h : a.grownBy b row) (k : b.grownBy c row) : a.grownBy c row :=
  ⟨k.os.trans h.os, k.tape.trans h.tape, k.output.trans h.output, Nat.le_trans h.size k.size, fun i hi hn => (k.block i (Nat.lt_of_lt_of_le hi h.size) hn).trans (h.block i hi hn)⟩
theorem grown_set (w : World) (rb o : Nat) (v : Value) : w.grownBy (w.setCell ⟨rb, o, none⟩ v) (some rb) :=
  ⟨rfl, rfl, rfl, by simp [World.setCell], fun k hk hn => Below.heap_setCell _ _ _ _ (fun h => hn (by rw [h]))⟩
section
variable {P : Program} {ops : Array Oper} {Q : Exit → Act → World → Prop} {md : Region.Mode} {S : World → Prop} {D : Nat}
/-- Whatever order is picked from here on; S holds behind every operation till number D has come up. -/
def wpAnyG (P : Program) (md : Region.Mode) (ops : Array Oper) (Q : Exit → Act → World → Prop) (S : World → Prop) (D : Nat) : Nat → Array Bool → Act → World → Prop
  | 0, listed, a, w => Region.ready md ops listed = [] ∧ Q .normal a w
  | fuel + 1, listed, a, w =>
    (Region.ready md ops listed = [] → Q .normal a w) ∧
    ∀ i ∈ Region.ready md ops listed, wpOp P ops Q i (fun a' w' => ((listed.setIfInBounds i true).getD D true = false → S w') ∧ wpAnyG P md ops Q S D fuel (listed.setIfInBounds i true) a' w') a w
theorem wpAny_of_G : ∀ (fuel : Nat) (listed : Array Bool) (a : Act) (w : World), wpAnyG P md ops Q S D fuel listed a w → wpAny P md ops Q fuel listed a w
  | 0, _, _, _, h => h
  | fuel + 1, _, _, _, h => ⟨h.1, fun i hi => wpOp_mono (fun a' w' h' => wpAny_of_G fuel _ a' w' h'.2) (h.2 i hi)⟩
theorem wpAnyG_first {S0 : World → Prop} {i : Nat} {oi : Oper} {v : Value} (hi : ops[i]? = some oi) (hsel : ∀ (j : Nat) (o : Oper) cs b, ops[j]? = some o → o.op ≠ .select cs b)
    (hQ : ∀ c a w, Q (.panic c) (a.put oi.dst v) w → Q (.panic c) a w) (hiD : D ≠ i)
    (hS0 : (∀ w, S0 w) ∨ ((∀ w, S w → S0 w) ∧ ∃ oD, ops[D]? = some oD ∧ ∃ e ∈ oD.after, Region.binds md e = true ∧ e.on = i)) :
    ∀ (fuel : Nat) (listed : Array Bool) (a : Act) (w : World),
      (∀ j oj, ops[j]? = some oj → j ≠ i → listed.getD j true = false → (∀ e ∈ oj.after, Region.binds md e = true → e.on ≠ i) → oi.apart ops oj = true) →
      i ∈ Region.ready md ops listed → YieldsIf P ops S0 oi v a → S0 w → (listed.getD D true = false → S w) →
      ((∀ w, S0 w) ∨ listed.getD D true = false) →
      wpAnyG P md ops Q S D fuel (listed.setIfInBounds i true) (a.put oi.dst v) w → wpAnyG P md ops Q S D (fuel + 1) listed a w := by
  have dn : ∀ listed : Array Bool, (listed.setIfInBounds i true).getD D true = listed.getD D true := fun listed => getD_set_ne true (Ne.symm hiD)
  intro fuel
  induction fuel with
  | zero =>
    intro listed a w _ hr hy h0 hS hD H
    refine ⟨fun h => (by rw [h] at hr; cases hr), fun j hj => ?_⟩
    by_cases hji : j = i
    · subst hji; exact hy.wpOp hi h0 ⟨fun h => hS (by rw [← dn]; exact h), H⟩
    · have := ready_mono hj hji
      rw [H.1] at this
      cases this
  | succ fuel ih =>
    intro listed a w hfree hr hy h0 hS hD H
    refine ⟨fun h => (by rw [h] at hr; cases hr), fun j hj => ?_⟩
    by_cases hji : j = i
    · subst hji; exact hy.wpOp hi h0 ⟨fun h => hS (by rw [← dn]; exact h), H⟩
    · have h1 := H.2 j (ready_mono hj hji)
      obtain ⟨hjun, oj, hoj, hall⟩ := mem_ready.1 hj
      have wait : ∀ oj' : Oper, (∀ e ∈ oj'.after, Region.binds md e = true → listed.getD e.on false = true) → ∀ e ∈ oj'.after, Region.binds md e = true → e.on ≠ i := fun oj' hall e he hb heq => by
        have h1 := hall e he hb
        have h0 := (mem_ready.1 hr).1
        rw [heq] at h1
        rcases Nat.lt_or_ge i listed.size with h' | h'
        · simp [h'] at h0 h1; rw [h0] at h1; cases h1
        · simp [Array.getElem?_eq_none h'] at h1
      have hnot := wait oj hall
      have h2 := wpOp_putIf hoj (hfree j oj hoj hji hjun hnot) (fun cs b => hsel i oi cs b hi) (fun cs b => hsel j oj cs b hoj) hQ hy h1
      have hfree' : ∀ k ok, ops[k]? = some ok → k ≠ i → (listed.setIfInBounds j true).getD k true = false →
          (∀ e ∈ ok.after, Region.binds md e = true → e.on ≠ i) → oi.apart ops ok = true := fun k ok hk hki hun hno => by
        refine hfree k ok hk hki ?_ hno
        by_cases hjk : j = k
        · subst hjk; exact hjun
        · rw [getD_set_ne true hjk] at hun; exact hun
      refine wpOp_mono (fun a' w' h3 => ?_) h2
      obtain ⟨h3, h4, h5⟩ := h3
      have h4 : ((listed.setIfInBounds j true).getD D true = false → S w') := fun h => h4 (by rw [Array.setIfInBounds_comm _ _ (Ne.symm hji), dn]; exact h)
      have hD' : (∀ w, S0 w) ∨ (listed.setIfInBounds j true).getD D true = false := by
        rcases hS0 with hS0 | ⟨_, oD, hoD, e, he, hb, hon⟩
        · exact .inl hS0
        · rcases hD with hD | hD
          · exact .inl hD
          · refine .inr ?_
            have hjD : j ≠ D := fun h => by
              subst h
              rw [hoj] at hoD
              cases hoD
              exact hnot e he hb hon
            rw [getD_set_ne true hjD]; exact hD
      refine ⟨h4, ih (listed.setIfInBounds j true) a' w' hfree' (ready_mono hr (Ne.symm hji)) h3 ?_ h4 hD' ?_⟩
      · rcases hS0 with hS0 | ⟨hS0, _⟩
        · exact hS0 _
        · rcases hD' with h | h
          · exact h _
          · exact hS0 _ (h4 h)
      · rw [Array.setIfInBounds_comm _ _ hji]
        exact h5
/-- Take number i first: whatever the world is. -/
theorem wpAnyG_take {i : Nat} {oi : Oper} {v : Value} {fuel : Nat} {listed : Array Bool} {a : Act} {w : World} (hi : ops[i]? = some oi)
    (hs : Region.noSelect ops = true) (hf : Region.free md ops listed i = true) (hr : (Region.ready md ops listed).contains i = true) (hiD : D ≠ i)
    (hQ : ∀ c a w, Q (.panic c) (a.put oi.dst v) w → Q (.panic c) a w) (hy : YieldsIf P ops (fun _ => True) oi v a) (hS : S w)
    (h : wpAnyG P md ops Q S D fuel (listed.setIfInBounds i true) (a.put oi.dst v) w) : wpAnyG P md ops Q S D (fuel + 1) listed a w :=
  wpAnyG_first hi (Region.noSelect_spec hs) hQ hiD (.inl fun _ => trivial) fuel listed a w (Region.free_spec hi hf) (by simpa using hr) hy trivial (fun _ => hS) (.inl fun _ => trivial) h
/-- Take a load first, that number D waits for. -/
theorem wpAnyG_load {i : Nat} {oi oD : Oper} {v : Value} {fuel : Nat} {listed : Array Bool} {a : Act} {w : World} (hi : ops[i]? = some oi)
    (hs : Region.noSelect ops = true) (hf : Region.free md ops listed i = true) (hr : (Region.ready md ops listed).contains i = true) (hiD : D ≠ i) (hD : ops[D]? = some oD) (hDw : (oD.after.any fun e => Region.binds md e && Nat.beq e.on i) = true)
    (hl : listed.getD D true = false)
    (hQ : ∀ c a w, Q (.panic c) (a.put oi.dst v) w → Q (.panic c) a w) (hy : YieldsIf P ops S oi v a) (hS : S w)
    (h : wpAnyG P md ops Q S D fuel (listed.setIfInBounds i true) (a.put oi.dst v) w) : wpAnyG P md ops Q S D (fuel + 1) listed a w := by
  refine wpAnyG_first hi (Region.noSelect_spec hs) hQ hiD (.inr ⟨fun _ h => h, oD, hD, ?_⟩) fuel listed a w (Region.free_spec hi hf) (by simpa using hr) hy hS (fun _ => hS) (.inr hl) h
  simp only [Array.any_eq_true', Bool.and_eq_true] at hDw
  obtain ⟨e, he, h1, h2⟩ := hDw
  exact ⟨e, he, h1, Nat.eq_of_beq_eq_true h2⟩
/-- One alone may come up. -/
theorem wpAnyG_one {i : Nat} {fuel : Nat} {listed : Array Bool} {a : Act} {w : World} (hr : Region.ready md ops listed = [i])
    (h : wpOp P ops Q i (fun a' w' => ((listed.setIfInBounds i true).getD D true = false → S w') ∧ wpAnyG P md ops Q S D fuel (listed.setIfInBounds i true) a' w') a w) : wpAnyG P md ops Q S D (fuel + 1) listed a w :=
  ⟨fun h0 => (by rw [hr] at h0; cases h0), fun j hj => by rw [hr] at hj; rw [List.mem_singleton.1 hj]; exact h⟩
/-- .. and what follows is handed over behind a 'for every K'. -/
theorem wpAnyG_step {i : Nat} {o : Oper} {fuel : Nat} {listed : Array Bool} {a : Act} {w : World} (hr : Region.ready md ops listed = [i]) (ho : ops[i]? = some o) (hw : Region.wanted o (yielded ops a.tmps) = true)
    (h : ∀ K' : Act → World → Prop, Shut (∀ a w, ((listed.setIfInBounds i true).getD D true = false → S w) → wpAnyG P md ops Q S D fuel (listed.setIfInBounds i true) a w → K' a w) → Oper.wp P o a w K' Q) : wpAnyG P md ops Q S D (fuel + 1) listed a w :=
  wpAnyG_one hr (wpOp_step ho (fun K' hK => by rw [if_pos hw]; exact h K' (fun a w hS hW => hK a w ⟨hS, hW⟩)))
/-- .. behind number D. -/
theorem wpAnyG_stepD {i : Nat} {o : Oper} {fuel : Nat} {listed : Array Bool} {a : Act} {w : World} (hr : Region.ready md ops listed = [i]) (ho : ops[i]? = some o) (hw : Region.wanted o (yielded ops a.tmps) = true) (hl : (listed.setIfInBounds i true).getD D true = true)
    (h : ∀ K' : Act → World → Prop, Shut (∀ a w, wpAnyG P md ops Q S D fuel (listed.setIfInBounds i true) a w → K' a w) → Oper.wp P o a w K' Q) : wpAnyG P md ops Q S D (fuel + 1) listed a w :=
  wpAnyG_one hr (wpOp_step ho (fun K' hK => by rw [if_pos hw]; exact h K' (fun a w hW => hK a w ⟨fun h => Bool.noConfusion (hl.symm.trans h), hW⟩)))
theorem wpAnyG_done {listed : Array Bool} {a : Act} {w : World} (hr : Region.ready md ops listed = []) (h : Q .normal a w) :
    ∀ fuel, wpAnyG P md ops Q S D fuel listed a w
  | 0 => ⟨hr, h⟩
  | _ + 1 => ⟨fun _ => h, by rw [hr]; simp⟩
theorem wp_region_G {id : Nat} {a : Act} {w : World} (D : Nat) (S : World → Prop) (hm : P.follows .mixedOrders = true)
    (h : wpAnyG P .any ops Q S D ops.size (Array.replicate ops.size false) a w.drew) : (Code.region id ops true).wp P Q a w :=
  wp_region_any hm (wpAny_of_G _ _ _ _ h)
theorem wp_app {o : Oper} {a : Act} {w w' : World} {K : Act → World → Prop} (t u : TypeId) (x y : Operand) (hop : o.op = .call ⟨.builtin .append, #[x, y], #[t, u]⟩) (vx vy v' : Value)
    (hx : a.eval x = vx) (hy : a.eval y = vy) (hrun : (Builtin.append_ #[t, u] o.type #[vx, vy]).run P w = .ok v' w') (hK : K (a.put o.dst v') w') : o.wp P a w K Q := by
  unfold Oper.wp
  simp [execOp, hop, resolve, invoke, builtin, hx, hy, hrun, Result.andThen]
  exact hK
end
theorem app_own {P : Program} {w : World} {base : Nat} {t e : TypeId} {ks : List CK} {ti : TypeInfo} {z : Value} (ht : P.underlying t = some (.slice e)) (hel : ElOK P ks e ti z) (hp : 0 < ks.length)
    {v : Value} {n : Nat} {xs : List Value} (hown : w.ownsRow base e ks.length v n xs) (ad : Addr) (c : Nat) (news : List Value) (hl : news.length = ks.length) (hnews : ∀ j u, news[j]? = some u → w.cell? (ad.add j) = some u) (h1 : ∀ u ∈ news, u.oneCell' = true)
    (hn : n ≤ 1000) (hbase : base ≤ w.heap.size) (ty : TypeId) :
    ∃ v' w', (Builtin.append_ #[t, t] ty #[v, .slice (some ad) 1 c]).run P w = .ok v' w' ∧ w'.ownsRow base e ks.length v' (n + 1) (xs ++ news) ∧ w.grownBy w' v.ownBlock ∧ (v'.ownBlock = v.ownBlock ∨ v'.ownBlock = some w.heap.size) := by
  have hb : (n + 1) * ti.bytes ≤ 140737488355328 := by
    have := Nat.mul_le_mul (show n + 1 ≤ 1001 by omega) hel.bytes
    omega
  have hm : n + 1 ≤ maxLen := by unfold maxLen; omega
  obtain ⟨v', w', hr, a1, a2, _⟩ := run_append_own (P := P) w base t ty e ti z ks.length ti.bytes ht hel.info hel.zero hel.size rfl (hel.zsize.trans hel.size) hp v n xs hown ad 1 c news (by rw [hl, Nat.one_mul]) hnews h1 hm hb hbase
  refine ⟨v', w', hr, a1, a2, ?_⟩
  rcases hown.2 with ⟨rfl, rfl⟩ | ⟨q, cap, cur, rfl, b1, b2, b3, b4, b5, b6⟩
  · have := run_append_nil (P := P) w t ty e ti z ht hel.info hel.zero ad 1 c news (by rw [hl, hel.size, Nat.one_mul]) hnews (by decide) (by decide) (by omega)
    rw [this] at hr
    cases hr
    exact .inr rfl
  · by_cases hroom : n + 1 ≤ cap
    · have := run_append_room (P := P) w t ty e ti ht hel.info q n cap cur b2 ad 1 c news (by rw [hl, hel.size, Nat.one_mul]) hnews h1 hroom (by
        have := Nat.mul_le_mul_right ks.length hroom
        rw [hl, hel.size, b5]
        rw [Nat.add_mul, Nat.one_mul] at this
        exact this)
      rw [this] at hr
      cases hr
      exact .inl rfl
    · have := run_append_grow (P := P) w t ty e ti z ht hel.info hel.zero ⟨q, 0, none⟩ n cap xs (by rw [hown.1, hel.size]) (hown.cells (g := q) rfl) ad 1 c news (by rw [hl, hel.size, Nat.one_mul]) hnews (by omega) (by unfold maxLen at hm; omega) (growslice_fits (by omega) hb)
      rw [this] at hr
      cases hr
      exact .inr rfl
theorem stay_heap {w : World} {b k : Nat} {cs : Array Value} {t : TypeId} {v : Value} (h : w.heap[b]? = some (.cells cs t (0, 0))) (hk : cs[k]? = some v) : (w.setCell ⟨b, k, none⟩ v).heap[b]? = some (.cells cs t (0, 0)) := by
  obtain ⟨hlt, hv⟩ := Array.getElem?_eq_some_iff.1 hk
  rw [set_heap h hlt]
  congr 2
  rw [← hv]
  exact Array.set_getElem_self hlt
theorem far_heap {w : World} {b b' k : Nat} {v : Value} {o : Obj} (h : w.heap[b']? = some o) (hb : b' ≠ b) : (w.setCell ⟨b, k, none⟩ v).heap[b']? = some o := by rw [Below.heap_setCell _ _ _ _ (by exact hb)]; exact h
theorem cell_pg {w' : World} {cs : Array Value} {t : TypeId} {b : Nat} (h : w'.heap[b]? = some (.cells cs t (0, 0))) (k : Nat) : w'.cell? ⟨b, k, none⟩ = cs[k]? ∧ w'.frozen? ⟨b, k, none⟩ = false := ⟨cell_of_row _ _ _ _ _ _ h, by simp [World.frozen?, h]⟩
theorem news_at (w : World) (cs : Array Value) (t : TypeId) : ∀ (j : Nat) (u : Value), cs.toList[j]? = some u → (w.alloc (.cells cs t)).cell? ((⟨w.heap.size, 0, none⟩ : Addr).add j) = some u := fun j u h => by
  have e : (⟨w.heap.size, 0, none⟩ : Addr).add j = ⟨w.heap.size, j, none⟩ := by rw [Addr.add_lit, Nat.zero_add]
  rw [e, cell_of_row _ _ _ _ _ _ (heap_alloc_new w _)]
  simpa using h
theorem row_shape {w : World} {base : Nat} {e : TypeId} {s m : Nat} {l : List Value} {v : Value} (ho : w.ownsRow base e s v m l) : ∃ A k c, v = .slice A k c := by
  rcases ho.2 with ⟨h, _⟩ | ⟨q, cap, cur, h, _⟩
  · exact ⟨_, _, _, h⟩
  · exact ⟨_, _, _, h⟩
/-- What stands while the law goes on: p: the condition and the mutex; behind them the frames. -/
structure L (p : Nat) (c m : Array Value) (fv : Value) (n : Nat) (fr : List Value) (w0 w : World) : Prop where
  b : Below p w0 w
  h7 : w.heap[p]? = some (.cells c 30 (0, 0))
  h8 : w.heap[p + 1]? = some (.cells m 30 (0, 0))
  o : w.ownsRow (p + 2) 33 10 fv n fr
section
variable {p : Nat} {c m : Array Value} {fv : Value} {n : Nat} {fr : List Value} {w0 w : World}
theorem L.below (h : L p c m fv n fr w0 w) {w' : World} (hb : Below w.heap.size w w') : L p c m fv n fr w0 w' := by
  have hq : p < w.heap.size := lt_of_heap h.h7
  exact ⟨h.b.trans (hb.mono (by omega)), (hb.block _ hq).trans h.h7, (hb.block _ (lt_of_heap h.h8)).trans h.h8, h.o.kept (grown_any (row := none) hb) (by cases fv.ownBlock <;> simp)⟩
theorem L.set7 (h : L p c m fv n fr w0 w) {k : Nat} {v : Value} (hk : k < c.size) : L p (c.set k v hk) m fv n fr w0 (w.setCell ⟨p, k, none⟩ v) :=
  ⟨h.b.setCell (Nat.le_refl _) _, set_heap h.h7 hk, far_heap h.h8 (by omega), ownsRow_setCell_below h.o (by show p < p + 2; omega) _⟩
theorem L.set8 (h : L p c m fv n fr w0 w) {k : Nat} {v : Value} (hk : k < m.size) : L p c (m.set k v hk) fv n fr w0 (w.setCell ⟨p + 1, k, none⟩ v) :=
  ⟨h.b.setCell (by show p ≤ p + 1; omega) _, far_heap h.h7 (by omega), set_heap h.h8 hk, ownsRow_setCell_below h.o (by show p + 1 < p + 2; omega) _⟩
theorem L.drew (h : L p c m fv n fr w0 w) : L p c m fv n fr w0 w.drew := h.below (Below.refl _ _).drew
theorem L.alloc (h : L p c m fv n fr w0 w) (o : Obj) : L p c m fv n fr w0 (w.alloc o) := h.below ((Below.refl _ _).alloc (Nat.le_refl _) _)
end
/-- .. and a frame of its own, in block q. -/
structure LF (p q : Nat) (c m f : Array Value) (fv : Value) (n : Nat) (fr : List Value) (w0 w : World) : Prop where
  l : L p c m fv n fr w0 w
  hq : p + 2 ≤ q
  lt : ∀ k, fv.ownBlock = some k → k < q
  h13 : w.heap[q]? = some (.cells f 33 (0, 0))
section
variable {p q : Nat} {c m f : Array Value} {fv : Value} {n : Nat} {fr : List Value} {w0 w : World}
theorem LF.start (h : L p c m fv n fr w0 w) (f : Array Value) : LF p w.heap.size c m f fv n fr w0 (w.alloc (.cells f 33)) := by
  have := lt_of_heap h.h8
  exact ⟨h.alloc _, by omega, fun k hk => (h.o.lt k hk).2, heap_alloc_new _ _⟩
theorem LF.below (h : LF p q c m f fv n fr w0 w) {w' : World} (hb : Below w.heap.size w w') : LF p q c m f fv n fr w0 w' := ⟨h.l.below hb, h.hq, h.lt, (hb.block _ (lt_of_heap h.h13)).trans h.h13⟩
theorem LF.drew (h : LF p q c m f fv n fr w0 w) : LF p q c m f fv n fr w0 w.drew := h.below (Below.refl _ _).drew
theorem LF.alloc (h : LF p q c m f fv n fr w0 w) (o : Obj) : LF p q c m f fv n fr w0 (w.alloc o) := h.below ((Below.refl _ _).alloc (Nat.le_refl _) _)
theorem LF.set7 (h : LF p q c m f fv n fr w0 w) {k : Nat} {v : Value} (hk : k < c.size) : LF p q (c.set k v hk) m f fv n fr w0 (w.setCell ⟨p, k, none⟩ v) := ⟨h.l.set7 hk, h.hq, h.lt, far_heap h.h13 (by have := h.hq; omega)⟩
theorem LF.set8 (h : LF p q c m f fv n fr w0 w) {k : Nat} {v : Value} (hk : k < m.size) : LF p q c (m.set k v hk) f fv n fr w0 (w.setCell ⟨p + 1, k, none⟩ v) := ⟨h.l.set8 hk, h.hq, h.lt, far_heap h.h13 (by have := h.hq; omega)⟩
theorem LF.set13 (h : LF p q c m f fv n fr w0 w) {k : Nat} {v : Value} (hk : k < f.size) : LF p q c m (f.set k v hk) fv n fr w0 (w.setCell ⟨q, k, none⟩ v) := by
  have hq := h.hq
  refine ⟨⟨h.l.b.setCell (by show p ≤ q; omega) _, far_heap h.l.h7 (by omega), far_heap h.l.h8 (by omega), h.l.o.kept (grown_set w q k v) ?_⟩, hq, h.lt, set_heap h.h13 hk⟩
  cases hv : fv.ownBlock with
  | none => exact .inl rfl
  | some j => exact .inr (fun e => by cases e; have := h.lt _ hv; omega)
end
theorem al_size' (w : World) (o : Obj) : (w.alloc o).heap.size = w.heap.size + 1 := by show (w.heap.push o).size = _; simp
/-- Four blocks, made one behind the other. -/
theorem four_new (w : World) (a b c d : Obj) : ((((w.alloc a).alloc b).alloc c).alloc d).heap[w.heap.size]? = some a ∧ ((((w.alloc a).alloc b).alloc c).alloc d).heap[w.heap.size + 1]? = some b ∧ ((((w.alloc a).alloc b).alloc c).alloc d).heap[w.heap.size + 1 + 1]? = some c ∧ ((((w.alloc a).alloc b).alloc c).alloc d).heap[w.heap.size + 1 + 1 + 1]? = some d ∧ Below w.heap.size w ((((w.alloc a).alloc b).alloc c).alloc d) := by
  have e1 := heap_alloc_new w a
  have e2 := heap_alloc_new (w.alloc a) b
  have e3 := heap_alloc_new ((w.alloc a).alloc b) c
  have e4 := heap_alloc_new (((w.alloc a).alloc b).alloc c) d
  rw [al_size'] at e2
  rw [al_size', al_size'] at e3
  rw [al_size', al_size', al_size'] at e4
  have up : ∀ {w : World} {k : Nat} {o o' : Obj}, w.heap[k]? = some o → (w.alloc o').heap[k]? = some o := fun h => (Below.heap_alloc _ _ _ (lt_of_heap h)).trans h
  refine ⟨up (up (up e1)), up (up e2), up e3, e4, ?_⟩
  exact ((((Below.refl _ _).alloc (Nat.le_refl _) _).alloc (by rw [al_size']; omega) _).alloc (by rw [al_size', al_size']; omega) _).alloc (by rw [al_size', al_size', al_size']; omega) _
/-- Of the world behind a part of the walk only what is said of it goes on. -/
theorem wp_world {P : Program} {c : Code} {Q : Exit → Act → World → Prop} {a : Act} {w : World} (F : World → Prop) (hF : F w) (h : ∀ w', F w' → c.wp P Q a w') : c.wp P Q a w := h w hF
/-- What a call's four answers are stored in. -/
structure T4 (r : Nat) (C M F A : Array Value) (w : World) : Prop where
  t1 : w.heap[r]? = some (.cells C 30 (0, 0))
  t2 : w.heap[r + 1]? = some (.cells M 30 (0, 0))
  t3 : w.heap[r + 1 + 1]? = some (.cells F 33 (0, 0))
  t4 : w.heap[r + 1 + 1 + 1]? = some (.cells A 39 (0, 0))
theorem T4.far {r : Nat} {C M F A : Array Value} {w : World} (h : T4 r C M F A w) {b k : Nat} {v : Value} (hb : b < r) : T4 r C M F A (w.setCell ⟨b, k, none⟩ v) := ⟨far_heap h.t1 (by omega), far_heap h.t2 (by omega), far_heap h.t3 (by omega), far_heap h.t4 (by omega)⟩
theorem T4.drew {r : Nat} {C M F A : Array Value} {w : World} (h : T4 r C M F A w) : T4 r C M F A w.drew := ⟨h.t1, h.t2, h.t3, h.t4⟩
section
variable {p q : Nat} {c m f : Array Value} {fv : Value} {n : Nat} {fr : List Value} {w0 w : World}
theorem L.all7 {u0 u1 u2 u3 u4 u5 u6 u7 u8 u9 u10 : Value} (h : L p #[u0, u1, u2, u3, u4, u5, u6, u7, u8, u9, u10] m fv n fr w0 w) (v0 v1 v2 v3 v4 v5 v6 v7 v8 v9 v10 : Value) : L p #[v0, v1, v2, v3, v4, v5, v6, v7, v8, v9, v10] m fv n fr w0 (((((((((((w.setCell ⟨p, 0, none⟩ v0).setCell ⟨p, 1, none⟩ v1).setCell ⟨p, 2, none⟩ v2).setCell ⟨p, 3, none⟩ v3).setCell ⟨p, 4, none⟩ v4).setCell ⟨p, 5, none⟩ v5).setCell ⟨p, 6, none⟩ v6).setCell ⟨p, 7, none⟩ v7).setCell ⟨p, 8, none⟩ v8).setCell ⟨p, 9, none⟩ v9).setCell ⟨p, 10, none⟩ v10) := (((((((((((h.set7 (k := 0) (v := v0) (by show 0 < 11; decide)).set7 (k := 1) (v := v1) (by show 1 < 11; decide)).set7 (k := 2) (v := v2) (by show 2 < 11; decide)).set7 (k := 3) (v := v3) (by show 3 < 11; decide)).set7 (k := 4) (v := v4) (by show 4 < 11; decide)).set7 (k := 5) (v := v5) (by show 5 < 11; decide)).set7 (k := 6) (v := v6) (by show 6 < 11; decide)).set7 (k := 7) (v := v7) (by show 7 < 11; decide)).set7 (k := 8) (v := v8) (by show 8 < 11; decide)).set7 (k := 9) (v := v9) (by show 9 < 11; decide)).set7 (k := 10) (v := v10) (by show 10 < 11; decide))
theorem L.all8 {u0 u1 u2 u3 u4 u5 u6 u7 u8 u9 u10 : Value} (h : L p c #[u0, u1, u2, u3, u4, u5, u6, u7, u8, u9, u10] fv n fr w0 w) (v0 v1 v2 v3 v4 v5 v6 v7 v8 v9 v10 : Value) : L p c #[v0, v1, v2, v3, v4, v5, v6, v7, v8, v9, v10] fv n fr w0 (((((((((((w.setCell ⟨p + 1, 0, none⟩ v0).setCell ⟨p + 1, 1, none⟩ v1).setCell ⟨p + 1, 2, none⟩ v2).setCell ⟨p + 1, 3, none⟩ v3).setCell ⟨p + 1, 4, none⟩ v4).setCell ⟨p + 1, 5, none⟩ v5).setCell ⟨p + 1, 6, none⟩ v6).setCell ⟨p + 1, 7, none⟩ v7).setCell ⟨p + 1, 8, none⟩ v8).setCell ⟨p + 1, 9, none⟩ v9).setCell ⟨p + 1, 10, none⟩ v10) := (((((((((((h.set8 (k := 0) (v := v0) (by show 0 < 11; decide)).set8 (k := 1) (v := v1) (by show 1 < 11; decide)).set8 (k := 2) (v := v2) (by show 2 < 11; decide)).set8 (k := 3) (v := v3) (by show 3 < 11; decide)).set8 (k := 4) (v := v4) (by show 4 < 11; decide)).set8 (k := 5) (v := v5) (by show 5 < 11; decide)).set8 (k := 6) (v := v6) (by show 6 < 11; decide)).set8 (k := 7) (v := v7) (by show 7 < 11; decide)).set8 (k := 8) (v := v8) (by show 8 < 11; decide)).set8 (k := 9) (v := v9) (by show 9 < 11; decide)).set8 (k := 10) (v := v10) (by show 10 < 11; decide))
theorem LF.all7 {u0 u1 u2 u3 u4 u5 u6 u7 u8 u9 u10 : Value} (h : LF p q #[u0, u1, u2, u3, u4, u5, u6, u7, u8, u9, u10] m f fv n fr w0 w) (v0 v1 v2 v3 v4 v5 v6 v7 v8 v9 v10 : Value) : LF p q #[v0, v1, v2, v3, v4, v5, v6, v7, v8, v9, v10] m f fv n fr w0 (((((((((((w.setCell ⟨p, 0, none⟩ v0).setCell ⟨p, 1, none⟩ v1).setCell ⟨p, 2, none⟩ v2).setCell ⟨p, 3, none⟩ v3).setCell ⟨p, 4, none⟩ v4).setCell ⟨p, 5, none⟩ v5).setCell ⟨p, 6, none⟩ v6).setCell ⟨p, 7, none⟩ v7).setCell ⟨p, 8, none⟩ v8).setCell ⟨p, 9, none⟩ v9).setCell ⟨p, 10, none⟩ v10) := (((((((((((h.set7 (k := 0) (v := v0) (by show 0 < 11; decide)).set7 (k := 1) (v := v1) (by show 1 < 11; decide)).set7 (k := 2) (v := v2) (by show 2 < 11; decide)).set7 (k := 3) (v := v3) (by show 3 < 11; decide)).set7 (k := 4) (v := v4) (by show 4 < 11; decide)).set7 (k := 5) (v := v5) (by show 5 < 11; decide)).set7 (k := 6) (v := v6) (by show 6 < 11; decide)).set7 (k := 7) (v := v7) (by show 7 < 11; decide)).set7 (k := 8) (v := v8) (by show 8 < 11; decide)).set7 (k := 9) (v := v9) (by show 9 < 11; decide)).set7 (k := 10) (v := v10) (by show 10 < 11; decide))
theorem LF.all8 {u0 u1 u2 u3 u4 u5 u6 u7 u8 u9 u10 : Value} (h : LF p q c #[u0, u1, u2, u3, u4, u5, u6, u7, u8, u9, u10] f fv n fr w0 w) (v0 v1 v2 v3 v4 v5 v6 v7 v8 v9 v10 : Value) : LF p q c #[v0, v1, v2, v3, v4, v5, v6, v7, v8, v9, v10] f fv n fr w0 (((((((((((w.setCell ⟨p + 1, 0, none⟩ v0).setCell ⟨p + 1, 1, none⟩ v1).setCell ⟨p + 1, 2, none⟩ v2).setCell ⟨p + 1, 3, none⟩ v3).setCell ⟨p + 1, 4, none⟩ v4).setCell ⟨p + 1, 5, none⟩ v5).setCell ⟨p + 1, 6, none⟩ v6).setCell ⟨p + 1, 7, none⟩ v7).setCell ⟨p + 1, 8, none⟩ v8).setCell ⟨p + 1, 9, none⟩ v9).setCell ⟨p + 1, 10, none⟩ v10) := (((((((((((h.set8 (k := 0) (v := v0) (by show 0 < 11; decide)).set8 (k := 1) (v := v1) (by show 1 < 11; decide)).set8 (k := 2) (v := v2) (by show 2 < 11; decide)).set8 (k := 3) (v := v3) (by show 3 < 11; decide)).set8 (k := 4) (v := v4) (by show 4 < 11; decide)).set8 (k := 5) (v := v5) (by show 5 < 11; decide)).set8 (k := 6) (v := v6) (by show 6 < 11; decide)).set8 (k := 7) (v := v7) (by show 7 < 11; decide)).set8 (k := 8) (v := v8) (by show 8 < 11; decide)).set8 (k := 9) (v := v9) (by show 9 < 11; decide)).set8 (k := 10) (v := v10) (by show 10 < 11; decide))
theorem LF.all13 {u0 u1 u2 u3 u4 u5 u6 u7 u8 u9 : Value} (h : LF p q c m #[u0, u1, u2, u3, u4, u5, u6, u7, u8, u9] fv n fr w0 w) (v0 v1 v2 v3 v4 v5 v6 v7 v8 v9 : Value) : LF p q c m #[v0, v1, v2, v3, v4, v5, v6, v7, v8, v9] fv n fr w0 ((((((((((w.setCell ⟨q, 0, none⟩ v0).setCell ⟨q, 1, none⟩ v1).setCell ⟨q, 2, none⟩ v2).setCell ⟨q, 3, none⟩ v3).setCell ⟨q, 4, none⟩ v4).setCell ⟨q, 5, none⟩ v5).setCell ⟨q, 6, none⟩ v6).setCell ⟨q, 7, none⟩ v7).setCell ⟨q, 8, none⟩ v8).setCell ⟨q, 9, none⟩ v9) := ((((((((((h.set13 (k := 0) (v := v0) (by show 0 < 10; decide)).set13 (k := 1) (v := v1) (by show 1 < 10; decide)).set13 (k := 2) (v := v2) (by show 2 < 10; decide)).set13 (k := 3) (v := v3) (by show 3 < 10; decide)).set13 (k := 4) (v := v4) (by show 4 < 10; decide)).set13 (k := 5) (v := v5) (by show 5 < 10; decide)).set13 (k := 6) (v := v6) (by show 6 < 10; decide)).set13 (k := 7) (v := v7) (by show 7 < 10; decide)).set13 (k := 8) (v := v8) (by show 8 < 10; decide)).set13 (k := 9) (v := v9) (by show 9 < 10; decide))
end
theorem T4.far11 {r : Nat} {C M F A : Array Value} {w : World} (h : T4 r C M F A w) {b : Nat} (hb : b < r) (v0 v1 v2 v3 v4 v5 v6 v7 v8 v9 v10 : Value) : T4 r C M F A (((((((((((w.setCell ⟨b, 0, none⟩ v0).setCell ⟨b, 1, none⟩ v1).setCell ⟨b, 2, none⟩ v2).setCell ⟨b, 3, none⟩ v3).setCell ⟨b, 4, none⟩ v4).setCell ⟨b, 5, none⟩ v5).setCell ⟨b, 6, none⟩ v6).setCell ⟨b, 7, none⟩ v7).setCell ⟨b, 8, none⟩ v8).setCell ⟨b, 9, none⟩ v9).setCell ⟨b, 10, none⟩ v10) := (((((((((((h.far hb).far hb).far hb).far hb).far hb).far hb).far hb).far hb).far hb).far hb).far hb)
theorem T4.far10 {r : Nat} {C M F A : Array Value} {w : World} (h : T4 r C M F A w) {b : Nat} (hb : b < r) (v0 v1 v2 v3 v4 v5 v6 v7 v8 v9 : Value) : T4 r C M F A ((((((((((w.setCell ⟨b, 0, none⟩ v0).setCell ⟨b, 1, none⟩ v1).setCell ⟨b, 2, none⟩ v2).setCell ⟨b, 3, none⟩ v3).setCell ⟨b, 4, none⟩ v4).setCell ⟨b, 5, none⟩ v5).setCell ⟨b, 6, none⟩ v6).setCell ⟨b, 7, none⟩ v7).setCell ⟨b, 8, none⟩ v8).setCell ⟨b, 9, none⟩ v9) := ((((((((((h.far hb).far hb).far hb).far hb).far hb).far hb).far hb).far hb).far hb).far hb)
theorem T4.s {r : Nat} {C M F A : Array Value} {w : World} (h : T4 r C M F A w) : w.heap[r]? = some (.cells C 30 (0, 0)) ∧ w.heap[r + 1]? = some (.cells M 30 (0, 0)) ∧ w.heap[r + 1 + 1]? = some (.cells F 33 (0, 0)) := ⟨h.t1, h.t2, h.t3⟩
/-- Behind an operation of a drawn region only what is said of the world goes on. -/
theorem G_out {c : Prop} {S : World → Prop} {G K : Act → World → Prop} {a : Act} {w : World} (hK : Shut (∀ a w, (c → S w) → G a w → K a w)) (F : World → Prop) (hF : F w) (hS : ∀ w', F w' → S w') (h : ∀ w', F w' → G a w') : K a w := hK.out a w (fun _ => hS w hF) (h w hF)
theorem G_outD {G K : Act → World → Prop} {a : Act} {w : World} (hK : Shut (∀ a w, G a w → K a w)) (F : World → Prop) (hF : F w) (h : ∀ w', F w' → G a w') : K a w := hK.out a w (h w hF)
def frC (x : Int) : Nat → List Value
  | 0 => []
  | j + 1 => frC x j ++ (fC 2 ((x + j) % 4294967296)).toList
theorem L.push {p : Nat} {c m : Array Value} {fv : Value} {n : Nat} {fr : List Value} {w0 w : World} (h : L p c m fv n fr w0 w) (hn : n ≤ 1000) (st l : Int) (ty : TypeId) :
    ∃ v' w', (Builtin.append_ #[31, 31] ty #[fv, .slice (some ⟨w.heap.size, 0, none⟩) 1 1]).run Tryd.prog (w.alloc (.cells (fC st l) 33)) = .ok v' w' ∧ L p c m v' (n + 1) (fr ++ (fC st l).toList) w0 w' := by
  obtain ⟨ti, zz, hel⟩ := el_ok (P := Tryd.prog) (e := 33) (ks := [.int .i64, .int .i64, .int .i64, .int .i64, .int .i64, .int .i64, .bool, .bool, .int .i64, .bool]) (by kernel_rfl) (by kernel_rfl)
  have h' := h.alloc (.cells (fC st l) 33)
  have lt := lt_of_heap h'.h8
  obtain ⟨v', w', hr, a1, a2, a3⟩ := app_own (P := Tryd.prog) (t := 31) Tryd.underlying31 hel (by decide) h'.o ⟨w.heap.size, 0, none⟩ 1 (fC st l).toList rfl (news_at w (fC st l) 33) (by simp [fC, Value.oneCell']) hn (by omega) ty
  have hb : ∀ k, k < p + 2 → some k ≠ fv.ownBlock := fun k hk e => by have := (h'.o.lt _ e.symm).1; omega
  have l7 := lt_of_heap h'.h7
  refine ⟨v', w', hr, ⟨h'.b.os ▸ a2.os, h'.b.tape ▸ a2.tape, h'.b.output ▸ a2.output, Nat.le_trans h'.b.size a2.size, fun k hk => ?_⟩, (a2.block p l7 (hb p (by omega))).trans h'.h7, (a2.block (p + 1) lt (hb (p + 1) (by omega))).trans h'.h8, a1⟩
  exact (a2.block k (by omega) (hb k (by omega))).trans (h'.b.block k hk)
end Go.Proofs.YtmmliaobjendoaaDoor
