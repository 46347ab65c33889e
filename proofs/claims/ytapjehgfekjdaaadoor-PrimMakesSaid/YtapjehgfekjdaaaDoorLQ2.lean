/- Drawn regions: laws for takes and loads whose memory is asked for only so long. No condition. -/
import Derived.Test.YtapjehgfekjdaaaDoorLQ1
import Derived.Deep.RegionHeld3
import Derived.Deep.DeepCutAuto
namespace Go.Proofs.YtapjehgfekjdaaaDoor
open SY
open Go.RowKit
set_option linter.unusedVariables false
set_option maxRecDepth 100000
section
variable {P : Program} {ops : Array Oper} {Q : Exit → Act → World → Prop} {md : Region.Mode} {L : List (Nat × (World → Prop))}
/-- Each of these holds till its number has come up. -/
def SL (L : List (Nat × (World → Prop))) (listed : Array Bool) (w : World) : Prop := ∀ x ∈ L, listed.getD x.1 true = false → x.2 w
theorem SL.nil {listed : Array Bool} {w : World} : SL [] listed w := fun x h => by cases h
theorem SL.cons {d : Nat} {A : World → Prop} {listed : Array Bool} {w : World} (h : A w) (hl : SL L listed w) : SL ((d, A) :: L) listed w := fun x hx hd => by
  rcases List.mem_cons.1 hx with rfl | hx
  · exact h
  · exact hl x hx hd
theorem SL.past {d : Nat} {A : World → Prop} {listed : Array Bool} {w : World} (h : listed.getD d true = true) (hl : SL L listed w) : SL ((d, A) :: L) listed w := fun x hx hd => by
  rcases List.mem_cons.1 hx with rfl | hx
  · exact Bool.noConfusion (h.symm.trans hd)
  · exact hl x hx hd
/-- Whatever order is picked from here on. -/
def wpAnyS (P : Program) (md : Region.Mode) (ops : Array Oper) (Q : Exit → Act → World → Prop) (L : List (Nat × (World → Prop))) : Nat → Array Bool → Act → World → Prop
  | 0, listed, a, w => Region.ready md ops listed = [] ∧ Q .normal a w
  | fuel + 1, listed, a, w =>
    (Region.ready md ops listed = [] → Q .normal a w) ∧
    ∀ i ∈ Region.ready md ops listed, wpOp P ops Q i (fun a' w' => SL L (listed.setIfInBounds i true) w' ∧ wpAnyS P md ops Q L fuel (listed.setIfInBounds i true) a' w') a w
theorem wpAny_of_S : ∀ (fuel : Nat) (listed : Array Bool) (a : Act) (w : World), wpAnyS P md ops Q L fuel listed a w → wpAny P md ops Q fuel listed a w
  | 0, _, _, _, h => h
  | fuel + 1, _, _, _, h => ⟨h.1, fun i hi => wpOp_mono (fun a' w' h' => wpAny_of_S fuel _ a' w' h'.2) (h.2 i hi)⟩
theorem SL.swap {i : Nat} (hiL : ∀ x ∈ L, x.1 ≠ i) {listed : Array Bool} {w : World} (h : SL L (listed.setIfInBounds i true) w) : SL L listed w := fun x hx hd => h x hx (by rw [getD_set_ne true (Ne.symm (hiL x hx))]; exact hd)
theorem wpAnyS_first {S0 : World → Prop} {i : Nat} {oi : Oper} {v : Value} (D : Nat) (hi : ops[i]? = some oi) (hsel : ∀ (j : Nat) (o : Oper) cs b, ops[j]? = some o → o.op ≠ .select cs b)
    (hQ : ∀ c a w, Q (.panic c) (a.put oi.dst v) w → Q (.panic c) a w) (hiL : ∀ x ∈ L, x.1 ≠ i)
    (hS0 : (∀ w, S0 w) ∨ ((D, S0) ∈ L ∧ ∃ oD, ops[D]? = some oD ∧ ∃ e ∈ oD.after, Region.binds md e = true ∧ e.on = i)) :
    ∀ (fuel : Nat) (listed : Array Bool) (a : Act) (w : World),
      (∀ j oj, ops[j]? = some oj → j ≠ i → listed.getD j true = false → (∀ e ∈ oj.after, Region.binds md e = true → e.on ≠ i) → oi.apart ops oj = true) →
      i ∈ Region.ready md ops listed → YieldsIf P ops S0 oi v a → S0 w → SL L listed w → ((∀ w, S0 w) ∨ listed.getD D true = false) →
      wpAnyS P md ops Q L fuel (listed.setIfInBounds i true) (a.put oi.dst v) w → wpAnyS P md ops Q L (fuel + 1) listed a w := by
  have keep : ∀ {listed : Array Bool} {w : World}, SL L listed w → SL L (listed.setIfInBounds i true) w := fun hS x hx hd => hS x hx (by rw [getD_set_ne true (Ne.symm (hiL x hx))] at hd; exact hd)
  intro fuel
  induction fuel with
  | zero =>
    intro listed a w _ hr hy h0 hS hD H
    refine ⟨fun h => (by rw [h] at hr; cases hr), fun j hj => ?_⟩
    by_cases hji : j = i
    · subst hji; exact hy.wpOp hi h0 ⟨keep hS, H⟩
    · have := ready_mono hj hji
      rw [H.1] at this
      cases this
  | succ fuel ih =>
    intro listed a w hfree hr hy h0 hS hD H
    refine ⟨fun h => (by rw [h] at hr; cases hr), fun j hj => ?_⟩
    by_cases hji : j = i
    · subst hji; exact hy.wpOp hi h0 ⟨keep hS, H⟩
    · have h1 := H.2 j (ready_mono hj hji)
      obtain ⟨hjun, oj, hoj, hall⟩ := mem_ready.1 hj
      have wait : ∀ oj' : Oper, (∀ e ∈ oj'.after, Region.binds md e = true → listed.getD e.on false = true) → ∀ e ∈ oj'.after, Region.binds md e = true → e.on ≠ i := fun oj' hall e he hb heq => by
        have h1 := hall e he hb
        have h0 := (mem_ready.1 hr).1
        rw [heq] at h1
        rcases Nat.lt_or_ge i listed.size with h' | h'
        · simp [h'] at h0 h1; rw [h0] at h1; cases h1
        · simp [Array.getElem?_eq_none h'] at h1
      have hnot := wait oj hall
      have h2 := wpOp_putIf hoj (hfree j oj hoj hji hjun hnot) (fun cs b => hsel i oi cs b hi) (fun cs b => hsel j oj cs b hoj) hQ hy h1
      have hfree' : ∀ k ok, ops[k]? = some ok → k ≠ i → (listed.setIfInBounds j true).getD k true = false →
          (∀ e ∈ ok.after, Region.binds md e = true → e.on ≠ i) → oi.apart ops ok = true := fun k ok hk hki hun hno => by
        refine hfree k ok hk hki ?_ hno
        by_cases hjk : j = k
        · subst hjk; exact hjun
        · rw [getD_set_ne true hjk] at hun; exact hun
      refine wpOp_mono (fun a' w' h3 => ?_) h2
      obtain ⟨h3, h4, h5⟩ := h3
      have h4 : SL L (listed.setIfInBounds j true) w' := SL.swap hiL (by rw [Array.setIfInBounds_comm _ _ hji]; exact h4)
      have hD' : (∀ w, S0 w) ∨ (listed.setIfInBounds j true).getD D true = false := by
        rcases hS0 with hS0 | ⟨_, oD, hoD, e, he, hb, hon⟩
        · exact .inl hS0
        · rcases hD with hD | hD
          · exact .inl hD
          · refine .inr ?_
            have hjD : j ≠ D := fun h => by
              subst h
              rw [hoj] at hoD
              cases hoD
              exact hnot e he hb hon
            rw [getD_set_ne true hjD]; exact hD
      refine ⟨h4, ih (listed.setIfInBounds j true) a' w' hfree' (ready_mono hr (Ne.symm hji)) h3 ?_ h4 hD' ?_⟩
      · rcases hS0 with hS0 | ⟨hDL, _⟩
        · exact hS0 _
        · rcases hD' with h | h
          · exact h _
          · exact h4 (D, S0) hDL h
      · rw [Array.setIfInBounds_comm _ _ hji]
        exact h5
theorem notin {i : Nat} (h : (L.all fun x => !(Nat.beq x.1 i)) = true) : ∀ x ∈ L, x.1 ≠ i := fun x hx e => by
  have := List.all_eq_true.1 h x hx
  rw [e] at this
  simp at this
/-- Take number i first: whatever the world is. -/
theorem wpAnyS_take {i : Nat} {oi : Oper} {v : Value} {fuel : Nat} {listed : Array Bool} {a : Act} {w : World} (hi : ops[i]? = some oi)
    (hs : Region.noSelect ops = true) (hf : Region.free md ops listed i = true) (hr : (Region.ready md ops listed).contains i = true) (hiL : (L.all fun x => !(Nat.beq x.1 i)) = true)
    (hQ : ∀ c a w, Q (.panic c) (a.put oi.dst v) w → Q (.panic c) a w) (hy : YieldsIf P ops (fun _ => True) oi v a) (hS : SL L listed w)
    (h : wpAnyS P md ops Q L fuel (listed.setIfInBounds i true) (a.put oi.dst v) w) : wpAnyS P md ops Q L (fuel + 1) listed a w :=
  wpAnyS_first 0 hi (Region.noSelect_spec hs) hQ (notin hiL) (.inl fun _ => trivial) fuel listed a w (Region.free_spec hi hf) (by simpa using hr) hy trivial hS (.inl fun _ => trivial) h
/-- Take a load first, that number D waits for. -/
theorem wpAnyS_load {i : Nat} {oi oD : Oper} {v : Value} {fuel : Nat} {listed : Array Bool} {a : Act} {w : World} (D : Nat) (A : World → Prop) (hA : (D, A) ∈ L) (hi : ops[i]? = some oi)
    (hs : Region.noSelect ops = true) (hf : Region.free md ops listed i = true) (hr : (Region.ready md ops listed).contains i = true) (hiL : (L.all fun x => !(Nat.beq x.1 i)) = true) (hD : ops[D]? = some oD) (hDw : (oD.after.any fun e => Region.binds md e && Nat.beq e.on i) = true)
    (hl : listed.getD D true = false)
    (hQ : ∀ c a w, Q (.panic c) (a.put oi.dst v) w → Q (.panic c) a w) (hy : YieldsIf P ops A oi v a) (hS : SL L listed w)
    (h : wpAnyS P md ops Q L fuel (listed.setIfInBounds i true) (a.put oi.dst v) w) : wpAnyS P md ops Q L (fuel + 1) listed a w := by
  refine wpAnyS_first D hi (Region.noSelect_spec hs) hQ (notin hiL) (.inr ⟨hA, oD, hD, ?_⟩) fuel listed a w (Region.free_spec hi hf) (by simpa using hr) hy (hS (D, A) hA hl) hS (.inr hl) h
  simp only [Array.any_eq_true', Bool.and_eq_true] at hDw
  obtain ⟨e, he, h1, h2⟩ := hDw
  exact ⟨e, he, h1, Nat.eq_of_beq_eq_true h2⟩
/-- One alone may come up; what follows is handed over behind a 'for every K'. -/
theorem wpAnyS_step {i : Nat} {o : Oper} {fuel : Nat} {listed : Array Bool} {a : Act} {w : World} (hr : Region.ready md ops listed = [i]) (ho : ops[i]? = some o) (hw : Region.wanted o (yielded ops a.tmps) = true)
    (h : ∀ K' : Act → World → Prop, Shut (∀ a w, SL L (listed.setIfInBounds i true) w → wpAnyS P md ops Q L fuel (listed.setIfInBounds i true) a w → K' a w) → Oper.wp P o a w K' Q) : wpAnyS P md ops Q L (fuel + 1) listed a w :=
  ⟨fun h0 => (by rw [hr] at h0; cases h0), fun j hj => by
    rw [hr] at hj; rw [List.mem_singleton.1 hj]
    exact wpOp_step ho (fun K' hK => by rw [if_pos hw]; exact h K' (fun a w hS hW => hK a w ⟨hS, hW⟩))⟩
theorem wpAnyS_done {listed : Array Bool} {a : Act} {w : World} (hr : Region.ready md ops listed = []) (h : Q .normal a w) :
    ∀ fuel, wpAnyS P md ops Q L fuel listed a w
  | 0 => ⟨hr, h⟩
  | _ + 1 => ⟨fun _ => h, by rw [hr]; simp⟩
theorem wp_region_S {id : Nat} {a : Act} {w : World} (L : List (Nat × (World → Prop))) (hm : P.follows .mixedOrders = true)
    (h : wpAnyS P .any ops Q L ops.size (Array.replicate ops.size false) a w.drew) : (Code.region id ops true).wp P Q a w :=
  wp_region_any hm (wpAny_of_S _ _ _ _ h)
theorem wpAnyS_world {fuel : Nat} {listed : Array Bool} {a : Act} {w : World} (F : World → Prop) (hF : F w) (h : ∀ w', F w' → wpAnyS P md ops Q L fuel listed a w') : wpAnyS P md ops Q L fuel listed a w := h w hF
theorem S_out {G K : Act → World → Prop} {S : World → Prop} {a : Act} {w : World} (hK : Shut (∀ a w, S w → G a w → K a w)) (F : World → Prop) (hF : F w) (hS : ∀ w', F w' → S w') (h : ∀ w', F w' → G a w') : K a w := hK.out a w (hS w hF) (h w hF)
/-- A store of several cells into a block. -/
theorem wp_storeS {o : Oper} {a : Act} {w : World} {K : Act → World → Prop} {t tt : TypeId} {n b off : Nat} {x y : Operand} {cs : List Value} {v : Value} (hop : o.op = .store t x y) (hx : a.eval x = .pointer (some ⟨b, off, none⟩)) (hy : a.eval y = v)
    (hs : szT P t = some n) (hn : v.cells.size = n) (hb : w.heap[b]? = some (.cells cs.toArray tt (0, 0))) (hle : off + n ≤ cs.length) (h1 : ∀ u ∈ v.cells.toList, u.oneCell' = true)
    (h : K (a.put o.dst undef) (w.setRow b (splice cs off v.cells.toList).toArray)) : o.wp P a w K Q := by
  have := storeCells_ok hs hn hb hle h1
  unfold Oper.wp
  simp [execOp, Instr.storeAt, Instr.sureAddr, hop, hx, hy, this, Oper.upon]
  exact h
end
/-- The rows of own blocks. -/
theorem row_cell {w : World} {cs : Array Value} {t : TypeId} {b : Nat} (h : w.heap[b]? = some (.cells cs t (0, 0))) (k : Nat) : w.cell? ⟨b, k, none⟩ = cs[k]? := cell_of_row _ _ _ _ _ _ h
theorem row_frozen {w : World} {cs : Array Value} {t : TypeId} {b : Nat} (h : w.heap[b]? = some (.cells cs t (0, 0))) (k : Nat) : w.frozen? ⟨b, k, none⟩ = false := by simp [World.frozen?, h]
theorem row_rd {w : World} {xs : List Value} {t : TypeId} {b : Nat} (h : w.heap[b]? = some (.cells xs.toArray t (0, 0))) : ∀ (j : Nat) (u : Value), xs[j]? = some u → w.cell? ((⟨b, 0, none⟩ : Addr).add j) = some u := fun j u hj => by
  have e : (⟨b, 0, none⟩ : Addr).add j = ⟨b, j, none⟩ := by rw [Addr.add_lit, Nat.zero_add]
  rw [e, row_cell h]
  simpa using hj
theorem setRow_below {w0 w : World} {n b : Nat} {cs : Array Value} (h : Below n w0 w) (hb : n ≤ b) : Below n w0 (w.setRow b cs) :=
  ⟨h.os, h.tape, h.output, by show _ ≤ (w.setRow b cs).heap.size; have := h.size; simpa [World.setRow] using this, fun q hq => (setRow_other w b q _ (by omega)).trans (h.block q hq)⟩
end Go.Proofs.YtapjehgfekjdaaaDoor
