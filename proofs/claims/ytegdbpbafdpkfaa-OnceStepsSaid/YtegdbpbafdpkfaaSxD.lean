/- The symbolic executor's operations that touch memory are sound. No condition. -/
import Derived.Test.YtegdbpbafdpkfaaSxC
namespace Go.Proofs.Ytegdbpbafdpkfaa
open Go.RowKit
namespace SX
section
variable {P : Program} {ad : Ad}

theorem add_own (b off n : Nat) : (⟨b, off, none⟩ : Addr).add n = ⟨b, off + n, none⟩ := by
  unfold Addr.add; split <;> simp_all

theorem DS_own {k off : Nat} {v : Value} (h : DS ad (.t (.c (.own k off))) v) : ∃ b, ad k = some b ∧ v = .pointer (some ⟨b, off, none⟩) := h
theorem DS_agg {l : List SC} {v : Value} (h : DS ad (.t (.agg l)) v) : ∃ vs : List Value, v = .agg vs.toArray ∧ All2 (DC ad) l vs := h
theorem DS_v {x v : Value} (h : DS ad (.t (.c (.v x))) v) : v = x := h

theorem stepW_ok {ρ : Operand → S} {o : Oper} {s : S} {e : Operand → Value} (h : stepW P ρ o = some s) (hd : ∀ x, DS ad (ρ x) (e x)) :
    ∃ v, (∀ w, (execOp e o).run P w = .ok (.value v) w) ∧ DS ad s v := by
  obtain ⟨dst, op, type, pos, after, guard⟩ := o
  cases op <;> simp only [stepW] at h <;> try exact stepV_ok h (fun x _ => hd x)
  case move x =>
    simp only [Option.some.injEq] at h; subst h
    exact ⟨e x, fun w => rfl, hd x⟩
  case assign x =>
    simp only [Option.some.injEq] at h; subst h
    exact ⟨e x, fun w => rfl, hd x⟩
  case extract x i =>
    have hx := hd x
    split at h <;> try (cases h; done)
    rename_i l hl
    rw [hl] at hx
    obtain ⟨vs, hv, ha⟩ := hx
    split at h <;> try (cases h; done)
    rename_i y hy
    simp only [Option.some.injEq] at h; subst h
    obtain ⟨v, hvi, hdv⟩ := ha.get hy
    refine ⟨v, fun w => ?_, hdv⟩
    simp [execOp, Instr.extract, hv, hvi]
  case nilCheck x =>
    have hx := hd x
    split at h
    · rename_i k off hl
      rw [hl] at hx
      obtain ⟨b, hb, hv⟩ := DS_own hx
      simp only [Option.some.injEq] at h; subst h
      exact ⟨e x, fun w => by simp [execOp, hv], by rw [hl] at *; exact hx⟩
    · exact stepV_ok h (fun x _ => hd x)
  case fieldAddr t x f =>
    have hx := hd x
    split at h <;> try (cases h; done)
    rename_i k off hl
    rw [hl] at hx
    obtain ⟨b, hb, hv⟩ := DS_own hx
    split at h <;> try (cases h; done)
    rename_i fs hfs
    split at h <;> try (cases h; done)
    rename_i fl hfl
    split at h <;> try (cases h; done)
    rename_i n hn
    simp only [Option.some.injEq] at h; subst h
    refine ⟨.pointer (some ⟨b, off + fl.offset, none⟩), fun w => ?_, ⟨b, hb, rfl⟩⟩
    simp [execOp, Instr.fieldAt, run_underlying hfs, hfl, Instr.sureAddr, hv, fieldPlace, run_size hn, add_own]
  case indexAddr t x ix =>
    have hx := hd x
    have hi := hd ix
    split at h <;> try (cases h; done)
    rename_i k off hl
    rw [hl] at hx
    obtain ⟨b, hb, hv⟩ := DS_own hx
    split at h <;> try (cases h; done)
    rename_i kk n hn
    rw [hn] at hi
    have hi := DS_v hi
    split at h <;> try (cases h; done)
    rename_i len el hu
    split at h <;> try (cases h; done)
    rename_i hc
    simp only [Bool.and_eq_true, decide_eq_true_eq] at hc
    split at h <;> try (cases h; done)
    rename_i m hm
    simp only [Option.some.injEq] at h; subst h
    refine ⟨.pointer (some ⟨b, off + n.toNat * m, none⟩), fun w => ?_, ⟨b, hb, rfl⟩⟩
    simp [execOp, Instr.indexAt, run_underlying hu, asIntOf, hi, Instr.sureAddr, hv, run_size hm, add_own, hc]
  case field t x f =>
    have hx := hd x
    split at h <;> try (cases h; done)
    rename_i l hl
    rw [hl] at hx
    obtain ⟨vs, hv, ha⟩ := DS_agg hx
    split at h <;> try (cases h; done)
    rename_i fs hfs
    split at h <;> try (cases h; done)
    rename_i fl hfl
    split at h <;> try (cases h; done)
    · rename_i hag
      split at h <;> try (cases h; done)
      rename_i n hn
      simp only [Option.some.injEq] at h; subst h
      refine ⟨.agg ((vs.drop fl.offset).take n).toArray, fun w => ?_, ⟨_, rfl, (ha.drop _).take _⟩⟩
      simp [execOp, Instr.field, run_underlying hfs, hfl, asAgg, hv, run_part_agg hag hn]
    · rename_i hag
      split at h <;> try (cases h; done)
      rename_i c hc
      simp only [Option.some.injEq] at h; subst h
      obtain ⟨v, hvi, hdv⟩ := ha.get hc
      refine ⟨v, fun w => ?_, hdv⟩
      simp [execOp, Instr.field, run_underlying hfs, hfl, asAgg, hv, run_part_one hag hvi]
  case index t x ix =>
    have hx := hd x
    have hi := hd ix
    split at h
    · rename_i l hl
      rw [hl] at hx
      obtain ⟨vs, hv, ha⟩ := DS_agg hx
      split at h <;> try (cases h; done)
      rename_i kk n hn
      rw [hn] at hi
      have hi := DS_v hi
      split at h <;> try (cases h; done)
      rename_i len el hu
      split at h <;> try (cases h; done)
      rename_i hc
      simp only [Bool.and_eq_true, decide_eq_true_eq] at hc
      split at h <;> try (cases h; done)
      rename_i m hm
      split at h <;> try (cases h; done)
      · rename_i hag
        simp only [Option.some.injEq] at h; subst h
        refine ⟨.agg ((vs.drop (n.toNat * m)).take m).toArray, fun w => ?_, ⟨_, rfl, (ha.drop _).take _⟩⟩
        simp [execOp, Instr.index, run_underlying hu, asIntOf, hi, hv, run_size hm, hc, run_part_agg hag hm]
      · rename_i hag
        split at h <;> try (cases h; done)
        rename_i c hcc
        simp only [Option.some.injEq] at h; subst h
        obtain ⟨v, hvi, hdv⟩ := ha.get hcc
        refine ⟨v, fun w => ?_, hdv⟩
        simp [execOp, Instr.index, run_underlying hu, asIntOf, hi, hv, run_size hm, hc, run_part_one hag hvi]
    · exact stepV_ok h (fun x _ => hd x)
  case binOp op t x y yt =>
    cases op <;> dsimp only at h <;> try exact stepV_ok h (fun x _ => hd x)
    all_goals
      have hx := hd x
      have hy := hd y
      split at h
      · rename_i l m hl hm
        rw [hl] at hx
        rw [hm] at hy
        obtain ⟨vs, hv, ha⟩ := DS_agg hx
        obtain ⟨us, hu, hb⟩ := DS_agg hy
        split at h <;> try (cases h; done)
        rename_i ks hks
        split at h <;> try (cases h; done)
        rename_i hg
        simp only [Bool.or_eq_false_iff, Bool.not_eq_false'] at hg
        obtain ⟨hg, hag⟩ := hg
        have hag : aggT P t = some true := by
          revert hag
          cases aggT P t with
          | none => simp
          | some q => cases q <;> simp
        split at h <;> try (cases h; done)
        rename_i b hbb
        simp only [Option.some.injEq] at h; subst h
        have hq := fun w => eq_flat 20 t ks hks 10000 (by omega) l m vs us b _ _ ha hb hbb (.inl ⟨hag, rfl⟩) (.inl ⟨hag, rfl⟩) w
        first
          | (refine ⟨.bool b, fun w => ?_, rfl⟩; simp [execOp, hv, hu, run_eqGuard_agg _ _ _ _ _ _ _ hg, run_eql_struct, hq]; done)
          | (refine ⟨.bool (!b), fun w => ?_, rfl⟩; simp [execOp, hv, hu, run_eqGuard_agg _ _ _ _ _ _ _ hg, run_neq_struct, hq]; done)
      · exact stepV_ok h (fun x _ => hd x)
end
end SX
end Go.Proofs.Ytegdbpbafdpkfaa
