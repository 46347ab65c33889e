/- The symbolic executor: what an operation hangs on. No condition. -/
import Derived.Test.YtapjehgfekjdaaaDoorSyL
namespace Go.Proofs.YtapjehgfekjdaaaDoor
open Go.RowKit
namespace SY

def opsC : CO → List Opd
  | .mv x => [x]
  | .nilc x => [x]
  | .ext x _ => [x]
  | .fadr x _ => [x]
  | .fld x _ _ _ => [x]
  | .un _ x => [x]
  | .cvt _ x => [x]
  | .i2f x => [x]
  | .f2i _ x => [x]
  | .b2s x => [x]
  | .box _ x => [x]
  | .load _ _ x => [x]
  | .lens _ x => [x]
  | .iadrA x y _ _ => [x, y]
  | .iadrS x y _ => [x, y]
  | .idx x y _ _ _ => [x, y]
  | .sidx x y => [x, y]
  | .bin _ x y => [x, y]
  | .eqb _ x y => [x, y]
  | .eqa _ _ x y => [x, y]
  | .store _ x y => [x, y]
  | .app _ _ x y => [x, y]
  | .mm _ x y => [x, y]
  | .fa _ x y => [x, y]
  | .flc _ x y => [x, y]
  | .bld _ ps => ps.map (·.2.2)
  | .bsl _ _ _ ps => ps.map (·.2.2)
  | .bns _ ps => ps.map (·.2.2)
  | .slc _ _ x lo hi mx => x :: (lo.toList ++ (hi.toList ++ mx.toList))
  | .mkf _ caps => caps
  | .pick c x y => [c, x, y]
  | .call f l => f :: l
  | .callS _ _ f l => f :: l
  | _ => []

/-- The block that an operation looks at or writes. -/
noncomputable def accK (sl : Tr S) (key : Nat) : CO → Option Nat
  | .alloc _ _ => some key
  | .box _ _ => some key
  | .bsl _ _ _ _ => some key
  | .callS _ _ _ _ => some key
  | .load _ _ x => ownK (opv sl x)
  | .store _ x _ => ownK (opv sl x)
  | .slc _ _ _ _ _ (some _) => some key
  | .app _ _ x _ => match opv sl x with
    | .t (.c (.sl _ _ (some (k, _)))) => some k
    | .t (.c (.v _)) => some key
    | _ => none
  | _ => none

section
variable {P : Program} {p : Nat → Nat → Prop} {w0 w : World} {g : G} {n : Nat} {hk : Hooks} {inl : Inl} {sl sl' : Tr S} {bl bl' : Tr (Option Blk)} {key : Nat}

theorem parts_congr {ρ ρ' : Opd → S} : ∀ {ps : List (Nat × Nat × Opd)} (_ : ∀ y ∈ ps.map (·.2.2), ρ' y = ρ y) (l : List SC), parts ρ' ps l = parts ρ ps l
  | [], _, _ => rfl
  | q :: ps, h, l => by
    rw [parts_cons, parts_cons, h _ (by simp)]
    split
    · split
      · split
        · exact parts_congr (fun y hy => h y (by simp at hy ⊢; exact .inr hy)) _
        · rfl
      · rfl
    · rfl
theorem partsI_congr {ρ ρ' : Opd → S} {ks : List CK} : ∀ {ps : List (Nat × Nat × Opd)} (_ : ∀ y ∈ ps.map (·.2.2), ρ' y = ρ y) (l : List Int), partsI ρ' ks ps l = partsI ρ ks ps l
  | [], _, _ => rfl
  | q :: ps, h, l => by
    rw [partsI_cons, partsI_cons, h _ (by simp)]
    split
    · split
      · split
        · exact partsI_congr (fun y hy => h y (by simp at hy ⊢; exact .inr hy)) _
        · rfl
      · rfl
    · rfl
theorem capsO_cons (ρ : Opd → S) (x : Opd) (l : List Opd) : capsO ρ (x :: l) = (match ρ x with
    | .t (.c c) => match capsO ρ l with
      | some r => some (c :: r)
      | none => none
    | _ => none) := rfl
theorem capsO_congr {ρ ρ' : Opd → S} : ∀ {l : List Opd} (_ : ∀ y ∈ l, ρ' y = ρ y), capsO ρ' l = capsO ρ l
  | [], _ => rfl
  | x :: l, h => by rw [capsO_cons, capsO_cons, h x (by simp), capsO_congr fun y hy => h y (by simp [hy])]
theorem optI_congr {ρ ρ' : Opd → S} {o : Option Opd} (h : ∀ y ∈ o.toList, ρ' y = ρ y) : optI ρ' o = optI ρ o := by
  cases o with
  | none => rfl
  | some x => simp only [optI, h x (by simp)]
theorem stepV_local {ρ ρ' : Operand → S} {o : Oper} (h : ∀ x ∈ o.op.operands, ρ' x = ρ x) : stepV P ρ' o = stepV P ρ o := by
  have hall : ∀ {l : List Operand}, (∀ x ∈ l, ρ' x = ρ x) → allV ρ' l = allV ρ l := by
    intro l
    induction l with
    | nil => intro _; rfl
    | cons x l ih => intro h; simp only [allV, h x (by simp)]; rw [ih fun y hy => h y (by simp [hy])]
  unfold stepV
  rw [hall fun x hx => h x (by simpa using hx)]
  cases hs : isSel o.op
  · have : execOp (rv ρ') o = execOp (rv ρ) o := execOp_congr o (fun cs b hop => by rw [hop] at hs; simp [isSel] at hs) fun x hx => by simp only [rv, h x hx]
    rw [this]
  · rfl

theorem effC_local {co : CO} (h : ∀ y ∈ opsC co, opv sl' y = opv sl y) (hg : ∀ o, co = .gen o → ∀ x ∈ o.op.operands, opd sl' x = opd sl x) (hb : ∀ k, accK sl key co = some k → lkB bl' k = lkB bl k) :
    effC P sl' bl' key co = effC P sl bl key co := by
  cases co <;> simp only [opsC, List.mem_cons, List.not_mem_nil, or_false, forall_eq_or_imp, forall_eq] at h <;> (try simp only [accK] at hb)
  case bld z ps => simp only [effC, parts_congr (ρ := opv sl) (ρ' := opv sl') (fun y hy => h y hy)]
  case bns m ps => simp only [effC, parts_congr (ρ := opv sl) (ρ' := opv sl') (fun y hy => h y hy)]
  case bsl ks e zs ps => simp only [effC, partsI_congr (ρ := opv sl) (ρ' := opv sl') (fun y hy => h y hy), hb key rfl]
  case mkf f caps => simp only [effC, capsO_congr (ρ := opv sl) (ρ' := opv sl') (fun y hy => h y hy)]
  case slc ks e x lo hi mx =>
    obtain ⟨hx, h⟩ := h
    simp only [effC, hx, optI_congr (ρ := opv sl) (ρ' := opv sl') (o := lo) (fun y hy => h y (by simp at hy ⊢; simp [hy])), optI_congr (ρ := opv sl) (ρ' := opv sl') (o := hi) (fun y hy => h y (by simp at hy ⊢; simp [hy])), optI_congr (ρ := opv sl) (ρ' := opv sl') (o := mx) (fun y hy => h y (by simp at hy ⊢; simp [hy]))]
    cases mx with
    | none =>
      generalize optI (opv sl) lo = A
      generalize optI (opv sl) hi = B
      cases A <;> cases B <;> rfl
    | some m => simp only [hb key rfl]
  case gen o => simp only [effC, stepV_local (ρ := opd sl) (ρ' := opd sl') (hg o rfl)]
  case alloc z t => simp only [effC, hb key rfl]
  case box t x => simp only [effC, h, hb key rfl]
  case load m ag x =>
    simp only [effC, h]
    split
    · rename_i k off hx; rw [hb k (by rw [hx]; rfl)]
    · rfl
    · rename_i k o j hx; rw [hb k (by rw [hx]; rfl)]
    · rfl
  case store m x y =>
    simp only [effC, h.1, h.2]
    split
    · split
      · split
        · rename_i k off hx; rw [hb k (by rw [hx]; rfl)]
        · rename_i k o j hx; rw [hb k (by rw [hx]; rfl)]
        · rfl
      · rfl
    · rfl
  case app ks e x y =>
    simp only [effC, h.1, h.2]
    split
    · split
      · rename_i ks' xs k i hx; rw [hb k (by rw [hx])]
      · rename_i v hx; rw [hb key (by rw [hx])]
      · rfl
    · rfl
  all_goals first
    | (simp only [effC]; done)
    | (simp only [effC, h]; done)
    | (simp only [effC, h.1, h.2]; done)
    | rfl

theorem cparts_mem {pl : Nat → Option (Nat × Nat)} : ∀ {ps : List (Nat × Operand)} {qs : List (Nat × Nat × Opd)}, cparts n pl ps = some qs → ∀ y ∈ qs.map (·.2.2), ∃ x ∈ ps.map (·.2), cpo n x = some y
  | [], qs, h, y, hy => by simp only [cparts, Option.some.injEq] at h; subst h; simp at hy
  | (i, x) :: ps, qs, h, y, hy => by
    simp only [cparts] at h
    split at h <;> try (cases h; done)
    rename_i o m z hpl hz
    split at h <;> try (cases h; done)
    rename_i q hq
    simp only [Option.some.injEq] at h; subst h
    simp only [List.map_cons, List.mem_cons] at hy
    rcases hy with rfl | hy
    · exact ⟨x, by simp, hz⟩
    · obtain ⟨x', hx', h'⟩ := cparts_mem hq y hy
      exact ⟨x', by simp only [List.map_cons, List.mem_cons]; exact .inr hx', h'⟩
theorem cpl_mem' : ∀ {l : List Operand} {m : List Opd}, cpl n l = some m → ∀ y ∈ m, ∃ x ∈ l, cpo n x = some y
  | [], m, h, y, hy => by simp only [cpl, Option.some.injEq] at h; subst h; cases hy
  | a :: l, m, h, y, hy => by
    simp only [cpl] at h
    split at h <;> try (cases h; done)
    rename_i z hz
    split at h <;> try (cases h; done)
    rename_i r hr
    simp only [Option.some.injEq] at h; subst h
    rcases List.mem_cons.1 hy with rfl | hy
    · exact ⟨a, by simp, hz⟩
    · obtain ⟨x, hx, h'⟩ := cpl_mem' hr y hy
      exact ⟨x, by simp [hx], h'⟩

/-- A compiled operation's operands are the source's. -/
def OpsOK (n : Nat) (o : Oper) (co : CO) : Prop := (∀ y ∈ opsC co, ∃ x ∈ o.op.operands, cpo n x = some y) ∧ ∀ o', co = .gen o' → o' = o
theorem opsOK_bad (o : Oper) : OpsOK n o .bad := ⟨fun y hy => (by cases hy), fun o' h => (by cases h)⟩
theorem opsOK_c1 {o : Oper} {x : Operand} {f : Opd → CO} (hx : x ∈ o.op.operands) (hf : ∀ y, opsC (f y) = [y]) (hn : ∀ y o', f y ≠ .gen o') : OpsOK n o (c1 n x f) := by
  unfold c1
  split
  · rename_i z hz
    exact ⟨fun y hy => by rw [hf] at hy; simp only [List.mem_cons, List.not_mem_nil, or_false] at hy; subst hy; exact ⟨x, hx, hz⟩, fun o' h => absurd h (hn _ o')⟩
  · exact opsOK_bad o
theorem opsOK_c2 {o : Oper} {x y : Operand} {f : Opd → Opd → CO} (hx : x ∈ o.op.operands) (hy : y ∈ o.op.operands) (hf : ∀ a b, opsC (f a b) = [a, b]) (hn : ∀ a b o', f a b ≠ .gen o') : OpsOK n o (c2 n x y f) := by
  unfold c2
  split
  · rename_i a ha
    split
    · rename_i b hb
      refine ⟨fun z hz => ?_, fun o' h => absurd h (hn _ _ o')⟩
      rw [hf] at hz
      simp only [List.mem_cons, List.not_mem_nil, or_false] at hz
      rcases hz with rfl | rfl
      · exact ⟨x, hx, ha⟩
      · exact ⟨y, hy, hb⟩
    · exact opsOK_bad o
  · exact opsOK_bad o
theorem opsOK_gen (o : Oper) : OpsOK n o (cgen n o) := by
  unfold cgen
  split
  · exact ⟨fun y hy => (by cases hy), fun o' h => by cases h; rfl⟩
  · exact opsOK_bad o

theorem opsOK_slc {o : Oper} {x : Operand} {lo hi mx : Option Operand} {ks : List CK} {e : TypeId} (hx : x ∈ o.op.operands) (hl : ∀ y ∈ lo.toList, y ∈ o.op.operands) (hh : ∀ y ∈ hi.toList, y ∈ o.op.operands) (hm : ∀ y ∈ mx.toList, y ∈ o.op.operands) :
    OpsOK n o (c1 n x fun x => cO n lo fun lo => cO n hi fun hi => cO n mx fun mx => .slc ks e x lo hi mx) := by
  have key : ∀ {z : Option Operand} {f : Option Opd → CO}, (∀ y ∈ z.toList, y ∈ o.op.operands) → (∀ y : Option Opd, (∀ q ∈ y.toList, ∃ x ∈ o.op.operands, cpo n x = some q) → OpsOK n o (f y)) → OpsOK n o (cO n z f) := by
    intro z f hz hf
    unfold cO
    split
    · exact hf none (fun q hq => by simp at hq)
    · rename_i u
      split
      · rename_i v hv
        exact hf (some v) fun q hq => by simp at hq; subst hq; exact ⟨u, hz u (by simp), hv⟩
      · exact opsOK_bad o
  unfold c1
  split
  · rename_i z hz
    refine key hl fun lo' h1 => key hh fun hi' h2 => key hm fun mx' h3 => ⟨fun y hy => ?_, fun o' h => by cases h⟩
    simp only [opsC, List.mem_cons, List.mem_append] at hy
    rcases hy with rfl | hy | hy | hy
    · exact ⟨x, hx, hz⟩
    · exact h1 y hy
    · exact h2 y hy
    · exact h3 y hy
  · exact opsOK_bad o

theorem opsOK_cop (o : Oper) : OpsOK n o (cop P n o) := by
  obtain ⟨dst, op, type, pos, after, guard⟩ := o
  cases op <;> simp only [cop] <;> try exact opsOK_bad _
  case move x => exact opsOK_c1 (by simp [Op.operands]) (fun _ => rfl) (fun _ _ h => by cases h)
  case assign x => exact opsOK_c1 (by simp [Op.operands]) (fun _ => rfl) (fun _ _ h => by cases h)
  case nilCheck x => exact opsOK_c1 (by simp [Op.operands]) (fun _ => rfl) (fun _ _ h => by cases h)
  case extract x i => exact opsOK_c1 (by simp [Op.operands]) (fun _ => rfl) (fun _ _ h => by cases h)
  case box t x => exact opsOK_c1 (by simp [Op.operands]) (fun _ => rfl) (fun _ _ h => by cases h)
  case pick c x y =>
    split
    · rename_i c' hc
      unfold c2
      split
      · rename_i a ha
        split
        · rename_i b hb
          refine ⟨fun z hz => ?_, fun o' h => by cases h⟩
          simp only [opsC, List.mem_cons, List.not_mem_nil, or_false] at hz
          rcases hz with rfl | rfl | rfl
          · exact ⟨c, by simp [Op.operands], hc⟩
          · exact ⟨x, by simp [Op.operands], ha⟩
          · exact ⟨y, by simp [Op.operands], hb⟩
        · exact opsOK_bad _
      · exact opsOK_bad _
    · exact opsOK_bad _
  case alloc t =>
    split
    · exact ⟨fun y hy => (by cases hy), fun o' h => (by cases h)⟩
    · exact opsOK_bad _
  case fieldAddr t x f => (repeat' split) <;> first | exact opsOK_bad _ | exact opsOK_c1 (by simp [Op.operands]) (fun _ => rfl) (fun _ _ h => by cases h)
  case field t x f => (repeat' split) <;> first | exact opsOK_bad _ | exact opsOK_c1 (by simp [Op.operands]) (fun _ => rfl) (fun _ _ h => by cases h)
  case load t x => (repeat' split) <;> first | exact opsOK_bad _ | exact opsOK_c1 (by simp [Op.operands]) (fun _ => rfl) (fun _ _ h => by cases h)
  case unOp op t x => (repeat' split) <;> first | exact opsOK_bad _ | exact opsOK_c1 (by simp [Op.operands]) (fun _ => rfl) (fun _ _ h => by cases h) | exact opsOK_gen _
  case convert s d x => (repeat' split) <;> first | exact opsOK_bad _ | exact opsOK_c1 (by simp [Op.operands]) (fun _ => rfl) (fun _ _ h => by cases h) | exact opsOK_gen _
  case indexAddr t x ix => (repeat' split) <;> first | exact opsOK_bad _ | exact opsOK_c2 (by simp [Op.operands]) (by simp [Op.operands]) (fun _ _ => rfl) (fun _ _ _ h => by cases h)
  case index t x ix => (repeat' split) <;> first | exact opsOK_bad _ | exact opsOK_c2 (by simp [Op.operands]) (by simp [Op.operands]) (fun _ _ => rfl) (fun _ _ _ h => by cases h)
  case binOp op t x y yt => (repeat' split) <;> first | exact opsOK_bad _ | exact opsOK_c2 (by simp [Op.operands]) (by simp [Op.operands]) (fun _ _ => rfl) (fun _ _ _ h => by cases h) | exact opsOK_gen _
  case store t x y => (repeat' split) <;> first | exact opsOK_bad _ | exact opsOK_c2 (by simp [Op.operands]) (by simp [Op.operands]) (fun _ _ => rfl) (fun _ _ _ h => by cases h)
  case build t ps =>
    (repeat' split) <;> try exact opsOK_bad _
    all_goals
      rename_i hq
      refine ⟨fun y hy => ?_, fun o' h => (by cases h)⟩
      obtain ⟨x, hx, h'⟩ := cparts_mem hq y hy
      exact ⟨x, by simpa [Op.operands] using hx, h'⟩
  case buildSlice t len ps =>
    (repeat' split) <;> try exact opsOK_bad _
    all_goals
      rename_i hq
      refine ⟨fun y hy => ?_, fun o' h => (by cases h)⟩
      obtain ⟨x, hx, h'⟩ := cparts_mem hq y hy
      exact ⟨x, by simpa [Op.operands] using hx, h'⟩
  case makeFunc fn first caps =>
    cases fn <;> simp only <;> try exact opsOK_bad _
    (repeat' split) <;> try exact opsOK_bad _
    rename_i hl
    refine ⟨fun y hy => ?_, fun o' h => (by cases h)⟩
    obtain ⟨x, hx, h'⟩ := cpl_mem' hl y hy
    exact ⟨x, by simp [Op.operands]; exact .inr (by simpa using hx), h'⟩
  case slice t x lo hi mx =>
    (repeat' split) <;> try exact opsOK_bad _
    exact opsOK_slc (by simp [Op.operands]) (fun y hy => by simp at hy; simp [Op.operands, hy]) (fun y hy => by simp at hy; simp [Op.operands, hy]) (fun y hy => by simp at hy; simp [Op.operands, hy])
  case call c =>
    obtain ⟨callee, args, argTypes⟩ := c
    simp only
    cases callee with
    | invoke r m => exact opsOK_bad _
    | value f =>
      simp only
      split <;> try exact opsOK_bad _
      rename_i hf
      split <;> try exact opsOK_bad _
      rename_i hl
      split
      all_goals
      refine ⟨fun y hy => ?_, fun o' h => (by cases h)⟩
      simp only [opsC, List.mem_cons] at hy
      rcases hy with rfl | hy
      · exact ⟨f, by simp [Op.operands, Call.operands], hf⟩
      · obtain ⟨x, hx, h'⟩ := cpl_mem' hl y hy
        exact ⟨x, by simp [Op.operands, Call.operands]; exact .inr (by simpa using hx), h'⟩
    | builtin b =>
      cases b <;> simp only <;> try exact opsOK_bad _
      all_goals
        (repeat' split) <;> try exact opsOK_bad _
        all_goals first
          | exact opsOK_c1 (by simp [Op.operands, Call.operands, ← Array.mem_toList_iff, *]) (fun _ => rfl) (fun _ _ h => by cases h)
          | exact opsOK_c2 (by simp [Op.operands, Call.operands, ← Array.mem_toList_iff, *]) (by simp [Op.operands, Call.operands, ← Array.mem_toList_iff, *]) (fun _ _ => rfl) (fun _ _ _ h => by cases h)
end
end SY
end Go.Proofs.YtapjehgfekjdaaaDoor
