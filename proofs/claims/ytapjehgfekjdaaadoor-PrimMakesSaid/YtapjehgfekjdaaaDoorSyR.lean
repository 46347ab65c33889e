/- The symbolic executor: code, loops with hints, calls: its word. No condition. -/
import Derived.Test.YtapjehgfekjdaaaDoorSyQ
import Derived.LoopN
namespace Go.Proofs.YtapjehgfekjdaaaDoor
open Go.RowKit
namespace SY

/-- Plain values stay. -/
def PExt (g : G) (w : World) (g' : G) (w' : World) : Prop := ∀ s r v, pureS s = some r → DS g w s v → DS g' w' r v

section
variable {P : Program} {p : Nat → Nat → Prop} {w0 w : World} {g : G} {n : Nat} {hk : Hooks} {inl : Inl}

theorem pureC_idem {c d : SC} (h : pureC c = some d) : pureC d = some d := by
  cases c <;> simp only [pureC, Option.some.injEq] at h <;> first | (cases h; done) | (subst h; rfl)
theorem pureCs_idem : ∀ {l m : List SC}, pureCs l = some m → pureCs m = some m
  | [], m, h => by simp only [pureCs, Option.some.injEq] at h; subst h; rfl
  | c :: l, m, h => by
    rw [pureCs_cons] at h
    split at h <;> try (cases h; done)
    rename_i x hx
    split at h <;> try (cases h; done)
    rename_i xs hxs
    simp only [Option.some.injEq] at h; subst h
    rw [pureCs_cons, pureC_idem hx, pureCs_idem hxs]
theorem pureT_idem {c d : T} (h : pureT c = some d) : pureT d = some d := by
  cases c <;> simp only [pureT] at h <;> split at h <;> try (cases h; done)
  · rename_i y hy
    simp only [Option.some.injEq] at h; subst h
    simp only [pureT, pureC_idem hy]
  · rename_i y hy
    simp only [Option.some.injEq] at h; subst h
    simp only [pureT, pureCs_idem hy]
theorem pureTs_idem : ∀ {l m : List T}, pureTs l = some m → pureTs m = some m
  | [], m, h => by simp only [pureTs, Option.some.injEq] at h; subst h; rfl
  | c :: l, m, h => by
    rw [pureTs_cons] at h
    split at h <;> try (cases h; done)
    rename_i x hx
    split at h <;> try (cases h; done)
    rename_i xs hxs
    simp only [Option.some.injEq] at h; subst h
    rw [pureTs_cons, pureT_idem hx, pureTs_idem hxs]
theorem pureS_idem {c d : S} (h : pureS c = some d) : pureS d = some d := by
  cases c <;> simp only [pureS] at h <;> try (cases h; done)
  all_goals
    split at h <;> try (cases h; done)
    rename_i y hy
    simp only [Option.some.injEq] at h; subst h
  · simp only [pureS, pureT_idem hy]
  · simp only [pureS, pureTs_idem hy]
  · simp only [pureS, pureCs_idem hy]

theorem PExt.of_ext {g' : G} {w' : World} (h : Ext g w g' w') : PExt g w g' w' := fun s _ v hp hd => pureS_ok (fun _ _ _ h => h) hp (h.s s v hd)
theorem PExt.trans {g' g'' : G} {w' w'' : World} (h : PExt g w g' w') (h' : PExt g' w' g'' w'') : PExt g w g'' w'' := fun s _ v hp hd => h' _ _ v (pureS_idem hp) (h s _ v hp hd)
theorem PExt.down {g2 : G} (hl : ∀ b f, b < w.heap.size → Lim g2 b f → Lim g b f) : PExt g w g2 w := fun _ _ _ hp hd => pureS_ok hl hp hd

/-! ### The memory that a hint tells -/

theorem lkp_cons (x : Nat × Blk) (l : List (Nat × Blk)) (i : Nat) : lkp (x :: l) i = (match Nat.beq i x.1 with
    | true => some x.2
    | false => lkp l i) := rfl
theorem lkB_trB : ∀ (l : List (Nat × Blk)) (i : Nat), lkB (trB l) i = lkp l i
  | [], _ => rfl
  | x :: l, i => by
    show lkB ((trB l).set none (some x.2) (pth x.1)) i = _
    rw [lkB_set, lkp_cons, lkB_trB l i]
    by_cases h : i = x.1
    · rw [if_pos h, h, Nat.beq_refl]
    · rw [if_neg h]
      have : Nat.beq i x.1 = false := by
        cases hb : Nat.beq i x.1
        · rfl
        · exact absurd (Nat.eq_of_beq_eq_true hb) h
      rw [this]

theorem lks_cons (x : Nat × Option Nat) (l : List (Nat × Option Nat)) (i : Nat) : lks (x :: l) i = (match Nat.beq i x.1 with
    | true => some x.2
    | false => lks l i) := rfl
theorem lks_mem : ∀ {l : List (Nat × Option Nat)} {i : Nat} {s : Option Nat}, lks l i = some s → (i, s) ∈ l
  | [], _, _, h => by cases h
  | x :: l, i, s, h => by
    rw [lks_cons] at h
    split at h
    · rename_i hb
      have := Nat.eq_of_beq_eq_true hb
      simp only [Option.some.injEq] at h
      subst this; subst h
      exact List.mem_cons_self
    · exact List.mem_cons_of_mem _ (lks_mem h)
theorem notIn_spec {k : Nat} : ∀ {l : List (Nat × Option Nat)}, notIn k l = true → ∀ i, (i, some k) ∉ l
  | [], _, _, h => by cases h
  | x :: l, h, i, hm => by
    have h : ((match x.2 with
      | some k' => !(Nat.beq k k')
      | none => true) && notIn k l) = true := h
    rw [Bool.and_eq_true] at h
    rcases List.mem_cons.1 hm with e | hm
    · rw [← e] at h
      simp at h
    · exact notIn_spec h.2 i hm
theorem srcsOk_inj : ∀ {l : List (Nat × Option Nat)}, srcsOk l = true → ∀ {i j k : Nat}, lks l i = some (some k) → lks l j = some (some k) → i = j
  | [], _, i, j, k, h, _ => by cases h
  | x :: l, h, i, j, k, hi, hj => by
    have h : ((match x.2 with
      | some k => notIn k l
      | none => true) && srcsOk l) = true := h
    rw [Bool.and_eq_true] at h
    rw [lks_cons] at hi hj
    cases h1 : Nat.beq i x.1 <;> cases h2 : Nat.beq j x.1 <;> simp only [h1, h2] at hi hj
    · exact srcsOk_inj h.2 hi hj
    · simp only [Option.some.injEq] at hj
      rw [hj] at h
      exact absurd (lks_mem hi) (notIn_spec h.1 i)
    · simp only [Option.some.injEq] at hi
      rw [hi] at h
      exact absurd (lks_mem hj) (notIn_spec h.1 j)
    · rw [Nat.eq_of_beq_eq_true h1, Nat.eq_of_beq_eq_true h2]

/-- The ghost of the state at a loop's head. -/
noncomputable def headG (g : G) (bl : List (Nat × Blk)) (so : List (Nat × Option Nat)) : G where
  ad k := match hasB bl k with
    | true => g.ad k
    | false => none
  tk k := match lkp bl k with
    | some (.tok _ _) => match lks so k with
      | some (some k1) => g.tk k1
      | _ => none
    | _ => none
  tb k := match lkp bl k with
    | some (.tok e i) => some (e, i)
    | _ => none
  pl := g.pl

theorem headG_lim {bl : List (Nat × Blk)} {so : List (Nat × Option Nat)} (b f : Nat) (h : Lim (headG g bl so) b f) : Lim g b f := by
  rcases h with ⟨rfl, k, hk⟩ | ⟨k, hk⟩ | hp
  · simp only [headG] at hk
    split at hk
    · exact .inl ⟨rfl, k, hk⟩
    · cases hk
  · simp only [headG] at hk
    split at hk
    · split at hk
      · exact .inr (.inl ⟨_, hk⟩)
      · cases hk
    · cases hk
  · exact .inr (.inr hp)

section head
variable {st : St} {a : Act} {bl : List (Nat × Blk)} {so : List (Nat × Option Nat)}

theorem SlI.head {ks : List CK} {xs : List Int} {tok} {a : Option Addr} {m c : Nat} (h : SlI g w ks xs tok a m c) : SlI (headG g bl so) w ks xs none a m c :=
  ⟨h.cap, h.most, h.pos, h.len, h.nil, fun A hA => ⟨fun h0 => ((h.at_ A hA).1 h0).down fun b f _ => headG_lim b f, (h.at_ A hA).2⟩, trivial⟩

theorem weakC_ok (hm : Mem p w0 g st.bl w) (hb : ∀ k e i, lkp bl k = some (.tok e i) → tokAs st e k so = true) {c d : SC} {v : Value} (h : weakC st so c d) (hr : refC bl c = true) (hd : DC g w d v) : DC (headG g bl so) w c v := by
  cases c with
  | any => trivial
  | own k o =>
    simp only [weakC] at h
    split at h <;> try (exact h.elim)
    split at h <;> try (exact h.elim)
    rename_i hk
    rw [Bool.and_eq_true] at hk
    have h1 := Nat.eq_of_beq_eq_true hk.1
    have h2 := Nat.eq_of_beq_eq_true hk.2
    subst h1; subst h2
    obtain ⟨b, hb, e⟩ := hd
    refine ⟨b, ?_, e⟩
    simp only [refC] at hr
    simp only [headG, hr]
    exact hb
  | st xs =>
    simp only [weakC] at h
    split at h <;> try (exact h.elim)
    subst h; exact hd
  | v x =>
    have key : d = .v x → DC (headG g bl so) w (.v x) v := fun e => by subst e; exact hd
    cases x <;> simp only [weakC] at h
    case int k q =>
      split at h <;> try (exact h.elim)
      split at h <;> try (exact h.elim)
      rename_i hk
      have hk : k = _ := of_decide_eq_true hk
      subst hk; subst h
      exact key rfl
    case bool q =>
      split at h <;> try (exact h.elim)
      subst h
      exact key rfl
    all_goals
      split at h <;> try (exact h.elim)
      subst h
      exact key rfl
  | sl ks xs tok =>
    cases tok with
    | none =>
      simp only [weakC] at h
      split at h <;> try (exact h.elim)
      · split at h <;> try (exact h.elim)
        rename_i hks
        have hks := ksEq_eq hks
        subst hks; subst h
        obtain ⟨a, m, c, hv, hI⟩ := hd
        exact ⟨a, m, c, hv, hI.head⟩
      · split at h <;> try (exact h.elim)
        rename_i hnil
        split at h <;> try (exact h.elim)
        rename_i hpos
        subst h
        have hd : v = _ := hd
        exact ⟨none, 0, 0, by rw [hd]; exact isNil_eq hnil, nil_sl (Nat.le_of_ble_eq_true hpos)⟩
    | some q =>
      obtain ⟨k, i⟩ := q
      simp only [refC] at hr
      split at hr <;> try (cases hr; done)
      rename_i e0 i0 hlk
      have hi := Nat.eq_of_beq_eq_true hr
      subst hi
      have hta := hb k e0 i hlk
      simp only [weakC] at h
      split at h <;> try (exact h.elim)
      · rename_i ks' ys k' g'
        split at h <;> try (exact h.elim)
        rename_i k1 e1 i1 hks hso hB
        split at h <;> try (exact h.elim)
        rename_i hcond
        rw [Bool.and_eq_true] at hcond
        have h1 := Nat.eq_of_beq_eq_true hcond.1
        have h2 := Nat.eq_of_beq_eq_true hcond.2
        subst h1; subst h2
        have hks := ksEq_eq hks
        subst hks; subst h
        obtain ⟨a, m, c, hv, hI⟩ := hd
        obtain ⟨e2, i2, t1, t2, t3⟩ := hI.tok
        have t4 := hm.tdom _ _ _ t1
        rw [hB] at t4
        cases t4
        simp only [tokAs, hso, hB] at hta
        have he := Nat.eq_of_beq_eq_true hta
        subst he
        have hH := hI.head (bl := bl) (so := so)
        refine ⟨a, m, c, hv, hH.cap, hH.most, hH.pos, hH.len, hH.nil, hH.at_, e0, i, by simp [headG, hlk], Nat.le_refl _, fun _ => ?_⟩
        rcases t3 rfl with ⟨q1, q2⟩ | ⟨A, cur, q1, q2, q3, q4, q5⟩
        · exact .inl ⟨by simp [headG, hlk, hso, q1], q2⟩
        · exact .inr ⟨A, cur, q1, q2, by simp [headG, hlk, hso, q3], q4, q5⟩
      · split at h <;> try (exact h.elim)
        rename_i hcond hso
        rw [Bool.and_eq_true] at hcond
        subst h
        have hd : v = _ := hd
        refine ⟨none, 0, 0, by rw [hd]; exact isNil_eq hcond.1, Nat.le_refl _, Nat.zero_le _, Nat.le_of_ble_eq_true hcond.2, by simp, fun _ => ⟨rfl, rfl⟩, fun A h => (by cases h), e0, i, by simp [headG, hlk], Nat.le_refl _, fun _ => .inl ⟨by simp [headG, hlk, hso], rfl⟩⟩

theorem weakCs_ok (hm : Mem p w0 g st.bl w) (hb : ∀ k e i, lkp bl k = some (.tok e i) → tokAs st e k so = true) : ∀ {l m : List SC} {vs : List Value}, weakCs st so l m → refCs bl l = true → All2 (DC g w) m vs → All2 (DC (headG g bl so) w) l vs
  | [], m, vs, h, _, hd => by
    cases m with
    | nil => rw [hd.nil_left]; trivial
    | cons _ _ => exact h.elim
  | c :: l, m, vs, h, hr, hd => by
    cases m with
    | nil => exact h.elim
    | cons d m =>
      have h : weakC st so c d ∧ weakCs st so l m := h
      have hr : (refC bl c && refCs bl l) = true := hr
      rw [Bool.and_eq_true] at hr
      obtain ⟨v, vs, rfl, h1, h2⟩ := hd.cons_left
      exact ⟨weakC_ok hm hb h.1 hr.1 h1, weakCs_ok hm hb h.2 hr.2 h2⟩
theorem weakT_ok (hm : Mem p w0 g st.bl w) (hb : ∀ k e i, lkp bl k = some (.tok e i) → tokAs st e k so = true) {c d : T} {v : Value} (h : weakT st so c d) (hr : refT bl c = true) (hd : DT g w d v) : DT (headG g bl so) w c v := by
  cases c <;> cases d <;> simp only [weakT] at h <;> try (exact h.elim)
  · exact weakC_ok hm hb h hr hd
  · obtain ⟨vs, e, hl⟩ := hd
    exact ⟨vs, e, weakCs_ok hm hb h hr hl⟩
theorem weakTs_ok (hm : Mem p w0 g st.bl w) (hb : ∀ k e i, lkp bl k = some (.tok e i) → tokAs st e k so = true) : ∀ {l m : List T} {vs : List Value}, weakTs st so l m → refTs bl l = true → All2 (DT g w) m vs → All2 (DT (headG g bl so) w) l vs
  | [], m, vs, h, _, hd => by
    cases m with
    | nil => rw [hd.nil_left]; trivial
    | cons _ _ => exact h.elim
  | c :: l, m, vs, h, hr, hd => by
    cases m with
    | nil => exact h.elim
    | cons d m =>
      have h : weakT st so c d ∧ weakTs st so l m := h
      have hr : (refT bl c && refTs bl l) = true := hr
      rw [Bool.and_eq_true] at hr
      obtain ⟨v, vs, rfl, h1, h2⟩ := hd.cons_left
      exact ⟨weakT_ok hm hb h.1 hr.1 h1, weakTs_ok hm hb h.2 hr.2 h2⟩
theorem weakS_ok (hm : Mem p w0 g st.bl w) (hb : ∀ k e i, lkp bl k = some (.tok e i) → tokAs st e k so = true) {c d : S} {v : Value} (h : weakS st so c d) (hr : refS bl c = true) (hd : DS g w d v) : DS (headG g bl so) w c v := by
  cases c with
  | any => trivial
  | t c =>
    simp only [weakS] at h
    split at h <;> try (exact h.elim)
    exact weakT_ok hm hb h hr hd
  | tup l =>
    simp only [weakS] at h
    split at h <;> try (exact h.elim)
    obtain ⟨vs, e, hl⟩ := hd
    exact ⟨vs, e, weakTs_ok hm hb h hr hl⟩
  | fp k o j =>
    cases o with
    | some q => exact h.elim
    | none =>
      simp only [weakS] at h
      simp only [refS] at hr
      split at h <;> try (exact h.elim)
      all_goals
        split at h <;> try (exact h.elim)
        rename_i hk
        rw [Bool.and_eq_true] at hk
        have h1 := Nat.eq_of_beq_eq_true hk.1
        have h2 := Nat.eq_of_beq_eq_true hk.2
        subst h1; subst h2
        obtain ⟨b, hb, e⟩ := hd
        exact ⟨b, by simp only [headG, hr]; exact hb, e⟩
  | clo f l => exact h.elim
  | ea l => exact h.elim
  | nest l => exact h.elim

theorem weakB_cons (q : Nat) (C : Blk) (r : List (Nat × Blk)) : weakB st so ((q, C) :: r) = ((match C with
    | .cells c t => match lkB st.bl q with
      | some (.cells d t') => match Nat.beq t t' with
        | true => weakCs st so c d
        | false => False
      | _ => False
    | .flat ks xs t => match lkB st.bl q with
      | some (.flat ks' ys t') => match ksEq ks ks' && Nat.beq t t' with
        | true => xs = ys
        | false => False
      | some (.cells d t') => match Nat.beq t t' && (Nat.blt 0 ks.length && Nat.beq (d.length % ks.length) 0) with
        | true => flatC ks xs d
        | false => False
      | _ => False
    | .tok e _ => match tokAs st e q so with
      | true => True
      | false => False) ∧ weakB st so r) := rfl
theorem weakB_at : ∀ {r : List (Nat × Blk)}, weakB st so r → ∀ {k : Nat} {B : Blk}, lkp r k = some B → (match B with
    | .cells c t => ∃ d, lkB st.bl k = some (.cells d t) ∧ weakCs st so c d
    | .flat ks xs t => lkB st.bl k = some (.flat ks xs t) ∨ ∃ d, lkB st.bl k = some (.cells d t) ∧ 0 < ks.length ∧ d.length % ks.length = 0 ∧ flatC ks xs d
    | .tok e _ => tokAs st e k so = true)
  | [], _, k, B, h => by cases h
  | x :: r, hw, k, B, h => by
    obtain ⟨q, C⟩ := x
    rw [weakB_cons] at hw
    rw [lkp_cons] at h
    split at h
    · rename_i hq
      have hq := Nat.eq_of_beq_eq_true hq
      simp only at hq
      subst hq
      simp only [Option.some.injEq] at h
      subst h
      have hw := hw.1
      cases C with
      | cells c t =>
        simp only at hw ⊢
        split at hw <;> try (exact hw.elim)
        rename_i d t' hB
        split at hw <;> try (exact hw.elim)
        rename_i ht
        have ht := Nat.eq_of_beq_eq_true ht
        subst ht
        exact ⟨d, hB, hw⟩
      | flat ks xs t =>
        simp only at hw ⊢
        split at hw <;> try (exact hw.elim)
        · rename_i ks' ys t' hB
          split at hw <;> try (exact hw.elim)
          rename_i hc
          rw [Bool.and_eq_true] at hc
          have h1 := ksEq_eq hc.1
          have h2 := Nat.eq_of_beq_eq_true hc.2
          subst h1; subst h2; subst hw
          exact .inl hB
        · rename_i d t' hB
          split at hw <;> try (exact hw.elim)
          rename_i hc
          simp only [Bool.and_eq_true] at hc
          have h1 := Nat.eq_of_beq_eq_true hc.1
          subst h1
          exact .inr ⟨d, hB, Nat.le_of_ble_eq_true hc.2.1, Nat.eq_of_beq_eq_true hc.2.2, hw⟩
      | tok e i =>
        simp only at hw ⊢
        split at hw
        · rename_i ht; exact ht
        · exact hw.elim
    · exact weakB_at hw.2 h
theorem refB_at : ∀ {r : List (Nat × Blk)}, refB bl r = true → ∀ {k : Nat} {B : Blk}, lkp r k = some B → (match B with
    | .cells c _ => refCs bl c = true
    | .flat ks _ _ => 0 < ks.length
    | .tok _ _ => True)
  | [], _, k, B, h => by cases h
  | x :: r, hr, k, B, h => by
    have hr : ((match x.2 with
      | .cells c _ => refCs bl c
      | .flat ks _ _ => Nat.blt 0 ks.length
      | .tok _ _ => true) && refB bl r) = true := hr
    rw [Bool.and_eq_true] at hr
    rw [lkp_cons] at h
    split at h
    · simp only [Option.some.injEq] at h
      subst h
      have hr := hr.1
      split
      · rename_i hx; rw [hx] at hr; exact hr
      · rename_i hx; rw [hx] at hr; exact Nat.le_of_ble_eq_true hr
      · trivial
    · exact refB_at hr.2 h

theorem reps_get (ks : List CK) : ∀ (m i : Nat) (k : CK), (reps ks m)[i]? = some k → kAt ks i = k
  | 0, i, k, h => by simp [reps] at h
  | m + 1, i, k, h => by
    simp only [reps, List.getElem?_append] at h
    split at h
    · exact kAt_lt h
    · rename_i hi
      have := reps_get ks m _ k h
      have e := kAt_add (ks := ks) (d := ks.length) (i := i - ks.length) (by simp)
      rw [show ks.length + (i - ks.length) = i from by omega] at e
      rw [e]; exact this
theorem reps_len (ks : List CK) : ∀ (m : Nat), (reps ks m).length = m * ks.length
  | 0 => by simp [reps]
  | m + 1 => by simp [reps, reps_len ks m, Nat.succ_mul]; omega

theorem flatC_ok {ks : List CK} {xs : List Int} {d : List SC} {cs : List Value} (h : flatC ks xs d) (hm : d.length % ks.length = 0) (hd : All2 (DC g w) d cs) : cs = encV ks xs ∧ xs.length = d.length := by
  unfold flatC at h
  split at h <;> try (exact h.elim)
  rename_i ys hys
  subst h
  obtain ⟨t1, t2, t3⟩ := toIs_ok hys hd
  rw [reps_len, Nat.div_mul_cancel (Nat.dvd_of_mod_eq_zero hm)] at t1 t2
  refine ⟨?_, t1⟩
  apply List.ext_getElem?
  intro i
  rw [encV_get]
  by_cases hi : i < xs.length
  · have e1 : xs[i]? = some xs[i] := List.getElem?_eq_getElem hi
    have hl : i < (reps ks (d.length / ks.length)).length := by rw [reps_len, Nat.div_mul_cancel (Nat.dvd_of_mod_eq_zero hm)]; omega
    have e2 : (reps ks (d.length / ks.length))[i]? = some ((reps ks (d.length / ks.length))[i]) := List.getElem?_eq_getElem hl
    rw [t3 i _ _ e2 e1, e1, Option.map_some, reps_get ks _ _ _ e2]
  · rw [List.getElem?_eq_none (by omega), List.getElem?_eq_none (by omega)]; rfl

theorem hasB_lkp {k : Nat} (h : hasB bl k = true) : ∃ B, lkp bl k = some B ∧ ∀ e i, B ≠ .tok e i := by
  unfold hasB at h
  split at h <;> try (cases h; done)
  · rename_i h'; exact ⟨_, h', fun e i h => by cases h⟩
  · rename_i h'; exact ⟨_, h', fun e i h => by cases h⟩

/-- The memory at a loop's head. -/
theorem head_mem (hm : Mem p w0 g st.bl w) (hs : srcsOk so = true) (hr : refB bl bl = true) (hw : weakB st so bl) : Mem p w0 (headG g bl so) (trB bl) w := by
  have hb : ∀ k e i, lkp bl k = some (.tok e i) → tokAs st e k so = true := fun k e i h => weakB_at hw h
  have had : ∀ k b, (headG g bl so).ad k = some b → hasB bl k = true ∧ g.ad k = some b := by
    intro k b h
    simp only [headG] at h
    split at h
    · rename_i hh; exact ⟨hh, h⟩
    · cases h
  have htk : ∀ k q, (headG g bl so).tk k = some q → (∃ e i, lkp bl k = some (.tok e i)) ∧ ∃ k1, lks so k = some (some k1) ∧ g.tk k1 = some q := by
    intro k q h
    simp only [headG] at h
    split at h <;> try (cases h; done)
    rename_i e i hlk
    split at h <;> try (cases h; done)
    rename_i k1 hk1
    exact ⟨⟨e, i, hlk⟩, k1, hk1, h⟩
  refine ⟨hm.base, hm.pl, hm.plo, ?_, ?_, ?_, ?_, ?_, ?_, ?_, ?_⟩
  · intro k B hB
    rw [lkB_trB] at hB
    have h1 := weakB_at hw hB
    have h2 := refB_at hr hB
    cases B with
    | cells c t =>
      obtain ⟨d, hd, hwc⟩ := h1
      obtain ⟨b, cs, q1, q2, q3, q4⟩ := hm.blk k _ hd
      exact ⟨b, cs, by simp only [headG, hasB, hB]; exact q1, q2, q3, weakCs_ok hm hb hwc h2 q4⟩
    | flat ks xs t =>
      rcases h1 with hd | ⟨d, hd, h3, h4, h5⟩
      · obtain ⟨b, q1, q2, q3, q4⟩ := hm.blk k _ hd
        exact ⟨b, by simp only [headG, hasB, hB]; exact q1, q2, q3, q4⟩
      · obtain ⟨b, cs, q1, q2, q3, q4⟩ := hm.blk k _ hd
        obtain ⟨rfl, e2⟩ := flatC_ok h5 h4 q4
        exact ⟨b, by simp only [headG, hasB, hB]; exact q1, q2, q3, h3, by rw [e2]; exact h4⟩
    | tok e i => simp [BlkOK, headG, hB]
  · intro k b h
    obtain ⟨h1, _⟩ := had k b h
    rw [lkB_trB]
    exact hasB_lkp h1
  · intro k e i h
    rw [lkB_trB]
    simp only [headG] at h
    split at h <;> try (cases h; done)
    rename_i e' i' hlk
    cases h; exact hlk
  · intro k q h
    rw [lkB_trB]
    exact (htk k q h).1
  · intro k k' b h h'
    exact hm.inj k k' b (had k b h).2 (had k' b h').2
  · intro k k' b f f' h h'
    obtain ⟨_, k1, q1, q2⟩ := htk _ _ h
    obtain ⟨_, k2, q3, q4⟩ := htk _ _ h'
    have := hm.tinj _ _ _ _ _ q2 q4
    subst this
    exact srcsOk_inj hs q1 q3
  · intro k k' b f h h'
    obtain ⟨_, k1, _, q2⟩ := htk _ _ h'
    exact hm.sep _ _ _ _ (had k b h).2 q2
  · intro k b f h
    obtain ⟨_, k1, _, q2⟩ := htk _ _ h
    exact hm.told _ _ _ q2
end head

/-! ### Slots at a loop's head -/

theorem kills_cons (q : Pa) (wr : List Pa) (sl : Tr S) : kills (q :: wr) sl = (kills wr sl).set undefS .any q := rfl
theorem kills_get (sl : Tr S) (q : Pa) : ∀ (wr : List Pa), ((kills wr sl).get undefS q = .any) ∨ ((∀ x ∈ wr, x ≠ q) ∧ (kills wr sl).get undefS q = sl.get undefS q)
  | [] => .inr ⟨fun _ h => (by cases h), rfl⟩
  | x :: wr => by
    rw [kills_cons]
    by_cases h : x = q
    · subst h; exact .inl (get_set_same _ _ _ _)
    · rw [get_set_ne _ _ _ _ _ h]
      rcases kills_get sl q wr with h1 | ⟨h1, h2⟩
      · exact .inl h1
      · exact .inr ⟨fun y hy => by rcases List.mem_cons.1 hy with rfl | hy; exact h; exact h1 y hy, h2⟩
theorem overs_cons (x : Pa × S) (l : List (Pa × S)) (sl : Tr S) : overs (x :: l) sl = (overs l sl).set undefS x.2 x.1 := rfl
theorem overs_get (sl : Tr S) (q : Pa) : ∀ (l : List (Pa × S)), (∃ x ∈ l, x.1 = q ∧ (overs l sl).get undefS q = x.2) ∨ (overs l sl).get undefS q = sl.get undefS q
  | [] => .inr rfl
  | x :: l => by
    rw [overs_cons]
    by_cases h : x.1 = q
    · subst h; exact .inl ⟨x, by simp, rfl, get_set_same _ _ _ _⟩
    · rw [get_set_ne _ _ _ _ _ h]
      rcases overs_get sl q l with ⟨y, h1, h2, h3⟩ | h1
      · exact .inl ⟨y, by simp [h1], h2, h3⟩
      · exact .inr h1
theorem weakO_mem {st : St} {so : List (Nat × Option Nat)} : ∀ {l : List (Pa × S)}, weakO st so l → ∀ x ∈ l, weakS st so x.2 (st.sl.get undefS x.1)
  | [], _, x, hx => by cases hx
  | y :: l, h, x, hx => by
    have h : weakS st so y.2 (st.sl.get undefS y.1) ∧ weakO st so l := h
    rcases List.mem_cons.1 hx with rfl | hx
    · exact h.1
    · exact weakO_mem h.2 x hx
theorem refO_mem {bl : List (Nat × Blk)} : ∀ {l : List (Pa × S)}, refO bl l = true → ∀ x ∈ l, refS bl x.2 = true
  | [], _, x, hx => by cases hx
  | y :: l, h, x, hx => by
    have h : (refS bl y.2 && refO bl l) = true := h
    rw [Bool.and_eq_true] at h
    rcases List.mem_cons.1 hx with rfl | hx
    · exact h.1
    · exact refO_mem h.2 x hx
theorem dedup_mem : ∀ {l : List Nat} {t : Nat}, t ∈ l → t ∈ dedup l
  | [], _, h => by cases h
  | a :: l, t, h => by
    simp only [dedup]
    rcases List.mem_cons.1 h with rfl | h
    · split
      · rename_i hx
        simp only [List.any_eq_true] at hx
        obtain ⟨y, hy, he⟩ := hx
        rw [Nat.eq_of_beq_eq_true he]; exact hy
      · simp
    · have := dedup_mem h
      split
      · exact this
      · simp [this]

/-- The state at a loop's head is one that the hint tells. -/
theorem weakP_ok {h : Hint} {x : h.X} {L : List Nat} {st0 s1 : St} {a0 a : Act} {g0 : G} {w1 : World} (hw : weakP h x s1) (hr0 : Rep p w0 n g0 st0 a0 w1) (hr : Rep p w0 n g s1 a w) (hs : Same L a0 a) (hx : PExt g0 w1 g w) :
    ∃ g', Rep p w0 n g' (h.st ((dedup L).map pth) st0 x) a w ∧ PExt g w g' w := by
  unfold weakP at hw
  split at hw <;> try (exact hw.elim)
  rename_i so hso
  split at hw <;> try (exact hw.elim)
  rename_i hc
  simp only [Bool.and_eq_true] at hc
  obtain ⟨c1, c2, c3, c4, c5⟩ := hc
  have hb : ∀ k e i, lkp (h.bl x) k = some (.tok e i) → tokAs s1 e k so = true := fun k e i h => weakB_at hw.2 h
  have hdown : PExt g w (headG g (h.bl x) so) w := PExt.down fun b f _ => headG_lim b f
  refine ⟨headG g (h.bl x) so, ⟨fun t ht => ?_, hr.sz, hr.df, head_mem hr.mem c1 c4 hw.2⟩, hdown⟩
  simp only [Hint.st]
  rcases overs_get (kills ((dedup L).map pth) (st0.sl.map saneS)) (pth t) (h.sl x) with ⟨y, h1, h2, h3⟩ | h1
  · rw [h3]
    have := weakO_mem hw.1 y h1
    rw [h2] at this
    exact weakS_ok hr.mem hb this (refO_mem c3 y h1) (hr.sl t ht)
  · rw [h1]
    rcases kills_get (st0.sl.map saneS) (pth t) ((dedup L).map pth) with h2 | ⟨h2, h3⟩
    · rw [h2]; trivial
    · rw [h3, get_map undefS saneS rfl]
      have hnot : t ∉ L := fun hm => h2 (pth t) (List.mem_map.2 ⟨t, dedup_mem hm, rfl⟩) rfl
      rw [hs t hnot]
      unfold saneS
      split
      · rename_i r hr'
        exact (hx.trans hdown) _ _ _ hr' (hr0.sl t ht)
      · trivial

/-! ### Code -/

/-- What the state before says of the state behind. -/
def Rel (full : Bool) (g : G) (w : World) (g' : G) (w' : World) : Prop := PExt g w g' w' ∧ (full = true → Ext g w g' w')
theorem Rel.of_ext {full : Bool} {g' : G} {w' : World} (h : Ext g w g' w') : Rel full g w g' w' := ⟨PExt.of_ext h, fun _ => h⟩
theorem Rel.refl (full : Bool) (g : G) (w : World) : Rel full g w g w := Rel.of_ext (Ext.refl _ _)
theorem Rel.trans {full : Bool} {g' g'' : G} {w' w'' : World} (h : Rel full g w g' w') (h' : Rel full g' w' g'' w'') : Rel full g w g'' w'' := ⟨h.1.trans h'.1, fun hf => (h.2 hf).trans (h'.2 hf)⟩

def ExOK (P : Program) (full : Bool) (ex : CC → St → (Exit → St → Prop) → Prop) (c : Code) : Prop :=
  ∀ pid n p w0 g st a w k Q, ex (cc P n pid c) st k → Rep p w0 n g st a w →
    (∀ e g' st' a' w', k e st' → Rep p w0 n g' st' a' w' → Same (wrC c) a a' → Rel full g w g' w' → Q e a' w') → c.wp P Q a w

theorem Rep.bump {st : St} {a : Act} (h : Rep p w0 n g st a w) (m : Nat) : Rep p w0 n g ⟨st.sl, st.bl, m⟩ a w := ⟨h.sl, h.sz, h.df, h.mem⟩
theorem Rep.litO {st : St} {a : Act} (h : Rep p w0 n g st a w) {c : Operand} {y : Opd} (hy : cpo n c = some y) {b : Bool} (hb : boolS (opv st.sl y) = some b) : Rep p w0 n g (litO st y b) a w := by
  cases c with
  | tmp t =>
    simp only [cpo] at hy
    split at hy <;> try (cases hy; done)
    rename_i hlt
    have hlt := Nat.le_of_ble_eq_true hlt
    simp only [Option.some.injEq] at hy; subst hy
    have hv := boolS_ok hb (h.sl t hlt)
    exact h.lit hlt (by rw [hv]; rfl)
  | const v => simp only [cpo, Option.some.injEq] at hy; subst hy; exact h
  | global i => simp only [cpo, Option.some.injEq] at hy; subst hy; exact h
  | func f => simp only [cpo, Option.some.injEq] at hy; subst hy; exact h

theorem rounds_ok {full : Bool} {ihb : St → (Exit → St → Prop) → Prop} {k : Exit → St → Prop} {c : Code} {L : List Nat} {Q : Exit → Act → World → Prop} {a0 : Act} {g0 : G} {w1 : World}
    (hb : ∀ st k g a w Q, ihb st k → Rep p w0 n g st a w → (∀ e g' st' a' w', k e st' → Rep p w0 n g' st' a' w' → Same L a a' → Rel full g w g' w' → Q e a' w') → c.wp P Q a w)
    (hQ : ∀ e g' st' a' w', k e st' → Rep p w0 n g' st' a' w' → Same L a0 a' → Rel full g0 w1 g' w' → Q e a' w') :
    ∀ (r : Nat) (g : G) (st : St) (a : Act) (w : World), loopX ihb k r st → Rep p w0 n g st a w → Same L a0 a → Rel full g0 w1 g w → Code.rounds P c Q r a w := by
  intro r
  induction r with
  | zero => intro g st a w h; exact h.elim
  | succ r ih =>
    intro g st a w h hr hs hx
    rw [rounds_succ]
    refine hb st _ g a w _ h hr ?_
    intro e g' st' a' w' hk hr' hs' hx'
    cases e with
    | normal => exact ih g' st' a' w' hk hr' (hs.trans hs') (hx.trans hx')
    | _ => exact hQ _ _ _ _ _ hk hr' (hs.trans hs') (hx.trans hx')

theorem loopH_ok {h : Hint} {ihc : St → (Exit → St → Prop) → Prop} {k : Exit → St → Prop} {c : Code} {L : List Nat} {Q : Exit → Act → World → Prop} {st : St} {a : Act}
    (hb : ∀ st k g a w Q, ihc st k → Rep p w0 n g st a w → (∀ e g' st' a' w', k e st' → Rep p w0 n g' st' a' w' → Same L a a' → Rel false g w g' w' → Q e a' w') → c.wp P Q a w)
    (hl : loopH h ((dedup L).map pth) ihc k st) (hr : Rep p w0 n g st a w) (hQ : ∀ e g' st' a' w', k e st' → Rep p w0 n g' st' a' w' → Same L a a' → Rel false g w g' w' → Q e a' w') : (Code.loop c).wp P Q a w := by
  obtain ⟨⟨x, hI, hw⟩, hround⟩ := hl
  have key : ∀ (m : Nat) (x : h.X) (s1 : St) (g1 : G) (a1 : Act) (w1 : World), h.I x → h.mu x < m → weakP h x s1 → Rep p w0 n g1 s1 a1 w1 → Same L a a1 → PExt g w g1 w1 → Code.rounds P c Q m a1 w1 := by
    intro m
    induction m with
    | zero => intro x s1 g1 a1 w1 _ hlt; omega
    | succ m ih =>
      intro x s1 g1 a1 w1 hI hlt hw hr1 hs1 hx1
      obtain ⟨g2, hr2, hx2⟩ := weakP_ok hw hr hr1 hs1 hx1
      rw [rounds_succ]
      refine hb _ _ g2 a1 w1 _ (hround x hI) hr2 ?_
      intro e g' st' a' w' hk hr' hs' hx'
      cases e with
      | normal =>
        obtain ⟨x', hI', hmu, hw'⟩ := hk
        exact ih x' st' g' a' w' hI' (by omega) hw' hr' (hs1.trans hs') ((hx1.trans hx2).trans hx'.1)
      | _ => exact hQ _ _ _ _ _ hk hr' (hs1.trans hs') ⟨(hx1.trans hx2).trans hx'.1, fun h => by cases h⟩
  exact wp_loop_rounds (h.mu x + 1) (key _ x st g a w hI (by omega) hw hr (Same.refl _ _) (PExt.of_ext (Ext.refl _ _)))

structure ProgOK (P : Program) : Prop where
  mixed : P.follows .mixedOrders = true
  quiet : (P.funcs.toList.all fun fn => !(fn.name == "runtime.NumGoroutine")) = true
theorem ProgOK.name (hm : ProgOK P) {f : Nat} {fn : Func} (h : P.funcs[f]? = some fn) : (fn.name == "runtime.NumGoroutine") = false := by
  have hm := hm.quiet
  rw [List.all_eq_true] at hm
  have := hm fn (by
    have := Array.mem_of_getElem? h
    simpa using this)
  simpa using this

theorem exec_bad {lh : LH} {st : St} {k : Exit → St → Prop} (h : exec P hk lh inl .bad st k) : False := h

theorem exec_ok (hm : ProgOK P) (hh : HookOK P hk) (hi : InlOK P inl) (hx : InlEx inl) {lh : LH} {full : Bool} (hf : full = true → ∀ i, lh i = none) : ∀ (c : Code), ExOK P full (exec P hk lh inl) c
  | .skip => fun pid n p w0 g st a w k Q h hr hQ => wp_skip (hQ _ _ _ _ _ h hr (Same.refl _ _) (Rel.refl _ _ _))
  | .ret => fun pid n p w0 g st a w k Q h hr hQ => wp_ret (hQ _ _ _ _ _ h hr (Same.refl _ _) (Rel.refl _ _ _))
  | .exit id => fun pid n p w0 g st a w k Q h hr hQ => wp_exit (hQ _ _ _ _ _ h hr (Same.refl _ _) (Rel.refl _ _ _))
  | .seq x y => fun pid n p w0 g st a w k Q h hr hQ => by
    have h : seqK (lh (jid x (wrC x))) ((dedup (wrC x)).map pth) (exec P hk lh inl (cc P n 0 x)) (exec P hk lh inl (cc P n 0 y)) st k := h
    unfold seqK at h
    split at h
    rotate_left
    · rename_i hint hlh
      cases full with
      | true => rw [hf rfl] at hlh; cases hlh
      | false =>
        obtain ⟨h1, h2⟩ := h
        refine wp_seq (exec_ok hm hh hi hx hf x 0 n p w0 g st a w _ _ h1 hr ?_)
        intro e g' st' a' w' hk hr' hs' hx'
        have sub : Same (wrC (.seq x y)) a a' := hs'.sub fun t ht => by simp [wrC, ht]
        cases e with
        | normal =>
          obtain ⟨z, hI, hw⟩ := hk
          obtain ⟨g2, hr2, hx2⟩ := weakP_ok hw hr hr' hs' hx'.1
          refine exec_ok hm hh hi hx hf y 0 n p w0 g2 _ a' w' k Q (h2 z hI) hr2 ?_
          intro e g'' st'' a'' w'' hk3 hr3 hs3 hx3
          exact hQ e g'' st'' a'' w'' hk3 hr3 (sub.trans (hs3.sub fun t ht => by simp [wrC, ht])) ⟨(hx'.1.trans hx2).trans hx3.1, fun h => by cases h⟩
        | _ => exact hQ _ _ _ _ _ hk hr' sub hx'
    refine wp_seq (exec_ok hm hh hi hx hf x 0 n p w0 g st a w _ _ h hr ?_)
    intro e g' st' a' w' hk hr' hs' hx'
    have sub : Same (wrC (.seq x y)) a a' := hs'.sub fun t ht => by simp [wrC, ht]
    cases e with
    | normal =>
      refine exec_ok hm hh hi hx hf y 0 n p w0 g' st' a' w' k Q hk hr' ?_
      intro e g'' st'' a'' w'' hk2 hr2 hs2 hx2
      exact hQ e g'' st'' a'' w'' hk2 hr2 (sub.trans (hs2.sub fun t ht => by simp [wrC, ht])) (hx'.trans hx2)
    | _ => exact hQ _ _ _ _ _ hk hr' sub hx'
  | .cond c x y => fun pid n p w0 g st a w k Q h hr hQ => by
    simp only [cc] at h
    split at h <;> try (exact h.elim)
    rename_i z hz
    have h : (match boolS (opv st.sl z) with
      | some q => br q (exec P hk lh inl (cc P n 0 x) (litO st z true) k) (exec P hk lh inl (cc P n 0 y) (litO st z false) k)
      | none => False) := h
    split at h <;> try (exact h.elim)
    rename_i b hb
    have hcb := boolS_ok hb (hr.opd hz)
    refine wp_cond hcb ?_
    cases b
    · exact exec_ok hm hh hi hx hf y 0 n p w0 g _ a w k Q h (hr.litO hz hb) fun e g' st' a' w' hk hr' hs' hx' => hQ e g' st' a' w' hk hr' (hs'.sub fun t ht => by simp [wrC, ht]) hx'
    · exact exec_ok hm hh hi hx hf x 0 n p w0 g _ a w k Q h (hr.litO hz hb) fun e g' st' a' w' hk hr' hs' hx' => hQ e g' st' a' w' hk hr' (hs'.sub fun t ht => by simp [wrC, ht]) hx'
  | .block id b => fun pid n p w0 g st a w k Q h hr hQ => by
    refine wp_block (exec_ok hm hh hi hx hf b (id + 1) n p w0 g st a w (blockK id k) _ h hr ?_)
    intro e g' st' a' w' hk hr' hs' hx'
    cases e with
    | exit i =>
      simp only [Exit.inBlock]
      simp only [blockK] at hk
      split at hk
      · rename_i hi
        rw [if_pos (Nat.eq_of_beq_eq_true hi)]
        exact hQ _ _ _ _ _ hk hr' hs' hx'
      · rename_i hi
        rw [if_neg (fun e => by rw [e] at hi; simp at hi)]
        exact hQ _ _ _ _ _ hk hr' hs' hx'
    | _ => exact hQ _ _ _ _ _ hk hr' hs' hx'
  | .loop b => fun pid n p w0 g st a w k Q h hr hQ => by
    have h : (match lh pid with
      | none => loopX (exec P hk lh inl (cc P n 0 b)) k 1000 st
      | some h => loopH (h st) ((dedup (wrC b)).map pth) (exec P hk lh inl (cc P n 0 b)) k st) := h
    have ih := fun st k g a w Q => exec_ok hm hh hi hx hf b 0 n p w0 g st a w k Q
    split at h
    · refine wp_loop_rounds 1000 (rounds_ok (full := full) (L := wrC b) (g0 := g) (w1 := w) (a0 := a) ih (fun e g' st' a' w' hk hr' hs' hx' => hQ e g' st' a' w' hk hr' hs' hx') 1000 g st a w h hr (Same.refl _ _) (Rel.refl _ _ _))
    · rename_i hint hlh
      cases full with
      | true => rw [hf rfl] at hlh; cases hlh
      | false => exact loopH_ok ih h hr fun e g' st' a' w' hk hr' hs' hx' => hQ e g' st' a' w' hk hr' hs' hx'
  | .region id ops draw => fun pid n p w0 g st a w k Q h hr hQ => by
    simp only [cc, region] at h
    split at h <;> try (exact h.elim)
    rename_i hdst
    split at h
    · have h : runC P hk inl false ops.toList.length (crs P n ops.toList ops.toList) 0 st (fun st' => k .normal ⟨st'.sl, st'.bl, st'.nx + ops.toList.length⟩) := h
      refine wp_region ?_
      have := runC_false (Q := Q) (a0 := a) (g0 := g) (w1 := w) hh hi hdst ops.toList 0 g st a w (by simp) h hr (Same.refl _ _) (Ext.refl _ _) fun g' st' a' w' hk hr' hs' hx' => hQ _ _ _ _ _ hk (hr'.bump _) hs' (Rel.of_ext hx')
      rwa [Array.length_toList, ← List.range_eq_range'] at this
    · split at h <;> try (exact h.elim)
      rename_i d hd
      have h' : (match dynOk (dynSt st d) d with
        | true => runC P hk inl true ops.toList.length (crs P n ops.toList ops.toList) 0 (dynSt st d) (fun st' => k .normal ⟨st'.sl, st'.bl, st'.nx + ops.toList.length⟩)
        | false => False) := h
      clear h
      split at h' <;> try (exact h'.elim)
      rename_i hdyn
      unfold dynOf at hd
      split at hd <;> try (cases hd; done)
      split at hd <;> try (cases hd; done)
      rename_i ps hps
      simp only [Option.some.injEq] at hd
      subst hd
      have hr := hr.stale ⟨slotsD ops.toList ops.toList, ps⟩
      revert hr hdyn h'
      generalize dynSt st ⟨slotsD ops.toList ops.toList, ps⟩ = st
      intro hdyn h' hr
      simp only [dynOk, Bool.and_eq_true] at hdyn
      obtain ⟨sf, hruns, hk⟩ := runC_true hx ops.toList 0 st (by simp) h'
      rw [Array.length_toList] at hruns
      refine wp_region_any hm.mixed ?_
      have hrd : Rep p w0 n g st a w.drew := ⟨fun t ht => (ext_below g (Below.refl _ _).drew).s _ _ (hr.sl t ht), hr.sz, hr.df, hr.mem.drew⟩
      refine any_ok (a0 := a) (g0 := g) (w1 := w) hh hi hdst (st0 := st) (sf := sf) hps (apartOk_met hdyn.2) ops.size (List.range' 0 ops.size) _ g st a _ (by simp) (fun m o _ h => by exfalso; simp [Array.getD_eq_getD_getElem?, Array.getElem?_replicate] at h; split at h <;> simp at h) (List.pairwise_lt_range' ..) ?_ (by simp) hruns (Inv.start hdyn.1) hrd (Same.refl _ _) (ext_below g (Below.refl _ _).drew) fun g' a' w' hr' hs' hx' => hQ _ _ _ _ _ hk (hr'.bump _) hs' (Rel.of_ext hx')
      intro i
      constructor
      · intro hi
        have : i < ops.size := by simpa using hi
        exact ⟨this, by simp [this]⟩
      · intro ⟨hi, _⟩
        simpa using hi
  | .rangeFunc _ _ _ _ => fun pid n p w0 g st a w k Q h => (exec_bad h).elim
  | .scope _ => fun pid n p w0 g st a w k Q h => (exec_bad h).elim
  | .label _ => fun pid n p w0 g st a w k Q h => (exec_bad h).elim
  | .goto _ => fun pid n p w0 g st a w k Q h => (exec_bad h).elim
  | .refuse _ => fun pid n p w0 g st a w k Q h => (exec_bad h).elim
end
end SY
end Go.Proofs.YtapjehgfekjdaaaDoor
