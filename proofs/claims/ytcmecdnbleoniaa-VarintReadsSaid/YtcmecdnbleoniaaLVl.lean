/- The laws of layer 2: each call answers true. -/
import Derived.Test.YtcmecdnbleoniaaRVl
namespace Go.Proofs.Ytcmecdnbleoniaa
open SY
open Go.RowKit
set_option linter.unusedSimpArgs false
set_option linter.unusedVariables false

theorem lbeq_self : ∀ l : List Nat, lbeq l l = true
  | [] => rfl
  | a :: l => by simp [lbeq, lbeq_self l]
theorem lbeq_eq : ∀ {l m : List Nat}, lbeq l m = true → l = m
  | [], [], _ => rfl
  | [], _ :: _, h => by simp [lbeq] at h
  | _ :: _, [], h => by simp [lbeq] at h
  | a :: l, b :: m, h => by
    simp only [lbeq, Bool.and_eq_true, Nat.beq_eq] at h
    rw [h.1, lbeq_eq h.2]
theorem strEq_self (l : List Int) : strEq l l = true := lbeq_self _
theorem by_cons {c : Int} {l : List Int} (h : KeepBy (c :: l)) : (0 ≤ c ∧ c ≤ 255) ∧ KeepBy l :=
  ⟨by have := h 0 (by simp); simpa [gI] using this, fun j hj => by have := h (j + 1) (by simp; omega); simpa [gI] using this⟩
theorem by_mk {c : Int} {l : List Int} (h : 0 ≤ c ∧ c ≤ 255) (hl : KeepBy l) : KeepBy (c :: l) := by
  intro j hj
  cases j with
  | zero => simpa [gI] using h
  | succ j => have := hl j (by simp at hj; omega); simpa [gI] using this
theorem by_app {l m : List Int} (h : KeepBy l) (hm : KeepBy m) : KeepBy (l ++ m) := by
  induction l with
  | nil => exact hm
  | cons c l ih => exact by_mk (by_cons h).1 (ih (by_cons h).2)
theorem by_take {l : List Int} (h : KeepBy l) (k : Nat) : KeepBy (l.take k) := by
  induction l generalizing k with
  | nil => simpa using h
  | cons c l ih =>
    cases k with
    | zero => intro j hj; simp at hj
    | succ k => exact by_mk (by_cons h).1 (ih (by_cons h).2 k)
theorem by_drop {l : List Int} (h : KeepBy l) (k : Nat) : KeepBy (l.drop k) := by
  intro j hj
  rw [gI_drop]
  exact h _ (by simp at hj; omega)
theorem by_map : ∀ {l m : List Int}, KeepBy l → KeepBy m → l.map m8 = m.map m8 → l = m
  | [], [], _, _, _ => rfl
  | [], _ :: _, _, _, h => by simp at h
  | _ :: _, [], _, _, h => by simp at h
  | a :: l, b :: m, hl, hm, h => by
    simp only [List.map_cons, List.cons.injEq] at h
    have h1 := (by_cons hl).1
    have h2 := (by_cons hm).1
    have h3 := h.1
    unfold m8 at h3
    rw [by_map (by_cons hl).2 (by_cons hm).2 h.2, show a = b by omega]
theorem strEq_iff {l m : List Int} (hl : KeepBy l) (hm : KeepBy m) : strEq l m = decide (l = m) := by
  by_cases h : l = m
  · subst h; simp [strEq_self]
  · rw [decide_eq_false h, Bool.eq_false_iff]
    exact fun e => h (by_map hl hm (lbeq_eq e))

theorem vb_by : ∀ (k : Nat) (x : Int), 0 ≤ x → x < 128 ^ (k + 1) → KeepBy (vbk k x)
  | 0, x, h0, h1 => by_mk (by simp at h1; omega) (fun j hj => by simp at hj)
  | k + 1, x, h0, h1 => by
    by_cases hs : x ≤ 127
    · rw [vbk_small hs]; exact by_mk (by omega) (fun j hj => by simp at hj)
    · rw [vbk_big (by omega)]
      exact by_mk (by omega) (vb_by k (x / 128) (by omega) (by rw [Int.ediv_lt_iff_lt_mul (by decide), ← Int.pow_succ]; exact h1))
theorem vbU {x : Int} (h : KeepU x) : KeepBy (KeepVb x) := vb_by 9 x h.1 (by have := h.2; have e : (128 : Int) ^ (9 + 1) = 1180591620717411303424 := by decide
                                                                             omega)

/-- What is written is read. -/
theorem rv_back : ∀ (k i : Nat) (y x : Int) (r : List Int), 0 ≤ y → (i = 0 ∨ 0 < y) → i + k = 9 → y < 128 ^ (k + 1) → (i = 9 → y ≤ 1) → (∀ j, i + j = 9 → y < 2 * 128 ^ j) → rv i x (vbk k y ++ r) = (x + y * 128 ^ i, (i : Int) + (vbk k y).length, 0)
  | 0, i, y, x, r, h0, h1, h2, h3, h4, _ => by
    have := h4 (by omega)
    show rv i x (y :: r) = _
    rw [rv_cons, if_neg (fun h => by omega), if_pos (by omega), if_neg (fun h => by omega)]
    rfl
  | k + 1, i, y, x, r, h0, h1, h2, h3, h4, h5 => by
    by_cases hs : y ≤ 127
    · rw [vbk_small hs]
      show rv i x (y :: r) = _
      rw [rv_cons, if_neg (fun h => by omega), if_pos (by omega), if_neg (fun h => by omega)]
      rfl
    · rw [vbk_big (by omega), List.cons_append, rv_cons, if_neg (fun h => by omega), if_neg (by omega)]
      have h6 : ∀ j, i + 1 + j = 9 → y / 128 < 2 * 128 ^ j := fun j hj => by
        have := h5 (j + 1) (by omega)
        rw [Int.ediv_lt_iff_lt_mul (by decide)]
        rw [Int.pow_succ] at this
        omega
      rw [rv_back k (i + 1) (y / 128) _ r (by omega) (.inr (by omega)) (by omega) (by rw [Int.ediv_lt_iff_lt_mul (by decide), ← Int.pow_succ]; exact h3) (fun h => by have := h6 0 (by omega); simp at this; omega) h6]
      have e : x + (y % 128 + 128 - 128) * 128 ^ i + y / 128 * 128 ^ (i + 1) = x + y * 128 ^ i := by
        rw [Int.pow_succ, ← Int.mul_assoc, Int.mul_right_comm, Int.add_assoc, ← Int.add_mul]
        congr 2; omega
      rw [e]
      simp
      omega
theorem rv_vb {x : Int} (h : KeepU x) (r : List Int) : rv 0 0 (KeepVb x ++ r) = (x, ((KeepVb x).length : Int), 0) := by
  have e : (128 : Int) ^ (9 + 1) = 1180591620717411303424 := by decide
  have e9 : (128 : Int) ^ 9 = 9223372036854775808 := by decide
  obtain ⟨h0, h1⟩ := h
  unfold KeepVb
  rw [rv_back 9 0 x 0 r h0 (.inl rfl) rfl (by omega) (fun h => by omega) (fun j hj => by obtain rfl : j = 9 := by omega
                                                                                         omega)]
  simp
/-- Cut, it ends too early. -/
theorem rv_cut : ∀ (k i : Nat) (y x : Int) (j : Nat), i + k = 9 → j < (vbk k y).length → rv i x ((vbk k y).take j) = (0, 0, 2)
  | 0, i, y, x, j, h2, hj => by
    obtain rfl : j = 0 := by simp [vbk] at hj; omega
    rfl
  | k + 1, i, y, x, 0, h2, hj => rfl
  | k + 1, i, y, x, j + 1, h2, hj => by
    by_cases hs : y ≤ 127
    · rw [vbk_small hs] at hj; simp at hj
    · rw [vbk_big (by omega)] at hj ⊢
      rw [List.take_succ_cons, rv_cons, if_neg (fun h => by omega), if_neg (by omega)]
      exact rv_cut k (i + 1) _ _ j (by omega) (by simp at hj; omega)
/-- What is read has just the bytes that are written of it. -/
theorem rv_short : ∀ (l : List Int) (i k : Nat) (x z n : Int), KeepBy l → i + k = 9 → rv i x l = (z, n, 0) →
    ∃ y : Int, 0 ≤ y ∧ z = x + y * 128 ^ i ∧ n = i + (vbk k y).length ∧ (vbk k y).length ≤ l.length ∧ l.take (vbk k y).length = vbk k y ∧ (0 < i → 0 < y) ∧ (i = 9 → y ≤ 1) ∧ (∀ j, i + j = 9 → y < 2 * 128 ^ j)
  | [], i, k, x, z, n, _, _, h => by simp [rv_nil] at h
  | c :: l, i, k, x, z, n, hb, hk, h => by
    obtain ⟨hc, hl⟩ := by_cons hb
    rw [rv_cons] at h
    split at h
    · simp at h
    rename_i h9
    split at h
    · rename_i h128
      split at h
      · simp at h
      · rename_i h0
        simp only [Prod.mk.injEq] at h
        refine ⟨c, hc.1, h.1.symm, by rw [vbk_small (by omega)]; simp; omega, by rw [vbk_small (by omega)]; simp, by rw [vbk_small (by omega)]; simp, fun hi => by omega, fun hi => by omega, fun j hj => ?_⟩
        rcases Nat.eq_zero_or_pos j with h' | h'
        · subst h'; simp; omega
        · obtain ⟨m, rfl⟩ : ∃ m, j = m + 1 := ⟨j - 1, by omega⟩
          have := Int.pow_pos (n := (128 : Int)) (m := m) (by decide)
          rw [Int.pow_succ]; omega
    · rename_i h128
      obtain ⟨k', rfl⟩ : ∃ k', k = k' + 1 := by
        cases k with
        | zero => exact absurd (⟨by omega, by omega⟩ : i = 9 ∧ c > 1) h9
        | succ k' => exact ⟨k', rfl⟩
      obtain ⟨y, y0, y1, y2, y3, y4, y5, y6, y7⟩ := rv_short l (i + 1) k' _ z n hl (by omega) h
      have hy := y5 (by omega)
      have hv : vbk (k' + 1) (c - 128 + 128 * y) = c :: vbk k' y := by
        rw [vbk_big (by omega), show (c - 128 + 128 * y) % 128 + 128 = c by omega, show (c - 128 + 128 * y) / 128 = y by omega]
      refine ⟨c - 128 + 128 * y, by omega, ?_, by rw [hv, y2]; simp; omega, by rw [hv]; simpa using y3, by rw [hv]; simpa using y4, fun _ => by omega, fun hi => by omega, fun j hj => ?_⟩
      · rw [y1, Int.add_assoc, Int.pow_succ]
        congr 1
        rw [Int.add_mul, Int.mul_comm 128 y, Int.mul_assoc, Int.mul_comm (128 ^ i)]
      · obtain ⟨m, rfl⟩ : ∃ m, j = m + 1 := ⟨j - 1, by omega⟩
        have := y7 m (by omega)
        rw [Int.pow_succ]; omega
theorem rv_err : ∀ (l : List Int) (i : Nat) (x : Int), (rv i x l).2.2 ≠ 0 → (rv i x l).1 = 0
  | [], i, x, _ => rfl
  | c :: l, i, x, h => by
    rw [rv_cons] at h ⊢
    by_cases h1 : i = 9 ∧ c > 1
    · rw [if_pos h1]
    rw [if_neg h1] at h ⊢
    by_cases h2 : c < 128
    · rw [if_pos h2] at h ⊢
      by_cases h3 : c = 0 ∧ i > 0
      · rw [if_pos h3]
      · rw [if_neg h3] at h; exact absurd rfl h
    · rw [if_neg h2] at h ⊢
      exact rv_err l _ _ h
theorem rx_u (b : List Int) (a : Int) (h : KeepBy b) : KeepU (KeepRx b a) := by
  have hz : KeepU 0 := ⟨by decide, by decide⟩
  have e9 : (128 : Int) ^ 9 = 9223372036854775808 := by decide
  unfold KeepRx
  split
  · exact hz
  · have hbd := by_drop h a.toNat
    generalize b.drop a.toNat = l at *
    rcases hR : rv 0 0 l with ⟨z, n, e⟩
    by_cases he : e = 0
    · subst he
      obtain ⟨y, y0, y1, _, _, _, _, _, y7⟩ := rv_short l 0 9 0 z n hbd rfl hR
      have := y7 9 rfl
      simp at y1
      exact ⟨by simp only; omega, by simp only; omega⟩
    · have := rv_err l 0 0 (by rw [hR]; exact he)
      rw [hR] at this
      simp only at this
      simp only; rw [this]; exact hz
theorem rx_zero (b : List Int) (a : Int) (h : KeepRe b a ≠ 0) : KeepRx b a = 0 := by
  unfold KeepRx KeepRe at *
  split
  · rfl
  · rename_i hc
    rw [if_neg hc] at h
    exact rv_err _ _ _ h
theorem zig_u {y : Int} (h : KeepI y) : KeepU (KeepZig y) := by
  obtain ⟨h0, h1⟩ := h
  unfold KeepZig KeepU
  split <;> omega
theorem zag_i {y : Int} (h : KeepU y) : KeepI (KeepZag y) := by
  obtain ⟨h0, h1⟩ := h
  unfold KeepZag KeepI
  split <;> omega
theorem zig_zag {y : Int} (h : KeepU y) : KeepZig (KeepZag y) = y := by
  obtain ⟨h0, h1⟩ := h
  unfold KeepZag KeepZig
  split <;> split <;> omega
theorem zag_zig {y : Int} (h : KeepI y) : KeepZag (KeepZig y) = y := by
  obtain ⟨h0, h1⟩ := h
  unfold KeepZag KeepZig
  split <;> split <;> omega
theorem wrap_i (x : Int) : KeepI (IntKind.i64.wrap x) := by
  unfold KeepI
  rw [IntKind.wrap_i64]; omega
theorem sz_len (x : Int) : KeepSz x = ((KeepVb x).length : Int) := rfl
theorem sz_mono : ∀ (k : Nat) (x y : Int), x ≤ y → (vbk k x).length ≤ (vbk k y).length
  | 0, x, y, h => by simp [vbk]
  | k + 1, x, y, h => by
    by_cases hy : y ≤ 127
    · rw [vbk_small hy, vbk_small (by omega)]; simp
    · rw [vbk_big (x := y) (by omega)]
      by_cases hx : x ≤ 127
      · rw [vbk_small hx]; simp
      · rw [vbk_big (x := x) (by omega)]
        have := sz_mono k (x / 128) (y / 128) (by omega)
        simp; omega

theorem hkV_ok : HookOK Try.prog hkV := hkL_cons size_ok <| hkL_cons app_ok <| hkL_cons bytes_ok <| hkL_cons zig_ok <| hkL_cons rzig_ok <| hkL_cons zag_ok <| hkL_cons rzag_ok <| hkL_cons read_ok <| hkL_cons rread_ok hkL_nil
theorem alive_ok : GOK Try.prog 8 hAlive := by
  refine gok mixed tab_ok hkV_ok fun vs s r hg hs => ?_
  unfold hAlive at hg
  split at hg <;> try (cases hg; done)
  simp only [Option.some.injEq, Prod.mk.injEq] at hg
  obtain ⟨rfl, rfl⟩ := hg
  refine ⟨noL, 10, ?_⟩
  show callT Try.prog _ tab noL 10 _ [] tru
  rw [alive_res 0]
  have n0 : KeepBy [] := fun j hj => by simp at hj
  have m0 : ∀ {c : Int} {l : List Int}, KeepBy (c :: l) ↔ (0 ≤ c ∧ c ≤ 255) ∧ KeepBy l := ⟨by_cons, fun h => by_mk h.1 h.2⟩
  simp [KeepFew, KeepU, KeepI, m0, n0]
theorem hkW_ok : HookOK Try.prog hkW := hkL_cons alive_ok <| hkL_cons size_ok <| hkL_cons app_ok <| hkL_cons bytes_ok <| hkL_cons zig_ok <| hkL_cons rzig_ok <| hkL_cons zag_ok <| hkL_cons rzag_ok <| hkL_cons read_ok <| hkL_cons rread_ok hkL_nil

theorem inR_by {l : List Int} (h : InR [.int .u8] l) : KeepBy l := fun j hj => in_u8 (at_in1 h hj)
theorem u_of {x : Int} (h : inK (.int .u64) x) : KeepU x := by have := in_u64 h; exact ⟨this.1, by omega⟩
theorem i_of {x : Int} (h : inK (.int .i64) x) : KeepI x := by have := in_i64 h; exact ⟨this.1, by omega⟩

theorem answers_walk (W : World) (v : Value) (b : List Int) (x y : Int) (hv : SlD g0 W [.int .u8] b none v) (hx : KeepU x) (hy : KeepI y) :
    Calls Try.prog 3 #[v, .int .u64 x, .int .i64 y] W fun e w' => e = .returned (.bool true) ∧ Below W.heap.size W w' := by
  refine law (vals := [v, .int .u64 x, .int .i64 y]) (lh := noL) (m := 10) (args := [slB b, uS x, iS y]) mixed tab_ok hkW_ok ?_ ⟨hv, rfl, rfl, trivial⟩
  rw [answers_res]
  refine ⟨trivial, br_in (fun _ => rfl) fun g1 => ?_⟩
  simp only [decide_eq_false_iff_not] at g1
  have k1 : KeepFew b := by unfold KeepFew; omega
  have k2 := zig_u hy
  have l1 : (KeepVb x).length ≤ 10 := (vbk_len 9 x).2
  have l2 : (KeepVb (KeepZig y)).length ≤ 10 := (vbk_len 9 _).2
  have b1 : b.length ≤ 1099511627776 := by omega
  have b2 : b.length + (KeepVb x).length ≤ 1099511627776 := by omega
  have b3 : b.length + (KeepVb (KeepZig y)).length ≤ 1099511627776 := by omega
  have b1' : b.length.ble 1099511627776 = true := by rw [Nat.ble_eq]; exact b1
  have b2' : (b.length + (KeepVb x).length).ble 1099511627776 = true := by rw [Nat.ble_eq]; exact b2
  have b3' : (b.length + (KeepVb (KeepZig y)).length).ble 1099511627776 = true := by rw [Nat.ble_eq]; exact b3
  simp only [List.nil_append, Nat.zero_add, b1', b2', b3', br_tt, strEq_self, sz_len, decide_true, hx, hy, k1, k2, and_self]

theorem reads_walk (W : World) (v : Value) (b : List Int) (a : Int) (hv : SlD g0 W [.int .u8] b none v) (hb : KeepBy b) :
    Calls Try.prog 4 #[v, .int .i64 a] W fun e w' => e = .returned (.bool true) ∧ Below W.heap.size W w' := by
  refine law (vals := [v, .int .i64 a]) (lh := noL) (m := 10) (args := [slB b, iS a]) mixed tab_ok hkW_ok ?_ ⟨hv, rfl, trivial⟩
  rw [reads_res]
  refine ⟨trivial, br_in (fun _ => rfl) fun g1 => ?_⟩
  simp only [decide_eq_false_iff_not] at g1
  have k1 : KeepFew b := by unfold KeepFew; omega
  have k2 := rx_u b a hb
  refine ⟨⟨rfl, rfl, k1, hb⟩, ⟨rfl, rfl, k1, hb⟩, ⟨rfl, rfl, k1, hb⟩, ⟨rfl, k2⟩, ⟨rfl, rfl, k1, hb⟩, br_in (fun h => ?_) fun h => ?_⟩
  · simp only [Bool.not_eq_true', decide_eq_false_iff_not] at h
    have e1 := rx_zero b a h
    have e2 : KeepRn b a = 0 := by unfold KeepRn; rw [if_neg h]
    simp [br_iff, e1, e2, KeepZag]
  · simp only [Bool.not_eq_false', decide_eq_true_eq] at h
    simp [br_iff, h, k2]

theorem short_walk (W : World) (v : Value) (b : List Int) (a : Int) (hv : SlD g0 W [.int .u8] b none v) (hb : KeepBy b) (ha : 0 ≤ a ∧ a ≤ 255) :
    Calls Try.prog 6 #[v, .int .u8 a] W fun e w' => e = .returned (.bool true) ∧ Below W.heap.size W w' := by
  refine law (vals := [v, .int .u8 a]) (lh := noL) (m := 10) (args := [slB b, .t (.c (.v (.int .u8 a)))]) mixed tab_ok hkW_ok ?_ ⟨hv, rfl, trivial⟩
  rw [short_res]
  refine ⟨trivial, br_in (fun _ => rfl) fun g1 => ?_⟩
  simp only [decide_eq_false_iff_not] at g1
  have k1 : KeepFew b := by unfold KeepFew; omega
  rw [w_i64 (n := (b.length : Int) + 1) (by omega), w_i64 (n := a) (by omega), br_t (by simp; omega), Int.tmod_eq_emod_of_nonneg ha.1]
  have hi : 0 ≤ a % ((b.length : Int) + 1) ∧ a % ((b.length : Int) + 1) ≤ b.length := ⟨Int.emod_nonneg _ (by omega), by have := Int.emod_lt_of_pos a (show 0 < (b.length : Int) + 1 by omega); omega⟩
  obtain ⟨i, hi'⟩ := Int.eq_ofNat_of_zero_le hi.1
  rw [hi'] at hi ⊢
  have k2 := rx_u b i hb
  have k0 : KeepFew [] := by simp [KeepFew]
  refine ⟨⟨rfl, rfl, k1, hb⟩, br_in (fun h => ?_) fun h => ?_⟩
  · simp only [Bool.not_eq_true', decide_eq_false_iff_not] at h
    have e1 := rx_zero b i h
    have e2 : KeepRn b i = 0 := by unfold KeepRn; rw [if_neg h]
    simp [br_iff, e1, e2]
  · simp only [Bool.not_eq_false', decide_eq_true_eq] at h
    have hn : KeepRn b i = i + (rv 0 0 (b.drop i)).2.1 := by unfold KeepRn; rw [if_pos h]; rfl
    have hx : KeepRx b i = (rv 0 0 (b.drop i)).1 := by unfold KeepRx; rw [if_neg (by omega)]; rfl
    have he : (rv 0 0 (b.drop i)).2.2 = 0 := by
      unfold KeepRe at h; rw [if_neg (by omega)] at h; exact h
    rcases hR : rv 0 0 (b.drop i) with ⟨z, n, e⟩
    rw [hR] at hn hx he
    simp only at hn hx he
    subst he
    obtain ⟨y, y0, y1, y2, y3, y4, _⟩ := rv_short _ 0 9 0 z n (by_drop hb i) rfl hR
    simp only [Int.pow_zero, Int.mul_one, Int.zero_add] at y1
    subst y1
    have hl := vbk_len 9 z
    have e4 : List.drop i (List.take (i + (vbk 9 z).length) b) = vbk 9 z := by rw [List.drop_take, Nat.add_sub_cancel_left, y4]
    simp only [List.length_drop] at y3
    have e5 : KeepRn b i = ((i + (vbk 9 z).length : Nat) : Int) := by rw [hn, y2]; simp
    rw [e5, hx]
    rw [hx] at k2
    simp only [Int.toNat_natCast, List.nil_append]
    rw [br_t (by simp; omega), br_t (by simp; omega)]
    refine ⟨⟨by trivial, by trivial, k2, k0⟩, ?_⟩
    rw [br_t (by simp; omega), e4, show KeepVb z = vbk 9 z from rfl, strEq_self, br_tt]
    refine ⟨⟨by trivial, k2⟩, ?_⟩
    rw [w_i64 (by omega), sz_len, show KeepVb z = vbk 9 z from rfl]
    simp
    omega

theorem order_walk (W : World) (x y : Int) (hx : KeepU x) (hy : KeepU y) :
    Calls Try.prog 7 #[.int .u64 x, .int .u64 y] W fun e w' => e = .returned (.bool true) ∧ Below W.heap.size W w' := by
  refine law (vals := [.int .u64 x, .int .u64 y]) (lh := noL) (m := 10) (args := [uS x, uS y]) mixed tab_ok hkW_ok ?_ ⟨rfl, rfl, trivial⟩
  rw [order_res]
  have k0 : KeepFew [] := by simp [KeepFew]
  have h1 : KeepU (imin x y) := by unfold imin; split <;> assumption
  have h2 : KeepU (imax x y) := by unfold imax; split <;> assumption
  have h3 : imin x y ≤ imax x y := by unfold imin imax; split <;> split <;> omega
  have h4 := sz_mono 9 _ _ h3
  have h5 : decide (KeepZig (IntKind.i64.wrap x) = KeepZig (IntKind.i64.wrap y)) = decide (x = y) := by
    rw [decide_eq_decide]
    constructor
    · intro h
      have := congrArg KeepZag h
      rw [zag_zig (wrap_i x), zag_zig (wrap_i y)] at this
      rw [IntKind.wrap_i64, IntKind.wrap_i64] at this
      obtain ⟨a1, a2⟩ := hx
      obtain ⟨a3, a4⟩ := hy
      omega
    · intro h; rw [h]
  have h6 : strEq (KeepVb x) (KeepVb y) = decide (x = y) := by
    rw [strEq_iff (vbU hx) (vbU hy), decide_eq_decide]
    constructor
    · intro h
      have e1 := rv_vb hx []
      have e2 := rv_vb hy []
      rw [h] at e1
      exact (Prod.mk.inj (e1.symm.trans e2)).1
    · intro h; rw [h]
  refine ⟨trivial, ⟨rfl, h1⟩, ⟨rfl, h2⟩, ?_⟩
  rw [br_t (by simp only [decide_eq_true_eq]; unfold KeepSz; omega)]
  refine ⟨⟨rfl, wrap_i x⟩, ⟨rfl, wrap_i y⟩, ?_⟩
  rw [h5]
  rw [br_t (by simp)]
  refine ⟨⟨rfl, rfl, hx, k0⟩, ⟨rfl, rfl, hy, k0⟩, ?_⟩
  rw [List.nil_append, List.nil_append, h6]
  simp

theorem back_walk (W : World) (v u : Value) (a b : List Int) (x : Int) (hv : SlD g0 W [.int .u8] a none v) (hu : SlD g0 W [.int .u8] b none u) (ha : KeepBy a) (hb : KeepBy b) (hx : KeepU x) :
    Calls Try.prog 5 #[v, u, .int .u64 x] W fun e w' => e = .returned (.bool true) ∧ Below W.heap.size W w' := by
  refine law (vals := [v, u, .int .u64 x]) (lh := lhL [(1, hintBack a.length (a ++ KeepVb x).length)]) (m := 10) (args := [slB a, slB b, uS x]) mixed tab_ok hkW_ok ?_ ⟨hv, hu, rfl, trivial⟩
  rw [back_res]
  refine ⟨trivial, br_in (fun _ => rfl) fun g1 => br_in (fun _ => rfl) fun g2 => ?_⟩
  simp only [decide_eq_false_iff_not] at g1 g2
  have k1 : KeepFew a := by unfold KeepFew; omega
  have hl := vbk_len 9 x
  have hl' : 1 ≤ (KeepVb x).length ∧ (KeepVb x).length ≤ 10 := hl
  have hby := by_app ha (vbU hx)
  have hby2 := by_app hby hb
  have k2 : KeepFew (a ++ KeepVb x ++ b) := by unfold KeepFew; simp; omega
  have hd : (a ++ KeepVb x ++ b).drop a.length = KeepVb x ++ b := by rw [List.append_assoc, List.drop_left]
  have hc : ¬ ((a.length : Int) < 0 ∨ (a.length : Int) > (a ++ KeepVb x ++ b).length) := by simp; omega
  have e1 : KeepRe (a ++ KeepVb x ++ b) a.length = 0 := by
    unfold KeepRe; rw [if_neg hc, Int.toNat_natCast, hd, rv_vb hx]
  have e2 : KeepRx (a ++ KeepVb x ++ b) a.length = x := by
    unfold KeepRx; rw [if_neg hc, Int.toNat_natCast, hd, rv_vb hx]
  have e3 : KeepRn (a ++ KeepVb x ++ b) a.length = (a ++ KeepVb x).length := by
    unfold KeepRn; rw [if_pos e1, Int.toNat_natCast, hd, rv_vb hx]; simp
  refine ⟨⟨rfl, rfl, hx, k1⟩, ⟨rfl, hx⟩, ?_⟩
  rw [br_f (by rw [sz_len, w_i64 (by omega)]; simp only [List.length_append, Int.natCast_add, decide_true, Bool.not_true]), br_t (by simp; omega)]
  simp only [Int.toNat_natCast, List.take_left, strEq_self, Bool.not_true, br_ff, List.nil_append, Nat.zero_add]
  rw [br_t (by rw [Nat.ble_eq]; simp; omega), br_t (by rw [Nat.ble_eq]; simp; omega)]
  refine ⟨⟨by trivial, by trivial, k2, hby2⟩, ?_⟩
  rw [br_f (by simp only [e1, decide_true, Bool.not_true]), br_f (by simp only [e2, decide_true, Bool.not_true]), br_f (by simp only [e3, decide_true, Bool.not_true])]
  refine ⟨⟨⟨a.length⟩, ⟨Nat.le_refl _, by simp⟩, by simp⟩, ?_⟩
  rintro ⟨k⟩ ⟨i1, i2⟩
  simp only at i1 i2
  refine br_in (fun d => ?_) fun d => ?_
  · simp only [decide_eq_true_eq] at d
    have hk : k < (a ++ KeepVb x).length := by omega
    rw [br_t (by simp at hk ⊢; omega)]
    have k3 : KeepFew ((a ++ KeepVb x).take k) := by unfold KeepFew; simp; omega
    refine ⟨⟨by trivial, by trivial, k3, by_take hby k⟩, ?_⟩
    have e4 : KeepRe ((a ++ KeepVb x).take k) a.length = 2 := by
      unfold KeepRe
      rw [if_neg (by simp at hk ⊢; omega), Int.toNat_natCast, List.drop_take, List.drop_left]
      have := rv_cut 9 0 x 0 (k - a.length) rfl (by simp at hk; unfold KeepVb at hk; omega)
      unfold KeepVb
      rw [this]
    rw [br_f (by simp only [e4, decide_true, Bool.not_true])]
    exact ⟨⟨k + 1⟩, ⟨by simp; omega, by simp at hk ⊢; omega⟩, by simp at hk ⊢; omega, ⟨by rw [w_i64 (n := (k : Int) + 1) (by simp at hk; omega)]; simp, trivial⟩, trivial⟩
  · refine ⟨⟨by trivial, hx⟩, ⟨by trivial, zag_i hx⟩, ?_⟩
    rw [zig_zag hx, br_t (by simp)]
    refine ⟨⟨by trivial, wrap_i x⟩, ⟨by trivial, zig_u (wrap_i x)⟩, ?_⟩
    rw [zag_zig (wrap_i x)]
    simp
end Go.Proofs.Ytcmecdnbleoniaa
