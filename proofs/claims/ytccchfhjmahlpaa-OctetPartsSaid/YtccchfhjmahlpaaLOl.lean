/- The laws of layer 1: each call answers true. -/
import Derived.Test.YtccchfhjmahlpaaROl
namespace Go.Proofs.Ytccchfhjmahlpaa
open SY
open Go.RowKit
set_option linter.unusedSimpArgs false
set_option linter.unusedVariables false

theorem hkV_ok : HookOK Try.prog hkV := hkL_cons size_ok <| hkL_cons rsize_ok <| hkL_cons put_ok <| hkL_cons rput_ok <| hkL_cons cut_ok <| hkL_cons rcut_ok <| hkL_cons take_ok <| hkL_cons rtake_ok hkL_nil
theorem alive_ok : GOK Try.prog 7 hAlive := by
  refine gok mixed tab_ok hkV_ok fun vs s r hg hs => ?_
  unfold hAlive at hg
  split at hg <;> try (cases hg; done)
  simp only [Option.some.injEq, Prod.mk.injEq] at hg
  obtain ⟨rfl, rfl⟩ := hg
  refine ⟨noL, 10, ?_⟩
  show callT Try.prog _ tab noL 10 _ [] tru
  rw [alive_res 0]
  have n0 : KeepBy [] := fun j hj => by simp at hj
  have m0 : ∀ {c : Int} {l : List Int}, KeepBy (c :: l) ↔ (0 ≤ c ∧ c ≤ 255) ∧ KeepBy l := ⟨by_cons, fun h => by_mk h.1 h.2⟩
  simp [KeepFew, KeepU, KeepI, m0, n0]
theorem hkW_ok : HookOK Try.prog hkW := hkL_cons alive_ok <| hkL_cons size_ok <| hkL_cons rsize_ok <| hkL_cons put_ok <| hkL_cons rput_ok <| hkL_cons cut_ok <| hkL_cons rcut_ok <| hkL_cons take_ok <| hkL_cons rtake_ok hkL_nil

theorem answers_walk (W : World) (v : Value) (b : List Int) (x w : Int) (hv : SlD g0 W [.int .u8] b none v) (hx : KeepU x) :
    Calls Try.prog 3 #[v, .int .u64 x, .int .i64 w] W fun e w' => e = .returned (.bool true) ∧ Below W.heap.size W w' := by
  refine law (vals := [v, .int .u64 x, .int .i64 w]) (lh := noL) (m := 10) (args := [slB b, uS x, iS w]) mixed tab_ok hkW_ok ?_ ⟨hv, rfl, rfl, trivial⟩
  rw [answers_res]
  refine ⟨trivial, br_in (fun _ => rfl) fun g1 => ?_⟩
  simp only [decide_eq_false_iff_not] at g1
  have k1 : KeepFew b := by unfold KeepFew; omega
  refine ⟨⟨rfl, rfl, rfl, hx, k1⟩, ⟨rfl, rfl, rfl, hx, k1⟩, ?_⟩
  rw [strEq_self, br_tt, br_t (by simp)]
  refine br_in (fun c1 => ?_) fun c1 => ?_
  · rw [br_t c1]
    refine br_in (fun c2 => ?_) fun c2 => ?_
    · rw [br_t c2]
      simp [br_iff, hx]
    · rw [br_f c2]
      simp [br_iff, hx] <;> simp_all
  · rw [br_f c1]
    simp [br_iff, hx] <;> simp_all

theorem takes_walk (W : World) (v : Value) (b : List Int) (a n : Int) (hv : SlD g0 W [.int .u8] b none v) (hb : KeepBy b) (ha : KeepI a) (hn : KeepI n) :
    Calls Try.prog 4 #[v, .int .i64 a, .int .i64 n] W fun e w' => e = .returned (.bool true) ∧ Below W.heap.size W w' := by
  refine law (vals := [v, .int .i64 a, .int .i64 n]) (lh := noL) (m := 10) (args := [slB b, iS a, iS n]) mixed tab_ok hkW_ok ?_ ⟨hv, rfl, rfl, trivial⟩
  rw [takes_res]
  refine ⟨trivial, br_in (fun _ => rfl) fun g1 => ?_⟩
  simp only [decide_eq_false_iff_not] at g1
  have k1 : KeepFew b := by unfold KeepFew; omega
  simp [br_iff, ha, hn, hb, k1, strEq_self]

theorem le_by : ∀ (k : Nat) (x : Int), KeepBy (KeepLe k x)
  | 0, x => fun j hj => by simp [KeepLe] at hj
  | k + 1, x => by_mk (by omega) (le_by k (x / 256))
theorem val_le : ∀ (k : Nat) (x : Int), 0 ≤ x → x < 256 ^ k → val (KeepLe k x) = x
  | 0, x, h0, h1 => by simp at h1; simp [KeepLe, val]; omega
  | k + 1, x, h0, h1 => by
    simp only [KeepLe, val]
    rw [val_le k (x / 256) (by omega) (by rw [Int.ediv_lt_iff_lt_mul (by decide), ← Int.pow_succ]; exact h1)]
    omega
theorem szk_fits (k : Nat) : ∀ (x : Int), 0 ≤ x → x < 256 ^ (k + 1) → x < 256 ^ (szk k x) := by
  induction k with
  | zero => intro x h0 h1; exact h1
  | succ k ih =>
    intro x h0 h1
    by_cases hs : x ≤ 255
    · rw [szk_small hs, Int.pow_succ, Int.pow_zero]; omega
    · rw [szk_big (by omega), Int.pow_succ]
      rw [Int.pow_succ] at h1
      have := ih (x / 256) (by omega) (by rw [Int.ediv_lt_iff_lt_mul (by decide)]; exact h1)
      omega
theorem fits {x : Int} (h : KeepU x) {w : Nat} (hw : KeepSz x ≤ w) : x < 256 ^ w := by
  have e : (256 : Int) ^ (7 + 1) = 18446744073709551616 := by decide
  have h1 := szk_fits 7 x h.1 (by rw [e]; exact h.2)
  unfold KeepSz at hw
  have h2 : 256 ^ szk 7 x ≤ 256 ^ w := Nat.pow_le_pow_right (by decide) (by omega)
  have h3 : ((256 ^ szk 7 x : Nat) : Int) = 256 ^ szk 7 x := by rw [Int.natCast_pow]; rfl
  have h4 : ((256 ^ w : Nat) : Int) = 256 ^ w := by rw [Int.natCast_pow]; rfl
  omega

theorem back_walk (W : World) (v : Value) (b : List Int) (x p q : Int) (hv : SlD g0 W [.int .u8] b none v) (hb : KeepBy b) (hx : KeepU x) (hp : 0 ≤ p ∧ p ≤ 255) :
    Calls Try.prog 5 #[v, .int .u64 x, .agg #[.int .u8 p, .int .u8 q]] W fun e w' => e = .returned (.bool true) ∧ Below W.heap.size W w' := by
  refine law (vals := [v, .int .u64 x, .agg #[.int .u8 p, .int .u8 q]]) (lh := noL) (m := 10) (args := [slB b, uS x, aS p q]) mixed tab_ok hkW_ok ?_ ⟨hv, rfl, ⟨_, rfl, rfl, rfl, trivial⟩, trivial⟩
  rw [back_res]
  refine ⟨trivial, br_in (fun _ => rfl) fun g1 => ?_⟩
  simp only [decide_eq_false_iff_not] at g1
  have k1 : KeepFew b := by unfold KeepFew; omega
  have hw : ∃ w : Nat, IntKind.i64.wrap (1 + (IntKind.i64.wrap p).tmod 8) = w ∧ 1 ≤ w ∧ w ≤ 8 := by
    rw [w_i64 (n := p) (by omega), Int.tmod_eq_emod_of_nonneg hp.1, w_i64 (by omega)]
    exact ⟨(1 + p % 8).toNat, by omega, by omega, by omega⟩
  obtain ⟨w, hw, w1, w8⟩ := hw
  simp only [hw]
  refine ⟨⟨by trivial, by trivial, by trivial, hx, k1⟩, ?_⟩
  rw [br_t (by simp; omega), br_t (by simp; omega)]
  refine ⟨⟨by trivial, hx⟩, br_in (fun c1 => ?_) fun c1 => ?_⟩
  · simp at c1
    have hpe : KeepPe x w = 4 := by unfold KeepPe; rw [if_pos (by omega), if_neg (by omega)]
    have hpp : KeepPp b x w = [] := by unfold KeepPp; rw [if_neg (by omega)]
    rw [br_t (by simp [hpe]), br_t (by simp [hpp])]
    refine ⟨⟨by trivial, hx⟩, ?_⟩
    simp; omega
  · simp at c1
    have hpe : KeepPe x w = 0 := by unfold KeepPe; rw [if_pos (by omega), if_pos (by omega)]
    have hpp : KeepPp b x w = b ++ KeepLe w x := by unfold KeepPp; rw [if_pos hpe, Int.toNat_natCast]
    have hf := fits hx c1
    have hby := by_app hb (le_by w x)
    have hlen : (b ++ KeepLe w x).length = b.length + w := by rw [List.length_append, le_len]
    have k2 : KeepFew (b ++ KeepLe w x) := by unfold KeepFew; omega
    have i1 : KeepI (b.length : Int) := by unfold KeepI; omega
    have i2 : KeepI (w : Int) := by unfold KeepI; omega
    have hce : KeepCe (b ++ KeepLe w x) b.length w = 0 := by unfold KeepCe; rw [if_neg (by rw [hlen]; omega), if_neg (by rw [hlen]; omega)]
    obtain ⟨t1, t2, t3⟩ := tx_eq (l := b ++ KeepLe w x) (p := b.length) (n := w) ⟨by omega, by omega⟩
    have hcp : KeepCp (b ++ KeepLe w x) b.length w = KeepLe w x := by
      unfold KeepCp
      rw [if_pos hce, Int.toNat_natCast, Int.toNat_natCast, List.drop_left, List.take_of_length_le (by rw [le_len]; omega)]
    rw [hcp, val_le w x hx.1 hf] at t1
    rw [hce] at t3
    have hcn : KeepCn (b ++ KeepLe w x) b.length w = b.length + w := by unfold KeepCn; rw [if_pos hce]
    rw [hcn] at t2
    have hl1 : IntKind.i64.wrap (((b.length + w : Nat) : Int) - 1) = ((b.length + w - 1 : Nat) : Int) := by rw [w_i64 (by omega)]; omega
    simp only [hpp, hlen, hl1, Int.toNat_natCast]
    refine ⟨⟨by trivial, by trivial, by trivial, i1, i2, k2, hby⟩, ?_⟩
    rw [br_f (by simp only [hpe, decide_true, Bool.not_true]), br_f (by simp only [t3, decide_true, Bool.not_true]), br_f (by simp only [t1, decide_true, Bool.not_true]), br_f (by simp only [t2, Int.natCast_add, decide_true, Bool.not_true]),
      br_f (by rw [w_i64 (by omega)]; simp only [Int.natCast_add, decide_true, Bool.not_true]), br_t (by simp; omega), br_f (by rw [List.take_left, strEq_self]; rfl), br_t (by simp; omega)]
    refine ⟨⟨by trivial, by trivial, by trivial, i1, i2, by unfold KeepFew; rw [List.length_take]; omega, by_take hby _⟩, ?_⟩
    have hc2 : KeepCe ((b ++ KeepLe w x).take (b.length + w - 1)) b.length w = 2 := by
      unfold KeepCe
      have hl2 : ((b ++ KeepLe w x).take (b.length + w - 1)).length = b.length + w - 1 := by rw [List.length_take, hlen]; omega
      rw [hl2, if_neg (by omega), if_pos (by omega)]
    have ht2 : KeepTe ((b ++ KeepLe w x).take (b.length + w - 1)) b.length w = 2 := by unfold KeepTe; rw [if_pos (by omega), hc2]
    rw [br_t (by simp only [ht2, decide_true])]
    refine ⟨⟨by trivial, hx⟩, ?_⟩
    simp; omega

theorem parts_walk (W : World) (v : Value) (b : List Int) (p q : Int) (hv : SlD g0 W [.int .u8] b none v) (hb : KeepBy b) (hp : 0 ≤ p ∧ p ≤ 255) (hq : 0 ≤ q ∧ q ≤ 255) :
    Calls Try.prog 6 #[v, .agg #[.int .u8 p, .int .u8 q]] W fun e w' => e = .returned (.bool true) ∧ Below W.heap.size W w' := by
  refine law (vals := [v, .agg #[.int .u8 p, .int .u8 q]]) (lh := noL) (m := 10) (args := [slB b, aS p q]) mixed tab_ok hkW_ok ?_ ⟨hv, ⟨_, rfl, rfl, rfl, trivial⟩, trivial⟩
  rw [parts_res]
  refine ⟨trivial, br_in (fun _ => rfl) fun g1 => ?_⟩
  simp only [decide_eq_false_iff_not] at g1
  have k1 : KeepFew b := by unfold KeepFew; omega
  have hi : ∃ i : Nat, (IntKind.i64.wrap p).tmod (IntKind.i64.wrap ((b.length : Int) + 1)) = i ∧ i ≤ b.length := by
    rw [w_i64 (n := p) (by omega), w_i64 (by omega), Int.tmod_eq_emod_of_nonneg hp.1]
    have h1 := Int.emod_nonneg p (show (b.length : Int) + 1 ≠ 0 by omega)
    have h2 := Int.emod_lt_of_pos p (show 0 < (b.length : Int) + 1 by omega)
    exact ⟨(p % ((b.length : Int) + 1)).toNat, by omega, by omega⟩
  obtain ⟨i, hi, i1⟩ := hi
  rw [br_t (by rw [w_i64 (by omega)]; simp; omega)]
  simp only [hi]
  have e1 : IntKind.i64.wrap ((b.length : Int) - i) = ((b.length - i : Nat) : Int) := by rw [w_i64 (by omega)]; omega
  simp only [e1]
  have hj : ∃ j : Nat, (IntKind.i64.wrap q).tmod (IntKind.i64.wrap (((b.length - i : Nat) : Int) + 1)) = j ∧ j ≤ b.length - i := by
    rw [w_i64 (n := q) (by omega), w_i64 (by omega), Int.tmod_eq_emod_of_nonneg hq.1]
    have h1 := Int.emod_nonneg q (show ((b.length - i : Nat) : Int) + 1 ≠ 0 by omega)
    have h2 := Int.emod_lt_of_pos q (show 0 < ((b.length - i : Nat) : Int) + 1 by omega)
    exact ⟨(q % (((b.length - i : Nat) : Int) + 1)).toNat, by omega, by omega⟩
  obtain ⟨j, hj, j1⟩ := hj
  rw [br_t (by rw [w_i64 (by omega)]; simp; omega)]
  simp only [hj]
  have e2 : IntKind.i64.wrap (((b.length - i : Nat) : Int) - j) = ((b.length - i - j : Nat) : Int) := by rw [w_i64 (by omega)]; omega
  have e3 : IntKind.i64.wrap ((i : Int) + j) = ((i + j : Nat) : Int) := by rw [w_i64 (by omega)]; omega
  simp only [e2, e3]
  have ce : ∀ (a n : Nat), a + n ≤ b.length → KeepCe b a n = 0 := fun a n h => by unfold KeepCe; rw [if_neg (by omega), if_neg (by omega)]
  have cn : ∀ (a n : Nat), a + n ≤ b.length → KeepCn b a n = ((a + n : Nat) : Int) := fun a n h => by unfold KeepCn; rw [if_pos (ce a n h)]; omega
  have cp : ∀ (a n : Nat), a + n ≤ b.length → KeepCp b a n = (b.drop a).take n := fun a n h => by unfold KeepCp; rw [if_pos (ce a n h)]; rfl
  have n1 : KeepCn b 0 i = i := by have := cn 0 i (by omega); simpa using this
  have n2 : KeepCn b i j = ((i + j : Nat) : Int) := cn i j (by omega)
  have n3 : KeepCn b ((i + j : Nat) : Int) ((b.length - i - j : Nat) : Int) = b.length := by rw [cn (i + j) (b.length - i - j) (by omega)]; omega
  have c1 : KeepCe b 0 i = 0 := ce 0 i (by omega)
  have c2 : KeepCe b i j = 0 := ce i j (by omega)
  have c3 : KeepCe b ((i + j : Nat) : Int) ((b.length - i - j : Nat) : Int) = 0 := ce _ _ (by omega)
  have p1 : KeepCp b 0 i = b.take i := by have := cp 0 i (by omega); simpa using this
  have p2 : KeepCp b i j = (b.drop i).take j := cp i j (by omega)
  have p3 : KeepCp b ((i + j : Nat) : Int) ((b.length - i - j : Nat) : Int) = b.drop (i + j) := by
    rw [cp (i + j) (b.length - i - j) (by omega), List.take_of_length_le (by rw [List.length_drop]; omega)]
  have hall : b.take i ++ (b.drop i).take j ++ b.drop (i + j) = b := by
    rw [List.append_assoc, ← List.drop_drop, List.take_append_drop, List.take_append_drop]
  have ki : ∀ n : Nat, n ≤ b.length → KeepI (n : Int) := fun n h => by unfold KeepI; omega
  have k0 : KeepI 0 := by unfold KeepI; omega
  simp only [n1, n2, n3, c1, c2, c3, p1, p2, p3, hall, strEq_self, decide_true, br_tt]
  refine ⟨⟨by trivial, by trivial, by trivial, k0, ki i (by omega), k1⟩, ⟨by trivial, by trivial, by trivial, ki i (by omega), ki j (by omega), k1⟩, ⟨by trivial, by trivial, by trivial, ki (i + j) (by omega), ki (b.length - i - j) (by omega), k1⟩, ?_⟩
  rw [br_t (by rw [Nat.ble_eq]; simp; omega), br_t (by rw [Nat.ble_eq]; simp; omega)]
  trivial

theorem arr2u_open {H : Type} {enc : TypeId × Value → H} {P : Program} {W : World} {t : TypeId} {v : Value} {d : DataW H} {p : List MemPlace} (hag : ∃ cs, v = .agg cs) (hs : shapeT P 20 t = some [.int .u8, .int .u8])
    (h : DataW.Trod enc P W 0 (fun _ => true) true t v d p) : ∃ a b, v = .agg #[.int .u8 a, .int .u8 b] ∧ (0 ≤ a ∧ a ≤ 255) ∧ (0 ≤ b ∧ b ≤ 255) := by
  obtain ⟨cs, rfl⟩ := hag
  have hsh := trod_leafs hs h
  obtain ⟨l⟩ := cs
  simp only [Value.cells] at hsh
  obtain ⟨_, l, rfl, ⟨a, rfl, ha⟩, q0⟩ := hsh.cons_left
  obtain ⟨_, l, rfl, ⟨b, rfl, hb⟩, q1⟩ := q0.cons_left
  obtain rfl := q1.nil_left
  exact ⟨a, b, rfl, in_u8 ha, in_u8 hb⟩
end Go.Proofs.Ytccchfhjmahlpaa
