/- Waiters in turns: the plain part. No condition. -/
import Derived.Test.YtgoigcnibjcjpaaLN6
namespace Go.Proofs.Ytgoigcnibjcjpaa
open SY
open Go.RowKit Go.Maps
set_option linter.unusedSimpArgs false
set_option linter.unusedVariables false

def KeepLst (fr : Int) : List Int → List Int
  | [] => []
  | k :: l => (fr + k) % 4294967296 :: k :: KeepLst fr l
structure TX where
  g : Nat
  d : Nat
  i : Nat
  ws : List Int
def KeepTn (fr : Int) (x : TX) : NF := ⟨(fr + x.g) % 4294967296, (fr + x.d) % 4294967296, KeepLst fr x.ws⟩
def KeepTI (m : Nat) (x : TX) : Prop := x.i ≤ m ∧ m ≤ 60 ∧ x.d ≤ x.g ∧ x.g ≤ x.i ∧ x.ws.length ≤ 12 ∧ (∀ v, v ∈ x.ws → (x.d : Int) ≤ v ∧ v < x.g) ∧ x.ws.Pairwise (· ≠ ·)
theorem lst_app (fr : Int) : ∀ (a b : List Int), KeepLst fr (a ++ b) = KeepLst fr a ++ KeepLst fr b
  | [], b => rfl
  | k :: a, b => by show _ :: _ :: KeepLst fr (a ++ b) = _; rw [lst_app fr a b]; rfl
theorem lst_len (fr : Int) : ∀ a : List Int, (KeepLst fr a).length = 2 * a.length
  | [] => rfl
  | k :: a => by show (KeepLst fr a).length + 1 + 1 = _; rw [lst_len fr a, List.length_cons]; omega
theorem gI_cons (a : Int) (l : List Int) (k : Nat) : gI (a :: l) (k + 1) = gI l k := by simp [gI]
theorem lst_at (fr : Int) : ∀ (a : List Int) (k : Nat), k < a.length → tkI (KeepLst fr a) k = (fr + gI a k) % 4294967296 ∧ tsI (KeepLst fr a) k = gI a k
  | v :: a, 0, _ => ⟨rfl, rfl⟩
  | v :: a, k + 1, h => by
    obtain ⟨h1, h2⟩ := lst_at fr a k (by simpa using h)
    unfold tkI tsI at *
    show gI (_ :: _ :: KeepLst fr a) (2 * k + 1 + 1) = _ ∧ gI (_ :: _ :: KeepLst fr a) (2 * k + 1 + 1 + 1) = _
    rw [gI_cons, gI_cons, gI_cons, gI_cons, gI_cons]
    exact ⟨h1, h2⟩
theorem gI_mem {l : List Int} {k : Nat} (h : k < l.length) : gI l k ∈ l := by
  have : gI l k = l[k] := by simp [gI, h]
  rw [this]; exact List.getElem_mem h
theorem gI_ne {l : List Int} (h : l.Pairwise (· ≠ ·)) {j k : Nat} (hj : j < k) (hk : k < l.length) : gI l j ≠ gI l k := by
  have e1 : gI l j = l[j]'(by omega) := by simp [gI, show j < l.length by omega]
  have e2 : gI l k = l[k] := by simp [gI, hk]
  rw [e1, e2]
  exact List.pairwise_iff_getElem.1 h j k (by omega) hk hj
theorem mem_gI {l : List Int} {v : Int} (h : v ∈ l) : ∃ k, k < l.length ∧ gI l k = v := by
  obtain ⟨k, hk, e⟩ := List.getElem_of_mem h
  exact ⟨k, hk, by simp [gI, hk, e]⟩
theorem t_half (fr : Int) (ws : List Int) : (KeepLst fr ws).length / 2 = ws.length := by rw [lst_len]; omega
theorem t_right {fr : Int} {m : Nat} {x : TX} (h : KeepTI m x) : KeepRn (KeepTn fr x) = true := by
  obtain ⟨h1, h2, h3, h4, h5, h6, h7⟩ := h
  refine rt_iff.2 ⟨by show ((fr + x.g) % 4294967296 - (fr + x.d) % 4294967296) % 4294967296 ≤ 1000; omega, by show (KeepLst fr x.ws).length ≤ 24; rw [lst_len]; omega, fun k hk => ?_⟩
  have hk : k < (KeepLst fr x.ws).length / 2 := hk
  rw [t_half] at hk
  obtain ⟨e1, e2⟩ := lst_at fr x.ws k hk
  have hm := h6 _ (gI_mem hk)
  show 0 ≤ tsI (KeepLst fr x.ws) k ∧ (tkI (KeepLst fr x.ws) k - (fr + x.d) % 4294967296) % 4294967296 < ((fr + x.g) % 4294967296 - (fr + x.d) % 4294967296) % 4294967296 ∧ (∀ j, j < k → tkI (KeepLst fr x.ws) j ≠ tkI (KeepLst fr x.ws) k) ∧ ∀ j, j < k → tsI (KeepLst fr x.ws) j ≠ tsI (KeepLst fr x.ws) k
  rw [e1, e2]
  refine ⟨by omega, by omega, fun j hj => ?_, fun j hj => ?_⟩
  · rw [(lst_at fr x.ws j (by omega)).1]
    have hm' := h6 _ (gI_mem (show j < x.ws.length by omega))
    have := gI_ne h7 hj hk
    omega
  · rw [(lst_at fr x.ws j (by omega)).2]
    exact gI_ne h7 hj hk
theorem t_ws {fr : Int} {m : Nat} {x : TX} (h : KeepTI m x) : KeepWs (KeepTn fr x) := by
  obtain ⟨h1, h2, h3, h4, h5, h6, h7⟩ := h
  refine ⟨by show 0 ≤ (fr + x.g) % 4294967296 ∧ (fr + x.g) % 4294967296 < 4294967296; omega, by show 0 ≤ (fr + x.d) % 4294967296 ∧ (fr + x.d) % 4294967296 < 4294967296; omega, by show (KeepLst fr x.ws).length % 2 = 0; rw [lst_len]; omega, by show (KeepLst fr x.ws).length ≤ 1000000; rw [lst_len]; omega, fun k hk => ?_⟩
  have hk : k < (KeepLst fr x.ws).length / 2 := hk
  rw [t_half] at hk
  obtain ⟨e1, e2⟩ := lst_at fr x.ws k hk
  have hm := h6 _ (gI_mem hk)
  show (0 ≤ tkI (KeepLst fr x.ws) k ∧ tkI (KeepLst fr x.ws) k < 4294967296) ∧ -9223372036854775808 ≤ tsI (KeepLst fr x.ws) k ∧ tsI (KeepLst fr x.ws) k < 9223372036854775808
  rw [e1, e2]; omega
theorem t_has {fr k : Int} {m : Nat} {x : TX} (h : KeepTI m x) (hk : 0 ≤ k ∧ k < 100) : KeepHas (KeepLst fr x.ws) ((fr + k) % 4294967296) k = decide (k ∈ x.ws) := by
  obtain ⟨h1, h2, h3, h4, h5, h6, h7⟩ := h
  unfold KeepHas
  rw [t_half]
  by_cases c : k ∈ x.ws
  · obtain ⟨j, hj, e⟩ := mem_gI c
    have : sameF (KeepLst fr x.ws) ((fr + k) % 4294967296) k j = true := by unfold sameF; rw [(lst_at fr x.ws j hj).2, e]; simp
    have := ixF_ge x.ws.length 0 j (Nat.zero_le _) (by omega) this
    rw [decide_eq_true c]
    exact decide_eq_true this
  · rw [ixF_end _ 0 fun j _ hj => ?_, decide_eq_false c]
    · decide
    · have hj : j < x.ws.length := by omega
      obtain ⟨e1, e2⟩ := lst_at fr x.ws j hj
      have hm := gI_mem hj
      have ne : gI x.ws j ≠ k := fun e => c (e ▸ hm)
      have hb := h6 _ hm
      unfold sameF
      rw [e1, e2, decide_eq_false ne, decide_eq_false (show ¬ (fr + gI x.ws j) % 4294967296 = (fr + k) % 4294967296 by omega)]; rfl
theorem t_park {fr k : Int} {m : Nat} {x : TX} (h : KeepTI m x) (hk : 0 ≤ k ∧ k < 100) : KeepPk (KeepTn fr x) ((fr + k) % 4294967296) k =
    if (x.d : Int) ≤ k ∧ k < x.g then (if k ∈ x.ws then (KeepTn fr x, 8) else if x.ws.length = 12 then (KeepTn fr x, 6) else (KeepTn fr ⟨x.g, x.d, x.i, x.ws ++ [k]⟩, 0)) else (KeepTn fr x, 1) := by
  have hr := t_right (fr := fr) h
  have hh := t_has (fr := fr) h hk
  obtain ⟨h1, h2, h3, h4, h5, h6, h7⟩ := h
  unfold KeepPk
  rw [if_neg (show ¬ k < 0 by omega), if_neg (by rw [hr]; decide)]
  show (if ¬ ((fr + k) % 4294967296 - (fr + x.d) % 4294967296) % 4294967296 < ((fr + x.g) % 4294967296 - (fr + x.d) % 4294967296) % 4294967296 then _ else if KeepHas (KeepLst fr x.ws) ((fr + k) % 4294967296) k = true then _ else if (KeepLst fr x.ws).length / 2 = 12 then _ else _) = _
  rw [hh, t_half]
  by_cases c : (x.d : Int) ≤ k ∧ k < x.g
  · rw [if_neg (by omega), if_pos c]
    by_cases c1 : k ∈ x.ws
    · rw [if_pos (decide_eq_true c1), if_pos c1]
    · rw [if_neg (by rw [decide_eq_false c1]; decide), if_neg c1]
      split
      · rfl
      · unfold KeepTn; rw [lst_app]; rfl
  · rw [if_pos (by omega), if_neg c]
def KeepWo (ws : List Int) (d : Int) (k : Nat) : List Int := (ws.take k).filter fun v => decide (v ≠ d)
theorem wo_step {ws : List Int} {d : Int} {k : Nat} (h : k < ws.length) : KeepWo ws d (k + 1) = KeepWo ws d k ++ (if gI ws k = d then [] else [gI ws k]) := by
  unfold KeepWo
  have e : gI ws k = ws[k] := by simp [gI, h]
  rw [← List.take_append_getElem h, List.filter_append, e]
  by_cases c : ws[k] = d <;> simp [c]
theorem wo_all (ws : List Int) (d : Int) : KeepWo ws d ws.length = ws.filter fun v => decide (v ≠ d) := by unfold KeepWo; rw [List.take_length]
theorem wo_len (ws : List Int) (d : Int) (k : Nat) : (KeepWo ws d k).length ≤ ws.length := by
  unfold KeepWo
  have h1 := List.length_filter_le (fun v => decide (v ≠ d)) (ws.take k)
  have h2 : (ws.take k).length ≤ ws.length := List.length_take_le' k ws
  omega
theorem t_filt {fr : Int} {m : Nat} {x : TX} (h : KeepTI m x) : ∀ k, k ≤ x.ws.length → filt (KeepLst fr x.ws) ((fr + x.d) % 4294967296) k = KeepLst fr (KeepWo x.ws x.d k) ∧ tkOf (KeepLst fr x.ws) ((fr + x.d) % 4294967296) k = if (x.d : Int) ∈ x.ws.take k then (x.d : Int) else -1
  | 0, _ => ⟨rfl, by simp [tkOf]⟩
  | k + 1, hk => by
    obtain ⟨i1, i2⟩ := t_filt h k (by omega)
    obtain ⟨h1, h2, h3, h4, h5, h6, h7⟩ := h
    have hk' : k < x.ws.length := by omega
    obtain ⟨e1, e2⟩ := lst_at fr x.ws k hk'
    have hb := h6 _ (gI_mem hk')
    have e : gI x.ws k = x.ws[k] := by simp [gI, hk']
    refine ⟨?_, ?_⟩
    · show filt (KeepLst fr x.ws) ((fr + x.d) % 4294967296) k ++ (if tkI (KeepLst fr x.ws) k = (fr + x.d) % 4294967296 then [] else [tkI (KeepLst fr x.ws) k, tsI (KeepLst fr x.ws) k]) = _
      rw [i1, wo_step hk', lst_app, e1, e2]
      congr 1
      by_cases c : gI x.ws k = x.d
      · rw [if_pos (by omega), if_pos c]; rfl
      · rw [if_neg (by omega), if_neg c]; rfl
    · show (if tkI (KeepLst fr x.ws) k = (fr + x.d) % 4294967296 then tsI (KeepLst fr x.ws) k else tkOf (KeepLst fr x.ws) ((fr + x.d) % 4294967296) k) = _
      rw [i2, e1, e2, ← List.take_append_getElem hk', ← e]
      by_cases c : gI x.ws k = x.d
      · rw [if_pos (by omega), if_pos (List.mem_append.2 (.inr (by simp [c]))), c]
      · rw [if_neg (by omega)]
        by_cases c' : (x.d : Int) ∈ x.ws.take k
        · rw [if_pos c', if_pos (List.mem_append.2 (.inl c'))]
        · rw [if_neg c', if_neg (fun q => by
            rcases List.mem_append.1 q with q | q
            · exact c' q
            · simp at q; exact c q.symm)]
theorem t_one {fr : Int} {m : Nat} {x : TX} (h : KeepTI m x) : KeepOk (KeepTn fr x) = if x.g = x.d then (KeepTn fr x, 0, 7) else (KeepTn fr ⟨x.g, x.d + 1, x.i, x.ws.filter fun v => decide (v ≠ (x.d : Int))⟩, if (x.d : Int) ∈ x.ws then (x.d : Int) else -1, 0) := by
  have hr := t_right (fr := fr) h
  have hf := t_filt (fr := fr) h x.ws.length (Nat.le_refl _)
  have ho := one_filt hr (t_ws h).2.2.1
  obtain ⟨h1, h2, h3, h4, h5, h6, h7⟩ := h
  unfold KeepOk
  rw [if_neg (by rw [hr]; decide)]
  have e1 : (KeepTn fr x).wt = (fr + x.g) % 4294967296 := rfl
  have e2 : (KeepTn fr x).td = (fr + x.d) % 4294967296 := rfl
  have e3 : (KeepTn fr x).ns = KeepLst fr x.ws := rfl
  rw [e2, e3] at ho
  rw [e1, e2, e3]
  rw [t_half, hf.1, hf.2, wo_all, List.take_length] at ho
  by_cases c : x.g = x.d
  · rw [if_pos (by rw [c]; omega), if_pos c]
  · rw [if_neg (by omega), if_neg c]
    have e4 : ((fr + x.d) % 4294967296 + 1) % 4294967296 = (fr + ((x.d + 1 : Nat) : Int)) % 4294967296 := by omega
    obtain ⟨o1, o2⟩ := ho
    unfold KeepTn
    simp only
    rw [o1, o2, e4]
    split <;> rfl
theorem t_ts (fr : Int) (ws : List Int) : ∀ k, k ≤ ws.length → KeepTs (KeepLst fr ws) k = ws.take k
  | 0, _ => by simp [KeepTs]
  | k + 1, h => by
    have hk : k < ws.length := by omega
    have e : gI ws k = ws[k] := by simp [gI, hk]
    show KeepTs (KeepLst fr ws) k ++ [tsI (KeepLst fr ws) k] = _
    rw [t_ts fr ws k (by omega), (lst_at fr ws k hk).2, e, List.take_append_getElem hk]
theorem t_all {fr : Int} {m : Nat} {x : TX} (h : KeepTI m x) : KeepAk (KeepTn fr x) = (⟨(fr + x.g) % 4294967296, (fr + x.g) % 4294967296, []⟩, x.ws, 0) := by
  have hr := t_right (fr := fr) h
  unfold KeepAk
  rw [if_neg (by rw [hr]; decide)]
  show ((⟨_, _, []⟩ : NF), KeepTs (KeepLst fr x.ws) ((KeepLst fr x.ws).length / 2), (0 : Int)) = _
  rw [t_half, t_ts _ _ _ (Nat.le_refl _), List.take_length]; rfl
/-! What the invariant becomes -/
theorem ti_add {m : Nat} {x : TX} (h : KeepTI m x) (hi : x.i < m) : KeepTI m ⟨x.g + 1, x.d, x.i + 1, x.ws⟩ := by
  obtain ⟨h1, h2, h3, h4, h5, h6, h7⟩ := h
  exact ⟨hi, h2, by show x.d ≤ x.g + 1; omega, by show x.g + 1 ≤ x.i + 1; omega, h5, fun v hv => by have := h6 v hv; show (x.d : Int) ≤ v ∧ v < ((x.g + 1 : Nat) : Int); omega, h7⟩
theorem ti_next {m : Nat} {x : TX} (h : KeepTI m x) (hi : x.i < m) : KeepTI m ⟨x.g, x.d, x.i + 1, x.ws⟩ := by
  obtain ⟨h1, h2, h3, h4, h5, h6, h7⟩ := h
  exact ⟨hi, h2, h3, by show x.g ≤ x.i + 1; omega, h5, h6, h7⟩
theorem ti_park {m : Nat} {x : TX} {k : Int} (h : KeepTI m x) (hi : x.i < m) (hk : (x.d : Int) ≤ k ∧ k < x.g) (hn : k ∉ x.ws) (hl : x.ws.length ≠ 12) : KeepTI m ⟨x.g, x.d, x.i + 1, x.ws ++ [k]⟩ := by
  obtain ⟨h1, h2, h3, h4, h5, h6, h7⟩ := h
  refine ⟨hi, h2, h3, by show x.g ≤ x.i + 1; omega, by show (x.ws ++ [k]).length ≤ 12; simp; omega, fun v hv => ?_, ?_⟩
  · have hv : v ∈ x.ws ++ [k] := hv
    rw [List.mem_append] at hv
    rcases hv with hv | hv
    · exact h6 v hv
    · simp at hv; subst hv; exact hk
  · show (x.ws ++ [k]).Pairwise (· ≠ ·)
    rw [List.pairwise_append]
    exact ⟨h7, List.pairwise_singleton _ _, fun a ha b hb e => by simp at hb; subst hb; subst e; exact hn ha⟩
theorem ti_one {m : Nat} {x : TX} (h : KeepTI m x) (hi : x.i < m) (hg : ¬ x.g = x.d) : KeepTI m ⟨x.g, x.d + 1, x.i + 1, x.ws.filter fun v => decide (v ≠ (x.d : Int))⟩ := by
  obtain ⟨h1, h2, h3, h4, h5, h6, h7⟩ := h
  refine ⟨hi, h2, by show x.d + 1 ≤ x.g; omega, by show x.g ≤ x.i + 1; omega, Nat.le_trans (List.length_filter_le _ _) h5, fun v hv => ?_, List.Pairwise.filter _ h7⟩
  have hv : v ∈ x.ws.filter fun v => decide (v ≠ (x.d : Int)) := hv
  rw [List.mem_filter] at hv
  have := h6 v hv.1
  have := of_decide_eq_true hv.2
  show ((x.d + 1 : Nat) : Int) ≤ v ∧ v < x.g
  omega
end Go.Proofs.Ytgoigcnibjcjpaa
