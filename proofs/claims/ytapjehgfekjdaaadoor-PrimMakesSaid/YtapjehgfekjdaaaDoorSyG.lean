/- The symbolic executor's memory: what is put behind a slice. No condition. -/
import Derived.Test.YtapjehgfekjdaaaDoorSyF
namespace Go.Proofs.YtapjehgfekjdaaaDoor
open Go.RowKit
namespace SY
section
variable {P : Program} {p : Nat → Nat → Prop} {w0 w w' : World} {g : G} {bl : Tr (Option Blk)}

/-- The mark of a slice behind which something is put goes on. -/
theorem Mem.tokUpd {k : Nat} {e : TypeId} {i i' : Nat} (h : Mem p w0 g bl w) (hk : lkB bl k = some (.tok e i)) (hi : i < i') (q' : Option (Nat × Nat)) (hbase : Below w0.heap.size w0 w') (hsz : w.heap.size ≤ w'.heap.size)
    (hkeep : ∀ b, b < w.heap.size → (∀ f, g.tk k ≠ some (b, f)) → w'.heap[b]? = w.heap[b]?)
    (hcells : ∀ b f, g.tk k = some (b, f) → ∀ j, j < f → w'.cell? ⟨b, j, none⟩ = w.cell? ⟨b, j, none⟩)
    (hsame : ∀ b f cur e0, g.tk k = some (b, f) → w.heap[b]? = some (.cells cur e0 (0, 0)) → ∃ cur' : Array Value, w'.heap[b]? = some (.cells cur' e0 (0, 0)) ∧ cur'.size = cur.size)
    (hq : ∀ b f, q' = some (b, f) → w0.heap.size ≤ b ∧ b < w'.heap.size ∧ (b < w.heap.size → ∃ f0, g.tk k = some (b, f0) ∧ f0 ≤ f)) :
    ∃ g', Ext g w g' w' ∧ g'.tb k = some (e, i') ∧ g'.tk k = q' ∧ (∀ b f, Lim g' b f → q' = some (b, f) ∨ b < w.heap.size) ∧ (∀ b f, Lim g' b f → b < w.heap.size → (∃ f0, Lim g b f0 ∧ f0 ≤ f)) ∧
      (∀ b f, Lim g' b f → q' = some (b, f) ∨ (Lim g b f ∧ ∀ f', g.tk k ≠ some (b, f')) ∨ g.pl b f ∨ ∃ j, g.ad j = some b) ∧ Mem p w0 g' (bl.set none (some (.tok e i')) (pth k)) w' := by
  have htb : ∀ e0 i0, g.tb k = some (e0, i0) → e0 = e ∧ i0 = i := by
    intro e0 i0 hb
    have := h.tdom k e0 i0 hb
    rw [hk] at this
    cases this
    exact ⟨rfl, rfl⟩
  have hlim : ∀ b f, b < w.heap.size → Lim { g with tk := fun j => if j = k then q' else g.tk j, tb := fun j => if j = k then some (e, i') else g.tb j } b f → ∃ f', Lim g b f' ∧ f' ≤ f := by
    rintro b f hb (⟨rfl, j, hj⟩ | ⟨j, hj⟩ | hp)
    · exact ⟨0, .inl ⟨rfl, j, hj⟩, Nat.le_refl _⟩
    · simp only at hj
      split at hj
      · obtain ⟨_, _, h3⟩ := hq b f hj
        obtain ⟨f0, h4, h5⟩ := h3 hb
        exact ⟨f0, .inr (.inl ⟨k, h4⟩), h5⟩
      · exact ⟨f, .inr (.inl ⟨j, hj⟩), Nat.le_refl _⟩
    · exact ⟨f, .inr (.inr hp), Nat.le_refl _⟩
  have hx : Ext g w { g with tk := fun j => if j = k then q' else g.tk j, tb := fun j => if j = k then some (e, i') else g.tb j } w' := by
    refine ext_core hsz (fun _ _ h => h) hlim ?_ ?_ ?_
    · intro A n hf j hj
      by_cases ht : ∃ f, g.tk k = some (A.block, f)
      · obtain ⟨f, hf'⟩ := ht
        have := hf.lim f (.inr (.inl ⟨k, hf'⟩))
        rw [add_none hf.spot]
        exact hcells _ f hf' _ (by omega)
      · exact World.cell?_of_block (by rw [add_block]; exact hkeep _ hf.lt fun f hf' => ht ⟨f, hf'⟩)
    · intro j e0 i0 hj
      by_cases hjk : j = k
      · subst hjk
        obtain ⟨rfl, rfl⟩ := htb e0 i0 hj
        exact ⟨i', by simp, Nat.le_of_lt hi, fun h => by omega⟩
      · exact ⟨i0, by simp [hjk, hj], Nat.le_refl _, fun _ => by simp [hjk]⟩
    · intro j b f e0 cur _ hj hc
      by_cases hjk : j = k
      · subst hjk; exact hsame b f cur e0 hj hc
      · exact ⟨cur, by rw [hkeep b (lt_of_heap hc) fun f' hf' => hjk (h.tinj j k b f f' hj hf')]; exact hc, rfl⟩
  have hkeepA : ∀ j b, g.ad j = some b → w'.heap[b]? = w.heap[b]? := fun j b hj => hkeep b (h.ad_lt hj).2 fun f hf => h.sep j k b f hj hf
  refine ⟨_, hx, by simp, by simp, ?_, fun b f hl hb => hlim b f hb hl, ?_, hbase, h.pl, h.plo, ?_, ?_, ?_, ?_, h.inj, ?_, ?_, ?_⟩
  · rintro b f (⟨rfl, j, hj⟩ | ⟨j, hj⟩ | hp)
    · exact .inr (h.ad_lt hj).2
    · simp only at hj
      split at hj
      · exact .inl hj
      · exact .inr (h.told j b f hj).2
    · exact .inr (h.lim_lt (f := f) (.inr (.inr hp)))
  · rintro b f (⟨rfl, j, hj⟩ | ⟨j, hj⟩ | hp)
    · exact .inr (.inr (.inr ⟨j, hj⟩))
    · simp only at hj
      split at hj
      · exact .inl hj
      · rename_i hjk
        exact .inr (.inl ⟨.inr (.inl ⟨j, hj⟩), fun f' hf' => hjk (h.tinj j k b f f' hj hf')⟩)
    · exact .inr (.inr (.inl hp))
  · intro j B hB
    rw [lkB_set] at hB
    split at hB
    · rename_i hjk; subst hjk
      simp only [Option.some.injEq] at hB
      subst hB
      simp [BlkOK]
    · rename_i hjk
      have := h.blk j B hB
      cases B with
      | cells l t => obtain ⟨b, cs, h1, h2, h3, h4⟩ := this; exact ⟨b, cs, h1, h2, by rw [hkeepA j b h1]; exact h3, h4.mono hx.c⟩
      | flat ks xs t => obtain ⟨b, h1, h2, h3, h4⟩ := this; exact ⟨b, h1, h2, by rw [hkeepA j b h1]; exact h3, h4⟩
      | tok e i => simpa [BlkOK, hjk] using this
  · intro j b hj
    have hjk : j ≠ k := by
      rintro rfl
      obtain ⟨B, h1, h2⟩ := h.dom j b hj
      rw [hk] at h1; cases h1
      exact h2 _ _ rfl
    rw [lkB_set, if_neg hjk]; exact h.dom j b hj
  · intro j e0 i0 hj
    simp only at hj
    rw [lkB_set]
    split at hj
    · rename_i hjk; rw [if_pos hjk]; cases hj; rfl
    · rename_i hjk; rw [if_neg hjk]; exact h.tdom j e0 i0 hj
  · intro j q hj
    simp only at hj
    rw [lkB_set]
    split at hj
    · rename_i hjk; rw [if_pos hjk]; exact ⟨_, _, rfl⟩
    · rename_i hjk; rw [if_neg hjk]; exact h.kdom j q hj
  · intro j j' b f f' hj hj'
    simp only at hj hj'
    split at hj <;> split at hj'
    · simp_all
    · rename_i h1 h2
      subst h1
      obtain ⟨_, _, h3⟩ := hq b f hj
      obtain ⟨f0, h4, _⟩ := h3 (h.told j' b f' hj').2
      exact h.tinj _ _ b _ _ h4 hj'
    · rename_i h1 h2
      subst h2
      obtain ⟨_, _, h3⟩ := hq b f' hj'
      obtain ⟨f0, h4, _⟩ := h3 (h.told j b f hj).2
      exact h.tinj _ _ b _ _ hj h4
    · exact h.tinj j j' b f f' hj hj'
  · intro j j' b f hj hj'
    simp only at hj'
    split at hj'
    · obtain ⟨_, _, h3⟩ := hq b f hj'
      obtain ⟨f0, h4, _⟩ := h3 (h.ad_lt hj).2
      exact h.sep j k b f0 hj h4
    · exact h.sep j j' b f hj hj'
  · intro j b f hj
    simp only at hj
    split at hj
    · exact ⟨(hq b f hj).1, (hq b f hj).2.1⟩
    · exact ⟨(h.told j b f hj).1, Nat.lt_of_lt_of_le (h.told j b f hj).2 hsz⟩

theorem run_append_zero (w : World) (t ty e : TypeId) (i : TypeInfo) (ht : P.underlying t = some (.slice e)) (hi : P.info? e = some i) (a : Option Addr) (n c : Nat) (ay : Option Addr) (cy : Nat) (hn : n ≤ c) :
    (Builtin.append_ #[t, t] ty #[.slice a n c, .slice ay 0 cy]).run P w = .ok (.slice a n c) w := by
  cases ay <;> cases a <;> simp [Builtin.append_, run_underlying ht, sizeOf, typeInfo, hi, Builtin.lenOf, hn, Builtin.firstCells, loadCells, loadCellsFrom, storeCells]

/-- What the compiler asks of an element's type. -/
structure ElOK (P : Program) (ks : List CK) (e : TypeId) (i : TypeInfo) (z : Value) : Prop where
  info : P.info? e = some i
  zero : i.zero = some z
  size : i.size = ks.length
  zsize : z.cells.size = i.size
  bytes : i.bytes ≤ 128

theorem len_mul {ks : List CK} {xs : List Int} {n : Nat} (h : xs.length = n * ks.length) : xs.length % ks.length = 0 := by rw [h]; simp

theorem SlI.rd_some {ks : List CK} {xs : List Int} {tok} {A : Addr} {n c : Nat} (h : SlI g w ks xs tok (some A) n c) : ∀ j u, (encV ks xs)[j]? = some u → w.cell? (A.add j) = some u := (h.at_ A rfl).2

/-- A new block behind which stands room. -/
theorem grown_ok {k : Nat} {e : TypeId} {i i' : Nat} {ks : List CK} {xs ys : List Int} {n m old : Nat} {ti : TypeInfo} {z : Value} (h : Mem p w0 g bl w) (hk : lkB bl k = some (.tok e i)) (hi : i < i') (hel : ElOK P ks e ti z)
    (hp : 0 < ks.length) (hx : xs.length = n * ks.length) (hy : ys.length = m * ks.length) (hsm : n + m ≤ maxLen) :
    ∃ g', Ext g w g' (w.drew.alloc (.cells ((encV ks xs).toArray ++ (encV ks ys).toArray ++ Builtin.zeroCells z.cells (grownCap w (n + m) old e - (n + m))) e)) ∧
      SlD g' (w.drew.alloc (.cells ((encV ks xs).toArray ++ (encV ks ys).toArray ++ Builtin.zeroCells z.cells (grownCap w (n + m) old e - (n + m))) e)) ks (xs ++ ys) (some (k, i')) (.slice (some ⟨w.heap.size, 0, none⟩) (n + m) (grownCap w (n + m) old e)) ∧
      Mem p w0 g' (bl.set none (some (.tok e i')) (pth k)) (w.drew.alloc (.cells ((encV ks xs).toArray ++ (encV ks ys).toArray ++ Builtin.zeroCells z.cells (grownCap w (n + m) old e - (n + m))) e)) := by
  have hge := grownCap_ge w (n + m) old e
  have hcm := grownCap_le_maxLen w (n + m) old e hsm
  generalize hcur : (encV ks xs).toArray ++ (encV ks ys).toArray ++ Builtin.zeroCells z.cells (grownCap w (n + m) old e - (n + m)) = cur
  have hold : ∀ b, b < w.heap.size → (w.drew.alloc (.cells cur e)).heap[b]? = w.heap[b]? := fun b hb => Below.heap_alloc w.drew _ b hb
  have hnew : (w.drew.alloc (.cells cur e)).heap[w.heap.size]? = some (.cells cur e (0, 0)) := heap_alloc_new w.drew _
  have hsz : (w.drew.alloc (.cells cur e)).heap.size = w.heap.size + 1 := by show (w.heap.push _).size = _; simp
  have hlen : (xs ++ ys).length = (n + m) * ks.length := by rw [List.length_append, hx, hy, Nat.add_mul]
  have hcsz : grownCap w (n + m) old e * ks.length = cur.size := by
    rw [← hcur]
    simp only [Array.size_append, List.size_toArray, size_zeroCells, encV_len, hel.zsize, hel.size, hx, hy, ← Nat.add_mul]
    congr 1; omega
  have hcl : cur.toList.take (xs ++ ys).length = encV ks (xs ++ ys) := by
    rw [← hcur, encV_app (len_mul hx), ← encV_len ks, encV_app (len_mul hx)]
    simp only [Array.toList_append]
    exact List.take_left
  obtain ⟨g', h1, h2, h3, h4, _, _, h5⟩ := h.tokUpd (w' := w.drew.alloc (.cells cur e)) hk hi (some (w.heap.size, (xs ++ ys).length)) (h.base.drew.alloc (by have := h.base.size; exact this) _) (by omega)
    (fun b hb _ => hold b hb) (fun b f hb j _ => World.cell?_of_block (hold b (h.told k b f hb).2)) (fun b f cur' e0 hb hc => ⟨cur', by rw [hold b (lt_of_heap hc)]; exact hc, rfl⟩)
    (fun b f hb => by simp only [Option.some.injEq, Prod.mk.injEq] at hb; obtain ⟨rfl, rfl⟩ := hb; exact ⟨h.base.size, by omega, fun h => by omega⟩)
  refine ⟨g', h1, ⟨_, _, _, rfl, hge, hcm, hp, hlen, (fun h => by cases h), ?_, ?_⟩, h5⟩
  · intro A hA
    simp only [Option.some.injEq] at hA
    subst hA
    refine ⟨fun _ => ⟨rfl, by simp only; omega, fun f hf => ?_⟩, fun j u hu => ?_⟩
    · rcases h4 _ f hf with hq | hq
      · simp only [Option.some.injEq, Prod.mk.injEq] at hq; simp only; omega
      · simp only at hq; omega
    · rw [add_own, cell_of_row _ _ _ _ _ _ hnew, Nat.zero_add]
      rw [← hcl, List.getElem?_take] at hu
      split at hu
      · simpa using hu
      · cases hu
  · refine ⟨e, i', h2, Nat.le_refl _, fun _ => .inr ⟨_, cur, rfl, ⟨rfl, rfl⟩, h3, hnew, hcsz⟩⟩

theorem Mem.append {t ty e : TypeId} {k i i' : Nat} {ks : List CK} {xs ys : List Int} {a ay : Option Addr} {n c m cy : Nat} {toky : Option (Nat × Nat)} {ti : TypeInfo} {z : Value} (ht : P.underlying t = some (.slice e)) (hel : ElOK P ks e ti z)
    (h : Mem p w0 g bl w) (hk : lkB bl k = some (.tok e i)) (hi : i < i') (hx : SlI g w ks xs (some (k, i)) a n c) (hy : SlI g w ks ys toky ay m cy) (hbig : xs.length + ys.length ≤ big) :
    ∃ v' w' g', (Builtin.append_ #[t, t] ty #[.slice a n c, .slice ay m cy]).run P w = .ok v' w' ∧ Ext g w g' w' ∧ SlD g' w' ks (xs ++ ys) (some (k, i')) v' ∧ Mem p w0 g' (bl.set none (some (.tok e i')) (pth k)) w' := by
  have hp := hx.pos
  have hnm : n + m ≤ xs.length + ys.length := by
    rw [hx.len, hy.len, ← Nat.add_mul]
    exact Nat.le_mul_of_pos_right _ hp
  have hsm : n + m ≤ maxLen := by unfold maxLen; unfold big at hbig; omega
  have hbytes : (n + m) * ti.bytes ≤ 140737488355328 := by
    have h1 := Nat.mul_le_mul (Nat.le_trans hnm hbig) hel.bytes
    unfold big at h1
    omega
  have hlen : (xs ++ ys).length = (n + m) * ks.length := by rw [List.length_append, hx.len, hy.len, Nat.add_mul]
  obtain ⟨e0, i0, t1, t2, t3⟩ := hx.tok
  have ht0 := h.tdom k e0 i0 t1
  rw [hk] at ht0
  cases ht0
  have htip := t3 rfl
  have hxl : (encV ks xs).length = n * ti.size := by rw [encV_len, hx.len, hel.size]
  have hyl : (encV ks ys).length = m * ti.size := by rw [encV_len, hy.len, hel.size]
  by_cases hm : m = 0
  · -- nothing is put behind it
    subst hm
    have hys : ys = [] := by have := hy.len; rw [Nat.zero_mul] at this; exact List.eq_nil_of_length_eq_zero this
    subst hys
    obtain ⟨g', h1, h2, h3, h4, _, h6, h5⟩ := h.tokUpd (w' := w) hk hi (g.tk k) h.base (Nat.le_refl _) (fun _ _ _ => rfl) (fun _ _ _ _ _ => rfl) (fun _ _ cur _ _ hc => ⟨cur, hc, rfl⟩)
      (fun b f hb => ⟨(h.told k b f hb).1, (h.told k b f hb).2, fun _ => ⟨f, hb, Nat.le_refl _⟩⟩)
    refine ⟨_, w, g', run_append_zero w t ty e ti ht hel.info a n c ay cy hx.cap, h1, ?_, h5⟩
    have hS : SlD g w ks xs none (.slice a n c) := ⟨a, n, c, rfl, hx.cap, hx.most, hx.pos, hx.len, hx.nil, hx.at_, trivial⟩
    obtain ⟨a', n', c', hv, hI⟩ := h1.c (.sl ks xs none) _ hS
    cases hv
    rw [List.append_nil]
    refine ⟨a, n, c, rfl, hI.cap, hI.most, hI.pos, hI.len, hI.nil, hI.at_, e, i', h2, Nat.le_refl _, fun _ => ?_⟩
    rcases htip with ⟨q1, q2⟩ | ⟨A, cur, q1, q2, q3, q4, q5⟩
    · exact .inl ⟨by rw [h3]; exact q1, q2⟩
    · exact .inr ⟨A, cur, q1, q2, by rw [h3]; exact q3, q4, q5⟩
  · obtain ⟨B, rfl⟩ : ∃ B, ay = some B := by
      cases ay with
      | none => exact absurd (hy.nil rfl).1 hm
      | some B => exact ⟨B, rfl⟩
    have hnews := hy.rd_some
    cases a with
    | none =>
      obtain ⟨rfl, rfl⟩ := hx.nil rfl
      have hxs : xs = [] := by have := hx.len; rw [Nat.zero_mul] at this; exact List.eq_nil_of_length_eq_zero this
      subst hxs
      have hr := run_append_nil (P := P) w t ty e ti z ht hel.info hel.zero B m cy _ hyl hnews (by omega) (by unfold maxLen at hsm; omega) (by rw [Nat.zero_add] at hbytes; omega)
      obtain ⟨g', h1, h2, h3⟩ := grown_ok (P := P) (xs := []) (ys := ys) (n := 0) (m := m) (old := 0) (ti := ti) (z := z) h hk hi hel hp (by simp) hy.len (by simpa using hsm)
      simp only [Nat.zero_add, show (encV ks ([] : List Int)) = [] from rfl, Array.empty_append, List.nil_append] at h1 h2 h3
      exact ⟨_, _, g', hr, h1, h2, h3⟩
    | some A =>
      have holds := hx.rd_some
      have grow : c < n + m → ∃ v' w' g', (Builtin.append_ #[t, t] ty #[.slice (some A) n c, .slice (some B) m cy]).run P w = .ok v' w' ∧ Ext g w g' w' ∧ SlD g' w' ks (xs ++ ys) (some (k, i')) v' ∧ Mem p w0 g' (bl.set none (some (.tok e i')) (pth k)) w' := by
        intro hc
        have hr := run_append_grow (P := P) w t ty e ti z ht hel.info hel.zero A n c _ hxl holds B m cy _ hyl hnews hc (by unfold maxLen at hsm; omega) (growslice_fits hc hbytes)
        obtain ⟨g', h1, h2, h3⟩ := grown_ok (P := P) (xs := xs) (ys := ys) (n := n) (m := m) (old := c) (ti := ti) (z := z) h hk hi hel hp hx.len hy.len hsm
        exact ⟨_, _, g', hr, h1, h2, h3⟩
      rcases htip with ⟨q1, q2⟩ | ⟨A', cur, q1, q2, q3, q4, q5⟩
      · exact grow (by omega)
      · cases q1
        rcases Nat.lt_or_ge c (n + m) with hc | hc
        · exact grow hc
        · -- there is room
          obtain ⟨b, off, sp⟩ := A
          obtain ⟨q2, hspot⟩ := q2
          simp only at q2 hspot
          subst q2
          subst hspot
          simp only at q3 q4
          have hfit : n * ti.size + (encV ks ys).length ≤ cur.size := by rw [hyl, ← Nat.add_mul, hel.size, ← q5]; exact Nat.mul_le_mul_right _ hc
          have hr := run_append_room (P := P) w t ty e ti ht hel.info b n c cur q4 B m cy _ hyl hnews (encV_one ks ys) hc hfit
          have hcsz : (cur.toList.take (n * ti.size) ++ encV ks ys ++ cur.toList.drop (n * ti.size + (encV ks ys).length)).toArray.size = cur.size := by
            simp only [List.size_toArray, List.length_append, List.length_take, List.length_drop, Array.length_toList]; omega
          have hheap := setRow_heap w b cur (cur.toList.take (n * ti.size) ++ encV ks ys ++ cur.toList.drop (n * ti.size + (encV ks ys).length)).toArray e (0, 0) q4
          have hother : ∀ q, q ≠ b → (w.setRow b (cur.toList.take (n * ti.size) ++ encV ks ys ++ cur.toList.drop (n * ti.size + (encV ks ys).length)).toArray).heap[q]? = w.heap[q]? := fun q hq => setRow_other w b q _ hq
          have hwsz : (w.setRow b (cur.toList.take (n * ti.size) ++ encV ks ys ++ cur.toList.drop (n * ti.size + (encV ks ys).length)).toArray).heap.size = w.heap.size := by simp [World.setRow]
          have hcurx : cur.toList.take (n * ti.size) = encV ks xs := by
            apply List.ext_getElem?
            intro j
            rw [List.getElem?_take]
            split
            · rename_i hj
              have hj' : j < (encV ks xs).length := by omega
              have e1 := holds j _ (List.getElem?_eq_getElem hj')
              rw [add_own, cell_of_row _ _ _ _ _ _ q4, Nat.zero_add] at e1
              rw [List.getElem?_eq_getElem hj', Array.getElem?_toList]
              exact e1
            · rename_i hj
              rw [List.getElem?_eq_none (by omega)]
          generalize hw' : w.setRow b (cur.toList.take (n * ti.size) ++ encV ks ys ++ cur.toList.drop (n * ti.size + (encV ks ys).length)).toArray = w' at *
          have htold := h.told k b _ q3
          obtain ⟨g', h1, h2, h3, h4, _, h6, h5⟩ := h.tokUpd (w' := w') hk hi (some (b, (xs ++ ys).length)) (by rw [← hw']; exact h.base.trans ⟨rfl, rfl, rfl, by rw [hw']; omega, fun q hq => by rw [hw']; exact hother q (by omega)⟩) (by omega)
            (fun q hq hne => hother q (by rintro rfl; exact hne _ q3)) (fun q f hq j hj => by
              rw [q3] at hq
              cases hq
              rw [cell_of_row _ _ _ _ _ _ hheap, cell_of_row _ _ _ _ _ _ q4]
              have hj' : j < (encV ks xs).length := by rw [encV_len]; exact hj
              have e2 : cur.toList[j]? = (encV ks xs)[j]? := by rw [← hcurx, List.getElem?_take, if_pos (by omega)]
              simp only [List.getElem?_toArray]
              rw [List.append_assoc, List.getElem?_append_left (by rw [hcurx]; exact hj'), hcurx, ← e2, Array.getElem?_toList])
            (fun q f cur' e0 hq hc => by
              rw [q3] at hq
              cases hq
              rw [q4] at hc
              cases hc
              exact ⟨_, hheap, hcsz⟩)
            (fun q f hq => by
              simp only [Option.some.injEq, Prod.mk.injEq] at hq
              obtain ⟨rfl, rfl⟩ := hq
              exact ⟨htold.1, by omega, fun _ => ⟨_, q3, by simp⟩⟩)
          refine ⟨_, w', g', hr, h1, ⟨_, _, _, rfl, hc, hx.most, hp, hlen, (fun h => by cases h), ?_, e, i', h2, Nat.le_refl _, fun _ => .inr ⟨_, _, rfl, ⟨rfl, rfl⟩, h3, hheap, by rw [q5]; exact hcsz.symm⟩⟩, h5⟩
          intro A hA
          simp only [Option.some.injEq] at hA
          subst hA
          refine ⟨fun _ => ⟨rfl, by simp only; omega, fun f hf => ?_⟩, fun j u hu => ?_⟩
          · simp only at hf ⊢
            rcases h6 b f hf with hq | ⟨hq, hne⟩ | hq | ⟨j, hq⟩
            · simp only [Option.some.injEq, Prod.mk.injEq] at hq; omega
            · exact absurd q3 (hne _)
            · rw [h.pl] at hq; have := h.plo b f hq; omega
            · exact (h.sep j k b _ hq q3).elim
          · rw [add_own, cell_of_row _ _ _ _ _ _ hheap, Nat.zero_add]
            rw [encV_app (len_mul hx.len)] at hu
            simp only [List.getElem?_toArray]
            rw [hcurx]
            rw [List.getElem?_append_left]
            · exact hu
            · rcases Nat.lt_or_ge j (encV ks xs ++ encV ks ys).length with h1 | h1
              · exact h1
              · rw [List.getElem?_eq_none h1] at hu; cases hu
end
end SY
end Go.Proofs.YtapjehgfekjdaaaDoor
