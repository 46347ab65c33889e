/- CondNone: the law's call. No condition. -/
import Derived.Test.YtmmliaobjendoaaDoorPL6
namespace Go.Proofs.YtmmliaobjendoaaDoor
open SY
open Go.RowKit
theorem six_of {a : Int} (h0 : 0 ≤ a) (h1 : a < 256) : ∃ n : Nat, n ≤ 5 ∧ (wrap64 a).tmod 6 = n := by
  have e : wrap64 a = a := by unfold wrap64; omega
  rw [e, Int.tmod_eq_emod_of_nonneg h0]
  exact ⟨(a % 6).toNat, by omega, by omega⟩
theorem cnone_walk (W : World) (x a b : Int) (hx : inK (.int .u32) x) (ha : inK (.int .u8) a) (hb : inK (.int .u8) b) :
    Calls Tryd.prog 3 #[.int .u32 x, .int .u8 a, .int .u8 b] W fun e w' => e = .returned (.bool true) ∧ Below W.heap.size W w' := by
  have hx' := in_u32 hx
  have ha' := in_u8 ha
  have hb' := in_u8 hb
  obtain ⟨n, hn, en⟩ := six_of ha'.1 (by omega)
  obtain ⟨k, hk, ek⟩ := six_of hb'.1 (by omega)
  exact none_walk W x a b n k (by unfold KeepU; omega) hn hk en ek
end Go.Proofs.YtmmliaobjendoaaDoor
