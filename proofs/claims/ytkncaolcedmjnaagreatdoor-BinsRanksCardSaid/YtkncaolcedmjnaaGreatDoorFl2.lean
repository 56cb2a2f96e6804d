/- Words for walks over any program of the model: no statement of a law stands here. -/
import Derived.Test.YtkncaolcedmjnaaGreatDoorFl1
open Go
namespace TK
theorem wrap_i64 {n : Int} (h0 : -9223372036854775808 ≤ n) (h1 : n < 9223372036854775808) : IntKind.i64.wrap n = n := by
  simp only [IntKind.wrap, IntKind.bits, IntKind.signed]
  simp
  omega
theorem wrap_u64 {n : Int} (h0 : 0 ≤ n) (h1 : n < 18446744073709551616) : IntKind.u64.wrap n = n := by
  simp only [IntKind.wrap, IntKind.bits, IntKind.signed]
  simp
  omega
theorem shr63 (w : Nat) : shI .shr .u64 (w : Int) 63 = ((w / 2 ^ 63 : Nat) : Int) := by
  show ((w : Int)).fdiv (2 ^ (min (63 : Int).toNat IntKind.u64.bits)) = _
  have : min (63 : Int).toNat IntKind.u64.bits = 63 := by decide
  rw [this]
  rw [Int.fdiv_eq_ediv_of_nonneg _ (by decide)]
  exact_mod_cast rfl
theorem andNot63 {w : Nat} (h : w < 2 ^ 64) : btI .andNot .u64 (w : Int) 9223372036854775808 = (rung w : Int) := by
  show IntKind.u64.wrap ((BitVec.ofInt 64 (w : Int) &&& ~~~ (BitVec.ofInt 64 9223372036854775808)).toNat : Int) = _
  have e1 : BitVec.ofInt 64 (w : Int) = BitVec.ofNat 64 w := by simp
  have e2 : (BitVec.ofInt 64 9223372036854775808) = BitVec.twoPow 64 63 := by decide
  rw [e1, e2]
  have e3 : (BitVec.ofNat 64 w &&& ~~~ (BitVec.twoPow 64 63)) = ((BitVec.ofNat 64 w).setWidth 63).setWidth 64 := by
    ext i hi
    simp [BitVec.getElem_twoPow]
    rcases Nat.lt_or_ge i 63 with h1 | h1
    · simp [h1, show ¬ i = 63 by omega]
      rw [← BitVec.getLsbD_eq_getElem, ← BitVec.getLsbD_eq_getElem, BitVec.getLsbD_ofNat, BitVec.getLsbD_ofNat]
      simp [h1, hi]
    · obtain rfl : i = 63 := by omega
      simp
  rw [e3]
  have e4 : (((BitVec.ofNat 64 w).setWidth 63).setWidth 64).toNat = rung w := by
    simp [rung]
    omega
  rw [e4]
  have : rung w < 2 ^ 63 := Nat.mod_lt _ (by decide)
  exact wrap_u64 (by omega) (by omega)
end TK
