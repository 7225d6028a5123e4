import Derived.Test.YtgdkafbcchkplaaGreatDoorAbWp
namespace Ab
open Go (IntKind BinOp UnOp)
theorem wrap_i64 {x : Int} (h0 : -9223372036854775808 ≤ x) (h1 : x ≤ 9223372036854775807) : IntKind.i64.wrap x = x := by
  simp only [IntKind.wrap, IntKind.bits, IntKind.signed, Bool.true_and, decide_eq_true_eq, ge_iff_le]
  have e : (2 : Int) ^ 64 = 18446744073709551616 := by decide
  have e2 : (2 : Int) ^ (64 - 1) = 9223372036854775808 := by decide
  rw [e, e2]
  split <;> omega
theorem wrap_u8 {x : Int} (h0 : 0 ≤ x) (h1 : x ≤ 255) : IntKind.u8.wrap x = x := by
  simp only [IntKind.wrap, IntKind.bits, IntKind.signed, Bool.false_and]
  have e : (2 : Int) ^ 8 = 256 := by decide
  rw [e]
  simp
  omega
theorem toNat_cast (n : Nat) : ((n : Int)).toNat = n := Int.toNat_natCast n
end Ab
