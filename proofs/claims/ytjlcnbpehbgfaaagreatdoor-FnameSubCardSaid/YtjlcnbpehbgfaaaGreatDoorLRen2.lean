import Derived.Test.YtjlcnbpehbgfaaaGreatDoorLRen
namespace Ab
open Go (IntKind BinOp UnOp)
theorem heavyR_no {s : Ser} (h : heavyR s = false) : s.vals.length ≤ 120 ∧ s.name.length ≤ 300 := by
 simp [heavyR] at h
 omega
end Ab
