/- The three laws of the moving window, at a claim's arguments. -/
import Derived.Test.YtgdkafbcchkplaaGreatDoorLFwin1
import Derived.Test.YtgdkafbcchkplaaGreatDoorLKnown21
import Derived.Test.YtgdkafbcchkplaaGreatDoorAbTS
namespace Ab
open Go (IntKind)
theorem res_FwinMovingMaxA {k : SK} (s : Ser) (n : Int) (o : Ser.Ok k s) (_ : -9223372036854775808 ≤ n ∧ n ≤ 9223372036854775807) : res Γ 108 [s.pv k, .int .i64 n] = some [.bool true] := res_FwinMovingMax s n o.len res_known21
theorem res_FwinMovingMinA {k : SK} (s : Ser) (n : Int) (o : Ser.Ok k s) (_ : -9223372036854775808 ≤ n ∧ n ≤ 9223372036854775807) : res Γ 109 [s.pv k, .int .i64 n] = some [.bool true] := res_FwinMovingMin s n o.len res_known21
theorem res_FwinMovingSumA {k : SK} (s : Ser) (n : Int) (o : Ser.Ok k s) (_ : -9223372036854775808 ≤ n ∧ n ≤ 9223372036854775807) : res Γ 110 [s.pv k, .int .i64 n] = some [.bool true] := res_FwinMovingSum s n o.len res_known21
end Ab
