import Derived.Test.YtgdkafbcchkplaaGreatDoorLAvg
import Derived.Test.YtgdkafbcchkplaaGreatDoorLKnown21
import Derived.Test.YtgdkafbcchkplaaGreatDoorAbTS
/- The law of the mean of the moving window, at a claim's arguments. -/
namespace Ab
open Go (IntKind)
theorem res_FwinMovingAverageA {k : SK} (s : Ser) (n : Int) (o : Ser.Ok k s) (_ : -9223372036854775808 ≤ n ∧ n ≤ 9223372036854775807) : res Γ 171 [s.pv k, .int .i64 n] = some [.bool true] := res_FwinMovingAverage s n o.len res_known21
end Ab
