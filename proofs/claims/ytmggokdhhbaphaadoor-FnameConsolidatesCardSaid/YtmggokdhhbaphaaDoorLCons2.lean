/- FnameConsolidates at a series that is an argument. -/
import Derived.Test.YtmggokdhhbaphaaDoorLCons
import Derived.Test.YtmggokdhhbaphaaDoorAbTS
namespace Ab
theorem res_FnameConsolidatesA {k : SK} (kind : Int) (s : Ser) (_ : -9223372036854775808 ≤ kind ∧ kind ≤ 9223372036854775807) (o : Ser.Ok k s) : res Γ 91 [.int .i64 kind, s.pv k] = some [.bool true] := by
  have hl : s.vals.length ≤ 9223372036854775807 := o.len
  rcases o.kind with ⟨rfl, h⟩ | rfl
  · exact res_FnameConsolidates (k' := .nil) kind s hl fun _ => res_seriesOwn_nil s h
  · exact res_FnameConsolidates (k' := .any) kind s hl fun h => res_seriesOwn_mem s h
end Ab
