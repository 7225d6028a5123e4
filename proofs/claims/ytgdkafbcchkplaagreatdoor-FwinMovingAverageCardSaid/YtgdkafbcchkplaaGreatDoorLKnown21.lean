import Derived.Test.YtgdkafbcchkplaaGreatDoorCode
import Derived.Test.YtgdkafbcchkplaaGreatDoorAbWalk
import Derived.KernelRfl
/- A mean of two: the kernel runs it. -/
namespace Ab
theorem known_ev : ∃ n r, callOf Γ (ev Γ n) 100 ((List.map .p ([] : List PV))) [] = some r ∧ mapO (reify r.2 4) r.1 = some [.bool true] := ⟨150, ([.p (.bool true)], (callOf Γ (ev Γ 150) 100 [] []).elim [] (·.2)), by kernel_rfl, by kernel_rfl⟩
theorem res_known21 : res Γ 100 [] = some [.bool true] := res_of known_ev
end Ab
