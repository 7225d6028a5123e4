import Derived.Test.YtlgclfmmnifgoaaGreatDoorLSt9
namespace Ab
open Go (IntKind BinOp UnOp)
theorem eA {f : Nat} {args : List AV} {H : Heap} {r : List AV × Heap} (n : Nat) (h : callOf Γ (ev Γ n) f args H = some r) : resW Γ f args H = some r := jz ⟨n,h⟩
abbrev sn : List PV := [.agg [.int .i64 4,.int .i64 0,.int .i64 0,.str []],.agg [.int .i64 1,.int .i64 0,.int .i64 0,.str [0,9,11,255]],.agg [.int .i64 4,.int .i64 1,.int .i64 0,.str []],.agg [.int .i64 7,.int .i64 0,.int .i64 0,.str []]]
abbrev bh : PV := .sl .any 4 sn
theorem adds1 (b : UInt8) (r : List UInt8) : resW Γ 351 [.bx 2 0,.bx 4 0,.p (.agg [.sl .any 1 [.int .i64 (-1),.int .i64 (-1)],.int .i64 0]),.p (.int .i64 0)] [.box [.p (.int .i64 0),.p bh],.box [.p (.int .i64 0),.p bh],.box [.p (.int .i64 0),.p bh,.p (.str (b :: r))],.box [.nov,.nov],.box [.p (.sl .nil 2 []),.mp 3]] = some ([],[.box [.p (.int .i64 0),.p bh],.box [.p (.int .i64 0),.p bh],.box [.p (.int .i64 0),.p bh,.p (.str (b :: r))],.box [.nov,.nov,.p (.int .i64 0),.p (.bool true),.p (.int .i64 1),.p (.bool true)],.box [.own 15 1,.mp 3],.box [.p (.sl .any 1 [.int .i64 (-1),.int .i64 (-1)]),.p (.int .i64 0)],.dead,.box [.p (.sl .any 1 [.int .i64 (-1),.int .i64 (-1)]),.p (.int .i64 0)],.dead,.box [.p (.int .i64 4),.p (.int .i64 0),.p (.int .i64 0),.p (.str [])],.row false 2 [.agg [.sl .any 1 [.int .i64 0,.int .i64 (-1)],.int .i64 1]],.box [.p (.sl .any 1 [.int .i64 0,.int .i64 (-1)]),.p (.int .i64 1)],.row false 2 [],.box [.p (.int .i64 1),.p (.int .i64 0),.p (.int .i64 0),.p (.str [0,9,11,255])],.row false 2 [.agg [.sl .any 1 [.int .i64 0,.int .i64 (-1)],.int .i64 1]],.row false 2 [.agg [.sl .any 1 [.int .i64 0,.int .i64 (-1)],.int .i64 1]]]) := eA 200 (by kernel_rfl)
theorem adds2 (b : UInt8) (r : List UInt8) : resW Γ 351 [.bx 2 0,.bx 17 0,.p (.agg [.sl .any 1 [.int .i64 0,.int .i64 (-1)],.int .i64 2]),.p (.int .i64 1)] [.box [.p (.int .i64 0),.p bh],.box [.p (.int .i64 0),.p bh],.box [.p (.int .i64 0),.p bh,.p (.str (b :: r))],.box [.nov,.nov,.p (.int .i64 0),.p (.bool true),.p (.int .i64 1),.p (.bool true)],.box [.own 15 1,.mp 3],.box [.p (.sl .any 1 [.int .i64 (-1),.int .i64 (-1)]),.p (.int .i64 0)],.dead,.box [.p (.sl .any 1 [.int .i64 (-1),.int .i64 (-1)]),.p (.int .i64 0)],.dead,.box [.p (.int .i64 4),.p (.int .i64 0),.p (.int .i64 0),.p (.str [])],.row false 2 [.agg [.sl .any 1 [.int .i64 0,.int .i64 (-1)],.int .i64 1]],.box [.p (.sl .any 1 [.int .i64 0,.int .i64 (-1)]),.p (.int .i64 1)],.row false 2 [],.box [.p (.int .i64 1),.p (.int .i64 0),.p (.int .i64 0),.p (.str [0,9,11,255])],.row false 2 [.agg [.sl .any 1 [.int .i64 0,.int .i64 (-1)],.int .i64 1]],.row false 2 [.agg [.sl .any 1 [.int .i64 0,.int .i64 (-1)],.int .i64 1]],.box [.nov,.nov],.box [.p (.sl .nil 2 []),.mp 16],.box [.p (.sl .any 1 [.int .i64 0,.int .i64 (-1)]),.p (.int .i64 1)],.box [.p (.int .i64 1),.p (.int .i64 0),.p (.int .i64 0),.p (.str [0,9,11,255])]] = some ([],[.box [.p (.int .i64 0),.p bh],.box [.p (.int .i64 0),.p bh],.box [.p (.int .i64 0),.p bh,.p (.str (b :: r))],.box [.nov,.nov,.p (.int .i64 0),.p (.bool true),.p (.int .i64 1),.p (.bool true)],.box [.own 15 1,.mp 3],.box [.p (.sl .any 1 [.int .i64 (-1),.int .i64 (-1)]),.p (.int .i64 0)],.dead,.box [.p (.sl .any 1 [.int .i64 (-1),.int .i64 (-1)]),.p (.int .i64 0)],.dead,.box [.p (.int .i64 4),.p (.int .i64 0),.p (.int .i64 0),.p (.str [])],.row false 2 [.agg [.sl .any 1 [.int .i64 0,.int .i64 (-1)],.int .i64 1]],.box [.p (.sl .any 1 [.int .i64 0,.int .i64 (-1)]),.p (.int .i64 1)],.row false 2 [],.box [.p (.int .i64 1),.p (.int .i64 0),.p (.int .i64 0),.p (.str [0,9,11,255])],.row false 2 [.agg [.sl .any 1 [.int .i64 0,.int .i64 (-1)],.int .i64 1]],.row false 2 [.agg [.sl .any 1 [.int .i64 0,.int .i64 (-1)],.int .i64 1]],.box [.nov,.nov,.p (.int .i64 2),.p (.bool true),.p (.int .i64 3),.p (.bool true)],.box [.own 30 1,.mp 16],.box [.p (.sl .any 1 [.int .i64 0,.int .i64 (-1)]),.p (.int .i64 1)],.box [.p (.int .i64 1),.p (.int .i64 0),.p (.int .i64 0),.p (.str [0,9,11,255])],.box [.p (.sl .any 1 [.int .i64 0,.int .i64 (-1)]),.p (.int .i64 2)],.dead,.box [.p (.sl .any 1 [.int .i64 0,.int .i64 (-1)]),.p (.int .i64 2)],.dead,.box [.p (.int .i64 4),.p (.int .i64 1),.p (.int .i64 0),.p (.str [])],.row false 2 [.agg [.sl .any 1 [.int .i64 0,.int .i64 1],.int .i64 3]],.box [.p (.sl .any 1 [.int .i64 0,.int .i64 1]),.p (.int .i64 3)],.row false 2 [],.box [.p (.int .i64 7),.p (.int .i64 0),.p (.int .i64 0),.p (.str [])],.row false 2 [.agg [.sl .any 1 [.int .i64 0,.int .i64 1],.int .i64 3]],.row false 2 [.agg [.sl .any 1 [.int .i64 0,.int .i64 1],.int .i64 3]]]) := eA 200 (by kernel_rfl)
theorem adds3 (b : UInt8) (r : List UInt8) : resW Γ 351 [.bx 2 0,.bx 17 0,.p (.agg [.sl .any 1 [.int .i64 (-1),.int .i64 (-1)],.int .i64 0]),.p (.int .i64 1)] [.box [.p (.int .i64 0),.p bh],.box [.p (.int .i64 0),.p bh],.box [.p (.int .i64 0),.p bh,.p (.str (b :: r))],.box [.nov,.nov,.p (.int .i64 0),.p (.bool true),.p (.int .i64 1),.p (.bool true)],.box [.own 15 1,.mp 3],.box [.p (.sl .any 1 [.int .i64 (-1),.int .i64 (-1)]),.p (.int .i64 0)],.dead,.box [.p (.sl .any 1 [.int .i64 (-1),.int .i64 (-1)]),.p (.int .i64 0)],.dead,.box [.p (.int .i64 4),.p (.int .i64 0),.p (.int .i64 0),.p (.str [])],.row false 2 [.agg [.sl .any 1 [.int .i64 0,.int .i64 (-1)],.int .i64 1]],.box [.p (.sl .any 1 [.int .i64 0,.int .i64 (-1)]),.p (.int .i64 1)],.row false 2 [],.box [.p (.int .i64 1),.p (.int .i64 0),.p (.int .i64 0),.p (.str [0,9,11,255])],.row false 2 [.agg [.sl .any 1 [.int .i64 0,.int .i64 (-1)],.int .i64 1]],.row false 2 [.agg [.sl .any 1 [.int .i64 0,.int .i64 (-1)],.int .i64 1]],.box [.nov,.nov,.p (.int .i64 2),.p (.bool true),.p (.int .i64 3),.p (.bool true)],.box [.own 30 1,.mp 16],.box [.p (.sl .any 1 [.int .i64 0,.int .i64 (-1)]),.p (.int .i64 1)],.box [.p (.int .i64 1),.p (.int .i64 0),.p (.int .i64 0),.p (.str [0,9,11,255])],.box [.p (.sl .any 1 [.int .i64 0,.int .i64 (-1)]),.p (.int .i64 2)],.dead,.box [.p (.sl .any 1 [.int .i64 0,.int .i64 (-1)]),.p (.int .i64 2)],.dead,.box [.p (.int .i64 4),.p (.int .i64 1),.p (.int .i64 0),.p (.str [])],.row false 2 [.agg [.sl .any 1 [.int .i64 0,.int .i64 1],.int .i64 3]],.box [.p (.sl .any 1 [.int .i64 0,.int .i64 1]),.p (.int .i64 3)],.row false 2 [],.box [.p (.int .i64 7),.p (.int .i64 0),.p (.int .i64 0),.p (.str [])],.row false 2 [.agg [.sl .any 1 [.int .i64 0,.int .i64 1],.int .i64 3]],.row false 2 [.agg [.sl .any 1 [.int .i64 0,.int .i64 1],.int .i64 3]]] = some ([],[.box [.p (.int .i64 0),.p bh],.box [.p (.int .i64 0),.p bh],.box [.p (.int .i64 0),.p bh,.p (.str (b :: r))],.box [.nov,.nov,.p (.int .i64 0),.p (.bool true),.p (.int .i64 1),.p (.bool true)],.box [.own 15 1,.mp 3],.box [.p (.sl .any 1 [.int .i64 (-1),.int .i64 (-1)]),.p (.int .i64 0)],.dead,.box [.p (.sl .any 1 [.int .i64 (-1),.int .i64 (-1)]),.p (.int .i64 0)],.dead,.box [.p (.int .i64 4),.p (.int .i64 0),.p (.int .i64 0),.p (.str [])],.row false 2 [.agg [.sl .any 1 [.int .i64 0,.int .i64 (-1)],.int .i64 1]],.box [.p (.sl .any 1 [.int .i64 0,.int .i64 (-1)]),.p (.int .i64 1)],.row false 2 [],.box [.p (.int .i64 1),.p (.int .i64 0),.p (.int .i64 0),.p (.str [0,9,11,255])],.row false 2 [.agg [.sl .any 1 [.int .i64 0,.int .i64 (-1)],.int .i64 1]],.row false 2 [.agg [.sl .any 1 [.int .i64 0,.int .i64 (-1)],.int .i64 1]],.box [.nov,.nov,.p (.int .i64 2),.p (.bool true),.p (.int .i64 3),.p (.bool true),.p (.int .i64 0),.p (.bool true),.p (.int .i64 1),.p (.bool true)],.box [.own 30 2,.mp 16],.box [.p (.sl .any 1 [.int .i64 0,.int .i64 (-1)]),.p (.int .i64 1)],.box [.p (.int .i64 1),.p (.int .i64 0),.p (.int .i64 0),.p (.str [0,9,11,255])],.box [.p (.sl .any 1 [.int .i64 0,.int .i64 (-1)]),.p (.int .i64 2)],.dead,.box [.p (.sl .any 1 [.int .i64 0,.int .i64 (-1)]),.p (.int .i64 2)],.dead,.box [.p (.int .i64 4),.p (.int .i64 1),.p (.int .i64 0),.p (.str [])],.row false 2 [.agg [.sl .any 1 [.int .i64 0,.int .i64 1],.int .i64 3]],.box [.p (.sl .any 1 [.int .i64 0,.int .i64 1]),.p (.int .i64 3)],.row false 2 [],.box [.p (.int .i64 7),.p (.int .i64 0),.p (.int .i64 0),.p (.str [])],.row false 2 [.agg [.sl .any 1 [.int .i64 0,.int .i64 1],.int .i64 3]],.row false 2 [.agg [.sl .any 1 [.int .i64 0,.int .i64 1],.int .i64 3],.agg [.sl .any 1 [.int .i64 1,.int .i64 (-1)],.int .i64 1]],.box [.p (.sl .any 1 [.int .i64 (-1),.int .i64 (-1)]),.p (.int .i64 0)],.dead,.box [.p (.sl .any 1 [.int .i64 (-1),.int .i64 (-1)]),.p (.int .i64 0)],.dead,.box [.p (.int .i64 4),.p (.int .i64 0),.p (.int .i64 0),.p (.str [])],.row false 2 [.agg [.sl .any 1 [.int .i64 1,.int .i64 (-1)],.int .i64 1]],.box [.p (.sl .any 1 [.int .i64 1,.int .i64 (-1)]),.p (.int .i64 1)],.row false 2 [],.box [.p (.int .i64 1),.p (.int .i64 0),.p (.int .i64 0),.p (.str [0,9,11,255])],.row false 2 [.agg [.sl .any 1 [.int .i64 1,.int .i64 (-1)],.int .i64 1]]]) := eA 200 (by kernel_rfl)
theorem step2 (b : UInt8) (r : List UInt8) : resW Γ 350 [.bx 2 0,.bx 17 0,.p (.int .i64 1)] [.box [.p (.int .i64 0),.p bh],.box [.p (.int .i64 0),.p bh],.box [.p (.int .i64 0),.p bh,.p (.str (b :: r))],.box [.nov,.nov,.p (.int .i64 0),.p (.bool true),.p (.int .i64 1),.p (.bool true)],.box [.own 15 1,.mp 3],.box [.p (.sl .any 1 [.int .i64 (-1),.int .i64 (-1)]),.p (.int .i64 0)],.dead,.box [.p (.sl .any 1 [.int .i64 (-1),.int .i64 (-1)]),.p (.int .i64 0)],.dead,.box [.p (.int .i64 4),.p (.int .i64 0),.p (.int .i64 0),.p (.str [])],.row false 2 [.agg [.sl .any 1 [.int .i64 0,.int .i64 (-1)],.int .i64 1]],.box [.p (.sl .any 1 [.int .i64 0,.int .i64 (-1)]),.p (.int .i64 1)],.row false 2 [],.box [.p (.int .i64 1),.p (.int .i64 0),.p (.int .i64 0),.p (.str [0,9,11,255])],.row false 2 [.agg [.sl .any 1 [.int .i64 0,.int .i64 (-1)],.int .i64 1]],.row false 2 [.agg [.sl .any 1 [.int .i64 0,.int .i64 (-1)],.int .i64 1]],.box [.nov,.nov,.p (.int .i64 2),.p (.bool true),.p (.int .i64 3),.p (.bool true),.p (.int .i64 0),.p (.bool true),.p (.int .i64 1),.p (.bool true)],.box [.own 30 2,.mp 16],.box [.p (.sl .any 1 [.int .i64 0,.int .i64 (-1)]),.p (.int .i64 1)],.box [.p (.int .i64 1),.p (.int .i64 0),.p (.int .i64 0),.p (.str [0,9,11,255])],.box [.p (.sl .any 1 [.int .i64 0,.int .i64 (-1)]),.p (.int .i64 2)],.dead,.box [.p (.sl .any 1 [.int .i64 0,.int .i64 (-1)]),.p (.int .i64 2)],.dead,.box [.p (.int .i64 4),.p (.int .i64 1),.p (.int .i64 0),.p (.str [])],.row false 2 [.agg [.sl .any 1 [.int .i64 0,.int .i64 1],.int .i64 3]],.box [.p (.sl .any 1 [.int .i64 0,.int .i64 1]),.p (.int .i64 3)],.row false 2 [],.box [.p (.int .i64 7),.p (.int .i64 0),.p (.int .i64 0),.p (.str [])],.row false 2 [.agg [.sl .any 1 [.int .i64 0,.int .i64 1],.int .i64 3]],.row false 2 [.agg [.sl .any 1 [.int .i64 0,.int .i64 1],.int .i64 3],.agg [.sl .any 1 [.int .i64 1,.int .i64 (-1)],.int .i64 1]],.box [.p (.sl .any 1 [.int .i64 (-1),.int .i64 (-1)]),.p (.int .i64 0)],.dead,.box [.p (.sl .any 1 [.int .i64 (-1),.int .i64 (-1)]),.p (.int .i64 0)],.dead,.box [.p (.int .i64 4),.p (.int .i64 0),.p (.int .i64 0),.p (.str [])],.row false 2 [.agg [.sl .any 1 [.int .i64 1,.int .i64 (-1)],.int .i64 1]],.box [.p (.sl .any 1 [.int .i64 1,.int .i64 (-1)]),.p (.int .i64 1)],.row false 2 [],.box [.p (.int .i64 1),.p (.int .i64 0),.p (.int .i64 0),.p (.str [0,9,11,255])],.row false 2 [.agg [.sl .any 1 [.int .i64 1,.int .i64 (-1)],.int .i64 1]]] = some ([.bx 42 0,.p (.sl .any 1 [.int .i64 0,.int .i64 1]),.p (.bool true)],[.box [.p (.int .i64 0),.p bh],.box [.p (.int .i64 0),.p bh],.box [.p (.int .i64 0),.p bh,.p (.str (b :: r))],.box [.nov,.nov,.p (.int .i64 0),.p (.bool true),.p (.int .i64 1),.p (.bool true)],.box [.own 15 1,.mp 3],.box [.p (.sl .any 1 [.int .i64 (-1),.int .i64 (-1)]),.p (.int .i64 0)],.dead,.box [.p (.sl .any 1 [.int .i64 (-1),.int .i64 (-1)]),.p (.int .i64 0)],.dead,.box [.p (.int .i64 4),.p (.int .i64 0),.p (.int .i64 0),.p (.str [])],.row false 2 [.agg [.sl .any 1 [.int .i64 0,.int .i64 (-1)],.int .i64 1]],.box [.p (.sl .any 1 [.int .i64 0,.int .i64 (-1)]),.p (.int .i64 1)],.row false 2 [],.box [.p (.int .i64 1),.p (.int .i64 0),.p (.int .i64 0),.p (.str [0,9,11,255])],.row false 2 [.agg [.sl .any 1 [.int .i64 0,.int .i64 (-1)],.int .i64 1]],.row false 2 [.agg [.sl .any 1 [.int .i64 0,.int .i64 (-1)],.int .i64 1]],.box [.nov,.nov,.p (.int .i64 2),.p (.bool true),.p (.int .i64 3),.p (.bool true),.p (.int .i64 0),.p (.bool true),.p (.int .i64 1),.p (.bool true)],.box [.own 30 2,.mp 16],.box [.p (.sl .any 1 [.int .i64 0,.int .i64 (-1)]),.p (.int .i64 1)],.box [.p (.int .i64 1),.p (.int .i64 0),.p (.int .i64 0),.p (.str [0,9,11,255])],.box [.p (.sl .any 1 [.int .i64 0,.int .i64 (-1)]),.p (.int .i64 2)],.dead,.box [.p (.sl .any 1 [.int .i64 0,.int .i64 (-1)]),.p (.int .i64 2)],.dead,.box [.p (.int .i64 4),.p (.int .i64 1),.p (.int .i64 0),.p (.str [])],.row false 2 [.agg [.sl .any 1 [.int .i64 0,.int .i64 1],.int .i64 3]],.box [.p (.sl .any 1 [.int .i64 0,.int .i64 1]),.p (.int .i64 3)],.row false 2 [],.box [.p (.int .i64 7),.p (.int .i64 0),.p (.int .i64 0),.p (.str [])],.row false 2 [.agg [.sl .any 1 [.int .i64 0,.int .i64 1],.int .i64 3]],.row false 2 [.agg [.sl .any 1 [.int .i64 0,.int .i64 1],.int .i64 3],.agg [.sl .any 1 [.int .i64 1,.int .i64 (-1)],.int .i64 1]],.box [.p (.sl .any 1 [.int .i64 (-1),.int .i64 (-1)]),.p (.int .i64 0)],.dead,.box [.p (.sl .any 1 [.int .i64 (-1),.int .i64 (-1)]),.p (.int .i64 0)],.dead,.box [.p (.int .i64 4),.p (.int .i64 0),.p (.int .i64 0),.p (.str [])],.row false 2 [.agg [.sl .any 1 [.int .i64 1,.int .i64 (-1)],.int .i64 1]],.box [.p (.sl .any 1 [.int .i64 1,.int .i64 (-1)]),.p (.int .i64 1)],.row false 2 [],.box [.p (.int .i64 1),.p (.int .i64 0),.p (.int .i64 0),.p (.str [0,9,11,255])],.row false 2 [.agg [.sl .any 1 [.int .i64 1,.int .i64 (-1)],.int .i64 1]],.box [.nov,.nov],.box [.p (.sl .nil 2 []),.mp 41],.box [.p (.sl .any 1 [.int .i64 0,.int .i64 1]),.p (.int .i64 3)],.box [.p (.int .i64 7),.p (.int .i64 0),.p (.int .i64 0),.p (.str [])]]) := eA 200 (by kernel_rfl)
theorem res_has1 (x : Int) (h0 : 11 ≤ x) (h1 : x ≤ 255) : res Γ 358 [.str [0,9,11,255],.int .u8 x] = some [.bool true] := by
 have d1 : decide ((0 : Int) ≤ x) = true := decide_eq_true (by omega)
 have d2 : decide (x ≤ (9 : Int)) = false := decide_eq_false (by omega)
 have d3 : decide ((11 : Int) ≤ x) = true := decide_eq_true (by omega)
 have d4 : decide (x ≤ (255 : Int)) = true := decide_eq_true (by omega)
 have i0 : idxA (.p (.str [0,9,11,255])) (.p (.int .i64 0)) = some (.p (.int .u8 0)) := rfl
 have i1 : idxA (.p (.str [0,9,11,255])) (.p (.int .i64 1)) = some (.p (.int .u8 9)) := rfl
 have i2 : idxA (.p (.str [0,9,11,255])) (.p (.int .i64 2)) = some (.p (.int .u8 11)) := rfl
 have i3 : idxA (.p (.str [0,9,11,255])) (.p (.int .i64 3)) = some (.p (.int .u8 255)) := rfl
 refine aw (fn := pH) rfl rfl ?_
 simp(disch:=first|assumption|omega|decide|(simp only[lens]<;>omega)|fail)only[go_sem,pH]
 rw [af (L := eE) rfl]
 simp(disch:=first|assumption|omega|decide|(simp only[lens]<;>omega)|fail)only[go_sem,eE,i0,i1,d1,d2]
 change Wp Γ eE _ _ _
 rw [af (L := eE) rfl]
 simp(disch:=first|assumption|omega|decide|(simp only[lens]<;>omega)|fail)only[go_sem,eE,i2,i3,d3,d4]
theorem loadK_2 {f : Bool} {a b : PV} : lB (some (.row f 2 [.agg [a,b]])) 2 true 1 0 0 = some (.p (.agg [a,b])) := rfl
theorem pu : ah [] = [.nov,.nov] := rfl
theorem wy : an Γ 350 = true := rfl
theorem qn : an Γ 351 = true := rfl
theorem still338 : an Γ 338 = true := rfl
theorem step1 (b : UInt8) (r : List UInt8) (h0 : 11 ≤ (b.toNat : Int)) : resW Γ 350 [.bx 2 0,.bx 4 0,.p (.int .i64 0)] [.box [.p (.int .i64 0),.p bh],.box [.p (.int .i64 0),.p bh],.box [.p (.int .i64 0),.p bh,.p (.str (b :: r))],.box [.nov,.nov,.p (.int .i64 0),.p (.bool true),.p (.int .i64 1),.p (.bool true)],.box [.own 15 1,.mp 3],.box [.p (.sl .any 1 [.int .i64 (-1),.int .i64 (-1)]),.p (.int .i64 0)],.dead,.box [.p (.sl .any 1 [.int .i64 (-1),.int .i64 (-1)]),.p (.int .i64 0)],.dead,.box [.p (.int .i64 4),.p (.int .i64 0),.p (.int .i64 0),.p (.str [])],.row false 2 [.agg [.sl .any 1 [.int .i64 0,.int .i64 (-1)],.int .i64 1]],.box [.p (.sl .any 1 [.int .i64 0,.int .i64 (-1)]),.p (.int .i64 1)],.row false 2 [],.box [.p (.int .i64 1),.p (.int .i64 0),.p (.int .i64 0),.p (.str [0,9,11,255])],.row false 2 [.agg [.sl .any 1 [.int .i64 0,.int .i64 (-1)],.int .i64 1]],.row false 2 [.agg [.sl .any 1 [.int .i64 0,.int .i64 (-1)],.int .i64 1]]] = some ([.bx 17 0,.p (.sl .nil 1 []),.p (.bool false)],[.box [.p (.int .i64 0),.p bh],.box [.p (.int .i64 0),.p bh],.box [.p (.int .i64 0),.p bh,.p (.str (b :: r))],.box [.nov,.nov,.p (.int .i64 0),.p (.bool true),.p (.int .i64 1),.p (.bool true)],.box [.own 15 1,.mp 3],.box [.p (.sl .any 1 [.int .i64 (-1),.int .i64 (-1)]),.p (.int .i64 0)],.dead,.box [.p (.sl .any 1 [.int .i64 (-1),.int .i64 (-1)]),.p (.int .i64 0)],.dead,.box [.p (.int .i64 4),.p (.int .i64 0),.p (.int .i64 0),.p (.str [])],.row false 2 [.agg [.sl .any 1 [.int .i64 0,.int .i64 (-1)],.int .i64 1]],.box [.p (.sl .any 1 [.int .i64 0,.int .i64 (-1)]),.p (.int .i64 1)],.row false 2 [],.box [.p (.int .i64 1),.p (.int .i64 0),.p (.int .i64 0),.p (.str [0,9,11,255])],.row false 2 [.agg [.sl .any 1 [.int .i64 0,.int .i64 (-1)],.int .i64 1]],.row false 2 [.agg [.sl .any 1 [.int .i64 0,.int .i64 (-1)],.int .i64 1]],.box [.nov,.nov,.p (.int .i64 2),.p (.bool true),.p (.int .i64 3),.p (.bool true)],.box [.own 30 1,.mp 16],.box [.p (.sl .any 1 [.int .i64 0,.int .i64 (-1)]),.p (.int .i64 1)],.box [.p (.int .i64 1),.p (.int .i64 0),.p (.int .i64 0),.p (.str [0,9,11,255])],.box [.p (.sl .any 1 [.int .i64 0,.int .i64 (-1)]),.p (.int .i64 2)],.dead,.box [.p (.sl .any 1 [.int .i64 0,.int .i64 (-1)]),.p (.int .i64 2)],.dead,.box [.p (.int .i64 4),.p (.int .i64 1),.p (.int .i64 0),.p (.str [])],.row false 2 [.agg [.sl .any 1 [.int .i64 0,.int .i64 1],.int .i64 3]],.box [.p (.sl .any 1 [.int .i64 0,.int .i64 1]),.p (.int .i64 3)],.row false 2 [],.box [.p (.int .i64 7),.p (.int .i64 0),.p (.int .i64 0),.p (.str [])],.row false 2 [.agg [.sl .any 1 [.int .i64 0,.int .i64 1],.int .i64 3]],.row false 2 [.agg [.sl .any 1 [.int .i64 0,.int .i64 1],.int .i64 3]]]) := by
 have hh := res_has1 (b.toNat : Int) h0 (by have := b.toNat_lt; omega)
 have ha := adds2 b r
 have d0 : decide ((0 : Int) < ((b :: r).length : Int)) = true := decide_eq_true (by simp only [List.length_cons]; omega)
 have i0 : idxA (.p (.str (b :: r))) (.p (.int .i64 0)) = some (.p (.int .u8 (b.toNat : Int))) := rfl
 refine ab (fn := dU) rfl rfl ?_
 simp(disch:=first|assumption|omega|decide|(simp only[lens]<;>omega)|fail)only[go_sem,dU]
 rw [af (L := bw) rfl]
 simp(disch:=first|assumption|omega|decide|(simp only[lens]<;>omega)|fail)only[go_sem,bw,loadK_2,pu,i0,hh,qn,ha]
 change Wp Γ bw _ _ _
 rw [af (L := bw) rfl]
 simp(disch:=first|assumption|omega|decide|(simp only[lens]<;>omega)|fail)only[go_sem,bw]
theorem find1 (b : UInt8) (r : List UInt8) (h0 : 11 ≤ (b.toNat : Int)) : resW Γ 338 [.p (.agg [.int .i64 0,bh]),.p (.str (b :: r)),.p (.int .i64 0)] [.box [.p (.int .i64 0),.p bh]] = some ([.p (.sl .any 1 [.int .i64 0,.int .i64 1]),.p (.bool true)],[.box [.p (.int .i64 0),.p bh],.box [.p (.int .i64 0),.p bh],.box [.p (.int .i64 0),.p bh,.p (.str (b :: r))],.box [.nov,.nov,.p (.int .i64 0),.p (.bool true),.p (.int .i64 1),.p (.bool true)],.box [.own 15 1,.mp 3],.box [.p (.sl .any 1 [.int .i64 (-1),.int .i64 (-1)]),.p (.int .i64 0)],.dead,.box [.p (.sl .any 1 [.int .i64 (-1),.int .i64 (-1)]),.p (.int .i64 0)],.dead,.box [.p (.int .i64 4),.p (.int .i64 0),.p (.int .i64 0),.p (.str [])],.row false 2 [.agg [.sl .any 1 [.int .i64 0,.int .i64 (-1)],.int .i64 1]],.box [.p (.sl .any 1 [.int .i64 0,.int .i64 (-1)]),.p (.int .i64 1)],.row false 2 [],.box [.p (.int .i64 1),.p (.int .i64 0),.p (.int .i64 0),.p (.str [0,9,11,255])],.row false 2 [.agg [.sl .any 1 [.int .i64 0,.int .i64 (-1)],.int .i64 1]],.row false 2 [.agg [.sl .any 1 [.int .i64 0,.int .i64 (-1)],.int .i64 1]],.box [.nov,.nov,.p (.int .i64 2),.p (.bool true),.p (.int .i64 3),.p (.bool true),.p (.int .i64 0),.p (.bool true),.p (.int .i64 1),.p (.bool true)],.box [.own 30 2,.mp 16],.box [.p (.sl .any 1 [.int .i64 0,.int .i64 (-1)]),.p (.int .i64 1)],.box [.p (.int .i64 1),.p (.int .i64 0),.p (.int .i64 0),.p (.str [0,9,11,255])],.box [.p (.sl .any 1 [.int .i64 0,.int .i64 (-1)]),.p (.int .i64 2)],.dead,.box [.p (.sl .any 1 [.int .i64 0,.int .i64 (-1)]),.p (.int .i64 2)],.dead,.box [.p (.int .i64 4),.p (.int .i64 1),.p (.int .i64 0),.p (.str [])],.row false 2 [.agg [.sl .any 1 [.int .i64 0,.int .i64 1],.int .i64 3]],.box [.p (.sl .any 1 [.int .i64 0,.int .i64 1]),.p (.int .i64 3)],.row false 2 [],.box [.p (.int .i64 7),.p (.int .i64 0),.p (.int .i64 0),.p (.str [])],.row false 2 [.agg [.sl .any 1 [.int .i64 0,.int .i64 1],.int .i64 3]],.row false 2 [.agg [.sl .any 1 [.int .i64 0,.int .i64 1],.int .i64 3],.agg [.sl .any 1 [.int .i64 1,.int .i64 (-1)],.int .i64 1]],.box [.p (.sl .any 1 [.int .i64 (-1),.int .i64 (-1)]),.p (.int .i64 0)],.dead,.box [.p (.sl .any 1 [.int .i64 (-1),.int .i64 (-1)]),.p (.int .i64 0)],.dead,.box [.p (.int .i64 4),.p (.int .i64 0),.p (.int .i64 0),.p (.str [])],.row false 2 [.agg [.sl .any 1 [.int .i64 1,.int .i64 (-1)],.int .i64 1]],.box [.p (.sl .any 1 [.int .i64 1,.int .i64 (-1)]),.p (.int .i64 1)],.row false 2 [],.box [.p (.int .i64 1),.p (.int .i64 0),.p (.int .i64 0),.p (.str [0,9,11,255])],.row false 2 [.agg [.sl .any 1 [.int .i64 1,.int .i64 (-1)],.int .i64 1]],.box [.nov,.nov],.box [.p (.sl .nil 2 []),.mp 41],.box [.p (.sl .any 1 [.int .i64 0,.int .i64 1]),.p (.int .i64 3)],.box [.p (.int .i64 7),.p (.int .i64 0),.p (.int .i64 0),.p (.str [])]]) := by
 have a1 := adds1 b r
 have a3 := adds3 b r
 have s1 := step1 b r h0
 have s2 := step2 b r
 have hrp : res Γ 352 [.sl .tight 1 [.int .i64 (-1)],.int .i64 2] = some [.sl .any 1 [.int .i64 (-1),.int .i64 (-1)]] := aa 200 (by kernel_rfl)
 have hcl : res Γ 349 [.sl .any 1 [.int .i64 0,.int .i64 1]] = some [.sl .any 1 [.int .i64 0,.int .i64 1]] := aa 200 (by kernel_rfl)
 have d0 : decide ((0 : Int) > ((b :: r).length : Int)) = false := decide_eq_false (by simp only [List.length_cons]; omega)
 have d1 : decide ((0 : Int) ≤ ((b :: r).length : Int)) = true := decide_eq_true (by omega)
 have d2 : decide ((1 : Int) ≤ ((b :: r).length : Int)) = true := decide_eq_true (by simp only [List.length_cons]; omega)
 refine ab (fn := jX) rfl rfl ?_
 simp(disch:=first|assumption|omega|decide|(simp only[lens]<;>omega)|fail)only[go_sem,jX,hrp,pu]
 rw [af (L := bu) rfl]
 simp(disch:=first|assumption|omega|decide|(simp only[lens]<;>omega)|fail)only[go_sem,bu,qn,wy,a1,s1]
 change Wp Γ bu _ _ _
 rw [af (L := bu) rfl]
 simp(disch:=first|assumption|omega|decide|(simp only[lens]<;>omega)|fail)only[go_sem,bu,qn,wy,a3,s2]
 change Wp Γ bu _ _ _
 rw [af (L := bu) rfl]
 cases r with
 | nil => simp(disch:=first|assumption|omega|decide|(simp only[lens]<;>omega)|fail)only[go_sem,bu,hcl]
 | cons c q => 
  have d3 : decide ((2 : Int) ≤ ((b :: c :: q).length : Int)) = true := decide_eq_true (by simp only [List.length_cons]; omega)
  simp(disch:=first|assumption|omega|decide|(simp only[lens]<;>omega)|fail)only[go_sem,bu,hcl]
theorem xU (b : UInt8) (r : List UInt8) (h0 : 11 ≤ (b.toNat : Int)) : res Γ 529 [.agg [.int .i64 0,bh],.str (b :: r)] = some [.bool true] := by
 have h := find1 b r h0
 unfold bh sn
 refine aw (fn := pP) rfl rfl ?_
 simp(disch:=first|assumption|omega|decide|(simp only[lens]<;>omega)|fail)only[go_sem,pP,still338,h]
end Ab
namespace Ab
open Go (IntKind BinOp UnOp)
def schP : PV := .agg [.str [46],arcP .any,.int .i64 0,bh]
theorem res_hdr1 (b : UInt8) (r : List UInt8) (h0 : 11 ≤ (b.toNat : Int)) : res Γ 510 [schP,.ptr [.str (b :: r)]] = some [.bool true] := by
 have h := xU b r h0
 unfold schP arcP
 refine aw (fn := bP) rfl rfl ?_
 simp(disch:=first|assumption|omega|decide|(simp only[lens]<;>omega)|fail)only[go_sem,bP,h]
theorem res_ixf (b : UInt8) (r : List UInt8) (h0 : 11 ≤ (b.toNat : Int)) : res Γ 511 [.sl .any 4 [schP],.clo 510 [.ptr [.str (b :: r)]]] = some [.int .i64 0] := by
 have h := res_hdr1 b r h0
 unfold schP arcP at *
 refine aw (fn := av) rfl rfl ?_
 simp(disch:=first|assumption|omega|decide|(simp only[lens]<;>omega)|fail)only[go_sem,av]
 rw [af (L := aC) rfl]
 simp(disch:=first|assumption|omega|decide|(simp only[lens]<;>omega)|fail)only[go_sem,aC,h]
theorem j3 {H G : Heap} {k : Nat} : (H ++ G)[List.length H + k]? = G[k]? := by rw [List.getElem?_append_right (by omega),Nat.add_sub_cancel_left]
theorem nK {H G : Heap} : (H ++ G)[List.length H]? = G[0]? := by rw [List.getElem?_append_right (Nat.le_refl _),Nat.sub_self]
theorem oT {H G : Heap} {k : Nat} {b : Blk} : (H ++ G).set (List.length H + k) b = H ++ G.set k b := by rw [List.set_append_right _ _ (by omega),Nat.add_sub_cancel_left]
theorem p7 {H G : Heap} {b : Blk} : (H ++ G).set (List.length H) b = H ++ G.set 0 b := by rw [List.set_append_right _ _ (Nat.le_refl _),Nat.sub_self]
def RulesR (H : Heap) (ru : Nat) : Prop := ∃ id f,H[ru]? = some (.box [.own id 1,.p (.sl .nil 5 [])]) ∧ H[id]? = some (.row f 4 [schP])
theorem RulesR.keep {K : Nat → Prop} {H H' : Heap} {ru : Nat} (h : RulesR H ru) (hS : Since K H H') (hk : ¬ K ru) : RulesR H' ru := by
 obtain ⟨id,f,h1,h2⟩ := h
 obtain ⟨f',h3,_⟩ := hS.row id f 4 _ h2
 exact ⟨id,f',hS.box ru _ h1 hk,h3⟩
theorem res_ixr (s : List UInt8) : res Γ 508 [.sl .nil 5 [],.clo 507 [.ptr [.str s]]] = some [.int .i64 (-1)] := aa 100 (by kernel_rfl)
theorem yh : res Γ 509 [arcP .any] = some [arcP .any] := aa 100 (by kernel_rfl)
theorem nw {H : Heap} {ru : Nat} (hr : RulesR H ru) (b : UInt8) (r : List UInt8) (h0 : 11 ≤ (b.toNat : Int)) :
  ∃ G,resW Γ 493 [.bx ru 0,.p (.str (b :: r))] H = some ([.p (hdrP .any),.p (.bool true)],H ++ G) := by
 obtain ⟨id,f,h1,h2⟩ := hr
 have i1 := res_ixf b r h0
 have i2 := res_ixr (b :: r)
 have i3 := yh
 have l1 := (List.getElem?_eq_some_iff.1 h1).1
 have l2 := (List.getElem?_eq_some_iff.1 h2).1
 have k1 : ∀ G : Heap,(H ++ G)[ru]? = some (.box [.own id 1,.p (.sl .nil 5 [])]) := fun G => by rw [List.getElem?_append_left l1]; exact h1
 have k2 : ∀ G : Heap,(H ++ G)[id]? = some (.row f 4 [schP]) := fun G => by rw [List.getElem?_append_left l2]; exact h2
 refine ⟨[.box [.p (.str (b :: r))],.box [.p (.int .i64 1),.p (.int .i64 500000),.p (arcP .any)],.box [.p (.int .i64 1),.p (.int .i64 500000),.p (arcP .any)]],?_⟩
 have lk : lB (some (.row f 4 [schP])) 1 false 1 0 1 = some (.p (arcP .any)) := rfl
 unfold arcP at i3
 refine ab (fn := cr) rfl rfl ?_
 simp(disch:=first|assumption|omega|decide|(simp only[lens]<;>omega)|fail)only[go_sem,cr,k1,k2,i1,i2,i3,lk,arcP,hdrP,j3,nK,oT,List.length_append,Nat.zero_add]
def fq (s : List UInt8) : List UInt8 := cO 46 47 s ++ [46,119,115,112]
theorem fI {s : List UInt8} : (fq s).length = s.length + 4 := by simp [fq,cO]
theorem p6 (s : List UInt8) (hs : s.length ≤ 1000) : res Γ 477 [.str s] = some [.str (fq s)] := by
 have h : res Γ 487 [.str s,.str [46],.str [47]] = some [.str (cO 46 47 s)] := jl (fJ (g := BI) rfl (by simp [BI]; omega))
 have hl : (cO 46 47 s).length = s.length := by simp [cO]
 refine aw (fn := j8) rfl rfl ?_
 simp(disch:=first|assumption|omega|decide|(simp only[lens]<;>omega)|fail)only[go_sem,j8,h]
 rfl
end Ab
namespace Ab
open Go (IntKind BinOp UnOp)
theorem AU {c : UInt8} (h : ff c = true) : 11 ≤ (c.toNat : Int) := by
 have key : ((List.range 256).all fun n => !ff (UInt8.ofNat n) || decide (11 ≤ n)) = true := by kernel_rfl
 have := List.all_eq_true.1 key c.toNat (List.mem_range.2 c.toNat_lt)
 rw [UInt8.ofNat_toNat,h] at this
 have : 11 ≤ c.toNat := by simpa using this
 omega
theorem mO {s : List UInt8} (h : nameB s = true) : ∃ b r,s = b :: r ∧ 11 ≤ (b.toNat : Int) := by
 obtain ⟨h1,_,_,h4⟩ := br h
 cases s with
 | nil => simp at h1
 | cons b r =>
  refine ⟨b,r,rfl,?_⟩
  by_cases hb : b = 46
  ·subst hb
   have := (h4 [] (by simp [prt,splitB])).1
   exact absurd rfl this
  ·cases e : splitB 46 r with
   | nil => exact absurd e (cU r)
   | cons x t => exact AU ((h4 (b :: x) (by simp [prt,splitB,hb,e])).2 b (by simp))
theorem iU {H : Heap} {N : Tri} {r n i : Nat} (h : Lies H N r n) (hf : Foot N i) : ∃ cs,H[i]? = some (.box cs) ∧ ((∃ m t,cs = .mp m :: t) ∨ ∃ t,cs = .nov :: t) := by
 obtain ⟨p,nd,hp,rfl | rfl⟩ := hf
 ·exact ⟨_,h.box p nd hp,.inl ⟨_,_,rfl⟩⟩
 ·exact ⟨_,h.map p nd hp,.inr ⟨_,rfl⟩⟩
theorem dy {H : Heap} {N : Tri} {r n i : Nat} {x : AV} {t : List AV} (h : Lies H N r n) (hi : H[i]? = some (.box (x :: t))) (h1 : ∀ m,x ≠ .mp m) (h2 : x ≠ .nov) : ¬ Foot N i := fun hf => by
 obtain ⟨cs,e,h3⟩ := iU h hf
 rw [hi] at e
 cases e
 rcases h3 with ⟨m,t,e⟩ | ⟨t,e⟩
 ·cases e; exact h1 m rfl
 ·cases e; exact h2 rfl
theorem Chg.since {N N' : Tri} {H H' : Heap} {r n : Nat} (h : Lies H N r n) (c : Chg N N' H H') : Since (Foot N) H H' where
 len := c.1
 box i cs hi hk := (c.2.1 i (List.getElem?_eq_some_iff.1 hi).1 hk).trans hi
 row i f sz xs hi := ⟨f,(c.2.1 i (List.getElem?_eq_some_iff.1 hi).1 (fun hf => by
  obtain ⟨cs,e,_⟩ := iU h hf
  rw [hi] at e; cases e)).trans hi,fun _ => rfl⟩
theorem FsS.keepK {F Pd M room : Nat} {Z : Nat → Prop} {H0 H H' : Heap} {l : Fl} {c : Nat} {K : Nat → Prop} (h : FsS F Pd M room Z H0 l c H) (hS : Since K H H') (k1 : ¬ K F) (k2 : ¬ K Pd) (k3 : ¬ K M) : FsS F Pd M room Z H' l 0 H' ∨ c ≠ 0 := by
 by_cases hc : c = 0
 ·left
  subst hc
  obtain ⟨es,a1,a2,a3⟩ := h.m
  obtain ⟨ch,m2,p1,p2⟩ := h.p
  refine ⟨hS.box F _ h.f k1,⟨es,hS.box M _ a1 k3,a2.since hS,a3⟩,fun i hi => Nat.lt_of_lt_of_le (h.zlt i hi) hS.len,⟨ch,m2,hS.box Pd _ p1 k2,?_⟩,.refl _⟩
  rcases p2 with ⟨_,p2⟩ | ⟨id,xs,_,_,_,q1,q2⟩
  ·exact .inl ⟨rfl,p2⟩
  ·omega
 ·exact .inr hc
theorem FsS.re {F Pd M room : Nat} {Z : Nat → Prop} {H0 H H' : Heap} {l : Fl} {K : Nat → Prop} (h : FsS F Pd M room Z H0 l 0 H) (hS : Since K H H') (k1 : ¬ K F) (k2 : ¬ K Pd) (k3 : ¬ K M) : FsS F Pd M room Z H' l 0 H' := by
 rcases h.keepK hS k1 k2 k3 with h | h
 ·exact h
 ·exact absurd rfl h
theorem FsS.re0 {F Pd M room : Nat} {Z : Nat → Prop} {H0 H : Heap} {l : Fl} (h : FsS F Pd M room Z H0 l 0 H) : FsS F Pd M room Z H l 0 H := h.re (K := fun _ => False) (.refl H) (fun e => e) (fun e => e) (fun e => e)
structure PSt (C F Pd M ru r room : Nat) (N : Tri) (L : Path) (fl : Fl) (ld dr md : Int) (H : Heap) : Prop where
 core : H[C]? = some (.box [.bx r 0,.bx F 0,.bx ru 0,.p (.int .i64 ld),.p (.int .i64 dr),.p (.int .i64 md)])
 fs : FsS F Pd M room (fun _ => False) H fl 0 H
 trie : TrieN N H r L
 nms : Nms L
 rules : RulesR H ru
 sep : ¬ Foot N M
def KP (N : Tri) (C Pd M : Nat) (i : Nat) : Prop := i = Pd ∨ i = M ∨ i = C ∨ Foot N i
section
variable {C F Pd M ru r room : Nat} {N : Tri} {L : Path} {fl : Fl} {ld dr md : Int} {H : Heap}
theorem ChR.shape {B : Nat} {ch : AV} {c : Nat} (h : ChR B H ch c) : (∃ v,ch = .p v) ∨ ∃ i n,ch = .own i n := by
 rcases h with ⟨_,rfl⟩ | ⟨id,xs,rfl,_⟩
 ·exact .inl ⟨_,rfl⟩
 ·exact .inr ⟨_,_,rfl⟩
structure Apart (N : Tri) (C F Pd ru : Nat) : Prop where
 c : ¬ Foot N C
 f : ¬ Foot N F
 p : ¬ Foot N Pd
 u : ¬ Foot N ru
theorem PSt.apart (S : PSt C F Pd M ru r room N L fl ld dr md H) : Apart N C F Pd ru := by
 obtain ⟨ch,m2,p1,p2⟩ := S.fs.p
 obtain ⟨id,f,u1,u2⟩ := S.rules
 refine ⟨dy S.trie.lies S.core (fun m e => by cases e) (fun e => by cases e),dy S.trie.lies S.fs.f (fun m e => by cases e) (fun e => by cases e),?_,dy S.trie.lies u1 (fun m e => by cases e) (fun e => by cases e)⟩
 rcases p2.shape with ⟨v,rfl⟩ | ⟨i,n,rfl⟩
 ·exact dy S.trie.lies p1 (fun m e => by cases e) (fun e => by cases e)
 ·exact dy S.trie.lies p1 (fun m e => by cases e) (fun e => by cases e)
theorem PSt.ne (S : PSt C F Pd M ru r room N L fl ld dr md H) : C ≠ F ∧ C ≠ Pd ∧ C ≠ M ∧ C ≠ ru ∧ ru ≠ F ∧ ru ≠ Pd ∧ ru ≠ M := by
 obtain ⟨ch,m2,p1,p2⟩ := S.fs.p
 obtain ⟨id,f,u1,u2⟩ := S.rules
 obtain ⟨es,m1,_⟩ := S.fs.m
 have c := S.core
 have f := S.fs.f
 refine ⟨fun e => ?_,fun e => ?_,fun e => ?_,fun e => ?_,fun e => ?_,fun e => ?_,fun e => ?_⟩
 ·rw [e,f] at c; simp at c
 ·rw [e,p1] at c; simp at c
 ·rw [e,m1] at c; simp [ah] at c
 ·rw [e,u1] at c; simp at c
 ·rw [e,f] at u1; simp at u1
 ·rw [e,p1] at u1; simp at u1
 ·rw [e,m1] at u1; simp [ah] at u1
theorem PSt.keep {H' : Heap} (S : PSt C F Pd M ru r room N L fl ld dr md H) {K : Nat → Prop} (hS : Since K H H') (k1 : ¬ K C) (k2 : ¬ K F) (k3 : ¬ K Pd) (k4 : ¬ K M) (k5 : ¬ K ru) (k6 : ∀ i,Foot N i → ¬ K i) : PSt C F Pd M ru r room N L fl ld dr md H' where
 core := hS.box C _ S.core k1
 fs := S.fs.re hS k2 k3 k4
 trie := S.trie.keep fun i hi => by
  obtain ⟨cs,e,_⟩ := iU S.trie.lies hi
  rw [e,hS.box i _ e (k6 i hi)]
 nms := S.nms
 rules := S.rules.keep hS k5
 sep := S.sep
theorem PSt.ext {H' : Heap} (S : PSt C F Pd M ru r room N L fl ld dr md H) (hS : Since (fun _ => False) H H') : PSt C F Pd M ru r room N L fl ld dr md H' :=
 S.keep hS (fun e => e) (fun e => e) (fun e => e) (fun e => e) (fun e => e) (fun _ _ e => e)
theorem PSt.files {H' : Heap} {fl' : Fl} (S : PSt C F Pd M ru r room N L fl ld dr md H) (h : FsS F Pd M room (fun _ => False) H fl' 0 H') : PSt C F Pd M ru r room N L fl' ld dr md H' := by
 obtain ⟨n1,n2,n3,n4,n5,n6,n7⟩ := S.ne
 have A := S.apart
 refine ⟨h.since.box C _ S.core (by omega),h.re0,S.trie.keep fun i hi => ?_,S.nms,S.rules.keep h.since (by omega),S.sep⟩
 obtain ⟨cs,e,_⟩ := iU S.trie.lies hi
 rw [e,h.since.box i _ e (fun e => by rcases e with rfl | rfl; exact A.p hi; exact S.sep hi)]
theorem PSt.nums {ld' dr' md' : Int} (S : PSt C F Pd M ru r room N L fl ld dr md H) : PSt C F Pd M ru r room N L fl ld' dr' md' (H.set C (.box [.bx r 0,.bx F 0,.bx ru 0,.p (.int .i64 ld'),.p (.int .i64 dr'),.p (.int .i64 md')])) := by
 obtain ⟨n1,n2,n3,n4,n5,n6,n7⟩ := S.ne
 have A := S.apart
 have hl := (List.getElem?_eq_some_iff.1 S.core).1
 have hS : Since (fun i => i = C) H (H.set C (.box [.bx r 0,.bx F 0,.bx ru 0,.p (.int .i64 ld'),.p (.int .i64 dr'),.p (.int .i64 md')])) := (Since.refl H).set (.inl ⟨rfl,_,S.core⟩)
 refine ⟨List.getElem?_set_self hl,S.fs.re hS (fun e => n1 e.symm) (fun e => n2 e.symm) (fun e => n3 e.symm),S.trie.keep fun i hi => ?_,S.nms,S.rules.keep hS (fun e => n4 e.symm),S.sep⟩
 exact List.getElem?_set_ne (fun e => A.c (by rw [e]; exact hi))
theorem PSt.tri {H' : Heap} {N' : Tri} {L' : Path} (S : PSt C F Pd M ru r room N L fl ld dr md H) (t : TrieN N' H' r L') (c : Chg N N' H H') (hn : Nms L') : PSt C F Pd M ru r room N' L' fl ld dr md H' := by
 have A := S.apart
 have hS := c.since S.trie.lies
 have ml : M < H.length := by obtain ⟨es,m1,_⟩ := S.fs.m; exact (List.getElem?_eq_some_iff.1 m1).1
 exact ⟨hS.box C _ S.core A.c,S.fs.re hS A.f A.p S.sep,t,hn,S.rules.keep hS A.u,fun h => by rcases c.2.2 M h with h | h; exact S.sep h; omega⟩
end
end Ab
namespace Ab
open Go (IntKind BinOp UnOp)
theorem m6 {c : UInt8} : ∀ {s : List UInt8},c ∈ s → c = 46 ∨ ∃ p ∈ splitB 46 s,c ∈ p
 | [],h => by simp at h
 | b :: l,h => by
  by_cases hb : b = 46
  ·subst hb
   rcases List.mem_cons.1 h with h | h
   ·exact .inl h
   ·rcases m6 h with h | ⟨p,h1,h2⟩
    ·exact .inl h
    ·exact .inr ⟨p,by simp [splitB,h1],h2⟩
  ·cases e : splitB 46 l with
   | nil => exact absurd e (cU l)
   | cons x t =>
    rcases List.mem_cons.1 h with rfl | h
    ·exact .inr ⟨c :: x,by simp [splitB,hb,e],by simp⟩
    ·rcases m6 h with h | ⟨p,h1,h2⟩
     ·exact .inl h
     ·rw [e] at h1
      rcases List.mem_cons.1 h1 with rfl | h1
      ·exact .inr ⟨b :: p,by simp [splitB,hb,e],by simp [h2]⟩
      ·exact .inr ⟨p,by simp [splitB,hb,e,h1],h2⟩
theorem wA {s : List UInt8} (h : nameB s = true) : (47 : UInt8) ∉ s := fun hm => by
 obtain ⟨_,_,_,h4⟩ := br h
 rcases m6 hm with e | ⟨p,h1,h2⟩
 ·cases e
 ·have := (h4 p h1).2 47 h2
  revert this
  decide
theorem lr : ∀ {s : List UInt8},(47 : UInt8) ∉ s → cO 47 46 (cO 46 47 s) = s
 | [],_ => rfl
 | b :: l,h => by
  have h1 : b ≠ 47 := fun e => h (by simp [e])
  have h2 := @lr l (fun hm => h (by simp [hm]))
  simp only [cO,List.map_cons] at h2 ⊢
  rw [h2]
  by_cases hb : b = 46
  ·subst hb; rfl
  ·simp [hb,h1]
theorem AK {s t : List UInt8} (hs : nameB s = true) (ht : nameB t = true) (h : fq s = fq t) : s = t := by
 have := List.append_cancel_right h
 rw [← lr (wA hs),this,lr (wA ht)]
structure Fit (L : Path) (fl : Fl) : Prop where
 has : ∀ s ∈ L,∃ p,p.length = 12 ∧ fget (fq s) fl = some (aZ p)
 all : ∀ x ∈ fl,∃ s ∈ L,x.1 = fq s ∧ ∃ p,p.length = 12 ∧ x.2 = aZ p
theorem vw {s b : List UInt8} : ∀ {l : Fl},fget s l = some b → (s,b) ∈ l
 | [],h => by cases h
 | (t,c) :: l,h => by
  unfold fget at h
  split at h
  ·rename_i e; subst e; cases h; simp
  ·simp [vw h]
theorem Fit.none {L : Path} {fl : Fl} (h : Fit L fl) (hn : Nms L) {s : List UInt8} (hs : nameB s = true) (hm : s ∉ L) : fget (fq s) fl = none := by
 cases e : fget (fq s) fl with
 | none => rfl
 | some b =>
  obtain ⟨t,h1,h2,_⟩ := h.all _ (vw e)
  have := AK hs (hn.ok t h1) h2
  subst this
  exact absurd h1 hm
theorem we {s b : List UInt8} {x : List UInt8 × List UInt8} : ∀ {l : Fl},x ∈ fput s b l → x = (s,b) ∨ x ∈ l
 | [],h => by simpa [fput] using h
 | (t,c) :: l,h => by
  unfold fput at h
  split at h
  ·rcases List.mem_cons.1 h with h | h
   ·exact .inl h
   ·exact .inr (by simp [h])
  ·rcases List.mem_cons.1 h with h | h
   ·exact .inr (by simp [h])
   ·rcases we h with h | h
    ·exact .inl h
    ·exact .inr (by simp [h])
theorem o5 {s t b : List UInt8} (hne : t ≠ s) : ∀ {l : Fl},fget t (fput s b l) = fget t l
 | [] => by simp [fput,fget,hne]
 | (u,c) :: l => by
  by_cases h : s = u
  ·subst h; simp [fput,fget,hne]
  ·simp only [fput,if_neg h,fget,@o5 s t b hne l]
theorem Fit.put {L : Path} {fl : Fl} (h : Fit L fl) {s : List UInt8} {p : List UInt8} (hp : p.length = 12) : Fit (addS s L) (fput (fq s) (aZ p) fl) where
 has t ht := by
  by_cases e : fq t = fq s
  ·exact ⟨p,hp,by rw [e,fj]⟩
  ·rw [o5 e]
   rcases mem_addS.1 ht with rfl | ht
   ·exact absurd rfl e
   ·exact h.has t ht
 all x hx := by
  rcases we hx with rfl | hx
  ·exact ⟨s,mem_addS.2 (.inl rfl),rfl,p,hp,rfl⟩
  ·obtain ⟨t,h1,h2⟩ := h.all x hx
   exact ⟨t,mem_addS.2 (.inr h1),h2⟩
theorem Fit.used {L : Path} {fl : Fl} (h : Fit L fl) : used fl = 748 * fl.length := by
 have : ∀ l : Fl,(∀ x ∈ l,x.2.length = 748) → Ab.used l = 748 * l.length := by
  intro l
  induction l with
  | nil => intro _; rfl
  | cons x l ih =>
   intro hx
   have h1 := ih fun y hy => hx y (by simp [hy])
   have h2 := hx x (by simp)
   simp only [Ab.used,List.map_cons,List.sum_cons,List.length_cons] at h1 ⊢
   omega
 refine this fl fun x hx => ?_
 obtain ⟨_,_,_,p,hp,e⟩ := h.all x hx
 rw [e]
 exact eT hp
section
variable {C F Pd M ru r room : Nat} {N : Tri} {L : Path} {fl : Fl} {ld dr md : Int} {H : Heap}
theorem wD : an Γ 493 = true := rfl
theorem wd : an Γ 492 = true := rfl
theorem oz : an Γ 392 = true := rfl
theorem uQ : an Γ 482 = true := rfl
theorem ww : an Γ 481 = true := rfl
theorem st_makes (S : PSt C F Pd M ru r room N L fl ld dr md H) (ft : Fit L fl) (hl : L.length ≤ 900) (hroom : room ≤ 1000000) (s : List UInt8) (hn : nameB s = true) (hm : s ∉ L) (hu : used fl + 748 ≤ room) (hmd : 0 ≤ md ∧ md ≤ 1000) :
  ∃ N' H',resW Γ 482 [.bx C 0,.p (.str s),.p (.int .i64 1)] H = some ([.p (.int .i64 0)],H') ∧ PSt C F Pd M ru r room N' (addS s L) (fput (fq s) (aZ uJ) fl) ld dr (md + 1) H' ∧ Since (KP N C Pd M) H H' ∧ ∀ i,Foot N' i → Foot N i ∨ H.length ≤ i := by
 obtain ⟨b,rr,hs,h0⟩ := mO hn
 have hsl := br hn
 obtain ⟨G,g1⟩ := nw S.rules b rr h0
 rw [← hs] at g1
 obtain ⟨H1,hH1⟩ : ∃ H1,H ++ G = H1 := ⟨_,rfl⟩
 rw [hH1] at g1
 have x1 : Since (fun _ => False) H H1 := by rw [← hH1]; exact Since.app _ _
 have S2 := (S.ext x1).ext (Since.app H1 [.box [.p (.int .i64 1),.p (.int .i64 500000),.p (arcP .any)]])
 have hg := ft.none S.nms hn hm
 have hfl := @fI s
 obtain ⟨H3,a1,a2,a3⟩ := zj S2.fs (by omega) (by omega) hg (k := .any) (by decide) (by omega) hu
 have S3 := S2.files a2
 obtain ⟨N',H4,b1,b2,b3⟩ := qV S3.trie S.nms s (by omega) hn
 have S4 := S3.tri b2 b3 (uN S.nms hn (by omega))
 have S5 := S4.nums (ld' := ld) (dr' := dr) (md' := md + 1)
 have e1 := p6 s (by omega)
 have A := S3.apart
 have sep := S3.sep
 have k3 : Since (KP N C Pd M) H H3 := (x1.mono fun _ e => e.elim).trans ((Since.app _ _).trans (a2.since.mono fun i hi => by rcases hi with h | h; exact .inl h; exact .inr (.inl h)))
 have k4 : Since (KP N C Pd M) H H4 := k3.trans ((b3.since S3.trie.lies).mono fun i hi => .inr (.inr (.inr hi)))
 refine ⟨N',_,?_,S5,k4.set (.inl ⟨.inr (.inr (.inl rfl)),_,S4.core⟩),fun i hi => ?_⟩
 ·have c0 := (S.ext x1).core
  have c1 := S2.core
  have c3 := S3.core
  have c4 := S4.core
  unfold hdrP at g1 a1
  refine ab (fn := bF) rfl rfl ?_
  simp(disch:=first|assumption|omega|decide|(simp only[lens]<;>omega)|fail)only[go_sem,bF,S.core,wD,g1,bE,cX,c1,c3,c4,e1,wd,a1,still401,b1]
 ·have h1 := k3.len
  rcases b3.2.2 i hi with h | h
  ·exact .inl h
  ·exact .inr (by omega)
end
end Ab
namespace Ab
open Go (IntKind BinOp UnOp)
section
variable {C F Pd M ru r room : Nat} {N : Tri} {L : Path} {fl : Fl} {ld dr md : Int} {H : Heap}
theorem pU {Z : Nat → Prop} {H0 : Heap} {l : Fl} {c : Nat} {s : List UInt8} (h : FsS F Pd M room Z H0 l c H) (h1 : 1 ≤ s.length) (h2 : s.length ≤ 255) (hg : fget s l = none) {k : SK} (hr : room ≤ 1000000) (hul : used l ≤ 1000000) (hu : room < used l + 748) :
  resW Γ 492 [.bx F 0,.p (.str s),.p (hdrP k)] H = some ([.p (.int .i64 4)],H ++ [.box (hdrA k)]) := by
 have hk := h.keep (Since.app H [.box (hdrA k)])
 have a1 := ql hk h1 h2 hg (k := .tight) (k1 := .any) (k2 := .any) hdrB (List.replicate 720 0) (by decide) (by rw [List.length_replicate]; decide) (by omega) (by omega) (by rw [List.length_replicate]; show room < used l + (28 + 720); omega)
 have e1 := @nE k
 have e2 := @nG k
 have ez : ae (List.replicate 720 0) = ints .u8 (List.replicate 720 0) := by simp only [ae,ints,List.map_replicate]; rfl
 have e28 : ((28 : Nat) : Int) = 28 := rfl
 rw [ez] at a1
 have hl : (ae hdrB).length = 28 := rfl
 unfold hdrA arcP at a1 ⊢
 unfold hdrP arcP at e1 e2
 refine ab (fn := cj) rfl rfl ?_
 simp(disch:=first|assumption|omega|decide|(simp only[lens]<;>omega)|fail)only[go_sem,cj,hdrP,arcP,e1,e2,bE,hl,e28,vm,a1,qx]
theorem sN (S : PSt C F Pd M ru r room N L fl ld dr md H) (ft : Fit L fl) (_hl : L.length ≤ 900) (hroom : room ≤ 1000000) (s : List UInt8) (hn : nameB s = true) (hm : s ∉ L) (hul : used fl ≤ 1000000) (hu : room < used fl + 748) (hdr : 0 ≤ dr ∧ dr ≤ 1000) :
  ∃ H',resW Γ 482 [.bx C 0,.p (.str s),.p (.int .i64 1)] H = some ([.p (.int .i64 4)],H') ∧ PSt C F Pd M ru r room N L fl ld (dr + 1) md H' ∧ Since (KP N C Pd M) H H' := by
 obtain ⟨b,rr,hs,h0⟩ := mO hn
 have hsl := br hn
 obtain ⟨G,g1⟩ := nw S.rules b rr h0
 rw [← hs] at g1
 obtain ⟨H1,hH1⟩ : ∃ H1,H ++ G = H1 := ⟨_,rfl⟩
 rw [hH1] at g1
 have x1 : Since (fun _ => False) H H1 := by rw [← hH1]; exact Since.app _ _
 have S2 := (S.ext x1).ext (Since.app H1 [.box [.p (.int .i64 1),.p (.int .i64 500000),.p (arcP .any)]])
 have hg := ft.none S.nms hn hm
 have hfl := @fI s
 have a1 := pU S2.fs (by omega) (by omega) hg (k := .any) (by omega) hul hu
 obtain ⟨H3,hH3⟩ : ∃ H3,H1 ++ [.box [.p (.int .i64 1),.p (.int .i64 500000),.p (arcP .any)]] ++ [.box (hdrA .any)] = H3 := ⟨_,rfl⟩
 have x3 : Since (fun _ => False) (H1 ++ [.box [.p (.int .i64 1),.p (.int .i64 500000),.p (arcP .any)]]) H3 := by rw [← hH3]; exact Since.app _ _
 rw [hH3] at a1
 have S3 := S2.ext x3
 have S5 := S3.nums (ld' := ld) (dr' := dr + 1) (md' := md)
 have e1 := p6 s (by omega)
 have k3 : Since (KP N C Pd M) H H3 := (x1.mono fun _ e => e.elim).trans ((Since.app _ _).trans (x3.mono fun _ e => e.elim))
 refine ⟨_,?_,S5,k3.set (.inl ⟨.inr (.inr (.inl rfl)),_,S3.core⟩)⟩
 have c0 := (S.ext x1).core
 have c1 := S2.core
 have c3 := S3.core
 unfold hdrP at g1 a1
 refine ab (fn := bF) rfl rfl ?_
 simp(disch:=first|assumption|omega|decide|(simp only[lens]<;>omega)|fail)only[go_sem,bF,S.core,wD,g1,bE,cX,c1,c3,e1,wd,a1]
theorem put_bad {Sb : Nat} {k : SK} {xs : List PV} (s : List UInt8) (hs : s.length ≤ 1000) (hn : nameB s = false) : resW Γ 476 [.bx Sb 0,.p (.int .i64 1000),.p (.str s),.p (.sl k 2 xs)] H = some ([.p (.int .i64 0),.p (.int .i64 14)],H) := by
 have h := fG s hs
 rw [hn] at h
 refine ab (fn := aL) rfl rfl ?_
 simp(disch:=first|assumption|omega|decide|(simp only[lens]<;>omega)|fail)only[go_sem,aL,h]
def ptP (i : Nat) : PV := .agg [.int .i64 999,.int .i64 (i : Int)]
theorem put_full {Sb : Nat} {k : SK} (S : PSt C F Pd M ru r room N L fl ld dr md H) (hsb : H[Sb]? = some (.box [.bx C 0])) (ft : Fit L fl) (hl : L.length ≤ 900) (hroom : room ≤ 1000000) (s : List UInt8) (hn : nameB s = true) (hm : s ∉ L) (hul : used fl ≤ 1000000) (hu : room < used fl + 748) (hdr : 0 ≤ dr ∧ dr ≤ 1000) (i : Nat) :
  ∃ H',resW Γ 476 [.bx Sb 0,.p (.int .i64 1000),.p (.str s),.p (.sl k 2 [ptP i])] H = some ([.p (.int .i64 0),.p (.int .i64 4)],H') ∧ PSt C F Pd M ru r room N L fl ld (dr + 1) md H' ∧ Since (KP N C Pd M) H H' := by
 obtain ⟨H',a1,a2,a3⟩ := sN S ft hl hroom s hn hm hul hu hdr
 refine ⟨H',?_,a2,a3⟩
 have hsl := br hn
 have h := fG s (by omega)
 rw [hn] at h
 have hh := op_has S.trie s (by omega)
 rw [decide_eq_false hm] at hh
 have e1c : ((1 : Nat) : Int) = 1 := rfl
 refine ab (fn := aL) rfl rfl ?_
 simp(disch:=first|assumption|omega|decide|(simp only[lens]<;>omega)|fail)only[go_sem,aL,h,hsb,S.core,oz,hh,uQ,a1,e1c]
theorem put_ok {Sb : Nat} {k : SK} (S : PSt C F Pd M ru r room N L fl ld dr md H) (hsb : H[Sb]? = some (.box [.bx C 0])) (ft : Fit L fl) (hl : L.length ≤ 900) (hroom : room ≤ 1000000) (s : List UInt8) (hn : nameB s = true) (hu : s ∈ L ∨ used fl + 748 ≤ room) (hld : 0 ≤ ld ∧ ld ≤ 1000) (hdr : 0 ≤ dr ∧ dr ≤ 1000) (hmd : 0 ≤ md ∧ md ≤ 1000) (i : Nat) (hi : i < 30) :
  ∃ N' H',resW Γ 476 [.bx Sb 0,.p (.int .i64 1000),.p (.str s),.p (.sl k 2 [ptP i])] H = some ([.p (.int .i64 1),.p (.int .i64 0)],H') ∧ PSt C F Pd M ru r room N' (addS s L) (fput (fq s) (aZ (atB ++ valB i)) fl) (ld + 1) dr (if s ∈ L then md else md + 1) H' ∧ Since (KP N C Pd M) H H' ∧ ∀ i,Foot N' i → Foot N i ∨ H.length ≤ i := by
 have hsl := br hn
 have h := fG s (by omega)
 rw [hn] at h
 have hh := op_has S.trie s (by omega)
 have hfl := @fI s
 have e1 := p6 s (by omega)
 have e1c : ((1 : Nat) : Int) = 1 := rfl
 have dz : dr + (1 - 1) = dr := by omega
 by_cases hm : s ∈ L
 ·rw [decide_eq_true hm] at hh
  obtain ⟨p,hp,hg⟩ := ft.has s hm
  obtain ⟨H',a1,a2,a3⟩ := rc S.fs (by omega) (by omega) hp hg (by decide) i hi (k := k)
  have S1 := S.files a2
  have S2 := S1.nums (ld' := ld + 1) (dr' := dr) (md' := md)
  refine ⟨N,_,?_,by rw [addS,if_pos hm,if_pos hm]; exact S2,(a2.since.mono fun j hj => by rcases hj with h | h; exact .inl h; exact .inr (.inl h)).set (.inl ⟨.inr (.inr (.inl rfl)),_,S1.core⟩),fun j hj => .inl hj⟩
  have c1 := S1.core
  have hcl := (List.getElem?_eq_some_iff.1 c1).1
  have c2 : ∀ b,(H'.set C b)[C]? = some b := fun b => List.getElem?_set_self hcl
  refine ab (fn := aL) rfl rfl ?_
  simp(disch:=first|assumption|omega|decide|(simp only[lens]<;>omega)|fail)only[go_sem,aL,ptP,h,hsb,S.core,oz,hh,e1,ww,a1,c1,c2,List.set_set,e1c]
 ·rw [decide_eq_false hm] at hh
  have hu : used fl + 748 ≤ room := by rcases hu with h | h; exact absurd h hm; exact h
  obtain ⟨N',H1,b1,b2,b3,b4⟩ := st_makes S ft hl hroom s hn hm hu hmd
  obtain ⟨H',a1,a2,a3⟩ := rc b2.fs (by omega) (by omega) (by rfl) fj (by decide) i hi (k := k)
  rw [fg] at a2
  have S1 := b2.files a2
  have S2 := S1.nums (ld' := ld + 1) (dr' := dr) (md' := md + 1)
  refine ⟨N',_,?_,by rw [if_neg hm]; exact S2,(b3.trans (a2.since.mono fun j hj => by rcases hj with h | h; exact .inl h; exact .inr (.inl h))).set (.inl ⟨.inr (.inr (.inl rfl)),_,S1.core⟩),b4⟩
  have c0 := b2.core
  have c1 := S1.core
  have hcl := (List.getElem?_eq_some_iff.1 c1).1
  have c2 : ∀ b,(H'.set C b)[C]? = some b := fun b => List.getElem?_set_self hcl
  refine ab (fn := aL) rfl rfl ?_
  simp(disch:=first|assumption|omega|decide|(simp only[lens]<;>omega)|fail)only[go_sem,aL,ptP,h,hsb,S.core,oz,hh,uQ,b1,c0,e1,ww,a1,c1,c2,List.set_set,e1c]
end
end Ab
namespace Ab
open Go (IntKind BinOp UnOp)
def filP (l : Fl) : List PV := l.map fun x => .agg [.str x.1,.sl .any 1 (ae x.2)]
theorem bH {l : Fl} : (filP l).length = l.length := by simp [filP]
theorem filP_get {l : Fl} {i : Nat} (h : i < l.length) : (filP l)[i]? = some (.agg [.str (l.getD i ([],[])).1,.sl .any 1 (ae (l.getD i ([],[])).2)]) := by
 simp [filP,List.getD_eq_getElem?_getD,List.getElem?_eq_getElem h]
theorem mH {l : Fl} {x : List UInt8 × List UInt8} : filP l ++ [.agg [.str x.1,.sl .any 1 (ae x.2)]] = filP (l ++ [x]) := by simp [filP]
def fix (s : List UInt8) : Fl → Nat
 | [] => 0
 | (t,_) :: l => if s = t then 0 else fix s l + 1
theorem mB {s : List UInt8} : ∀ {l : Fl},fget s l = none → fix s l = l.length
 | [],_ => rfl
 | (t,b) :: l,h => by
  unfold fget at h
  split at h
  ·cases h
  ·rename_i e
   simp only [fix,if_neg e,List.length_cons,mB h]
theorem fZ {s b : List UInt8} : ∀ {l : Fl},fget s l = some b → fix s l < l.length ∧ l.getD (fix s l) ([],[]) = (s,b)
 | [],h => by cases h
 | (t,c) :: l,h => by
  unfold fget at h
  by_cases e : s = t
  ·subst e
   rw [if_pos rfl] at h
   cases h
   simp [fix]
  ·rw [if_neg e] at h
   obtain ⟨h1,h2⟩ := fZ h
   simp only [fix,if_neg e,List.length_cons]
   exact ⟨by omega,by simpa using h2⟩
theorem qi {s b c : List UInt8} : ∀ {l : Fl},fget s l = some b → fput s c l = l.set (fix s l) (s,c)
 | [],h => by cases h
 | (t,d) :: l,h => by
  unfold fget at h
  by_cases e : s = t
  ·subst e; simp [fput,fix]
  ·rw [if_neg e] at h
   simp only [fput,if_neg e,fix,List.set_cons_succ,qi h]
theorem pn {s : List UInt8} : ∀ {l : Fl} {i : Nat},i < fix s l → (l.getD i ([],[])).1 ≠ s
 | [],i,h => by simp [fix] at h
 | (t,c) :: l,0,h => by
  unfold fix at h
  split at h
  ·omega
  ·rename_i e; simpa using fun h => e h.symm
 | (t,c) :: l,i + 1,h => by
  unfold fix at h
  split at h
  ·omega
  ·have := @pn s l i (by omega)
   simpa using this
theorem A0 {s : List UInt8} : ∀ {l : Fl},fix s l ≤ l.length
 | [] => Nat.le_refl _
 | (t,c) :: l => by
  unfold fix
  split
  ·omega
  ·have := @A0 s l; simp only [List.length_cons]; omega
theorem j7 (s : List UInt8) (h1 : 1 ≤ s.length) (h2 : s.length ≤ 255) : res Γ 588 [.str s] = some [.bool true] := by
 have h3 : decide ((s.length : Int) ≤ 255) = true := decide_eq_true (by omega)
 refine aw (fn := r3_is) rfl rfl ?_
 simp(disch:=first|assumption|omega|decide|(simp only[lens]<;>omega)|fail)only[go_sem,r3_is,h3]
theorem dB {H : Heap} {k : SK} {l : Fl} {i : Nat} (h : i < l.length) : iaddrA H 2 (.p (.sl k 2 (filP l))) (.p (.int .i64 (i : Int))) = some (.p (.ptr [.str (l.getD i ([],[])).1,.sl .any 1 (ae (l.getD i ([],[])).2)])) := by
 have := vF (H := H) (sz := 2) (k' := k) (k := .i64) (i := (i : Int)) (by omega) (by simpa using filP_get h)
 exact this
def fixI (s : List UInt8) (l : Fl) : Int := if fix s l < l.length then (fix s l : Int) else -1
theorem sP {k : SK} (l : Fl) (hl : l.length ≤ 100000) (s : List UInt8) (Q : Out → Prop)
  (hQ1 : fix s l < l.length → ∀ e,look e 4 = .p (.int .i64 (fix s l : Int)) → Q (.ret,e,[])) (hQ2 : fix s l = l.length → ∀ e,Q (.ex 0,e,[])) :
  ∀ (f i : Nat),i + f = l.length → i ≤ fix s l → Wp Γ dk [(0,.p (.sl k 2 (filP l))),(1,.p (.str s)),(5,.p (.int .i64 (i : Int)))] [] Q := by
 intro f
 induction f with
 | zero =>
  intro i hi hx
  have hi : i = l.length := by omega
  subst hi
  have := @A0 s l
  have hQ2 := hQ2 (by omega)
  rw [af (L := dk) rfl]
  simp(disch:=first|assumption|omega|decide|(simp only[lens]<;>omega)|fail)only[go_sem,dk,bH]
  exact hQ2 _
 | succ f ih =>
  intro i hi hx
  have hlt : i < l.length := by omega
  have hia := dB (H := []) (k := k) hlt
  by_cases e : i = fix s l
  ·have hg : (l.getD i ([],[])).1 = s := by
    subst e
    cases e2 : fget s l with
    | none => rw [mB e2] at hlt; omega
    | some b => rw [(fZ e2).2]
   have hd : decide ((l.getD i ([],[])).1 = s) = true := decide_eq_true hg
   have hQ1 := hQ1 (by omega)
   rw [← e] at hQ1
   rw [af (L := dk) rfl]
   simp(disch:=first|assumption|omega|decide|(simp only[lens]<;>omega)|fail)only[go_sem,dk,bH,hia,hd]
   exact hQ1 _ rfl
  ·have hg := @pn s l i (by omega)
   have hd : decide ((l.getD i ([],[])).1 = s) = false := decide_eq_false hg
   have ih := ih (i + 1) (by omega) (by omega)
   rw [af (L := dk) rfl]
   simp(disch:=first|assumption|omega|decide|(simp only[lens]<;>omega)|fail)only[go_sem,dk,bH,hia,hd]
   exact ih
theorem dI {k : SK} (l : Fl) (hl : l.length ≤ 100000) (s : List UInt8) : res Γ 589 [.sl k 2 (filP l),.str s] = some [.int .i64 (fixI s l)] := by
 have h0 := @A0 s l
 refine aw (fn := pK) rfl rfl ?_
 simp(disch:=first|assumption|omega|decide|(simp only[lens]<;>omega)|fail)only[go_sem,pK]
 refine sP l hl s _ (fun h e he => ?_) (fun h e => ?_) l.length 0 (by omega) (by omega)
 ·have e2 : fixI s l = (fix s l : Int) := if_pos h
  simp(disch:=first|assumption|omega|decide|(simp only[lens]<;>omega)|fail)only[go_sem,he,e2]
 ·have e2 : fixI s l = -1 := if_neg (by omega)
  simp(disch:=first|assumption|omega|decide|(simp only[lens]<;>omega)|fail)only[go_sem,e2]
end Ab
