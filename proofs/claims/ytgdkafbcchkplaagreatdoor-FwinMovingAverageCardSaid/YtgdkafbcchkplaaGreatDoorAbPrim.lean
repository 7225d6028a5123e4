import Derived.Test.YtgdkafbcchkplaaGreatDoorAbWalk
/- What functions of the library that are rows of the model compute. -/
namespace Ab
open Go (IntKind BinOp UnOp)
/-- Where a byte stands first: -1: nowhere. -/
def ixB : List UInt8 → UInt8 → Int
  | [], _ => -1
  | b :: l, c => if b == c then 0 else if ixB l c == -1 then -1 else ixB l c + 1
def indexByteG : List PV → Option (List PV)
  | [.str s, .int .u8 c] => some [.int .i64 (ixB s c.toNat.toUInt8)]
  | _ => none
def countG : List PV → Option (List PV)
  | [.str s, .int .u8 c] => some [.int .i64 (s.count c.toNat.toUInt8 : Nat)]
  | _ => none
/-- Texts with one between. -/
def joinB (sep : List UInt8) : List (List UInt8) → List UInt8
  | [] => []
  | [s] => s
  | s :: r => s ++ sep ++ joinB sep r
def strsIn : List PV → Option (List (List UInt8))
  | [] => some []
  | .str s :: r => (strsIn r).map (s :: ·)
  | _ => none
/-- A number in decimal digits. -/
def decB (u : Nat) : List UInt8 :=
  if h : u < 10 then [UInt8.ofNat (48 + u)] else decB (u / 10) ++ [UInt8.ofNat (48 + u % 10)]
termination_by u
decreasing_by omega
def itoaB (n : Int) : List UInt8 := if n < 0 then 45 :: decB n.natAbs else decB n.toNat
def itoaG : List PV → Option (List PV)
  | [.int .i64 n] => if -9223372036854775808 ≤ n ∧ n ≤ 9223372036854775807 then some [.str (itoaB n)] else none
  | _ => none
def pow10P : List PV := ((List.range 20).map fun i => ((10 ^ i : Nat) : Int)).map (.int .u64)
def joinG : List PV → Option (List PV)
  | [.sl _ 1 xs, .str sep] => match strsIn xs with
    | some l => if (joinB sep l).length ≤ 1000000000 ∧ l.length ≤ 1000000000 then some [.str (joinB sep l)] else none
    | none => none
  | _ => none
end Ab
