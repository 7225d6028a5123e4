/- What functions of the library that are rows of the model compute. -/
import Derived.Test.YtmggokdhhbaphaaDoorAbWalk
namespace Ab
open Go (IntKind BinOp UnOp)
/-- Where a byte stands first: -1: nowhere. -/
def ixB : List UInt8 → UInt8 → Int
  | [], _ => -1
  | b :: l, c => if b == c then 0 else if ixB l c == -1 then -1 else ixB l c + 1
def indexByteG : List PV → Option (List PV)
  | [.str s, .int .u8 c] => some [.int .i64 (ixB s c.toNat.toUInt8)]
  | _ => none
def countG : List PV → Option (List PV)
  | [.str s, .int .u8 c] => some [.int .i64 (s.count c.toNat.toUInt8 : Nat)]
  | _ => none
/-- Texts with one between. -/
def joinB (sep : List UInt8) : List (List UInt8) → List UInt8
  | [] => []
  | [s] => s
  | s :: r => s ++ sep ++ joinB sep r
def strsIn : List PV → Option (List (List UInt8))
  | [] => some []
  | .str s :: r => (strsIn r).map (s :: ·)
  | _ => none
def joinG : List PV → Option (List PV)
  | [.sl _ 1 xs, .str sep] => match strsIn xs with
    | some l => if (joinB sep l).length ≤ 1000000000 ∧ l.length ≤ 1000000000 then some [.str (joinB sep l)] else none
    | none => none
  | _ => none
end Ab
