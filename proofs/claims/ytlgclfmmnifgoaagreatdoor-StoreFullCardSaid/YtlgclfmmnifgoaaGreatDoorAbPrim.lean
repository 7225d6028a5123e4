import Derived.Test.YtlgclfmmnifgoaaGreatDoorAbTag
namespace Ab
open Go (IntKind BinOp UnOp)
def ixB : List UInt8 → UInt8 → Int
 | [],_ => -1
 | b :: l,c => if b == c then 0 else if ixB l c == -1 then -1 else ixB l c + 1
def iV : List PV → Option (List PV)
 | [.str s,.int .u8 c] => some [.int .i64 (ixB s c.toNat.toUInt8)]
 | _ => none
def wt : List PV → Option (List PV)
 | [.str s,.int .u8 c] => some [.int .i64 (s.count c.toNat.toUInt8 : Nat)]
 | _ => none
def bD (sep : List UInt8) : List (List UInt8) → List UInt8
 | [] => []
 | [s] => s
 | s :: r => s ++ sep ++ bD sep r
def oc : List PV → Option (List (List UInt8))
 | [] => some []
 | .str s :: r => (oc r).map (s :: ·)
 | _ => none
def Bm : List PV → Option (List PV)
 | [.sl _ 1 xs,.str sep] => match oc xs with
  | some l => if (bD sep l).length ≤ 1000000000 ∧ l.length ≤ 1000000000 then some [.str (bD sep l)] else none
  | none => none
 | _ => none
def fx : List PV := List.replicate 256 (.bool false)
def ks256 : List Nat := List.replicate 256 1
def insB (s : List UInt8) : List (List UInt8) → List (List UInt8)
 | [] => [s]
 | t :: r => if bytesLess t s then t :: insB s r else s :: t :: r
def dP : List (List UInt8) → List (List UInt8)
 | [] => []
 | s :: r => insB s (dP r)
def bB : List (PV × AV) → Option (List (List UInt8))
 | [] => some []
 | (.str s,_) :: r => if s.length ≤ lim then (bB r).map (s :: ·) else none
 | _ => none
def rowS (l : List (List UInt8)) : PV :=
 match l with
 | [] => .sl .nil 1 []
 | s :: r => .sl .any 1 ((s :: r).map .str)
def keysV (H : Heap) : List AV → Option (List PV)
 | [.mp id] => (mapOf H id).bind fun es => (bB es).bind fun ss => if es.length ≤ lim then some [rowS (dP ss)] else none
 | [.p .nilmap] => some [.sl .nil 1 []]
 | _ => none
def wU (Ks : List Nat) : List AV → Heap → Option (List PV)
 | [.clo k [.bx b 0]],H => if Ks.contains k = true then (bN H b).bind (keysV H) else none
 | _,_ => none
def bW (cur : List UInt8) : List UInt8 → List (List UInt8)
 | [] => [cur.reverse]
 | c :: r => if c = 46 then cur.reverse :: bW [] r else bW (c :: cur) r
def aF : List (List UInt8) → List (List UInt8) → Bool
 | _,[] => false
 | [],_ :: _ => true
 | a :: x,b :: y => bytesLess a b || (a == b && aF x y)
def cmpH (a b : List UInt8 × Bool) : Int :=
 if aF (bW [] a.1) (bW [] b.1) then -1 else if aF (bW [] b.1) (bW [] a.1) then 1
 else if a.2 == b.2 then 0 else if a.2 then 1 else -1
def cO (a b : UInt8) (s : List UInt8) : List UInt8 := s.map fun c => if c = a then b else c
def BI : List PV → Option (List PV)
 | [.str s,.str [a],.str [b]] => if s.length ≤ 1000000000 then some [.str (cO a b s)] else none
 | _ => none
def nB : List PV → Option (List UInt8)
 | [] => some []
 | .int .u8 n :: r => if 0 ≤ n ∧ n < 256 then (nB r).map (UInt8.ofNat n.toNat :: ·) else none
 | _ => none
def ae (l : List UInt8) : List PV := l.map fun b => .int .u8 b.toNat
def mS : List PV → Option (List (List UInt8))
 | [] => some []
 | .sl _ 1 xs :: r => match nB xs with
  | some l => (mS r).map (l :: ·)
  | none => none
 | _ => none
def oi : List PV → Option (List PV)
 | [.sl _ 1 xs,.sl .nil 1 []] => match mS xs with
  | some ls => if ls.flatten.length ≤ 1000000000 ∧ ls.length ≤ 1000000000 ∧ 1 ≤ ls.length then some [.sl .any 1 (ae ls.flatten)] else none
  | none => none
 | _ => none
def tq : jS → List AV → Heap → Option (List AV × Heap)
 | _,[.mp id],H => (mapOf H id).map fun es => ([.mp H.length],H ++ [.box (ah es)])
 | _,[.p .nilmap],H => some ([.p .nilmap],H)
 | _,_,_ => none
def p8 : HiFn := ⟨tq,fun c c' _ a H r e => by unfold tq at e ⊢; split at e <;> exact e⟩
def lM (H : Heap) : List (PV × AV) → Option Nat
 | [] => some 0
 | (_,v) :: r => match asLen H false v with
  | some n => (lM H r).map (n + ·)
  | none => none
def usedV (H : Heap) : List AV → Option (List PV)
 | [_,_,.mp m] => (mapOf H m).bind fun es => (lM H es).bind fun n => if n ≤ 1000000000000 then some [.int .i64 (n : Int)] else none
 | [_,_,.p .nilmap] => some [.int .i64 0]
 | _ => none
def usedG : List AV → Heap → Option (List PV)
 | [.p .nilp],_ => some [.int .i64 0]
 | [.bx b 0],H => (bN H b).bind (usedV H)
 | _,_ => none
def iy (ix tr ln : Nat) (call : jS) (b : Nat) : Nat → List UInt8 → Heap → Option (Int × Heap)
 | 0,_,_ => none
 | n + 1,s,H => match s with
  | [] => some (0,H)
  | c :: r => match call ix [.p (.str (c :: r)),.p (.int .u8 10)] H with
   | some ([.p (.int .i64 i)],H1) =>
    if 0 ≤ i ∧ (c :: r).length ≤ i.toNat then none else
    let l := if 0 ≤ i then (c :: r).take (i.toNat + 1) else c :: r
    let r' := if 0 ≤ i then (c :: r).drop (i.toNat + 1) else []
    match call tr [.p (.str l),.p (.str [10])] H1 with
    | some ([.p (.str t)],H2) => match t with
     | [] => iy ix tr ln call b n r' H2
     | x :: t' => if x = 35 then iy ix tr ln call b n r' H2 else
      match call ln [.bx b 0,.p (.str (x :: t'))] H2 with
      | some ([.p (.int .i64 e)],H3) => if e = 0 then iy ix tr ln call b n r' H3 else some (e,H3)
      | _ => none
    | _ => none
   | _ => none
def vJ (b : Nat) (r : Int × Heap) : Option (List AV × Heap) :=
 if r.1 = 0 then match bN r.2 b with
  | some [x,y] => match asLen r.2 false x,asLen r.2 false y with
   | some n,some m => if n ≤ 1000000000 ∧ m ≤ 1000000000 then (if 64 < n ∨ 64 < m then some ([.p .nilp,.p (.int .i64 13)],r.2) else some ([.bx b 0,.p (.int .i64 0)],r.2)) else none
   | _,_ => none
  | _ => none
 else some ([.p .nilp,.p (.int .i64 r.1)],r.2)
def y6 (ix tr ln s1 s2 : Nat) (call : jS) : List AV → Heap → Option (List AV × Heap)
 | [.p (.str s)],H => if s.length ≤ 1000000000 then (iy ix tr ln call H.length (s.length + 1) s (H ++ [.box [.p (.sl .nil s1 []),.p (.sl .nil s2 [])]])).bind (vJ H.length) else none
 | _,_ => none
theorem gC {ix tr ln b : Nat} {c c' : jS} (h : gP c c') : ∀ {n : Nat} {s : List UInt8} {H : Heap} {r : Int × Heap},iy ix tr ln c b n s H = some r → iy ix tr ln c' b n s H = some r
 | 0,_,_,_,e => by cases e
 | n + 1,s,H,r,e => by
  unfold iy at e ⊢
  cases s with
  | nil => exact e
  | cons x l =>
   simp only at e ⊢
   split at e
   ·rename_i i H1 h1
    rw [h _ _ _ _ h1]
    simp only
    split at e
    ·cases e
    rename_i hi
    rw [if_neg hi]
    split at e
    ·rename_i t H2 h2
     rw [h _ _ _ _ h2]
     simp only
     split at e
     ·exact gC h e
     ·rename_i y t'
      split at e
      ·rename_i hy; rw [if_pos hy]; exact gC h e
      ·rename_i hy
       rw [if_neg hy]
       split at e
       ·rename_i er H3 h3
        rw [h _ _ _ _ h3]
        simp only
        split at e
        ·rename_i he; rw [if_pos he]; exact gC h e
        ·rename_i he; rw [if_neg he]; exact e
       ·cases e
    ·cases e
   ·cases e
def zn (ix tr ln s1 s2 : Nat) : HiFn := ⟨y6 ix tr ln s1 s2,fun c c' h a H r e => by
 unfold y6 at e ⊢
 split at e
 ·rename_i s
  split at e
  ·rename_i hl
   rw [if_pos hl]
   obtain ⟨x,h1,h2⟩ := Option.bind_eq_some_iff.1 e
   rw [gC h h1]; exact h2
  ·cases e
 ·cases e⟩
end Ab
