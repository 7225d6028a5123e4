import GoSem.Core.View
import GoSem.Core.Utf8
namespace Ab
open Go (IntKind BinOp UnOp)
inductive SK where
 | nil | tight | any | mem
 deriving DecidableEq
def SK.cut : SK → SK
 | .nil => .nil
 | .any => .any
 | _ => .mem
inductive PV where
 | int (k : IntKind) (n : Int)
 | bool (b : Bool)
 | str (s : List UInt8)
 | nilp
 | nilfn
 | nilmap
 | clo (f : Nat) (caps : List PV)
 | sl (k : SK) (sz : Nat) (xs : List PV)
 | ptr (cells : List PV)
 | agg (cells : List PV)
def PV.cells : PV → List PV
 | .agg cs => cs
 | v => [v]
inductive AV where
 | p (v : PV)
 | own (id n : Nat)
 | bx (id off : Nat)
 | el (id n i off : Nat)
 | mp (id : Nat)
 | agg (cs : List AV)
 | tup (cs : List AV)
 | clo (f : Nat) (caps : List AV)
 | nov
 | any
inductive Blk where
 | box (cells : List AV)
 | row (frozen : Bool) (sz : Nat) (xs : List PV)
 | dead
abbrev Heap := List Blk
abbrev Env := List (Nat × AV)
def look : Env → Nat → AV
 | [],_ => .any
 | (s,v) :: r,t => if s = t then v else look r t
def AV.cells : AV → List AV
 | .p v => v.cells.map .p
 | .agg cs => cs
 | v => [v]
def PV.one : PV → Bool
 | .agg _ => false
 | _ => true
def AV.one : AV → Bool
 | .p v => v.one
 | .own _ _ | .bx _ _ | .el _ _ _ _ | .mp _ | .clo _ _ => true
 | _ => false
def AV.ok : AV → Bool
 | .p _ | .own _ _ | .bx _ _ | .el _ _ _ _ | .mp _ | .clo _ _ | .agg _ => true
 | _ => false
def AV.isP : AV → Bool
 | .p _ => true
 | _ => false
def dH : List AV → Option (List PV)
 | [] => some []
 | .p v :: r => (dH r).map (v :: ·)
 | _ => none
def mkAgg (cs : List AV) : AV :=
 match dH cs with
 | some ps => .p (.agg ps)
 | none => .agg cs
inductive KD where
 | int (k : IntKind)
 | bool
 | str
def ki : KD → PV → Bool
 | .int k,.int k' _ => decide (k' = k)
 | .bool,.bool _ => true
 | .str,.str _ => true
 | _,_ => false
def mkZ : List PV → AV
 | [v] => .p v
 | vs => .p (.agg vs)
inductive Arg where
 | v (t : Nat)
 | c (x : PV)
 | g (n : Nat)
 | f (n : Nat)
structure Parts where
 off : Nat
 sz : Nat
 arg : Arg
inductive QOp where
 | mov (x : Arg)
 | pick (c a b : Arg)
 | nilchk (x : Arg)
 | bin (op : BinOp) (x y : Arg)
 | eqs (kds : List Nat) (neg : Bool) (x y : Arg)
 | eqk (kd : Nat) (neg : Bool) (x y : Arg)
 | un (op : UnOp) (x : Arg)
 | conv (k : IntKind) (x : Arg)
 | same (x : Arg)
 | strOf (x : Arg)
 | runeStr (x : Arg)
 | len (s : Bool) (x : Arg)
 | idx (x i : Arg)
 | aidx (sz : Nat) (ag : Bool) (n : Nat) (x i : Arg)
 | fld (off sz : Nat) (ag : Bool) (x : Arg)
 | faddr (off : Nat) (x : Arg)
 | iaddr (sz : Nat) (x i : Arg)
 | iaddrA (sz n : Nat) (x i : Arg)
 | load (sz : Nat) (ag : Bool) (x : Arg)
 | sliceS (x : Arg) (lo hi : Option Arg)
 | slice (sz : Nat) (x : Arg) (lo hi : Option Arg)
 | build (zero : List PV) (parts : List Parts)
 | bslice (sz : Nat) (ag : Bool) (n : Nat) (zero : List PV) (parts : List Parts)
 | ext (x : Arg) (i : Nat)
 | minmax (mx : Bool) (xs : List Arg)
 | clos (f : Nat) (caps : List Arg)
 | call (f : Arg) (args : List Arg)
 | callr (f : Arg) (args : List Arg)
 | mkt (sz : Nat) (ag : Bool) (zero : List PV) (len cap : Arg)
 | appq (sz : Nat) (x y : Arg)
 | mget (kd : KD) (zero : List PV) (comma : Bool) (x k : Arg)
 | mlen (x : Arg)
 | isnil (neg : Bool) (x y : Arg)
 | loadk (sz : Nat) (ag : Bool) (x k : Arg)
 | lenk (x k : Arg)
 | wslice (sz : Nat) (x : Arg) (lo hi : Option Arg)
 | bad
inductive XOp where
 | alloc (zero : List PV)
 | box (x : Arg)
 | store (sz : Nat) (x v : Arg)
 | mkslice (sz : Nat) (ag : Bool) (zero : List PV) (len cap : Arg)
 | newrow (sz : Nat)
 | append (sz : Nat) (x y : Arg)
 | appendS (x y : Arg)
 | copy (sz : Nat) (x y : Arg)
 | bytesOf (x : Arg)
 | range (x : Arg)
 | next (x : Arg)
 | slicef (sz : Nat) (x : Arg) (lo hi : Option Arg)
 | bslicef (sz : Nat) (ag : Bool) (n : Nat) (zero : List PV) (parts : List Parts)
 | fbox (x : Arg)
 | callz (f : Arg) (args : List Arg)
 | pureq (q : QOp)
 | callf (f : Arg) (args : List Arg)
 | calls (f : Arg) (args : List Arg)
 | treeq (q : QOp)
 | brow (sz : Nat) (ag : Bool) (n : Nat) (zero : List PV) (parts : List Parts)
 | mkmap
 | mset (kd : KD) (x k v : Arg)
 | msets (ks : List Nat) (x k v : Arg)
 | mdel (kd : KD) (x k : Arg)
 | popf (sz : Nat) (x hi : Arg)
 | callk (f : Arg) (args ks : List Arg)
 | callw (f : Arg) (args : List Arg)
 | callwk (f : Arg) (args ks : List Arg)
 | storek (sz : Nat) (x v : Arg) (ks : List Arg)
 | appt (sz : Nat) (x y : Arg)
 | appk (sz : Nat) (x y : Arg) (ks : List Arg)
 | bslk (sz : Nat) (ag : Bool) (n : Nat) (zero : List PV) (parts : List Parts) (ks : List Arg)
 | callwr (f : Arg) (args : List Arg)
structure St where
 dst : Option Nat
 g : Option (Nat × Bool)
 op : QOp ⊕ XOp
inductive Code where
 | skip
 | ops (live : List Nat) (l : List St)
 | seq (a b : Code)
 | cond (c : Arg) (a b : Code)
 | block (live : List Nat) (id : Nat) (c : Code)
 | loop (live : List Nat) (gc : Option Nat) (c : Code)
 | exit (id : Nat)
 | ret
 | bad
inductive RV where
 | slot (t : Nat)
 | cell (t sz : Nat) (ag : Bool)
abbrev jS := Nat → List AV → Heap → Option (List AV × Heap)
def gP (c c' : jS) : Prop := ∀ f a H r,c f a H = some r → c' f a H = some r
structure HiFn where
 go : jS → List AV → Heap → Option (List AV × Heap)
 mono : ∀ c c',gP c c' → ∀ a H r,go c a H = some r → go c' a H = some r
structure AFn where
 np : Nat
 results : List RV
 body : Code
inductive Fn where
 | code (f : AFn)
 | prim (g : List PV → Option (List PV))
 | fresh (g : List PV → Option (Nat × List PV))
 | upd (g : List PV → Nat → List PV → Option (List PV))
 | look (g : List AV → Heap → Option (List PV))
 | lookc (c : Nat) (q : List AV → Heap → Option (List (List PV × Int))) (g : List AV → Heap → Option (List PV))
 | hi (g : HiFn)
structure Ctx where
 fn : Nat → Option Fn
 gl : Nat → Option (List PV)
 gi : List Nat
def Code.still (k : Nat) : Code → Bool
 | .seq a b => a.still k && b.still k
 | .cond _ a b => a.still k && b.still k
 | .block _ _ c => c.still k
 | .loop _ gc c => (match gc with | none => true | some j => decide (k ≤ j)) && c.still k
 | _ => true
def jW (Γ : Ctx) (k f : Nat) : Bool :=
 match Γ.fn f with
 | some (.code fn) => fn.body.still k
 | some _ => true
 | none => false
def Code.stillA : Code → Bool
 | .seq a b => a.stillA && b.stillA
 | .cond _ a b => a.stillA && b.stillA
 | .block _ _ c => c.stillA
 | .loop _ gc c => gc.isNone && c.stillA
 | _ => true
def an (Γ : Ctx) (f : Nat) : Bool :=
 match Γ.fn f with
 | some (.code fn) => fn.body.stillA
 | some _ => true
 | none => false
theorem Code.stillA_still {k : Nat} : ∀ {c : Code},c.stillA = true → c.still k = true
 | .seq a b,h => by
  simp only [stillA,still,Bool.and_eq_true] at h ⊢
  exact ⟨stillA_still h.1,stillA_still h.2⟩
 | .cond _ a b,h => by
  simp only [stillA,still,Bool.and_eq_true] at h ⊢
  exact ⟨stillA_still h.1,stillA_still h.2⟩
 | .block _ _ c,h => by
  simp only [stillA,still] at h ⊢
  exact stillA_still h
 | .loop _ gc c,h => by
  simp only [stillA,still,Bool.and_eq_true] at h ⊢
  refine ⟨?_,stillA_still h.2⟩
  cases gc with
  | none => rfl
  | some j => cases h.1
 | .skip,_ => rfl
 | .ops _ _,_ => rfl
 | .exit _,_ => rfl
 | .ret,_ => rfl
 | .bad,_ => rfl
theorem v8 {Γ : Ctx} {k f : Nat} (h : an Γ f = true) : jW Γ k f = true := by
 unfold an at h
 unfold jW
 cases e : Γ.fn f with
 | none => rw [e] at h; cases h
 | some x =>
  rw [e] at h
  cases x with
  | code fn => exact Code.stillA_still h
  | prim g => rfl
  | fresh g => rfl
  | upd g => rfl
  | look g => rfl
  | lookc c q g => rfl
  | hi g => rfl
def maxI : Int := 9223372036854775807
def lim : Nat := 1073741824
def fm (op : BinOp) (k : IntKind) (a b : Int) : Option PV :=
 match op with
 | .add => some (.int k (k.wrap (a + b)))
 | .sub => some (.int k (k.wrap (a - b)))
 | .mul => some (.int k (k.wrap (a * b)))
 | .quo => if b = 0 then none else some (.int k (k.wrap (a.tdiv b)))
 | .rem => if b = 0 then none else some (.int k (a.tmod b))
 | .and => some (.int k (k.wrap ((BitVec.ofInt k.bits a &&& BitVec.ofInt k.bits b).toNat : Int)))
 | .or => some (.int k (k.wrap ((BitVec.ofInt k.bits a ||| BitVec.ofInt k.bits b).toNat : Int)))
 | .xor => some (.int k (k.wrap ((BitVec.ofInt k.bits a ^^^ BitVec.ofInt k.bits b).toNat : Int)))
 | .andNot => some (.int k (k.wrap ((BitVec.ofInt k.bits a &&& ~~~BitVec.ofInt k.bits b).toNat : Int)))
 | .eql => some (.bool (a == b))
 | .neq => some (.bool (a != b))
 | .lss => some (.bool (decide (a < b)))
 | .leq => some (.bool (decide (a ≤ b)))
 | .gtr => some (.bool (decide (b < a)))
 | .geq => some (.bool (decide (b ≤ a)))
 | .shl => if b < 0 then none else some (.int k (k.wrap (a * 2 ^ (min b.toNat k.bits))))
 | .shr => if b < 0 then none else some (.int k (a.fdiv (2 ^ (min b.toNat k.bits))))
def bytesLess : List UInt8 → List UInt8 → Bool
 | _,[] => false
 | [],_ :: _ => true
 | a :: x,b :: y => a < b || (a == b && bytesLess x y)
def nh (op : BinOp) (a b : List UInt8) : Option PV :=
 match op with
 | .add => if ((a.length + b.length : Nat) : Int) ≤ maxI then some (.str (a ++ b)) else none
 | .eql => some (.bool (a == b))
 | .neq => some (.bool (!(a == b)))
 | .lss => some (.bool (bytesLess a b))
 | .leq => some (.bool (bytesLess a b || a == b))
 | .gtr => some (.bool (!(bytesLess a b || a == b)))
 | .geq => some (.bool (!bytesLess a b))
 | _ => none
def az : List Nat → List PV → List PV → Option Bool
 | [],[],[] => some true
 | 0 :: ks,.int k a :: x,.int k' b :: y => if k = k' then (az ks x y).map ((a == b) && ·) else none
 | 1 :: ks,.bool a :: x,.bool b :: y => (az ks x y).map ((a == b) && ·)
 | 2 :: ks,.str a :: x,.str b :: y => (az ks x y).map ((a == b) && ·)
 | _,_,_ => none
def eqK : Nat → AV → AV → Option Bool
 | 1,.p (.bool a),.p (.bool b) => some (a == b)
 | 3,.p .nilp,.p .nilp => some true
 | 3,.p (.ptr _),.p .nilp => some false
 | 3,.p .nilp,.p (.ptr _) => some false
 | 3,.bx _ _,.p .nilp => some false
 | 3,.p .nilp,.bx _ _ => some false
 | 4,.p (.sl .nil _ _),.p (.sl .nil _ _) => some true
 | 4,.p (.sl .tight _ _),.p (.sl .nil _ _) => some false
 | 4,.p (.sl .mem _ _),.p (.sl .nil _ _) => some false
 | 4,.p (.sl .any _ (_ :: _)),.p (.sl .nil _ _) => some false
 | 5,.p .nilfn,.p .nilfn => some true
 | 5,.p (.clo _ _),.p .nilfn => some false
 | 5,.clo _ _,.p .nilfn => some false
 | _,_,_ => none
def j9 (op : BinOp) (x y : PV) : Option PV :=
 match x,y with
 | .int k a,.int k' b => if k = k' ∨ op = .shl ∨ op = .shr then fm op k a b else none
 | .str a,.str b => nh op a b
 | _,_ => none
def cR (op : BinOp) (x y : AV) : Option AV :=
 match x,y with
 | .p x,.p y => (j9 op x y).map .p
 | _,_ => none
def eqsA (kds : List Nat) (neg : Bool) : AV → AV → Option AV
 | .p (.agg a),.p (.agg b) => (az kds a b).map fun t => .p (.bool (t != neg))
 | _,_ => none
def eqkA (kd : Nat) (neg : Bool) (x y : AV) : Option AV := (eqK kd x y).map fun t => .p (.bool (t != neg))
def unPV (op : UnOp) (x : PV) : Option PV :=
 match op,x with
 | .neg,.int k n => some (.int k (k.wrap (0 - n)))
 | .xor,.int k n => some (.int k (k.wrap ((BitVec.ofInt k.bits (if k.signed then -1 else k.max) ^^^ BitVec.ofInt k.bits n).toNat : Int)))
 | .not,.bool b => some (.bool (!b))
 | _,_ => none
def kp (sz : Nat) (ag : Bool) (cs : List PV) : Option AV :=
 if ag then (if sz ≤ cs.length then some (.p (.agg (cs.take sz))) else none)
 else cs.head?.map .p
def takeA (sz : Nat) (ag : Bool) (cs : List AV) : Option AV :=
 if ag then (if sz ≤ cs.length then some (mkAgg (cs.take sz)) else none)
 else cs.head?
def rowOf (H : Heap) (id n : Nat) : Option (Nat × List PV) :=
 match H[id]? with
 | some (.row _ sz xs) => if xs.length = n then some (sz,xs) else none
 | _ => none
def bN (H : Heap) (id : Nat) : Option (List AV) :=
 match H[id]? with
 | some (.box (.nov :: _)) => none
 | some (.box cs) => some cs
 | _ => none
def ef : List (PV × AV) → List AV
 | [] => []
 | (k,v) :: r => .p k :: v :: ef r
def ah (es : List (PV × AV)) : List AV := .nov :: .nov :: ef es
def jD : List AV → Option (List (PV × AV))
 | [] => some []
 | .p k :: v :: r => (jD r).map ((k,v) :: ·)
 | _ => none
def mapOf (H : Heap) (id : Nat) : Option (List (PV × AV)) :=
 match H[id]? with
 | some (.box (.nov :: .nov :: cs)) => jD cs
 | _ => none
def lm : PV → PV → Option Bool
 | .int k a,.int k' b => if k = k' then some (a == b) else none
 | .str a,.str b => some (a == b)
 | .bool a,.bool b => some (a == b)
 | _,_ => none
def jc (k : PV) : List (PV × AV) → Option (Option AV)
 | [] => some none
 | (k',v) :: r => match lm k k' with
  | some true => some (some v)
  | some false => jc k r
  | none => none
def mput (k : PV) (v : AV) : List (PV × AV) → Option (List (PV × AV))
 | [] => some [(k,v)]
 | (k',v') :: r => match lm k k' with
  | some true => some ((k,v) :: r)
  | some false => (mput k v r).map ((k',v') :: ·)
  | none => none
def yH (k : PV) : List (PV × AV) → Option (List (PV × AV))
 | [] => some []
 | (k',v') :: r => match lm k k' with
  | some true => some r
  | some false => (yH k r).map ((k',v') :: ·)
  | none => none
def cv (s : List UInt8) (pos : Nat) : List AV := [.nov,.p (.str s),.p (.int .i64 (pos : Int))]
def ifB {α : Type} (b : Bool) (x : Option α) : Option α := match b with | true => x | false => none
def mapO {α β : Type} (f : α → Option β) : List α → Option (List β)
 | [] => some []
 | c :: r => match f c with
  | some x => match mapO f r with
   | some xs => some (x :: xs)
   | none => none
  | none => none
def aq (H : Heap) : Nat → AV → Option PV
 | 0,.p v => some v
 | 0,_ => none
 | d + 1,v => match v with
  | .p v => some v
  | .own id n => (rowOf H id n).map fun r => .sl .any r.1 r.2
  | .bx id off => (bN H id).bind fun cs => if off < cs.length then (mapO (aq H d) (cs.drop off)).map .ptr else none
  | .el id n i off => if n ≤ i then (rowOf H id n).bind fun r => if i - n < n ∧ i - n ≤ off ∧ off ≤ n then some (.sl .mem r.1 ((r.2.take off).drop (i - n))) else none
   else (rowOf H id n).bind fun r => r.2[i]?.bind fun x => if off < x.cells.length then some (.ptr (x.cells.drop off)) else none
  | .agg cs => (mapO (aq H d) cs).map .agg
  | .clo f cs => (mapO (aq H d) cs).map (.clo f)
  | _ => none
def Aj : PV → Bool
 | .int _ _ | .bool _ | .str _ | .nilp | .nilfn | .nilmap => true
 | .sl .nil _ _ => true
 | _ => false
def flat : PV → Bool
 | .agg cs => cs.all Aj
 | v => Aj v
def allP : List AV → Bool
 | [] => true
 | .p _ :: r => allP r
 | _ => false
def freeze (H : Heap) : List AV → Heap
 | [] => H
 | .own id _ :: r => freeze (match H[id]? with | some (.row _ sz xs) => H.set id (.row true sz xs) | _ => H) r
 | _ :: r => freeze H r
def iC : List AV → Bool
 | [] => true
 | .p _ :: r | .own _ _ :: r => iC r
 | _ => false
def results : List AV → AV
 | [v] => v
 | vs => .tup vs
def AV.refs : AV → List Nat
 | .own id _ | .bx id _ | .el id _ _ _ | .mp id => [id]
 | .agg cs | .tup cs | .clo _ cs => cs.flatMap fun
  | .own id _ | .bx id _ | .el id _ _ _ | .mp id => [id]
  | .agg cs | .tup cs | .clo _ cs => cs.flatMap fun
   | .own id _ | .bx id _ | .el id _ _ _ | .mp id => [id]
   | _ => []
  | _ => []
 | _ => []
def Blk.refs : Blk → List Nat
 | .box cs => cs.flatMap AV.refs
 | _ => []
def ct (H : Heap) : Nat → List Nat → List Nat → List Nat
 | 0,_,acc => acc
 | _ + 1,[],acc => acc
 | n + 1,id :: r,acc =>
  if acc.contains id then ct H n r acc
  else ct H n (r ++ (match H[id]? with | some b => b.refs | none => [])) (acc ++ [id])
def place (L : List Nat) (id : Nat) : Option Nat :=
 match L with
 | [] => none
 | x :: r => if x = id then some 0 else (place r id).map (· + 1)
def AV.ren (r : Nat → Option Nat) : Nat → AV → Option AV
 | _,.p v => some (.p v)
 | _,.own id n => (r id).map (.own · n)
 | _,.bx id off => (r id).map (.bx · off)
 | _,.el id n i off => (r id).map (.el · n i off)
 | _,.mp id => (r id).map .mp
 | _,.nov => some .nov
 | _,.any => some .any
 | 0,_ => none
 | d + 1,.agg cs => (mapO (AV.ren r d) cs).map .agg
 | d + 1,.tup cs => (mapO (AV.ren r d) cs).map .tup
 | d + 1,.clo f cs => (mapO (AV.ren r d) cs).map (.clo f)
def Blk.ren (r : Nat → Option Nat) : Blk → Option Blk
 | .box cs => (mapO (AV.ren r 3) cs).map .box
 | .row f sz xs => some (.row f sz xs)
 | .dead => some .dead
def Heap.pick (H : Heap) (L : List Nat) : Option Heap := mapO (fun id => (H[id]?).bind (Blk.ren (place L))) L
def bC (H : Heap) : List Nat → List Blk → Heap
 | id :: L,b :: bs => bC (H.set id b) L bs
 | _,_ => H
def jd : Blk → Blk
 | .row _ sz xs => .row true sz xs
 | _ => .dead
def kill (H : Heap) : List Nat → Heap
 | [] => H
 | id :: L => kill (match H[id]? with | some b => H.set id (jd b) | none => H) L
def cl (H : Heap) (vs : List AV) : Option (List PV × Heap) :=
 let L := ct H 64 (vs.flatMap AV.refs) []
 (mapO (AV.ren (place L) 3) vs).bind fun vs' => (Heap.pick H L).bind fun HL => (mapO (aq HL 4) vs').map fun ps => (ps,kill H L)
def tidy (k : Nat) (r : List AV × Heap) : Option (List AV × Heap) :=
 let L := ct r.2 64 (r.1.flatMap AV.refs ++ (r.2.take k).flatMap Blk.refs) (List.range k)
 (mapO (AV.ren (place L) 3) r.1).bind fun rs => (Heap.pick r.2 L).map fun B => (rs,B)
def backTo (H : Heap) (L : List Nat) (id : Nat) : Option Nat := if id < L.length then L[id]? else some (H.length + (id - L.length))
def mG (H : Heap) (L : List Nat) (r : List AV × Heap) : Option (List AV × Heap) :=
 (mapO (AV.ren (backTo H L) 3) r.1).bind fun rs => (mapO (Blk.ren (backTo H L)) r.2).map fun bs => (rs,bC H L bs ++ bs.drop L.length)
section
variable (Γ : Ctx) (call : Nat → List AV → Heap → Option (List AV × Heap)) (σ : Nat → AV) (H : Heap)
def Arg.ev : Arg → AV
 | .v t => σ t
 | .c x => .p x
 | .g n => match Γ.gl n with
  | some cs => .p (.ptr cs)
  | none => .any
 | .f n => .p (.clo n [])
def asInt : AV → Option Int
 | .p (.int _ n) => some n
 | _ => none
def asLen : Bool → AV → Option Nat
 | true,.p (.str s) => some s.length
 | false,.p (.sl _ _ xs) => some xs.length
 | false,.own id n => (rowOf H id n).map fun _ => n
 | _,_ => none
def eH (sz : Nat) (ag : Bool) : AV → Option AV
 | .p (.ptr cells) => kp sz ag cells
 | .bx id off => (bN H id).bind fun cs => takeA sz ag (cs.drop off)
 | .el id n i off => (rowOf H id n).bind fun r => r.2[i]?.bind fun x => kp sz ag (x.cells.drop off)
 | _ => none
def iaddrA (sz : Nat) (x i : AV) : Option AV :=
 match x,i with
 | .p (.sl _ sz' xs),.p (.int _ i) =>
  if sz = sz' ∧ 0 ≤ i then (xs[i.toNat]?).map fun x => .p (.ptr x.cells) else none
 | .own id n,.p (.int _ i) =>
  (rowOf H id n).bind fun r => if sz = r.1 ∧ 0 ≤ i ∧ i < n then some (.el id n i.toNat 0) else none
 | _,_ => none
def bound (n : Nat) (d : Nat) : Option AV → Option Nat
 | none => some d
 | some (.p (.int _ i)) => if 0 ≤ i ∧ i ≤ n then some i.toNat else none
 | _ => none
def dv (x : AV) (lo hi : Option AV) : Option AV :=
 match x with
 | .p (.str s) => (bound s.length s.length hi).bind fun h => (bound h 0 lo).map fun l => .p (.str ((s.take h).drop l))
 | _ => none
def cQ (sz : Nat) (x : AV) (lo hi : Option AV) : Option AV :=
 match x with
 | .p (.sl k sz' xs) =>
  if sz = sz' then (bound xs.length xs.length hi).bind fun h => (bound h 0 lo).map fun l => .p (.sl k.cut sz ((xs.take h).drop l)) else none
 | _ => none
def eX (zero : List AV) : List (Nat × Nat × AV) → Option (List AV)
 | [] => some zero
 | (off,sz,v) :: r =>
  if v.ok = true ∧ v.cells.length = sz ∧ off + sz ≤ zero.length then eX (zero.take off ++ v.cells ++ zero.drop (off + sz)) r else none
def chunks (sz : Nat) (ag : Bool) : Nat → List PV → List PV
 | 0,_ => []
 | n + 1,cs => (if ag then .agg (cs.take sz) else cs.headD .nilp) :: chunks sz ag n (cs.drop sz)
def minmax (mx : Bool) : List AV → Option AV
 | [.p (.int k x),.p (.int _ y)] => some (.p (.int k (if mx then (if x < y then y else x) else (if y < x then y else x))))
 | [.p (.int k x),.p (.int _ y),.p (.int _ z)] =>
  let m := if mx then (if x < y then y else x) else (if y < x then y else x)
  some (.p (.int k (if mx then (if m < z then z else m) else (if z < m then z else m))))
 | _ => none
def bytesIn : List PV → Option (List UInt8)
 | [] => some []
 | .int .u8 n :: r => (bytesIn r).map (UInt8.ofNat n.toNat :: ·)
 | _ => none
def callee : AV → Option (Nat × List AV)
 | .p (.clo f cs) => some (f,cs.map .p)
 | .clo f cs => some (f,cs)
 | _ => none
def mi (f : AV) (args : List AV) : Option (List PV) :=
 (callee f).bind fun fc => (mapO (aq H 4) (args ++ fc.2)).bind fun ps => (call fc.1 (ps.map .p) []).bind fun r => mapO (aq r.2 4) r.1
def frC (H : Heap) : AV → Bool
 | .p v => Aj v
 | .own id n => match H[id]? with
  | some (.row false _ xs) => xs.length == n && xs.all flat
  | _ => false
 | _ => false
def frR (H : Heap) : AV → Bool
 | .p v => flat v
 | .agg cs => cs.all (frC H)
 | v => frC H v
def ma (f : AV) (args : List AV) : Option (List PV) :=
 (callee f).bind fun fc => (mapO (aq H 4) (args ++ fc.2)).bind fun ps => (call fc.1 (ps.map .p) []).bind fun r => ifB (r.1.all (frR r.2)) (mapO (aq r.2 4) r.1)
def rL (c a b : AV) : Option AV :=
 match c with
 | .p (.bool t) => some (if t = true then a else b)
 | _ => none
def elOk (id n i : Nat) : Bool :=
 match rowOf H id n with
 | some _ => decide (i < n)
 | none => false
def eS : AV → Option AV
 | .p (.ptr cs) => some (.p (.ptr cs))
 | .bx id off => some (.bx id off)
 | .el id n i off => ifB (elOk H id n i) (some (.el id n i off))
 | .p (.clo f cs) => some (.p (.clo f cs))
 | .clo f cs => some (.clo f cs)
 | _ => none
def unA (op : UnOp) : AV → Option AV
 | .p v => (unPV op v).map .p
 | _ => none
def convA (k : IntKind) : AV → Option AV
 | .p (.int _ n) => some (.p (.int k (k.wrap n)))
 | _ => none
def sameA : AV → Option AV
 | .p (.str s) => some (.p (.str s))
 | _ => none
def idxA : AV → AV → Option AV
 | .p (.str s),.p (.int _ i) => if 0 ≤ i then (s[i.toNat]?).map fun b => .p (.int .u8 b.toNat) else none
 | _,_ => none
def aidxA (sz : Nat) (ag : Bool) (n : Nat) : AV → AV → Option AV
 | .p (.agg cs),.p (.int _ i) => if 0 ≤ i ∧ i < n ∧ cs.length = n * sz then kp sz ag (cs.drop (i.toNat * sz)) else none
 | _,_ => none
def fldA (off sz : Nat) (ag : Bool) : AV → Option AV
 | .p (.agg cs) => kp sz ag (cs.drop off)
 | .agg cs => takeA sz ag (cs.drop off)
 | _ => none
def ju (off : Nat) : AV → Option AV
 | .p (.ptr cs) => if off < cs.length then some (.p (.ptr (cs.drop off))) else none
 | .bx id o => some (.bx id (o + off))
 | .el id n i o => ifB (elOk H id n i) (some (.el id n i (o + off)))
 | _ => none
def uB (sz n : Nat) : AV → AV → Option AV
 | .p (.ptr cs),.p (.int _ i) => if 0 ≤ i ∧ i < n ∧ i.toNat * sz < cs.length then some (.p (.ptr (cs.drop (i.toNat * sz)))) else none
 | .bx id o,.p (.int _ i) => if 0 ≤ i ∧ i < n then some (.bx id (o + i.toNat * sz)) else none
 | _,_ => none
def m8 (sz : Nat) (ag : Bool) (n : Nat) (cs : Option (List AV)) : Option AV :=
 cs.bind fun cs => (dH cs).bind fun ps => if ps.length = n * sz then some (.p (.sl .tight sz (chunks sz ag n ps))) else none
def appqA (sz : Nat) : AV → AV → Option AV
 | .p (.sl k sz' []),.p (.sl k2 sz2 ys) => if (k = .nil ∨ (k = .tight ∧ sz' = sz)) ∧ (sz = sz2 ∨ k2 = .nil) ∧ ys.length ≤ lim then some (.p (.sl .any sz ys)) else none
 | _,_ => none
def mktA (sz : Nat) (ag : Bool) (zero : List PV) : AV → AV → Option AV
 | .p (.int _ n),.p (.int _ c) => if 0 ≤ n ∧ n = c ∧ n ≤ lim ∧ 0 < n then some (.p (.sl .any sz (List.replicate n.toNat (if ag then .agg zero else zero.headD .nilp)))) else none
 | _,_ => none
def mres (comma : Bool) (zero : AV) : Option AV → AV
 | some v => if comma then .tup [v,.p (.bool true)] else v
 | none => if comma then .tup [zero,.p (.bool false)] else zero
def w6 (kd : KD) (zero : List PV) (comma : Bool) : AV → AV → Option AV
 | .p .nilmap,.p k => ifB (ki kd k) (some (mres comma (mkZ zero) none))
 | .mp id,.p k => ifB (ki kd k) ((mapOf H id).bind fun es => (jc k es).map (mres comma (mkZ zero)))
 | _,_ => none
def BT : AV → Option AV
 | .p .nilmap => some (.p (.int .i64 0))
 | .mp id => (mapOf H id).map fun es => .p (.int .i64 (es.length : Nat))
 | _ => none
def kn (neg : Bool) : AV → AV → Option AV
 | .own id n,.p (.sl .nil _ _) => (rowOf H id n).bind fun _ => if 0 < n then some (.p (.bool neg)) else none
 | x,y => eqkA 4 neg x y
def yR (sz : Nat) (ag : Bool) (n : Nat) (cs : Option (List AV)) : Option (AV × Heap) :=
 cs.bind fun cs => (dH cs).bind fun ps => if ps.length = n * sz ∧ n ≤ lim then some (.own H.length n,H ++ [.row false sz (chunks sz ag n ps)]) else none
def kY (v : AV) : Option (AV × Heap) := (cl H [v]).bind fun r => r.1.head?.map fun p => (.p p,r.2)
def rx (kd : KD) (x k v : AV) : Option Heap :=
 match x,k with
 | .mp id,.p k => ifB (ki kd k && v.ok) ((mapOf H id).bind fun es => (mput k v es).map fun es' => H.set id (.box (ah es')))
 | _,_ => none
def Ai (ks : List Nat) (k : List PV) (v : AV) : List (PV × AV) → Option (List (PV × AV))
 | [] => some [(.agg k,v)]
 | (.agg k',v') :: r => match az ks k k' with
  | some true => some ((.agg k,v) :: r)
  | some false => (Ai ks k v r).map ((.agg k',v') :: ·)
  | none => none
 | _ => none
def Bn (ks : List Nat) (x k v : AV) : Option Heap :=
 match x,k with
 | .mp id,.p (.agg k) => ifB (az ks k k == some true && v.ok) ((mapOf H id).bind fun es => (Ai ks k v es).map fun es' => H.set id (.box (ah es')))
 | _,_ => none
def mdelA (kd : KD) (x k : AV) : Option Heap :=
 match x,k with
 | .mp id,.p k => ifB (ki kd k) ((mapOf H id).bind fun es => (yH k es).map fun es' => H.set id (.box (ah es')))
 | _,_ => none
def extA (i : Nat) : AV → Option AV
 | .tup vs => vs[i]?
 | _ => none
def A8 (f : Nat) (cs : List AV) : AV :=
 match dH cs with
 | some ps => .p (.clo f ps)
 | none => .clo f cs
def mK : AV → Option AV
 | .p (.int _ n) => some (.p (.str (Go.Utf8.encode n).data.toList))
 | _ => none
def kJ : AV → Option AV
 | .p (.sl _ sz xs) => if sz = 1 then (bytesIn xs).map fun s => .p (.str s) else none
 | .own id n => (rowOf H id n).bind fun r => if r.1 = 1 then (bytesIn r.2).map fun s => .p (.str s) else none
 | _ => none
def gF (sz : Nat) (x : AV) (lo hi : Option AV) : Option AV :=
 match x with
 | .own id n => (rowOf H id n).bind fun r => if sz = r.1 then (bound n n hi).bind fun h => (bound h 0 lo).bind fun l => if l < n then some (.el id n (n + l) h) else none else none
 | _ => none
def oA (sz : Nat) (ag : Bool) : AV → AV → Option AV
 | .bx id off,.bx id' _ => if id = id' then eH H sz ag (.bx id off) else none
 | _,_ => none
def heldC : List AV → AV → Bool
 | [.own i n],.own j m => i == j && n == m
 | _,.p (.sl _ _ _) => true
 | _,_ => false
def yp (x : AV) : AV → Option AV
 | .bx id' _ => (bN H id').bind fun cs => ifB (heldC cs x) ((asLen H false x).map fun (n : Nat) => .p (.int .i64 (n : Int)))
 | _ => none
def evQ : QOp → Option AV
 | .bad => none
 | .mov x => some (x.ev Γ σ)
 | .pick c a b => rL (c.ev Γ σ) (a.ev Γ σ) (b.ev Γ σ)
 | .nilchk x => eS H (x.ev Γ σ)
 | .bin op x y => cR op (x.ev Γ σ) (y.ev Γ σ)
 | .eqs ks neg x y => eqsA ks neg (x.ev Γ σ) (y.ev Γ σ)
 | .eqk kd neg x y => eqkA kd neg (x.ev Γ σ) (y.ev Γ σ)
 | .un op x => unA op (x.ev Γ σ)
 | .conv k x => convA k (x.ev Γ σ)
 | .same x => sameA (x.ev Γ σ)
 | .strOf x => kJ H (x.ev Γ σ)
 | .runeStr x => mK (x.ev Γ σ)
 | .len s x => (asLen H s (x.ev Γ σ)).map fun (n : Nat) => .p (.int .i64 (n : Int))
 | .idx x i => idxA (x.ev Γ σ) (i.ev Γ σ)
 | .aidx sz ag n x i => aidxA sz ag n (x.ev Γ σ) (i.ev Γ σ)
 | .fld off sz ag x => fldA off sz ag (x.ev Γ σ)
 | .faddr off x => ju H off (x.ev Γ σ)
 | .iaddr sz x i => iaddrA H sz (x.ev Γ σ) (i.ev Γ σ)
 | .iaddrA sz n x i => uB sz n (x.ev Γ σ) (i.ev Γ σ)
 | .load sz ag x => eH H sz ag (x.ev Γ σ)
 | .sliceS x lo hi => dv (x.ev Γ σ) (lo.map (Arg.ev Γ σ)) (hi.map (Arg.ev Γ σ))
 | .slice sz x lo hi => cQ sz (x.ev Γ σ) (lo.map (Arg.ev Γ σ)) (hi.map (Arg.ev Γ σ))
 | .build zero parts => (eX (zero.map .p) (parts.map fun q => (q.off,q.sz,q.arg.ev Γ σ))).map mkAgg
 | .bslice sz ag n zero parts => m8 sz ag n (eX (zero.map .p) (parts.map fun q => (q.off,q.sz,q.arg.ev Γ σ)))
 | .ext x i => extA i (x.ev Γ σ)
 | .appq sz x y => appqA sz (x.ev Γ σ) (y.ev Γ σ)
 | .mget kd zero comma x k => w6 H kd zero comma (x.ev Γ σ) (k.ev Γ σ)
 | .mlen x => BT H (x.ev Γ σ)
 | .isnil neg x y => kn H neg (x.ev Γ σ) (y.ev Γ σ)
 | .wslice sz x lo hi => gF H sz (x.ev Γ σ) (lo.map (Arg.ev Γ σ)) (hi.map (Arg.ev Γ σ))
 | .loadk sz ag x k => oA H sz ag (x.ev Γ σ) (k.ev Γ σ)
 | .lenk x k => yp H (x.ev Γ σ) (k.ev Γ σ)
 | .minmax mx xs => minmax mx (xs.map (Arg.ev Γ σ))
 | .clos f caps => ifB ((caps.map (Arg.ev Γ σ)).all AV.one) (some (A8 f (caps.map (Arg.ev Γ σ))))
 | .callr f args => (ma call H (f.ev Γ σ) (args.map (Arg.ev Γ σ))).map fun rs => results (rs.map .p)
 | .mkt sz ag zero n c => mktA sz ag zero (n.ev Γ σ) (c.ev Γ σ)
 | .call f args => let as := args.map (Arg.ev Γ σ)
  (mi call H (f.ev Γ σ) as).bind fun rs => ifB (allP as && (f.ev Γ σ).isP || rs.all flat) (some (results (rs.map .p)))
def oy (off sz : Nat) (ps : List PV) : PV → PV
 | .agg cs => .agg (cs.take off ++ ps ++ cs.drop (off + sz))
 | _ => ps.headD .nilp
def ia (sz : Nat) (x v : AV) : Option Heap :=
 match x with
 | .bx id off => (bN H id).bind fun cs =>
  if v.ok = true ∧ v.cells.length = sz ∧ off + sz ≤ cs.length then some (H.set id (.box (cs.take off ++ v.cells ++ cs.drop (off + sz)))) else none
 | .el id n i off =>
  match H[id]? with
  | some (.row false sz' xs) => if xs.length = n then
    (xs[i]?).bind fun x => (dH v.cells).bind fun ps =>
     if v.ok = true ∧ 0 < sz ∧ ps.length = sz ∧ off + sz ≤ x.cells.length then
      some (H.set id (.row false sz' (xs.set i (oy off sz ps x)))) else none
   else none
  | _ => none
 | _ => none
def elemsOf (sz : Nat) : AV → Option (List PV)
 | .p (.sl k sz' xs) => if sz = sz' ∨ k = .nil then some xs else none
 | .own id n => (rowOf H id n).bind fun r => if sz = r.1 then some r.2 else none
 | _ => none
def aW (sz : Nat) (x : AV) (ys : List PV) : Option (AV × Heap) :=
  match x with
  | .own id n =>
    match H[id]? with
    | some (.row false sz' xs) => if xs.length = n ∧ sz' = sz ∧ (xs ++ ys).length ≤ lim then
        some (.own id (xs ++ ys).length,H.set id (.row false sz (xs ++ ys))) else none
    | _ => none
  | .p (.sl k sz' xs) => if (k = .nil ∨ (k = .tight ∧ sz' = sz)) ∧ (xs ++ ys).length ≤ lim then
      (match xs,ys with
       | [],ys => some (.own H.length ys.length,H ++ [.row false sz ys])
       | x :: xs,[] => some (.p (.sl k sz' (x :: xs)),H)
       | x :: xs,y :: ys => some (.own H.length (x :: xs ++ y :: ys).length,H ++ [.row false sz (x :: xs ++ y :: ys)])) else none
  | _ => none
def cz (xs : List PV) (l : Nat) (cs : List PV) : List PV := xs.take l ++ cs ++ xs.drop (l + cs.length)
def ey (sz : Nat) : AV → Option (List PV)
 | .el id n i h => if n ≤ i ∧ i - n < n ∧ i - n ≤ h ∧ h ≤ n then (rowOf H id n).bind fun r => if sz = r.1 then some ((r.2.take h).drop (i - n)) else none else none
 | y => elemsOf H sz y
def oO (f : AV) (args : List AV) : Option (List AV × Heap) :=
 (callee f).bind fun fc =>
  let as := args ++ fc.2
  let L := ct H 64 (as.flatMap AV.refs) []
  ifB (L.isEmpty || jW Γ L.length fc.1) ((mapO (AV.ren (place L) 3) as).bind fun as' => (Heap.pick H L).bind fun HL => (call fc.1 as' HL).bind fun r =>
   (tidy L.length r).bind fun r' => mG H L r')
def kZ (f : AV) (args : List AV) : Option (List AV × Heap) :=
 (callee f).bind fun fc => ifB (an Γ fc.1) (call fc.1 (args ++ fc.2) H)
def jy (H : Heap) (ks : List AV) : Bool := ks.all fun k => match k with
 | .bx id _ => (match H[id]? with | some (.box _) => true | _ => false)
 | _ => false
def rowLen (H : Heap) (i n : Nat) : Bool := match H[i]? with
 | some (.row _ _ xs) => xs.length == n
 | _ => false
def A7 : List PV → Option (List (List UInt8))
 | [] => some []
 | .str s :: r => (A7 r).map (s :: ·)
 | _ => none
mutual
def eqP : PV → PV → Bool
 | .int k n,.int k' n' => decide (k = k') && n == n'
 | .bool a,.bool b => a == b
 | .str a,.str b => a == b
 | .nilp,.nilp => true
 | .nilfn,.nilfn => true
 | .nilmap,.nilmap => true
 | .clo f xs,.clo g ys => f == g && eqPs xs ys
 | .sl k sz xs,.sl k' sz' ys => decide (k = k') && sz == sz' && eqPs xs ys
 | .ptr xs,.ptr ys => eqPs xs ys
 | .agg xs,.agg ys => eqPs xs ys
 | _,_ => false
def eqPs : List PV → List PV → Bool
 | [],[] => true
 | a :: r,b :: q => eqP a b && eqPs r q
 | _,_ => false
end
mutual
def eqA : AV → AV → Bool
 | .p a,.p b => eqP a b
 | .own i n,.own j m => i == j && n == m
 | .bx i o,.bx j q => i == j && o == q
 | .el i n a o,.el j m b q => i == j && n == m && a == b && o == q
 | .mp i,.mp j => i == j
 | .agg xs,.agg ys => eqAs xs ys
 | .tup xs,.tup ys => eqAs xs ys
 | .clo f xs,.clo g ys => f == g && eqAs xs ys
 | .nov,.nov => true
 | .any,.any => true
 | _,_ => false
def eqAs : List AV → List AV → Bool
 | [],[] => true
 | a :: r,b :: q => eqA a b && eqAs r q
 | _,_ => false
end
def eqB : Blk → Blk → Bool
 | .box a,.box b => eqAs a b
 | .row f s x,.row g t y => f == g && s == t && eqPs x y
 | .dead,.dead => true
 | _,_ => false
def preB : Heap → Heap → Bool
 | [],_ => true
 | b :: r,c :: q => eqB b c && preB r q
 | _ :: _,[] => false
def Bi : List AV → Bool
 | [.own _ _] => true
 | _ => false
def eV (H H' : Heap) (id : Nat) : Bool := match H[id]?,H'[id]? with
 | some (.box [.own i n]),some (.box [.own j m]) => i == j && n == m && rowLen H i n && rowLen H' i n
 | some (.box [.p (.sl .nil a [])]),some (.box [.p (.sl .nil b [])]) => a == b
 | some (.box [.p (.sl .any a xs)]),some (.box [.p (.sl .any b ys)]) => a == b && (match A7 xs,A7 ys with
  | some l,some m => l == m
  | _,_ => false)
 | some (.box cs),some (.box ds) => eqAs cs ds && !Bi cs
 | _,_ => false
def keepW (H H' : Heap) (ks : List AV) : Bool := ks.all fun k => match k with
 | .bx id _ => eV H H' id
 | _ => false
def lp (f : AV) (args : List AV) : Option (List AV × Heap) :=
 (kZ Γ call H f args).bind fun r => ifB (preB H r.2) (some r)
def jF (f : AV) (args ks : List AV) : Option (List AV × Heap) :=
 (kZ Γ call H f args).bind fun r => ifB (keepW H r.2 ks) (some r)
def AL (f : AV) (args : List AV) : Option (List PV × Heap) :=
 (callee f).bind fun fc => (cl H (args ++ fc.2)).bind fun q => (call fc.1 (q.1.map .p) []).bind fun r => (mapO (aq r.2 4) r.1).map fun rs => (rs,q.2)
def mt (L : List Nat) (ks : List AV) : Bool := ks.all fun k => match k with
 | .bx id _ => decide (id < H.length) && !L.contains id
 | _ => true
def sI (f : AV) (args ks : List AV) : Option (List AV × Heap) :=
 (callee f).bind fun fc => ifB (mt H (ct H 64 ((args ++ fc.2).flatMap AV.refs) []) ks) (oO Γ call H f args)
def nS (sz : Nat) (x v : AV) (ks : List AV) : Option Heap :=
 ifB (mt H (match x with | .bx id _ => [id] | .el id _ _ _ => [id] | _ => []) ks) (ia H sz x v)
def popA (sz : Nat) : AV → AV → Option (AV × Heap)
 | .own id n,.p (.int _ h) => match H[id]? with
  | some (.row false sz' xs) => if xs.length = n ∧ sz' = sz ∧ 0 ≤ h ∧ h ≤ n then some (.own H.length h.toNat,H.set id .dead ++ [.row false sz (xs.take h.toNat)]) else none
  | _ => none
 | _,_ => none
def i6 (sz : Nat) (ag : Bool) (n : Nat) (cs : Option (List AV)) : Option (AV × Heap) :=
 cs.bind fun cs => (cl H cs).bind fun q => ifB (q.1.length == n * sz) (some (.p (.sl .tight sz (chunks sz ag n q.1)),q.2))
def bslkA (sz : Nat) (ag : Bool) (n : Nat) (cs : Option (List AV)) (ks : List AV) : Option (AV × Heap) :=
 cs.bind fun l => ifB (mt H (ct H 64 (l.flatMap AV.refs) []) ks) (i6 H sz ag n (some l))
def fboxA (v : AV) : Option (AV × Heap) :=
 (cl H v.cells).bind fun q => ifB (v.ok && !q.1.isEmpty) (some (.p (.ptr q.1),q.2))
def fe (sz : Nat) (ag : Bool) (zero : List PV) : AV → AV → Option (AV × Heap)
 | .p (.int _ n),.p (.int _ c) =>
  if 0 ≤ n ∧ n = c ∧ n ≤ lim then some (.own H.length n.toNat,H ++ [.row false sz (List.replicate n.toNat (if ag then .agg zero else zero.headD .nilp))])
  else if n = 0 ∧ 0 ≤ c ∧ c ≤ lim then some (.own H.length 0,H ++ [.row false sz []]) else none
 | _,_ => none
def boxA (v : AV) : Option (AV × Heap) :=
 match v.ok with
 | true => some (.bx H.length 0,H ++ [.box v.cells])
 | false => none
def mJ (x : AV) : AV → Option (AV × Heap)
 | .p (.str s) => match x with
  | .own id n => aW H 1 (.own id n) (s.map fun b => .int .u8 b.toNat)
  | .p (.sl .nil sz []) => aW H 1 (.p (.sl .nil sz [])) (s.map fun b => .int .u8 b.toNat)
  | _ => none
 | _ => none
def kK : AV → Option (AV × Heap)
 | .p (.str s) => if s.length ≤ lim then some (.own H.length s.length,H ++ [.row false 1 (s.map fun b => .int .u8 b.toNat)]) else none
 | _ => none
def tF (sz : Nat) (x : AV) (ys : List PV) : Option (AV × Heap) :=
 match x with
 | .own id n => match H[id]? with
  | some (.row false sz' xs) => if xs.length = n ∧ sz' = sz ∧ 0 < n then some (.p (.int .i64 (min ys.length n : Nat)),H.set id (.row false sz (cz xs 0 (ys.take n)))) else none
  | _ => none
 | .el id n i h => if n ≤ i ∧ i - n < n ∧ i - n ≤ h ∧ h ≤ n then match H[id]? with
  | some (.row false sz' xs) => if xs.length = n ∧ sz' = sz then some (.p (.int .i64 (min ys.length (h - (i - n)) : Nat)),H.set id (.row false sz (cz xs (i - n) (ys.take (h - (i - n)))))) else none
  | _ => none
  else none
 | _ => none
def jH (sz : Nat) (x : AV) (lo hi : Option AV) : Option (AV × Heap) :=
 match x with
 | .own id n => (rowOf H id n).bind fun r => (cQ sz (.p (.sl .any r.1 r.2)) lo hi).map fun v => (v,freeze H [.own id n])
 | x => (cQ sz x lo hi).map fun v => (v,H)
def wH : AV → Option (AV × Heap)
 | .p (.str s) => some (.bx H.length 0,H ++ [.box (cv s 0)])
 | _ => none
def oo (s : List UInt8) (i : Nat) : Nat × Nat := Go.Utf8.decode ⟨s.toArray⟩ i
def nextA : AV → Option (AV × Heap)
 | .bx id 0 => match H[id]? with
  | some (.box [.nov,.p (.str s),.p (.int .i64 pos)]) =>
   if pos < s.length then some (.tup [.p (.bool true),.p (.int .i64 pos),.p (.int .i32 (oo s pos.toNat).1)],H.set id (.box (cv s (pos.toNat + (oo s pos.toNat).2))))
   else some (.tup [.p (.bool false)],H)
  | _ => none
 | _ => none
def evX : XOp → Option (AV × Heap)
 | .alloc zero => some (.bx H.length 0,H ++ [.box (zero.map .p)])
 | .box x => boxA H (x.ev Γ σ)
 | .store sz x v => (ia H sz (x.ev Γ σ) (v.ev Γ σ)).map fun H' => (.nov,H')
 | .mkslice sz ag zero n c => fe H sz ag zero (n.ev Γ σ) (c.ev Γ σ)
 | .newrow sz => some (.own H.length 0,H ++ [.row false sz []])
 | .append sz x y => (elemsOf H sz (y.ev Γ σ)).bind fun ys => aW H sz (x.ev Γ σ) ys
 | .appendS x y => mJ H (x.ev Γ σ) (y.ev Γ σ)
 | .copy sz x y => (ey H sz (y.ev Γ σ)).bind fun ys => tF H sz (x.ev Γ σ) ys
 | .bytesOf x => kK H (x.ev Γ σ)
 | .range x => wH H (x.ev Γ σ)
 | .next x => nextA H (x.ev Γ σ)
 | .slicef sz x lo hi => jH H sz (x.ev Γ σ) (lo.map (Arg.ev Γ σ)) (hi.map (Arg.ev Γ σ))
 | .callf f args => let as := args.map (Arg.ev Γ σ)
  ifB (iC (as.flatMap AV.cells) && (f.ev Γ σ).isP)
   ((mi call H (f.ev Γ σ) as).map fun rs => (results (rs.map .p),freeze H (as.flatMap AV.cells)))
 | .calls f args => (oO Γ call H (f.ev Γ σ) (args.map (Arg.ev Γ σ))).map fun r => (results r.1,r.2)
 | .pureq q => (evQ Γ call σ [] q).map fun v => (v,H)
 | .callz f args => (AL call H (f.ev Γ σ) (args.map (Arg.ev Γ σ))).map fun r => (results (r.1.map .p),r.2)
 | .fbox x => fboxA H (x.ev Γ σ)
 | .treeq q => (evQ Γ call σ H q).bind fun v => kY H v
 | .appt sz x y => ((elemsOf H sz (y.ev Γ σ)).bind fun ys => aW H sz (x.ev Γ σ) ys).bind fun r => kY r.2 r.1
 | .appk sz x y ks => ifB (jy H (ks.map (Arg.ev Γ σ))) ((elemsOf H sz (y.ev Γ σ)).bind fun ys => aW H sz (x.ev Γ σ) ys)
 | .brow sz ag n zero parts => yR H sz ag n (eX (zero.map .p) (parts.map fun q => (q.off,q.sz,q.arg.ev Γ σ)))
 | .mkmap => some (.mp H.length,H ++ [.box (ah [])])
 | .mset kd x k v => (rx H kd (x.ev Γ σ) (k.ev Γ σ) (v.ev Γ σ)).map fun H' => (.nov,H')
 | .msets ks x k v => (Bn H ks (x.ev Γ σ) (k.ev Γ σ) (v.ev Γ σ)).map fun H' => (.nov,H')
 | .mdel kd x k => (mdelA H kd (x.ev Γ σ) (k.ev Γ σ)).map fun H1 => (.any,H1)
 | .bslk sz ag n zero parts ks => bslkA H sz ag n (eX (zero.map .p) (parts.map fun q => (q.off,q.sz,q.arg.ev Γ σ))) (ks.map (Arg.ev Γ σ))
 | .popf sz x hi => popA H sz (x.ev Γ σ) (hi.ev Γ σ)
 | .callw f args => (kZ Γ call H (f.ev Γ σ) (args.map (Arg.ev Γ σ))).map fun r => (results r.1,r.2)
 | .callwr f args => (lp Γ call H (f.ev Γ σ) (args.map (Arg.ev Γ σ))).map fun r => (results r.1,r.2)
 | .callwk f args ks => (jF Γ call H (f.ev Γ σ) (args.map (Arg.ev Γ σ)) (ks.map (Arg.ev Γ σ))).map fun r => (results r.1,r.2)
 | .callk f args ks => (sI Γ call H (f.ev Γ σ) (args.map (Arg.ev Γ σ)) (ks.map (Arg.ev Γ σ))).map fun r => (results r.1,r.2)
 | .storek sz x v ks => (nS H sz (x.ev Γ σ) (v.ev Γ σ) (ks.map (Arg.ev Γ σ))).map fun H' => (.nov,H')
 | .bslicef sz ag n zero parts => i6 H sz ag n (eX (zero.map .p) (parts.map fun q => (q.off,q.sz,q.arg.ev Γ σ)))
def wanted : Option (Nat × Bool) → Option Bool
 | none => some true
 | some (t,b) => match σ t with
  | .p (.bool c) => some (c == b)
  | .nov => some false
  | _ => none
end
def put (env : Env) (dst : Option Nat) (v : AV) : Env :=
 match dst with
 | some t => (t,v) :: env
 | none => env
def dp (Γ : Ctx) (call : Nat → List AV → Heap → Option (List AV × Heap)) : List St → Env → Heap → Option (Env × Heap)
 | [],env,H => some (env,H)
 | s :: r,env,H =>
  match wanted (look env) s.g with
  | none => none
  | some false => dp Γ call r (put env s.dst .nov) H
  | some true =>
   match s.op with
   | .inl q => match evQ Γ call (look env) H q with
    | some v => dp Γ call r (put env s.dst v) H
    | none => none
   | .inr x => match evX Γ call (look env) H x with
    | some (v,H') => dp Γ call r (put env s.dst v) H'
    | none => none
inductive Ex where
 | nrm
 | ex (id : Nat)
 | ret
 deriving DecidableEq
def prune (live : List Nat) (env : Env) : Env := live.map fun t => (t,look env t)
def si (r : Nat → Option Nat) : Env → Option Env := mapO fun x => (AV.ren r 3 x.2).map fun v => (x.1,v)
def norm (live : List Nat) (gc : Option Nat) (env : Env) (H : Heap) : Option (Env × Heap) :=
 let e := prune live env
 match gc with
 | some j =>
  let L := ct H 64 ((e.flatMap fun x => x.2.refs) ++ (H.take j).flatMap Blk.refs) (List.range j)
  match si (place L) e,Heap.pick H L with
  | some e',some H' => some (e',H')
  | _,_ => none
 | none => some (e,H)
def fw (args : List AV) : Env := args.zipIdx.map fun x => (x.2,x.1)
def RV.get (env : Env) (H : Heap) : RV → Option AV
 | .slot t => some (look env t)
 | .cell t sz ag => eH H sz ag (look env t)
abbrev Out := Ex × Env × Heap
def runI (Γ : Ctx) (run : Code → Env → Heap → Option Out) (c : Nat) (as : List PV) : Option Int :=
 match Γ.fn c with
 | some (.code fn) =>
  if (as.map AV.p).length = fn.np then
   match run fn.body (fw (as.map .p)) [] with
   | some (.ex _,_,_) => none
   | some (_,env,H') => match mapO (RV.get env H') fn.results with
    | some [.p (.int .i64 n)] => some n
    | _ => none
   | none => none
  else none
 | _ => none
def tR (Γ : Ctx) (run : Code → Env → Heap → Option Out) (c : Nat) : List (List PV × Int) → Bool
 | [] => true
 | p :: r => (runI Γ run c p.1 == some p.2) && tR Γ run c r
def wR (Γ : Ctx) (run : Code → Env → Heap → Option Out) (f : Nat) (args : List AV) (H : Heap) : Option (List AV × Heap) :=
 match Γ.fn f with
 | some (.prim g) => match dH args with
  | some ps => match g ps with
   | some rs => some (rs.map .p,H)
   | none => none
  | none => none
 | some (.code fn) =>
  if args.length = fn.np then
   match run fn.body (fw args) H with
   | some (.ex _,_,_) => none
   | some (_,env,H') => match mapO (RV.get env H') fn.results with
    | some rs => some (rs,H')
    | none => none
   | none => none
  else none
 | _ => none
def callOf (Γ : Ctx) (run : Code → Env → Heap → Option Out) (f : Nat) (args : List AV) (H : Heap) : Option (List AV × Heap) :=
 match Γ.fn f with
 | some (.prim g) => match dH args with
  | some ps => match g ps with
   | some rs => some (rs.map .p,H)
   | none => none
  | none => none
 | some (.fresh g) => match dH args with
  | some ps => match g ps with
   | some r => if 0 < r.1 ∧ r.2.length ≤ lim then some ([.own H.length r.2.length],H ++ [.row false r.1 r.2]) else none
   | none => none
  | none => none
 | some (.upd g) => match args with
  | .own id n :: args => match H[id]? with
   | some (.row false sz xs) => if xs.length = n then
     match dH args with
     | some ps => match g ps sz xs with
      | some ys => if ys.length = xs.length then some ([],H.set id (.row false sz ys)) else none
      | none => none
     | none => none
    else none
   | _ => none
  | _ => none
 | some (.look g) => match g args H with
  | some rs => some (rs.map .p,H)
  | none => none
 | some (.lookc c q g) => match q args H with
  | some ps => match g args H with
   | some rs => if tR Γ run c ps = true then some (rs.map .p,H) else none
   | none => none
  | none => none
 | some (.hi g) => g.go (wR Γ run) args H
 | some (.code fn) =>
  if args.length = fn.np then
   match run fn.body (fw args) H with
   | some (.ex _,_,_) => none
   | some (_,env,H') => match mapO (RV.get env H') fn.results with
    | some rs => some (rs,H')
    | none => none
   | none => none
  else none
 | none => none
def ev (Γ : Ctx) : Nat → Code → Env → Heap → Option Out
 | 0,_,_,_ => none
 | _ + 1,.skip,env,H => some (.nrm,env,H)
 | n + 1,.ops live l,env,H => (dp Γ (callOf Γ (ev Γ n)) l env H).map fun r => (.nrm,prune live r.1,r.2)
 | n + 1,.seq a b,env,H =>
  match ev Γ n a env H with
  | some (.nrm,env',H') => ev Γ n b env' H'
  | r => r
 | n + 1,.cond c a b,env,H =>
  match c.ev Γ (look env) with
  | .p (.bool t) => if t then ev Γ n a env H else ev Γ n b env H
  | _ => none
 | n + 1,.block live id c,env,H =>
  match ev Γ n c env H with
  | some (.nrm,env',H') => some (.nrm,prune live env',H')
  | some (.ex i,env',H') => if i = id then some (.nrm,prune live env',H') else some (.ex i,env',H')
  | r => r
 | n + 1,.loop live gc c,env,H =>
  match norm live gc env H with
  | none => none
  | some (e,h) =>
   match ev Γ n c e h with
   | some (.nrm,env',H') => ev Γ n (.loop live gc c) env' H'
   | r => r
 | _ + 1,.exit id,env,H => some (.ex id,env,H)
 | _ + 1,.ret,env,H => some (.ret,env,H)
 | _ + 1,.bad,_,_ => none
end Ab
