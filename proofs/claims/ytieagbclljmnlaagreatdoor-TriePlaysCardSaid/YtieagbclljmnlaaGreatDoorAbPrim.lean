import Derived.Test.YtieagbclljmnlaaGreatDoorAbW
import Derived.Test.YtieagbclljmnlaaGreatDoorAbTag
namespace Ab
open Go (IntKind BinOp UnOp)
theorem resW_code {Γ : Ctx} {f : Nat} {fn : AFn} {args rs : List AV} {H H' : Heap} (hf : Γ.fn f = some (.code fn)) (hl : args.length = fn.np)
  (h : Wp Γ fn.body (envFrom 0 args) H (EndsK fn.results fun rs' h' => rs' = rs ∧ h' = H')) : resW Γ f args H = some (rs,H') := by
 obtain ⟨rs',h',h1,rfl,rfl⟩ := resW_ex hf hl h
 exact h1
theorem resW_look {Γ : Ctx} {f : Nat} {g : List AV → Heap → Option (List PV)} {args : List AV} {rs : List PV} {H : Heap} (hf : Γ.fn f = some (.look g)) (h : g args H = some rs) : resW Γ f args H = some (rs.map .p,H) := by
 refine resW_of ⟨0,?_⟩
 unfold callOf
 rw [hf]
 simp only [h]
theorem reify_int {H : Heap} {v : AV} {k : IntKind} {m : Int} (h : reify H 4 v = some (.int k m)) : v = .p (.int k m) := by
 cases v with
 | p v => exact congrArg AV.p (Option.some.inj h)
 | own id n => obtain ⟨_,_,h⟩ := Option.map_eq_some_iff.1 (show (rowOf H id n).map _ = _ from h); cases h
 | bx id off =>
  obtain ⟨cs,_,h⟩ := Option.bind_eq_some_iff.1 (show (boxOf H id).bind _ = _ from h)
  split at h
  ·obtain ⟨_,_,h⟩ := Option.map_eq_some_iff.1 h; cases h
  ·cases h
 | el id n i off =>
  obtain ⟨cs,_,h⟩ := Option.bind_eq_some_iff.1 (show (rowOf H id n).bind _ = _ from h)
  obtain ⟨x,_,h⟩ := Option.bind_eq_some_iff.1 h
  split at h <;> cases h
 | agg cs => obtain ⟨_,_,h⟩ := Option.map_eq_some_iff.1 (show (mapO (reify H 3) cs).map PV.agg = _ from h); cases h
 | clo f cs => obtain ⟨_,_,h⟩ := Option.map_eq_some_iff.1 (show (mapO (reify H 3) cs).map (PV.clo f) = _ from h); cases h
 | mp id => cases h
 | tup cs => cases h
 | nov => cases h
 | any => cases h
theorem runI_of {Γ : Ctx} {c : Nat} {fn : AFn} (hc : Γ.fn c = some (.code fn)) {as : List PV} {m : Int} (h : res Γ c as = some [.int .i64 m]) : ∃ n,∀ k,n ≤ k → runI Γ (ev Γ k) c as = some m := by
 obtain ⟨n,r,h1,h2⟩ := of_res h
 refine ⟨n,fun k hk => ?_⟩
 have h1 := call_le hk _ _ _ _ h1
 unfold callOf at h1
 rw [hc] at h1
 unfold runI
 rw [hc]
 simp only at h1 ⊢
 split at h1
 ·rename_i hl
  rw [if_pos hl]
  split at h1
  ·cases h1
  ·rename_i x env H' hno ho
   split at h1
   ·rename_i vs hvs
    cases h1
    have hv : vs = [.p (.int .i64 m)] := by
     match vs,h2 with
     | [],h2 => simp [mapO] at h2
     | [v],h2 =>
      simp only [mapO_cons,mapO_nil,Option.map_some] at h2
      obtain ⟨x,h3,h4⟩ := Option.bind_eq_some_iff.1 h2
      cases h4
      rw [reify_int h3]
     | v :: v2 :: r,h2 =>
      simp only [mapO_cons] at h2
      obtain ⟨x,h3,h4⟩ := Option.bind_eq_some_iff.1 h2
      obtain ⟨y,h5,h6⟩ := Option.map_eq_some_iff.1 h4
      obtain ⟨z,h7,h8⟩ := Option.bind_eq_some_iff.1 h5
      obtain ⟨u,h9,h10⟩ := Option.map_eq_some_iff.1 h8
      subst h10
      cases h6
    subst hv
    simp only [hvs]
   ·cases h1
  ·cases h1
 ·cases h1
theorem resW_lookc {Γ : Ctx} {f c : Nat} {fn : AFn} {q : List AV → Heap → Option (List (List PV × Int))} {g : List AV → Heap → Option (List PV)} {args : List AV} {ps : List (List PV × Int)} {rs : List PV} {H : Heap} (hf : Γ.fn f = some (.lookc c q g))
  (hc : Γ.fn c = some (.code fn)) (hq : q args H = some ps) (h : g args H = some rs) (hp : ∀ p ∈ ps,res Γ c p.1 = some [.int .i64 p.2]) : resW Γ f args H = some (rs.map .p,H) := by
 have key : ∃ n,∀ k,n ≤ k → runIs Γ (ev Γ k) c ps = true := by
  clear hq
  induction ps with
  | nil => exact ⟨0,fun _ _ => rfl⟩
  | cons p ps ih =>
   obtain ⟨n1,h1⟩ := runI_of hc (hp p (by simp))
   obtain ⟨n2,h2⟩ := ih fun p hp' => hp p (by simp [hp'])
   refine ⟨max n1 n2,fun k hk => ?_⟩
   simp only [runIs,h1 k (by omega),h2 k (by omega),Bool.and_true,beq_self_eq_true]
 obtain ⟨n,hn⟩ := key
 refine resW_of ⟨n,?_⟩
 unfold callOf
 rw [hf]
 simp only [hq,h,hn n (Nat.le_refl _),if_true]
theorem boxK_mp {m : Nat} {r : List AV} : boxK (some (.box (.mp m :: r))) = some (.mp m :: r) := rfl
theorem boxK_clo {f : Nat} {c r : List AV} : boxK (some (.box (.clo f c :: r))) = some (.clo f c :: r) := rfl
theorem pures_mp {m : Nat} {r : List AV} : pures (.mp m :: r) = none := rfl
theorem mset_bx {H : Heap} {id i o : Nat} {k : List UInt8} : msetA H .str (.mp id) (.p (.str k)) (.bx i o) = (mapK H[id]?).bind fun es => msK H id (mput (.str k) (.bx i o) es) := mset_str rfl
theorem len2 {H : Heap} {a : Blk} : List.length (H ++ [a]) = H.length + 1 := by simp
theorem mdel_str {H : Heap} {id : Nat} {k : List UInt8} : mdelA H .str (.mp id) (.p (.str k)) = (mapK H[id]?).bind fun es => msK H id (mdrop (.str k) es) := rfl
theorem mlen_mp {H : Heap} {id : Nat} : mlenA H (.mp id) = (mapK H[id]?).map fun es => .p (.int .i64 (es.length : Nat)) := rfl
attribute [go_sem] boxK_mp boxK_clo pures_mp mset_bx mdel_str mlen_mp
end Ab
namespace Ab
open Go (IntKind BinOp UnOp)
def ixB : List UInt8 → UInt8 → Int
 | [],_ => -1
 | b :: l,c => if b == c then 0 else if ixB l c == -1 then -1 else ixB l c + 1
def indexByteG : List PV → Option (List PV)
 | [.str s,.int .u8 c] => some [.int .i64 (ixB s c.toNat.toUInt8)]
 | _ => none
def countG : List PV → Option (List PV)
 | [.str s,.int .u8 c] => some [.int .i64 (s.count c.toNat.toUInt8 : Nat)]
 | _ => none
def joinB (sep : List UInt8) : List (List UInt8) → List UInt8
 | [] => []
 | [s] => s
 | s :: r => s ++ sep ++ joinB sep r
def strsIn : List PV → Option (List (List UInt8))
 | [] => some []
 | .str s :: r => (strsIn r).map (s :: ·)
 | _ => none
def joinG : List PV → Option (List PV)
 | [.sl _ 1 xs,.str sep] => match strsIn xs with
  | some l => if (joinB sep l).length ≤ 1000000000 ∧ l.length ≤ 1000000000 then some [.str (joinB sep l)] else none
  | none => none
 | _ => none
def zero256 : List PV := List.replicate 256 (.bool false)
def insB (s : List UInt8) : List (List UInt8) → List (List UInt8)
 | [] => [s]
 | t :: r => if bytesLess t s then t :: insB s r else s :: t :: r
def sortB : List (List UInt8) → List (List UInt8)
 | [] => []
 | s :: r => insB s (sortB r)
def strKeysIn : List (PV × AV) → Option (List (List UInt8))
 | [] => some []
 | (.str s,_) :: r => if s.length ≤ lim then (strKeysIn r).map (s :: ·) else none
 | _ => none
def rowS (l : List (List UInt8)) : PV :=
 match l with
 | [] => .sl .nil 1 []
 | s :: r => .sl .any 1 ((s :: r).map .str)
def keysV (H : Heap) : List AV → Option (List PV)
 | [.mp id] => (mapOf H id).bind fun es => (strKeysIn es).bind fun ss => if es.length ≤ lim then some [rowS (sortB ss)] else none
 | [.p .nilmap] => some [.sl .nil 1 []]
 | _ => none
def keysG (Ks : List Nat) : List AV → Heap → Option (List PV)
 | [.clo k [.bx b 0]],H => if Ks.contains k = true then (boxOf H b).bind (keysV H) else none
 | _,_ => none
def hitKeysIn : List (PV × AV) → Option (List (List UInt8 × Bool))
 | [] => some []
 | (.agg [.str s,.bool b],_) :: r => if s.length ≤ lim then (hitKeysIn r).map ((s,b) :: ·) else none
 | _ => none
def dotParts (cur : List UInt8) : List UInt8 → List (List UInt8)
 | [] => [cur.reverse]
 | c :: r => if c = 46 then cur.reverse :: dotParts [] r else dotParts (c :: cur) r
def partsLess : List (List UInt8) → List (List UInt8) → Bool
 | _,[] => false
 | [],_ :: _ => true
 | a :: x,b :: y => bytesLess a b || (a == b && partsLess x y)
def hitLess (a b : List UInt8 × Bool) : Bool :=
 partsLess (dotParts [] a.1) (dotParts [] b.1) || (dotParts [] a.1 == dotParts [] b.1 && (!a.2 && b.2))
def insH (s : List UInt8 × Bool) : List (List UInt8 × Bool) → List (List UInt8 × Bool)
 | [] => [s]
 | t :: r => if hitLess t s then t :: insH s r else s :: t :: r
def sortH : List (List UInt8 × Bool) → List (List UInt8 × Bool)
 | [] => []
 | s :: r => insH s (sortH r)
def rowH (l : List (List UInt8 × Bool)) : PV :=
 match l with
 | [] => .sl .nil 2 []
 | s :: r => .sl .any 2 ((s :: r).map fun h => .agg [.str h.1,.bool h.2])
def hitsV (H : Heap) : List AV → Option (List PV)
 | [.mp id] => (mapOf H id).bind fun es => (hitKeysIn es).bind fun ss => if es.length ≤ lim then some [rowH (sortH ss)] else none
 | _ => none
def hitsG (Ks : List Nat) (c : Nat) : List AV → Heap → Option (List PV)
 | [.clo k [.bx b 0],.p (.clo k' [])],H => if Ks.contains k = true ∧ k' = c then (boxOf H b).bind (hitsV H) else none
 | _,_ => none
def cmpH (a b : List UInt8 × Bool) : Int :=
 if partsLess (dotParts [] a.1) (dotParts [] b.1) then -1 else if partsLess (dotParts [] b.1) (dotParts [] a.1) then 1
 else if a.2 == b.2 then 0 else if a.2 then 1 else -1
def hitP (h : List UInt8 × Bool) : PV := .agg [.str h.1,.bool h.2]
def hitsQV (H : Heap) : List AV → Option (List (List PV × Int))
 | [.mp id] => (mapOf H id).bind fun es => (hitKeysIn es).map fun hs => hs.flatMap fun a => hs.map fun b => ([hitP a,hitP b],cmpH a b)
 | _ => none
def hitsQ : List AV → Heap → Option (List (List PV × Int))
 | [.clo _ [.bx b 0],_],H => (boxOf H b).bind (hitsQV H)
 | _,_ => none
end Ab
