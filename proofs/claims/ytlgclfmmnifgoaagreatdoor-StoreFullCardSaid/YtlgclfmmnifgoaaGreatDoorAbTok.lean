import Derived.Test.YtlgclfmmnifgoaaGreatDoorCode
import Derived.Test.YtlgclfmmnifgoaaGreatDoorAbW2
import Derived.Test.YtlgclfmmnifgoaaGreatDoorAbPrim
namespace Ab
open Go (IntKind BinOp UnOp)
def splitB (c : UInt8) : List UInt8 → List (List UInt8)
 | [] => [[]]
 | b :: l => if b = c then [] :: splitB c l else match splitB c l with | [] => [[b]] | h :: t => (b :: h) :: t
@[go_sem] theorem uG (s : List UInt8) (c : Int) : res Γ 70 [.str s,.int .u8 c] = some [.int .i64 (ixB s c.toNat.toUInt8)] := jl (fJ (g := iV) rfl rfl)
@[go_sem] theorem AY (s : List UInt8) (c : Int) : res Γ 73 [.str s,.int .u8 c] = some [.int .i64 (s.count c.toNat.toUInt8 : Nat)] := jl (fJ (g := wt) rfl rfl)
@[go_sem] theorem yo (s : List UInt8) (c : Int) : res Γ 64 [.str s,.int .u8 c] = some [.int .i64 (ixB s c.toNat.toUInt8)] := by
 refine aw (fn := aH) rfl rfl ?_
 simp(disch:=first|assumption|omega|decide|(simp only[lens]<;>omega)|fail)only[go_sem,aH]
@[go_sem] theorem res_IndexByte (s : List UInt8) (c : Int) : res Γ 55 [.str s,.int .u8 c] = some [.int .i64 (ixB s c.toNat.toUInt8)] := by
 refine aw (fn := strings_IndexByte) rfl rfl ?_
 simp(disch:=first|assumption|omega|decide|(simp only[lens]<;>omega)|fail)only[go_sem,strings_IndexByte]
theorem Bx {c : UInt8} : byt [c] 0 = (c.toNat : Int) := rfl
theorem qI {c : UInt8} : c.toNat.toUInt8 = c := by simp
@[go_sem] theorem res_liteIndex1 (s : List UInt8) (c : UInt8) : res Γ 74 [.str s,.str [c]] = some [.int .i64 (ixB s c)] := by
 refine aw (fn := aY) rfl rfl ?_
 simp(disch:=first|assumption|omega|decide|(simp only[lens]<;>omega)|fail)only[go_sem,aY]
 refine fD (fun hc => ?_) (fun hc => ?_)
 ·simp(disch:=first|assumption|omega|decide|(simp only[lens]<;>omega)|fail)only[go_sem]
  subst hc
  simp [ixB]
 ·simp(disch:=first|assumption|omega|decide|(simp only[lens]<;>omega)|fail)only[go_sem,Bx,qI]
@[go_sem] theorem res_Index1 (s : List UInt8) (c : UInt8) : res Γ 67 [.str s,.str [c]] = some [.int .i64 (ixB s c)] := by
 refine aw (fn := strings_Index) rfl rfl ?_
 simp(disch:=first|assumption|omega|decide|(simp only[lens]<;>omega)|fail)only[go_sem,strings_Index]
@[go_sem] theorem res_Count1 (s : List UInt8) (c : UInt8) : res Γ 68 [.str s,.str [c]] = some [.int .i64 (s.count c : Nat)] := by
 refine aw (fn := strings_Count) rfl rfl ?_
 simp(disch:=first|assumption|omega|decide|(simp only[lens]<;>omega)|fail)only[go_sem,strings_Count,Bx,qI]
theorem zJ {s : List UInt8} {c : UInt8} : -1 ≤ ixB s c ∧ ixB s c < s.length := by
 induction s with
 | nil => simp [ixB]
 | cons b l ih => simp only [ixB,List.length_cons,beq_iff_eq]; split <;> (try split) <;> omega
theorem ik (c : UInt8) : ∀ s : List UInt8,(ixB s c < 0 → splitB c s = [s]) ∧ (0 ≤ ixB s c → splitB c s = s.take (ixB s c).toNat :: splitB c (s.drop ((ixB s c).toNat + 1)))
 | [] => by simp [ixB,splitB]
 | b :: l => by
  have ih := ik c l
  have hn := @zJ l c
  by_cases hb : b = c
  ·subst hb; simp [ixB,splitB]
  ·have hb' : (b == c) = false := by simpa using hb
   simp only [ixB,splitB,hb,hb',if_false,Bool.false_eq_true,beq_iff_eq]
   by_cases h : ixB l c = -1
   ·rw [if_pos h,ih.1 (by omega)]
    exact ⟨fun _ => rfl,fun h => by omega⟩
   ·rw [if_neg h,ih.2 (by omega)]
    refine ⟨fun h => by omega,fun _ => ?_⟩
    have e : (ixB l c + 1).toNat = (ixB l c).toNat + 1 := by omega
    simp only [e,List.take_succ_cons,List.drop_succ_cons]
theorem bb (c : UInt8) : ∀ s : List UInt8,(splitB c s).length = s.count c + 1
 | [] => by simp [splitB]
 | b :: l => by
  have ih := bb c l
  by_cases hb : b = c
  ·subst hb; simp [splitB,ih]
  ·simp only [splitB,hb,if_false]
   rw [List.count_cons_of_ne hb]
   cases h : splitB c l with
   | nil => rw [h] at ih; simp at ih
   | cons x y => rw [h] at ih; simpa using ih
theorem count_le {s : List UInt8} {c : UInt8} : s.count c ≤ s.length := List.count_le_length
theorem uA (c : UInt8) (n : Nat) (hn : n < 1000000000) (Q : Out → Prop) : ∀ (k i : Nat) (s : List UInt8) (done : List (List UInt8)),s.length < 1000000000 → done.length = i → s.count c = k → i + k = n →
  (∀ s' done',strs (done ++ splitB c s) = strs (done' ++ [s']) → done'.length = n → Q (.nrm,[(0,.p (.str s')),(9,.own 0 (n + 1)),(10,.p (.int .i64 (n : Int)))],[.row false 1 (strs (done' ++ [[]]))])) →
  Wp Γ bZ [(0,.p (.str s)),(1,.p (.str [c])),(2,.p (.int .i64 0)),(3,.p (.int .i64 (n : Int))),(9,.own 0 (n + 1)),(10,.p (.int .i64 (i : Int)))] [.row false 1 (strs (done ++ List.replicate (k + 1) []))] (oK [0,9,10] 0 Q) := by
 intro k
 induction k with
 | zero =>
  intro i s done hs hd hk hi hQ
  rw [af (L := bZ) rfl]
  simp(disch:=first|assumption|omega|decide|(simp only[lens]<;>omega)|fail)only[go_sem]
  obtain rfl : i = n := by omega
  have h : ¬ 0 ≤ ixB s c := fun h => by
   have := bb c s
   rw [(ik c s).2 h] at this
   simp at this; have := bb c (s.drop ((ixB s c).toNat + 1)); omega
  refine hQ s done ?_ hd
  rw [(ik c s).1 (by omega)]
 | succ k ih =>
  intro i s done hs hd hk hi hQ
  rw [af (L := bZ) rfl]
  have h : 0 ≤ ixB s c := by
   have := bb c s
   by_cases h : ixB s c < 0
   ·rw [(ik c s).1 h] at this; simp at this; omega
   ·omega
  have hlt := @zJ s c
  simp(disch:=first|assumption|omega|decide|(simp only[lens]<;>omega)|fail)only[go_sem,set_rep]
  have e : done ++ List.take (ixB s c).toNat s :: List.replicate (k + 1 + 1 - 1) [] = (done ++ [List.take (ixB s c).toNat s]) ++ List.replicate (k + 1) [] := by simp
  have e2 : (ixB s c + ((1 : Nat) : Int)).toNat = (ixB s c).toNat + 1 := by omega
  have e3 := bb c s
  have e4 := (ik c s).2 h
  have e5 := bb c (s.drop ((ixB s c).toNat + 1))
  rw [e,e2]
  refine ih (i + 1) _ _ (by simp; omega) (by simp [hd]) ?_ (by omega) (fun s' d' h1 h2 => hQ s' d' ?_ h2)
  ·rw [e4] at e3; simp only [List.length_cons] at e3; omega
  ·rw [e4,← h1,List.append_assoc]; rfl
@[go_sem] theorem res_genSplit (s : List UInt8) (c : UInt8) (hs : s.length < 900000000) : res Γ 63 [.str s,.str [c],.int .i64 0,.int .i64 (-1)] = some [.sl .any 1 (strs (splitB c s))] := by
 have hc := @count_le s c
 refine aw (fn := strings_genSplit) rfl rfl ?_
 simp(disch:=first|assumption|omega|decide|(simp only[lens]<;>omega)|fail)only[go_sem,strings_genSplit]
 rw [show ((s.count c : Nat) : Int) + 1 - 1 = ((s.count c : Nat) : Int) by omega,show (((s.count c : Nat) : Int) + 1).toNat = s.count c + 1 by omega]
 refine uA c (s.count c) (by omega) _ (s.count c) 0 s [] (by omega) rfl rfl (by omega) (fun s' d' h1 h2 => ?_)
 simp(disch:=first|assumption|omega|decide|(simp only[lens]<;>omega)|fail)only[go_sem]
 rw [show (((s.count c : Nat) : Int) + 1).toNat = (d' ++ [s']).length by simp; omega,List.take_length,← h1,List.nil_append]
@[go_sem] theorem res_Split (s : List UInt8) (c : UInt8) (hs : s.length < 900000000) : res Γ 52 [.str s,.str [c]] = some [.sl .any 1 (strs (splitB c s))] := by
 refine aw (fn := strings_Split) rfl rfl ?_
 simp(disch:=first|assumption|omega|decide|(simp only[lens]<;>omega)|fail)only[go_sem,strings_Split]
end Ab
namespace Ab
open Go (IntKind BinOp UnOp)
def gI (c : UInt8) : List UInt8 → List UInt8 → List (List UInt8)
 | cur,[] => [cur]
 | cur,b :: l => if b = c then cur :: gI c [] l else gI c (cur ++ [b]) l
theorem nr (c : UInt8) : ∀ (l cur : List UInt8),gI c cur l = match splitB c l with | [] => [cur] | h :: t => (cur ++ h) :: t
 | [],cur => by simp [gI,splitB]
 | b :: l,cur => by
  by_cases hb : b = c
  ·simp only [gI,splitB,hb,if_true,List.append_nil]
   rw [nr c l []]
   have := bb c l
   cases h : splitB c l with
   | nil => rw [h] at this; simp at this
   | cons x y => simp
  ·simp only [gI,splitB,hb,if_false]
   rw [nr c l]
   cases h : splitB c l <;> simp
theorem xm (c : UInt8) (l : List UInt8) : gI c [] l = splitB c l := by
 rw [nr]
 have := bb c l
 cases h : splitB c l with
 | nil => rw [h] at this; simp at this
 | cons x y => simp
theorem drop_cons {s : List UInt8} {i : Nat} {b : UInt8} {r : List UInt8} (h : s.drop i = b :: r) : i < s.length ∧ byt s i = (b.toNat : Int) ∧ s.drop (i + 1) = r ∧ s.take (i + 1) = s.take i ++ [b] := by
 have h1 : i < s.length := by
  by_cases h1 : i < s.length
  ·exact h1
  ·rw [List.drop_of_length_le (by omega)] at h; cases h
 rw [List.drop_eq_getElem_cons h1] at h
 cases h
 refine ⟨h1,?_,rfl,?_⟩
 ·simp [byt,List.getElem?_eq_getElem h1]
 ·rw [List.take_add_one,List.getElem?_eq_getElem h1]; rfl
theorem drop_nil {s : List UInt8} {i : Nat} (h : s.drop i = []) : s.length ≤ i := by simpa using h
theorem toNat_eq {b : UInt8} {n : Nat} (hn : n < 256) : ((b.toNat : Int) = (n : Int)) ↔ b = UInt8.ofNat n := by
 constructor
 ·intro h
  have : b.toNat = n := by omega
  rw [← this]; simp
 ·rintro rfl; simp; omega
@[go_sem] theorem gH (s : List UInt8) (hs : s.length < 900000000) : res Γ 36 [.str s] = some [.sl .any 1 (strs (splitB 46 s))] := by
 refine aw (fn := iJ) rfl rfl ?_
 simp(disch:=first|assumption|omega|decide|(simp only[lens]<;>omega)|fail)only[go_sem,iJ]
theorem oF (s : List UInt8) (hs : s.length < 900000000) (Q : Out → Prop) : ∀ (rest cur : List UInt8) (i fr : Nat) (done : List (List UInt8)),s.drop i = rest → (s.take i).drop fr = cur → fr ≤ i → i ≤ s.length → done.length ≤ i →
  (Q (.nrm,[(3,.own 0 (done ++ gI 46 cur rest).length)],[.row false 1 (strs (done ++ gI 46 cur rest))])) →
  Wp Γ eO [(0,.p (.str s)),(3,.own 0 done.length),(4,.p (.int .i64 fr)),(5,.p (.int .i64 (i : Int)))] [.row false 1 (strs done)] (oK [3] 0 Q) := by
 intro rest
 induction rest with
 | nil =>
  intro cur i fr done h1 h2 h3 h4 h5 hQ
  have := drop_nil h1
  obtain rfl : i = s.length := by omega
  rw [af (L := eO) rfl]
  simp(disch:=first|assumption|omega|decide|(simp only[lens]<;>omega)|fail)only[go_sem]
  rw [af (L := eO) rfl]
  simp(disch:=first|assumption|omega|decide|(simp only[lens]<;>omega)|fail)only[go_sem]
  simp only [gI,← h2,List.length_append,List.length_cons,List.length_nil] at hQ
  exact hQ
 | cons b rest ih =>
  intro cur i fr done h1 h2 h3 h4 h5 hQ
  obtain ⟨h6,h7,h8,h9⟩ := drop_cons h1
  rw [af (L := eO) rfl]
  simp(disch:=first|assumption|omega|decide|(simp only[lens]<;>omega)|fail)only[go_sem,h7]
  refine fD (fun hc => ?_) (fun hc => ?_)
  ·have hb : b = 46 := (toNat_eq (n := 46) (by decide)).1 hc
   subst hb
   simp(disch:=first|assumption|omega|decide|(simp only[lens]<;>omega)|fail)only[go_sem]
   have e : done.length + 1 = (done ++ [List.drop fr (List.take i s)]).length := by simp
   rw [e]
   exact ih [] (i + 1) (i + 1) _ h8 (by simp) (Nat.le_refl _) (by omega) (by simp; omega) (by simpa [gI,h2] using hQ)
  ·have hb : b ≠ 46 := fun h => hc (by rw [h]; rfl)
   simp(disch:=first|assumption|omega|decide|(simp only[lens]<;>omega)|fail)only[go_sem]
   refine ih (cur ++ [b]) (i + 1) fr done h8 ?_ (by omega) (by omega) (by omega) (by simpa [gI,hb] using hQ)
   rw [h9,List.drop_append_of_le_length (by simp; omega),h2]
@[go_sem] theorem jx (s : List UInt8) (hs : s.length < 900000000) : res Γ 40 [.str s] = some [.sl .any 1 (strs (splitB 46 s))] := by
 refine aw (fn := mC) rfl rfl ?_
 simp(disch:=first|assumption|omega|decide|(simp only[lens]<;>omega)|fail)only[go_sem,mC]
 refine oF s hs _ s [] 0 0 [] rfl (by simp) (by omega) (by omega) (by simp) ?_
 simp(disch:=first|assumption|omega|decide|(simp only[lens]<;>omega)|fail)only[go_sem,xm]
end Ab
namespace Ab
open Go (IntKind BinOp UnOp)
theorem step_old (H : Heap) (b m b' : Nat) (c : AV) (k : List UInt8) (es : List (PV × AV)) (hb : H[b]? = some (.box [.mp m,c])) (hm : H[m]? = some (.box (ah es))) (hf : jc (.str k) es = some (some (.bx b' 0))) :
  resW Γ 420 [.bx b 0,.p (.str k)] H = some ([.bx b' 0],H) := by
 refine ab (fn := cd) rfl rfl ?_
 simp(disch:=first|assumption|omega|decide|(simp only[lens]<;>omega)|fail)only[go_sem,cd,hb,hm,hf]
theorem yv (es : List (PV × AV)) (k : List UInt8) (v : AV) (h : jc (.str k) es = some none) : mput (.str k) v es = some (es ++ [(.str k,v)]) := by
 induction es with
 | nil => rfl
 | cons x r ih =>
  obtain ⟨k',v'⟩ := x
  cases k' <;> simp only [jc,lm] at h <;> try cases h
  rename_i s
  simp only [mput,lm]
  cases e : (k == s)
  ·rw [e] at h
   simp only at h ⊢
   rw [ih h]; rfl
  ·rw [e] at h; cases h
theorem step_new (H : Heap) (b m : Nat) (c : AV) (k : List UInt8) (es : List (PV × AV)) (hb : H[b]? = some (.box [.mp m,c])) (hm : H[m]? = some (.box (ah es))) (hf : jc (.str k) es = some none) :
  resW Γ 420 [.bx b 0,.p (.str k)] H = some ([.bx (H.length + 1) 0],(H ++ [Blk.box (ah [])] ++ [Blk.box [.mp H.length,.p (.bool false)]]).set m (Blk.box (ah (es ++ [(PV.str k,AV.bx (H.length + 1) 0)])))) := by
 have hbl : b < H.length := (List.getElem?_eq_some_iff.1 hb).1
 have hml : m < H.length := (List.getElem?_eq_some_iff.1 hm).1
 have hp := yv es k (.bx (H.length + 1) 0) hf
 refine ab (fn := cd) rfl rfl ?_
 simp(disch:=first|assumption|omega|decide|(simp only[lens]<;>omega)|fail)only[go_sem,cd,hb,hm,hf,z8,len2,hp]
end Ab
namespace Ab
open Go (IntKind BinOp UnOp)
abbrev Path := List (List UInt8)
structure Nd where
 b : Nat
 m : Nat
 leaf : Bool
 kids : List (List UInt8 × Nat)
abbrev Tri := Path → Option Nd
def gS (l : List (List UInt8 × Nat)) : List (PV × AV) := l.map fun k => (.str k.1,.bx k.2 0)
def mark (p : Path) (nd : Nd) (n : Nat) : AV := if p = [] then .p (.int .i64 (n : Int)) else .p (.bool nd.leaf)
structure Lies (H : Heap) (N : Tri) (r n : Nat) : Prop where
 root : ∃ nd,N [] = some nd ∧ nd.b = r
 box : ∀ p nd,N p = some nd → H[nd.b]? = some (.box [.mp nd.m,mark p nd n])
 map : ∀ p nd,N p = some nd → H[nd.m]? = some (.box (ah (gS nd.kids)))
 kid : ∀ p nd,N p = some nd → ∀ k b,(k,b) ∈ nd.kids → ∃ nd',N (p ++ [k]) = some nd' ∧ nd'.b = b
 up : ∀ p k nd',N (p ++ [k]) = some nd' → ∃ nd,N p = some nd ∧ (k,nd'.b) ∈ nd.kids
 nodup : ∀ p nd,N p = some nd → (nd.kids.map (·.1)).Nodup
 injb : ∀ p q nd nd',N p = some nd → N q = some nd' → nd.b = nd'.b → p = q
 injm : ∀ p q nd nd',N p = some nd → N q = some nd' → nd.m = nd'.m → p = q
 sep : ∀ p q nd nd',N p = some nd → N q = some nd' → nd.b ≠ nd'.m
def Foot (N : Tri) (i : Nat) : Prop := ∃ p nd,N p = some nd ∧ (nd.b = i ∨ nd.m = i)
theorem Lies.keep {H H' : Heap} {N : Tri} {r n : Nat} (h : Lies H N r n) (hk : ∀ i,Foot N i → H'[i]? = H[i]?) : Lies H' N r n where
 root := h.root
 box p nd hp := (hk _ ⟨p,nd,hp,.inl rfl⟩).trans (h.box p nd hp)
 map p nd hp := (hk _ ⟨p,nd,hp,.inr rfl⟩).trans (h.map p nd hp)
 kid := h.kid
 up := h.up
 nodup := h.nodup
 injb := h.injb
 injm := h.injm
 sep := h.sep
theorem Lies.foot_lt {H : Heap} {N : Tri} {r n i : Nat} (h : Lies H N r n) (hf : Foot N i) : i < H.length := by
 obtain ⟨p,nd,hp,rfl | rfl⟩ := hf
 ·exact (List.getElem?_eq_some_iff.1 (h.box p nd hp)).1
 ·exact (List.getElem?_eq_some_iff.1 (h.map p nd hp)).1
def kidB (l : List (List UInt8 × Nat)) (k : List UInt8) : Option Nat := (l.find? fun x => k == x.1).map (·.2)
theorem yI (l : List (List UInt8 × Nat)) (k : List UInt8) : jc (.str k) (gS l) = some ((kidB l k).map fun b => .bx b 0) := by
 induction l with
 | nil => rfl
 | cons x r ih =>
  obtain ⟨k',b⟩ := x
  simp only [gS,List.map_cons,jc,lm,kidB,List.find?_cons]
  cases e : (k == k')
  ·exact ih
  ·rfl
theorem BB {l : List (List UInt8 × Nat)} {k : List UInt8} (h : kidB l k = none) : ∀ b,(k,b) ∉ l := by
 intro b hb
 simp only [kidB,Option.map_eq_none_iff,List.find?_eq_none] at h
 have := h _ hb
 simp at this
theorem kidB_mem {l : List (List UInt8 × Nat)} {k : List UInt8} {b : Nat} (h : kidB l k = some b) : (k,b) ∈ l := by
 obtain ⟨x,h1,rfl⟩ := Option.map_eq_some_iff.1 h
 have h2 := List.find?_some h1
 have h3 := List.mem_of_find?_eq_some h1
 have : k = x.1 := by simpa using h2
 subst this
 exact h3
theorem Lies.kidB {H : Heap} {N : Tri} {r n : Nat} (h : Lies H N r n) {p : Path} {nd : Nd} (hp : N p = some nd) (k : List UInt8) : Ab.kidB nd.kids k = (N (p ++ [k])).map (·.b) := by
 cases e : Ab.kidB nd.kids k with
 | some b =>
  obtain ⟨nd',h1,rfl⟩ := h.kid p nd hp k b (kidB_mem e)
  rw [h1]; rfl
 | none =>
  cases e2 : N (p ++ [k]) with
  | none => rfl
  | some nd' =>
   obtain ⟨nd2,h1,h2⟩ := h.up p k nd' e2
   rw [hp] at h1; cases h1
   exact absurd h2 (BB e _)
theorem Lies.find {H : Heap} {N : Tri} {r n : Nat} (h : Lies H N r n) {p : Path} {nd : Nd} (hp : N p = some nd) (k : List UInt8) : jc (.str k) (gS nd.kids) = some ((N (p ++ [k])).map fun nd' => .bx nd'.b 0) := by
 rw [yI,h.kidB hp]
 cases N (p ++ [k]) <;> rfl
def ndV (x : Option Nd) : AV := match x with | some nd => .bx nd.b 0 | none => .p .nilp
theorem Lies.pre {H : Heap} {N : Tri} {r n : Nat} (h : Lies H N r n) : ∀ (t p : Path) nd,N (p ++ t) = some nd → ∃ nd',N p = some nd' := by
 intro t
 induction t with
 | nil => intro p nd hp; exact ⟨nd,by simpa using hp⟩
 | cons k t ih =>
  intro p nd hp
  obtain ⟨nd',h1⟩ := ih (p ++ [k]) nd (by simpa using hp)
  obtain ⟨nd2,h2,_⟩ := h.up p k nd' h1
  exact ⟨nd2,h2⟩
theorem yi {kk : SK} {H : Heap} {N : Tri} {r n : Nat} (h : Lies H N r n) (ps : Path) (hps : ps.length < 1000000) (Q : Out → Prop) : ∀ (f i : Nat) (nd : Nd),i + f = ps.length → N (ps.take i) = some nd →
  (N ps = none → ∀ e,look e 4 = .p .nilp → Q (.ret,e,H)) →
  (∀ nd',N ps = some nd' → ∀ e,look e 5 = (if ps = [] then .p .nilp else .bx nd'.b 0) → Q (.ex 0,e,H)) →
  Wp Γ aQ [(0,.bx nd.b 0),(5,if i = 0 then .p .nilp else .bx nd.b 0),(8,.p (.sl kk 1 (strs ps))),(9,.p (.int .i64 (ps.length : Int))),(10,.p (.int .i64 (i : Int)))] H Q := by
 intro f
 induction f with
 | zero =>
  intro i nd hi hN hno hyes
  have hi : i = ps.length := by omega
  subst hi
  rw [List.take_length] at hN
  rw [af (L := aQ) rfl]
  simp(disch:=first|assumption|omega|decide|(simp only[lens]<;>omega)|fail)only[go_sem,aQ]
  refine hyes nd hN _ ?_
  by_cases hz : ps = []
  ·subst hz; rfl
  ·rw [if_neg hz,if_neg (fun e => hz (List.length_eq_zero_iff.1 e))]
   rfl
 | succ f ih =>
  intro i nd hi hN hno hyes
  have hlt : i < ps.length := by omega
  have hbx := h.box _ nd hN
  have hmp := h.map _ nd hN
  have hf := h.find hN (ps.getD i [])
  have ht : ps.take i ++ [ps.getD i []] = ps.take (i + 1) := by
   rw [List.take_add_one,List.getD_eq_getElem?_getD,List.getElem?_eq_getElem hlt]; rfl
  rw [ht] at hf
  have hno1 : N (ps.take (i + 1)) = none → N ps = none := fun e => by
   cases e2 : N ps with
   | none => rfl
   | some nd2 =>
    have hp : ps = ps.take (i + 1) ++ ps.drop (i + 1) := (List.take_append_drop _ _).symm
    rw [hp] at e2
    obtain ⟨nd3,h3⟩ := h.pre _ _ _ e2
    rw [e] at h3; cases h3
  cases hk : N (ps.take (i + 1)) with
  | none =>
   rw [hk] at hf
   rw [af (L := aQ) rfl]
   simp(disch:=first|assumption|omega|decide|(simp only[lens]<;>omega)|fail)only[go_sem,aQ,hbx,hmp,hf]
   exact hno (hno1 hk) _ rfl
  | some nd' =>
   rw [hk] at hf
   have ih := ih (i + 1) nd' (by omega) hk hno hyes
   rw [if_neg (by omega)] at ih
   rw [af (L := aQ) rfl]
   simp(disch:=first|assumption|omega|decide|(simp only[lens]<;>omega)|fail)only[go_sem,aQ,hbx,hmp,hf]
   exact ih
theorem A3 {kk : SK} {H : Heap} {N : Tri} {r n : Nat} (h : Lies H N r n) (ps : Path) (hps : ps.length < 1000000) (hne : ps ≠ []) : resW Γ 414 [.bx r 0,.p (.sl kk 1 (strs ps))] H = some ([ndV (N ps)],H) := by
 obtain ⟨nd,h1,rfl⟩ := h.root
 refine ab (fn := dX) rfl rfl ?_
 simp(disch:=first|assumption|omega|decide|(simp only[lens]<;>omega)|fail)only[go_sem,dX]
 refine yi h ps hps _ ps.length 0 nd (by omega) h1 (fun hno e he => ?_) (fun nd' hnd e he => ?_)
 ·simp(disch:=first|assumption|omega|decide|(simp only[lens]<;>omega)|fail)only[go_sem,he]
  simp [hno,ndV]
 ·rw [if_neg hne] at he
  simp(disch:=first|assumption|omega|decide|(simp only[lens]<;>omega)|fail)only[go_sem,he]
  simp [hnd,ndV]
end Ab
namespace Ab
open Go (IntKind BinOp UnOp)
theorem sY {l : List (List UInt8 × Nat)} (h : ∀ k ∈ l,k.1.length ≤ 1000) : bB (gS l) = some (l.map (·.1)) := by
 induction l with
 | nil => rfl
 | cons x r ih =>
  have h1 := h x (by simp)
  have h2 := ih fun k hk => h k (by simp [hk])
  simp only [gS] at h2
  simp only [gS,List.map_cons,bB]
  rw [if_pos (by unfold lim; omega),h2]
  rfl
def bJ (nd : Nd) : Path := dP (nd.kids.map (·.1))
theorem xX (m : Nat) (H : Heap) : resW Γ 428 [.mp m] H = some ([.clo 433 [.bx H.length 0]],H ++ [.box [.mp m]]) := by
 refine ab (fn := ao) rfl rfl ?_
 simp(disch:=first|assumption|omega|decide|(simp only[lens]<;>omega)|fail)only[go_sem,ao,boxA]
theorem still428 : an Γ 428 = true := rfl
theorem vi : an Γ 429 = true := rfl
theorem tC {H : Heap} {N : Tri} {r n : Nat} (h : Lies H N r n) {p : Path} {nd : Nd} (hp : N p = some nd) (hk : ∀ k ∈ nd.kids,k.1.length ≤ 1000) (hl : nd.kids.length ≤ 1000000) :
  resW Γ 423 [.bx nd.b 0] H = some ([.p (rowS (bJ nd))],H ++ [.box [.mp nd.m]]) := by
 have hb := h.box p nd hp
 have hm := h.map p nd hp
 have hml : nd.m < H.length := (List.getElem?_eq_some_iff.1 hm).1
 have e1 := xX nd.m H
 have e2 : resW Γ 429 [.clo 433 [.bx H.length 0]] (H ++ [.box [.mp nd.m]]) = some ([.p (rowS (bJ nd))],H ++ [.box [.mp nd.m]]) := by
  refine ow (g := wU [518,433]) (rs := [rowS (bJ nd)]) rfl ?_
  have b1 : bN (H ++ [.box [.mp nd.m]]) H.length = some [.mp nd.m] := by simp [bN]
  have b2 : mapOf (H ++ [.box [.mp nd.m]]) nd.m = some (gS nd.kids) := by
   unfold mapOf
   rw [List.getElem?_append_left hml,hm]
   exact pD _
  have b3 : (gS nd.kids).length ≤ lim := by unfold lim gS; rw [List.length_map]; omega
  show (bN (H ++ [.box [.mp nd.m]]) H.length).bind (keysV (H ++ [.box [.mp nd.m]])) = _
  rw [b1]
  show (mapOf (H ++ [.box [.mp nd.m]]) nd.m).bind _ = _
  rw [b2]
  show (bB (gS nd.kids)).bind _ = _
  rw [sY hk]
  show (if (gS nd.kids).length ≤ lim then _ else _) = _
  rw [if_pos b3]
  rfl
 refine ab (fn := cV) rfl rfl ?_
 simp(disch:=first|assumption|omega|decide|(simp only[lens]<;>omega)|fail)only[go_sem,cV,hb,still428,vi,e1,e2]
theorem rowS_eq (l : Path) : ∃ kk,rowS l = .sl kk 1 (strs l) := by
 cases l with
 | nil => exact ⟨_,rfl⟩
 | cons a r => exact ⟨_,rfl⟩
theorem qG (H : Heap) : resW Γ 422 [.p (.sl .nil 1 [])] H = some ([.p (.sl .nil 1 [])],H) := by
 refine ab (fn := aD) rfl rfl ?_
 simp(disch:=first|assumption|omega|decide|(simp only[lens]<;>omega)|fail)only[go_sem,aD]
theorem wQ (H : Heap) (id : Nat) (q : Path) (hq : H[id]? = some (.row false 1 (strs q))) (hne : 0 < q.length) (hl : q.length ≤ 1000000) : resW Γ 422 [.own id q.length] H = some ([.own H.length q.length],H ++ [.row false 1 (strs q)]) := by
 refine ab (fn := aD) rfl rfl ?_
 obtain ⟨a,r,rfl⟩ : ∃ a r,q = a :: r := by
  cases q with
  | nil => simp at hne
  | cons a r => exact ⟨a,r,rfl⟩
 have ha : ∀ (H : Heap),aW H 1 (.p (.sl .tight 1 [])) (strs (a :: r)) = some (.own H.length (strs (a :: r)).length,H ++ [.row false 1 (strs (a :: r))]) := fun H => by
  simp only [aW]
  rw [if_pos ⟨.inr ⟨trivial,trivial⟩,by rw [List.nil_append,strs_len]; unfold lim; omega⟩]
 rw [strs_len] at ha
 simp(disch:=first|assumption|omega|decide|(simp only[lens]<;>omega)|fail)only[go_sem,aD,hq,ha]
def vis (N : Tri) (wn : Nat → List UInt8 → Bool) : Nat → Path → List Path
 | 0,_ => []
 | f + 1,q => match N q with
  | none => []
  | some nd => (bJ nd).flatMap fun k => if wn q.length k = true then (q ++ [k]) :: vis N wn f (q ++ [k]) else []
def Ext0 (H H' : Heap) : Prop := H.length ≤ H'.length ∧ ∀ i,i < H.length → H'[i]? = H[i]?
theorem Ext0.refl (H : Heap) : Ext0 H H := ⟨Nat.le_refl _,fun _ _ => rfl⟩
theorem Ext0.trans {A B C : Heap} (h : Ext0 A B) (k : Ext0 B C) : Ext0 A C := ⟨Nat.le_trans h.1 k.1,fun i hi => (k.2 i (Nat.lt_of_lt_of_le hi h.1)).trans (h.2 i hi)⟩
theorem Ext0.app (H G : Heap) : Ext0 H (H ++ G) := ⟨by simp,fun i hi => List.getElem?_append_left hi⟩
structure Goes (Γ : Ctx) (N : Tri) (wf mf : Nat) (wc mc : List AV) (wn : Nat → List UInt8 → Bool) {σ : Type} (st : σ → Path → σ) (J : σ → Heap → Prop) (own : Heap → Nat → Prop) (sz : σ → Nat) (B : Nat) : Prop where
 lies : ∀ s H,J s H → ∃ r n,Lies H N r n
 ext : ∀ s H H',J s H → Ext0 H H' → J s H' ∧ ∀ i,own H' i → own H i
 lt : ∀ s H i,J s H → own H i → i < H.length
 wants : ∀ s H q k nd,J s H → N (q ++ [k]) = some nd → ∃ H',resW Γ wf (.p (.int .i64 (q.length : Int)) :: .p (.str k) :: wc) H = some ([.p (.bool (wn q.length k))],H') ∧ Ext0 H H'
 grow : ∀ s q,sz (st s q) ≤ sz s + 1
 meets : ∀ s H q nd id,J s H → sz s < B → q ≠ [] → N q = some nd → H[id]? = some (.row false 1 (strs q)) → ∃ H',resW Γ mf (.own id q.length :: .bx nd.b 0 :: mc) H = some ([],H') ∧ J (st s q) H' ∧ H.length ≤ H'.length ∧ ∀ i,i < H.length → ¬ own H i → H'[i]? = H[i]? ∧ ¬ own H' i
 still : an Γ wf = true ∧ an Γ mf = true
 small : ∀ q nd,N q = some nd → nd.kids.length ≤ 1000000 ∧ ∀ k ∈ nd.kids,k.1.length ≤ 1000
def Aft (own : Heap → Nat → Prop) (H H' : Heap) : Prop := H.length ≤ H'.length ∧ ∀ i,i < H.length → ¬ own H i → H'[i]? = H[i]? ∧ ¬ own H' i
theorem Aft.trans {own : Heap → Nat → Prop} {A B C : Heap} (h : Aft own A B) (k : Aft own B C) : Aft own A C :=
 ⟨Nat.le_trans h.1 k.1,fun i hi ho => by
  obtain ⟨h1,h2⟩ := h.2 i hi ho
  obtain ⟨h3,h4⟩ := k.2 i (Nat.lt_of_lt_of_le hi h.1) h2
  exact ⟨h3.trans h1,h4⟩⟩
theorem Aft.refl {own : Heap → Nat → Prop} (H : Heap) : Aft own H H := ⟨Nat.le_refl _,fun _ _ h => ⟨rfl,h⟩⟩
def Ahead (own : Heap → Nat → Prop) (H : Heap) (q : Path) (a : AV) : Prop := (q = [] ∧ a = .p (.sl .nil 1 [])) ∨ ∃ id,q ≠ [] ∧ a = .own id q.length ∧ H[id]? = some (.row false 1 (strs q)) ∧ ¬ own H id
theorem Ahead.aft {own : Heap → Nat → Prop} {H H' : Heap} {q : Path} {a : AV} (h : Ahead own H q a) (k : Aft own H H') : Ahead own H' q a := by
 rcases h with h | ⟨id,h1,h2,h3,h4⟩
 ·exact .inl h
 ·obtain ⟨h5,h6⟩ := k.2 id (List.getElem?_eq_some_iff.1 h3).1 h4
  exact .inr ⟨id,h1,h2,h5.trans h3,h6⟩
section
variable {N : Tri} {wf mf : Nat} {wc mc : List AV} {wn : Nat → List UInt8 → Bool} {σ : Type} {st : σ → Path → σ} {J : σ → Heap → Prop} {own : Heap → Nat → Prop} {sz : σ → Nat} {B : Nat}
theorem Ahead.snoc (G : Goes Γ N wf mf wc mc wn st J own sz B) {H : Heap} {s : σ} (hJ : J s H) {q : Path} {a : AV} (h : Ahead own H q a) (hl : q.length ≤ 1000) (k : List UInt8) :
  ∃ c H1 H2 id,resW Γ 422 [a] H = some ([c],H1) ∧ aW H1 1 c [.str k] = some (.own id (q ++ [k]).length,H2) ∧ H2[id]? = some (.row false 1 (strs (q ++ [k]))) ∧ Ext0 H H2 ∧ ¬ own H2 id ∧ J s H2 := by
 have fin : ∀ H2 id,H2 = H ++ [.row false 1 (strs (q ++ [k]))] → id = H.length → H2[id]? = some (.row false 1 (strs (q ++ [k]))) ∧ Ext0 H H2 ∧ ¬ own H2 id ∧ J s H2 := by
  rintro H2 id rfl rfl
  obtain ⟨h1,h2⟩ := G.ext s H _ hJ (Ext0.app H [.row false 1 (strs (q ++ [k]))])
  exact ⟨by simp,Ext0.app _ _,fun ho => by have := G.lt s H _ hJ (h2 _ ho); omega,h1⟩
 rcases h with ⟨rfl,rfl⟩ | ⟨id,hq,rfl,hrow,ho⟩
 ·refine ⟨_,_,H ++ [.row false 1 (strs [k])],H.length,qG H,?_,fin _ _ rfl rfl⟩
  simp only [aW]
  rw [if_pos ⟨.inl trivial,by show 1 ≤ lim; decide⟩]
  rfl
 ·refine ⟨_,_,H ++ [.row false 1 (strs (q ++ [k]))],H.length,wQ H id q hrow (List.length_pos_iff.2 hq) (by omega),?_,fin _ _ rfl rfl⟩
  simp only [aW,List.getElem?_concat_length]
  rw [if_pos ⟨strs_len,trivial,by rw [List.length_append,strs_len]; simp only [List.length_cons,List.length_nil]; unfold lim; omega⟩,qo,strs_len]
  rw [cX rfl]
end
end Ab
namespace Ab
open Go (IntKind BinOp UnOp)
theorem iI (s : List UInt8) : ∀ l,(insB s l).Perm (s :: l)
 | [] => .refl _
 | t :: r => by
  unfold insB
  split
  ·exact ((iI s r).cons t).trans (.swap s t r)
  ·exact .refl _
theorem b9 : ∀ l,(dP l).Perm l
 | [] => .refl _
 | s :: r => (iI s _).trans ((b9 r).cons s)
section
variable {N : Tri} {wf mf : Nat} {wc mc : List AV} {wn : Nat → List UInt8 → Bool} {σ : Type} {st : σ → Path → σ} {J : σ → Heap → Prop} {own : Heap → Nat → Prop} {sz : σ → Nat} {B : Nat} {wv mv : AV}
theorem Goes.aft (G : Goes Γ N wf mf wc mc wn st J own sz B) {H H' : Heap} {s : σ} (hJ : J s H) (h : Ext0 H H') : J s H' ∧ Aft own H H' := by
 obtain ⟨h1,h2⟩ := G.ext s H H' hJ h
 exact ⟨h1,h.1,fun i hi ho => ⟨h.2 i hi,fun ho' => ho (h2 i ho')⟩⟩
def WalkOk (N : Tri) (_wf _mf : Nat) (_wc _mc : List AV) (wn : Nat → List UInt8 → Bool) {σ : Type} (st : σ → Path → σ) (J : σ → Heap → Prop) (own : Heap → Nat → Prop) (sz : σ → Nat) (B : Nat) (wv mv : AV) (f : Nat) : Prop :=
 ∀ (q : Path) (nd : Nd) (a : AV) (s : σ) (H : Heap),N q = some nd → (∀ t nd',N (q ++ t) = some nd' → t.length < f) → q.length + f ≤ 1000 → sz s + (vis N wn f q).length ≤ B → J s H → Ahead own H q a →
  ∃ H',resW Γ 413 [.bx nd.b 0,a,.p (.int .i64 (q.length : Int)),wv,mv] H = some ([],H') ∧ J ((vis N wn f q).foldl st s) H' ∧ Aft own H H'
theorem se (G : Goes Γ N wf mf wc mc wn st J own sz B) : ∀ (l : List Path) (s : σ),sz (l.foldl st s) ≤ sz s + l.length
 | [],s => Nat.le_refl _
 | q :: l,s => by
  have h1 := G.grow s q
  have h2 := se G l (st s q)
  simp only [List.foldl_cons,List.length_cons]
  omega
theorem still422 : an Γ 422 = true := rfl
theorem vE : an Γ 413 = true := rfl
theorem still423 : an Γ 423 = true := rfl
theorem xV (G : Goes Γ N wf mf wc mc wn st J own sz B) (hcw : callee wv = some (wf,wc)) (hcm : callee mv = some (mf,mc)) {f : Nat} (ih : WalkOk N wf mf wc mc wn st J own sz B wv mv f) {q : Path} {nd : Nd} {a : AV} (hN : N q = some nd)
  (hd : ∀ t nd',N (q ++ t) = some nd' → t.length < f + 1) (hq : q.length + f < 1000) {kk : SK} (hkids : (bJ nd).length ≤ 1000000) (hlab : ∀ k ∈ bJ nd,∃ nd',N (q ++ [k]) = some nd') (Q : Out → Prop) (H0 : Heap) (s0 : σ)
  (hQ : ∀ e H',J (((bJ nd).flatMap fun k => if wn q.length k = true then (q ++ [k]) :: vis N wn f (q ++ [k]) else []).foldl st s0) H' → Aft own H0 H' → Q (.ex 0,e,H')) :
  ∀ (g i : Nat) (s : σ) (H : Heap),i + g = (bJ nd).length → sz s + (((bJ nd).drop i).flatMap fun k => if wn q.length k = true then (q ++ [k]) :: vis N wn f (q ++ [k]) else []).length ≤ B → J s H → Aft own H0 H → Ahead own H q a →
  ((bJ nd).drop i).foldl (fun s k => (if wn q.length k = true then (q ++ [k]) :: vis N wn f (q ++ [k]) else []).foldl st s) s = ((bJ nd).flatMap fun k => if wn q.length k = true then (q ++ [k]) :: vis N wn f (q ++ [k]) else []).foldl st s0 →
  Wp Γ aN [(0,.bx nd.b 0),(1,a),(2,.p (.int .i64 (q.length : Int))),(3,wv),(4,mv),(15,.p (.sl kk 1 (strs (bJ nd)))),(16,.p (.int .i64 ((bJ nd).length : Int))),(17,.p (.int .i64 (i : Int)))] H Q := by
 unfold callee at hcw hcm
 intro g
 induction g with
 | zero =>
  intro i s H hi hB hJ hA ha hf
  have hi : i = (bJ nd).length := by omega
  subst hi
  rw [List.drop_length] at hf
  simp only [List.foldl_nil] at hf
  subst hf
  rw [af (L := aN) rfl]
  simp(disch:=first|assumption|omega|decide|(simp only[lens]<;>omega)|fail)only[go_sem,aN]
  exact hQ _ _ hJ hA
 | succ g ihg =>
  intro i s H hi hB hJ hA ha hf
  have hlt : i < (bJ nd).length := by omega
  have hdrop : (bJ nd).drop i = (bJ nd).getD i [] :: (bJ nd).drop (i + 1) := by
   rw [List.drop_eq_getElem_cons hlt,List.getD_eq_getElem?_getD,List.getElem?_eq_getElem hlt]; rfl
  obtain ⟨nd',hnd'⟩ := hlab ((bJ nd).getD i []) (by rw [List.getD_eq_getElem?_getD,List.getElem?_eq_getElem hlt]; exact List.getElem_mem hlt)
  generalize hk : (bJ nd).getD i [] = k at hdrop hnd'
  rw [hdrop,List.foldl_cons] at hf
  rw [hdrop,List.flatMap_cons,List.length_append] at hB
  obtain ⟨H1,hw,hx1⟩ := G.wants s H q k nd' hJ hnd'
  obtain ⟨hJ1,hA1⟩ := G.aft hJ hx1
  have ha1 := ha.aft hA1
  cases hwn : wn q.length k with
  | false =>
   rw [hwn] at hw
   rw [hwn,if_neg (by simp)] at hf
   have ih := ihg (i + 1) s H1 (by omega) (by omega) hJ1 (hA.trans hA1) ha1 hf
   rw [af (L := aN) rfl]
   simp(disch:=first|assumption|omega|decide|(simp only[lens]<;>omega)|fail)only[go_sem,aN,hcw,G.still.1,hk,hw]
   exact ih
  | true =>
   rw [hwn] at hw
   rw [hwn,if_pos rfl,List.foldl_cons] at hf
   rw [hwn,if_pos rfl,List.length_cons] at hB
   have hg1 := G.grow s (q ++ [k])
   have hg2 := se G (vis N wn f (q ++ [k])) (st s (q ++ [k]))
   obtain ⟨r,n,hL⟩ := G.lies s H1 hJ1
   have hb := hL.box q nd hN
   have hm := hL.map q nd hN
   have hfd := hL.find hN k
   rw [hnd'] at hfd
   obtain ⟨c,H2,H3,id,hcl,hap,hrow,hx3,hno,hJ3⟩ := Ahead.snoc G hJ1 ha1 (by omega) k
   obtain ⟨_,hA3⟩ := G.aft hJ1 hx3
   obtain ⟨H4,hme,hJ4,hl4,hk4⟩ := G.meets s H3 (q ++ [k]) nd' id hJ3 (by omega) (by simp) hnd' hrow
   have hA4 : Aft own H3 H4 := ⟨hl4,hk4⟩
   have ha4 : Ahead own H4 (q ++ [k]) (.own id (q ++ [k]).length) := Ahead.aft (.inr ⟨id,by simp,rfl,hrow,hno⟩) hA4
   obtain ⟨H5,hwk,hJ5,hA5⟩ := ih (q ++ [k]) nd' _ _ H4 hnd' (fun t nd2 ht => by
    have := hd (k :: t) nd2 (by simpa using ht)
    simp only [List.length_cons] at this
    omega) (by simp; omega) (by omega) hJ4 ha4
   have hlen : ((q ++ [k]).length : Int) = (q.length : Int) + 1 := by simp
   rw [hlen] at hwk
   have ih := ihg (i + 1) _ H5 (by omega) (by omega) hJ5 (hA.trans (hA1.trans (hA3.trans (hA4.trans hA5)))) (((ha1.aft hA3).aft hA4).aft hA5) hf
   rw [af (L := aN) rfl]
   simp(disch:=first|assumption|omega|decide|(simp only[lens]<;>omega)|fail)only[go_sem,aN,hcw,hcm,G.still.1,G.still.2,hk,hw,hb,hm,hfd,still422,vE,hcl,hap,hme,hwk]
   exact ih
theorem zI (G : Goes Γ N wf mf wc mc wn st J own sz B) (hcw : callee wv = some (wf,wc)) (hcm : callee mv = some (mf,mc)) : ∀ f,WalkOk N wf mf wc mc wn st J own sz B wv mv f
 | 0 => fun q nd a s H hN hd _ _ _ _ => by
  have := hd [] nd (by simpa using hN)
  simp at this
 | f + 1 => fun q nd a s H hN hd hl hB hJ ha => by
  obtain ⟨r,n,hL⟩ := G.lies s H hJ
  obtain ⟨s1,s2⟩ := G.small q nd hN
  have hs := tC hL hN s2 s1
  obtain ⟨kk,hkk⟩ := rowS_eq (bJ nd)
  rw [hkk] at hs
  have hlen : (bJ nd).length = nd.kids.length := by
   have := (b9 (nd.kids.map (·.1))).length_eq
   rw [List.length_map] at this
   exact this
  have hlab : ∀ k ∈ bJ nd,∃ nd',N (q ++ [k]) = some nd' := fun k hk => by
   have := (b9 (nd.kids.map (·.1))).mem_iff.1 hk
   obtain ⟨x,hx,rfl⟩ := List.mem_map.1 this
   obtain ⟨nd',h1,_⟩ := hL.kid q nd hN x.1 x.2 hx
   exact ⟨nd',h1⟩
  obtain ⟨hJ1,hA1⟩ := G.aft hJ (Ext0.app H [.box [.mp nd.m]])
  have e : vis N wn (f + 1) q = (bJ nd).flatMap fun k => if wn q.length k = true then (q ++ [k]) :: vis N wn f (q ++ [k]) else [] := by
   simp only [vis,hN]
  rw [e] at hB ⊢
  have key : ∃ rs H',resW Γ 413 [.bx nd.b 0,a,.p (.int .i64 (q.length : Int)),wv,mv] H = some (rs,H') ∧ rs = [] ∧ J (((bJ nd).flatMap fun k => if wn q.length k = true then (q ++ [k]) :: vis N wn f (q ++ [k]) else []).foldl st s) H' ∧ Aft own H H' := by
   refine fB (fn := dV) (K := fun rs H' => rs = [] ∧ J (((bJ nd).flatMap fun k => if wn q.length k = true then (q ++ [k]) :: vis N wn f (q ++ [k]) else []).foldl st s) H' ∧ Aft own H H') rfl rfl ?_
   simp(disch:=first|assumption|omega|decide|(simp only[lens]<;>omega)|fail)only[go_sem,dV,still423,hs]
   refine xV G hcw hcm (zI G hcw hcm f) hN hd (by omega) (by omega) hlab _ (H ++ [.box [.mp nd.m]]) s (fun e' H' h1 h2 => ?_) (bJ nd).length 0 s _ (by omega) (by rw [List.drop_zero]; exact hB) hJ1 (.refl _) (ha.aft hA1) (by rw [List.drop_zero,List.foldl_flatMap])
   simp(disch:=first|assumption|omega|decide|(simp only[lens]<;>omega)|fail)only[go_sem]
   exact ⟨h1,hA1.trans h2⟩
  obtain ⟨rs,H',h1,rfl,h2,h3⟩ := key
  exact ⟨H',h1,h2,h3⟩
end
end Ab
namespace Ab
end Ab
namespace Ab
open Go (IntKind BinOp UnOp)
theorem tG (l : List (List UInt8)) : oc (strs l) = some l := by
 induction l with
 | nil => rfl
 | cons a l ih => simp only [strs,List.map_cons,oc] at ih ⊢; rw [ih]; rfl
@[go_sem] theorem res_Join {kk : SK} (l : List (List UInt8)) (sep : List UInt8) (hl : l.length < 1000000000) (hj : (bD sep l).length ≤ 1000000000) : res Γ 48 [.sl kk 1 (strs l),.str sep] = some [.str (bD sep l)] := by
 refine jl (fJ (g := Bm) rfl ?_)
 simp only [Bm,tG]
 rw [if_pos ⟨hj,by omega⟩]
end Ab
namespace Ab
open Go (IntKind BinOp UnOp)
theorem pG (sep x : List UInt8) : ∀ l : List (List UInt8),l ≠ [] → bD sep (l ++ [x]) = bD sep l ++ (sep ++ x)
 | [],h => absurd rfl h
 | [a],_ => by simp [bD]
 | a :: b :: r,_ => by
  have := pG sep x (b :: r) (by simp)
  simp only [List.cons_append,bD,List.append_assoc] at this ⊢
  rw [this]
theorem yy (sep : List UInt8) (l : List (List UInt8)) : ∀ i,(bD sep (l.take i)).length ≤ (bD sep l).length := by
 have key : ∀ (b a : List (List UInt8)),(bD sep a).length ≤ (bD sep (a ++ b)).length := by
  intro b
  induction b with
  | nil => intro a; simp
  | cons x b ih =>
   intro a
   have h1 := ih (a ++ [x])
   rw [List.append_assoc] at h1
   refine Nat.le_trans ?_ h1
   by_cases ha : a = []
   ·subst ha; simp [bD]
   ·rw [pG sep x a ha]; simp
 intro i
 have := key (l.drop i) (l.take i)
 rwa [List.take_append_drop] at this
@[go_sem] theorem lH {kk : SK} (l : List (List UInt8)) (hl : l.length < 1000000000) (hj : (bD [46] l).length ≤ 1000000000) : res Γ 1 [.sl kk 1 (strs l)] = some [.str (bD [46] l)] := by
 refine aw (fn := km) rfl rfl ?_
 simp(disch:=first|assumption|omega|decide|(simp only[lens]<;>omega)|fail)only[go_sem,km]
end Ab
namespace Ab
open Go (IntKind BinOp UnOp)
structure Tiny (N : Tri) : Prop where
 kids : ∀ q nd,N q = some nd → nd.kids.length ≤ 1000000 ∧ ∀ k ∈ nd.kids,k.1.length ≤ 1000
 deep : ∀ q nd,N q = some nd → q.length ≤ 20 ∧ (bD [46] q).length ≤ 1000
def aR (N : Tri) (q : Path) : Bool := match N q with | some nd => nd.leaf | none => false
def mX (N : Tri) (s : Path) (q : Path) : Path := if aR N q = true then s ++ [bD [46] q] else s
def RowB (H : Heap) (l : Nat) (s : Path) : Prop := (s = [] ∧ H[l]? = some (.box [.p (.sl .nil 1 [])])) ∨ (s ≠ [] ∧ ∃ id,H[l]? = some (.box [.own id s.length]) ∧ H[id]? = some (.row false 1 (strs s)))
structure NamesJ (N : Tri) (r n l B : Nat) (s : Path) (H : Heap) : Prop where
 lies : Lies H N r n
 base : ∀ i,Foot N i → i < B
 box : B ≤ l
 row : RowB H l s
 new : ∀ id m,H[l]? = some (.box [.own id m]) → B ≤ id
def ownN (l : Nat) (H : Heap) (i : Nat) : Prop := i = l ∨ ∃ m,H[l]? = some (.box [.own i m])
theorem RowB.lt {H : Heap} {l : Nat} {s : Path} (h : RowB H l s) : l < H.length := by
 rcases h with ⟨_,h⟩ | ⟨_,id,h,_⟩ <;> exact (List.getElem?_eq_some_iff.1 h).1
theorem resW_yes (q : Nat) (k : List UInt8) (H : Heap) : resW Γ 416 [.p (.int .i64 (q : Int)),.p (.str k)] H = some ([.p (.bool true)],H) := by
 refine ab (fn := cG) rfl rfl ?_
 simp(disch:=first|assumption|omega|decide|(simp only[lens]<;>omega)|fail)only[go_sem,cG]
theorem ol {q : Path} (hq : q ≠ []) (nd : Nd) (n : Nat) : mark q nd n = .p (.bool nd.leaf) := if_neg hq
theorem ud {H : Heap} {b m l id k : Nat} (hb : H[b]? = some (.box [.mp m,.p (.bool false)])) : resW Γ 415 [.own id k,.bx b 0,.bx l 0] H = some ([],H) := by
 refine ab (fn := aP) rfl rfl ?_
 simp(disch:=first|assumption|omega|decide|(simp only[lens]<;>omega)|fail)only[go_sem,aP,hb]
theorem sS {H : Heap} {b m l id : Nat} {q : Path} (hb : H[b]? = some (.box [.mp m,.p (.bool true)])) (hl : H[l]? = some (.box [.p (.sl .nil 1 [])])) (hq : H[id]? = some (.row false 1 (strs q))) (h1 : q.length ≤ 20) (h2 : (bD [46] q).length ≤ 1000) :
  resW Γ 415 [.own id q.length,.bx b 0,.bx l 0] H = some ([],(H ++ [Blk.row false 1 [PV.str (bD [46] q)]]).set l (Blk.box [AV.own H.length 1])) := by
 have hll : l < H.length := (List.getElem?_eq_some_iff.1 hl).1
 have hj := lH (kk := .any) q (by omega) (by omega)
 refine ab (fn := aP) rfl rfl ?_
 simp(disch:=first|assumption|omega|decide|(simp only[lens]<;>omega)|fail)only[go_sem,aP,hb,hl,hq,hj,z8]
theorem rH {H : Heap} {b m l id j : Nat} {q s : Path} (hb : H[b]? = some (.box [.mp m,.p (.bool true)])) (hl : H[l]? = some (.box [.own j s.length])) (hj : H[j]? = some (.row false 1 (strs s))) (hs : s.length ≤ 1000000) (hq : H[id]? = some (.row false 1 (strs q))) (h1 : q.length ≤ 20) (h2 : (bD [46] q).length ≤ 1000) :
  resW Γ 415 [.own id q.length,.bx b 0,.bx l 0] H = some ([],(H.set j (Blk.row false 1 (strs (s ++ [bD [46] q])))).set l (Blk.box [AV.own j (s.length + 1)])) := by
 have hlj : j ≠ l := fun e => by rw [e,hl] at hj; cases hj
 have hjn := lH (kk := .any) q (by omega) (by omega)
 have hll : (H.set j (Blk.row false 1 (strs (s ++ [bD [46] q]))))[l]? = some (.box [.own j s.length]) := by rw [List.getElem?_set_ne hlj]; exact hl
 refine ab (fn := aP) rfl rfl ?_
 simp(disch:=first|assumption|omega|decide|(simp only[lens]<;>omega)|fail)only[go_sem,aP,hb,hl,hq,hjn,hj,hll,qo]
theorem jC {N : Tri} {q : Path} {nd : Nd} (h : N q = some nd) : aR N q = nd.leaf := by simp [aR,h]
theorem w5 {N : Tri} (ht : Tiny N) (r n l B : Nat) : Goes Γ N 416 415 [] [.bx l 0] (fun _ _ => true) (mX N) (NamesJ N r n l B) (ownN l) List.length 1000000 where
 lies s H h := ⟨r,n,h.lies⟩
 ext s H H' h hx := by
  have hl := h.row.lt
  have e : H'[l]? = H[l]? := hx.2 l hl
  refine ⟨⟨h.lies.keep fun i hi => hx.2 i (h.lies.foot_lt hi),h.base,h.box,?_,fun id m hm => h.new id m (by rw [← e]; exact hm)⟩,fun i hi => ?_⟩
  ·rcases h.row with ⟨h1,h2⟩ | ⟨h1,id,h2,h3⟩
   ·exact .inl ⟨h1,e.trans h2⟩
   ·exact .inr ⟨h1,id,e.trans h2,(hx.2 id (List.getElem?_eq_some_iff.1 h3).1).trans h3⟩
  ·rcases hi with rfl | ⟨m,hm⟩
   ·exact .inl rfl
   ·exact .inr ⟨m,by rw [← e]; exact hm⟩
 lt s H i h ho := by
  rcases ho with rfl | ⟨m,hm⟩
  ·exact h.row.lt
  ·rcases h.row with ⟨h1,h2⟩ | ⟨h1,id,h2,h3⟩
   ·rw [h2] at hm; cases hm
   ·rw [h2] at hm
    cases hm
    exact (List.getElem?_eq_some_iff.1 h3).1
 wants s H q k nd h hN := ⟨H,resW_yes _ _ _,.refl _⟩
 grow s q := by
  unfold mX
  split
  ·simp
  ·omega
 still := ⟨rfl,rfl⟩
 small := ht.kids
 meets s H q nd id h hs hq hN hrow := by
  obtain ⟨d1,d2⟩ := ht.deep q nd hN
  have hb := h.lies.box q nd hN
  rw [ol hq] at hb
  have hll := h.row.lt
  have hst : mX N s q = if nd.leaf = true then s ++ [bD [46] q] else s := by simp only [mX,jC hN]
  rw [hst]
  cases hlf : nd.leaf with
  | false =>
   rw [hlf] at hb
   exact ⟨H,ud hb,h,Nat.le_refl _,fun i hi ho => ⟨rfl,ho⟩⟩
  | true =>
   rw [hlf] at hb
   rw [if_pos rfl]
   have keepL : ∀ H' : Heap,(∀ i,i < H.length → ¬ ownN l H i → H'[i]? = H[i]?) → Lies H' N r n := fun H' hk => h.lies.keep fun i hi => by
    refine hk i (h.lies.foot_lt hi) fun ho => ?_
    have hlt := h.base i hi
    rcases ho with rfl | ⟨m,hm⟩
    ·have := h.box; omega
    ·have := h.new _ _ hm; omega
   rcases h.row with ⟨rfl,h2⟩ | ⟨h1,j,h2,h3⟩
   ·refine ⟨_,sS hb h2 hrow d1 d2,?_⟩
    have hbase : ∀ i,i < H.length → ¬ ownN l H i → ((H ++ [Blk.row false 1 [PV.str (bD [46] q)]]).set l (Blk.box [AV.own H.length 1]))[i]? = H[i]? := fun i hi ho => by
     rw [List.getElem?_set_ne (fun e => ho (.inl e.symm)),List.getElem?_append_left hi]
    have hl' : ((H ++ [Blk.row false 1 [PV.str (bD [46] q)]]).set l (Blk.box [AV.own H.length 1]))[l]? = some (Blk.box [AV.own H.length 1]) := by
     rw [List.getElem?_set_self (by simp; omega)]
    have hn' : ((H ++ [Blk.row false 1 [PV.str (bD [46] q)]]).set l (Blk.box [AV.own H.length 1]))[H.length]? = some (Blk.row false 1 (strs [bD [46] q])) := by
     rw [List.getElem?_set_ne (by omega),List.getElem?_concat_length]; rfl
    refine ⟨⟨keepL _ hbase,h.base,h.box,.inr ⟨by simp,H.length,hl',hn'⟩,fun id m hm => ?_⟩,by simp,fun i hi ho => ⟨hbase i hi ho,fun ho' => ?_⟩⟩
    ·rw [hl'] at hm
     cases hm
     have := h.box; omega
    ·rcases ho' with rfl | ⟨m,hm⟩
     ·exact ho (.inl rfl)
     ·rw [hl'] at hm
      cases hm
      omega
   ·refine ⟨_,rH hb h2 h3 (by omega) hrow d1 d2,?_⟩
    have hlj : j ≠ l := fun e => by rw [e,h2] at h3; cases h3
    have hjl : j < H.length := (List.getElem?_eq_some_iff.1 h3).1
    have hbase : ∀ i,i < H.length → ¬ ownN l H i → ((H.set j (Blk.row false 1 (strs (s ++ [bD [46] q])))).set l (Blk.box [AV.own j (s.length + 1)]))[i]? = H[i]? := fun i hi ho => by
     rw [List.getElem?_set_ne (fun e => ho (.inl e.symm)),List.getElem?_set_ne (fun e => ho (.inr ⟨_,by rw [← e]; exact h2⟩))]
    have hl' : ((H.set j (Blk.row false 1 (strs (s ++ [bD [46] q])))).set l (Blk.box [AV.own j (s.length + 1)]))[l]? = some (Blk.box [AV.own j (s.length + 1)]) := by
     rw [List.getElem?_set_self (by simp; omega)]
    have hn' : ((H.set j (Blk.row false 1 (strs (s ++ [bD [46] q])))).set l (Blk.box [AV.own j (s.length + 1)]))[j]? = some (Blk.row false 1 (strs (s ++ [bD [46] q]))) := by
     rw [List.getElem?_set_ne hlj.symm,List.getElem?_set_self hjl]
    refine ⟨⟨keepL _ hbase,h.base,h.box,.inr ⟨by simp,j,by rw [hl']; simp,hn'⟩,fun id m hm => ?_⟩,by simp,fun i hi ho => ⟨hbase i hi ho,fun ho' => ?_⟩⟩
    ·rw [hl'] at hm
     cases hm
     exact h.new _ _ h2
    ·rcases ho' with rfl | ⟨m,hm⟩
     ·exact ho (.inl rfl)
     ·rw [hl'] at hm
      cases hm
      exact ho (.inr ⟨_,h2⟩)
def RowV (H : Heap) (v : AV) (l : Path) : Prop := (l = [] ∧ v = .p (.sl .nil 1 [])) ∨ (l ≠ [] ∧ ∃ id,v = .own id l.length ∧ H[id]? = some (.row false 1 (strs l)))
def qa (N : Tri) : Path := (vis N (fun _ _ => true) 21 []).foldl (mX N) []
theorem yz {H : Heap} {N : Tri} {r n : Nat} (h : Lies H N r n) (ht : Tiny N) (hv : (vis N (fun _ _ => true) 21 []).length ≤ 1000000) : ∃ v H',resW Γ 397 [.bx r 0] H = some ([v],H') ∧ RowV H' v (qa N) ∧ Ext0 H H' := by
 obtain ⟨nd,h1,rfl⟩ := h.root
 have hl : ∀ i,i < H.length → (H ++ [Blk.box [AV.p (.sl .nil 1 [])]])[i]? = H[i]? := fun i hi => List.getElem?_append_left hi
 have hJ : NamesJ N nd.b n H.length H.length [] (H ++ [Blk.box [AV.p (.sl .nil 1 [])]]) := ⟨h.keep fun i hi => hl i (h.foot_lt hi),fun i hi => h.foot_lt hi,Nat.le_refl _,.inl ⟨rfl,by simp⟩,fun id m hm => by simp at hm⟩
 obtain ⟨H',hw,hJ',hA⟩ := zI (w5 ht nd.b n H.length H.length) (wv := .p (.clo 416 [])) (mv := .clo 415 [.bx H.length 0]) rfl rfl 21 [] nd (.p (.sl .nil 1 [])) [] _ h1 (fun t nd' hn => by
  have := (ht.deep t nd' (by simpa using hn)).1
  omega) (by decide) (by simpa using hv) hJ (.inl ⟨rfl,rfl⟩)
 have hx : Ext0 H H' := by
  refine ⟨by have := hA.1; simp at this; omega,fun i hi => ?_⟩
  rw [(hA.2 i (by simp; omega) (fun ho => ?_)).1,hl i hi]
  rcases ho with rfl | ⟨m,hm⟩
  ·omega
  ·simp at hm
 have e0 : ((List.length ([] : Path) : Nat) : Int) = 0 := rfl
 rw [e0] at hw
 have key : ∀ v,(∃ r,H'[H.length]? = some (.box (v :: r))) → (∀ r,boxK (some (.box (v :: r))) = some (v :: r)) → resW Γ 397 [.bx nd.b 0] H = some ([v],H') := by
  rintro v ⟨r,hr⟩ hbk
  have hb := hbk r
  refine ab (fn := dx) rfl rfl ?_
  simp(disch:=first|assumption|omega|decide|(simp only[lens]<;>omega)|fail)only[go_sem,dx,vE,hw,hr,hb]
 rcases hJ'.row with ⟨h2,h3⟩ | ⟨h2,id,h3,h4⟩
 ·exact ⟨_,H',key _ ⟨_,h3⟩ (fun _ => rfl),.inl ⟨h2,rfl⟩,hx⟩
 ·exact ⟨_,H',key _ ⟨_,h3⟩ (fun _ => rfl),.inr ⟨h2,id,rfl,h4⟩,hx⟩
end Ab
namespace Ab
open Go (IntKind BinOp UnOp)
def d8 (N : Tri) (p : Path) (k : List UInt8) (b m : Nat) : Tri := fun q =>
 if q = p then (N p).map fun nd => { nd with kids := nd.kids ++ [(k,b)] } else if q = p ++ [k] then some ⟨b,m,false,[]⟩ else N q
theorem yY {p : Path} {k : List UInt8} : p ++ [k] ≠ p := fun e => by
 have := congrArg List.length e
 simp at this
def Chg (N N' : Tri) (H H' : Heap) : Prop := H.length ≤ H'.length ∧ (∀ i,i < H.length → ¬ Foot N i → H'[i]? = H[i]?) ∧ ∀ i,Foot N' i → Foot N i ∨ H.length ≤ i
theorem Chg.refl (N : Tri) (H : Heap) : Chg N N H H := ⟨Nat.le_refl _,fun _ _ _ => rfl,fun _ h => .inl h⟩
theorem Chg.trans {N N1 N2 : Tri} {H H1 H2 : Heap} (a : Chg N N1 H H1) (b : Chg N1 N2 H1 H2) : Chg N N2 H H2 :=
 ⟨Nat.le_trans a.1 b.1,fun i hi hf => (b.2.1 i (Nat.lt_of_lt_of_le hi a.1) (fun h => by rcases a.2.2 i h with h | h; exact hf h; omega)).trans (a.2.1 i hi hf),fun i h => by
  rcases b.2.2 i h with h | h
  ·exact a.2.2 i h
  ·have := a.1
   exact .inr (by omega)⟩
theorem ti {H : Heap} {N : Tri} {r n : Nat} (h : Lies H N r n) {p : Path} {nd : Nd} (hp : N p = some nd) {k : List UInt8} (hk : N (p ++ [k]) = none) :
  Lies ((H ++ [Blk.box (ah [])] ++ [Blk.box [.mp H.length,.p (.bool false)]]).set nd.m (Blk.box (ah (gS nd.kids ++ [(PV.str k,AV.bx (H.length + 1) 0)])))) (d8 N p k (H.length + 1) H.length) r n ∧
  Chg N (d8 N p k (H.length + 1) H.length) H ((H ++ [Blk.box (ah [])] ++ [Blk.box [.mp H.length,.p (.bool false)]]).set nd.m (Blk.box (ah (gS nd.kids ++ [(PV.str k,AV.bx (H.length + 1) 0)])))) := by
 have hml : nd.m < H.length := (List.getElem?_eq_some_iff.1 (h.map p nd hp)).1
 generalize hH' : (H ++ [Blk.box (ah [])] ++ [Blk.box [.mp H.length,.p (.bool false)]]).set nd.m (Blk.box (ah (gS nd.kids ++ [(PV.str k,AV.bx (H.length + 1) 0)]))) = H'
 have o1 : ∀ i,i < H.length → i ≠ nd.m → H'[i]? = H[i]? := fun i hi hne => by
  rw [← hH',List.getElem?_set_ne hne.symm,List.append_assoc,List.getElem?_append_left hi]
 have o2 : H'[nd.m]? = some (Blk.box (ah (gS nd.kids ++ [(PV.str k,AV.bx (H.length + 1) 0)]))) := by
  rw [← hH',List.getElem?_set_self (by simp; omega)]
 have o3 : H'[H.length]? = some (Blk.box (ah [])) := by
  rw [← hH',List.getElem?_set_ne (by omega),List.append_assoc,List.getElem?_append_right (Nat.le_refl _),Nat.sub_self]; rfl
 have o4 : H'[H.length + 1]? = some (Blk.box [.mp H.length,.p (.bool false)]) := by
  rw [← hH',List.getElem?_set_ne (by omega),List.append_assoc,List.getElem?_append_right (by omega),show H.length + 1 - H.length = 1 by omega]; rfl
 have hlen : H.length + 2 = H'.length := by rw [← hH']; simp
 -- the nodes of the new trie
 have a1 : d8 N p k (H.length + 1) H.length p = some { nd with kids := nd.kids ++ [(k,H.length + 1)] } := by simp [d8,hp]
 have a2 : d8 N p k (H.length + 1) H.length (p ++ [k]) = some ⟨H.length + 1,H.length,false,[]⟩ := by simp [d8]
 have a3 : ∀ q,q ≠ p → q ≠ p ++ [k] → d8 N p k (H.length + 1) H.length q = N q := fun q h1 h2 => by simp [d8,h1,h2]
 have hnd : ∀ q nd',d8 N p k (H.length + 1) H.length q = some nd' → (q = p ∧ nd' = { nd with kids := nd.kids ++ [(k,H.length + 1)] }) ∨ (q = p ++ [k] ∧ nd' = ⟨H.length + 1,H.length,false,[]⟩) ∨ (q ≠ p ∧ q ≠ p ++ [k] ∧ N q = some nd') := by
  intro q nd' hq
  by_cases e1 : q = p
  ·subst e1; rw [a1] at hq; cases hq; exact .inl ⟨rfl,rfl⟩
  ·by_cases e2 : q = p ++ [k]
   ·subst e2; rw [a2] at hq; cases hq; exact .inr (.inl ⟨rfl,rfl⟩)
   ·rw [a3 q e1 e2] at hq; exact .inr (.inr ⟨e1,e2,hq⟩)
 -- every node: its places in the old trie,or new ones
 have hpl : ∀ q nd',d8 N p k (H.length + 1) H.length q = some nd' → (q = p ++ [k] ∧ nd'.b = H.length + 1 ∧ nd'.m = H.length) ∨ ∃ nd0,N q = some nd0 ∧ nd'.b = nd0.b ∧ nd'.m = nd0.m := by
  intro q nd' hq
  rcases hnd q nd' hq with ⟨rfl,rfl⟩ | ⟨rfl,rfl⟩ | ⟨_,_,h3⟩
  ·exact .inr ⟨nd,hp,rfl,rfl⟩
  ·exact .inl ⟨rfl,rfl,rfl⟩
  ·exact .inr ⟨nd',h3,rfl,rfl⟩
 have blt : ∀ q nd0,N q = some nd0 → nd0.b < H.length ∧ nd0.m < H.length := fun q nd0 hq => ⟨(List.getElem?_eq_some_iff.1 (h.box q nd0 hq)).1,(List.getElem?_eq_some_iff.1 (h.map q nd0 hq)).1⟩
 refine ⟨⟨?_,fun q nd' hq => ?_,fun q nd' hq => ?_,fun q nd' hq k' b' hk' => ?_,fun q k' nd' hq => ?_,fun q nd' hq => ?_,fun q q' nd' nd2 hq hq' e => ?_,fun q q' nd' nd2 hq hq' e => ?_,fun q q' nd' nd2 hq hq' e => ?_⟩,by omega,fun i hi hf => o1 i hi (fun e => hf ⟨p,nd,hp,.inr e.symm⟩),fun i hi => ?_⟩
 ·obtain ⟨nd0,h0,h1⟩ := h.root
  by_cases e1 : p = []
  ·subst e1
   rw [hp] at h0; cases h0
   exact ⟨_,a1,h1⟩
  ·exact ⟨nd0,(a3 [] (fun e => e1 e.symm) (by simp)).trans h0,h1⟩
 ·rcases hnd q nd' hq with ⟨rfl,rfl⟩ | ⟨rfl,rfl⟩ | ⟨h1,h2,h3⟩
  ·have hb := h.box _ nd hp
   exact (o1 nd.b (blt _ _ hp).1 (h.sep _ _ _ _ hp hp)).trans hb
  ·rw [ol (by simp)]
   exact o4
  ·exact (o1 nd'.b (blt _ _ h3).1 (h.sep _ _ _ _ h3 hp)).trans (h.box _ _ h3)
 ·rcases hnd q nd' hq with ⟨rfl,rfl⟩ | ⟨rfl,rfl⟩ | ⟨h1,h2,h3⟩
  ·rw [o2]
   simp [gS]
  ·exact o3
  ·exact (o1 nd'.m (blt _ _ h3).2 (fun e => h1 (h.injm _ _ _ _ h3 hp e))).trans (h.map _ _ h3)
 ·rcases hnd q nd' hq with ⟨rfl,rfl⟩ | ⟨rfl,rfl⟩ | ⟨h1,h2,h3⟩
  ·rcases List.mem_append.1 hk' with hk' | hk'
   ·obtain ⟨nd2,h4,h5⟩ := h.kid _ nd hp k' b' hk'
    have hne : k' ≠ k := fun e => by rw [e,hk] at h4; cases h4
    refine ⟨nd2,(a3 _ (fun e => ?_) (fun e => hne (by simpa using e))).trans h4,h5⟩
    exact yY e
   ·simp only [List.mem_singleton,Prod.mk.injEq] at hk'
    obtain ⟨rfl,rfl⟩ := hk'
    exact ⟨_,a2,rfl⟩
  ·simp at hk'
  ·obtain ⟨nd2,h4,h5⟩ := h.kid q nd' h3 k' b' hk'
   by_cases e1 : q ++ [k'] = p
   ·rw [e1] at h4 ⊢
    rw [hp] at h4; cases h4
    exact ⟨_,a1,h5⟩
   ·by_cases e2 : q ++ [k'] = p ++ [k]
    ·rw [e2,hk] at h4; cases h4
    ·exact ⟨nd2,(a3 _ e1 e2).trans h4,h5⟩
 ·rcases hnd _ nd' hq with ⟨e,rfl⟩ | ⟨e,rfl⟩ | ⟨h1,h2,h3⟩
  ·obtain ⟨nd2,h4,h5⟩ := h.up q k' nd (by rw [e]; exact hp)
   refine ⟨nd2,(a3 q (fun e2 => ?_) (fun e2 => ?_)).trans h4,h5⟩
   ·subst e2; exact yY e
   ·subst e2
    have := congrArg List.length e
    simp at this
  ·have := List.append_inj' e rfl
   obtain ⟨rfl,e2⟩ := this
   simp only [List.cons.injEq,and_true] at e2
   subst e2
   exact ⟨_,a1,by simp⟩
  ·obtain ⟨nd2,h4,h5⟩ := h.up q k' nd' h3
   by_cases e1 : q = p
   ·subst e1
    rw [hp] at h4; cases h4
    exact ⟨_,a1,by simp [h5]⟩
   ·by_cases e2 : q = p ++ [k]
    ·subst e2; rw [hk] at h4; cases h4
    ·exact ⟨nd2,(a3 q e1 e2).trans h4,h5⟩
 ·rcases hnd q nd' hq with ⟨rfl,rfl⟩ | ⟨rfl,rfl⟩ | ⟨h1,h2,h3⟩
  ·simp only [List.map_append,List.map_cons,List.map_nil]
   refine List.nodup_append.2 ⟨h.nodup _ nd hp,by simp,fun a ha b hb e => ?_⟩
   simp only [List.mem_singleton] at hb
   subst hb; subst e
   obtain ⟨x,hx,rfl⟩ := List.mem_map.1 ha
   obtain ⟨nd2,h4,_⟩ := h.kid _ nd hp x.1 x.2 hx
   rw [hk] at h4; cases h4
  ·simp
  ·exact h.nodup q nd' h3
 ·rcases hpl q nd' hq with ⟨h1,h2,_⟩ | ⟨n1,h1,h2,_⟩ <;> rcases hpl q' nd2 hq' with ⟨h3,h4,_⟩ | ⟨n2,h3,h4,_⟩
  ·rw [h1,h3]
  ·have := (blt _ _ h3).1; omega
  ·have := (blt _ _ h1).1; omega
  ·exact h.injb _ _ _ _ h1 h3 (by omega)
 ·rcases hpl q nd' hq with ⟨h1,_,h2⟩ | ⟨n1,h1,_,h2⟩ <;> rcases hpl q' nd2 hq' with ⟨h3,_,h4⟩ | ⟨n2,h3,_,h4⟩
  ·rw [h1,h3]
  ·have := (blt _ _ h3).2; omega
  ·have := (blt _ _ h1).2; omega
  ·exact h.injm _ _ _ _ h1 h3 (by omega)
 ·rcases hpl q nd' hq with ⟨h1,h2,_⟩ | ⟨n1,h1,h2,_⟩ <;> rcases hpl q' nd2 hq' with ⟨h3,_,h4⟩ | ⟨n2,h3,_,h4⟩
  ·omega
  ·have := (blt _ _ h3).2; omega
  ·have := (blt _ _ h1).1; omega
  ·exact h.sep _ _ _ _ h1 h3 (by omega)
 ·obtain ⟨q,nd',hq,he⟩ := hi
  rcases hpl q nd' hq with ⟨_,h2,h3⟩ | ⟨n1,h1,h2,h3⟩
  ·exact .inr (by omega)
  ·exact .inl ⟨q,n1,h1,by omega⟩
theorem step_ok {H : Heap} {N : Tri} {r n : Nat} (h : Lies H N r n) {p : Path} {nd : Nd} (hp : N p = some nd) (k : List UInt8) :
  ∃ N' H' nd',resW Γ 420 [.bx nd.b 0,.p (.str k)] H = some ([.bx nd'.b 0],H') ∧ Lies H' N' r n ∧ N' (p ++ [k]) = some nd' ∧ (∀ q,(∃ x,N' q = some x) ↔ (∃ x,N q = some x) ∨ q = p ++ [k]) ∧ (∀ q,aR N' q = aR N q) ∧ Chg N N' H H' := by
 have hb := h.box p nd hp
 have hm := h.map p nd hp
 have hf := h.find hp k
 cases hk : N (p ++ [k]) with
 | some nd' =>
  rw [hk] at hf
  exact ⟨N,H,nd',step_old H nd.b nd.m nd'.b _ k _ hb hm hf,h,hk,fun q => ⟨fun hq => .inl hq,fun hq => by rcases hq with hq | rfl; exact hq; exact ⟨_,hk⟩⟩,fun _ => rfl,.refl _ _⟩
 | none =>
  rw [hk] at hf
  obtain ⟨h1,h2⟩ := ti h hp hk
  refine ⟨_,_,⟨H.length + 1,H.length,false,[]⟩,step_new H nd.b nd.m _ k _ hb hm hf,h1,by simp [d8],fun q => ?_,fun q => ?_,h2⟩
  ·by_cases e1 : q = p
   ·subst e1; simp [d8,hp]
   ·by_cases e2 : q = p ++ [k]
    ·subst e2; simp [d8]
    ·simp [d8,e1,e2]
  ·by_cases e1 : q = p
   ·subst e1; simp [aR,d8,hp]
   ·by_cases e2 : q = p ++ [k]
    ·subst e2; simp [aR,d8,hk]
    ·simp [aR,d8,e1,e2]
end Ab
namespace Ab
abbrev Tok := Bool × List Bool
def inT (t : Tok) (c : UInt8) : Bool := t.2.getD c.toNat false
def M1 (t : Tok) (a : List UInt8) : Prop := if t.1 = true then True else ∃ c,a = [c] ∧ inT t c = true
def Mt : List Tok → List UInt8 → Prop
 | [],s => s = []
 | t :: ts,s => ∃ a b,s = a ++ b ∧ M1 t a ∧ Mt ts b
structure Greedy (T : List Tok) (S : List UInt8) (at_ st from_ i : Nat) : Prop where
 hi : i ≤ S.length
 ha : at_ ≤ T.length
 none : st = 0 → (Mt T S ↔ Mt (T.drop at_) (S.drop i))
 some : 0 < st → st ≤ at_ ∧ from_ ≤ i ∧ at_ - st = i - from_ ∧ (∀ t ∈ (T.take at_).drop st,t.1 = false) ∧ Mt ((T.take at_).drop st) ((S.take i).drop from_) ∧
  (Mt T S ↔ ∃ j,from_ ≤ j ∧ j ≤ S.length ∧ Mt (T.drop st) (S.drop j))
end Ab
namespace Ab
def fillN (acc : List Bool) (a : Nat) : Nat → List Bool
 | 0 => acc
 | k + 1 => (fillN acc a k).set (a + k) true
def none256 : List Bool := List.replicate 256 false
def inF : List UInt8 → UInt8 → Bool
 | [],_ => false
 | [a],x => a == x
 | [a,b],x => a == x || b == x
 | a :: b :: c :: r,x => if b = 45 then ((decide (a ≤ x) && decide (x ≤ c)) || inF r x) else (a == x || inF (b :: c :: r) x)
def ff (c : UInt8) : Bool := (decide (97 ≤ c) && decide (c ≤ 122)) || (decide (65 ≤ c) && decide (c ≤ 90)) || (decide (48 ≤ c) && decide (c ≤ 57)) || c == 95 || c == 45 || c == 58 || c == 35 || c == 37 || c == 64 || c == 61
end Ab
namespace Ab
open Go (IntKind BinOp UnOp)
def tokP (t : Tok) : PV := .ptr (gr (t.1 :: t.2))
theorem tok_any {b : Bool} {l : List Bool} : kp 1 false (gr (b :: l)) = some (.p (.bool b)) := rfl
theorem xy {H : Heap} {t : Tok} : eS H (.p (tokP t)) = some (.p (tokP t)) := rfl
theorem z7 {t : Tok} : (gr (t.1 :: t.2)).drop 1 = gr t.2 := rfl
theorem AO {t : Tok} : (gr (t.1 :: t.2)).drop 0 = gr (t.1 :: t.2) := rfl
attribute [go_sem] xy z7 AO tok_any
end Ab
