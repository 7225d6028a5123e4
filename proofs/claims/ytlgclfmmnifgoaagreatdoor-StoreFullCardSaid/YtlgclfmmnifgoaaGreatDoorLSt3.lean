import Derived.Test.YtlgclfmmnifgoaaGreatDoorAbDrawn
import Derived.RangeFuncNested
import Derived.RangeFuncLeaves
import Derived.Maps.Keyed
import Derived.Shelf.SlSortCmp.NoneTotal
import Derived.Test.YtlgclfmmnifgoaaGreatDoorAbRel
import Derived.Test.YtlgclfmmnifgoaaGreatDoorAbW2
namespace Ab
open Go (IntKind BinOp UnOp World Value Addr Obj undef maxLen Program TypeId Oper Op Operand Act Sem Next Result execOp Builtin Calls Ending Exit MapEntry DataW MemPlace Lit keyOf)
open Go.RowKit Go.Maps Go.Sort Go.Proofs
open Go (WideAt.sameKey_self)
structure HitT where
 s : List UInt8
 l : Bool
 deriving DecidableEq,Inhabited
def HitT.p (h : HitT) : List UInt8 × Bool := (h.s,h.l)
def encH (h : HitT) : Value := .agg #[.string ⟨h.s.toArray⟩,.bool h.l]
abbrev cellsH (h : HitT) : List Value := [.string ⟨h.s.toArray⟩,.bool h.l]
theorem encH_inj {a b : HitT} (h : encH a = encH b) : a = b := by
 obtain ⟨a1,a2⟩ := a; obtain ⟨b1,b2⟩ := b
 simp [encH] at h
 simp [h.1,h.2]
structure HitKey (P : Program) (k : TypeId) : Prop where
 keyed : Keyed P k
 inv : ∀ key kl,keyOf P k key = some kl → ∃ x,key = encH x
 reads : ∀ h : HitT,h.s.length ≤ maxLen → ∃ l,keyOf P k (encH h) = some l
structure CollH (P : Program) (k : TypeId) (D0 : DataW Unit) (left : Lit → Bool) (hs : List HitT) : Prop where
 nodup : hs.Nodup
 mem : ∀ x l,keyOf P k (encH x) = some l → (x ∈ hs ↔ has D0 l = true ∧ left l = false)
 reads : ∀ x ∈ hs,∃ l,keyOf P k (encH x) = some l
theorem CollH.start {P : Program} {k : TypeId} (D0 : DataW Unit) : CollH P k D0 (has D0) [] :=
 ⟨List.nodup_nil,fun x l _ => by cases has D0 l <;> simp,by simp⟩
theorem CollH.step {P : Program} {k : TypeId} {D0 : DataW Unit} {left : Lit → Bool} {hs : List HitT} (K : HitKey P k) (h : CollH P k D0 left hs) {x : HitT} {kl : Lit} {y : DataW Unit} (hk : keyOf P k (encH x) = some kl) (hlk : left kl = true) (hat : ∀ zd,D0.atKey kl zd = y) :
  CollH P k D0 (fun z => left z && !z.sameKey kl) (hs ++ [x]) := by
 have hhas : has D0 kl = true := has_true_of_atKey hat
 have hnew : x ∉ hs := fun hx => by have := ((h.mem x kl hk).1 hx).2; rw [hlk] at this; cases this
 refine ⟨List.nodup_append.2 ⟨h.nodup,by simp,fun a ha b hb => by simp at hb; subst hb; exact fun e => hnew (e ▸ ha)⟩,fun z l hz => ?_,fun z hz => ?_⟩
 ·by_cases e : z = x
  ·subst e
   rw [hk] at hz; cases hz
   simp [hhas,Go.WideAt.sameKey_self (K.keyed.key hk)]
  ·have hne : l.sameKey kl = false := by
    cases hs : l.sameKey kl
    ·rfl
    ·have := Go.WideAt.sameKey_eq hs
     subst this
     exact absurd (encH_inj (K.keyed.inj hz hk)) e
   simp [h.mem z l hz,e,hne]
 ·rcases List.mem_append.1 hz with hz | hz
  ·exact h.reads z hz
  ·simp at hz; subst hz; exact ⟨kl,hk⟩
def t8 (P : Program) (k : TypeId) (D0 : DataW Unit) (hs : List HitT) : Prop := hs.Nodup ∧ (∀ x l,keyOf P k (encH x) = some l → (x ∈ hs ↔ has D0 l = true)) ∧ ∀ x ∈ hs,∃ l,keyOf P k (encH x) = some l
theorem CollH.all {P : Program} {k : TypeId} {D0 : DataW Unit} {left : Lit → Bool} {hs : List HitT} (h : CollH P k D0 left hs) (hl : ∀ l,left l = false) : t8 P k D0 hs :=
 ⟨h.nodup,fun x l hx => by rw [h.mem x l hx,hl]; simp,h.reads⟩
theorem partsLess_iff : ∀ {a b : List (List UInt8)},aF a b = true ↔ a < b
 | _,[] => by simp [aF,List.not_lt_nil]
 | [],b :: y => by simp [aF,List.nil_lt_cons]
 | a :: x,b :: y => by
  rw [List.cons_lt_cons_iff,← partsLess_iff,← less_iff]
  simp [aF]
def xe : List (List UInt8) → List UInt8
 | [] => []
 | [p] => p
 | p :: q :: r => p ++ 46 :: xe (q :: r)
theorem uD (cur s : List UInt8) : ∃ p q,bW cur s = p :: q := by
 induction s generalizing cur with
 | nil => exact ⟨_,_,rfl⟩
 | cons c r ih =>
  unfold bW
  split
  ·exact ⟨_,_,rfl⟩
  ·exact ih _
theorem tT (cur s : List UInt8) : xe (bW cur s) = cur.reverse ++ s := by
 induction s generalizing cur with
 | nil => simp [bW,xe]
 | cons c r ih =>
  unfold bW
  split
  ·rename_i e
   obtain ⟨p,q,hpq⟩ := uD [] r
   have := ih []
   rw [hpq] at this
   rw [hpq]
   simp only [xe,this,e]
   simp
  ·rw [ih]; simp
abbrev cfT (a b : HitT) : Int := cmpH a.p b.p
def sortT (hs : List HitT) : List HitT := hs.mergeSort fun x y => !(ltOf cfT) y x
structure SortsH (P : Program) (fs c : Nat) : Prop where
 none : ∀ p cap fv w,Calls P fs #[.slice p 0 cap,fv] w fun e w' => e = .returned (.tuple #[]) ∧ w' = w
 some : ∀ (α : Type) [Inhabited α] (enc : α → List Value),(∀ x,(enc x).length = 2) → (∀ x,∀ v ∈ enc x,v.oneCell' = true) → ∀ (cf : α → α → Int),SWO (ltOf cf) → ∀ (blk cap : Nat) (d : Array α) (w : World),CmpLays P c #[] enc 2 cf blk 0 d.size w →
  HoldsK enc 2 w blk 0 d → blk < w.heap.size → d.size < 4611686018427387904 → (∀ x y,(ltOf cf) x y = false → (ltOf cf) y x = false → x = y) →
  Calls P fs #[.slice (Option.some ⟨blk,0,Option.none⟩) d.size cap,.func (.func c) #[] #[]] w fun e w' => e = .returned (.tuple #[]) ∧ ∃ n os,w' = sortWorldK enc 2 w blk 0 n (d.toList.mergeSort fun x y => !(ltOf cf) y x).toArray os
abbrev CmpsH (P : Program) (c : Nat) (hs : List HitT) (n : Nat) (w : World) : Prop := ∀ x ∈ hs,∀ y ∈ hs,∀ W,Below n w W → Calls P c #[encH x,encH y] W fun e w' => e = .returned (.int .i64 (cfT x y)) ∧ ∃ q os',w' = grow (W.drewN q) os'
structure HitsOk (P : Program) (f K c : Nat) (k : TypeId) : Prop where
 key : HitKey P k
 enters : Enters P f
 cmp : Enters P c
 some : ∀ (bm b nn : Nat) (D0 : DataW Unit) (w : World),bm < w.heap.size → w.cell? ⟨bm,0,Option.none⟩ = Option.some (.map (Option.some b)) → w.ownsMap P k anyR b nn D0 → Go.Maps.size D0 ≤ lim →
  (∀ hs,t8 P k D0 hs → CmpsH P c hs w.heap.size w) →
  Calls P f #[.func (.func K) #[] #[.pointer (Option.some ⟨bm,0,Option.none⟩)],.func (.func c) #[] #[]] w fun e w' => ∃ (v : Value) (hs : List HitT),e = .returned v ∧ t8 P k D0 hs ∧ w'.ownsRow w.heap.size k 2 v hs.length ((sortT hs).flatMap cellsH) ∧ (v = .slice Option.none 0 0 ↔ hs = []) ∧ Below w.heap.size w w'
section
variable {Γ : Ctx} {N : Names} {P : Program} {w : World} {S : Nat → Prop} {μ : Nat → Value} {H : Heap}
theorem GlRel.below {w w' : World} {S : Nat → Prop} (h : GlRel Γ N w S) (hS : ∀ g,S g → g < w.heap.size) (hb : Below w.heap.size w w') : GlRel Γ N w' S := by
 refine ⟨fun n cs hn => (h.rel n cs hn).keep (fun _ h => h) (fun g hg => hb.block g (hS g hg)),fun n cs hn => ?_,fun n hn => ?_⟩
 ·obtain ⟨us,e,fr,h1,h2⟩ := h.whole n cs hn
  exact ⟨us,e,fr,(hb.block _ (Array.getElem?_eq_some_iff.1 h1).1).trans h1,h2⟩
 ·obtain ⟨hs,m,hm⟩ := h.ints n hn
  exact ⟨hs,m,(cC (hb.block _ (hS _ hs))).trans hm⟩
end
end Ab
namespace Ab
open Go (IntKind BinOp UnOp)
def kT (l : List Path) : Prop := l.Pairwise (· < ·)
theorem qr (a : Path) : ¬ a < a := List.lt_irrefl a
theorem lt_snoc (q : Path) (k : List UInt8) (t : Path) : q < q ++ k :: t := by
 have := List.append_left_lt (l₁ := q) (List.nil_lt_cons k t)
 simpa using this
theorem AW (q : Path) {k k' : List UInt8} (h : k < k') (t t' : Path) : q ++ k :: t < q ++ k' :: t' := List.append_left_lt (List.cons_lt_cons_iff.2 (.inl h))
theorem pQ (l : List (List UInt8)) (hn : l.Nodup) : (dP l).Pairwise (· < ·) := by
 have h1 := fo l
 have h2 : (dP l).Nodup := (b9 l).nodup_iff.2 hn
 exact (h1.and h2).imp fun {a b} h => by
  rcases Classical.em (a < b) with h3 | h3
  ·exact h3
  ·exact absurd (List.le_antisymm h.1 h3) h.2
theorem gR {α β : Type} {R : β → β → Prop} {f : α → List β} : ∀ {l : List α},(∀ a ∈ l,(f a).Pairwise R) → l.Pairwise (fun a b => ∀ x ∈ f a,∀ y ∈ f b,R x y) → (l.flatMap f).Pairwise R
 | [],_,_ => by simp
 | a :: l,h1,h2 => by
  rw [List.flatMap_cons,List.pairwise_append]
  obtain ⟨h3,h4⟩ := List.pairwise_cons.1 h2
  refine ⟨h1 a (by simp),gR (fun b hb => h1 b (by simp [hb])) h4,fun x hx y hy => ?_⟩
  obtain ⟨b,hb,hyb⟩ := List.mem_flatMap.1 hy
  exact h3 b hb x hx y hyb
section
variable {H : Heap} {N : Tri} {r n : Nat} {wn : Nat → List UInt8 → Bool}
theorem wG (h : Lies H N r n) {q : Path} {nd : Nd} (hq : N q = some nd) (k : List UInt8) : k ∈ bJ nd ↔ ∃ x,N (q ++ [k]) = some x := by
 rw [bJ,(b9 _).mem_iff,List.mem_map]
 constructor
 ·rintro ⟨x,hx,rfl⟩
  obtain ⟨nd',h1,_⟩ := h.kid q nd hq x.1 x.2 hx
  exact ⟨nd',h1⟩
 ·rintro ⟨x,hx⟩
  obtain ⟨nd2,h1,h2⟩ := h.up q k x hx
  rw [hq] at h1; cases h1
  exact ⟨_,h2,rfl⟩
theorem pM (h : Lies H N r n) : ∀ (f : Nat) (q : Path),(∀ t x,N (q ++ t) = some x → t.length ≤ f) → ∀ p,p ∈ vis N wn f q ↔ ∃ k t,p = q ++ k :: t ∧ (∃ x,N p = some x) ∧ ∀ j,j < (k :: t).length → wn (q.length + j) ((k :: t).getD j []) = true := by
 intro f
 induction f with
 | zero =>
  intro q hd p
  simp only [vis,List.not_mem_nil,false_iff]
  rintro ⟨k,t,rfl,⟨x,hx⟩,_⟩
  have := hd _ x hx
  simp at this
 | succ f ih =>
  intro q hd p
  cases hq : N q with
  | none =>
   simp only [vis,hq,List.not_mem_nil,false_iff]
   rintro ⟨k,t,rfl,⟨x,hx⟩,_⟩
   obtain ⟨y,hy⟩ := h.pre _ _ x hx
   rw [hq] at hy; cases hy
  | some nd =>
   simp only [vis,hq,List.mem_flatMap]
   have hd' : ∀ k,∀ t x,N (q ++ [k] ++ t) = some x → t.length ≤ f := fun k t x hx => by
    have := hd (k :: t) x (by simpa using hx)
    simp only [List.length_cons] at this
    omega
   constructor
   ·rintro ⟨k,hk,hp⟩
    obtain ⟨y,hy⟩ := (wG h hq k).1 hk
    split at hp
    ·rename_i hw
     rcases List.mem_cons.1 hp with rfl | hp
     ·refine ⟨k,[],rfl,⟨y,hy⟩,fun j hj => ?_⟩
      have : j = 0 := by simp at hj; omega
      subst this
      exact hw
     ·obtain ⟨k2,t2,rfl,hx,hall⟩ := (ih (q ++ [k]) (hd' k) p).1 hp
      refine ⟨k,k2 :: t2,by simp,hx,fun j hj => ?_⟩
      cases j with
      | zero => exact hw
      | succ j =>
       have := hall j (by simp only [List.length_cons] at hj ⊢; omega)
       rw [List.length_append,List.length_cons,List.length_nil] at this
       have e : q.length + (j + 1) = q.length + (0 + 1) + j := by omega
       rw [e]
       exact this
    ·simp at hp
   ·rintro ⟨k,t,rfl,⟨x,hx⟩,hall⟩
    have hk : ∃ y,N (q ++ [k]) = some y := h.pre t (q ++ [k]) x (by simpa using hx)
    refine ⟨k,(wG h hq k).2 hk,?_⟩
    have hw := hall 0 (by simp)
    rw [Nat.add_zero,List.getD_cons_zero] at hw
    rw [if_pos hw]
    cases t with
    | nil => simp
    | cons k2 t2 =>
     refine List.mem_cons_of_mem _ ((ih (q ++ [k]) (hd' k) _).2 ⟨k2,t2,by simp,⟨x,hx⟩,fun j hj => ?_⟩)
     have := hall (j + 1) (by simp only [List.length_cons] at hj ⊢; omega)
     rw [List.length_append,List.length_cons,List.length_nil]
     have e : q.length + (j + 1) = q.length + (0 + 1) + j := by omega
     rw [e,List.getD_cons_succ] at this
     exact this
theorem oZ (h : Lies H N r n) : ∀ (f : Nat) (q : Path),(∀ t x,N (q ++ t) = some x → t.length ≤ f) → kT (vis N wn f q) := by
 intro f
 induction f with
 | zero => intro q _; exact .nil
 | succ f ih =>
  intro q hd
  unfold kT
  cases hq : N q with
  | none => simp [vis,hq]
  | some nd =>
   simp only [vis,hq]
   have hd' : ∀ k,∀ t x,N (q ++ [k] ++ t) = some x → t.length ≤ f := fun k t x hx => by
    have := hd (k :: t) x (by simpa using hx)
    simp only [List.length_cons] at this
    omega
   have hin : ∀ k,∀ p ∈ (if wn q.length k = true then (q ++ [k]) :: vis N wn f (q ++ [k]) else []),∃ t,p = q ++ k :: t := fun k p hp => by
    split at hp
    ·rcases List.mem_cons.1 hp with rfl | hp
     ·exact ⟨[],rfl⟩
     ·obtain ⟨k2,t2,rfl,_⟩ := (pM h f (q ++ [k]) (hd' k) p).1 hp
      exact ⟨k2 :: t2,by simp⟩
    ·simp at hp
   refine gR (fun k _ => ?_) ?_
   ·split
    ·refine List.pairwise_cons.2 ⟨fun p hp => ?_,ih _ (hd' k)⟩
     obtain ⟨k2,t2,rfl,_⟩ := (pM h f (q ++ [k]) (hd' k) p).1 hp
     exact lt_snoc _ _ _
    ·exact .nil
   ·refine (pQ _ (h.nodup q nd hq)).imp fun {k k'} hlt x hx y hy => ?_
    obtain ⟨t,rfl⟩ := hin k x hx
    obtain ⟨t',rfl⟩ := hin k' y hy
    exact AW q hlt t t'
theorem ip {l : List Path} (h : kT l) : l.Nodup := by
 unfold List.Nodup
 exact h.imp fun {a b} hab e => by subst e; exact qr _ hab
end
theorem na {N : Tri} : ∀ (l : List Path) (s : Path),l.foldl (mX N) s = s ++ (l.filter (aR N)).map (bD [46])
 | [],s => by simp
 | q :: l,s => by
  rw [List.foldl_cons,na l]
  unfold mX
  cases e : aR N q <;> simp [e]
theorem yn (N : Tri) : qa N = ((vis N (fun _ _ => true) 21 []).filter (aR N)).map (bD [46]) := by
 unfold qa
 rw [na,List.nil_append]
end Ab
namespace Ab
open Go (IntKind BinOp UnOp)
abbrev prt (s : List UInt8) : Path := splitB 46 s
theorem A1 (s : List UInt8) : ∀ cur,bW cur s = match prt s with | [] => [cur.reverse] | h :: t => (cur.reverse ++ h) :: t := by
 induction s with
 | nil => intro cur; simp [bW,prt,splitB]
 | cons c r ih =>
  intro cur
  simp only [bW,prt,splitB]
  by_cases hc : c = 46
  ·subst hc
   have e := ih []
   simp only [if_true,List.append_nil]
   rw [e]
   have := cU r
   cases h : splitB 46 r with
   | nil => exact absurd h this
   | cons a t => simp [prt,h]
  ·have e := ih (c :: cur)
   rw [if_neg hc,e]
   have hb : (c == 46) = false := by simpa using hc
   simp only [prt]
   cases h : splitB 46 r with
   | nil => exact absurd h (cU r)
   | cons a t => simp [hc]
theorem dot_eq (s : List UInt8) : bW [] s = prt s := by
 rw [A1]
 cases h : prt s with
 | nil => exact absurd h (cU s)
 | cons a t => simp
theorem vI : ∀ q : Path,xe q = bD [46] q
 | [] => rfl
 | [p] => rfl
 | p :: q :: r => by
  have ih := vI (q :: r)
  simp only [xe,bD,ih]
  simp
theorem i8 (s : List UInt8) : bD [46] (prt s) = s := by
 have := tT [] s
 rw [dot_eq,vI] at this
 simpa using this
theorem BH {a b : List UInt8} (h : prt a = prt b) : a = b := by
 rw [← i8 a,← i8 b,h]
structure Nms (L : Path) : Prop where
 sorted : L.Pairwise fun a b => prt a < prt b
 ok : ∀ s ∈ L,nameB s = true
 len : L.length ≤ 1000
structure TrieN (N : Tri) (H : Heap) (r : Nat) (L : Path) : Prop where
 lies : Lies H N r L.length
 pruned : Pruned N
 leaf : ∀ q,aR N q = true ↔ ∃ s ∈ L,prt s = q
theorem br {s : List UInt8} (h : nameB s = true) : 1 ≤ s.length ∧ s.length ≤ 200 ∧ (prt s).length ≤ 20 ∧ ∀ p ∈ prt s,p ≠ [] ∧ ∀ c ∈ p,ff c = true := by
 unfold nameB at h
 simp only [Bool.and_eq_true,decide_eq_true_eq,List.all_eq_true] at h
 exact ⟨h.1.1.1,h.1.1.2,h.1.2,fun p hp => partB_iff.1 (h.2 p hp)⟩
theorem TrieN.keep {N : Tri} {H H' : Heap} {r : Nat} {L : Path} (h : TrieN N H r L) (hk : ∀ i,Foot N i → H'[i]? = H[i]?) : TrieN N H' r L := ⟨h.lies.keep hk,h.pruned,h.leaf⟩
theorem TrieN.ext {N : Tri} {H H' : Heap} {r : Nat} {L : Path} (h : TrieN N H r L) (hx : Ext0 H H') : TrieN N H' r L := h.keep fun i hi => hx.2 i (h.lies.foot_lt hi)
theorem vo {α β : Type} {f : α → List β} {n : Nat} (hf : ∀ a,(f a).length = n) : ∀ l : List α,(l.flatMap f).length = l.length * n
 | [] => by simp
 | a :: l => by rw [List.flatMap_cons,List.length_append,hf,vo hf l,List.length_cons,Nat.succ_mul,Nat.add_comm]
section
variable {N : Tri} {H : Heap} {r : Nat} {L : Path}
theorem TrieN.under (h : TrieN N H r L) {q : Path} {nd : Nd} (hq : N q = some nd) (hne : q ≠ []) : ∃ u,∃ s ∈ L,prt s = q ++ u := by
 obtain ⟨u,hu⟩ := h.pruned q hne ⟨nd,hq⟩
 obtain ⟨s,h1,h2⟩ := (h.leaf _).1 hu
 exact ⟨u,s,h1,h2⟩
theorem rI {N : Tri} {q : Path} (h : aR N q = true) : ∃ nd,N q = some nd := by
 unfold aR at h
 split at h
 ·rename_i nd e; exact ⟨nd,e⟩
 ·cases h
theorem TrieN.has (h : TrieN N H r L) (q : Path) : (∃ x,N q = some x) ↔ q = [] ∨ ∃ u,∃ s ∈ L,prt s = q ++ u := by
 constructor
 ·rintro ⟨nd,hq⟩
  by_cases e : q = []
  ·exact .inl e
  ·exact .inr (h.under hq e)
 ·rintro (rfl | ⟨u,s,hs,e⟩)
  ·obtain ⟨nd,h1,_⟩ := h.lies.root
   exact ⟨nd,h1⟩
  ·obtain ⟨nd,h1⟩ := rI ((h.leaf _).2 ⟨s,hs,rfl⟩)
   rw [e] at h1
   exact h.lies.pre u q nd h1
theorem TrieN.tiny (h : TrieN N H r L) (hL : Nms L) : Tiny N where
 kids q nd hq := by
  have hin : ∀ k ∈ nd.kids.map (·.1),∃ u,∃ s ∈ L,prt s = q ++ k :: u := fun k hk => by
   obtain ⟨x,hx,rfl⟩ := List.mem_map.1 hk
   obtain ⟨nd',h1,_⟩ := h.lies.kid q nd hq x.1 x.2 hx
   obtain ⟨u,s,h2,h3⟩ := h.under h1 (by simp)
   exact ⟨u,s,h2,by rw [h3]; simp⟩
  constructor
  ·have h1 := List.Nodup.length_le_of_subset (h.lies.nodup q nd hq) (l₂ := L.map fun s => (prt s).getD q.length []) fun k hk => by
    obtain ⟨u,s,h2,h3⟩ := hin k hk
    exact List.mem_map.2 ⟨s,h2,by rw [h3]; simp⟩
   rw [List.length_map,List.length_map] at h1
   have := hL.len
   omega
  ·intro k hk
   obtain ⟨u,s,h2,h3⟩ := hin k.1 (List.mem_map.2 ⟨k,hk,rfl⟩)
   have h4 : k.1 ∈ splitB 46 s := by
    show k.1 ∈ prt s
    rw [h3]; simp
   have h5 := ci h4
   have h6 := (br (hL.ok s h2)).2.1
   omega
 deep q nd hq := by
  by_cases e : q = []
  ·subst e; exact ⟨by simp,by simp [bD]⟩
  ·obtain ⟨u,s,h2,h3⟩ := h.under hq e
   obtain ⟨_,f2,f3,_⟩ := br (hL.ok s h2)
   have h4 := yy [46] (prt s) q.length
   rw [i8,h3] at h4
   rw [h3,List.length_append] at f3
   have h5 : (q ++ u).take q.length = q := by simp
   rw [h5] at h4
   exact ⟨by omega,by omega⟩
theorem TrieN.vis_len (h : TrieN N H r L) (hL : Nms L) (wn : Nat → List UInt8 → Bool) : (vis N wn 21 []).length ≤ 100000 := by
 have ht := h.tiny hL
 have hd : ∀ t x,N ([] ++ t) = some x → t.length ≤ 21 := fun t x hx => by have := (ht.deep t x (by simpa using hx)).1; omega
 have hn := ip (oZ (wn := wn) h.lies 21 [] hd)
 have h1 := List.Nodup.length_le_of_subset hn (l₂ := L.flatMap fun s => (List.range 21).map fun i => (prt s).take i) fun p hp => by
  obtain ⟨k,t,rfl,⟨x,hx⟩,_⟩ := (pM h.lies 21 [] hd p).1 hp
  obtain ⟨u,s,h2,h3⟩ := h.under hx (by simp)
  have h4 := (ht.deep _ x hx).1
  refine List.mem_flatMap.2 ⟨s,h2,List.mem_map.2 ⟨([] ++ k :: t).length,List.mem_range.2 (by omega),?_⟩⟩
  rw [h3]; simp
 rw [vo (n := 21) (fun s => by simp)] at h1
 have := hL.len
 omega
end
end Ab
namespace Ab
open Go (IntKind BinOp UnOp)
def ltS (a b : List UInt8) : Prop := prt a < prt b
theorem BK {A B : List Path} (hA : kT A) (hB : kT B) (h : ∀ x,x ∈ A ↔ x ∈ B) : A = B :=
 List.Perm.eq_of_pairwise (le := (· < ·)) (fun a _b _ _ h1 h2 => absurd (List.lt_trans h1 h2) (List.lt_irrefl a)) hA hB ((List.perm_ext_iff_of_nodup (ip hA) (ip hB)).2 h)
section
variable {N : Tri} {H : Heap} {r : Nat} {L : Path}
theorem TrieN.names (h : TrieN N H r L) (hL : Nms L) : qa N = L := by
 have ht := h.tiny hL
 have hd : ∀ t x,N ([] ++ t) = some x → t.length ≤ 21 := fun t x hx => by have := (ht.deep t x (by simpa using hx)).1; omega
 rw [yn]
 have e : (vis N (fun _ _ => true) 21 []).filter (aR N) = L.map prt := by
  refine BK ((oZ h.lies 21 [] hd).filter _) (by unfold kT; rw [List.pairwise_map]; exact hL.sorted) fun p => ?_
  rw [List.mem_filter,h.leaf,List.mem_map,pM h.lies 21 [] hd]
  constructor
  ·rintro ⟨_,s,h1,h2⟩; exact ⟨s,h1,h2⟩
  ·rintro ⟨s,h1,rfl⟩
   obtain ⟨nd,h2⟩ := rI ((h.leaf _).2 ⟨s,h1,rfl⟩)
   refine ⟨?_,s,h1,rfl⟩
   cases hp : prt s with
   | nil => exact absurd hp (cU s)
   | cons k t => exact ⟨k,t,rfl,⟨nd,by rw [← hp]; exact h2⟩,fun _ _ => rfl⟩
 rw [e,List.map_map]
 have : (bD [46] ∘ prt) = id := by funext s; exact i8 s
 rw [this,List.map_id]
theorem op_names (h : TrieN N H r L) (hL : Nms L) : ∃ v H',resW Γ 397 [.bx r 0] H = some ([v],H') ∧ RowV H' v L ∧ Ext0 H H' := by
 have := yz h.lies (h.tiny hL) (by have := h.vis_len hL (fun _ _ => true); omega)
 rw [h.names hL] at this
 exact this
theorem vd (h : TrieN N H r L) (s : List UInt8) : aR N (prt s) = decide (s ∈ L) := by
 rw [Bool.eq_iff_iff,h.leaf,decide_eq_true_iff]
 constructor
 ·rintro ⟨t,ht,e⟩; rw [← BH e]; exact ht
 ·intro hs; exact ⟨s,hs,rfl⟩
theorem op_has (h : TrieN N H r L) (s : List UInt8) (hs : s.length ≤ 1000) : resW Γ 392 [.bx r 0,.p (.str s)] H = some ([.p (.bool (decide (s ∈ L)))],H) := by
 rw [← vd h]
 exact resW_has h.lies s hs
def insS (s : List UInt8) : Path → Path
 | [] => [s]
 | t :: l => if aF (prt t) (prt s) = true then t :: insS s l else s :: t :: l
theorem mem_insS {s x : List UInt8} : ∀ {L : Path},x ∈ insS s L ↔ x = s ∨ x ∈ L
 | [] => by simp [insS]
 | t :: l => by
  unfold insS
  split
  ·rw [List.mem_cons,mem_insS,List.mem_cons]
   constructor
   ·rintro (h | h | h) <;> simp [h]
   ·rintro (h | h | h) <;> simp [h]
  ·simp
theorem jY {s : List UInt8} : ∀ {L : Path},(insS s L).length = L.length + 1
 | [] => rfl
 | t :: l => by
  unfold insS
  split
  ·rw [List.length_cons,jY,List.length_cons]
  ·rfl
theorem oe {s : List UInt8} : ∀ {L : Path},s ∉ L → L.Pairwise ltS → (insS s L).Pairwise ltS
 | [],_,_ => by simp [insS]
 | t :: l,hs,h => by
  obtain ⟨h1,h2⟩ := List.pairwise_cons.1 h
  unfold insS
  split
  ·rename_i hlt
   refine List.pairwise_cons.2 ⟨fun x hx => ?_,oe (fun h => hs (List.mem_cons_of_mem _ h)) h2⟩
   rcases mem_insS.1 hx with rfl | hx
   ·exact partsLess_iff.1 hlt
   ·exact h1 x hx
  ·rename_i hlt
   have hst : ltS s t := by
    have h3 : ¬ prt t < prt s := fun h => hlt (partsLess_iff.2 h)
    rcases Classical.em (prt s < prt t) with h4 | h4
    ·exact h4
    ·have := BH (List.le_antisymm h3 h4)
     exact absurd (by rw [this]; simp) hs
   refine List.pairwise_cons.2 ⟨fun x hx => ?_,h⟩
   rcases List.mem_cons.1 hx with rfl | hx
   ·exact hst
   ·exact List.lt_trans hst (h1 x hx)
def addS (s : List UInt8) (L : Path) : Path := if s ∈ L then L else insS s L
theorem mem_addS {s x : List UInt8} {L : Path} : x ∈ addS s L ↔ x = s ∨ x ∈ L := by
 unfold addS
 split
 ·rename_i h
  constructor
  ·intro hx; exact .inr hx
  ·rintro (rfl | hx)
   ·exact h
   ·exact hx
 ·exact mem_insS
theorem uN {s : List UInt8} {L : Path} (hL : Nms L) (hs : nameB s = true) (hl : L.length < 1000) : Nms (addS s L) := by
 unfold addS
 split
 ·exact hL
 ·rename_i h
  refine ⟨oe h hL.sorted,fun x hx => ?_,by rw [jY]; omega⟩
  rcases mem_insS.1 hx with rfl | hx
  ·exact hs
  ·exact hL.ok x hx
theorem addS_len {s : List UInt8} {L : Path} : (addS s L).length = if s ∈ L then L.length else L.length + 1 := by
 unfold addS
 split
 ·rfl
 ·exact jY
theorem qV (h : TrieN N H r L) (hL : Nms L) (s : List UInt8) (hs : s.length ≤ 1000) (hn : nameB s = true) : ∃ N' H',resW Γ 401 [.bx r 0,.p (.str s)] H = some ([.p (.int .i64 0)],H') ∧ TrieN N' H' r (addS s L) ∧ Chg N N' H H' := by
 obtain ⟨N',H',h1,h2,h3,h4,h5⟩ := uz h.lies s hs hn (by have := hL.len; omega)
 refine ⟨N',H',h1,⟨?_,fun q hq hx => ?_,fun q => ?_⟩,h5⟩
 ·rw [vd h] at h2
  rw [addS_len]
  simpa using h2
 ·have mono : ∀ u,aR N u = true → aR N' u = true := fun u hu => by rw [h4]; split; rfl; exact hu
  rcases (h3 q).1 hx with hx | ⟨j,rfl⟩
  ·obtain ⟨u,hu⟩ := h.pruned q hq hx
   exact ⟨u,mono _ hu⟩
  ·refine ⟨(prt s).drop j,?_⟩
   rw [List.take_append_drop,h4,if_pos rfl]
 ·rw [h4]
  constructor
  ·intro hq
   split at hq
   ·rename_i e; exact ⟨s,mem_addS.2 (.inl rfl),e.symm⟩
   ·obtain ⟨t,h6,h7⟩ := (h.leaf q).1 hq
    exact ⟨t,mem_addS.2 (.inr h6),h7⟩
  ·rintro ⟨t,ht,rfl⟩
   rcases mem_addS.1 ht with rfl | ht
   ·rw [if_pos rfl]
   ·split
    ·rfl
    ·exact (h.leaf _).2 ⟨t,ht,rfl⟩
end
end Ab
namespace Ab
open Go (IntKind BinOp UnOp)
theorem still401 : an Γ 401 = true := rfl
theorem still395 : an Γ 395 = true := rfl
def tri0 (k : Nat) : Tri := fun q => if q = [] then some ⟨k + 1,k,false,[]⟩ else none
theorem cq {k : Nat} {q : Path} {nd : Nd} (h : tri0 k q = some nd) : q = [] ∧ nd = ⟨k + 1,k,false,[]⟩ := by
 unfold tri0 at h
 split at h
 ·rename_i e; cases h; exact ⟨e,rfl⟩
 ·cases h
theorem trie0 (H : Heap) : TrieN (tri0 H.length) (H ++ [Blk.box (ah [])] ++ [Blk.box [.mp H.length,.p (.int .i64 0)]]) (H.length + 1) [] where
 lies := {
  root := ⟨_,rfl,rfl⟩
  box := fun q nd hq => by
   obtain ⟨rfl,rfl⟩ := cq hq
   rw [List.append_assoc,List.getElem?_append_right (by simp)]
   simp [mark]
  map := fun q nd hq => by
   obtain ⟨rfl,rfl⟩ := cq hq
   rw [List.append_assoc,List.getElem?_append_right (by simp)]
   simp [gS]
  kid := fun q nd hq k b hk => by
   obtain ⟨rfl,rfl⟩ := cq hq
   simp at hk
  up := fun q k nd hq => by
   obtain ⟨e,_⟩ := cq hq
   simp at e
  nodup := fun q nd hq => by
   obtain ⟨rfl,rfl⟩ := cq hq
   simp
  injb := fun p q nd nd' hp hq _ => by
   obtain ⟨rfl,_⟩ := cq hp
   obtain ⟨rfl,_⟩ := cq hq
   rfl
  injm := fun p q nd nd' hp hq _ => by
   obtain ⟨rfl,_⟩ := cq hp
   obtain ⟨rfl,_⟩ := cq hq
   rfl
  sep := fun p q nd nd' hp hq => by
   obtain ⟨rfl,rfl⟩ := cq hp
   obtain ⟨rfl,rfl⟩ := cq hq
   simp }
 pruned q hq := by
  rintro ⟨x,hx⟩
  exact absurd (cq hx).1 hq
 leaf q := by
  simp only [List.not_mem_nil,false_and,exists_false,iff_false,aR]
  split
  ·rename_i nd e
   obtain ⟨_,rfl⟩ := cq e
   simp
  ·simp
theorem zQ {k i : Nat} (h : Foot (tri0 k) i) : k ≤ i := by
 obtain ⟨q,nd,hq,he⟩ := h
 obtain ⟨_,rfl⟩ := cq hq
 rcases he with rfl | rfl
 ·exact Nat.le_succ _
 ·exact Nat.le_refl _
def addN (L : Path) (s : List UInt8) : Path := if nameB s = true then addS s L else L
theorem xS {N : Tri} {H : Heap} {r : Nat} {L : Path} (h : TrieN N H r L) (hL : Nms L) (s : List UInt8) (hs : s.length ≤ 1000) :
  ∃ N' H' e,resW Γ 401 [.bx r 0,.p (.str s)] H = some ([.p (.int .i64 e)],H') ∧ e = (if nameB s = true then 0 else 14) ∧ TrieN N' H' r (addN L s) ∧ Chg N N' H H' := by
 cases hn : nameB s with
 | true =>
  obtain ⟨N',H',h1,h2,h3⟩ := qV h hL s hs hn
  exact ⟨N',H',0,h1,rfl,by simpa [addN,hn] using h2,h3⟩
 | false => exact ⟨N,H,14,pZ s hs ⟨r,rfl⟩ hn,rfl,by simpa [addN,hn] using h,.refl _ _⟩
theorem addN_nms {s : List UInt8} {L : Path} (hL : Nms L) (hl : L.length < 1000) : Nms (addN L s) := by
 unfold addN
 split
 ·exact uN hL ‹_› hl
 ·exact hL
structure Made (H0 : Heap) (r : Nat) (L : Path) (H : Heap) : Prop where
 at_ : ∃ N,TrieN N H r L ∧ ∀ i,Foot N i → H0.length ≤ i
 old : ∀ i,i < H0.length → H[i]? = H0[i]?
 len : H0.length ≤ H.length
 nms : Nms L
theorem Made.add {H0 H : Heap} {r : Nat} {L : Path} (h : Made H0 r L H) (s : List UInt8) (hs : s.length ≤ 1000) (hl : L.length < 1000) :
  ∃ H' e,resW Γ 401 [.bx r 0,.p (.str s)] H = some ([.p (.int .i64 e)],H') ∧ Made H0 r (addN L s) H' := by
 obtain ⟨N,h1,h2⟩ := h.at_
 obtain ⟨N',H',e,h3,_,h4,h5⟩ := xS h1 h.nms s hs
 have h6 := h.len
 exact ⟨H',e,h3,⟨⟨N',h4,fun i hi => by rcases h5.2.2 i hi with h | h; exact h2 i h; omega⟩,fun i hi => (h5.2.1 i (by omega) (fun hf => by have := h2 i hf; omega)).trans (h.old i hi),Nat.le_trans h6 h5.1,addN_nms h.nms hl⟩⟩
end Ab
namespace Ab
open Go (IntKind BinOp UnOp)
theorem ar {l : List UInt8} : (ae l).length = l.length := by simp [ae]
theorem xz {l : List UInt8} {n : Nat} : (ae l).take n = ae (l.take n) := by simp [ae,List.map_take]
theorem xw {l : List UInt8} {n : Nat} : (ae l).drop n = ae (l.drop n) := by simp [ae,List.map_drop]
theorem sH {l m : List UInt8} : ae l ++ ae m = ae (l ++ m) := by simp [ae]
theorem gA : ∀ l : List UInt8,bytesIn (ae l) = some l
 | [] => rfl
 | b :: l => by
  have := gA l
  simp only [ae,List.map_cons,bytesIn] at this ⊢
  rw [this]
  simp
theorem il : ∀ l : List UInt8,nB (ae l) = some l
 | [] => rfl
 | b :: l => by
  have := il l
  have h := b.toNat_lt
  simp only [ae,List.map_cons,nB] at this ⊢
  rw [this,if_pos ⟨by omega,by omega⟩]
  simp
structure Since (K : Nat → Prop) (H0 H : Heap) : Prop where
 len : H0.length ≤ H.length
 box : ∀ (i : Nat) cs,H0[i]? = some (.box cs) → ¬ K i → H[i]? = some (.box cs)
 row : ∀ (i : Nat) f sz xs,H0[i]? = some (.row f sz xs) → ∃ f',H[i]? = some (.row f' sz xs) ∧ (sz ≠ 1 → f' = f)
theorem Since.refl {K : Nat → Prop} (H : Heap) : Since K H H := ⟨Nat.le_refl _,fun _ _ h _ => h,fun _ f _ _ h => ⟨f,h,fun _ => rfl⟩⟩
theorem Since.trans {K : Nat → Prop} {A B C : Heap} (h : Since K A B) (k : Since K B C) : Since K A C where
 len := Nat.le_trans h.len k.len
 box i cs hi hk := k.box i cs (h.box i cs hi hk) hk
 row i f sz xs hi := by
  obtain ⟨f1,h1,e1⟩ := h.row i f sz xs hi
  obtain ⟨f2,h2,e2⟩ := k.row i f1 sz xs h1
  exact ⟨f2,h2,fun hs => (e2 hs).trans (e1 hs)⟩
theorem Since.mono {K L : Nat → Prop} {A B : Heap} (h : Since K A B) (hk : ∀ i,K i → L i) : Since L A B := ⟨h.len,fun i cs hi hn => h.box i cs hi fun e => hn (hk i e),h.row⟩
theorem Since.ext {K : Nat → Prop} {A B : Heap} (h : Ext0 A B) : Since K A B :=
 ⟨h.1,fun i _cs hi _ => (h.2 i (List.getElem?_eq_some_iff.1 hi).1).trans hi,fun i f _sz _xs hi => ⟨f,(h.2 i (List.getElem?_eq_some_iff.1 hi).1).trans hi,fun _ => rfl⟩⟩
theorem Since.app {K : Nat → Prop} (H G : Heap) : Since K H (H ++ G) := .ext (Ext0.app H G)
theorem Since.set {K : Nat → Prop} {H0 H : Heap} (h : Since K H0 H) {i : Nat} {b : Blk} (hb : K i ∧ (∃ cs,H[i]? = some (.box cs)) ∨ H0.length ≤ i) : Since K H0 (H.set i b) where
 len := by rw [List.length_set]; exact h.len
 box j cs hj hk := by
  rw [List.getElem?_set_ne (fun e => ?_)]
  ·exact h.box j cs hj hk
  ·subst e
   rcases hb with hb | hb
   ·exact hk hb.1
   ·have := (List.getElem?_eq_some_iff.1 hj).1; omega
 row j f sz xs hj := by
  obtain ⟨f1,h1,e1⟩ := h.row j f sz xs hj
  refine ⟨f1,?_,e1⟩
  rw [List.getElem?_set_ne (fun e => ?_)]
  ·exact h1
  ·subst e
   rcases hb with ⟨_,cs,hb⟩ | hb
   ·rw [hb] at h1; cases h1
   ·have := (List.getElem?_eq_some_iff.1 hj).1; omega
theorem Since.frz {K : Nat → Prop} {H0 H : Heap} (h : Since K H0 H) {i : Nat} {f g : Bool} {xs : List PV} (hi : H[i]? = some (.row f 1 xs)) : Since K H0 (H.set i (.row g 1 xs)) where
 len := by rw [List.length_set]; exact h.len
 box j cs hj hk := by
  have hb := h.box j cs hj hk
  rw [List.getElem?_set_ne (fun e => by subst e; rw [hi] at hb; cases hb)]
  exact hb
 row j f sz ys hj := by
  obtain ⟨f1,h1,e1⟩ := h.row j f sz ys hj
  by_cases e : i = j
  ·subst e
   rw [hi] at h1
   cases h1
   exact ⟨g,by rw [List.getElem?_set_self (List.getElem?_eq_some_iff.1 hi).1],fun hs => absurd rfl hs⟩
  ·exact ⟨f1,by rw [List.getElem?_set_ne e]; exact h1,e1⟩
structure SinceB (K : Nat → Prop) (H0 H : Heap) : Prop where
 len : H0.length ≤ H.length
 box : ∀ (i : Nat) cs,H0[i]? = some (.box cs) → ¬ K i → H[i]? = some (.box cs)
 row : ∀ (i : Nat) f xs,H0[i]? = some (.row f 1 xs) → H[i]? = some (.row f 1 xs)
theorem SinceB.refl {K : Nat → Prop} (H : Heap) : SinceB K H H := ⟨Nat.le_refl _,fun _ _ h _ => h,fun _ _ _ h => h⟩
theorem SinceB.app {K : Nat → Prop} (H G : Heap) : SinceB K H (H ++ G) :=
 ⟨by simp,fun i cs hi _ => (List.getElem?_append_left (List.getElem?_eq_some_iff.1 hi).1).trans hi,fun i f xs hi => (List.getElem?_append_left (List.getElem?_eq_some_iff.1 hi).1).trans hi⟩
theorem SinceB.trans {K : Nat → Prop} {A B C : Heap} (h : SinceB K A B) (k : SinceB K B C) : SinceB K A C where
 len := Nat.le_trans h.len k.len
 box i cs hi hk := k.box i cs (h.box i cs hi hk) hk
 row i f xs hi := k.row i f xs (h.row i f xs hi)
theorem SinceB.set {K : Nat → Prop} {H0 H : Heap} (h : SinceB K H0 H) {i : Nat} {b : Blk} (hb : K i ∧ (∃ cs,H[i]? = some (.box cs)) ∨ ∃ f xs,H[i]? = some (.row f 4 xs)) : SinceB K H0 (H.set i b) where
 len := by rw [List.length_set]; exact h.len
 box j cs hj hk := by
  have hj2 := h.box j cs hj hk
  rw [List.getElem?_set_ne (fun e => ?_)]
  ·exact hj2
  ·subst e
   rcases hb with hb | ⟨f,xs,hb⟩
   ·exact hk hb.1
   ·rw [hb] at hj2; cases hj2
 row j f xs hj := by
  have h1 := h.row j f xs hj
  rw [List.getElem?_set_ne (fun e => ?_)]
  ·exact h1
  ·subst e
   rcases hb with ⟨_,cs,hb⟩ | ⟨f,xs,hb⟩
   ·rw [hb] at h1; cases h1
   ·rw [hb] at h1; cases h1
theorem SinceB.mono {K L : Nat → Prop} {A B : Heap} (h : SinceB K A B) (hk : ∀ i,K i → L i) : SinceB L A B := ⟨h.len,fun i cs hi hn => h.box i cs hi fun e => hn (hk i e),h.row⟩
abbrev Fl := List (List UInt8 × List UInt8)
def FilesR (H : Heap) : List (PV × AV) → Fl → Prop
 | [],[] => True
 | (k,v) :: es,(s,b) :: l => k = .str s ∧ (∃ id f,v = .own id b.length ∧ H[id]? = some (.row f 1 (ae b))) ∧ FilesR H es l
 | _,_ => False
def fget (s : List UInt8) : Fl → Option (List UInt8)
 | [] => none
 | (t,b) :: l => if s = t then some b else fget s l
def fput (s b : List UInt8) : Fl → Fl
 | [] => [(s,b)]
 | (t,c) :: l => if s = t then (s,b) :: l else (t,c) :: fput s b l
theorem mP {s b : List UInt8} : ∀ {l : Fl},fget s l = none → fput s b l = l ++ [(s,b)]
 | [],_ => rfl
 | (t,c) :: l,h => by
  unfold fget at h
  split at h
  ·cases h
  ·rename_i hne
   unfold fput
   rw [if_neg hne,mP h]; rfl
theorem fj {s b : List UInt8} : ∀ {l : Fl},fget s (fput s b l) = some b
 | [] => by simp [fput,fget]
 | (t,c) :: l => by
  unfold fput
  split
  ·simp [fget]
  ·rename_i h; simp [fget,h,fj]
theorem fg {s b c : List UInt8} : ∀ {l : Fl},fput s b (fput s c l) = fput s b l
 | [] => by simp [fput]
 | (t,d) :: l => by
  by_cases h : s = t
  ·simp [fput,h]
  ·simp [fput,h,fg]
theorem FilesR.find {H : Heap} {s : List UInt8} : ∀ {es : List (PV × AV)} {l : Fl},FilesR H es l →
  (fget s l = none ∧ jc (.str s) es = some none) ∨ ∃ b id f,fget s l = some b ∧ jc (.str s) es = some (some (.own id b.length)) ∧ H[id]? = some (.row f 1 (ae b))
 | [],[],_ => .inl ⟨rfl,rfl⟩
 | (k,v) :: es,(t,b) :: l,⟨h1,⟨id,f,h2,h3⟩,h4⟩ => by
  subst h1; subst h2
  have ih := FilesR.find (s := s) h4
  simp only [fget,jc,lm]
  by_cases e : s = t
  ·subst e
   right
   exact ⟨b,id,f,by simp,by simp,h3⟩
  ·have e2 : (s == t) = false := by simpa using e
   rw [e2,if_neg e]
   exact ih
 | [],_ :: _,h => h.elim
 | (_,_) :: _,[],h => h.elim
theorem FilesR.put {H : Heap} {s b : List UInt8} {id : Nat} {f : Bool} (hb : H[id]? = some (.row f 1 (ae b))) : ∀ {es : List (PV × AV)} {l : Fl},FilesR H es l → ∃ es',mput (.str s) (.own id b.length) es = some es' ∧ FilesR H es' (fput s b l)
 | [],[],_ => ⟨_,rfl,rfl,⟨id,f,rfl,hb⟩,trivial⟩
 | (k,v) :: es,(t,c) :: l,⟨h1,h2,h4⟩ => by
  subst h1
  obtain ⟨es',h5,h6⟩ := FilesR.put (s := s) hb h4
  simp only [fput,mput,lm]
  by_cases e : s = t
  ·subst e
   refine ⟨(.str s,.own id b.length) :: es,by simp,?_⟩
   rw [if_pos rfl]
   exact ⟨rfl,⟨id,f,rfl,hb⟩,h4⟩
  ·have e2 : (s == t) = false := by simpa using e
   rw [if_neg e]
   refine ⟨(.str t,v) :: es',?_,rfl,h2,h6⟩
   rw [e2,h5]; rfl
 | [],_ :: _,h => h.elim
 | (_,_) :: _,[],h => h.elim
theorem FilesR.since {K : Nat → Prop} {H H' : Heap} (hS : Since K H H') : ∀ {es : List (PV × AV)} {l : Fl},FilesR H es l → FilesR H' es l
 | [],[],_ => trivial
 | (k,v) :: es,(t,c) :: l,⟨h1,⟨id,f,h2,h3⟩,h4⟩ => by
  obtain ⟨f',h5,_⟩ := hS.row id f 1 _ h3
  exact ⟨h1,⟨id,f',h2,h5⟩,FilesR.since hS h4⟩
 | [],_ :: _,h => h.elim
 | (_,_) :: _,[],h => h.elim
theorem FilesR.sinceB {K : Nat → Prop} {H H' : Heap} (hS : SinceB K H H') : ∀ {es : List (PV × AV)} {l : Fl},FilesR H es l → FilesR H' es l
 | [],[],_ => trivial
 | (k,v) :: es,(t,c) :: l,⟨h1,⟨id,f,h2,h3⟩,h4⟩ => by
  exact ⟨h1,⟨id,f,h2,hS.row id f _ h3⟩,FilesR.sinceB hS h4⟩
 | [],_ :: _,h => h.elim
 | (_,_) :: _,[],h => h.elim
def used (l : Fl) : Nat := (l.map fun x => x.2.length).sum
theorem FilesR.lens {H : Heap} : ∀ {es : List (PV × AV)} {l : Fl},FilesR H es l → lM H es = some (used l)
 | [],[],_ => rfl
 | (k,v) :: es,(t,c) :: l,⟨h1,⟨id,f,h2,h3⟩,h4⟩ => by
  have ih := FilesR.lens h4
  subst h2
  simp only [lM,asLen,rowOf,h3,ih,used,List.map_cons,List.sum_cons]
  rw [if_pos ar]
  rfl
 | [],_ :: _,h => h.elim
 | (_,_) :: _,[],h => h.elim
theorem FilesR.keys {H : Heap} : ∀ {es : List (PV × AV)} {l : Fl},FilesR H es l → (∀ x ∈ l,x.1.length ≤ 1000) → bB es = some (l.map (·.1))
 | [],[],_,_ => rfl
 | (k,v) :: es,(t,c) :: l,⟨h1,_,h4⟩,hl => by
  have ih := FilesR.keys h4 fun x hx => hl x (by simp [hx])
  have := hl (t,c) (by simp)
  subst h1
  simp only [bB]
  rw [if_pos (by unfold lim; simp only at this; omega),ih]
  rfl
 | [],_ :: _,h,_ => h.elim
 | (_,_) :: _,[],h,_ => h.elim
theorem FilesR.len {H : Heap} : ∀ {es : List (PV × AV)} {l : Fl},FilesR H es l → es.length = l.length
 | [],[],_ => rfl
 | (k,v) :: es,(t,c) :: l,⟨_,_,h4⟩ => by simp [FilesR.len h4]
 | [],_ :: _,h => h.elim
 | (_,_) :: _,[],h => h.elim
def ChR (B : Nat) (H : Heap) (ch : AV) (c : Nat) : Prop := (c = 0 ∧ ch = .p (.sl .nil 4 [])) ∨ ∃ id xs,ch = .own id xs.length ∧ B ≤ id ∧ H[id]? = some (.row false 4 xs) ∧ 0 < xs.length ∧ xs.length ≤ c
def NoZ (Z : Nat → Prop) (es : List (PV × AV)) : Prop := ∀ x ∈ es,∀ i n,x.2 = .own i n → ¬ Z i
theorem NoZ.put {Z : Nat → Prop} {k : PV} {id m : Nat} (hz : ¬ Z id) : ∀ {es es' : List (PV × AV)},NoZ Z es → mput k (.own id m) es = some es' → NoZ Z es'
 | [],es',_,h => by
  simp only [mput,Option.some.injEq] at h
  subst h
  intro x hx i n e
  simp only [List.mem_singleton] at hx
  subst hx
  cases e
  exact hz
 | (k',v') :: r,es',hn,h => by
  have h1 : ∀ i n,v' = .own i n → ¬ Z i := fun i n e => hn (k',v') (by simp) i n e
  have h2 : NoZ Z r := fun x hx => hn x (by simp [hx])
  simp only [mput] at h
  split at h
  ·cases h
   intro x hx i n e
   rcases List.mem_cons.1 hx with rfl | hx
   ·cases e; exact hz
   ·exact h2 x hx i n e
  ·obtain ⟨r',h3,rfl⟩ := Option.map_eq_some_iff.1 h
   intro x hx i n e
   rcases List.mem_cons.1 hx with rfl | hx
   ·exact h1 i n e
   ·exact NoZ.put hz h2 h3 x hx i n e
  ·cases h
structure FsS (F Pd M : Nat) (room : Nat) (Z : Nat → Prop) (H0 : Heap) (l : Fl) (c : Nat) (H : Heap) : Prop where
 f : H[F]? = some (.box [.bx Pd 0,.p (.int .i64 (room : Int)),.mp M])
 m : ∃ es,H[M]? = some (.box (ah es)) ∧ FilesR H es l ∧ NoZ Z es
 zlt : ∀ i,Z i → i < H.length
 p : ∃ ch m2,H[Pd]? = some (.box [ch,.mp m2]) ∧ ChR H0.length H ch c
 since : Since (fun i => i = Pd ∨ i = M) H0 H
theorem ChR.keep {B : Nat} {H H' : Heap} {ch : AV} {c : Nat} {K : Nat → Prop} (h : ChR B H ch c) (hS : Since K H H') : ChR B H' ch c := by
 rcases h with h | ⟨id,xs,h1,h2,h3,h4,h5⟩
 ·exact .inl h
 ·obtain ⟨f',h6,h7⟩ := hS.row id false 4 xs h3
  rw [h7 (by decide)] at h6
  exact .inr ⟨id,xs,h1,h2,h6,h4,h5⟩
theorem FsS.keep {F Pd M room : Nat} {Z : Nat → Prop} {H0 H H' : Heap} {l : Fl} {c : Nat} (h : FsS F Pd M room Z H0 l c H) (hS : Since (fun _ => False) H H') : FsS F Pd M room Z H0 l c H' where
 f := hS.box F _ h.f (fun e => e)
 m := by
  obtain ⟨es,h1,h2,h3⟩ := h.m
  exact ⟨es,hS.box M _ h1 (fun e => e),h2.since hS,h3⟩
 zlt i hi := Nat.lt_of_lt_of_le (h.zlt i hi) hS.len
 p := by
  obtain ⟨ch,m2,h1,h2⟩ := h.p
  exact ⟨ch,m2,hS.box Pd _ h1 (fun e => e),h2.keep hS⟩
 since := h.since.trans (hS.mono fun _ e => e.elim)
theorem FsS.ne {F Pd M room : Nat} {Z : Nat → Prop} {H0 H : Heap} {l : Fl} {c : Nat} (h : FsS F Pd M room Z H0 l c H) : F ≠ Pd ∧ F ≠ M ∧ Pd ≠ M := by
 obtain ⟨es,h1,_⟩ := h.m
 obtain ⟨ch,m2,h2,_,h3⟩ := h.p
 ·subst h3
  refine ⟨fun e => ?_,fun e => ?_,fun e => ?_⟩
  ·have := h.f; rw [e,h2] at this; simp at this
  ·have := h.f; rw [e,h1] at this; simp [ah] at this
  ·rw [e,h1] at h2; simp [ah] at h2
 ·rename_i h3
  obtain ⟨id,xs,h3,_⟩ := h3
  subst h3
  refine ⟨fun e => ?_,fun e => ?_,fun e => ?_⟩
  ·have := h.f; rw [e,h2] at this; simp at this
  ·have := h.f; rw [e,h1] at this; simp [ah] at this
  ·rw [e,h1] at h2; simp [ah] at h2
theorem FilesR.lt {H : Heap} : ∀ {es : List (PV × AV)} {l : Fl},FilesR H es l → ∀ x ∈ es,∀ i n,x.2 = .own i n → i < H.length
 | [],[],_,x,hx,_,_,_ => by simp at hx
 | (k,v) :: es,(t,c) :: l,⟨h1,⟨id,f,h2,h3⟩,h4⟩,x,hx,i,n,e => by
  rcases List.mem_cons.1 hx with rfl | hx
  ·simp only [h2,AV.own.injEq] at e
   rw [← e.1]
   exact (List.getElem?_eq_some_iff.1 h3).1
  ·exact FilesR.lt h4 x hx i n e
 | [],_ :: _,h,_,_,_,_,_ => h.elim
 | (_,_) :: _,[],h,_,_,_,_,_ => h.elim
theorem FsS.addZ {F Pd M room : Nat} {H0 H H' : Heap} {l : Fl} {c : Nat} (h : FsS F Pd M room (fun _ => False) H0 l c H) (hS : Since (fun _ => False) H H') {rb : Nat} (h1 : H.length ≤ rb) (h2 : rb < H'.length) : FsS F Pd M room (fun i => i = rb) H0 l c H' := by
 have hk := h.keep hS
 refine ⟨hk.f,?_,fun i hi => by rw [hi]; exact h2,hk.p,hk.since⟩
 obtain ⟨es,a1,a2,a3⟩ := h.m
 exact ⟨es,hS.box M _ a1 (fun e => e),a2.since hS,fun x hx i n e hi => by have := a2.lt x hx i n e; omega⟩
theorem FsS.noZ {F Pd M room : Nat} {Z : Nat → Prop} {H0 H : Heap} {l : Fl} {c : Nat} (h : FsS F Pd M room Z H0 l c H) : FsS F Pd M room (fun _ => False) H0 l c H := by
 refine ⟨h.f,?_,fun i hi => hi.elim,h.p,h.since⟩
 obtain ⟨es,a1,a2,a3⟩ := h.m
 exact ⟨es,a1,a2,fun _ _ _ _ _ e => e⟩
end Ab
namespace Ab
open Go (IntKind BinOp UnOp)
theorem yl {b : List UInt8} (h : b ≠ []) : ∃ x xs,ae b = x :: xs := by
 cases b with
 | nil => exact absurd rfl h
 | cons a r => exact ⟨_,_,rfl⟩
theorem jR (s : List UInt8) (h1 : 1 ≤ s.length) (h2 : s.length ≤ 255) : res Γ 534 [.str s] = some [.bool true] := by
 have h3 : decide ((s.length : Int) ≤ 255) = true := decide_eq_true (by omega)
 refine aw (fn := iG) rfl rfl ?_
 simp(disch:=first|assumption|omega|decide|(simp only[lens]<;>omega)|fail)only[go_sem,iG,h3]
theorem w7 {k k1 : SK} (b : List UInt8) (hb : b.length ≤ 1000000) : res Γ 532 [.int .i64 1073741824,.sl k 1 [.sl k1 1 (ae b)]] = some [.int .i64 (b.length : Int)] := by
 refine aw (fn := fC) rfl rfl ?_
 simp(disch:=first|assumption|omega|decide|(simp only[lens]<;>omega)|fail)only[go_sem,fC]
 rw [af (L := aG) rfl]
 simp(disch:=first|assumption|omega|decide|(simp only[lens]<;>omega)|fail)only[go_sem,aG,ar]
 change Wp Γ aG _ _ _
 rw [af (L := aG) rfl]
 simp(disch:=first|assumption|omega|decide|(simp only[lens]<;>omega)|fail)only[go_sem,aG]
theorem pC {k k1 k2 : SK} (b d : List UInt8) (hb : b.length ≤ 1000000) (hd : d.length ≤ 1000000) : res Γ 532 [.int .i64 1073741824,.sl k 1 [.sl k1 1 (ae b),.sl k2 1 (ae d)]] = some [.int .i64 ((b.length + d.length : Nat) : Int)] := by
 refine aw (fn := fC) rfl rfl ?_
 simp(disch:=first|assumption|omega|decide|(simp only[lens]<;>omega)|fail)only[go_sem,fC]
 rw [af (L := aG) rfl]
 simp(disch:=first|assumption|omega|decide|(simp only[lens]<;>omega)|fail)only[go_sem,aG,ar]
 change Wp Γ aG _ _ _
 rw [af (L := aG) rfl]
 simp(disch:=first|assumption|omega|decide|(simp only[lens]<;>omega)|fail)only[go_sem,aG,ar]
 change Wp Γ aG _ _ _
 rw [af (L := aG) rfl]
 simp(disch:=first|assumption|omega|decide|(simp only[lens]<;>omega)|fail)only[go_sem,aG]
 simp
theorem wZ {k k1 : SK} (b : List UInt8) (hb : b.length ≤ 1000000) : res Γ 530 [.sl k 1 [.sl k1 1 (ae b)],.sl .nil 1 []] = some [.sl .any 1 (ae b)] :=
 jl (fJ (g := oi) rfl (by simp [oi,mS,il]; omega))
theorem yg {k k1 k2 : SK} (b d : List UInt8) (hb : b.length ≤ 1000000) (hd : d.length ≤ 1000000) : res Γ 530 [.sl k 1 [.sl k1 1 (ae b),.sl k2 1 (ae d)],.sl .nil 1 []] = some [.sl .any 1 (ae (b ++ d))] :=
 jl (fJ (g := oi) rfl (by simp [oi,mS,il]; omega))
theorem oa {k : SK} (hk : k ≠ .nil) (b : List UInt8) (hb : b.length ≤ 1000000) (hne : b ≠ []) : resM Γ 0 525 [.p (.sl k 1 (ae b))] [] = some ([.own 0 b.length],[.row false 1 (ae b)]) := by
 have hl := @ar b
 obtain ⟨x,xs,e⟩ := yl hne
 rw [e] at hl ⊢
 rw [← hl]
 refine rz (fn := dL) rfl rfl ?_
 have hm : (x :: xs).length ≤ 1073741824 := by omega
 cases k with
 | nil => exact absurd rfl hk
 | _ =>
  simp(disch:=first|assumption|omega|decide|(simp only[lens]<;>omega)|fail)only[go_sem,dL,gD,dc]
theorem ue {f : Bool} (b : List UInt8) (hb : b.length ≤ 1000000) (hne : b ≠ []) : resM Γ 1 525 [.own 0 b.length] [.row f 1 (ae b)] = some ([.own 1 b.length],[.row f 1 (ae b),.row false 1 (ae b)]) := by
 have hl := @ar b
 have hp := List.length_pos_iff.2 hne
 have hm : (ae b).length ≤ 1073741824 := by omega
 refine rz (fn := dL) rfl rfl ?_
 simp(disch:=first|assumption|omega|decide|(simp only[lens]<;>omega)|fail)only[go_sem,dL,dc]
 rw [hl]
section
variable {F Pd M room : Nat} {Z : Nat → Prop} {H0 H : Heap} {l : Fl} {c : Nat} {s : List UInt8}
theorem tH (h : FsS F Pd M room Z H0 l c H) (h1 : 1 ≤ s.length) (h2 : s.length ≤ 255) {b : List UInt8} (hg : fget s l = some b) : ∃ id f,resW Γ 526 [.bx F 0,.p (.str s)] H = some ([.own id b.length,.p (.int .i64 0)],H) ∧ H[id]? = some (.row f 1 (ae b)) := by
 obtain ⟨es,hm,hf,hz⟩ := h.m
 rcases hf.find (s := s) with ⟨e,_⟩ | ⟨b',id,f,e,e2,e3⟩
 ·rw [hg] at e; cases e
 ·rw [hg] at e; cases e
  have hF := h.f
  have hn := jR s h1 h2
  refine ⟨id,f,?_,e3⟩
  refine ab (fn := ga) rfl rfl ?_
  simp(disch:=first|assumption|omega|decide|(simp only[lens]<;>omega)|fail)only[go_sem,ga,hF,hn,hm,e2]
theorem qC : an Γ 526 = true := rfl
theorem fs_size (h : FsS F Pd M room Z H0 l c H) (h1 : 1 ≤ s.length) (h2 : s.length ≤ 255) {b : List UInt8} (hg : fget s l = some b) : resW Γ 506 [.bx F 0,.p (.str s)] H = some ([.p (.int .i64 (b.length : Int)),.p (.int .i64 0)],H) := by
 obtain ⟨id,f,e1,e2⟩ := tH h h1 h2 hg
 have hl := @ar b
 refine ab (fn := fX) rfl rfl ?_
 simp(disch:=first|assumption|omega|decide|(simp only[lens]<;>omega)|fail)only[go_sem,fX,qC,e1,e2]
theorem Bf (h : FsS F Pd M room Z H0 l c H) (h1 : 1 ≤ s.length) (h2 : s.length ≤ 255) {b : List UInt8} (hg : fget s l = some b) (hb : b.length ≤ 1000000) (hne : b ≠ []) :
  ∃ H',resW Γ 505 [.bx F 0,.p (.str s),.p (.int .i64 0),.p (.int .i64 (b.length : Int))] H = some ([.own H.length b.length,.p (.int .i64 0)],H') ∧ Since (fun _ => False) H H' ∧ H'[H.length]? = some (.row false 1 (ae b)) := by
 obtain ⟨id,f,e1,e2⟩ := tH h h1 h2 hg
 have hl := @ar b
 have hid := (List.getElem?_eq_some_iff.1 e2).1
 have hc := oa (k := SK.any) (by decide) b hb hne
 have hcut : cQ 1 (.p (.sl .any 1 (ae b))) (some (.p (.int .i64 0))) (some (.p (.int .i64 (b.length : Int)))) = some (.p (.sl .any 1 (ae b))) := by
  rw [BE (by omega) (by omega) (by omega)]
  rw [show ((b.length : Int)).toNat = b.length by omega,show (0 : Int).toNat = 0 by rfl,List.drop_zero,List.take_of_length_le (by omega)]; rfl
 refine ⟨H.set id (.row true 1 (ae b)) ++ [.row false 1 (ae b)],?_,((Since.refl H).frz e2).trans (Since.app _ _),?_⟩
 ·refine ab (fn := ge) rfl rfl ?_
  simp(disch:=first|assumption|omega|decide|(simp only[lens]<;>omega)|fail)only[go_sem,ge,qC,e1,e2,hcut,hc]
  simp
 ·rw [List.getElem?_append_right (by simp)]; simp
theorem pL (h : FsS F Pd M room Z H0 l c H) (hu : used l ≤ 1000000000) : resW Γ 533 [.bx F 0] H = some ([.p (.int .i64 (used l : Int))],H) := by
 obtain ⟨es,hm,hf,hz⟩ := h.m
 refine ow (g := usedG) (rs := [.int .i64 (used l : Int)]) rfl ?_
 have b1 : bN H F = some [.bx Pd 0,.p (.int .i64 (room : Int)),.mp M] := by simp [bN,h.f]
 have b2 : mapOf H M = some es := by unfold mapOf; rw [hm]; exact pD es
 show (bN H F).bind (usedV H) = _
 rw [b1]
 show (mapOf H M).bind _ = _
 rw [b2]
 show (lM H es).bind _ = _
 rw [hf.lens]
 exact if_pos (by omega)
theorem xP (m : Nat) (H : Heap) : resW Γ 496 [.mp m] H = some ([.clo 518 [.bx H.length 0]],H ++ [.box [.mp m]]) := by
 refine ab (fn := aA) rfl rfl ?_
 simp(disch:=first|assumption|omega|decide|(simp only[lens]<;>omega)|fail)only[go_sem,aA,boxA]
theorem still496 : an Γ 496 = true := rfl
theorem y5 (h : FsS F Pd M room Z H0 l c H) (hk : ∀ x ∈ l,x.1.length ≤ 1000) (hn : l.length ≤ 1000000) : resW Γ 485 [.bx F 0] H = some ([.p (rowS (dP (l.map (·.1))))],H ++ [.box [.mp M]]) := by
 obtain ⟨es,hm,hf,hz⟩ := h.m
 have hF := h.f
 have hml : M < H.length := (List.getElem?_eq_some_iff.1 hm).1
 have e1 := xP M H
 have e2 : resW Γ 429 [.clo 518 [.bx H.length 0]] (H ++ [.box [.mp M]]) = some ([.p (rowS (dP (l.map (·.1))))],H ++ [.box [.mp M]]) := by
  have e3 : Γ.fn 429 = some (.look (wU [518,433])) := rfl
  refine ow (Γ := Γ) (f := 429) (g := wU [518,433]) (rs := [rowS (dP (l.map (·.1)))]) e3 ?_
  have b1 : bN (H ++ [.box [.mp M]]) H.length = some [.mp M] := by simp [bN]
  have b2 : mapOf (H ++ [.box [.mp M]]) M = some es := by
   unfold mapOf
   rw [List.getElem?_append_left hml,hm]
   exact pD _
  have b3 : es.length ≤ lim := by unfold lim; rw [hf.len]; omega
  show (bN (H ++ [.box [.mp M]]) H.length).bind (keysV (H ++ [.box [.mp M]])) = _
  rw [b1]
  show (mapOf (H ++ [.box [.mp M]]) M).bind _ = _
  rw [b2]
  show (bB es).bind _ = _
  rw [hf.keys hk]
  show (if es.length ≤ lim then _ else _) = _
  rw [if_pos b3]
 refine ab (fn := gw) rfl rfl ?_
 simp(disch:=first|assumption|omega|decide|(simp only[lens]<;>omega)|fail)only[go_sem,gw,hF,still496,vi,e1,e2]
end
end Ab
