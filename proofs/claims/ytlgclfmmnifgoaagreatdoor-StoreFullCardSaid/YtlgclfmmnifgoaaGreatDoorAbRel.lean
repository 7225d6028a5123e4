import Derived.Test.YtlgclfmmnifgoaaGreatDoorAbTok
import Derived.Test.YtlgclfmmnifgoaaGreatDoorAbPrim
import Derived.Test.YtlgclfmmnifgoaaGreatDoorAbCore
import Derived.Below
import Derived.Laws.OwnMore
import Derived.MapKept
namespace Ab
open Go (IntKind BinOp UnOp)
def rF (n : Int) : Bool := ff n.toNat.toUInt8
theorem rO {s : List UInt8} {i : Nat} : rF (byt s i) = ff (s.getD i 0) := by
 unfold rF byt
 rw [Int.toNat_natCast,qI]
theorem ge_u8 {n : Int} {k : Nat} (h0 : 0 ≤ n) (h1 : n < 256) (hk : k < 256) : decide ((k : Int) ≤ n) = decide (UInt8.ofNat k ≤ n.toNat.toUInt8) := by
 refine decide_eq_decide.2 ?_
 rw [UInt8.le_iff_toNat_le]
 have e1 : (UInt8.ofNat k).toNat = k := by simp; omega
 have e2 : n.toNat.toUInt8.toNat = n.toNat := by simp; omega
 rw [e1,e2]; omega
theorem le_u8 {n : Int} {k : Nat} (h0 : 0 ≤ n) (h1 : n < 256) (hk : k < 256) : decide (n ≤ (k : Int)) = decide (n.toNat.toUInt8 ≤ UInt8.ofNat k) := by
 refine decide_eq_decide.2 ?_
 rw [UInt8.le_iff_toNat_le]
 have e1 : (UInt8.ofNat k).toNat = k := by simp; omega
 have e2 : n.toNat.toUInt8.toNat = n.toNat := by simp; omega
 rw [e1,e2]; omega
theorem kI {n : Int} {k : Nat} (h0 : 0 ≤ n) (h1 : n < 256) (hk : k < 256) : n = (k : Int) ↔ n.toNat.toUInt8 = UInt8.ofNat k := by
 rw [← UInt8.toNat_inj]
 have e1 : (UInt8.ofNat k).toNat = k := by simp; omega
 have e2 : n.toNat.toUInt8.toNat = n.toNat := by simp; omega
 rw [e1,e2]; omega
theorem nl {n : Int} (h0 : 0 ≤ n) (h1 : n < 256) : rF n = true ↔ (97 ≤ n ∧ n ≤ 122) ∨ (65 ≤ n ∧ n ≤ 90) ∨ (48 ≤ n ∧ n ≤ 57) ∨ n = 95 ∨ n = 45 ∨ n = 58 ∨ n = 35 ∨ n = 37 ∨ n = 64 ∨ n = 61 := by
 have a1 := decide_eq_decide.1 (ge_u8 h0 h1 (show 97 < 256 by omega)); have a2 := decide_eq_decide.1 (le_u8 h0 h1 (show 122 < 256 by omega))
 have a3 := decide_eq_decide.1 (ge_u8 h0 h1 (show 65 < 256 by omega)); have a4 := decide_eq_decide.1 (le_u8 h0 h1 (show 90 < 256 by omega))
 have a5 := decide_eq_decide.1 (ge_u8 h0 h1 (show 48 < 256 by omega)); have a6 := decide_eq_decide.1 (le_u8 h0 h1 (show 57 < 256 by omega))
 have b1 := kI h0 h1 (show 95 < 256 by omega); have b2 := kI h0 h1 (show 45 < 256 by omega); have b3 := kI h0 h1 (show 58 < 256 by omega); have b4 := kI h0 h1 (show 35 < 256 by omega)
 have b5 := kI h0 h1 (show 37 < 256 by omega); have b6 := kI h0 h1 (show 64 < 256 by omega); have b7 := kI h0 h1 (show 61 < 256 by omega)
 unfold rF ff
 simp only [Bool.or_eq_true,Bool.and_eq_true,decide_eq_true_eq,beq_iff_eq]
 generalize n.toNat.toUInt8 = c at *
 constructor
 ·rintro (((((((((⟨h,k⟩ | ⟨h,k⟩) | ⟨h,k⟩) | h) | h) | h) | h) | h) | h) | h)
  ·exact .inl ⟨a1.2 h,a2.2 k⟩
  ·exact .inr (.inl ⟨a3.2 h,a4.2 k⟩)
  ·exact .inr (.inr (.inl ⟨a5.2 h,a6.2 k⟩))
  ·exact .inr (.inr (.inr (.inl (b1.2 h))))
  ·exact .inr (.inr (.inr (.inr (.inl (b2.2 h)))))
  ·exact .inr (.inr (.inr (.inr (.inr (.inl (b3.2 h))))))
  ·exact .inr (.inr (.inr (.inr (.inr (.inr (.inl (b4.2 h)))))))
  ·exact .inr (.inr (.inr (.inr (.inr (.inr (.inr (.inl (b5.2 h))))))))
  ·exact .inr (.inr (.inr (.inr (.inr (.inr (.inr (.inr (.inl (b6.2 h)))))))))
  ·exact .inr (.inr (.inr (.inr (.inr (.inr (.inr (.inr (.inr (b7.2 h)))))))))
 ·rintro (⟨h,k⟩ | ⟨h,k⟩ | ⟨h,k⟩ | h | h | h | h | h | h | h)
  ·exact .inl (.inl (.inl (.inl (.inl (.inl (.inl (.inl (.inl ⟨a1.1 h,a2.1 k⟩))))))))
  ·exact .inl (.inl (.inl (.inl (.inl (.inl (.inl (.inl (.inr ⟨a3.1 h,a4.1 k⟩))))))))
  ·exact .inl (.inl (.inl (.inl (.inl (.inl (.inl (.inr ⟨a5.1 h,a6.1 k⟩)))))))
  ·exact .inl (.inl (.inl (.inl (.inl (.inl (.inr (b1.1 h)))))))
  ·exact .inl (.inl (.inl (.inl (.inl (.inr (b2.1 h))))))
  ·exact .inl (.inl (.inl (.inl (.inr (b3.1 h)))))
  ·exact .inl (.inl (.inl (.inr (b4.1 h))))
  ·exact .inl (.inl (.inr (b5.1 h)))
  ·exact .inl (.inr (b6.1 h))
  ·exact .inr (b7.1 h)
theorem Br {n : Int} (h0 : 0 ≤ n) (h1 : n < 256) (h : ¬ ((97 ≤ n ∧ n ≤ 122) ∨ (65 ≤ n ∧ n ≤ 90) ∨ (48 ≤ n ∧ n ≤ 57) ∨ n = 95 ∨ n = 45 ∨ n = 58 ∨ n = 35 ∨ n = 37 ∨ n = 64 ∨ n = 61)) : rF n = false := by
 cases hb : rF n
 ·rfl
 ·exact absurd ((nl h0 h1).1 hb) h
theorem seven_ix {n : Int} (h0 : 0 ≤ n) (h1 : n < 256) : 0 ≤ ixB [95,45,58,35,37,64,61] n.toNat.toUInt8 ↔ (n = 95 ∨ n = 45 ∨ n = 58 ∨ n = 35 ∨ n = 37 ∨ n = 64 ∨ n = 61) := by
 have b1 := kI h0 h1 (show 95 < 256 by omega); have b2 := kI h0 h1 (show 45 < 256 by omega); have b3 := kI h0 h1 (show 58 < 256 by omega); have b4 := kI h0 h1 (show 35 < 256 by omega)
 have b5 := kI h0 h1 (show 37 < 256 by omega); have b6 := kI h0 h1 (show 64 < 256 by omega); have b7 := kI h0 h1 (show 61 < 256 by omega)
 generalize n.toNat.toUInt8 = c at *
 have key : ∀ l : List UInt8,0 ≤ ixB l c ↔ c ∈ l := by
  intro l
  induction l with
  | nil => simp [ixB]
  | cons b l ih =>
   simp only [ixB,List.mem_cons,beq_iff_eq]
   by_cases hb : b = c
   ·simp [hb]
   ·rw [if_neg hb]
    have hr := @zJ l c
    constructor
    ·intro h
     split at h
     ·omega
     ·exact .inr (ih.1 (by omega))
    ·rintro (h | h)
     ·exact absurd h.symm hb
     ·have := ih.2 h
      rw [if_neg (by omega)]; omega
 rw [key]
 simp only [List.mem_cons,List.not_mem_nil,or_false]
 exact (or_congr b1 (or_congr b2 (or_congr b3 (or_congr b4 (or_congr b5 (or_congr b6 b7)))))).symm
@[go_sem] theorem oS (n : Int) (h0 : 0 ≤ n) (h1 : n < 256) : res Γ 65 [.int .u8 n] = some [.bool (rF n)] := by
  have h7 := seven_ix h0 h1
  have ht := nl h0 h1
  have hf := Br h0 h1
  refine aw (fn := gp) rfl rfl ?_
  repeat' (first | (simp(disch:=first|assumption|omega|decide|(simp only[lens]<;>omega)|fail)only[go_sem]) | refine fD (fun hc => ?_) (fun hc => ?_) | refine lu (fun hc => ?_) (fun hc => ?_) | refine ly (fun hc => ?_) (fun hc => ?_))
  simp(disch:=first|assumption|omega|decide|(simp only[lens]<;>omega)|fail)only[go_sem,gp]
  repeat' (first | (simp(disch:=first|assumption|omega|decide|(simp only[lens]<;>omega)|fail)only[go_sem]) | refine fD (fun hc => ?_) (fun hc => ?_) | refine lu (fun hc => ?_) (fun hc => ?_) | refine ly (fun hc => ?_) (fun hc => ?_))
  all_goals first
    | (rw [ht.2 (by omega)]; done)
    | (by_cases h9 : 0 ≤ ixB [95,45,58,35,37,64,61] n.toNat.toUInt8
       · rw [decide_eq_true h9,ht.2 (by have := h7.1 h9; omega)]
       · have h10 := fun h => h9 (h7.2 h)
         rw [decide_eq_false h9,hf (by omega)])
@[go_sem] theorem ya (n : Int) (h0 : 0 ≤ n) (h1 : n < 256) : res Γ 43 [.int .u8 n] = some [.bool (rF n)] := by
  have ht := nl h0 h1
  have hf := Br h0 h1
  refine aw (fn := pW) rfl rfl ?_
  repeat' (first | (simp(disch:=first|assumption|omega|decide|(simp only[lens]<;>omega)|fail)only[go_sem,pW]) | refine fD (fun hc => ?_) (fun hc => ?_) | refine lu (fun hc => ?_) (fun hc => ?_) | refine ly (fun hc => ?_) (fun hc => ?_))
  all_goals first
    | (rw [ht.2 (by omega)]; done)
    | (by_cases h9 : n = 61
       · rw [decide_eq_true h9,ht.2 (by omega)]
       · rw [decide_eq_false h9,hf (by omega)])
end Ab
namespace Ab
open Go (IntKind BinOp UnOp)
end Ab
namespace Ab
open Go (IntKind BinOp UnOp)
end Ab
namespace Ab
open Go (IntKind BinOp UnOp)
end Ab
namespace Ab
open Go (IntKind BinOp UnOp)
end Ab
namespace Ab
end Ab
namespace Ab
def y4 (c : UInt8) : Bool := c == 123 || c == 125 || c == 44
def joinC : List (List UInt8) → List UInt8
 | [] => []
 | [a] => a
 | a :: r => a ++ 44 :: joinC r
def prodL (a b : List (List UInt8)) : List (List UInt8) := a.flatMap fun x => b.map (x ++ ·)
inductive Exp : List UInt8 → List (List UInt8) → Prop
 | run (p) : (∀ c ∈ p,y4 c = false) → Exp p [p]
 | grp (p) (alts : List (List UInt8)) (f : List UInt8 → List (List UInt8)) (u l) : (∀ c ∈ p,y4 c = false) → alts ≠ [] → (∀ a ∈ alts,Exp a (f a)) → Exp u l →
   Exp (p ++ 123 :: (joinC alts ++ 125 :: u)) (prodL [p] (prodL (alts.flatMap f) l))
end Ab
namespace Ab
def single (c : UInt8) : Tok := (false,fillN none256 c.toNat 1)
end Ab
namespace Ab
open Go (IntKind BinOp UnOp)
theorem getD_some {T : List Tok} {i : Nat} (h : i < T.length) : T[i]? = some (T.getD i (false,[])) := by
 rw [List.getD_eq_getElem?_getD,List.getElem?_eq_getElem h]; rfl
end Ab
namespace Ab
open Go (IntKind BinOp UnOp)
end Ab
namespace Ab
open Go (IntKind BinOp UnOp)
structure TokAt (p : List UInt8) (i e : Nat) (t : Tok) : Prop where
 notAny : t.1 = false
 ask : byt p i = 63 ∧ (∀ c,inT t c = true) ∨ byt p i = 91 ∧ i < e ∧ e ≤ p.length ∧ (∀ c,inT t c = inF ((p.take e).drop (i + 1)) c) ∨ byt p i ≠ 63 ∧ byt p i ≠ 91 ∧ (∀ c,inT t c = (p.getD i 0 == c))
end Ab
namespace Ab
open Go (IntKind BinOp UnOp)
theorem ci {c : UInt8} : ∀ {s p : List UInt8},p ∈ splitB c s → p.length ≤ s.length
 | [],p,h => by simp [splitB] at h; subst h; exact Nat.le_refl _
 | b :: l,p,h => by
  rw [splitB] at h
  split at h
  ·rcases List.mem_cons.1 h with rfl | h
   ·simp
   ·have := ci h; simp; omega
  ·split at h
   ·rw [List.mem_singleton] at h; subst h; simp
   ·rename_i x t he
    rcases List.mem_cons.1 h with rfl | h
    ·have := ci (s := l) (p := x) (c := c) (by rw [he]; simp)
     simp; omega
    ·have := ci (s := l) (p := p) (c := c) (by rw [he]; simp [h])
     simp; omega
theorem getD_mem {l : List (List UInt8)} {i : Nat} (h : i < l.length) : l.getD i [] ∈ l := by
 rw [List.getD_eq_getElem?_getD,List.getElem?_eq_getElem h]; simp
end Ab
namespace Ab
open Go (IntKind BinOp UnOp)
def nu (p : List UInt8) : Bool := decide (p ≠ []) && p.all ff
def nameB (s : List UInt8) : Bool := decide (1 ≤ s.length) && decide (s.length ≤ 200) && decide ((splitB 46 s).length ≤ 20) && (splitB 46 s).all nu
theorem rQ (p : List UInt8) (hp : p.length ≤ 1000) (v22 v23 v24 : AV) (H : Heap) (Q : Out → Prop) : ∀ (f i : Nat),i + f = p.length →
  ((∀ c ∈ p.drop i,ff c = true) → ∀ e,look e 22 = v22 → look e 23 = v23 → look e 24 = v24 → Q (.ex 2,e,H)) →
  ((¬ ∀ c ∈ p.drop i,ff c = true) → ∀ e,look e 2 = .p (.bool false) → Q (.ret,e,H)) →
  Wp Γ dg [(5,.p (.str p)),(22,v22),(23,v23),(24,v24),(31,.p (.int .i64 (p.length : Int))),(32,.p (.int .i64 (i : Int)))] H Q := by
 intro f
 induction f with
 | zero =>
  intro i hi h1 h2
  have hi : i = p.length := by omega
  subst hi
  rw [af (L := dg) rfl]
  simp(disch:=first|assumption|omega|decide|(simp only[lens]<;>omega)|fail)only[go_sem,dg]
  exact h1 (by simp) _ rfl rfl rfl
 | succ f ih =>
  intro i hi h1 h2
  have hlt : i < p.length := by omega
  have hd : p.drop i = p.getD i 0 :: p.drop (i + 1) := by
   rw [List.drop_eq_getElem_cons hlt,List.getD_eq_getElem?_getD,List.getElem?_eq_getElem hlt]; rfl
  have b0 := @pE p i
  have b1 := @byt_le p i
  have hb := oS (byt p i) b0 (by omega)
  rw [rO] at hb
  rw [hd] at h1 h2
  cases hc : ff (p.getD i 0) with
  | true =>
   rw [hc] at hb
   have ih := ih (i + 1) (by omega) (fun ha => h1 (fun c hcm => by
    rcases List.mem_cons.1 hcm with rfl | hcm
    ·exact hc
    ·exact ha c hcm)) (fun ha => h2 (fun hb => ha fun c hcm => hb c (List.mem_cons_of_mem _ hcm)))
   rw [af (L := dg) rfl]
   simp(disch:=first|assumption|omega|decide|(simp only[lens]<;>omega)|fail)only[go_sem,dg,hb]
   exact ih
  | false =>
   rw [hc] at hb
   rw [af (L := dg) rfl]
   simp(disch:=first|assumption|omega|decide|(simp only[lens]<;>omega)|fail)only[go_sem,dg,hb]
   exact h2 (fun ha => by rw [ha _ (List.mem_cons_self ..)] at hc; cases hc) _ rfl
theorem partB_iff {p : List UInt8} : nu p = true ↔ p ≠ [] ∧ ∀ c ∈ p,ff c = true := by
 simp [nu,List.all_eq_true]
theorem rG {kk : SK} (ps : List (List UInt8)) (hl : ps.length ≤ 1000) (hp : ∀ p ∈ ps,p.length ≤ 1000) (H : Heap) (Q : Out → Prop) : ∀ (f i : Nat),i + f = ps.length →
  ((∀ p ∈ ps.drop i,nu p = true) → ∀ e,Q (.ex 0,e,H)) →
  ((¬ ∀ p ∈ ps.drop i,nu p = true) → ∀ e,look e 2 = .p (.bool false) → Q (.ret,e,H)) →
  Wp Γ dn [(22,.p (.sl kk 1 (strs ps))),(23,.p (.int .i64 (ps.length : Int))),(24,.p (.int .i64 (i : Int)))] H Q := by
 intro f
 induction f with
 | zero =>
  intro i hi h1 h2
  have hi : i = ps.length := by omega
  subst hi
  rw [af (L := dn) rfl]
  simp(disch:=first|assumption|omega|decide|(simp only[lens]<;>omega)|fail)only[go_sem,dn]
  exact h1 (by simp) _
 | succ f ih =>
  intro i hi h1 h2
  have hlt : i < ps.length := by omega
  have hd : ps.drop i = ps.getD i [] :: ps.drop (i + 1) := by
   rw [List.drop_eq_getElem_cons hlt,List.getD_eq_getElem?_getD,List.getElem?_eq_getElem hlt]; rfl
  have hpl := hp (ps.getD i []) (by rw [List.getD_eq_getElem?_getD,List.getElem?_eq_getElem hlt]; exact List.getElem_mem hlt)
  rw [hd] at h1 h2
  generalize hq : ps.getD i [] = p at *
  by_cases he : p = []
  ·rw [af (L := dn) rfl]
   simp(disch:=first|assumption|omega|decide|(simp only[lens]<;>omega)|fail)only[go_sem,dn,hq,he]
   refine h2 (fun ha => ?_) _ rfl
   have := (partB_iff.1 (ha _ (List.mem_cons_self ..))).1
   exact this he
  ·have key := fun QQ => rQ p hpl (.p (.sl kk 1 (strs ps))) (.p (.int .i64 (ps.length : Int))) (.p (.int .i64 (i : Int))) H QQ p.length 0 (by omega)
   rw [af (L := dn) rfl]
   simp(disch:=first|assumption|omega|decide|(simp only[lens]<;>omega)|fail)only[go_sem,dn,hq,he]
   refine key _ (fun ha e e1 e2 e3 => ?_) (fun ha e e1 => ?_)
   ·simp(disch:=first|assumption|omega|decide|(simp only[lens]<;>omega)|fail)only[go_sem,e1,e2,e3]
    refine ih (i + 1) (by omega) (fun hb => h1 fun q hq => ?_) (fun hb => h2 fun hc => hb fun q hq => hc q (List.mem_cons_of_mem _ hq))
    rcases List.mem_cons.1 hq with rfl | hq
    ·exact partB_iff.2 ⟨he,by simpa using ha⟩
    ·exact hb q hq
   ·simp(disch:=first|assumption|omega|decide|(simp only[lens]<;>omega)|fail)only[go_sem]
    exact h2 (fun hc => ha (by simpa using (partB_iff.1 (hc _ (List.mem_cons_self ..))).2)) _ e1
theorem jZ {s : List UInt8} : ((∀ p ∈ splitB 46 s,nu p = true) ↔ (splitB 46 s).all nu = true) := by simp
theorem fG (s : List UInt8) (hs : s.length ≤ 1000) : res Γ 56 [.str s] = some [.bool (nameB s)] := by
 have hps := gH s (by omega)
 have hc := bb 46 s
 have hc2 := @count_le s 46
 refine aw (fn := jK) rfl rfl ?_
 unfold nameB
 by_cases h1 : s.length < 1
 ·have : decide (1 ≤ s.length) = false := by simpa using h1
  simp(disch:=first|assumption|omega|decide|(simp only[lens]<;>omega)|fail)only[go_sem,jK,this]
 ·by_cases h2 : 200 < s.length
  ·have : decide (s.length ≤ 200) = false := by simpa using h2
   simp(disch:=first|assumption|omega|decide|(simp only[lens]<;>omega)|fail)only[go_sem,jK,this]
  ·by_cases h3 : 20 < (splitB 46 s).length
   ·have : decide ((splitB 46 s).length ≤ 20) = false := by simpa using h3
    simp(disch:=first|assumption|omega|decide|(simp only[lens]<;>omega)|fail)only[go_sem,jK,this]
   ·have e1 : decide (1 ≤ s.length) = true := by simp; omega
    have e2 : decide (s.length ≤ 200) = true := by simp; omega
    have e3 : decide ((splitB 46 s).length ≤ 20) = true := by simp; omega
    simp(disch:=first|assumption|omega|decide|(simp only[lens]<;>omega)|fail)only[go_sem,jK,e1,e2,e3]
    refine rG (splitB 46 s) (by omega) (fun p hp => by have := ci hp; omega) _ _ (splitB 46 s).length 0 (by omega) (fun ha e => ?_) (fun ha e he => ?_)
    ·rw [List.drop_zero,jZ] at ha
     simp(disch:=first|assumption|omega|decide|(simp only[lens]<;>omega)|fail)only[go_sem,ha]
    ·rw [List.drop_zero,jZ] at ha
     have ha : (splitB 46 s).all nu = false := by simpa using ha
     simp(disch:=first|assumption|omega|decide|(simp only[lens]<;>omega)|fail)only[go_sem,he,ha]
theorem yL {kk : SK} (ps : List (List UInt8)) (_hl : ps.length ≤ 1000) (j : Nat) (hj : j < ps.length) (p : List UInt8) (hpj : ps.getD j [] = p) (hp : p.length ≤ 1000) (H : Heap) (Q : Out → Prop) : ∀ (f i : Nat),i + f = p.length →
  ((∀ c ∈ p.drop i,ff c = true) → ∀ e,look e 3 = .p (.sl kk 1 (strs ps)) → look e 4 = .p (.int .i64 (j : Int)) → Q (.ex 2,e,H)) →
  ((¬ ∀ c ∈ p.drop i,ff c = true) → ∀ e,look e 2 = .p (.bool false) → Q (.ret,e,H)) →
  Wp Γ fi [(3,.p (.sl kk 1 (strs ps))),(4,.p (.int .i64 (j : Int))),(5,.p (.int .i64 (i : Int)))] H Q := by
 intro f
 induction f with
 | zero =>
  intro i hi h1 h2
  have hi : i = p.length := by omega
  subst hi
  rw [af (L := fi) rfl]
  simp(disch:=first|assumption|omega|decide|(simp only[lens]<;>omega)|fail)only[go_sem,fi,hpj]
  exact h1 (by simp) _ rfl rfl
 | succ f ih =>
  intro i hi h1 h2
  have hlt : i < p.length := by omega
  have hd : p.drop i = p.getD i 0 :: p.drop (i + 1) := by
   rw [List.drop_eq_getElem_cons hlt,List.getD_eq_getElem?_getD,List.getElem?_eq_getElem hlt]; rfl
  have b0 := @pE p i
  have b1 := @byt_le p i
  have hb := ya (byt p i) b0 (by omega)
  rw [rO] at hb
  rw [hd] at h1 h2
  cases hc : ff (p.getD i 0) with
  | true =>
   rw [hc] at hb
   have ih := ih (i + 1) (by omega) (fun ha => h1 (fun c hcm => by
    rcases List.mem_cons.1 hcm with rfl | hcm
    ·exact hc
    ·exact ha c hcm)) (fun ha => h2 (fun hb => ha fun c hcm => hb c (List.mem_cons_of_mem _ hcm)))
   rw [af (L := fi) rfl]
   simp(disch:=first|assumption|omega|decide|(simp only[lens]<;>omega)|fail)only[go_sem,fi,hpj,hb]
   exact ih
  | false =>
   rw [hc] at hb
   rw [af (L := fi) rfl]
   simp(disch:=first|assumption|omega|decide|(simp only[lens]<;>omega)|fail)only[go_sem,fi,hpj,hb]
   exact h2 (fun ha => by rw [ha _ (List.mem_cons_self ..)] at hc; cases hc) _ rfl
theorem xk {kk : SK} (ps : List (List UInt8)) (hl : ps.length ≤ 1000) (hp : ∀ p ∈ ps,p.length ≤ 1000) (H : Heap) (Q : Out → Prop) : ∀ (f i : Nat),i + f = ps.length →
  ((∀ p ∈ ps.drop i,nu p = true) → ∀ e,look e 3 = .p (.sl kk 1 (strs ps)) → Q (.ex 0,e,H)) →
  ((¬ ∀ p ∈ ps.drop i,nu p = true) → ∀ e,look e 2 = .p (.bool false) → Q (.ret,e,H)) →
  Wp Γ fk [(3,.p (.sl kk 1 (strs ps))),(4,.p (.int .i64 (i : Int)))] H Q := by
 intro f
 induction f with
 | zero =>
  intro i hi h1 h2
  have hi : i = ps.length := by omega
  subst hi
  rw [af (L := fk) rfl]
  simp(disch:=first|assumption|omega|decide|(simp only[lens]<;>omega)|fail)only[go_sem,fk]
  exact h1 (by simp) _ rfl
 | succ f ih =>
  intro i hi h1 h2
  have hlt : i < ps.length := by omega
  have hd : ps.drop i = ps.getD i [] :: ps.drop (i + 1) := by
   rw [List.drop_eq_getElem_cons hlt,List.getD_eq_getElem?_getD,List.getElem?_eq_getElem hlt]; rfl
  have hpl := hp (ps.getD i []) (by rw [List.getD_eq_getElem?_getD,List.getElem?_eq_getElem hlt]; exact List.getElem_mem hlt)
  rw [hd] at h1 h2
  by_cases he : ps.getD i [] = []
  ·rw [af (L := fk) rfl]
   simp(disch:=first|assumption|omega|decide|(simp only[lens]<;>omega)|fail)only[go_sem,fk,he]
   refine h2 (fun ha => ?_) _ rfl
   have := (partB_iff.1 (ha _ (List.mem_cons_self ..))).1
   exact this he
  ·have key := fun QQ => yL (kk := kk) ps hl i hlt (ps.getD i []) rfl hpl H QQ (ps.getD i []).length 0 (by omega)
   rw [af (L := fk) rfl]
   simp(disch:=first|assumption|omega|decide|(simp only[lens]<;>omega)|fail)only[go_sem,fk,he]
   refine key _ (fun ha e e1 e2 => ?_) (fun ha e e1 => ?_)
   ·simp(disch:=first|assumption|omega|decide|(simp only[lens]<;>omega)|fail)only[go_sem,e1,e2]
    refine ih (i + 1) (by omega) (fun hb => h1 fun q hq => ?_) (fun hb => h2 fun hc => hb fun q hq => hc q (List.mem_cons_of_mem _ hq))
    rcases List.mem_cons.1 hq with rfl | hq
    ·exact partB_iff.2 ⟨he,by simpa using ha⟩
    ·exact hb q hq
   ·simp(disch:=first|assumption|omega|decide|(simp only[lens]<;>omega)|fail)only[go_sem]
    exact h2 (fun hc => ha (by simpa using (partB_iff.1 (hc _ (List.mem_cons_self ..))).2)) _ e1
theorem mM (s : List UInt8) : res Γ 396 [.str s] = some [.bool (nameB s)] := by
 have hc := bb 46 s
 have hc2 := @count_le s 46
 refine aw (fn := x6) rfl rfl ?_
 unfold nameB
 by_cases h1 : s.length < 1
 ·have : decide (1 ≤ s.length) = false := by simpa using h1
  simp(disch:=first|assumption|omega|decide|(simp only[lens]<;>omega)|fail)only[go_sem,x6,this]
 ·by_cases h2 : 200 < s.length
  ·have : decide (s.length ≤ 200) = false := by simpa using h2
   simp(disch:=first|assumption|omega|decide|(simp only[lens]<;>omega)|fail)only[go_sem,x6,this]
  ·have hps := jx s (by omega)
   have e1 : decide (1 ≤ s.length) = true := by simp; omega
   have e2 : decide (s.length ≤ 200) = true := by simp; omega
   simp(disch:=first|assumption|omega|decide|(simp only[lens]<;>omega)|fail)only[go_sem,x6,hps,e1,e2]
   refine xk (splitB 46 s) (by omega) (fun p hp => by have := ci hp; omega) _ _ (splitB 46 s).length 0 (by omega) (fun ha e he => ?_) (fun ha e he => ?_)
   ·rw [List.drop_zero,jZ] at ha
    simp(disch:=first|assumption|omega|decide|(simp only[lens]<;>omega)|fail)only[go_sem,ha,he]
    simp
    omega
   ·rw [List.drop_zero,jZ] at ha
    have ha : (splitB 46 s).all nu = false := by simpa using ha
    simp(disch:=first|assumption|omega|decide|(simp only[lens]<;>omega)|fail)only[go_sem,he,ha]
end Ab
namespace Ab
open Go (IntKind BinOp UnOp)
theorem still420 : an Γ 420 = true := rfl
theorem vh : an Γ 414 = true := rfl
structure Laid (N : Tri) (H : Heap) (r n : Nat) (ps : Path) (i : Nat) (N' : Tri) (H' : Heap) : Prop where
 lies : Lies H' N' r n
 some : ∀ q,(∃ x,N' q = some x) ↔ (∃ x,N q = some x) ∨ ∃ j,j ≤ i ∧ q = ps.take j
 leaf : ∀ q,aR N' q = aR N q
 chg : Chg N N' H H'
theorem qT {kk : SK} {N : Tri} {H : Heap} {r n : Nat} (ps : Path) (hps : ps.length ≤ 1001) (Q : Out → Prop)
  (hQ : ∀ N' H' nd' e,Laid N H r n ps ps.length N' H' → N' ps = some nd' → look e 0 = .bx r 0 → look e 6 = (if ps = [] then .p .nilp else .bx nd'.b 0) → Q (.ex 0,e,H')) :
  ∀ (f i : Nat) (N1 : Tri) (H1 : Heap) (nd : Nd),i + f = ps.length → Laid N H r n ps i N1 H1 → N1 (ps.take i) = some nd →
  Wp Γ ba [(0,.bx r 0),(5,.bx nd.b 0),(6,if i = 0 then .p .nilp else .bx nd.b 0),(20,.p (.sl kk 1 (strs ps))),(21,.p (.int .i64 (ps.length : Int))),(22,.p (.int .i64 (i : Int)))] H1 Q := by
 intro f
 induction f with
 | zero =>
  intro i N1 H1 nd hi hL hN
  have hi : i = ps.length := by omega
  subst hi
  rw [List.take_length] at hN
  rw [af (L := ba) rfl]
  simp(disch:=first|assumption|omega|decide|(simp only[lens]<;>omega)|fail)only[go_sem,ba]
  refine hQ N1 H1 nd _ hL hN rfl ?_
  by_cases hz : ps = []
  ·subst hz; rfl
  ·rw [if_neg hz,if_neg (fun e => hz (List.length_eq_zero_iff.1 e))]
   rfl
 | succ f ih =>
  intro i N1 H1 nd hi hL hN
  have hlt : i < ps.length := by omega
  have ht : ps.take i ++ [ps.getD i []] = ps.take (i + 1) := by
   rw [List.take_add_one,List.getD_eq_getElem?_getD,List.getElem?_eq_getElem hlt]; rfl
  obtain ⟨N2,H2,nd2,h1,h2,h3,h4,h5,h6⟩ := step_ok hL.lies hN (ps.getD i [])
  rw [ht] at h3 h4
  have ih := ih (i + 1) N2 H2 nd2 (by omega) ⟨h2,fun q => ?_,fun q => (h5 q).trans (hL.leaf q),hL.chg.trans h6⟩ h3
  ·rw [if_neg (by omega)] at ih
   rw [af (L := ba) rfl]
   simp(disch:=first|assumption|omega|decide|(simp only[lens]<;>omega)|fail)only[go_sem,ba,still420,h1]
   exact ih
  ·rw [h4 q,hL.some q]
   constructor
   ·rintro ((h | ⟨j,hj,rfl⟩) | rfl)
    ·exact .inl h
    ·exact .inr ⟨j,by omega,rfl⟩
    ·exact .inr ⟨i + 1,Nat.le_refl _,rfl⟩
   ·rintro (h | ⟨j,hj,rfl⟩)
    ·exact .inl (.inl h)
    ·by_cases e : j = i + 1
     ·subst e; exact .inr rfl
     ·exact .inl (.inr ⟨j,by omega,rfl⟩)
def dt (N : Tri) (p : Path) (l : Bool) : Tri := fun q => if q = p then (N p).map fun nd => { nd with leaf := l } else N q
theorem bq {N : Tri} {p q : Path} {l : Bool} {nd' : Nd} (h : dt N p l q = some nd') : ∃ nd,N q = some nd ∧ nd'.b = nd.b ∧ nd'.m = nd.m ∧ nd'.kids = nd.kids := by
 unfold dt at h
 split at h
 ·rename_i e
  subst e
  obtain ⟨nd,h1,rfl⟩ := Option.map_eq_some_iff.1 h
  exact ⟨nd,h1,rfl,rfl,rfl⟩
 ·exact ⟨nd',h,rfl,rfl,rfl⟩
theorem gk {N : Tri} {p q : Path} {l : Bool} {nd : Nd} (h : N q = some nd) : ∃ nd',dt N p l q = some nd' ∧ nd'.b = nd.b ∧ nd'.m = nd.m ∧ nd'.kids = nd.kids := by
 unfold dt
 by_cases e : q = p
 ·subst e
  exact ⟨{ nd with leaf := l },by simp [h],rfl,rfl,rfl⟩
 ·exact ⟨nd,by simp [e,h],rfl,rfl,rfl⟩
theorem rZ {H H' : Heap} {N : Tri} {r n n' : Nat} (h : Lies H N r n) {p : Path} (hp : p ≠ []) {nd nd0 : Nd} (hN : N p = some nd) (h0 : N [] = some nd0) {l : Bool}
  (e1 : H'[nd.b]? = some (.box [.mp nd.m,.p (.bool l)])) (e2 : H'[nd0.b]? = some (.box [.mp nd0.m,.p (.int .i64 (n' : Int))])) (e3 : ∀ i,i ≠ nd.b → i ≠ nd0.b → H'[i]? = H[i]?) :
  Lies H' (dt N p l) r n' where
 root := by
  obtain ⟨nd1,h1,h2⟩ := h.root
  obtain ⟨nd',h3,h4,_⟩ := gk (p := p) (l := l) h1
  exact ⟨nd',h3,h4.trans h2⟩
 box q nd' hq := by
  by_cases e : q = p
  ·subst e
   simp only [dt,if_true,hN,Option.map_some,Option.some.injEq] at hq
   subst hq
   rw [ol hp]
   exact e1
  ·have hq' : N q = some nd' := by simpa [dt,e] using hq
   by_cases e4 : q = []
   ·subst e4
    rw [h0] at hq'; cases hq'
    exact e2
   ·have hne : nd'.b ≠ nd.b := fun e5 => e (h.injb _ _ _ _ hq' hN e5)
    have hne0 : nd'.b ≠ nd0.b := fun e5 => e4 (h.injb _ _ _ _ hq' h0 e5)
    rw [e3 _ hne hne0,h.box q nd' hq',ol e4,ol e4]
 map q nd' hq := by
  obtain ⟨nd1,h1,_,h3,h4⟩ := bq hq
  rw [h3,h4,e3 _ (fun e => h.sep _ _ _ _ hN h1 e.symm) (fun e => h.sep _ _ _ _ h0 h1 e.symm)]
  exact h.map q nd1 h1
 kid q nd' hq k b hk := by
  obtain ⟨nd1,h1,_,h3,h4⟩ := bq hq
  rw [h4] at hk
  obtain ⟨nd2,h5,h6⟩ := h.kid q nd1 h1 k b hk
  obtain ⟨nd3,h7,h8,_⟩ := gk (p := p) (l := l) h5
  exact ⟨nd3,h7,h8.trans h6⟩
 up q k nd' hq := by
  obtain ⟨nd1,h1,h2,h3,h4⟩ := bq hq
  obtain ⟨nd2,h5,h6⟩ := h.up q k nd1 h1
  obtain ⟨nd3,h7,h8,h9,h10⟩ := gk (p := p) (l := l) h5
  exact ⟨nd3,h7,by rw [h10,h2]; exact h6⟩
 nodup q nd' hq := by
  obtain ⟨nd1,h1,h2,h3,h4⟩ := bq hq
  rw [h4]
  exact h.nodup q nd1 h1
 injb q q' nd1 nd2 hq hq' e := by
  obtain ⟨n1,h1,h2,h3,h4⟩ := bq hq
  obtain ⟨n2,g1,g2,g3,g4⟩ := bq hq'
  exact h.injb _ _ _ _ h1 g1 (by rw [← h2,← g2,e])
 injm q q' nd1 nd2 hq hq' e := by
  obtain ⟨n1,h1,h2,h3,h4⟩ := bq hq
  obtain ⟨n2,g1,g2,g3,g4⟩ := bq hq'
  exact h.injm _ _ _ _ h1 g1 (by rw [← h3,← g3,e])
 sep q q' nd1 nd2 hq hq' e := by
  obtain ⟨n1,h1,h2,h3,h4⟩ := bq hq
  obtain ⟨n2,g1,g2,g3,g4⟩ := bq hq'
  exact h.sep _ _ _ _ h1 g1 (by rw [← h2,← g3,e])
theorem ry {N : Tri} {p : Path} {l : Bool} {i : Nat} (h : Foot (dt N p l) i) : Foot N i := by
 obtain ⟨q,nd',h1,h2⟩ := h
 obtain ⟨nd,h3,h4,h5,_⟩ := bq h1
 exact ⟨q,nd,h3,by rw [← h4,← h5]; exact h2⟩
theorem rV {N : Tri} {p : Path} {l : Bool} (q : Path) : (∃ x,dt N p l q = some x) ↔ ∃ x,N q = some x := by
 constructor
 ·rintro ⟨x,h⟩
  obtain ⟨nd,h1,_⟩ := bq h
  exact ⟨nd,h1⟩
 ·rintro ⟨x,h⟩
  obtain ⟨nd,h1,_⟩ := gk (p := p) (l := l) h
  exact ⟨nd,h1⟩
theorem sC {N : Tri} {p : Path} {l : Bool} {nd : Nd} (h : N p = some nd) (q : Path) : aR (dt N p l) q = if q = p then l else aR N q := by
 unfold aR dt
 by_cases e : q = p
 ·subst e; simp [h]
 ·simp [e]
theorem pZ {t : AV} {H : Heap} (s : List UInt8) (hs : s.length ≤ 1000) (ht : ∃ r,t = .bx r 0) (hn : nameB s = false) : resW Γ 401 [t,.p (.str s)] H = some ([.p (.int .i64 14)],H) := by
 obtain ⟨r,rfl⟩ := ht
 have h1 := fG s hs
 rw [hn] at h1
 refine ab (fn := bG) rfl rfl ?_
 simp(disch:=first|assumption|omega|decide|(simp only[lens]<;>omega)|fail)only[go_sem,bG,h1]
theorem cU (s : List UInt8) : splitB 46 s ≠ [] := fun e => by
 have := bb 46 s
 rw [e] at this
 simp at this
theorem uz {H : Heap} {N : Tri} {r n : Nat} (h : Lies H N r n) (s : List UInt8) (hs : s.length ≤ 1000) (hn : nameB s = true) (hnn : n ≤ 1000000) :
  ∃ N' H',resW Γ 401 [.bx r 0,.p (.str s)] H = some ([.p (.int .i64 0)],H') ∧ Lies H' N' r (if aR N (splitB 46 s) = true then n else n + 1) ∧
   (∀ q,(∃ x,N' q = some x) ↔ (∃ x,N q = some x) ∨ ∃ j,q = (splitB 46 s).take j) ∧ (∀ q,aR N' q = if q = splitB 46 s then true else aR N q) ∧ Chg N N' H H' := by
 have h1 := fG s hs
 rw [hn] at h1
 have hps := gH s (by omega)
 have hc := bb 46 s
 have hc2 := @count_le s 46
 obtain ⟨nd0,h0,hr0⟩ := h.root
 have key : ∃ rs H',resW Γ 401 [.bx r 0,.p (.str s)] H = some (rs,H') ∧ rs = [.p (.int .i64 0)] ∧ ∃ N',Lies H' N' r (if aR N (splitB 46 s) = true then n else n + 1) ∧
   (∀ q,(∃ x,N' q = some x) ↔ (∃ x,N q = some x) ∨ ∃ j,q = (splitB 46 s).take j) ∧ (∀ q,aR N' q = if q = splitB 46 s then true else aR N q) ∧ Chg N N' H H' := by
  refine fB (fn := bG) (K := fun rs H' => rs = [.p (.int .i64 0)] ∧ ∃ N',Lies H' N' r (if aR N (splitB 46 s) = true then n else n + 1) ∧
   (∀ q,(∃ x,N' q = some x) ↔ (∃ x,N q = some x) ∨ ∃ j,q = (splitB 46 s).take j) ∧ (∀ q,aR N' q = if q = splitB 46 s then true else aR N q) ∧ Chg N N' H H') rfl rfl ?_
  simp(disch:=first|assumption|omega|decide|(simp only[lens]<;>omega)|fail)only[go_sem,bG,h1,hps]
  have key := fun Q hQ => qT (kk := .any) (N := N) (H := H) (r := r) (n := n) (splitB 46 s) (by omega) Q hQ (splitB 46 s).length 0 N H nd0 (by omega) ⟨h,fun q => ⟨fun hq => .inl hq,fun hq => by
    rcases hq with hq | ⟨j,hj,rfl⟩
    ·exact hq
    ·have : j = 0 := by omega
     subst this
     exact ⟨nd0,h0⟩⟩,fun _ => rfl,.refl _ _⟩ h0
  rw [hr0,if_pos rfl] at key
  refine key _ fun N' H' nd' e hL hN' e0 e6 => ?_
  rw [if_neg (cU s)] at e6
  have hb := hL.lies.box _ nd' hN'
  rw [ol (cU s)] at hb
  obtain ⟨nd1,hr1,hrb⟩ := hL.lies.root
  have hbr := hL.lies.box _ nd1 hr1
  have hmk : mark [] nd1 n = .p (.int .i64 (n : Int)) := if_pos rfl
  rw [hmk,hrb] at hbr
  have hlf : aR N (splitB 46 s) = nd'.leaf := by rw [← hL.leaf,jC hN']
  have hsome : ∀ q,(∃ x,N' q = some x) ↔ (∃ x,N q = some x) ∨ ∃ j,q = (splitB 46 s).take j := fun q => by
   rw [hL.some q]
   constructor
   ·rintro (hq | ⟨j,_,hq⟩)
    ·exact .inl hq
    ·exact .inr ⟨j,hq⟩
   ·rintro (hq | ⟨j,rfl⟩)
    ·exact .inl hq
    ·by_cases hj : j ≤ (splitB 46 s).length
     ·exact .inr ⟨j,hj,rfl⟩
     ·exact .inr ⟨(splitB 46 s).length,Nat.le_refl _,by rw [List.take_of_length_le (by omega),List.take_length]⟩
  cases hl : nd'.leaf with
  | true =>
   rw [hl] at hb hlf
   simp(disch:=first|assumption|omega|decide|(simp only[lens]<;>omega)|fail)only[go_sem,e0,e6,hb]
   rw [if_pos hlf]
   refine ⟨N',hL.lies,hsome,fun q => ?_,hL.chg⟩
   rw [hL.leaf]
   split
   ·rename_i e; rw [e,hlf]
   ·rfl
  | false =>
   rw [hl] at hb hlf
   have hne : nd'.b ≠ r := fun e => by
    have := hL.lies.injb _ _ _ _ hN' hr1 (by omega)
    exact cU s this
   have hb2 : (H'.set nd'.b (.box [.mp nd'.m,.p (.bool true)]))[r]? = some (.box [.mp nd1.m,.p (.int .i64 (n : Int))]) := by rw [List.getElem?_set_ne hne]; exact hbr
   have hwrap : IntKind.i64.wrap ((n : Int) + 1) = (n : Int) + 1 := by rw [wrap_i64 (by omega) (by omega)]
   simp(disch:=first|assumption|omega|decide|(simp only[lens]<;>omega)|fail)only[go_sem,e0,e6,hb,hb2]
   rw [if_neg (by rw [hlf]; simp)]
   have hbl : nd'.b < H'.length := (List.getElem?_eq_some_iff.1 hb).1
   have hrl : r < H'.length := (List.getElem?_eq_some_iff.1 hbr).1
   have hnew : Lies ((H'.set nd'.b (.box [.mp nd'.m,.p (.bool true)])).set r (.box [.mp nd1.m,.p (.int .i64 (((n + 1 : Nat)) : Int))])) (dt N' (splitB 46 s) true) r (n + 1) := by
    refine rZ hL.lies (cU s) hN' hr1 ?_ ?_ fun i h1 h2 => ?_
    ·rw [List.getElem?_set_ne (fun e => hne e.symm),List.getElem?_set_self hbl]
    ·rw [hrb,List.getElem?_set_self (by simpa using hrl)]
    ·rw [List.getElem?_set_ne (by rw [← hrb]; exact h2.symm),List.getElem?_set_ne h1.symm]
   refine ⟨dt N' (splitB 46 s) true,?_,fun q => ?_,fun q => ?_,?_⟩
   ·exact hnew
   ·rw [rV]; exact hsome q
   ·rw [sC hN',hL.leaf]
   ·have hc : Chg N' (dt N' (splitB 46 s) true) H' ((H'.set nd'.b (.box [.mp nd'.m,.p (.bool true)])).set r (.box [.mp nd1.m,.p (.int .i64 (((n + 1 : Nat)) : Int))])) :=
     ⟨by simp,fun i hi hf => by
      rw [List.getElem?_set_ne (fun e => hf ⟨_,nd1,hr1,.inl (hrb.trans e)⟩),List.getElem?_set_ne (fun e => hf ⟨_,nd',hN',.inl e⟩)],fun i hi => .inl (ry hi)⟩
    exact hL.chg.trans hc
 obtain ⟨rs,H',h1,rfl,N',h2⟩ := key
 exact ⟨N',H',h1,h2⟩
end Ab
namespace Ab
open Go (IntKind BinOp UnOp)
theorem resW_has {H : Heap} {N : Tri} {r n : Nat} (h : Lies H N r n) (s : List UInt8) (hs : s.length ≤ 1000) : resW Γ 392 [.bx r 0,.p (.str s)] H = some ([.p (.bool (aR N (splitB 46 s)))],H) := by
 have hps := gH s (by omega)
 have hc := bb 46 s
 have hc2 := @count_le s 46
 have hf := A3 (kk := .any) h (splitB 46 s) (by omega) (cU s)
 cases hN : N (splitB 46 s) with
 | none =>
  rw [hN] at hf
  have e : aR N (splitB 46 s) = false := by simp [aR,hN]
  refine ab (fn := cA) rfl rfl ?_
  simp(disch:=first|assumption|omega|decide|(simp only[lens]<;>omega)|fail)only[go_sem,cA,hps,vh,hf,ndV,e]
 | some nd =>
  rw [hN] at hf
  have hb := h.box _ nd hN
  rw [ol (cU s)] at hb
  have e := jC hN
  refine ab (fn := cA) rfl rfl ?_
  simp(disch:=first|assumption|omega|decide|(simp only[lens]<;>omega)|fail)only[go_sem,cA,hps,vh,hf,ndV,hb,e]
end Ab
namespace Ab
open Go (IntKind BinOp UnOp)
def Pruned (N : Tri) : Prop := ∀ q,q ≠ [] → (∃ x,N q = some x) → ∃ u,aR N (q ++ u) = true
structure Gone (N : Tri) (H : Heap) (r n : Nat) (p tgt : Path) (N' : Tri) (H' : Heap) : Prop where
 lies : Lies H' N' r n
 leaf : ∀ q,aR N' q = if q = tgt then false else aR N q
 same : ∀ q x,N' q = some x → ∃ y,N q = some y ∧ x.b = y.b ∧ x.m = y.m
 out : ∀ q,(¬ ∃ k t,q = p ++ k :: t) → (∃ y,N q = some y) → ∃ x,N' q = some x
 inn : ∀ k t,(∃ x,N' (p ++ k :: t) = some x) → ∃ u,aR N' (p ++ k :: t ++ u) = true
 chg : Chg N N' H H'
section
variable {kk : SK} {H H1 : Heap} {b m b' m' : Nat} {c c1 : AV} {k k2 : List UInt8} {rest : Path} {es es' : List (PV × AV)}
end
end Ab
namespace Ab
open Go (IntKind BinOp UnOp World Value Addr Obj undef maxLen)
theorem block_add (a : Addr) (n : Nat) : (a.add n).block = a.block := by unfold Addr.add; split <;> rfl
theorem add_add (a : Addr) (i j : Nat) : (a.add i).add j = a.add (i + j) := by
 unfold Addr.add
 by_cases hi : i = 0 <;> by_cases hj : j = 0 <;> simp [hi,hj,Nat.add_assoc]
inductive RelP (ν : Nat → Nat) (w : World) (S : Nat → Prop) : PV → Value → Prop
 | int (k n) : RelP ν w S (.int k n) (.int k n)
 | bool (b) : RelP ν w S (.bool b) (.bool b)
 | str (s) : RelP ν w S (.str s) (.string ⟨s.toArray⟩)
 | nilp : RelP ν w S .nilp (.pointer none)
 | nilfn : RelP ν w S .nilfn .nilFunc
 | nilmap : RelP ν w S .nilmap (.map none)
 | clo (f cs us) : us.size = cs.length → (∀ c ∈ cs,c.one = true) → (∀ j c,cs[j]? = some c → RelP ν w S c (us.getD j undef)) → RelP ν w S (.clo f cs) (.func (.func (ν f)) #[] us)
 | sl (k sz xs a cap) (us : Nat → Nat → Value) : xs.length ≤ cap → cap ≤ maxLen → (∀ x ∈ xs,x.cells.length = sz ∧ ∀ c ∈ x.cells,c.one = true) →
   (k = .nil ∨ a = none → xs = [] ∧ a = none ∧ cap = 0) → (k = .tight ∨ k = .mem → a.isSome = true ∧ (k = .tight → cap = xs.length)) →
   (xs ≠ [] → ∃ ad,a = some ad ∧ S ad.block) →
   (∀ ad,a = some ad → ∀ i x j c,xs[i]? = some x → x.cells[j]? = some c → w.cell? (ad.add (i * sz + j)) = some (us i j)) →
   (∀ i x j c,xs[i]? = some x → x.cells[j]? = some c → RelP ν w S c (us i j)) → RelP ν w S (.sl k sz xs) (.slice a xs.length cap)
 | ptr (cells ad) (us : Nat → Value) : cells ≠ [] → S ad.block → (∀ c ∈ cells,c.one = true) → (∀ j c,cells[j]? = some c → w.cell? (ad.add j) = some (us j)) →
   (∀ j c,cells[j]? = some c → RelP ν w S c (us j)) → RelP ν w S (.ptr cells) (.pointer (some ad))
 | agg (cs us) : us.size = cs.length → (∀ c ∈ cs,c.one = true) → (∀ j c,cs[j]? = some c → RelP ν w S c (us.getD j undef)) → RelP ν w S (.agg cs) (.agg us)
def au : Value → Option Nat
 | .slice (some a) _ cap => if cap = 0 then none else some a.block
 | .pointer (some a) => some a.block
 | _ => none
def FrOk (sz cap : Nat) (fr : Nat × Nat) : Prop := fr = (0,0) ∨ (sz = 1 ∧ cap ≤ fr.1)
def tw (w : World) (g : Nat) (cur : Array Value) (e : Go.TypeId) (sz cap : Nat) : Prop := ∃ fr,w.heap[g]? = some (.cells cur e fr) ∧ FrOk sz cap fr
def RowAt (w : World) (v : Value) (sz n : Nat) (us : List Value) : Prop :=
 us.length = n * sz ∧ ((n = 0 ∧ ∃ a,v = .slice a 0 0) ∨
  ∃ g cap cur e,v = .slice (some ⟨g,0,none⟩) n cap ∧ 0 < cap ∧ tw w g cur e sz cap ∧ n ≤ cap ∧ cap ≤ maxLen ∧ cur.size = cap * sz ∧ cur.toList.take (n * sz) = us)
def ElAt (m : Value) (sz n i off : Nat) (u : Value) : Prop :=
 (i < n → ∃ g cap,m = .slice (some ⟨g,0,none⟩) n cap ∧ u = .pointer (some ⟨g,i * sz + off,none⟩)) ∧
 (n ≤ i → i - n < n → i - n ≤ off → off ≤ n → ∃ g cap,m = .slice (some ⟨g,0,none⟩) n cap ∧ u = .slice (some ⟨g,(i - n) * sz,none⟩) (off - (i - n)) (cap - (i - n)))
inductive RelV (ν : Nat → Nat) (w : World) (S : Nat → Prop) (μ : Nat → Value) (H : Heap) : AV → Value → Prop
 | p (v u) : RelP ν w S v u → RelV ν w S μ H (.p v) u
 | own (id n u) : id < H.length → (∀ f sz xs,H[id]? = some (.row f sz xs) → n ≤ xs.length ∧ (n = xs.length → u = μ id)) → u.oneCell' = true → RelV ν w S μ H (.own id n) u
 | bx (id off g u) : id < H.length → (∀ cs,H[id]? = some (.box cs) → μ id = .pointer (some ⟨g,0,none⟩)) → u = .pointer (some ⟨g,off,none⟩) → RelV ν w S μ H (.bx id off) u
 | el (id n i off u) : id < H.length → (∀ f sz xs,H[id]? = some (.row f sz xs) → n ≤ xs.length ∧ (n = xs.length → ElAt (μ id) sz n i off u)) →
   u.oneCell' = true → RelV ν w S μ H (.el id n i off) u
 | mp (id g u) : id < H.length → (∀ cs,H[id]? = some (.box cs) → μ id = .pointer (some ⟨g,0,none⟩)) → u = .map (some g) → RelV ν w S μ H (.mp id) u
 | agg (cs us) : us.size = cs.length → (∀ c ∈ cs,c.one = true) → (∀ j c,cs[j]? = some c → RelV ν w S μ H c (us.getD j undef)) → RelV ν w S μ H (.agg cs) (.agg us)
 | tup (cs us) : us.size = cs.length → (∀ j c,cs[j]? = some c → RelV ν w S μ H c (us.getD j undef)) → RelV ν w S μ H (.tup cs) (.tuple us)
 | clo (f cs us) : us.size = cs.length → (∀ c ∈ cs,c.one = true) → (∀ j c,cs[j]? = some c → RelV ν w S μ H c (us.getD j undef)) → RelV ν w S μ H (.clo f cs) (.func (.func (ν f)) #[] us)
 | nov : RelV ν w S μ H .nov undef
 | any (u) : RelV ν w S μ H .any u
def BlkRel (ν : Nat → Nat) (w : World) (S : Nat → Prop) (μ : Nat → Value) (H : Heap) (id : Nat) : Blk → Prop
 | .box cells => ∃ g,μ id = .pointer (some ⟨g,0,none⟩) ∧ ((∃ cs t,w.heap[g]? = some (.cells cs t (0,0)) ∧ cs.size = cells.length ∧ (∀ c ∈ cells,c.one = true) ∧
   ∀ j c,cells[j]? = some c → RelV ν w S μ H c (cs.getD j undef)) ∨ (∃ s pos,cells = cv s pos ∧ w.heap[g]? = some (.stringIter ⟨s.toArray⟩ pos)) ∨
   ∃ es arr clock,cells = ah es ∧ w.heap[g]? = some (.map arr clock) ∧ Go.MapKept.Stamped arr clock ∧ arr.size = es.length ∧ ∀ (j : Nat) k v,es[j]? = some (k,v) → ∃ e,arr[j]? = some e ∧ RelP ν w S k e.key ∧ v.ok = true ∧ RelV ν w S μ H v e.val)
 | .row f sz xs => 0 < sz ∧ xs.length ≤ lim ∧ ∃ us,RowAt w (μ id) sz xs.length us ∧ (∀ x ∈ xs,x.cells.length = sz ∧ ∀ c ∈ x.cells,c.one = true) ∧
   (∀ i x j c,xs[i]? = some x → x.cells[j]? = some c → RelP ν w S c (us.getD (i * sz + j) undef)) ∧ (f = true → ∀ g,au (μ id) = some g → S g)
 | .dead => ∀ g,au (μ id) = some g → S g
def alive (μ : Nat → Value) (H : Heap) (g : Nat) : Prop :=
 ∃ id,au (μ id) = some g ∧ ((∃ cs,H[id]? = some (.box cs)) ∨ ∃ sz xs,H[id]? = some (.row false sz xs))
structure Rel (ν : Nat → Nat) (w : World) (S : Nat → Prop) (μ : Nat → Value) (H : Heap) : Prop where
 lt : ∀ g,S g → g < w.heap.size
 blk : ∀ id b,H[id]? = some b → BlkRel ν w S μ H id b
 apart : ∀ g,alive μ H g → ¬ S g
 inj : ∀ i j g,au (μ i) = some g → au (μ j) = some g → ((∃ cs,H[i]? = some (.box cs)) ∨ ∃ sz xs,H[i]? = some (.row false sz xs)) →
  ((∃ cs,H[j]? = some (.box cs)) ∨ ∃ sz xs,H[j]? = some (.row false sz xs)) → i = j
structure Ext (w : World) (S : Nat → Prop) (μ : Nat → Value) (H : Heap) (w' : World) (S' : Nat → Prop) (μ' : Nat → Value) (H' : Heap) : Prop where
 os : w'.os = w.os
 tape : w'.tape = w.tape
 output : w'.output = w.output
 size : w.heap.size ≤ w'.heap.size
 keep : ∀ g,g < w.heap.size → ¬ alive μ H g → w'.heap[g]? = w.heap[g]?
 more : ∀ g,S g → S' g
 new : ∀ g,S' g → g < w.heap.size → S g ∨ alive μ H g
 own : ∀ g,alive μ' H' g → g < w.heap.size → alive μ H g
theorem Ext.refl {w S μ H} : Ext w S μ H w S μ H := ⟨rfl,rfl,rfl,Nat.le_refl _,fun _ _ _ => rfl,fun _ h => h,fun _ h _ => .inl h,fun _ h _ => h⟩
theorem Ext.trans {w S μ H w1 S1 μ1 H1 w2 S2 μ2 H2} (a : Ext w S μ H w1 S1 μ1 H1) (b : Ext w1 S1 μ1 H1 w2 S2 μ2 H2) : Ext w S μ H w2 S2 μ2 H2 where
 os := b.os.trans a.os
 tape := b.tape.trans a.tape
 output := b.output.trans a.output
 size := Nat.le_trans a.size b.size
 keep g h1 h2 := (b.keep g (Nat.lt_of_lt_of_le h1 a.size) (fun h => h2 (a.own g h h1))).trans (a.keep g h1 h2)
 more g h := b.more g (a.more g h)
 new g h1 h2 := by
  rcases b.new g h1 (Nat.lt_of_lt_of_le h2 a.size) with h | h
  ·exact a.new g h h2
  ·exact .inr (a.own g h h2)
 own g h1 h2 := a.own g (b.own g h1 (Nat.lt_of_lt_of_le h2 a.size)) h2
theorem cC {w w' : World} {p : Addr} (h : w'.heap[p.block]? = w.heap[p.block]?) : w'.cell? p = w.cell? p := by
 unfold World.cell?
 rw [h]
theorem RelP.keep {ν : Nat → Nat} {w w' : World} {S S' : Nat → Prop} (hS : ∀ g,S g → S' g) (hw : ∀ g,S g → w'.heap[g]? = w.heap[g]?) {v u} (h : RelP ν w S v u) : RelP ν w' S' v u := by
 induction h with
 | int => exact .int _ _
 | bool => exact .bool _
 | str => exact .str _
 | nilp => exact .nilp
 | nilfn => exact .nilfn
 | nilmap => exact .nilmap
 | clo f cs us h1 h2 _ ih => exact .clo f cs us h1 h2 ih
 | sl k sz xs a cap us h1 h2 h3 h4 h5 h6 h7 _ ih =>
  refine .sl k sz xs a cap us h1 h2 h3 h4 h5 (fun hx => ?_) (fun ad hd i x j c hx hc => ?_) ih
  ·obtain ⟨ad,e,hs⟩ := h6 hx
   exact ⟨ad,e,hS _ hs⟩
  ·obtain ⟨ad',e,hs⟩ := h6 (by rintro rfl; simp at hx)
   rw [hd] at e
   cases e
   rw [← h7 ad hd i x j c hx hc]
   exact cC (hw _ (by rw [block_add]; exact hs))
 | ptr cells ad us h0 h1 h2 h3 _ ih =>
  refine .ptr cells ad us h0 (hS _ h1) h2 (fun j c hc => ?_) ih
  rw [← h3 j c hc]
  exact cC (hw _ (by rw [block_add]; exact h1))
 | agg cs us h1 h2 _ ih => exact .agg cs us h1 h2 ih
structure Moves (μ : Nat → Value) (H : Heap) (μ' : Nat → Value) (H' : Heap) : Prop where
 len : H.length ≤ H'.length
 row : ∀ id f sz xs,id < H.length → H'[id]? = some (.row f sz xs) → ∃ f0 xs0,H[id]? = some (.row f0 sz xs0) ∧ xs0.length ≤ xs.length ∧ (xs0.length = xs.length → μ' id = μ id)
 box : ∀ id cs,id < H.length → H'[id]? = some (.box cs) → ∃ cs0,H[id]? = some (.box cs0) ∧ μ' id = μ id
theorem RelV.keep {ν : Nat → Nat} {w w' : World} {S S' : Nat → Prop} {μ μ' : Nat → Value} {H H' : Heap} (hS : ∀ g,S g → S' g) (hw : ∀ g,S g → w'.heap[g]? = w.heap[g]?) (hm : Moves μ H μ' H')
  {v u} (h : RelV ν w S μ H v u) : RelV ν w' S' μ' H' v u := by
 induction h with
 | p v u h => exact .p v u (h.keep hS hw)
 | own id n u hl h h1 =>
  refine .own id n u (Nat.lt_of_lt_of_le hl hm.len) (fun f sz xs e => ?_) h1
  obtain ⟨f0,xs0,e0,hle,he⟩ := hm.row id f sz xs hl e
  obtain ⟨h2,h3⟩ := h f0 sz xs0 e0
  exact ⟨Nat.le_trans h2 hle,fun hn => by rw [he (by omega)]; exact h3 (by omega)⟩
 | bx id off g u hl h h1 =>
  refine .bx id off g u (Nat.lt_of_lt_of_le hl hm.len) (fun cs e => ?_) h1
  obtain ⟨cs0,e0,he⟩ := hm.box id cs hl e
  rw [he]
  exact h cs0 e0
 | el id n i off u hl h h1 =>
  refine .el id n i off u (Nat.lt_of_lt_of_le hl hm.len) (fun f sz xs e => ?_) h1
  obtain ⟨f0,xs0,e0,hle,he⟩ := hm.row id f sz xs hl e
  obtain ⟨h2,h3⟩ := h f0 sz xs0 e0
  exact ⟨Nat.le_trans h2 hle,fun hn => by rw [he (by omega)]; exact h3 (by omega)⟩
 | mp id g u hl h h1 =>
  refine .mp id g u (Nat.lt_of_lt_of_le hl hm.len) (fun cs e => ?_) h1
  obtain ⟨cs0,e0,he⟩ := hm.box id cs hl e
  rw [he]
  exact h cs0 e0
 | agg cs us h1 h2 _ ih => exact .agg cs us h1 h2 ih
 | tup cs us h1 _ ih => exact .tup cs us h1 ih
 | clo f cs us h1 h2 _ ih => exact .clo f cs us h1 h2 ih
 | nov => exact .nov
 | any u => exact .any u
theorem Moves.refl {μ H} : Moves μ H μ H := ⟨Nat.le_refl _,fun _ _ _ xs _ h => ⟨_,xs,h,Nat.le_refl _,fun _ => rfl⟩,fun _ cs _ h => ⟨cs,h,rfl⟩⟩
theorem PV.cells_one {v : PV} (h : v.one = true) : v.cells = [v] := by cases v <;> first | rfl | cases h
theorem RelP.one {ν w S v u} (h : RelP ν w S v u) : u.oneCell' = v.one := by cases h <;> rfl
theorem RelV.one {ν w S μ H v u} (h : RelV ν w S μ H v u) (h1 : v.one = true) : u.oneCell' = true := by
 cases h with
 | p v u h => rw [h.one]; exact h1
 | own _ _ _ _ _ h => exact h
 | bx _ _ _ _ _ _ h => subst h; rfl
 | el _ _ _ _ _ _ _ h => exact h
 | mp _ _ _ _ _ h => subst h; rfl
 | agg => cases h1
 | tup => cases h1
 | clo => rfl
 | nov => cases h1
 | any => cases h1
theorem RelP.cells {ν w S v u} (h : RelP ν w S v u) : u.cells.size = v.cells.length ∧ (∀ c ∈ v.cells,c.one = true) ∧ ∀ j c,v.cells[j]? = some c → RelP ν w S c (u.cells.getD j undef) := by
 cases h
 case agg cs us h1 h2 h3 => exact ⟨h1,h2,h3⟩
 all_goals
  refine ⟨rfl,fun c hc => ?_,fun j c hc => ?_⟩
  ·simp only [PV.cells,List.mem_singleton] at hc
   subst hc; rfl
  ·cases j with
   | zero =>
    simp only [PV.cells,List.getElem?_cons_zero,Option.some.injEq] at hc
    subst hc
    simp only [Value.cells]
    constructor <;> assumption
   | succ j => simp [PV.cells] at hc
theorem RelV.cells {ν w S μ H v u} (h : RelV ν w S μ H v u) (hok : v.ok = true) : u.cells.size = v.cells.length ∧ (∀ c ∈ v.cells,c.one = true) ∧ ∀ j c,v.cells[j]? = some c → RelV ν w S μ H c (u.cells.getD j undef) := by
 cases h with
 | p v u h =>
  obtain ⟨h1,h2,h3⟩ := h.cells
  refine ⟨by rw [h1]; simp [AV.cells],fun c hc => ?_,fun j c hc => ?_⟩
  ·simp only [AV.cells,List.mem_map] at hc
   obtain ⟨x,hx,rfl⟩ := hc
   exact h2 x hx
  ·simp only [AV.cells,List.getElem?_map,Option.map_eq_some_iff] at hc
   obtain ⟨x,hx,rfl⟩ := hc
   exact .p _ _ (h3 j x hx)
 | agg cs us h1 h2 h3 => exact ⟨h1,h2,h3⟩
 | tup => cases hok
 | nov => cases hok
 | any => cases hok
 | own id n u h1 h2 h3 =>
  have e : u.cells = #[u] := by cases u <;> first | rfl | cases h3
  rw [e]
  refine ⟨rfl,fun c hc => ?_,fun j c hc => ?_⟩
  ·simp only [AV.cells,List.mem_singleton] at hc; subst hc; rfl
  ·cases j with
   | zero => simp only [AV.cells,List.getElem?_cons_zero,Option.some.injEq] at hc; subst hc; exact .own _ _ _ h1 h2 h3
   | succ j => simp [AV.cells] at hc
 | bx id off g u h1 h2 h3 =>
  subst h3
  refine ⟨rfl,fun c hc => ?_,fun j c hc => ?_⟩
  ·simp only [AV.cells,List.mem_singleton] at hc; subst hc; rfl
  ·cases j with
   | zero => simp only [AV.cells,List.getElem?_cons_zero,Option.some.injEq] at hc; subst hc; exact .bx _ _ _ _ h1 h2 rfl
   | succ j => simp [AV.cells] at hc
 | el id n i off u h1 h2 h3 =>
  have e : u.cells = #[u] := by cases u <;> first | rfl | cases h3
  rw [e]
  refine ⟨rfl,fun c hc => ?_,fun j c hc => ?_⟩
  ·simp only [AV.cells,List.mem_singleton] at hc; subst hc; rfl
  ·cases j with
   | zero => simp only [AV.cells,List.getElem?_cons_zero,Option.some.injEq] at hc; subst hc; exact .el _ _ _ _ _ h1 h2 h3
   | succ j => simp [AV.cells] at hc
 | mp id g u h1 h2 h3 =>
  subst h3
  refine ⟨rfl,fun c hc => ?_,fun j c hc => ?_⟩
  ·simp only [AV.cells,List.mem_singleton] at hc; subst hc; rfl
  ·cases j with
   | zero => simp only [AV.cells,List.getElem?_cons_zero,Option.some.injEq] at hc; subst hc; exact .mp _ _ _ h1 h2 rfl
   | succ j => simp [AV.cells] at hc
 | clo f cs us h1 h2 h3 =>
  refine ⟨rfl,fun c hc => ?_,fun j c hc => ?_⟩
  ·simp only [AV.cells,List.mem_singleton] at hc; subst hc; rfl
  ·cases j with
   | zero => simp only [AV.cells,List.getElem?_cons_zero,Option.some.injEq] at hc; subst hc; exact .clo _ _ _ h1 h2 h3
   | succ j => simp [AV.cells] at hc
end Ab
