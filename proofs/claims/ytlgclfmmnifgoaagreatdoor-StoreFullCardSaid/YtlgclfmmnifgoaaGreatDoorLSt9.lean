import Derived.Test.YtlgclfmmnifgoaaGreatDoorLSt3
import Derived.Test.YtlgclfmmnifgoaaGreatDoorAbW2
import Derived.KernelRfl
namespace Ab
open Go (IntKind BinOp UnOp)
def spl (b : List UInt8) (at_ : Nat) (d : List UInt8) : List UInt8 := b.take at_ ++ d ++ b.drop (at_ + d.length)
theorem kX {b d : List UInt8} {a : Nat} (h : a + d.length ≤ b.length) : (spl b a d).length = b.length := by
 simp only [spl,List.length_append,List.length_take,List.length_drop]; omega
theorem splP {b d : List UInt8} {a : Nat} : cz (ae b) a (ae d) = ae (spl b a d) := by
 simp only [cz,spl,xz,xw,sH,ar]
def chgC (s : List UInt8) (b : List UInt8) : PV := .agg [.int .i64 0,.str s,.int .i64 0,.sl .any 1 (ae b)]
def chgW (s : List UInt8) (a : Nat) (d : List UInt8) : PV := .agg [.int .i64 1,.str s,.int .i64 (a : Int),.sl .any 1 (ae d)]
mutual
theorem vz : ∀ a : PV,eqP a a = true
 | .int _ _ => by simp [eqP]
 | .bool _ => by simp [eqP]
 | .str _ => by simp [eqP]
 | .nilp => rfl
 | .nilfn => rfl
 | .nilmap => rfl
 | .clo _ xs => by simp [eqP,fO xs]
 | .sl _ _ xs => by simp [eqP,fO xs]
 | .ptr xs => by simp [eqP,fO xs]
 | .agg xs => by simp [eqP,fO xs]
theorem fO : ∀ a : List PV,eqPs a a = true
 | [] => rfl
 | a :: r => by simp [eqPs,vz a,fO r]
end
mutual
theorem eqA_refl : ∀ a : AV,eqA a a = true
 | .p x => by simp [eqA,vz x]
 | .own _ _ => by simp [eqA]
 | .bx _ _ => by simp [eqA]
 | .el _ _ _ _ => by simp [eqA]
 | .mp _ => by simp [eqA]
 | .nov => rfl
 | .any => rfl
 | .agg xs => by simp [eqA,eU xs]
 | .tup xs => by simp [eqA,eU xs]
 | .clo _ xs => by simp [eqA,eU xs]
theorem eU : ∀ a : List AV,eqAs a a = true
 | [] => rfl
 | a :: r => by simp [eqAs,eqA_refl a,eU r]
end
theorem eqB_refl : ∀ a : Blk,eqB a a = true
 | .box cs => by simp [eqB,eU cs]
 | .row _ _ xs => by simp [eqB,fO xs]
 | .dead => rfl
theorem uW : ∀ (H G : Heap),preB H (H ++ G) = true
 | [],_ => rfl
 | b :: H,G => by simp [preB,eqB_refl b,uW H G]
theorem wq {H H' : Heap} (h : Ext0 H H') : preB H H' = true := by
 have e : H' = H ++ H'.drop H.length := by
  conv => lhs; rw [← List.take_append_drop H.length H']
  congr 1
  apply List.ext_getElem?
  intro i
  rw [List.getElem?_take]
  by_cases hi : i < H.length
  ·rw [if_pos hi]; exact h.2 i hi
  ·rw [if_neg hi,List.getElem?_eq_none (by omega)]
 rw [e]
 exact uW _ _
theorem fH {H : Heap} {i : Nat} {x y : AV} {r : List AV} (h : H[i]? = some (.box (x :: y :: r))) : eV H H i = true := by
 unfold eV
 rw [h]
 simp [eU,Bi]
theorem set_same {H : Heap} {i : Nat} {b : Blk} (h : H[i]? = some b) : H.set i b = H := by
 apply List.ext_getElem?
 intro j
 by_cases e : i = j
 ·subst e; rw [List.getElem?_set_self (List.getElem?_eq_some_iff.1 h).1,h]
 ·rw [List.getElem?_set_ne e]
theorem uY {H : Heap} {id i n : Nat} {k : List UInt8} : rx H .str (.mp id) (.p (.str k)) (.own i n) = (mapK H[id]?).bind fun es => msK H id (mput (.str k) (.own i n) es) := qz rfl
section
variable {F Pd M room : Nat} {Z : Nat → Prop} {H0 H : Heap} {l : Fl} {c : Nat} {s : List UInt8}
theorem ul (h : FsS F Pd M room Z H0 l c H) (b : List UInt8) (hb : b.length ≤ 1000000) (hne : b ≠ []) :
  ∃ H',resW Γ 543 [.bx F 0,.p (chgC s b)] H = some ([],H') ∧ FsS F Pd M room Z H0 (fput s b l) c H' ∧ SinceB (fun i => i = Pd ∨ i = M) H H' := by
 obtain ⟨es,hm,hf,hz⟩ := h.m
 obtain ⟨ch,m2,hp,hc⟩ := h.p
 obtain ⟨n1,n2,n3⟩ := h.ne
 have hF := h.f
 have hFl := (List.getElem?_eq_some_iff.1 hF).1
 have hMl := (List.getElem?_eq_some_iff.1 hm).1
 have hPl := (List.getElem?_eq_some_iff.1 hp).1
 have hcl := oa (k := SK.any) (by decide) b hb hne
 have hS : Since (fun i => i = Pd ∨ i = M) H (H ++ [.row false 1 (ae b)]) := Since.app _ _
 obtain ⟨es',e1,e2⟩ := FilesR.put (s := s) (show (H ++ [Blk.row false 1 (ae b)])[H.length]? = some (.row false 1 (ae b)) by simp) (hf.since hS)
 have hm' : (H ++ [Blk.row false 1 (ae b)])[M]? = some (.box (ah es)) := by rw [List.getElem?_append_left hMl]; exact hm
 have hS2 : Since (fun i => i = Pd ∨ i = M) H ((H ++ [Blk.row false 1 (ae b)]).set M (.box (ah es'))) := hS.set (.inl ⟨.inr rfl,_,hm'⟩)
 refine ⟨_,?_,⟨?_,⟨es',List.getElem?_set_self (by simp; omega),e2.since ((Since.refl _).set (.inl ⟨.inr rfl,_,hm'⟩) : Since (fun i => i = Pd ∨ i = M) _ _),NoZ.put (fun e => by have := h.zlt _ e; omega) hz e1⟩,fun i hi => Nat.lt_of_lt_of_le (h.zlt i hi) hS2.len,⟨ch,m2,?_,hc.keep hS2⟩,h.since.trans hS2⟩,(SinceB.app _ _).set (.inl ⟨.inr rfl,_,hm'⟩)⟩
 ·refine ab (fn := ce) rfl rfl ?_
  have dF : decide (F < H.length) = true := decide_eq_true hFl
  simp(disch:=first|assumption|omega|decide|(simp only[lens]<;>omega)|fail)only[go_sem,ce,chgC,hF,hcl,hm',e1,dF,kpO_t,uY,Nat.add_zero]
 ·rw [List.getElem?_set_ne n2.symm,List.getElem?_append_left hFl]; exact hF
 ·rw [List.getElem?_set_ne n3.symm,List.getElem?_append_left hPl]; exact hp
theorem tW (h : FsS F Pd M room Z H0 l c H) {b : List UInt8} (hg : fget s l = some b) (hb : b.length ≤ 1000000) (hne : b ≠ []) (a : Nat) (d : List UInt8) (hd : a + d.length ≤ b.length) (ha : a < b.length) :
  ∃ H',resW Γ 543 [.bx F 0,.p (chgW s a d)] H = some ([],H') ∧ FsS F Pd M room Z H0 (fput s (spl b a d) l) c H' ∧ SinceB (fun i => i = Pd ∨ i = M) H H' := by
 obtain ⟨es,hm,hf,hz⟩ := h.m
 obtain ⟨ch,m2,hp,hc⟩ := h.p
 obtain ⟨n1,n2,n3⟩ := h.ne
 have hF := h.f
 have hFl := (List.getElem?_eq_some_iff.1 hF).1
 have hMl := (List.getElem?_eq_some_iff.1 hm).1
 have hPl := (List.getElem?_eq_some_iff.1 hp).1
 rcases hf.find (s := s) with ⟨e,_⟩ | ⟨b',id,f,e,e2,e3⟩
 ·rw [hg] at e; cases e
 rw [hg] at e; cases e
 have hidl := (List.getElem?_eq_some_iff.1 e3).1
 have hcl := ue (f := f) b hb hne
 have hl := @ar b
 have hld := @ar d
 have hsl := kX hd
 have hS : Since (fun i => i = Pd ∨ i = M) H (H ++ [.row false 1 (ae (spl b a d))]) := Since.app _ _
 obtain ⟨es',e1,e5⟩ := FilesR.put (s := s) (show (H ++ [Blk.row false 1 (ae (spl b a d))])[H.length]? = some (.row false 1 (ae (spl b a d))) by simp) (hf.since hS)
 rw [hsl] at e1
 have hm' : (H ++ [Blk.row false 1 (ae (spl b a d))])[M]? = some (.box (ah es)) := by rw [List.getElem?_append_left hMl]; exact hm
 have hF' : (H ++ [Blk.row false 1 (ae (spl b a d))])[F]? = some (.box [.bx Pd 0,.p (.int .i64 (room : Int)),.mp M]) := by rw [List.getElem?_append_left hFl]; exact hF
 have hS2 : Since (fun i => i = Pd ∨ i = M) H ((H ++ [Blk.row false 1 (ae (spl b a d))]).set M (.box (ah es'))) := hS.set (.inl ⟨.inr rfl,_,hm'⟩)
 refine ⟨_,?_,⟨?_,⟨es',List.getElem?_set_self (by simp; omega),e5.since ((Since.refl _).set (.inl ⟨.inr rfl,_,hm'⟩) : Since (fun i => i = Pd ∨ i = M) _ _),NoZ.put (fun e => by have := h.zlt _ e; omega) hz e1⟩,fun i hi => Nat.lt_of_lt_of_le (h.zlt i hi) hS2.len,⟨ch,m2,?_,hc.keep hS2⟩,h.since.trans hS2⟩,(SinceB.app _ _).set (.inl ⟨.inr rfl,_,hm'⟩)⟩
 ·have dF : decide (F < H.length) = true := decide_eq_true hFl
  have st : jW Γ 1 525 = true := rfl
  have w1 : gF (H ++ [Blk.row false 1 (ae b)]) 1 (.own H.length b.length) (some (.p (.int .i64 (a : Int)))) none = some (.el H.length b.length (b.length + a) b.length) := by
   have r1 : rowOf (H ++ [Blk.row false 1 (ae b)]) H.length b.length = some (1,ae b) := by simp [rowOf,hl]
   simp only [gF,r1,Option.bind_some,if_true,bound]
   rw [if_pos ⟨by omega,by omega⟩]
   simp only [Option.bind_some,Int.toNat_natCast]
   rw [if_pos ha]
  have g1 : (H ++ [Blk.row false 1 (ae b)])[H.length]? = some (.row false 1 (ae b)) := by simp
  have ha' : a ≤ b.length := by omega
  have t1 : List.take (b.length - a) (ae d) = ae d := List.take_of_length_le (by omega)
  have w2 : ey (H ++ [Blk.row false 1 (ae b)]) 1 (.p (.sl .any 1 (ae d))) = some (ae d) := by simp [ey,elemsOf]
  refine ab (fn := ce) rfl rfl ?_
  have hss := set_same e3
  simp(disch:=first|assumption|omega|decide|(simp only[lens]<;>omega)|fail)only[go_sem,ce,chgW,hF,hm,e2,e3,st,hcl,hss,j0,w1,w2,Nat.add_zero,Nat.le_add_right,Nat.add_sub_cancel_left,ha,ha',Nat.le_refl,g1,hl,t1,splP,hm',hF',e1,uY]
 ·rw [List.getElem?_set_ne n2.symm,List.getElem?_append_left hFl]; exact hF
 ·rw [List.getElem?_set_ne n3.symm,List.getElem?_append_left hPl]; exact hp
theorem wF : an Γ 543 = true := rfl
theorem zC {l' : Fl} (h : FsS F Pd M room Z H0 l c H) (x0 x1 x2 x3 : PV) (h0 : x0.one = true) (h1 : x1.one = true) (h2 : x2.one = true) (h3 : x3.one = true) (hcc : c ≤ 1000)
  (hap : ∀ H1,FsS F Pd M room Z H0 l c H1 → ∃ H',resW Γ 543 [.bx F 0,.p (.agg [x0,x1,x2,x3])] H1 = some ([],H') ∧ FsS F Pd M room Z H0 l' c H' ∧ SinceB (fun i => i = Pd ∨ i = M) H1 H') :
  ∃ H',resW Γ 531 [.bx F 0,.p (.agg [x0,x1,x2,x3])] H = some ([],H') ∧ FsS F Pd M room Z H0 l' (c + 1) H' ∧ SinceB (fun i => i = Pd ∨ i = M) H H' := by
 have hk := h.keep (Since.app H [.box [.p x0,.p x1,.p x2,.p x3]])
 obtain ⟨H2,a1,a2,a3⟩ := hap _ hk
 obtain ⟨n1,n2,n3⟩ := a2.ne
 have hF := a2.f
 obtain ⟨ch,m2,hp,hc⟩ := a2.p
 have hPl := (List.getElem?_eq_some_iff.1 hp).1
 have hFl := (List.getElem?_eq_some_iff.1 hF).1
 have hF0l := (List.getElem?_eq_some_iff.1 h.f).1
 have hP0l : Pd < H.length := by obtain ⟨_,_,q,_⟩ := h.p; exact (List.getElem?_eq_some_iff.1 q).1
 have hM0l : M < H.length := by obtain ⟨_,q,_⟩ := h.m; exact (List.getElem?_eq_some_iff.1 q).1
 have hbx : H2[H.length]? = some (.box [.p x0,.p x1,.p x2,.p x3]) := a3.box H.length _ (by simp) (by omega)
 have hS1 : SinceB (fun i => i = Pd ∨ i = M) H H2 := (SinceB.app H _).trans a3
 have c0 : x0.cells = [x0] := by cases x0 <;> first | rfl | cases h0
 have c1 : x1.cells = [x1] := by cases x1 <;> first | rfl | cases h1
 have c2 : x2.cells = [x2] := by cases x2 <;> first | rfl | cases h2
 have c3 : x3.cells = [x3] := by cases x3 <;> first | rfl | cases h3
 have dF : decide (F < H2.length) = true := decide_eq_true hFl
 have len1 : ∀ G : Heap,H2.length < (H2 ++ [Blk.row false 4 [PV.agg [x0,x1,x2,x3]]]).length := by simp
 rcases hc with ⟨hc0,rfl⟩ | ⟨id,xs,rfl,hB,hrow,hpos,hle⟩
 ·have hS2 : Since (fun i => i = Pd ∨ i = M) H2 ((H2 ++ [Blk.row false 4 [PV.agg [x0,x1,x2,x3]]]).set Pd (.box [.own H2.length 1,.mp m2])) :=
   (Since.app _ _).set (.inl ⟨.inl rfl,_,by rw [List.getElem?_append_left hPl]; exact hp⟩)
  have hp' : (H2 ++ [Blk.row false 4 [PV.agg [x0,x1,x2,x3]]])[Pd]? = some (.box [.p (.sl .nil 4 []),.mp m2]) := by rw [List.getElem?_append_left hPl]; exact hp
  refine ⟨_,?_,⟨?_,?_,fun i hi => Nat.lt_of_lt_of_le (a2.zlt i hi) hS2.len,⟨.own H2.length 1,m2,List.getElem?_set_self (by simp; omega),.inr ⟨H2.length,[PV.agg [x0,x1,x2,x3]],rfl,a2.since.len,?_,by simp,by simp⟩⟩,a2.since.trans hS2⟩,hS1.trans ((SinceB.app _ _).set (.inl ⟨.inl rfl,_,hp'⟩))⟩
  ·refine ab (fn := dK) rfl rfl ?_
   simp(disch:=first|assumption|omega|decide|(simp only[lens]<;>omega)|fail)only[go_sem,dK,wF,bE,a1,hF,hp,hbx,hp']
  ·rw [List.getElem?_set_ne n1.symm,List.getElem?_append_left hFl]; exact hF
  ·obtain ⟨es,hm,hf,hz⟩ := a2.m
   have hMl := (List.getElem?_eq_some_iff.1 hm).1
   exact ⟨es,by rw [List.getElem?_set_ne n3,List.getElem?_append_left hMl]; exact hm,hf.since hS2,hz⟩
  ·rw [List.getElem?_set_ne (by omega)]; simp
 ·have hidl := (List.getElem?_eq_some_iff.1 hrow).1
  have iP : id ≠ Pd := fun e => by rw [e,hp] at hrow; cases hrow
  have iF : id ≠ F := fun e => by rw [e,hF] at hrow; cases hrow
  have iM : id ≠ M := fun e => by
   obtain ⟨es,hm,_,_⟩ := a2.m
   rw [e,hm] at hrow; cases hrow
  have hp' : (H2.set id (Blk.row false 4 (xs ++ [PV.agg [x0,x1,x2,x3]])))[Pd]? = some (.box [.own id xs.length,.mp m2]) := by rw [List.getElem?_set_ne iP]; exact hp
  have happ : aW H2 4 (.own id xs.length) [PV.agg [x0,x1,x2,x3]] = some (.own id (xs.length + 1),H2.set id (Blk.row false 4 (xs ++ [PV.agg [x0,x1,x2,x3]]))) := by
   rw [app_own hrow rfl (by simp only [List.length_cons,List.length_nil]; omega)]
   rfl
  have s1 : Since (fun i => i = Pd ∨ i = M) H0 (H2.set id (Blk.row false 4 (xs ++ [PV.agg [x0,x1,x2,x3]]))) := a2.since.set (.inr hB)
  have s2 : Since (fun i => i = Pd ∨ i = M) H0 ((H2.set id (Blk.row false 4 (xs ++ [PV.agg [x0,x1,x2,x3]]))).set Pd (.box [.own id (xs.length + 1),.mp m2])) := s1.set (.inl ⟨.inl rfl,_,hp'⟩)
  have s3 : SinceB (fun i => i = Pd ∨ i = M) H ((H2.set id (Blk.row false 4 (xs ++ [PV.agg [x0,x1,x2,x3]]))).set Pd (.box [.own id (xs.length + 1),.mp m2])) := (hS1.set (.inr ⟨_,_,hrow⟩)).set (.inl ⟨.inl rfl,_,hp'⟩)
  have s4 : SinceB (fun i => i = Pd ∨ i = M) H2 ((H2.set id (Blk.row false 4 (xs ++ [PV.agg [x0,x1,x2,x3]]))).set Pd (.box [.own id (xs.length + 1),.mp m2])) := ((SinceB.refl H2).set (.inr ⟨_,_,hrow⟩)).set (.inl ⟨.inl rfl,_,hp'⟩)
  refine ⟨_,?_,⟨?_,?_,fun i hi => Nat.lt_of_lt_of_le (a2.zlt i hi) s4.len,⟨.own id (xs.length + 1),m2,List.getElem?_set_self (by simp; omega),.inr ⟨id,xs ++ [PV.agg [x0,x1,x2,x3]],by simp,hB,?_,by simp,by simp; omega⟩⟩,s2⟩,s3⟩
  ·have hm1 : xs.length + 1 ≤ 1073741824 := by omega
   refine ab (fn := dK) rfl rfl ?_
   simp(disch:=first|assumption|omega|decide|(simp only[lens]<;>omega)|fail)only[go_sem,dK,wF,bE,a1,hF,hp,hbx,hp',happ]
   done
  ·rw [List.getElem?_set_ne n1.symm,List.getElem?_set_ne iF]; exact hF
  ·obtain ⟨es,hm,hf,hz⟩ := a2.m
   exact ⟨es,by rw [List.getElem?_set_ne n3,List.getElem?_set_ne iM]; exact hm,hf.sinceB s4,hz⟩
  ·rw [List.getElem?_set_ne iP.symm,List.getElem?_set_self hidl]
end
end Ab
namespace Ab
open Go (IntKind BinOp UnOp)
section
variable {F Pd M room : Nat} {Z : Nat → Prop} {H0 H : Heap} {l : Fl} {c : Nat} {s : List UInt8}
theorem vN : an Γ 531 = true := rfl
theorem kF : an Γ 533 = true := rfl
theorem still514 : an Γ 514 = true := rfl
theorem resW_hi {f : Nat} {g : HiFn} {args rs : List AV} {H H' : Heap} (hf : Γ.fn f = some (.hi g)) (h : ∀ c,g.go c args H = some (rs,H')) : resW Γ f args H = some (rs,H') := by
 refine jz ⟨0,?_⟩
 unfold callOf
 rw [hf]
 exact h _
theorem zx (h : FsS F Pd M room Z H0 l c H) (h1 : 1 ≤ s.length) (h2 : s.length ≤ 255) (hg : fget s l = none) {k k1 k2 : SK} (b d : List UInt8) (hb : b.length ≤ 100000) (hd : d.length ≤ 100000) (hne : b ≠ []) (hc : c ≤ 1000)
  (hr : room ≤ 1000000000) (hu : used l + (b.length + d.length) ≤ room) :
  ∃ H',resW Γ 512 [.bx F 0,.p (.str s),.p (.sl k 1 [.sl k1 1 (ae b),.sl k2 1 (ae d)])] H = some ([.p (.int .i64 0)],H') ∧ FsS F Pd M room Z H0 (fput s (b ++ d) l) (c + 1) H' ∧ SinceB (fun i => i = Pd ∨ i = M) H H' := by
 have hne2 : b ++ d ≠ [] := by simp [hne]
 obtain ⟨H',a1,a2,a3⟩ := zC h (.int .i64 0) (.str s) (.int .i64 0) (.sl .any 1 (ae (b ++ d))) rfl rfl rfl rfl hc (fun H1 hh => ul hh (b ++ d) (by simp; omega) hne2)
 refine ⟨H',?_,a2,a3⟩
 obtain ⟨es,hm,hf,hz⟩ := h.m
 rcases hf.find (s := s) with ⟨_,e2⟩ | ⟨b',id,f,e,_⟩
 rotate_left
 ·rw [hg] at e; cases e
 have hF := h.f
 have hn := jR s h1 h2
 have ht := pC (k := k) (k1 := k1) (k2 := k2) b d (by omega) (by omega)
 have hj := yg (k := k) (k1 := k1) (k2 := k2) b d (by omega) (by omega)
 have hus := pL h (by omega)
 have hk := fH hF
 refine ab (fn := cH) rfl rfl ?_
 simp(disch:=first|assumption|omega|decide|(simp only[lens]<;>omega)|fail)only[go_sem,cH,hF,hn,hm,e2,ht,hj,hus,hk,kF,vN,a1]
theorem ql (h : FsS F Pd M room Z H0 l c H) (h1 : 1 ≤ s.length) (h2 : s.length ≤ 255) (hg : fget s l = none) {k k1 k2 : SK} (b d : List UInt8) (hb : b.length ≤ 100000) (hd : d.length ≤ 100000)
  (hr : room ≤ 1000000000) (hul : used l ≤ 1000000000) (hu : room < used l + (b.length + d.length)) :
  resW Γ 512 [.bx F 0,.p (.str s),.p (.sl k 1 [.sl k1 1 (ae b),.sl k2 1 (ae d)])] H = some ([.p (.int .i64 4)],H) := by
 obtain ⟨es,hm,hf,hz⟩ := h.m
 rcases hf.find (s := s) with ⟨_,e2⟩ | ⟨b',id,f,e,_⟩
 rotate_left
 ·rw [hg] at e; cases e
 have hF := h.f
 have hn := jR s h1 h2
 have ht := pC (k := k) (k1 := k1) (k2 := k2) b d (by omega) (by omega)
 have hus := pL h (by omega)
 have hk := fH hF
 refine ab (fn := cH) rfl rfl ?_
 simp(disch:=first|assumption|omega|decide|(simp only[lens]<;>omega)|fail)only[go_sem,cH,hF,hn,hm,e2,ht,hus,hk,kF]
theorem fs_write (h : FsS F Pd M room Z H0 l c H) (h1 : 1 ≤ s.length) (h2 : s.length ≤ 255) {b : List UInt8} (hg : fget s l = some b) (hb : b.length ≤ 100000) (hne : b ≠ []) {k k1 : SK} (a : Nat) (d : List UInt8) (hd : a + d.length ≤ b.length) (ha : a < b.length) (hc : c ≤ 1000) :
  ∃ H',resW Γ 539 [.bx F 0,.p (.str s),.p (.int .i64 (a : Int)),.p (.sl k 1 [.sl k1 1 (ae d)])] H = some ([.p (.int .i64 0)],H') ∧ FsS F Pd M room Z H0 (fput s (spl b a d) l) (c + 1) H' ∧ SinceB (fun i => i = Pd ∨ i = M) H H' := by
 obtain ⟨H',a1,a2,a3⟩ := zC h (.int .i64 1) (.str s) (.int .i64 (a : Int)) (.sl .any 1 (ae d)) rfl rfl rfl rfl hc (fun H1 hh => tW hh hg (by omega) hne a d hd ha)
 refine ⟨H',?_,a2,a3⟩
 obtain ⟨id,f,e1,e2⟩ := tH h h1 h2 hg
 have ht := w7 (k := k) (k1 := k1) d (by omega)
 have hj := wZ (k := k) (k1 := k1) d (by omega)
 have hl := @ar b
 refine ab (fn := dY) rfl rfl ?_
 simp(disch:=first|assumption|omega|decide|(simp only[lens]<;>omega)|fail)only[go_sem,dY,qC,e1,e2,ht,hj,vN,a1]
theorem Bg (h : FsS F Pd M room Z H0 l c H) : ∃ H',resW Γ 494 [.bx F 0] H = some ([],H') ∧ FsS F Pd M room Z H0 l 0 H' ∧ SinceB (fun i => i = Pd ∨ i = M) H H' := by
 obtain ⟨es,hm,hf,hz⟩ := h.m
 obtain ⟨ch,m2,hp,hc⟩ := h.p
 obtain ⟨n1,n2,n3⟩ := h.ne
 have hF := h.f
 have hFl := (List.getElem?_eq_some_iff.1 hF).1
 have hMl := (List.getElem?_eq_some_iff.1 hm).1
 have hPl := (List.getElem?_eq_some_iff.1 hp).1
 have hF' : (H ++ [Blk.box (ah es)])[F]? = some (.box [.bx Pd 0,.p (.int .i64 (room : Int)),.mp M]) := by rw [List.getElem?_append_left hFl]; exact hF
 have hk : eV H (H ++ [Blk.box (ah es)]) F = true := by
  unfold eV
  rw [hF,hF']
  simp [eU,Bi]
 have hcl : resW Γ 514 [.mp M] H = some ([.mp H.length],H ++ [Blk.box (ah es)]) := by
  refine resW_hi (g := p8) rfl fun c => ?_
  show (mapOf H M).map _ = _
  unfold mapOf
  rw [hm]
  show (jD (ef es)).map _ = _
  rw [pD]
  rfl
 have hp' : (H ++ [Blk.box (ah es)])[Pd]? = some (.box [ch,.mp m2]) := by rw [List.getElem?_append_left hPl]; exact hp
 have hb1 : ∀ r,boxK (some (.box (ch :: r))) = some (ch :: r) := by
  intro r
  rcases hc with ⟨_,rfl⟩ | ⟨id,xs,rfl,_⟩ <;> rfl
 have hpl : Pd < (H ++ [Blk.box (ah es)]).length := by simp; omega
 have hS2 : Since (fun i => i = Pd ∨ i = M) H ((H ++ [Blk.box (ah es)]).set Pd (.box [.p (.sl .nil 4 []),.mp H.length])) :=
  (Since.app _ _).set (.inl ⟨.inl rfl,_,hp'⟩)
 refine ⟨_,?_,⟨?_,⟨es,?_,hf.since hS2,hz⟩,fun i hi => Nat.lt_of_lt_of_le (h.zlt i hi) hS2.len,⟨.p (.sl .nil 4 []),H.length,List.getElem?_set_self hpl,.inl ⟨rfl,rfl⟩⟩,h.since.trans hS2⟩,(SinceB.app _ _).set (.inl ⟨.inl rfl,_,hp'⟩)⟩
 ·refine ab (fn := gE) rfl rfl ?_
  have hs1 : ∀ b,((H ++ [Blk.box (ah es)]).set Pd b)[Pd]? = some b := fun b => List.getElem?_set_self hpl
  simp(disch:=first|assumption|omega|decide|(simp only[lens]<;>omega)|fail)only[go_sem,gE,hF,still514,hcl,hk,hp',hb1,hs1,List.set_set]
 ·rw [List.getElem?_set_ne n1.symm]; exact hF'
 ·rw [List.getElem?_set_ne n3,List.getElem?_append_left hMl]; exact hm
end
end Ab
namespace Ab
open Go (IntKind BinOp UnOp)
def RunR (Γ : Ctx) (f : Nat) (ps rs : List PV) : Prop := ∃ n r,callOf Γ (ev Γ n) f (ps.map .p) [] = some r ∧ r.1.all (frR r.2) = true ∧ mapO (aq r.2 4) r.1 = some rs
theorem RunR_det {Γ : Ctx} {f : Nat} {ps rs rs' : List PV} (h : RunR Γ f ps rs) (h' : RunR Γ f ps rs') : rs = rs' := by
 obtain ⟨n,r,h1,_,h2⟩ := h
 obtain ⟨m,r',h3,_,h4⟩ := h'
 have e1 := ej (Nat.le_max_left n m) _ _ _ _ h1
 have e2 := ej (Nat.le_max_right n m) _ _ _ _ h3
 rw [e1] at e2
 cases e2
 rw [h2] at h4
 cases h4
 rfl
open Classical in
noncomputable def resR (Γ : Ctx) (f : Nat) (ps : List PV) : Option (List PV) := if h : ∃ rs,RunR Γ f ps rs then some h.choose else none
theorem Av {Γ f ps rs} (h : RunR Γ f ps rs) : resR Γ f ps = some rs := by
 have h' : ∃ rs,RunR Γ f ps rs := ⟨_,h⟩
 unfold resR
 rw [dif_pos h']
 exact congrArg some (RunR_det h'.choose_spec h)
theorem of_resR {Γ f ps rs} (h : resR Γ f ps = some rs) : RunR Γ f ps rs := by
 unfold resR at h
 split at h
 ·rename_i h'
  cases h
  exact h'.choose_spec
 ·cases h
noncomputable def crR (Γ : Ctx) (H : Heap) (f : AV) (args : List AV) : Option (List PV) := (callee f).bind fun fc => (mapO (aq H 4) (args ++ fc.2)).bind (resR Γ fc.1)
section
variable {Γ : Ctx} {env : Env} {H : Heap} {live : List Nat} {Q : Out → Prop} {r : List St} {dst : Option Nat}
theorem L_callr {f args} : WpL Γ (⟨dst,none,.inl (.callr f args)⟩ :: r) env H live Q ↔ opK Γ ((crR Γ H (Arg.ev Γ (look env) f) (args.map (Arg.ev Γ (look env)))).map fun rs => results (rs.map .p)) dst r env H live Q := by
 rw [L_of]
 unfold opK WpO
 constructor
 ·rintro ⟨n,h⟩
  dsimp only at h
  rw [aX] at h ⊢
  obtain ⟨v,h1,h2⟩ := h
  simp only [evQ,ma] at h1
  obtain ⟨rs,h3,rfl⟩ := Option.map_eq_some_iff.1 h1
  obtain ⟨fc,g1,h3⟩ := Option.bind_eq_some_iff.1 h3
  obtain ⟨ps,g2,h3⟩ := Option.bind_eq_some_iff.1 h3
  obtain ⟨q,g3,h3⟩ := Option.bind_eq_some_iff.1 h3
  obtain ⟨g4,g5⟩ := ifB_some.1 h3
  exact ⟨_,by simp only [crR,g1,g2,Option.bind_some,Av ⟨n,q,g3,g4,g5⟩,Option.map_some],h2⟩
 ·intro h
  rw [aX] at h
  obtain ⟨v,h1,h2⟩ := h
  obtain ⟨rs,h3,rfl⟩ := Option.map_eq_some_iff.1 h1
  simp only [crR] at h3
  obtain ⟨fc,g1,h3⟩ := Option.bind_eq_some_iff.1 h3
  obtain ⟨ps,g2,h3⟩ := Option.bind_eq_some_iff.1 h3
  obtain ⟨n,q,g3,g4,g5⟩ := of_resR h3
  refine ⟨n,?_⟩
  simp only [evQ,ma,g1,g2,g3,g4,g5,Option.bind_some,ifB,Option.map_some]
  exact h2
theorem L_mkt {sz ag zero n c} : WpL Γ (⟨dst,none,.inl (.mkt sz ag zero n c)⟩ :: r) env H live Q ↔ opK Γ (mktA sz ag zero (Arg.ev Γ (look env) n) (Arg.ev Γ (look env) c)) dst r env H live Q := L_of.trans (ek rfl)
theorem qx {sz ag zero k k' n} (h0 : 0 < n) (hm : n ≤ 1073741824) : mktA sz ag zero (.p (.int k n)) (.p (.int k' n)) = some (.p (.sl .any sz (List.replicate n.toNat (if ag then .agg zero else zero.headD .nilp)))) := by
 simp only [mktA]
 rw [if_pos ⟨by omega,trivial,by unfold lim; omega,h0⟩]
end
attribute [go_sem] L_callr L_mkt crR
theorem vj {Γ : Ctx} {f : Nat} {ps rs : List PV} (n : Nat) (h : ((callOf Γ (ev Γ n) f (ps.map .p) []).bind fun r => ifB (r.1.all (frR r.2)) (mapO (aq r.2 4) r.1)) = some rs) : resR Γ f ps = some rs := by
 obtain ⟨r,h1,h2⟩ := Option.bind_eq_some_iff.1 h
 obtain ⟨h3,h4⟩ := ifB_some.1 h2
 exact Av ⟨n,r,h1,h3,h4⟩
theorem aa {Γ : Ctx} {f : Nat} {ps rs : List PV} (n : Nat) (h : ((callOf Γ (ev Γ n) f (ps.map .p) []).bind fun r => mapO (aq r.2 4) r.1) = some rs) : res Γ f ps = some rs := by
 obtain ⟨r,h1,h2⟩ := Option.bind_eq_some_iff.1 h
 exact jl ⟨n,r,h1,h2⟩
end Ab
namespace Ab
open Go (IntKind BinOp UnOp)
def hdrB : List UInt8 := [0,0,0,1,0,0,0,60,0,7,161,32,0,0,0,1,0,0,0,28,0,0,0,1,0,0,0,60]
def arcP (k : SK) : PV := .sl k 2 [.agg [.int .i64 1,.int .i64 60]]
def hdrP (k : SK) : PV := .agg [.int .i64 1,.int .i64 500000,arcP k]
def aZ (p : List UInt8) : List UInt8 := hdrB ++ (List.replicate 468 0 ++ (p ++ List.replicate 240 0))
def atB : List UInt8 := [0,0,3,231]
def noB : List UInt8 := [0,0,0,0]
def valB (i : Nat) : List UInt8 := [0,0,0,0,0,0,0,UInt8.ofNat i]
theorem nG {k : SK} : res Γ 503 [hdrP k] = some [.int .i64 748] := aa 100 (by kernel_rfl)
theorem uf {k : SK} : res Γ 521 [hdrP k,.int .i64 0] = some [.int .i64 28] := aa 100 (by kernel_rfl)
theorem nE {k : SK} : resR Γ 513 [hdrP k] = some [.sl .any 1 (ae hdrB),.int .i64 0] := vj 200 (by kernel_rfl)
theorem sR {k : SK} (a b c d e f g h i j k' l : UInt8) : resR Γ 504 [.sl k 1 (ae (aZ [a,b,c,d,e,f,g,h,i,j,k',l]))] = some [hdrP .any,.int .i64 0] := vj 200 (by cases k <;> kernel_rfl)
theorem qm {k : SK} (a b c d e f g h i j k' l : UInt8) : res Γ 609 [.sl k 1 (ae (aZ [a,b,c,d,e,f,g,h,i,j,k',l]))] = some [hdrP .any,.int .i64 0] := aa 200 (by cases k <;> kernel_rfl)
theorem lN {k : SK} : res Γ 594 [hdrP k] = some [.sl .any 1 (ae hdrB),.int .i64 0] := aa 200 (by kernel_rfl)
theorem lq {k : SK} : res Γ 592 [hdrP k] = some [.int .i64 748] := aa 100 (by kernel_rfl)
theorem rN {k : SK} : res Γ 604 [hdrP k,.int .i64 0] = some [.int .i64 28] := aa 100 (by kernel_rfl)
theorem xW : res Γ 522 [.agg [.int .i64 1,.int .i64 60],.int .i64 999] = some [.int .i64 39] := aa 100 (by kernel_rfl)
theorem yD : res Γ 160 [.int .i64 999,.int .i64 1] = some [.int .i64 999] := aa 100 (by kernel_rfl)
theorem zS : res Γ 489 [.int .i64 1000] = some [.bool true] := aa 100 (by kernel_rfl)
theorem tI : res Γ 620 [.agg [.int .i64 1,.int .i64 60],.int .i64 999] = some [.int .i64 39] := aa 100 (by kernel_rfl)
theorem ob : res Γ 163 [.int .i64 999,.int .i64 1] = some [.int .i64 999] := aa 100 (by kernel_rfl)
theorem tu : ∀ (i : Nat),i < 30 → res Γ 143 [.int .i64 (i : Int)] = some [.agg [.bool true,.int .i64 (i : Int)]]
 | 0,_ => aa 100 (by kernel_rfl)
 | 1,_ => aa 100 (by kernel_rfl)
 | 2,_ => aa 100 (by kernel_rfl)
 | 3,_ => aa 100 (by kernel_rfl)
 | 4,_ => aa 100 (by kernel_rfl)
 | 5,_ => aa 100 (by kernel_rfl)
 | 6,_ => aa 100 (by kernel_rfl)
 | 7,_ => aa 100 (by kernel_rfl)
 | 8,_ => aa 100 (by kernel_rfl)
 | 9,_ => aa 100 (by kernel_rfl)
 | 10,_ => aa 100 (by kernel_rfl)
 | 11,_ => aa 100 (by kernel_rfl)
 | 12,_ => aa 100 (by kernel_rfl)
 | 13,_ => aa 100 (by kernel_rfl)
 | 14,_ => aa 100 (by kernel_rfl)
 | 15,_ => aa 100 (by kernel_rfl)
 | 16,_ => aa 100 (by kernel_rfl)
 | 17,_ => aa 100 (by kernel_rfl)
 | 18,_ => aa 100 (by kernel_rfl)
 | 19,_ => aa 100 (by kernel_rfl)
 | 20,_ => aa 100 (by kernel_rfl)
 | 21,_ => aa 100 (by kernel_rfl)
 | 22,_ => aa 100 (by kernel_rfl)
 | 23,_ => aa 100 (by kernel_rfl)
 | 24,_ => aa 100 (by kernel_rfl)
 | 25,_ => aa 100 (by kernel_rfl)
 | 26,_ => aa 100 (by kernel_rfl)
 | 27,_ => aa 100 (by kernel_rfl)
 | 28,_ => aa 100 (by kernel_rfl)
 | 29,_ => aa 100 (by kernel_rfl)
 | i + 30,h => absurd h (by omega)
theorem res_r1Is : ∀ (i : Nat),i < 30 → res Γ 120 [.agg [.bool true,.int .i64 (i : Int)]] = some [.bool true]
 | 0,_ => aa 100 (by kernel_rfl)
 | 1,_ => aa 100 (by kernel_rfl)
 | 2,_ => aa 100 (by kernel_rfl)
 | 3,_ => aa 100 (by kernel_rfl)
 | 4,_ => aa 100 (by kernel_rfl)
 | 5,_ => aa 100 (by kernel_rfl)
 | 6,_ => aa 100 (by kernel_rfl)
 | 7,_ => aa 100 (by kernel_rfl)
 | 8,_ => aa 100 (by kernel_rfl)
 | 9,_ => aa 100 (by kernel_rfl)
 | 10,_ => aa 100 (by kernel_rfl)
 | 11,_ => aa 100 (by kernel_rfl)
 | 12,_ => aa 100 (by kernel_rfl)
 | 13,_ => aa 100 (by kernel_rfl)
 | 14,_ => aa 100 (by kernel_rfl)
 | 15,_ => aa 100 (by kernel_rfl)
 | 16,_ => aa 100 (by kernel_rfl)
 | 17,_ => aa 100 (by kernel_rfl)
 | 18,_ => aa 100 (by kernel_rfl)
 | 19,_ => aa 100 (by kernel_rfl)
 | 20,_ => aa 100 (by kernel_rfl)
 | 21,_ => aa 100 (by kernel_rfl)
 | 22,_ => aa 100 (by kernel_rfl)
 | 23,_ => aa 100 (by kernel_rfl)
 | 24,_ => aa 100 (by kernel_rfl)
 | 25,_ => aa 100 (by kernel_rfl)
 | 26,_ => aa 100 (by kernel_rfl)
 | 27,_ => aa 100 (by kernel_rfl)
 | 28,_ => aa 100 (by kernel_rfl)
 | 29,_ => aa 100 (by kernel_rfl)
 | i + 30,h => absurd h (by omega)
theorem tD : ∀ (i : Nat),i < 30 → res Γ 540 [.agg [.int .i64 999,.int .i64 (i : Int)]] = some [.sl .tight 1 [.sl .any 1 (ae noB),.sl .any 1 (ae (valB i)),.sl .any 1 (ae atB)]]
 | 0,_ => aa 100 (by kernel_rfl)
 | 1,_ => aa 100 (by kernel_rfl)
 | 2,_ => aa 100 (by kernel_rfl)
 | 3,_ => aa 100 (by kernel_rfl)
 | 4,_ => aa 100 (by kernel_rfl)
 | 5,_ => aa 100 (by kernel_rfl)
 | 6,_ => aa 100 (by kernel_rfl)
 | 7,_ => aa 100 (by kernel_rfl)
 | 8,_ => aa 100 (by kernel_rfl)
 | 9,_ => aa 100 (by kernel_rfl)
 | 10,_ => aa 100 (by kernel_rfl)
 | 11,_ => aa 100 (by kernel_rfl)
 | 12,_ => aa 100 (by kernel_rfl)
 | 13,_ => aa 100 (by kernel_rfl)
 | 14,_ => aa 100 (by kernel_rfl)
 | 15,_ => aa 100 (by kernel_rfl)
 | 16,_ => aa 100 (by kernel_rfl)
 | 17,_ => aa 100 (by kernel_rfl)
 | 18,_ => aa 100 (by kernel_rfl)
 | 19,_ => aa 100 (by kernel_rfl)
 | 20,_ => aa 100 (by kernel_rfl)
 | 21,_ => aa 100 (by kernel_rfl)
 | 22,_ => aa 100 (by kernel_rfl)
 | 23,_ => aa 100 (by kernel_rfl)
 | 24,_ => aa 100 (by kernel_rfl)
 | 25,_ => aa 100 (by kernel_rfl)
 | 26,_ => aa 100 (by kernel_rfl)
 | 27,_ => aa 100 (by kernel_rfl)
 | 28,_ => aa 100 (by kernel_rfl)
 | 29,_ => aa 100 (by kernel_rfl)
 | i + 30,h => absurd h (by omega)
theorem qX : ∀ (i : Nat),i < 30 → res Γ 615 [.agg [.int .i64 999,.int .i64 (i : Int)]] = some [.sl .tight 1 [.sl .tight 1 (ae noB),.sl .any 1 (ae (valB i)),.sl .any 1 (ae atB)]]
 | 0,_ => aa 100 (by kernel_rfl)
 | 1,_ => aa 100 (by kernel_rfl)
 | 2,_ => aa 100 (by kernel_rfl)
 | 3,_ => aa 100 (by kernel_rfl)
 | 4,_ => aa 100 (by kernel_rfl)
 | 5,_ => aa 100 (by kernel_rfl)
 | 6,_ => aa 100 (by kernel_rfl)
 | 7,_ => aa 100 (by kernel_rfl)
 | 8,_ => aa 100 (by kernel_rfl)
 | 9,_ => aa 100 (by kernel_rfl)
 | 10,_ => aa 100 (by kernel_rfl)
 | 11,_ => aa 100 (by kernel_rfl)
 | 12,_ => aa 100 (by kernel_rfl)
 | 13,_ => aa 100 (by kernel_rfl)
 | 14,_ => aa 100 (by kernel_rfl)
 | 15,_ => aa 100 (by kernel_rfl)
 | 16,_ => aa 100 (by kernel_rfl)
 | 17,_ => aa 100 (by kernel_rfl)
 | 18,_ => aa 100 (by kernel_rfl)
 | 19,_ => aa 100 (by kernel_rfl)
 | 20,_ => aa 100 (by kernel_rfl)
 | 21,_ => aa 100 (by kernel_rfl)
 | 22,_ => aa 100 (by kernel_rfl)
 | 23,_ => aa 100 (by kernel_rfl)
 | 24,_ => aa 100 (by kernel_rfl)
 | 25,_ => aa 100 (by kernel_rfl)
 | 26,_ => aa 100 (by kernel_rfl)
 | 27,_ => aa 100 (by kernel_rfl)
 | 28,_ => aa 100 (by kernel_rfl)
 | 29,_ => aa 100 (by kernel_rfl)
 | i + 30,h => absurd h (by omega)
end Ab
namespace Ab
open Go (IntKind BinOp UnOp)
theorem vm : an Γ 512 = true := rfl
theorem vQ : an Γ 494 = true := rfl
theorem still506 : an Γ 506 = true := rfl
theorem wB : an Γ 505 = true := rfl
def uJ : List UInt8 := List.replicate 12 0
theorem zeros : hdrB ++ List.replicate 720 0 = aZ uJ := by kernel_rfl
theorem eT {p : List UInt8} (h : p.length = 12) : (aZ p).length = 748 := by
 simp only [aZ,List.length_append,List.length_replicate,h]
 rfl
theorem zy {p : List UInt8} (h : p.length = 12) : ∃ a b c d e f g h i j k l : UInt8,p = [a,b,c,d,e,f,g,h,i,j,k,l] := by
 match p,h with
 | [a,b,c,d,e,f,g,h,i,j,k,l],_ => exact ⟨a,b,c,d,e,f,g,h,i,j,k,l,rfl⟩
theorem uj {k : SK} {p : List UInt8} (h : p.length = 12) : resR Γ 504 [.sl k 1 (ae (aZ p))] = some [hdrP .any,.int .i64 0] := by
 obtain ⟨a,b,c,d,e,f,g,x,i,j,y,l,rfl⟩ := zy h
 exact sR a b c d e f g x i j y l
theorem qY {k : SK} {p : List UInt8} (h : p.length = 12) : res Γ 609 [.sl k 1 (ae (aZ p))] = some [hdrP .any,.int .i64 0] := by
 obtain ⟨a,b,c,d,e,f,g,x,i,j,y,l,rfl⟩ := zy h
 exact qm a b c d e f g x i j y l
section
variable {F Pd M room : Nat} {Z : Nat → Prop} {H0 H : Heap} {l : Fl} {c : Nat} {s : List UInt8}
def hdrA (k : SK) : List AV := [.p (.int .i64 1),.p (.int .i64 500000),.p (arcP k)]
theorem zj (h : FsS F Pd M room Z H0 l c H) (h1 : 1 ≤ s.length) (h2 : s.length ≤ 255) (hg : fget s l = none) {k : SK} (hc : c ≤ 1000) (hr : room ≤ 1000000000) (hu : used l + 748 ≤ room) :
  ∃ H',resW Γ 492 [.bx F 0,.p (.str s),.p (hdrP k)] H = some ([.p (.int .i64 0)],H') ∧ FsS F Pd M room Z H0 (fput s (aZ uJ) l) 0 H' ∧ SinceB (fun i => i = Pd ∨ i = M) H H' := by
 have hk := h.keep (Since.app H [.box (hdrA k)])
 obtain ⟨H1,a1,a2,a3⟩ := zx hk h1 h2 hg (k := .tight) (k1 := .any) (k2 := .any) hdrB (List.replicate 720 0) (by decide) (by rw [List.length_replicate]; decide) (by decide) hc hr (by rw [List.length_replicate]; show used l + (28 + 720) ≤ room; omega)
 rw [zeros] at a2
 obtain ⟨H2,b1,b2,b3⟩ := Bg a2
 refine ⟨H2,?_,b2,((SinceB.app H _).trans a3).trans b3⟩
 have e1 := @nE k
 have e2 := @nG k
 have ez : ae (List.replicate 720 0) = ints .u8 (List.replicate 720 0) := by simp only [ae,ints,List.map_replicate]; rfl
 have e28 : ((28 : Nat) : Int) = 28 := rfl
 rw [ez] at a1
 have hl : (ae hdrB).length = 28 := rfl
 unfold hdrA arcP at a1
 unfold hdrP arcP at e1 e2
 refine ab (fn := cj) rfl rfl ?_
 simp(disch:=first|assumption|omega|decide|(simp only[lens]<;>omega)|fail)only[go_sem,cj,hdrP,arcP,e1,e2,bE,hl,e28,vm,vQ,a1,b1,qx]
 done
end
end Ab
namespace Ab
open Go (IntKind BinOp UnOp)
def fA (F : Nat) (s : List UInt8) (rb : Nat) : List AV := [.p (.int .i64 1),.p (.int .i64 500000),.p (arcP .any),.bx F 0,.p (.str s),.own rb 748]
section
variable {F Pd M room : Nat} {Z : Nat → Prop} {H0 H : Heap} {l : Fl} {c : Nat} {s : List UInt8}
theorem vX {p : List UInt8} : aZ p ≠ [] := by
 unfold aZ hdrB
 exact List.cons_ne_nil _ _
theorem wh_open (h : FsS F Pd M room Z H0 l c H) (h1 : 1 ≤ s.length) (h2 : s.length ≤ 255) {p : List UInt8} (hp : p.length = 12) (hg : fget s l = some (aZ p)) :
  ∃ H' xb,resW Γ 491 [.bx F 0,.p (.str s)] H = some ([.bx xb 0,.p (.int .i64 0)],H') ∧ Since (fun _ => False) H H' ∧ H'[xb]? = some (.box (fA F s H.length)) ∧ H'[H.length]? = some (.row false 1 (ae (aZ p))) ∧ H.length ≤ xb := by
 have hl := eT hp
 obtain ⟨H1,a1,a2,a3⟩ := Bf h h1 h2 hg (by omega) vX
 have e0 := fs_size h h1 h2 hg
 rw [hl] at a1 e0
 have hlt := (List.getElem?_eq_some_iff.1 a3).1
 have e1 := @uj .any p hp
 have e2 := @nG .any
 have e3 := @ar (aZ p)
 rw [hl] at e3
 have hb3 : ∀ G : Heap,(H1 ++ G)[H.length]? = some (.row false 1 (ae (aZ p))) := fun G => by rw [List.getElem?_append_left hlt]; exact a3
 refine ⟨H1 ++ [.box [.p (.int .i64 1),.p (.int .i64 500000),.p (arcP .any)]] ++ [.box (fA F s H.length)],H1.length + 1,?_,a2.trans ((Since.app _ _).trans (Since.app _ _)),?_,?_,?_⟩
 ·have e748 : ((748 : Nat) : Int) = 748 := rfl
  rw [e748] at a1 e0
  unfold hdrP arcP at e1 e2
  refine ab (fn := fh) rfl rfl ?_
  simp(disch:=first|assumption|omega|decide|(simp only[lens]<;>omega)|fail)only[go_sem,fh,e0,a1,a3,e1,e2,still506,wB,bE,cX,len2,fA,arcP]
 ·rw [List.getElem?_append_right (by simp)]; simp
 ·rw [List.append_assoc]; exact hb3 _
 ·have := a2.len; omega
theorem still501 : an Γ 501 = true := rfl
theorem p9 : an Γ 539 = true := rfl
theorem wh_place {H : Heap} {xb rb : Nat} (hx : H[xb]? = some (.box (fA F s rb))) : resW Γ 501 [.bx xb 0,.p (.int .i64 0),.p (.int .i64 999)] H = some ([.p (.int .i64 496)],H) := by
 have e1 := @uf .any
 have e2 := xW
 unfold fA arcP at hx
 unfold hdrP arcP at e1
 refine ab (fn := cn) rfl rfl ?_
 simp(disch:=first|assumption|omega|decide|(simp only[lens]<;>omega)|fail)only[go_sem,cn,hx,e1,e2]
 done
theorem copyR {H : Heap} {rb : Nat} {ys ds : List PV} {n a : Nat} (h : H[rb]? = some (.row false 1 ys)) (hl : ys.length = n) (ha : a < n) (hd : a + ds.length ≤ n) :
  gF H 1 (.own rb n) (some (.p (.int .i64 (a : Int)))) none = some (.el rb n (n + a) n) ∧ tF H 1 (.el rb n (n + a) n) ds = some (.p (.int .i64 (ds.length : Int)),H.set rb (.row false 1 (cz ys a ds))) := by
 constructor
 ·have r1 : rowOf H rb n = some (1,ys) := by simp [rowOf,h,hl]
  simp only [gF,r1,Option.bind_some,if_true,bound]
  rw [if_pos ⟨by omega,by omega⟩]
  simp only [Option.bind_some,Int.toNat_natCast]
  rw [if_pos ha]
 ·simp only [tF,h]
  rw [if_pos ⟨by omega,by omega,by omega,by omega⟩,if_pos ⟨hl,trivial⟩,show n + a - n = a by omega,List.take_of_length_le (by omega),Nat.min_eq_left (by omega)]
theorem splP_len {ys ds : List PV} {a : Nat} (h : a + ds.length ≤ ys.length) : (cz ys a ds).length = ys.length := by
 simp only [cz,List.length_append,List.length_take,List.length_drop]; omega
structure OpenF (F Pd M room : Nat) (H0 : Heap) (s : List UInt8) (xb rb : Nat) (l : Fl) (c : Nat) (H : Heap) : Prop where
 fs : FsS F Pd M room (fun i => i = rb) H0 l c H
 x : H[xb]? = some (.box (fA F s rb))
 row : ∃ ys,H[rb]? = some (.row false 1 ys) ∧ ys.length = 748
 new : H0.length ≤ rb
 nx : xb ≠ Pd ∧ xb ≠ M
structure SinceK (K : Nat → Prop) (H0 H : Heap) : Prop where
 len : H0.length ≤ H.length
 box : ∀ (i : Nat) cs,H0[i]? = some (.box cs) → ¬ K i → H[i]? = some (.box cs)
theorem SinceK.trans {K : Nat → Prop} {A B C : Heap} (h : SinceK K A B) (k : SinceK K B C) : SinceK K A C :=
 ⟨Nat.le_trans h.len k.len,fun i cs hi hk => k.box i cs (h.box i cs hi hk) hk⟩
theorem SinceK.mono {K L : Nat → Prop} {A B : Heap} (h : SinceK K A B) (hk : ∀ i,K i → L i) : SinceK L A B := ⟨h.len,fun i cs hi hn => h.box i cs hi fun e => hn (hk i e)⟩
theorem SinceB.k {K : Nat → Prop} {A B : Heap} (h : SinceB K A B) : SinceK K A B := ⟨h.len,h.box⟩
theorem Since.k {K : Nat → Prop} {A B : Heap} (h : Since K A B) : SinceK K A B := ⟨h.len,h.box⟩
theorem SinceK.row {K : Nat → Prop} {A B : Heap} (h : SinceK K A B) {i : Nat} {f sz xs} (hi : B[i]? = some (.row f sz xs)) (b : Blk) : SinceK K A (B.set i b) where
 len := by rw [List.length_set]; exact h.len
 box j cs hj hk := by
  have := h.box j cs hj hk
  rw [List.getElem?_set_ne (fun e => by subst e; rw [hi] at this; cases this)]
  exact this
theorem FsS.setRow {H : Heap} {rb : Nat} {f : Bool} {ys zs : List PV} (h : FsS F Pd M room (fun i => i = rb) H0 l c H) (hr : H[rb]? = some (.row f 1 ys)) (hn : H0.length ≤ rb) : FsS F Pd M room (fun i => i = rb) H0 l c (H.set rb (.row f 1 zs)) := by
 have ne : ∀ i cs,H[i]? = some (.box cs) → rb ≠ i := fun i cs hi e => by rw [e,hi] at hr; cases hr
 obtain ⟨es,a1,a2,a3⟩ := h.m
 obtain ⟨ch,m2,p1,p2⟩ := h.p
 have hf : ∀ {es : List (PV × AV)} {l : Fl},FilesR H es l → NoZ (fun i => i = rb) es → FilesR (H.set rb (.row f 1 zs)) es l := by
  intro es
  induction es with
  | nil => intro l hl _; cases l <;> exact hl
  | cons e es ih =>
   intro l hl hz
   obtain ⟨k,v⟩ := e
   cases l with
   | nil => exact hl
   | cons x l =>
    obtain ⟨t,b⟩ := x
    obtain ⟨q1,⟨id,f',q2,q3⟩,q4⟩ := hl
    have hne := hz (k,v) (by simp) id b.length q2
    exact ⟨q1,⟨id,f',q2,by rw [List.getElem?_set_ne (fun e => hne e.symm)]; exact q3⟩,ih q4 fun y hy => hz y (by simp [hy])⟩
 refine ⟨by rw [List.getElem?_set_ne (ne _ _ h.f)]; exact h.f,⟨es,by rw [List.getElem?_set_ne (ne _ _ a1)]; exact a1,hf a2 a3,a3⟩,fun i hi => by rw [List.length_set]; exact h.zlt i hi,⟨ch,m2,by rw [List.getElem?_set_ne (ne _ _ p1)]; exact p1,?_⟩,h.since.set (.inr hn)⟩
 rcases p2 with p2 | ⟨id,xs,b1,b2,b3,b4⟩
 ·exact .inl p2
 ·exact .inr ⟨id,xs,b1,b2,by rw [List.getElem?_set_ne (fun e => by rw [e,b3] at hr; cases hr)]; exact b3,b4⟩
theorem tg {xb rb : Nat} (O : OpenF F Pd M room H0 s xb rb l c H) (h1 : 1 ≤ s.length) (h2 : s.length ≤ 255) {b : List UInt8} (hg : fget s l = some b) (hb : b.length = 748) {k1 : SK} (a : Nat) (d : List UInt8) (hd : a + d.length ≤ 748) (ha : a < 748) (hc : c ≤ 1000) :
  ∃ G ys,resW Γ 539 [.bx F 0,.p (.str s),.p (.int .i64 (a : Int)),.p (.sl .tight 1 [.sl k1 1 (ae d)])] H = some ([.p (.int .i64 0)],G) ∧ G[xb]? = some (.box (fA F s rb)) ∧ G[rb]? = some (.row false 1 ys) ∧ ys.length = 748 ∧
   OpenF F Pd M room H0 s xb rb (fput s (spl b a d) l) (c + 1) (G.set rb (.row false 1 (cz ys a (ae d)))) ∧ SinceK (fun i => i = Pd ∨ i = M) H (G.set rb (.row false 1 (cz ys a (ae d)))) := by
 obtain ⟨G,a1,a2,a3⟩ := fs_write O.fs h1 h2 hg (by omega) (by intro e; rw [e] at hb; cases hb) (k := .tight) (k1 := k1) a d (by omega) (by omega) hc
 obtain ⟨ys,r1,r2⟩ := O.row
 have hx := a3.box xb _ O.x (fun e => by rcases e with e | e; exact O.nx.1 e; exact O.nx.2 e)
 have hr := a3.row rb _ _ r1
 have hld := @ar d
 have ne : rb ≠ xb := fun e => by rw [e,hx] at hr; cases hr
 refine ⟨G,ys,a1,hx,hr,r2,⟨a2.setRow hr O.new,by rw [List.getElem?_set_ne ne]; exact hx,⟨_,List.getElem?_set_self (List.getElem?_eq_some_iff.1 hr).1,?_⟩,O.new,O.nx⟩,a3.k.row hr _⟩
 rw [splP_len (by omega)]
 exact r2
theorem win_p {G : Heap} {k : SK} {xs : List PV} : ey G 1 (.p (.sl k 1 xs)) = some xs := by simp [ey,elemsOf]
theorem pY (d : List UInt8) (n : Nat) (h : d.length ≤ n) : List.take n (ae d) = ae d := List.take_of_length_le (by rw [ar]; exact h)
theorem spl3 {p : List UInt8} (h : p.length = 12) (i : Nat) : spl (spl (spl (aZ p) 496 noB) 500 (valB i)) 496 atB = aZ (atB ++ valB i) := by
 obtain ⟨a,b,c,d,e,f,g,x,i,j,y,l,rfl⟩ := zy h
 kernel_rfl
theorem zb {xb rb : Nat} (O : OpenF F Pd M room H0 s xb rb l c H) (h1 : 1 ≤ s.length) (h2 : s.length ≤ 255) {p : List UInt8} (hp : p.length = 12) (hg : fget s l = some (aZ p)) (hc : c ≤ 900) (i : Nat) (hi : i < 30) (hxl : xb < H.length) (hrl : rb < H.length) :
  ∃ H',resW Γ 516 [.bx xb 0,.p (.int .i64 0),.p (.agg [.int .i64 999,.int .i64 (i : Int)])] H = some ([],H') ∧ OpenF F Pd M room H0 s xb rb (fput s (aZ (atB ++ valB i)) l) (c + 3) H' ∧ SinceK (fun i => i = Pd ∨ i = M) H H' := by
 have O0 : OpenF F Pd M room H0 s xb rb l c (H ++ [.box [.p (.int .i64 999),.p (.int .i64 (i : Int))]]) := by
  obtain ⟨ys,r1,r2⟩ := O.row
  exact ⟨O.fs.keep (Since.app _ _),by rw [List.getElem?_append_left hxl]; exact O.x,⟨ys,by rw [List.getElem?_append_left hrl]; exact r1,r2⟩,O.new,O.nx⟩
 have e1 := wh_place O0.x
 have e2 := tD i hi
 have L0 := eT hp
 have vl : (valB i).length = 8 := rfl
 obtain ⟨G1,y1,a1,x1,r1,l1,O1,k1⟩ := tg O0 h1 h2 hg L0 (k1 := .any) 496 noB (by decide) (by decide) (by omega)
 have L1 : (spl (aZ p) 496 noB).length = 748 := by rw [kX (by rw [L0]; decide)]; exact L0
 obtain ⟨G2,y2,a2,x2,r2,l2,O2,k2⟩ := tg O1 h1 h2 fj L1 (k1 := .any) 500 (valB i) (by rw [vl]; decide) (by decide) (by omega)
 have L2 : (spl (spl (aZ p) 496 noB) 500 (valB i)).length = 748 := by rw [kX (by rw [L1,vl]; decide)]; exact L1
 obtain ⟨G3,y3,a3,x3,r3,l3,O3,k3⟩ := tg O2 h1 h2 fj L2 (k1 := .any) 496 atB (by decide) (by decide) (by omega)
 rw [fg,fg,spl3 hp] at O3
 refine ⟨_,?_,O3,((SinceB.app H _).k.trans k1).trans (k2.trans k3)⟩
 have q1 := O1.x
 have q2 := O2.x
 have q0 := O0.x
 have z1 := (copyR r1 l1 (a := 496) (ds := ae noB) (by decide) (by decide)).1
 have z2 := (copyR r2 l2 (a := 500) (ds := ae (valB i)) (by decide) (by rw [ar,vl]; decide)).1
 have z3 := (copyR r3 l3 (a := 496) (ds := ae atB) (by decide) (by decide)).1
 have t1 := pY noB 252 (by decide)
 have t2 := pY (valB i) 248 (by rw [vl]; decide)
 have t3 := pY atB 252 (by decide)
 unfold fA at q0 q1 q2 x1 x2 x3
 have c1 : ((496 : Nat) : Int) = 496 := rfl
 have c2 : ((500 : Nat) : Int) = 500 := rfl
 rw [c1] at a1 a3 z1 z3
 rw [c2] at a2 z2
 refine ab (fn := bX) rfl rfl ?_
 simp(disch:=first|assumption|omega|decide|(simp only[lens]<;>omega)|fail)only[go_sem,bX,still501,e1,bE,e2]
 rw [af (L := am) rfl]
 simp(disch:=first|assumption|omega|decide|(simp only[lens]<;>omega)|fail)only[go_sem,am,q0,p9,a1,x1,j0,win_p,z1,r1,l1,t1]
 change Wp Γ am _ _ _
 rw [af (L := am) rfl]
 simp(disch:=first|assumption|omega|decide|(simp only[lens]<;>omega)|fail)only[go_sem,am,q1,p9,a2,x2,j0,win_p,z2,r2,l2,t2]
 change Wp Γ am _ _ _
 rw [af (L := am) rfl]
 simp(disch:=first|assumption|omega|decide|(simp only[lens]<;>omega)|fail)only[go_sem,am,q2,p9,a3,x3,j0,win_p,z3,r3,l3,t3]
 change Wp Γ am _ _ _
 rw [af (L := am) rfl]
 simp(disch:=first|assumption|omega|decide|(simp only[lens]<;>omega)|fail)only[go_sem,am]
end
end Ab
namespace Ab
open Go (IntKind BinOp UnOp)
section
variable {F Pd M room : Nat} {Z : Nat → Prop} {H0 H : Heap} {l : Fl} {c : Nat} {s : List UInt8}
theorem still537 : an Γ 537 = true := rfl
theorem still517 : an Γ 517 = true := rfl
theorem still516 : an Γ 516 = true := rfl
theorem still495 : an Γ 495 = true := rfl
theorem still491 : an Γ 491 = true := rfl
theorem xN {xb rb : Nat} (hx : H[xb]? = some (.box (fA F s rb))) : resW Γ 537 [.bx xb 0,.p (.int .i64 0),.p (.int .i64 999),.p (.int .i64 1000)] H = some ([.p (.bool true)],H ++ [.box [.p (.int .i64 1),.p (.int .i64 60)]]) := by
 unfold fA arcP at hx
 refine ab (fn := bO) rfl rfl ?_
 simp(disch:=first|assumption|omega|decide|(simp only[lens]<;>omega)|fail)only[go_sem,bO,hx,bE,cX]
theorem wh_first {xb rb : Nat} (hx : H[xb]? = some (.box (fA F s rb))) : resW Γ 517 [.bx xb 0,.p (.int .i64 999),.p (.int .i64 1000)] H = some ([.p (.int .i64 0)],H ++ [.box [.p (.int .i64 1),.p (.int .i64 60)]]) := by
 have e1 := xN hx
 unfold fA arcP at hx
 refine ab (fn := co) rfl rfl ?_
 simp(disch:=first|assumption|omega|decide|(simp only[lens]<;>omega)|fail)only[go_sem,co,hx]
 rw [af (L := cy) rfl]
 simp(disch:=first|assumption|omega|decide|(simp only[lens]<;>omega)|fail)only[go_sem,cy,still537,e1]
theorem OpenF.keep {xb rb : Nat} (O : OpenF F Pd M room H0 s xb rb l c H) (G : Heap) : OpenF F Pd M room H0 s xb rb l c (H ++ G) := by
 obtain ⟨ys,r1,r2⟩ := O.row
 exact ⟨O.fs.keep (Since.app _ _),by rw [List.getElem?_append_left (List.getElem?_eq_some_iff.1 O.x).1]; exact O.x,⟨ys,by rw [List.getElem?_append_left (List.getElem?_eq_some_iff.1 r1).1]; exact r1,r2⟩,O.new,O.nx⟩
theorem OpenF.lt {xb rb : Nat} (O : OpenF F Pd M room H0 s xb rb l c H) : xb < H.length ∧ rb < H.length := by
 obtain ⟨ys,r1,r2⟩ := O.row
 exact ⟨(List.getElem?_eq_some_iff.1 O.x).1,(List.getElem?_eq_some_iff.1 r1).1⟩
theorem wh_lays {xb rb : Nat} (O : OpenF F Pd M room H0 s xb rb l c H) (h1 : 1 ≤ s.length) (h2 : s.length ≤ 255) {p : List UInt8} (hp : p.length = 12) (hg : fget s l = some (aZ p)) (hc : c ≤ 900) (i : Nat) (hi : i < 30) :
  ∃ H',resW Γ 495 [.bx xb 0,.p (.agg [.int .i64 999,.int .i64 (i : Int)]),.p (.int .i64 1000)] H = some ([.p (.bool true)],H') ∧ OpenF F Pd M room H0 s xb rb (fput s (aZ (atB ++ valB i)) l) (c + 3) H' ∧ SinceK (fun i => i = Pd ∨ i = M) H H' := by
 have O0 := O.keep [.box [.p (.int .i64 999),.p (.int .i64 (i : Int))]]
 have O1 := O0.keep [.box [.p (.int .i64 1),.p (.int .i64 60)]]
 obtain ⟨H',a1,a2,a3⟩ := zb O1 h1 h2 hp hg hc i hi O1.lt.1 O1.lt.2
 refine ⟨H',?_,a2,((SinceB.app H _).trans (SinceB.app _ _)).k.trans a3⟩
 have e1 := wh_first O0.x
 have e2 := tu i hi
 have e3 := yD
 have q1 := O1.x
 have q2 := a2.x
 have hpl : Pd < H.length ∧ M < H.length := by
  obtain ⟨_,_,p1,_⟩ := O.fs.p
  obtain ⟨_,m1,_⟩ := O.fs.m
  exact ⟨(List.getElem?_eq_some_iff.1 p1).1,(List.getElem?_eq_some_iff.1 m1).1⟩
 have b0 : (H ++ [Blk.box [.p (.int .i64 999),.p (.int .i64 (i : Int))]] ++ [Blk.box [.p (.int .i64 1),.p (.int .i64 60)]])[H.length]? = some (.box [.p (.int .i64 999),.p (.int .i64 (i : Int))]) := by
  rw [List.getElem?_append_left (by simp)]; simp
 unfold fA arcP at q1 q2
 obtain ⟨G1,hG⟩ : ∃ G1,H ++ [Blk.box [.p (.int .i64 999),.p (.int .i64 (i : Int))]] ++ [Blk.box [.p (.int .i64 1),.p (.int .i64 60)]] = G1 := ⟨_,rfl⟩
 rw [hG] at e1 q1 b0 a1
 refine ab (fn := cF) rfl rfl ?_
 simp(disch:=first|assumption|omega|decide|(simp only[lens]<;>omega)|fail)only[go_sem,cF,bE,e2,still517,e1,q1,b0,e3,still516,a1]
 rw [af (L := cN) rfl]
 simp(disch:=first|assumption|omega|decide|(simp only[lens]<;>omega)|fail)only[go_sem,cN,q2]
theorem rc (h : FsS F Pd M room (fun _ => False) H0 l c H) (h1 : 1 ≤ s.length) (h2 : s.length ≤ 255) {p : List UInt8} (hp : p.length = 12) (hg : fget s l = some (aZ p)) (hc : c ≤ 900) (i : Nat) (hi : i < 30) {k : SK} :
  ∃ H',resW Γ 481 [.bx F 0,.p (.str s),.p (.int .i64 1000),.p (.sl k 2 [.agg [.int .i64 999,.int .i64 (i : Int)]])] H = some ([.p (.int .i64 1),.p (.int .i64 0)],H') ∧ FsS F Pd M room (fun _ => False) H0 (fput s (aZ (atB ++ valB i)) l) 0 H' ∧ SinceK (fun i => i = Pd ∨ i = M) H H' := by
 obtain ⟨H1,xb,a1,a2,a3,a4,a5⟩ := wh_open h h1 h2 hp hg
 have hlt := (List.getElem?_eq_some_iff.1 a4).1
 have hF := h.addZ a2 (Nat.le_refl _) hlt
 have hpl : Pd < H.length ∧ M < H.length := by
  obtain ⟨_,_,p1,_⟩ := h.p
  obtain ⟨_,m1,_⟩ := h.m
  exact ⟨(List.getElem?_eq_some_iff.1 p1).1,(List.getElem?_eq_some_iff.1 m1).1⟩
 have O : OpenF F Pd M room H0 s xb H.length l c H1 := ⟨hF,a3,⟨_,a4,by rw [ar]; exact eT hp⟩,h.since.len,by omega,by omega⟩
 have O1 := O.keep [.box [.p (.int .i64 999),.p (.int .i64 (i : Int))]]
 obtain ⟨H2,b1,b2,b3⟩ := wh_lays O1 h1 h2 hp hg hc i hi
 obtain ⟨H3,c1,c2,c3⟩ := Bg b2.fs
 refine ⟨H3,?_,c2.noZ,((a2.k.mono ?_).trans ((SinceB.app _ _).k.trans b3)).trans c3.k⟩
 ·have e1 := zS
  refine ab (fn := dS) rfl rfl ?_
  simp(disch:=first|assumption|omega|decide|(simp only[lens]<;>omega)|fail)only[go_sem,dS,still491,a1,e1]
  rw [af (L := bv) rfl]
  simp(disch:=first|assumption|omega|decide|(simp only[lens]<;>omega)|fail)only[go_sem,bv,bE,cX,still495,b1]
  change Wp Γ bv _ _ _
  rw [af (L := bv) rfl]
  simp(disch:=first|assumption|omega|decide|(simp only[lens]<;>omega)|fail)only[go_sem,bv,vQ,c1]
  done
 ·exact fun _ e => e.elim
end
end Ab
