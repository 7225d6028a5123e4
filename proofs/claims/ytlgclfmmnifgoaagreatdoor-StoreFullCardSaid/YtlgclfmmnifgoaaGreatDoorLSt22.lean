import Derived.Test.YtlgclfmmnifgoaaGreatDoorLSt15
namespace Ab
open Go (IntKind BinOp UnOp)
theorem tN {k k1 : SK} (b : List UInt8) (hb : b.length ≤ 100000) : res Γ 602 [.sl k 1 [.sl k1 1 (ae b)]] = some [.sl .any 1 (ae b)] := by
 have hl := @ar b
 refine aw (fn := lc) rfl rfl ?_
 simp(disch:=first|assumption|omega|decide|(simp only[lens]<;>omega)|fail)only[go_sem,lc]
 rw [af (L := bo) rfl]
 simp(disch:=first|assumption|omega|decide|(simp only[lens]<;>omega)|fail)only[go_sem,bo,gD,dc]
 change Wp Γ bo _ _ _
 rw [af (L := bo) rfl]
 simp(disch:=first|assumption|omega|decide|(simp only[lens]<;>omega)|fail)only[go_sem,bo]
theorem nR {k k1 k2 : SK} (b d : List UInt8) (hb : b.length ≤ 100000) (hd : d.length ≤ 100000) : res Γ 602 [.sl k 1 [.sl k1 1 (ae b),.sl k2 1 (ae d)]] = some [.sl .any 1 (ae (b ++ d))] := by
 have hl := @ar b
 have hl2 := @ar d
 have hl3 : (ae (b ++ d)).length = (ae b).length + (ae d).length := by rw [ar,hl,hl2,List.length_append]
 refine aw (fn := lc) rfl rfl ?_
 simp(disch:=first|assumption|omega|decide|(simp only[lens]<;>omega)|fail)only[go_sem,lc]
 rw [af (L := bo) rfl]
 simp(disch:=first|assumption|omega|decide|(simp only[lens]<;>omega)|fail)only[go_sem,bo,gD,dc]
 change Wp Γ bo _ _ _
 rw [af (L := bo) rfl]
 simp(disch:=first|assumption|omega|decide|(simp only[lens]<;>omega)|fail)only[go_sem,bo,gD,sH]
 change Wp Γ bo _ _ _
 rw [af (L := bo) rfl]
 simp(disch:=first|assumption|omega|decide|(simp only[lens]<;>omega)|fail)only[go_sem,bo]
theorem tM {k : SK} (l : Fl) (hl : l.length ≤ 100000) (A : List AV) (Q : Out → Prop) (hQ : ∀ e H,look e 3 = .bx 0 0 → look e 6 = .own 1 l.length → H[0]? = some (.box A) → H[1]? = some (.row false 2 (filP l)) → Q (.ex 0,e,H)) :
  ∀ (f i : Nat) (H : Heap),i + f = l.length → H[0]? = some (.box A) → H[1]? = some (.row false 2 (filP (l.take i))) →
   Wp Γ bA [(0,.p (.sl k 2 (filP l))),(3,.bx 0 0),(5,.p (.int .i64 (-1))),(6,.own 1 i),(7,.p (.int .i64 (i : Int)))] H Q := by
 intro f
 induction f with
 | zero =>
  intro i H hi h0 h1
  have hi : i = l.length := by omega
  subst hi
  rw [List.take_length] at h1
  rw [af (L := bA) rfl]
  simp(disch:=first|assumption|omega|decide|(simp only[lens]<;>omega)|fail)only[go_sem,bA,bH]
  exact hQ _ _ rfl rfl h0 h1
 | succ f ih =>
  intro i H hi h0 h1
  have hlt : i < l.length := by omega
  have hia := dB (H := H) (k := k) hlt
  have hd : decide ((i : Int) = -1) = false := decide_eq_false (by omega)
  have hn : decide ((i : Int) ≠ -1) = true := decide_eq_true (by omega)
  have ht : l.take (i + 1) = l.take i ++ [l.getD i ([],[])] := by
   rw [List.take_add_one,List.getD_eq_getElem?_getD,List.getElem?_eq_getElem hlt]; rfl
  have hlen : (filP (l.take i)).length = i := by rw [bH,List.length_take]; omega
  have hl1 := (List.getElem?_eq_some_iff.1 h1).1
  have ih := ih (i + 1) ((H ++ [Blk.box [.p (.str (l.getD i ([],[])).1),.p (.sl .any 1 (ae (l.getD i ([],[])).2))]]).set 1 (Blk.row false 2 (filP (l.take (i + 1))))) (by omega)
   (by rw [List.getElem?_set_ne (by decide),List.getElem?_append_left (by omega)]; exact h0) (List.getElem?_set_self (by simp; omega))
  rw [ht,← mH] at ih
  have h1' : ∀ G : Heap,(H ++ G)[1]? = some (.row false 2 (filP (l.take i))) := fun G => by rw [List.getElem?_append_left hl1]; exact h1
  have h0' : ∀ G : Heap,(H ++ G)[0]? = some (.box A) := fun G => by rw [List.getElem?_append_left (by omega)]; exact h0
  rw [af (L := bA) rfl]
  simp(disch:=first|assumption|omega|decide|(simp only[lens]<;>omega)|fail)only[go_sem,bA,bH,hia,hn,bE,cX,h1']
  exact ih
theorem zR {k : SK} (l : Fl) (hl : l.length ≤ 100000) (s b : List UInt8) (hg : fget s l = none) : res Γ 612 [.sl k 2 (filP l),.agg [.int .i64 1,.str s,.int .i64 0,.sl .any 1 (ae b)]] = some [.sl .any 2 (filP (l ++ [(s,b)]))] := by
 have hf := dI (k := k) l hl s
 have e : fixI s l = -1 := if_neg (by rw [mB hg]; omega)
 rw [e] at hf
 have e0 : filP [] = [] := rfl
 refine aw (fn := kW) rfl rfl ?_
 simp(disch:=first|assumption|omega|decide|(simp only[lens]<;>omega)|fail)only[go_sem,kW,hf]
 refine tM l hl [.p (.int .i64 1),.p (.str s),.p (.int .i64 0),.p (.sl .any 1 (ae b))] _ (fun e H e3 e6 h0 h1 => ?_) l.length 0 _ (by omega) rfl (by rw [List.take_zero,e0]; rfl)
 have hlen := @bH l
 have h1l := (List.getElem?_eq_some_iff.1 h1).1
 have hs : ∀ b,(H.set 1 b)[1]? = some b := fun b => List.getElem?_set_self h1l
 have hp : filP l ++ [.agg [.str s,.sl .any 1 (ae b)]] = filP (l ++ [(s,b)]) := mH (x := (s,b))
 have hl2 : (filP (l ++ [(s,b)])).length = l.length + 1 := by rw [bH]; simp
 simp(disch:=first|assumption|omega|decide|(simp only[lens]<;>omega)|fail)only[go_sem,e3,e6,h0,h1,hs,hp]
theorem uF {k : SK} (l : Fl) (hl : l.length ≤ 100000) (s b : List UInt8) (hg : fget s l = some b) (hb : b.length ≤ 100000) (a : Nat) (d : List UInt8) (hd : a + d.length ≤ b.length) (ha : a < b.length) (Q : Out → Prop)
  (hQ : ∀ e H,look e 3 = .bx 0 0 → look e 6 = .own 1 l.length → H[0]? = some (.box [.p (.int .i64 2),.p (.str s),.p (.int .i64 (a : Int)),.p (.sl .any 1 (ae d))]) → H[1]? = some (.row false 2 (filP (l.set (fix s l) (s,spl b a d)))) → Q (.ex 0,e,H)) :
  ∀ (f i : Nat) (H : Heap),i + f = l.length → H[0]? = some (.box [.p (.int .i64 2),.p (.str s),.p (.int .i64 (a : Int)),.p (.sl .any 1 (ae d))]) → H[1]? = some (.row false 2 (filP ((l.set (fix s l) (s,spl b a d)).take i))) →
   Wp Γ bA [(0,.p (.sl k 2 (filP l))),(3,.bx 0 0),(5,.p (.int .i64 (fix s l : Int))),(6,.own 1 i),(7,.p (.int .i64 (i : Int)))] H Q := by
 obtain ⟨hj,hjg⟩ := fZ hg
 generalize fix s l = j at *
 intro f
 induction f with
 | zero =>
  intro i H hi h0 h1
  have hi : i = l.length := by omega
  subst hi
  rw [List.take_of_length_le (by rw [List.length_set]; exact Nat.le_refl _)] at h1
  rw [af (L := bA) rfl]
  simp(disch:=first|assumption|omega|decide|(simp only[lens]<;>omega)|fail)only[go_sem,bA,bH]
  exact hQ _ _ rfl rfl h0 h1
 | succ f ih =>
  intro i H hi h0 h1
  have hlt : i < l.length := by omega
  have hia := dB (H := H) (k := k) hlt
  have ht : (l.set j (s,spl b a d)).take (i + 1) = (l.set j (s,spl b a d)).take i ++ [(l.set j (s,spl b a d)).getD i ([],[])] := by
   rw [List.take_add_one,List.getD_eq_getElem?_getD,List.getElem?_eq_getElem (by rw [List.length_set]; exact hlt)]; rfl
  have hlen : (filP ((l.set j (s,spl b a d)).take i)).length = i := by rw [bH,List.length_take,List.length_set]; omega
  have hl1 := (List.getElem?_eq_some_iff.1 h1).1
  have h1' : ∀ G : Heap,(H ++ G)[1]? = some (.row false 2 (filP ((l.set j (s,spl b a d)).take i))) := fun G => by rw [List.getElem?_append_left hl1]; exact h1
  have h0' : ∀ G : Heap,(H ++ G)[0]? = some (.box [.p (.int .i64 2),.p (.str s),.p (.int .i64 (a : Int)),.p (.sl .any 1 (ae d))]) := fun G => by rw [List.getElem?_append_left (by omega)]; exact h0
  by_cases e : i = j
  ·subst e
   have hd1 : decide ((i : Int) = (i : Int)) = true := decide_eq_true rfl
   have hd2 : decide ((i : Int) ≠ (i : Int)) = false := decide_eq_false (fun h => h rfl)
   have hgi : (l.set i (s,spl b a d)).getD i ([],[]) = (s,spl b a d) := by simp [List.getD_eq_getElem?_getD,hlt]
   rw [hgi] at ht
   rw [hjg] at hia
   have ih := fun H' => ih (i + 1) H' (by omega)
   rw [ht,← mH] at ih
   have hbl := @ar b
   have hdl := @ar d
   have hsl : (ae (spl b a d)).length = b.length := by rw [ar,kX hd]
   have t1 : List.take (b.length - a) (ae d) = ae d := List.take_of_length_le (by omega)
   have ha' : a ≤ b.length := by omega
   have c1 := (copyR (H := H ++ [Blk.box [.p (.str s),.p (.sl .any 1 (ae b))],Blk.row false 1 (ae b)]) (rb := H.length + 1) (by rw [j3]; rfl) hbl (a := a) (ds := ae d) ha (by omega)).1
   rw [af (L := bA) rfl]
   simp(disch:=first|assumption|omega|decide|(simp only[lens]<;>omega)|fail)only[go_sem,bA,bH,hia,hd2,gD,dc,j3,nK,oT,p7,List.length_append,Nat.zero_add,h1',h0',j0,c1,win_p,Nat.le_add_right,Nat.add_sub_cancel_left,ha,ha',Nat.le_refl,hbl,t1,splP]
   refine ih _ ?_ ?_
   ·first | exact h0' _ | (rw [List.getElem?_set_ne (by decide)]; exact h0' _)
   ·exact List.getElem?_set_self (by rw [List.length_append]; omega)
  ·have hd1 : decide ((i : Int) = (j : Int)) = false := decide_eq_false (by omega)
   have hn : decide ((i : Int) ≠ (j : Int)) = true := decide_eq_true (by omega)
   have hgi : (l.set j (s,spl b a d)).getD i ([],[]) = l.getD i ([],[]) := by
    rw [List.getD_eq_getElem?_getD,List.getD_eq_getElem?_getD,List.getElem?_set_ne (fun h => e h.symm)]
   rw [hgi] at ht
   have ih := ih (i + 1) ((H ++ [Blk.box [.p (.str (l.getD i ([],[])).1),.p (.sl .any 1 (ae (l.getD i ([],[])).2))]]).set 1 (Blk.row false 2 (filP ((l.set j (s,spl b a d)).take (i + 1))))) (by omega)
    (by rw [List.getElem?_set_ne (by decide),List.getElem?_append_left (by omega)]; exact h0) (List.getElem?_set_self (by simp; omega))
   rw [ht,← mH] at ih
   rw [af (L := bA) rfl]
   simp(disch:=first|assumption|omega|decide|(simp only[lens]<;>omega)|fail)only[go_sem,bA,bH,hia,hd1,hn,bE,cX,h1']
   exact ih
theorem Aa {k : SK} (l : Fl) (hl : l.length ≤ 100000) (s b : List UInt8) (hg : fget s l = some b) (hb : b.length ≤ 100000) (a : Nat) (d : List UInt8) (hd : a + d.length ≤ b.length) (ha : a < b.length) :
  res Γ 612 [.sl k 2 (filP l),.agg [.int .i64 2,.str s,.int .i64 (a : Int),.sl .any 1 (ae d)]] = some [.sl .any 2 (filP (fput s (spl b a d) l))] := by
 have hf := dI (k := k) l hl s
 have e : fixI s l = (fix s l : Int) := if_pos (fZ hg).1
 rw [e] at hf
 have e0 : filP [] = [] := rfl
 rw [qi hg]
 refine aw (fn := kW) rfl rfl ?_
 simp(disch:=first|assumption|omega|decide|(simp only[lens]<;>omega)|fail)only[go_sem,kW,hf]
 refine uF l hl s b hg hb a d hd ha _ (fun e H e3 e6 h0 h1 => ?_) l.length 0 _ (by omega) rfl (by rw [List.take_zero,e0]; rfl)
 have hlen : (filP (l.set (fix s l) (s,spl b a d))).length = l.length := by rw [bH,List.length_set]
 simp(disch:=first|assumption|omega|decide|(simp only[lens]<;>omega)|fail)only[go_sem,e3,e6,h0,h1]
end Ab
namespace Ab
open Go (IntKind BinOp UnOp)
theorem SinceK.set {K : Nat → Prop} {A B : Heap} (h : SinceK K A B) {i : Nat} (b : Blk) (hk : K i) : SinceK K A (B.set i b) where
 len := by rw [List.length_set]; exact h.len
 box j cs hj hn := by
  rw [List.getElem?_set_ne (fun e => hn (by rw [← e]; exact hk))]
  exact h.box j cs hj hn
theorem SinceK.app {K : Nat → Prop} {A B : Heap} (h : SinceK K A B) (G : Heap) : SinceK K A (B ++ G) := h.trans (SinceB.app B G).k
theorem SinceK.refl {K : Nat → Prop} (A : Heap) : SinceK K A A := (SinceB.refl A).k
structure RfS (X room : Nat) (H0 : Heap) (l : Fl) (c : Nat) (H : Heap) : Prop where
 x : ∃ k w lv,H[X]? = some (.box [.p (.int .i64 (room : Int)),.p (.sl k 2 (filP l)),.p w,lv]) ∧ ChR H0.length H lv c
 since : Since (fun i => i = X) H0 H
section
variable {X room : Nat} {H0 H : Heap} {l : Fl} {c : Nat} {s : List UInt8}
theorem RfS.keep {H' : Heap} {K : Nat → Prop} (h : RfS X room H0 l 0 H) (hS : Since K H H') (hk : ¬ K X) : RfS X room H' l 0 H' := by
 obtain ⟨k,w,lv,h1,h2⟩ := h.x
 refine ⟨⟨k,w,lv,hS.box X _ h1 hk,?_⟩,.refl _⟩
 rcases h2 with ⟨_,h2⟩ | ⟨id,xs,_,_,_,q1,q2⟩
 ·exact .inl ⟨rfl,h2⟩
 ·omega
theorem RfS.app (h : RfS X room H0 l c H) (G : Heap) : RfS X room H0 l c (H ++ G) := by
 obtain ⟨k,w,lv,h1,h2⟩ := h.x
 exact ⟨⟨k,w,lv,(Since.app (K := fun _ => False) H G).box X _ h1 (fun e => e),h2.keep (Since.app (K := fun _ => False) H G)⟩,h.since.trans (Since.app _ _)⟩
theorem r3_do {l' : Fl} (h : RfS X room H0 l c H) (x0 x1 x2 x3 : PV) (h0 : x0.one = true) (h1 : x1.one = true) (h2 : x2.one = true) (h3 : x3.one = true) (hcc : c ≤ 1000)
  (hd : ∀ k,res Γ 612 [.sl k 2 (filP l),.agg [x0,x1,x2,x3]] = some [.sl .any 2 (filP l')]) :
  ∃ H',resW Γ 600 [.bx X 0,.p (.agg [x0,x1,x2,x3])] H = some ([.p (.int .i64 0)],H') ∧ RfS X room H0 l' (c + 1) H' ∧ SinceK (fun i => i = X) H H' := by
 obtain ⟨k,w,lv,hx,hc⟩ := h.x
 have hxl := (List.getElem?_eq_some_iff.1 hx).1
 have hd := hd k
 have c0 : x0.cells = [x0] := by cases x0 <;> first | rfl | cases h0
 have c1 : x1.cells = [x1] := by cases x1 <;> first | rfl | cases h1
 have c2 : x2.cells = [x2] := by cases x2 <;> first | rfl | cases h2
 have c3 : x3.cells = [x3] := by cases x3 <;> first | rfl | cases h3
 have hx' : ∀ G : Heap,(H ++ G)[X]? = some (.box [.p (.int .i64 (room : Int)),.p (.sl k 2 (filP l)),.p w,lv]) := fun G => by rw [List.getElem?_append_left hxl]; exact hx
 have hs1 : ∀ (G : Heap) b,((H ++ G).set X b)[X]? = some b := fun G b => List.getElem?_set_self (by simp; omega)
 have hS1 : Since (fun i => i = X) H (H ++ [Blk.box [.p x0,.p x1,.p x2,.p x3]]) := Since.app _ _
 have hne : X ≠ H.length := by omega
 have hb1 : ∀ (b : Blk),((H ++ [Blk.box [.p x0,.p x1,.p x2,.p x3]]).set X b)[H.length]? = some (Blk.box [.p x0,.p x1,.p x2,.p x3]) := fun b => by rw [List.getElem?_set_ne hne]; simp
 have hs2 : ∀ (b : Blk) (G : Heap),((H ++ [Blk.box [.p x0,.p x1,.p x2,.p x3]]).set X b ++ G)[X]? = some b := fun b G => by rw [List.getElem?_append_left (by simp; omega)]; exact hs1 _ _
 rcases hc with ⟨hc0,rfl⟩ | ⟨id,xs,rfl,hB,hrow,hpos,hle⟩
 ·refine ⟨((H ++ [Blk.box [.p x0,.p x1,.p x2,.p x3]]).set X (.box [.p (.int .i64 (room : Int)),.p (.sl .any 2 (filP l')),.p w,.p (.sl .nil 4 [])]) ++ [Blk.row false 4 [.agg [x0,x1,x2,x3]]]).set X (.box [.p (.int .i64 (room : Int)),.p (.sl .any 2 (filP l')),.p w,.own (H.length + 1) 1]),?_,⟨⟨.any,w,.own (H.length + 1) 1,List.getElem?_set_self (by simp; omega),.inr ⟨H.length + 1,[.agg [x0,x1,x2,x3]],rfl,by have := h.since.len; omega,?_,by simp,by simp⟩⟩,?_⟩,?_⟩
  ·refine ab (fn := iA) rfl rfl ?_
   simp(disch:=first|assumption|omega|decide|(simp only[lens]<;>omega)|fail)only[go_sem,iA,hx',bE,hd,hs1,hb1,hs2,len2,List.length_set]
  ·rw [List.getElem?_set_ne (by omega),List.getElem?_append_right (by simp)]; simp
  ·exact ((h.since.trans (Since.app _ _)).set (.inl ⟨rfl,_,hx' _⟩)).trans ((Since.app _ _).set (.inl ⟨rfl,_,hs2 _ _⟩))
  ·exact ((((SinceK.refl H).app _).set _ (by rfl)).app _).set _ (by rfl)
 ·have hidl := (List.getElem?_eq_some_iff.1 hrow).1
  have iX : id ≠ X := fun e => by rw [e,hx] at hrow; cases hrow
  have hrow' : ∀ b,((H ++ [Blk.box [.p x0,.p x1,.p x2,.p x3]]).set X b)[id]? = some (.row false 4 xs) := fun b => by rw [List.getElem?_set_ne iX.symm,List.getElem?_append_left hidl]; exact hrow
  have hs3 : ∀ b b2,(((H ++ [Blk.box [.p x0,.p x1,.p x2,.p x3]]).set X b).set id b2)[X]? = some b := fun b b2 => by rw [List.getElem?_set_ne iX]; exact hs1 _ _
  refine ⟨(((H ++ [Blk.box [.p x0,.p x1,.p x2,.p x3]]).set X (.box [.p (.int .i64 (room : Int)),.p (.sl .any 2 (filP l')),.p w,.own id xs.length])).set id (.row false 4 (xs ++ [.agg [x0,x1,x2,x3]]))).set X (.box [.p (.int .i64 (room : Int)),.p (.sl .any 2 (filP l')),.p w,.own id (xs.length + 1)]),?_,⟨⟨.any,w,.own id (xs.length + 1),List.getElem?_set_self (by simp; omega),.inr ⟨id,xs ++ [.agg [x0,x1,x2,x3]],by simp,hB,?_,by simp,by simp; omega⟩⟩,?_⟩,?_⟩
  ·refine ab (fn := iA) rfl rfl ?_
   simp(disch:=first|assumption|omega|decide|(simp only[lens]<;>omega)|fail)only[go_sem,iA,hx',bE,hd,hs1,hb1,hrow',hs3]
  ·rw [List.getElem?_set_ne iX.symm,List.getElem?_set_self (by simp; omega)]
  ·exact (((h.since.trans (Since.app _ _)).set (.inl ⟨rfl,_,hx' _⟩)).set (.inr hB)).set (.inl ⟨rfl,_,hs3 _ _⟩)
  ·exact ((((SinceK.refl H).app _).set _ (by rfl)).row (hrow' _) _).set _ (by rfl)
end
end Ab
namespace Ab
open Go (IntKind BinOp UnOp)
section
variable {X room : Nat} {H0 H : Heap} {l : Fl} {c : Nat} {s : List UInt8}
theorem Ag {l : Fl} {i : Nat} (h : i < l.length) : used (l.take (i + 1)) = used (l.take i) + (l.getD i ([],[])).2.length := by
 rw [List.take_add_one,List.getD_eq_getElem?_getD,List.getElem?_eq_getElem h]
 simp only [used,List.map_append,List.sum_append,List.map_cons,List.map_nil,List.sum_cons,List.sum_nil,Option.toList,Nat.add_zero,Option.getD_some]
theorem sJ {l : Fl} {i : Nat} : used (l.take i) ≤ used l := by
 have : used l = used (l.take i) + used (l.drop i) := by
  conv => lhs; rw [← List.take_append_drop i l]
  simp only [used,List.map_append,List.sum_append]
 omega
theorem sk {k : SK} {w : PV} {lv : AV} (hx : H[X]? = some (.box [.p (.int .i64 (room : Int)),.p (.sl k 2 (filP l)),.p w,lv])) (hl : l.length ≤ 100000) (hu : used l ≤ 1000000000) (Q : Out → Prop) (hQ : ∀ e,look e 3 = .p (.int .i64 (used l : Int)) → Q (.ex 0,e,H)) :
  ∀ (f i : Nat),i + f = l.length → Wp Γ cE [(0,.bx X 0),(3,.p (.int .i64 (used (l.take i) : Int))),(4,.p (.int .i64 (i : Int)))] H Q := by
 intro f
 induction f with
 | zero =>
  intro i hi
  have hi : i = l.length := by omega
  subst hi
  rw [List.take_length]
  rw [af (L := cE) rfl]
  simp(disch:=first|assumption|omega|decide|(simp only[lens]<;>omega)|fail)only[go_sem,cE,hx,bH]
  exact hQ _ rfl
 | succ f ih =>
  intro i hi
  have hlt : i < l.length := by omega
  have hia := dB (H := H) (k := k) hlt
  have ih := ih (i + 1) (by omega)
  have hut := Ag hlt
  have h1 := @sJ l (i + 1)
  have hb := @ar (l.getD i ([],[])).2
  rw [hut] at ih
  have ec : ((used (l.take i) + (l.getD i ([],[])).2.length : Nat) : Int) = (used (l.take i) : Int) + ((l.getD i ([],[])).2.length : Int) := by omega
  rw [ec] at ih
  rw [af (L := cE) rfl]
  simp(disch:=first|assumption|omega|decide|(simp only[lens]<;>omega)|fail)only[go_sem,cE,hx,bH,hia,hb]
  exact ih
theorem zu (h : RfS X room H0 l c H) (hl : l.length ≤ 100000) (hu : used l ≤ 1000000000) : resW Γ 601 [.bx X 0] H = some ([.p (.int .i64 (used l : Int))],H) := by
 obtain ⟨k,w,lv,hx,hc⟩ := h.x
 refine ab (fn := iB) rfl rfl ?_
 simp(disch:=first|assumption|omega|decide|(simp only[lens]<;>omega)|fail)only[go_sem,iB]
 refine sk hx hl hu _ (fun e he => ?_) l.length 0 (by omega)
 simp(disch:=first|assumption|omega|decide|(simp only[lens]<;>omega)|fail)only[go_sem,he]
theorem wg : an Γ 600 = true := rfl
theorem uM : an Γ 601 = true := rfl
theorem sW (hg : fget s l = none) : fixI s l = -1 := if_neg (by rw [mB hg]; omega)
theorem zr (h : RfS X room H0 l c H) (h1 : 1 ≤ s.length) (h2 : s.length ≤ 255) (hg : fget s l = none) (hl : l.length ≤ 1000) {k k1 k2 : SK} (b d : List UInt8) (hb : b.length ≤ 10000) (hd : d.length ≤ 10000) (hc : c ≤ 1000) (hr : room ≤ 1000000000) (hu : used l + (b.length + d.length) ≤ room) :
  ∃ H',resW Γ 593 [.bx X 0,.p (.str s),.p (.sl k 1 [.sl k1 1 (ae b),.sl k2 1 (ae d)])] H = some ([.p (.int .i64 0)],H') ∧ RfS X room H0 (fput s (b ++ d) l) (c + 1) H' ∧ SinceK (fun i => i = X) H H' := by
 obtain ⟨H',a1,a2,a3⟩ := r3_do h (.int .i64 1) (.str s) (.int .i64 0) (.sl .any 1 (ae (b ++ d))) rfl rfl rfl rfl hc (fun k => zR l (by omega) s (b ++ d) hg)
 rw [mP hg]
 refine ⟨H',?_,a2,a3⟩
 have u1 := zu h (by omega) (by omega)
 obtain ⟨kk,w,lv,hx,_⟩ := h.x
 have e1 := nR (k := k) (k1 := k1) (k2 := k2) b d (by omega) (by omega)
 have e2 := j7 s h1 h2
 have e3 := dI (k := kk) l (by omega) s
 rw [sW hg] at e3
 have hk := fH hx
 have hbl : (ae (b ++ d)).length = b.length + d.length := by rw [ar,List.length_append]
 refine ab (fn := dj) rfl rfl ?_
 simp(disch:=first|assumption|omega|decide|(simp only[lens]<;>omega)|fail)only[go_sem,dj,e1,e2,hx,e3,hbl,uM,u1,hk,wg,a1]
theorem pS (h : RfS X room H0 l c H) (h1 : 1 ≤ s.length) (h2 : s.length ≤ 255) (hg : fget s l = none) (hl : l.length ≤ 1000) {k k1 k2 : SK} (b d : List UInt8) (hb : b.length ≤ 10000) (hd : d.length ≤ 10000) (hr : room ≤ 1000000000) (hul : used l ≤ 1000000000) (hu : room < used l + (b.length + d.length)) :
  resW Γ 593 [.bx X 0,.p (.str s),.p (.sl k 1 [.sl k1 1 (ae b),.sl k2 1 (ae d)])] H = some ([.p (.int .i64 4)],H) := by
 have u1 := zu h (by omega) (by omega)
 obtain ⟨kk,w,lv,hx,_⟩ := h.x
 have e1 := nR (k := k) (k1 := k1) (k2 := k2) b d (by omega) (by omega)
 have e2 := j7 s h1 h2
 have e3 := dI (k := kk) l (by omega) s
 rw [sW hg] at e3
 have hk := fH hx
 have hbl : (ae (b ++ d)).length = b.length + d.length := by rw [ar,List.length_append]
 refine ab (fn := dj) rfl rfl ?_
 simp(disch:=first|assumption|omega|decide|(simp only[lens]<;>omega)|fail)only[go_sem,dj,e1,e2,hx,e3,hbl,uM,u1,hk]
theorem qk (h : RfS X room H0 l c H) (h1 : 1 ≤ s.length) (h2 : s.length ≤ 255) {b : List UInt8} (hg : fget s l = some b) (hl : l.length ≤ 1000) (hb : b.length ≤ 100000) {k k1 : SK} (a : Nat) (d : List UInt8) (hd : a + d.length ≤ b.length) (ha : a < b.length) (hc : c ≤ 1000) :
  ∃ H',resW Γ 614 [.bx X 0,.p (.str s),.p (.int .i64 (a : Int)),.p (.sl k 1 [.sl k1 1 (ae d)])] H = some ([.p (.int .i64 0)],H') ∧ RfS X room H0 (fput s (spl b a d) l) (c + 1) H' ∧ SinceK (fun i => i = X) H H' := by
 obtain ⟨H',a1,a2,a3⟩ := r3_do h (.int .i64 2) (.str s) (.int .i64 (a : Int)) (.sl .any 1 (ae d)) rfl rfl rfl rfl hc (fun k => Aa l (by omega) s b hg hb a d hd ha)
 refine ⟨H',?_,a2,a3⟩
 obtain ⟨kk,w,lv,hx,_⟩ := h.x
 have e1 := tN (k := k) (k1 := k1) d (by omega)
 have e2 := j7 s h1 h2
 have e3 := dI (k := kk) l (by omega) s
 obtain ⟨f1,f2⟩ := fZ hg
 have e : fixI s l = (fix s l : Int) := if_pos f1
 rw [e] at e3
 have hia := dB (H := H) (k := kk) f1
 rw [f2] at hia
 have hbl := @ar b
 have hdl := @ar d
 refine ab (fn := ew) rfl rfl ?_
 simp(disch:=first|assumption|omega|decide|(simp only[lens]<;>omega)|fail)only[go_sem,ew,e1,e2,hx,e3,hia,hbl,hdl,wg,a1]
theorem An (h : RfS X room H0 l c H) : ∃ H',resW Γ 591 [.bx X 0] H = some ([],H') ∧ RfS X room H0 l 0 H' ∧ SinceK (fun i => i = X) H H' := by
 obtain ⟨k,w,lv,hx,hc⟩ := h.x
 have hxl := (List.getElem?_eq_some_iff.1 hx).1
 have hs1 : ∀ b,(H.set X b)[X]? = some b := fun b => List.getElem?_set_self hxl
 refine ⟨H.set X (.box [.p (.int .i64 (room : Int)),.p (.sl k 2 (filP l)),.p (.sl k 2 (filP l)),.p (.sl .nil 4 [])]),?_,⟨⟨k,_,_,hs1 _,.inl ⟨rfl,rfl⟩⟩,h.since.set (.inl ⟨rfl,_,hx⟩)⟩,(SinceK.refl H).set _ (by rfl)⟩
 refine ab (fn := iQ) rfl rfl ?_
 simp(disch:=first|assumption|omega|decide|(simp only[lens]<;>omega)|fail)only[go_sem,iQ,hx,hs1,List.set_set]
end
end Ab
namespace Ab
open Go (IntKind BinOp UnOp)
section
variable {X room : Nat} {H0 H : Heap} {l : Fl} {c : Nat} {s : List UInt8}
theorem BD (h : RfS X room H0 l c H) (h1 : 1 ≤ s.length) (h2 : s.length ≤ 255) {b : List UInt8} (hg : fget s l = some b) (hl : l.length ≤ 1000) : resW Γ 580 [.bx X 0,.p (.str s)] H = some ([.p (.int .i64 (b.length : Int)),.p (.int .i64 0)],H) := by
 obtain ⟨kk,w,lv,hx,_⟩ := h.x
 have e2 := j7 s h1 h2
 have e3 := dI (k := kk) l (by omega) s
 obtain ⟨f1,f2⟩ := fZ hg
 have e : fixI s l = (fix s l : Int) := if_pos f1
 rw [e] at e3
 have hia := dB (H := H) (k := kk) f1
 rw [f2] at hia
 have hbl := @ar b
 refine ab (fn := jb) rfl rfl ?_
 simp(disch:=first|assumption|omega|decide|(simp only[lens]<;>omega)|fail)only[go_sem,jb,e2,hx,e3,hia,hbl]
theorem AE (h : RfS X room H0 l c H) (h1 : 1 ≤ s.length) (h2 : s.length ≤ 255) {b : List UInt8} (hg : fget s l = some b) (hl : l.length ≤ 1000) (hb : b.length ≤ 100000) : resW Γ 579 [.bx X 0,.p (.str s),.p (.int .i64 0),.p (.int .i64 (b.length : Int))] H = some ([.own H.length b.length,.p (.int .i64 0)],H ++ [.row false 1 (ae b)]) := by
 obtain ⟨kk,w,lv,hx,_⟩ := h.x
 have e2 := j7 s h1 h2
 have e3 := dI (k := kk) l (by omega) s
 obtain ⟨f1,f2⟩ := fZ hg
 have e : fixI s l = (fix s l : Int) := if_pos f1
 rw [e] at e3
 have hia := dB (H := H) (k := kk) f1
 rw [f2] at hia
 have hbl := @ar b
 have hcut : cQ 1 (.p (.sl .any 1 (ae b))) (some (.p (.int .i64 0))) (some (.p (.int .i64 (b.length : Int)))) = some (.p (.sl .any 1 (ae b))) := by
  rw [BE (by omega) (by omega) (by omega)]
  rw [show ((b.length : Int)).toNat = b.length by omega,show (0 : Int).toNat = 0 by rfl,List.drop_zero,List.take_of_length_le (by omega)]; rfl
 refine ab (fn := iT) rfl rfl ?_
 simp(disch:=first|assumption|omega|decide|(simp only[lens]<;>omega)|fail)only[go_sem,iT,e2,hx,e3,hia,hbl,hcut,slf_p,dc]
theorem uC {s : List UInt8} : ∀ {L : Path} {i : Nat},i ≤ L.length → (∀ j,j < i → bytesLess (L.getD j []) s = true) → (i = L.length ∨ bytesLess (L.getD i []) s = false) → insB s L = L.take i ++ s :: L.drop i
 | [],i,h,_,_ => by
  simp only [List.length_nil,Nat.le_zero_eq] at h
  subst h
  simp [insB]
 | t :: r,0,_,_,h => by
  rcases h with h | h
  ·simp at h
  ·have h : bytesLess t s = false := by simpa using h
   simp [insB,h]
 | t :: r,i + 1,hi,h1,h2 => by
  have h0 : bytesLess t s = true := by simpa using h1 0 (by omega)
  have ih := @uC s r i (by simpa using hi) (fun j hj => by simpa using h1 (j + 1) (by omega)) (by
   rcases h2 with h2 | h2
   ·exact .inl (by simpa using h2)
   ·exact .inr (by simpa using h2))
  simp only [insB,h0,if_true,ih,List.take_succ_cons,List.drop_succ_cons,List.cons_append]
theorem qe {a b : List UInt8} : cR .lss (.p (.str a)) (.p (.str b)) = some (.p (.bool (bytesLess a b))) := rfl
theorem yu {k kk : SK} {w : PV} {lv : AV} (hx : H[X]? = some (.box [.p (.int .i64 (room : Int)),.p (.sl k 2 (filP l)),.p w,lv])) (_hl : l.length ≤ 1000) (i : Nat) (hi : i < l.length) (L : Path) (hL : L.length ≤ 1000) (Q : Out → Prop)
  (hQ : ∀ j,j ≤ L.length → insB (l.getD i ([],[])).1 L = L.take j ++ (l.getD i ([],[])).1 :: L.drop j → ∀ e,look e 0 = .bx X 0 → look e 3 = .p (.sl kk 1 (strs L)) → look e 4 = .p (.int .i64 (i : Int)) → look e 5 = .p (.int .i64 (j : Int)) → Q (.ex 2,e,H)) :
  ∀ (f j : Nat),j + f = L.length → (∀ q,q < j → bytesLess (L.getD q []) (l.getD i ([],[])).1 = true) →
   Wp Γ bM [(0,.bx X 0),(3,.p (.sl kk 1 (strs L))),(4,.p (.int .i64 (i : Int))),(5,.p (.int .i64 (j : Int)))] H Q := by
 have hia := dB (H := H) (k := k) hi
 intro f
 induction f with
 | zero =>
  intro j hj hq
  have hj : j = L.length := by omega
  subst hj
  have hQ := hQ L.length (Nat.le_refl _) (uC (Nat.le_refl _) hq (.inl rfl))
  rw [af (L := bM) rfl]
  simp(disch:=first|assumption|omega|decide|(simp only[lens]<;>omega)|fail)only[go_sem,bM]
  exact hQ _ rfl rfl rfl rfl
 | succ f ih =>
  intro j hj hq
  have hlt : j < L.length := by omega
  cases hp : bytesLess (L.getD j []) (l.getD i ([],[])).1 with
  | true =>
   have ih := ih (j + 1) (by omega) (fun q hqj => by
    by_cases e : q = j
    ·subst e; exact hp
    ·exact hq q (by omega))
   rw [af (L := bM) rfl]
   simp(disch:=first|assumption|omega|decide|(simp only[lens]<;>omega)|fail)only[go_sem,bM,hx,hia,qe,hp]
   exact ih
  | false =>
   have hQ := hQ j (by omega) (uC (by omega) hq (.inr hp))
   rw [af (L := bM) rfl]
   simp(disch:=first|assumption|omega|decide|(simp only[lens]<;>omega)|fail)only[go_sem,bM,hx,hia,qe,hp]
   exact hQ _ rfl rfl rfl rfl
def bf (l : Fl) : Path := l.map (·.1)
def refL (l : Fl) : Path := (bf l).foldl (fun L s => insB s L) []
theorem zY {l : Fl} {i : Nat} (h : i < l.length) : refL (l.take (i + 1)) = insB (l.getD i ([],[])).1 (refL (l.take i)) := by
 unfold refL bf
 rw [List.take_add_one,List.getD_eq_getElem?_getD,List.getElem?_eq_getElem h,List.map_append,List.foldl_append]
 rfl
theorem refL_len {l : Fl} : (refL l).length = l.length := by
 have : ∀ (n L : Path),(n.foldl (fun L s => insB s L) L).length = L.length + n.length := by
  intro n
  induction n with
  | nil => intro L; simp
  | cons s n ih =>
   intro L
   rw [List.foldl_cons,ih,(iI s L).length_eq]
   simp only [List.length_cons]
   omega
 rw [refL,this]
 simp [bf]
theorem refL_perm {l : Fl} : (refL l).Perm (bf l) := by
 have : ∀ (n L : Path),(n.foldl (fun L s => insB s L) L).Perm (L ++ n) := by
  intro n
  induction n with
  | nil => intro L; simp
  | cons s n ih =>
   intro L
   rw [List.foldl_cons]
   refine (ih _).trans ?_
   refine ((iI s L).append_right n).trans ?_
   exact (List.perm_middle (a := s) (l₁ := L) (l₂ := n)).symm
 exact (this _ _).trans (by simp)
theorem tU {l : Fl} (_hn : (bf l).Nodup) : refL l = dP (bf l) := by
 have hs : ∀ (n L : Path),L.Pairwise (· ≤ ·) → (n.foldl (fun L s => insB s L) L).Pairwise (· ≤ ·) := by
  intro n
  induction n with
  | nil => intro L h; exact h
  | cons s n ih => intro L h; exact ih _ (jN s h)
 have h1 := hs (bf l) [] .nil
 have h2 := fo (bf l)
 exact (refL_perm.trans (b9 _).symm).eq_of_pairwise (le := (· ≤ ·)) (fun a b _ _ ha hb => List.le_antisymm ha hb) h1 h2
theorem pm {H : Heap} {xs : List PV} {n : Nat} (h : xs.length = n) : kY (H ++ [.row false 1 xs]) (.own H.length n) = some (.p (.sl .any 1 xs),H ++ [.row true 1 xs]) := by
 rw [tree_own (f := false) (sz := 1) (xs := xs) (by simp) h]
 simp
theorem yO {k : SK} {w : PV} {lv : AV} (hx : H[X]? = some (.box [.p (.int .i64 (room : Int)),.p (.sl k 2 (filP l)),.p w,lv])) (hl : l.length ≤ 1000) (Q : Out → Prop)
  (hQ : ∀ e H' kk,look e 3 = .p (.sl kk 1 (strs (refL l))) → Ext0 H H' → Q (.ex 0,e,H')) :
  ∀ (f i : Nat) (H' : Heap) (kk : SK),i + f = l.length → Ext0 H H' →
   Wp Γ cJ [(0,.bx X 0),(3,.p (.sl kk 1 (strs (refL (l.take i))))),(4,.p (.int .i64 (i : Int)))] H' Q := by
 intro f
 induction f with
 | zero =>
  intro i H' kk hi hE
  have hi : i = l.length := by omega
  subst hi
  have hx' := (hE.2 X (List.getElem?_eq_some_iff.1 hx).1).trans hx
  rw [List.take_length]
  rw [af (L := cJ) rfl]
  simp(disch:=first|assumption|omega|decide|(simp only[lens]<;>omega)|fail)only[go_sem,cJ,hx',bH]
  exact hQ _ _ _ rfl hE
 | succ f ih =>
  intro i H' kk hi hE
  have hlt : i < l.length := by omega
  have hxl := (List.getElem?_eq_some_iff.1 hx).1
  have hx' := (hE.2 X hxl).trans hx
  have hia := dB (H := []) (k := k) hlt
  have hrl : (refL (l.take i)).length = i := by rw [refL_len,List.length_take]; omega
  rw [af (L := cJ) rfl]
  simp(disch:=first|assumption|omega|decide|(simp only[lens]<;>omega)|fail)only[go_sem,cJ,hx',bH]
  refine yu hx' hl i hlt (refL (l.take i)) (by omega) _ (fun j hj hins e e0 e3 e4 e5 => ?_) (refL (l.take i)).length 0 (by omega) (fun q hq => by omega)
  have ht := zY hlt
  have ih := fun H2 h2 => ih (i + 1) H2 .any (by omega) h2
  rw [ht,hins] at ih
  have l1 : (strs ((refL (l.take i)).take j)).length = j := by rw [strs_len,List.length_take]; omega
  have l2 : (strs ((refL (l.take i)).drop j)).length = i - j := by rw [strs_len,List.length_drop,hrl]
  have c1 : cQ 1 (.p (.sl kk 1 (strs (refL (l.take i))))) none (some (.p (.int .i64 (j : Int)))) = some (.p (.sl kk.cut 1 (strs ((refL (l.take i)).take j)))) := by
   rw [Bw (by omega) (by rw [strs_len]; omega),oB]; rfl
  have c2 : cQ 1 (.p (.sl kk 1 (strs (refL (l.take i))))) (some (.p (.int .i64 (j : Int)))) none = some (.p (.sl kk.cut 1 (strs ((refL (l.take i)).drop j)))) := by
   rw [qM (by omega) (by rw [strs_len]; omega),ng]; rfl
  have hx2 : ∀ G : Heap,(H' ++ G)[X]? = some (.box [.p (.int .i64 (room : Int)),.p (.sl k 2 (filP l)),.p w,lv]) := fun G => by rw [List.getElem?_append_left (by have := hE.1; omega)]; exact hx'
  simp(disch:=first|assumption|omega|decide|(simp only[lens]<;>omega)|fail)only[go_sem,e0,e3,e4,e5,c1,c2,gD,dc,hx2,hia,l1,l2,bE,cX,pm]
  exact ih _ (hE.trans (Ext0.app _ _))
theorem r3_list (h : RfS X room H0 l c H) (hl : l.length ≤ 1000) : ∃ H' kk,resW Γ 581 [.bx X 0] H = some ([.p (.sl kk 1 (strs (refL l)))],H') ∧ Ext0 H H' := by
 obtain ⟨k,w,lv,hx,_⟩ := h.x
 have key : ∃ rs H',resW Γ 581 [.bx X 0] H = some (rs,H') ∧ (∃ kk,rs = [.p (.sl kk 1 (strs (refL l)))]) ∧ Ext0 H H' := by
  refine fB (fn := iS) (K := fun rs H' => (∃ kk,rs = [.p (.sl kk 1 (strs (refL l)))]) ∧ Ext0 H H') rfl rfl ?_
  simp(disch:=first|assumption|omega|decide|(simp only[lens]<;>omega)|fail)only[go_sem,iS]
  refine yO hx hl _ (fun e H' kk e3 hE => ?_) l.length 0 H .nil (by omega) (.refl _)
  simp(disch:=first|assumption|omega|decide|(simp only[lens]<;>omega)|fail)only[go_sem,e3]
  exact ⟨⟨kk,rfl⟩,hE⟩
 obtain ⟨rs,H',h1,⟨kk,rfl⟩,h2⟩ := key
 exact ⟨H',kk,h1,h2⟩
end
end Ab
namespace Ab
open Go (IntKind BinOp UnOp)
def bi (l : List UInt8) : List Int := l.map fun b => (b.toNat : Int)
theorem bi_len {l : List UInt8} : (bi l).length = l.length := by simp [bi]
theorem y8 {l : List UInt8} : ints .u8 (bi l) = ae l := by simp [ints,bi,ae]
def mix (s : List UInt8) (i : Nat) : List UInt8 := (cO 46 47 s).take i ++ s.drop i
theorem eP {a b : UInt8} {s : List UInt8} : (cO a b s).length = s.length := by simp [cO]
theorem Af {s : List UInt8} {i : Nat} (h : i ≤ s.length) : (mix s i).length = s.length := by
 simp only [mix,List.length_append,List.length_take,List.length_drop,eP]; omega
theorem mix_get {s : List UInt8} {i : Nat} (h : i < s.length) : (bi (mix s i)).getD i 0 = ((s.getD i 0).toNat : Int) := by
 have h1 : ((cO 46 47 s).take i).length = i := by rw [List.length_take,eP]; omega
 simp only [bi,mix,List.getD_eq_getElem?_getD,List.getElem?_map]
 rw [List.getElem?_append_right (by omega),h1,Nat.sub_self,List.getElem?_drop,Nat.add_zero,List.getElem?_eq_getElem h]
 rfl
theorem ve {s : List UInt8} {i : Nat} (h : i < s.length) : mix s (i + 1) = (mix s i).set i (if s.getD i 0 = 46 then 47 else s.getD i 0) := by
 have h1 : ((cO 46 47 s).take i).length = i := by rw [List.length_take,eP]; omega
 have e1 : (cO 46 47 s).take (i + 1) = (cO 46 47 s).take i ++ [if s.getD i 0 = 46 then 47 else s.getD i 0] := by
  rw [List.take_add_one]
  simp only [cO,List.getElem?_map,List.getElem?_eq_getElem h,Option.map_some,Option.toList,List.getD_eq_getElem?_getD,Option.getD_some]
 simp only [mix]
 rw [e1,List.set_append_right _ _ (by omega),h1,Nat.sub_self,List.drop_eq_getElem_cons h,List.set_cons_zero,List.append_assoc]
 rfl
theorem mix_keep {s : List UInt8} {i : Nat} (h : i < s.length) (hne : s.getD i 0 ≠ 46) : mix s (i + 1) = mix s i := by
 rw [ve h,if_neg hne]
 have h1 : ((cO 46 47 s).take i).length = i := by rw [List.length_take,eP]; omega
 simp only [mix]
 rw [List.set_append_right _ _ (by omega),h1,Nat.sub_self,List.drop_eq_getElem_cons h,List.set_cons_zero,List.getD_eq_getElem?_getD,List.getElem?_eq_getElem h]
 rfl
theorem bi_set {l : List UInt8} {i : Nat} {b : UInt8} : (bi l).set i (b.toNat : Int) = bi (l.set i b) := by simp [bi,List.map_set]
theorem yF (s : List UInt8) (hs : s.length ≤ 1000000) (Q : Out → Prop) (hQ : ∀ e,look e 7 = .own 0 s.length → Q (.ex 0,e,[.row false 1 (ints .u8 (bi (cO 46 47 s)))])) :
  ∀ (f i : Nat),i + f = s.length → Wp Γ dh [(1,.p (.int .u8 46)),(2,.p (.int .u8 47)),(7,.own 0 s.length),(8,.p (.int .i64 (i : Int)))] [.row false 1 (ints .u8 (bi (mix s i)))] Q := by
 intro f
 induction f with
 | zero =>
  intro i hi
  have hi : i = s.length := by omega
  subst hi
  have e : mix s s.length = cO 46 47 s := by simp [mix,List.take_of_length_le,eP]
  have hl : (bi (mix s s.length)).length = s.length := by rw [bi_len,Af (Nat.le_refl _)]
  rw [← e] at hQ
  rw [af (L := dh) rfl]
  simp(disch:=first|assumption|omega|decide|(simp only[lens]<;>omega)|fail)only[go_sem,dh]
  exact hQ _ rfl
 | succ f ih =>
  intro i hi
  have hlt : i < s.length := by omega
  have hl : (bi (mix s i)).length = s.length := by rw [bi_len,Af (by omega)]
  have hg := mix_get hlt
  have ih := ih (i + 1) (by omega)
  by_cases e : s.getD i 0 = 46
  ·have hd : decide ((bi (mix s i)).getD i 0 = 46) = true := by rw [hg,e]; rfl
   have hst := ve hlt
   rw [if_pos e] at hst
   rw [hst,← bi_set] at ih
   have e47 : ((47 : UInt8).toNat : Int) = 47 := rfl
   rw [e47] at ih
   rw [af (L := dh) rfl]
   simp(disch:=first|assumption|omega|decide|(simp only[lens]<;>omega)|fail)only[go_sem,dh,hd]
   exact ih
  ·have hd : decide ((bi (mix s i)).getD i 0 = 46) = false := by
    rw [hg]
    refine decide_eq_false fun h => e ?_
    have h2 : (s.getD i 0).toNat = 46 := by omega
    exact UInt8.toNat_inj.1 (by rw [h2]; rfl)
   rw [mix_keep hlt e] at ih
   rw [af (L := dh) rfl]
   simp(disch:=first|assumption|omega|decide|(simp only[lens]<;>omega)|fail)only[go_sem,dh,hd]
   exact ih
theorem res_turn (s : List UInt8) (hs : s.length ≤ 1000000) : res Γ 597 [.str s,.int .u8 46,.int .u8 47] = some [.str (cO 46 47 s)] := by
 have e1 : List.map (fun b : UInt8 => PV.int IntKind.u8 (b.toNat : Int)) s = ints .u8 (bi (mix s 0)) := by
  rw [y8]; simp [mix,ae]
 have hso : kJ [.row false 1 (ints .u8 (bi (cO 46 47 s)))] (.own 0 s.length) = some (.p (.str (cO 46 47 s))) := by
  have h1 : rowOf [.row false 1 (ints .u8 (bi (cO 46 47 s)))] 0 s.length = some (1,ae (cO 46 47 s)) := by
   rw [y8]
   simp only [rowOf,List.getElem?_cons_zero]
   rw [if_pos (by rw [ar,eP])]
  simp only [kJ,h1,Option.bind_some,if_true,gA,Option.map_some]
 have hlm : s.length ≤ lim := by unfold lim; omega
 refine aw (fn := pI) rfl rfl ?_
 simp(disch:=first|assumption|omega|decide|(simp only[lens]<;>omega)|fail)only[go_sem,pI,hlm,e1]
 refine yF s hs _ (fun e he => ?_) s.length 0 (by omega)
 simp(disch:=first|assumption|omega|decide|(simp only[lens]<;>omega)|fail)only[go_sem,he,hso]
theorem o7 (s : List UInt8) (hs : s.length ≤ 1000) : res Γ 582 [.str s] = some [.str (fq s)] := by
 have h := res_turn s (by omega)
 have hl := @eP 46 47 s
 refine aw (fn := qg) rfl rfl ?_
 simp(disch:=first|assumption|omega|decide|(simp only[lens]<;>omega)|fail)only[go_sem,qg,h]
 rfl
end Ab
namespace Ab
open Go (IntKind BinOp UnOp)
def fR (X : Nat) (s : List UInt8) : List AV := [.bx X 0,.p (.str s),.p (.int .i64 1),.p (.int .i64 500000),.p (arcP .any)]
section
variable {X room : Nat} {H0 H : Heap} {l : Fl} {c : Nat} {s : List UInt8}
theorem RfS.ext {H' : Heap} (h : RfS X room H0 l 0 H) (hS : Since (fun _ => False) H H') : RfS X room H0 l 0 H' := by
 obtain ⟨k,w,lv,h1,h2⟩ := h.x
 refine ⟨⟨k,w,lv,hS.box X _ h1 (fun e => e),?_⟩,h.since.trans (hS.mono fun _ e => e.elim)⟩
 rcases h2 with ⟨_,h2⟩ | ⟨id,xs,_,_,_,q1,q2⟩
 ·exact .inl ⟨rfl,h2⟩
 ·omega
theorem uL : an Γ 593 = true := rfl
theorem vV : an Γ 591 = true := rfl
theorem wo : an Γ 580 = true := rfl
theorem u6 : an Γ 579 = true := rfl
theorem still616 : an Γ 616 = true := rfl
theorem still614 : an Γ 614 = true := rfl
theorem still608 : an Γ 608 = true := rfl
theorem still596 : an Γ 596 = true := rfl
theorem still595 : an Γ 595 = true := rfl
theorem r7_info (h : RfS X room H0 l 0 H) (h1 : 1 ≤ s.length) (h2 : s.length ≤ 255) {p : List UInt8} (hp : p.length = 12) (hg : fget s l = some (aZ p)) (hl : l.length ≤ 1000) :
  ∃ H',resW Γ 596 [.bx X 0,.p (.str s)] H = some ([.p (hdrP .any),.p (.int .i64 0)],H') ∧ Since (fun _ => False) H H' := by
 have hlen := eT hp
 have h' := h.app [.box [.p (.int .i64 0),.p (.int .i64 0),.p (.sl .nil 2 [])]]
 have e0 := BD h' h1 h2 hg hl
 have a1 := AE h' h1 h2 hg hl (by omega)
 rw [hlen] at e0 a1
 have e748 : ((748 : Nat) : Int) = 748 := rfl
 rw [e748] at e0 a1
 have e1 := @qY .any p hp
 have e2 := @lq .any
 have e3 := @ar (aZ p)
 rw [hlen] at e3
 obtain ⟨G,hG⟩ : ∃ G,H ++ [Blk.box [.p (.int .i64 0),.p (.int .i64 0),.p (.sl .nil 2 [])]] = G := ⟨_,rfl⟩
 rw [hG] at e0 a1
 have hgl : G.length = H.length + 1 := by rw [← hG]; simp
 refine ⟨((G ++ [Blk.row true 1 (ae (aZ p))]) ++ [Blk.box [.p (.int .i64 1),.p (.int .i64 500000),.p (arcP .any)]]).set H.length (.box [.p (.int .i64 1),.p (.int .i64 500000),.p (arcP .any)]),?_,?_⟩
 ·unfold hdrP arcP at e1 e2
  have hb : ∀ G2 : Heap,(G ++ G2)[H.length]? = some (.box [.p (.int .i64 0),.p (.int .i64 0),.p (.sl .nil 2 [])]) := fun G2 => by rw [List.getElem?_append_left (by omega),← hG]; simp
  have hs : ∀ (G2 : Heap) b,((G ++ G2).set H.length b)[H.length]? = some b := fun G2 b => List.getElem?_set_self (by simp; omega)
  refine ab (fn := qO) rfl rfl ?_
  simp(disch:=first|assumption|omega|decide|(simp only[lens]<;>omega)|fail)only[go_sem,qO,hG,wo,u6,e0,a1,e1,e2,hb,hs,j3,nK,oT,p7,List.length_append,Nat.zero_add,hdrP,arcP]
 ·rw [← hG]
  exact (((Since.app H _).trans (Since.app _ _)).trans (Since.app _ _)).set (.inr (Nat.le_refl _))
theorem r7_at {H : Heap} {xb : Nat} (hx : H[xb]? = some (.box (fR X s))) : resW Γ 616 [.bx xb 0,.p (.int .i64 0),.p (.int .i64 999)] H = some ([.p (.int .i64 496)],H) := by
 have e1 := @rN .any
 have e2 := tI
 unfold fR arcP at hx
 unfold hdrP arcP at e1
 refine ab (fn := iD) rfl rfl ?_
 simp(disch:=first|assumption|omega|decide|(simp only[lens]<;>omega)|fail)only[go_sem,iD,hx,e1,e2]
theorem r7_write {xb : Nat} (h : RfS X room H0 l c H) (hx : H[xb]? = some (.box (fR X s))) (hne : xb ≠ X) (h1 : 1 ≤ s.length) (h2 : s.length ≤ 255) {p : List UInt8} (hp : p.length = 12) (hg : fget s l = some (aZ p)) (hl : l.length ≤ 900) (hc : c ≤ 900) (i : Nat) (hi : i < 30) :
  ∃ H',resW Γ 608 [.bx xb 0,.p (.int .i64 0),.p (.int .i64 999),.p (.int .i64 (i : Int))] H = some ([],H') ∧ RfS X room H0 (fput s (aZ (atB ++ valB i)) l) (c + 3) H' ∧ SinceK (fun i => i = X) H H' := by
 have e1 := r7_at hx
 have e2 := qX i hi
 have e3 := ob
 have L0 := eT hp
 have vl : (valB i).length = 8 := rfl
 have fl : ∀ b,(fput s b l).length = l.length := fun b => by rw [qi hg,List.length_set]
 obtain ⟨G1,a1,R1,k1⟩ := qk h h1 h2 hg (by omega) (by omega) (k := .tight) (k1 := .tight) 496 noB (by rw [L0]; decide) (by omega) (by omega)
 have L1 : (spl (aZ p) 496 noB).length = 748 := by rw [kX (by rw [L0]; decide)]; exact L0
 obtain ⟨G2,a2,R2,k2⟩ := qk R1 h1 h2 fj (by rw [fl]; omega) (by omega) (k := .tight) (k1 := .any) 500 (valB i) (by rw [L1,vl]; decide) (by omega) (by omega)
 have L2 : (spl (spl (aZ p) 496 noB) 500 (valB i)).length = 748 := by rw [kX (by rw [L1,vl]; decide)]; exact L1
 obtain ⟨G3,a3,R3,k3⟩ := qk R2 h1 h2 fj (by rw [fg,fl]; omega) (by omega) (k := .tight) (k1 := .any) 496 atB (by rw [L2]; decide) (by omega) (by omega)
 rw [fg,fg,spl3 hp] at R3
 refine ⟨G3,?_,R3,(k1.trans k2).trans k3⟩
 have x1 := k1.box xb _ hx hne
 have x2 := k2.box xb _ x1 hne
 have c1 : ((496 : Nat) : Int) = 496 := rfl
 have c2 : ((500 : Nat) : Int) = 500 := rfl
 rw [c1] at a1 a3
 rw [c2] at a2
 unfold fR arcP at hx x1 x2
 refine ab (fn := eq) rfl rfl ?_
 simp(disch:=first|assumption|omega|decide|(simp only[lens]<;>omega)|fail)only[go_sem,eq,still616,e1,hx,e3,e2,still614,a1,x1,a2,x2,a3]
theorem r7_lays {xb : Nat} (h : RfS X room H0 l c H) (hx : H[xb]? = some (.box (fR X s))) (hne : xb ≠ X) (h1 : 1 ≤ s.length) (h2 : s.length ≤ 255) {p : List UInt8} (hp : p.length = 12) (hg : fget s l = some (aZ p)) (hl : l.length ≤ 900) (hc : c ≤ 900) (i : Nat) (hi : i < 30) :
  ∃ H',resW Γ 595 [.bx xb 0,.p (.int .i64 1000),.p (.agg [.int .i64 999,.int .i64 (i : Int)])] H = some ([.p (.bool true)],H') ∧ RfS X room H0 (fput s (aZ (atB ++ valB i)) l) (c + 3) H' ∧ SinceK (fun i => i = X) H H' := by
 have hxl := (List.getElem?_eq_some_iff.1 hx).1
 have hx0 : ∀ G : Heap,(H ++ G)[xb]? = some (.box (fR X s)) := fun G => by rw [List.getElem?_append_left hxl]; exact hx
 have hX : X < H.length := by obtain ⟨_,_,_,q,_⟩ := h.x; exact (List.getElem?_eq_some_iff.1 q).1
 have h0 := (h.app [.box [.p (.int .i64 999),.p (.int .i64 (i : Int))]]).app [.box [.p (.int .i64 1),.p (.int .i64 60)]]
 have x0 : (H ++ [Blk.box [.p (.int .i64 999),.p (.int .i64 (i : Int))]] ++ [Blk.box [.p (.int .i64 1),.p (.int .i64 60)]])[xb]? = some (.box (fR X s)) := by rw [List.append_assoc]; exact hx0 _
 obtain ⟨G,hG⟩ : ∃ G,H ++ [Blk.box [.p (.int .i64 999),.p (.int .i64 (i : Int))]] ++ [Blk.box [.p (.int .i64 1),.p (.int .i64 60)]] = G := ⟨_,rfl⟩
 have b0 : G[H.length]? = some (.box [.p (.int .i64 999),.p (.int .i64 (i : Int))]) := by
  rw [← hG,List.getElem?_append_left (by simp)]; simp
 have b1 : G[H.length + 1]? = some (.box [.p (.int .i64 1),.p (.int .i64 60)]) := by
  rw [← hG,List.getElem?_append_right (by simp)]; simp
 rw [hG] at h0 x0
 obtain ⟨H',a1,R1,k1⟩ := r7_write h0 x0 hne h1 h2 hp hg hl hc i hi
 refine ⟨H',?_,R1,by
  have : SinceK (fun i => i = X) H G := by rw [← hG]; exact ((SinceK.refl H).app _).app _
  exact this.trans k1⟩
 have e1 := res_r1Is i hi
 have e2 := ob
 have x1 := k1.box xb _ x0 hne
 have hG2 : H ++ [Blk.box [.p (.int .i64 999),.p (.int .i64 (i : Int))],Blk.box [.p (.int .i64 1),.p (.int .i64 60)]] = G := by rw [← hG]; simp
 unfold fR arcP at hx0 x1 x0
 refine ab (fn := eY) rfl rfl ?_
 simp(disch:=first|assumption|omega|decide|(simp only[lens]<;>omega)|fail)only[go_sem,eY,bE,e1]
 rw [af (L := eG) rfl]
 simp(disch:=first|assumption|omega|decide|(simp only[lens]<;>omega)|fail)only[go_sem,eG,hx0,j3,oT,List.length_append,Nat.zero_add,hG2,b0,b1,e2,still608,a1]
 rw [af (L := eK) rfl]
 simp(disch:=first|assumption|omega|decide|(simp only[lens]<;>omega)|fail)only[go_sem,eK,x1]
theorem rR (h : RfS X room H0 l 0 H) (h1 : 1 ≤ s.length) (h2 : s.length ≤ 255) {p : List UInt8} (hp : p.length = 12) (hg : fget s l = some (aZ p)) (hl : l.length ≤ 900) (i : Nat) (hi : i < 30) {k : SK} :
  ∃ H',resW Γ 583 [.bx X 0,.p (.str s),.p (.int .i64 1000),.p (.sl k 2 [.agg [.int .i64 999,.int .i64 (i : Int)]])] H = some ([.p (.int .i64 1),.p (.int .i64 0)],H') ∧ RfS X room H0 (fput s (aZ (atB ++ valB i)) l) 0 H' ∧ SinceK (fun i => i = X) H H' := by
 obtain ⟨H1,a1,x1⟩ := r7_info h h1 h2 hp hg (by omega)
 have R1 := h.ext x1
 have R2 := (R1.app [.box [.p (.int .i64 1),.p (.int .i64 500000),.p (arcP .any)]]).app [.box (fR X s)]
 have hX : X < H1.length := by obtain ⟨_,_,_,q,_⟩ := R1.x; exact (List.getElem?_eq_some_iff.1 q).1
 obtain ⟨G,hG⟩ : ∃ G,H1 ++ [Blk.box [.p (.int .i64 1),.p (.int .i64 500000),.p (arcP .any)]] ++ [Blk.box (fR X s)] = G := ⟨_,rfl⟩
 have hx : G[H1.length + 1]? = some (.box (fR X s)) := by rw [← hG,List.getElem?_append_right (by simp)]; simp
 have k0 : SinceK (fun i => i = X) H1 G := by rw [← hG]; exact ((SinceK.refl H1).app _).app _
 rw [hG] at R2
 obtain ⟨H2,b1,R3,k3⟩ := r7_lays R2 hx (by omega) h1 h2 hp hg hl (by decide) i hi
 obtain ⟨H3,c1,R4,k4⟩ := An R3
 refine ⟨H3,?_,R4,(((x1.k.mono fun _ e => e.elim).trans k0).trans k3).trans k4⟩
 have hG2 : H1 ++ [Blk.box [.p (.int .i64 1),.p (.int .i64 500000),.p (.sl .any 2 [.agg [.int .i64 1,.int .i64 60]])],Blk.box [.bx X 0,.p (.str s),.p (.int .i64 1),.p (.int .i64 500000),.p (.sl .any 2 [.agg [.int .i64 1,.int .i64 60]])]] = G := by
  rw [← hG]; simp [fR,arcP]
 unfold hdrP arcP at a1
 refine ab (fn := ka) rfl rfl ?_
 simp(disch:=first|assumption|omega|decide|(simp only[lens]<;>omega)|fail)only[go_sem,ka,still596,a1,nK,p7,List.length_append,Nat.zero_add,hG2]
 rw [af (L := di) rfl]
 simp(disch:=first|assumption|omega|decide|(simp only[lens]<;>omega)|fail)only[go_sem,di,still595,b1]
 change Wp Γ di _ _ _
 rw [af (L := di) rfl]
 simp(disch:=first|assumption|omega|decide|(simp only[lens]<;>omega)|fail)only[go_sem,di,vV,c1]
 done
end
end Ab
namespace Ab
open Go (IntKind BinOp UnOp)
theorem rq {k1 k2 : SK} (A B : Path) (_hA : A.length ≤ 900000000) (hB : B.length ≤ 900000000) (Q : Out → Prop)
  (hQ1 : ∀ e,look e 4 = .p (.bool (aF A B)) → Q (.ret,e,[])) (hQ2 : aF A B = decide (A.length < B.length) → ∀ e,look e 5 = .p (.sl k1 1 (strs A)) → look e 6 = .p (.sl k2 1 (strs B)) → Q (.ex 0,e,[])) :
  ∀ (f i : Nat),i + f = A.length → i ≤ B.length → aF (A.drop i) (B.drop i) = aF A B →
  Wp Γ bc [(5,.p (.sl k1 1 (strs A))),(6,.p (.sl k2 1 (strs B))),(7,.p (.int .i64 (i : Int)))] [] Q := by
 intro f
 induction f with
 | zero =>
  intro i hi hb hc
  have hi : i = A.length := by omega
  subst hi
  rw [af (L := bc) rfl]
  simp(disch:=first|assumption|omega|decide|(simp only[lens]<;>omega)|fail)only[go_sem,bc]
  refine hQ2 ?_ _ rfl rfl
  rw [← hc,List.drop_length]
  cases hd : B.drop A.length with
  | nil =>
   have : B.length ≤ A.length := List.drop_eq_nil_iff.1 hd
   rw [decide_eq_false (by omega)]; rfl
  | cons b t =>
   have : ¬ B.length ≤ A.length := fun h => by rw [List.drop_eq_nil_iff.2 h] at hd; cases hd
   rw [decide_eq_true (by omega)]; rfl
 | succ f ih =>
  intro i hi hb hc
  have hlt : i < A.length := by omega
  have hdA : A.drop i = A.getD i [] :: A.drop (i + 1) := by
   rw [List.drop_eq_getElem_cons hlt,List.getD_eq_getElem?_getD,List.getElem?_eq_getElem hlt]; rfl
  by_cases hbe : i = B.length
  ·have e : aF A B = decide (A.length < B.length) := by
    rw [← hc,hdA,hbe,List.drop_length,decide_eq_false (by omega)]; rfl
   rw [af (L := bc) rfl]
   simp(disch:=first|assumption|omega|decide|(simp only[lens]<;>omega)|fail)only[go_sem,bc]
   exact hQ2 e _ rfl rfl
  ·have hltB : i < B.length := by omega
   have hdB : B.drop i = B.getD i [] :: B.drop (i + 1) := by
    rw [List.drop_eq_getElem_cons hltB,List.getD_eq_getElem?_getD,List.getElem?_eq_getElem hltB]; rfl
   rw [hdA,hdB] at hc
   by_cases he : A.getD i [] = B.getD i []
   ·have hbl : bytesLess (A.getD i []) (B.getD i []) = false := by
     rw [he]
     cases e : bytesLess (B.getD i []) (B.getD i [])
     ·rfl
     ·exact absurd (less_iff.1 e) (List.lt_irrefl _)
    have hd : decide (A.getD i [] ≠ B.getD i []) = false := by rw [he]; simp
    have he' : (A.getD i [] == B.getD i []) = true := by rw [he]; simp
    simp only [aF,hbl,he',Bool.false_or,Bool.true_and] at hc
    have ih := ih (i + 1) (by omega) (by omega) hc
    rw [af (L := bc) rfl]
    simp(disch:=first|assumption|omega|decide|(simp only[lens]<;>omega)|fail)only[go_sem,bc,hd]
    exact ih
   ·have hb : (A.getD i [] == B.getD i []) = false := by simpa using he
    simp only [aF,hb,Bool.false_and,Bool.or_false] at hc
    rw [af (L := bc) rfl]
    simp(disch:=first|assumption|omega|decide|(simp only[lens]<;>omega)|fail)only[go_sem,bc,qe]
    exact hQ1 _ (by rw [← hc]; rfl)
theorem w9 (a b : List UInt8) (ha : a.length ≤ 1000000) (hb : b.length ≤ 1000000) : res Γ 419 [.str a,.str b] = some [.bool (aF (prt a) (prt b))] := by
 have hca := bb 46 a
 have hca2 := @count_le a 46
 have hcb := bb 46 b
 have hcb2 := @count_le b 46
 have h1 := jx a (by omega)
 have h2 := jx b (by omega)
 refine aw (fn := iE) rfl rfl ?_
 simp(disch:=first|assumption|omega|decide|(simp only[lens]<;>omega)|fail)only[go_sem,iE,h1,h2]
 refine rq (splitB 46 a) (splitB 46 b) (by omega) (by omega) _ (fun e he => ?_) (fun h e e5 e6 => ?_) (splitB 46 a).length 0 (by omega) (by omega) rfl
 ·simp(disch:=first|assumption|omega|decide|(simp only[lens]<;>omega)|fail)only[go_sem,he]
 ·simp(disch:=first|assumption|omega|decide|(simp only[lens]<;>omega)|fail)only[go_sem,e5,e6]
  show _ = some [PV.bool (aF (splitB 46 a) (splitB 46 b))]
  rw [h]
  simp
def RowR (H : Heap) (x : Nat) (L : Path) : Prop := ∃ kk,H[x]? = some (.box [.p (.sl kk 1 (strs L))]) ∧ (kk = .any ∨ (kk = .nil ∧ L = []))
theorem RowR.ext {H H' : Heap} {x : Nat} {L : Path} (h : RowR H x L) (hx : Ext0 H H') : RowR H' x L := by
 obtain ⟨kk,h,hk⟩ := h
 exact ⟨kk,(hx.2 _ (List.getElem?_eq_some_iff.1 h).1).trans h,hk⟩
theorem xK {H : Heap} {x : Nat} {L : Path} (hR : RowR H x L) (hL : L.length ≤ 1000) (s : List UInt8) (Q : Out → Prop) (hQ1 : s ∈ L → ∀ e,look e 4 = .p (.bool true) → Q (.ret,e,H)) (hQ2 : s ∉ L → ∀ e,Q (.ex 0,e,H)) :
  ∀ (f i : Nat),i + f = L.length → s ∉ L.take i → Wp Γ bg [(0,.bx x 0),(1,.p (.str s)),(5,.p (.int .i64 (i : Int)))] H Q := by
 intro f
 induction f with
 | zero =>
  intro i hi hn
  have hi : i = L.length := by omega
  subst hi
  rw [List.take_length] at hn
  have hq := hQ2 hn
  clear hQ1 hQ2
  obtain ⟨k0,h,_⟩ := hR
  rw [af (L := bg) rfl]
  simp(disch:=first|assumption|omega|decide|(simp only[lens]<;>omega)|fail)only[go_sem,bg,h]
  exact hq _
 | succ f ih =>
  intro i hi hn
  have hlt : i < L.length := by omega
  have ht : L.take (i + 1) = L.take i ++ [L.getD i []] := by
   rw [List.take_add_one,List.getD_eq_getElem?_getD,List.getElem?_eq_getElem hlt]; rfl
  obtain ⟨k0,h,_⟩ := hR
  ·by_cases he : L.getD i [] = s
   ·have hm : s ∈ L := by rw [← he]; exact getD_mem hlt
    have hd : decide (L.getD i [] = s) = true := decide_eq_true he
    have hQ1 := hQ1 hm
    rw [af (L := bg) rfl]
    simp(disch:=first|assumption|omega|decide|(simp only[lens]<;>omega)|fail)only[go_sem,bg,h,hd]
    exact hQ1 _ rfl
   ·have hd : decide (L.getD i [] = s) = false := decide_eq_false he
    have ih := ih (i + 1) (by omega) (fun hm => by
     rw [ht] at hm
     rcases List.mem_append.1 hm with hm | hm
     ·exact hn hm
     ·simp only [List.mem_singleton] at hm
      exact he hm.symm)
    rw [af (L := bg) rfl]
    simp(disch:=first|assumption|omega|decide|(simp only[lens]<;>omega)|fail)only[go_sem,bg,h,hd]
    exact ih
theorem uv {H : Heap} {x : Nat} {L : Path} (hR : RowR H x L) (hL : L.length ≤ 1000) (s : List UInt8) : resW Γ 406 [.bx x 0,.p (.str s)] H = some ([.p (.bool (decide (s ∈ L)))],H) := by
 refine ab (fn := eZ) rfl rfl ?_
 simp(disch:=first|assumption|omega|decide|(simp only[lens]<;>omega)|fail)only[go_sem,eZ]
 refine xK hR hL s _ (fun hm e e4 => ?_) (fun hm e => ?_) L.length 0 (by omega) (by simp)
 ·have hd : decide (s ∈ L) = true := decide_eq_true hm
  simp(disch:=first|assumption|omega|decide|(simp only[lens]<;>omega)|fail)only[go_sem,e4,hd]
 ·have hd : decide (s ∈ L) = false := decide_eq_false hm
  simp(disch:=first|assumption|omega|decide|(simp only[lens]<;>omega)|fail)only[go_sem,hd]
theorem s7 {s : List UInt8} : ∀ {L : Path} {i : Nat},i ≤ L.length → (∀ j,j < i → aF (prt (L.getD j [])) (prt s) = true) → (i = L.length ∨ aF (prt (L.getD i [])) (prt s) = false) → insS s L = L.take i ++ s :: L.drop i
 | [],i,h,_,_ => by
  simp only [List.length_nil,Nat.le_zero_eq] at h
  subst h
  simp [insS]
 | t :: r,0,_,_,h => by
  rcases h with h | h
  ·simp at h
  ·have h : aF (prt t) (prt s) = false := by simpa using h
   simp [insS,h]
 | t :: r,i + 1,hi,h1,h2 => by
  have h0 : aF (prt t) (prt s) = true := by simpa using h1 0 (by omega)
  have ih := @s7 s r i (by simpa using hi) (fun j hj => by simpa using h1 (j + 1) (by omega)) (by
   rcases h2 with h2 | h2
   ·exact .inl (by simpa using h2)
   ·exact .inr (by simpa using h2))
  simp only [insS,h0,if_true,ih,List.take_succ_cons,List.drop_succ_cons,List.cons_append]
theorem yC {H : Heap} {x : Nat} {L : Path} (hR : RowR H x L) (hL : L.length ≤ 1000) (hN : ∀ s ∈ L,s.length ≤ 1000) (s : List UInt8) (hs : s.length ≤ 1000) (Q : Out → Prop)
  (hQ : ∀ i,i ≤ L.length → insS s L = L.take i ++ s :: L.drop i → ∀ e,look e 0 = .bx x 0 → look e 1 = .p (.str s) → look e 5 = .p (.int .i64 (i : Int)) → Q (.ex 0,e,H)) :
  ∀ (f i : Nat),i + f = L.length → (∀ j,j < i → aF (prt (L.getD j [])) (prt s) = true) → Wp Γ aI [(0,.bx x 0),(1,.p (.str s)),(5,.p (.int .i64 (i : Int)))] H Q := by
 intro f
 induction f with
 | zero =>
  intro i hi hj
  have hi : i = L.length := by omega
  subst hi
  have hQ := hQ L.length (Nat.le_refl _) (s7 (Nat.le_refl _) hj (.inl rfl))
  obtain ⟨k0,h,_⟩ := hR
  rw [af (L := aI) rfl]
  simp(disch:=first|assumption|omega|decide|(simp only[lens]<;>omega)|fail)only[go_sem,aI,h]
  exact hQ _ rfl rfl rfl
 | succ f ih =>
  intro i hi hj
  have hlt : i < L.length := by omega
  have hb := w9 (L.getD i []) s (by have := hN _ (getD_mem hlt); omega) (by omega)
  obtain ⟨k0,h,_⟩ := hR
  ·cases hp : aF (prt (L.getD i [])) (prt s) with
   | true =>
    rw [hp] at hb
    have ih := ih (i + 1) (by omega) (fun j hji => by
     by_cases e : j = i
     ·subst e; exact hp
     ·exact hj j (by omega))
    rw [af (L := aI) rfl]
    simp(disch:=first|assumption|omega|decide|(simp only[lens]<;>omega)|fail)only[go_sem,aI,h,hb]
    exact ih
   | false =>
    rw [hp] at hb
    have hQ := hQ i (by omega) (s7 (by omega) hj (.inr hp))
    rw [af (L := aI) rfl]
    simp(disch:=first|assumption|omega|decide|(simp only[lens]<;>omega)|fail)only[go_sem,aI,h,hb]
    exact hQ _ rfl rfl rfl
theorem mN : an Γ 406 = true := rfl
theorem piece_to {kk : SK} {L : Path} {i : Nat} (h : i ≤ L.length) : cQ 1 (.p (.sl kk 1 (strs L))) none (some (.p (.int .i64 (i : Int)))) = some (.p (.sl kk.cut 1 (strs (L.take i)))) := by
 rw [Bw (by omega) (by rw [strs_len]; omega),oB]
 rfl
theorem xd {kk : SK} {L : Path} {i : Nat} (h : i ≤ L.length) : cQ 1 (.p (.sl kk 1 (strs L))) (some (.p (.int .i64 (i : Int)))) none = some (.p (.sl kk.cut 1 (strs (L.drop i)))) := by
 rw [qM (by omega) (by rw [strs_len]; omega),ng]
 rfl
theorem uu {H : Heap} {x : Nat} {L : Path} (hR : RowR H x L) (hL : L.length ≤ 1000) (hN : ∀ s ∈ L,s.length ≤ 1000) (s : List UInt8) (hs : s.length ≤ 1000) (hn : nameB s = true) (hm : s ∉ L) :
  ∃ H',resW Γ 402 [.bx x 0,.p (.str s)] H = some ([.p (.int .i64 0)],H') ∧ RowR H' x (insS s L) ∧ Since (fun i => i = x) H H' := by
 have h1 := mM s
 rw [hn] at h1
 have h2 := uv hR hL s
 rw [decide_eq_false hm] at h2
 have key : ∃ rs H',resW Γ 402 [.bx x 0,.p (.str s)] H = some (rs,H') ∧ rs = [.p (.int .i64 0)] ∧ RowR H' x (insS s L) ∧ Since (fun i => i = x) H H' := by
  refine fB (fn := dC) (K := fun rs H' => rs = [.p (.int .i64 0)] ∧ RowR H' x (insS s L) ∧ Since (fun i => i = x) H H') rfl rfl ?_
  simp(disch:=first|assumption|omega|decide|(simp only[lens]<;>omega)|fail)only[go_sem,dC,h1,mN,h2]
  refine yC hR hL hN s hs _ (fun i hi hins e e0 e1 e5 => ?_) L.length 0 (by omega) (fun j hj => by omega)
  have hl1 : (strs (L.take i)).length = i := by rw [strs_len,List.length_take]; omega
  have hl2 : (strs (L.drop i)).length = L.length - i := by rw [strs_len,List.length_drop]
  have hlen' : i + 1 + (L.length - i) = (insS s L).length := by rw [jY]; omega
  obtain ⟨kk,h,hk⟩ := hR
  have hlx := (List.getElem?_eq_some_iff.1 h).1
  have g5 : ∀ b,(H ++ [b])[x]? = some (.box [.p (.sl kk 1 (strs L))]) := fun b => by rw [List.getElem?_append_left hlx]; exact h
  have c1 := piece_to (kk := kk) hi
  have c2 := xd (kk := kk) hi
  simp(disch:=first|assumption|omega|decide|(simp only[lens]<;>omega)|fail)only[go_sem,e0,e1,e5,h,g5,c1,c2,bE,cX,hl1,hl2,pm]
  rw [← hins]
  exact ⟨⟨.any,List.getElem?_set_self (by simp; omega),.inl rfl⟩,(Since.app _ _).set (.inl ⟨rfl,_,g5 _⟩)⟩
 obtain ⟨rs,H',h1,rfl,h2⟩ := key
 exact ⟨H',h1,h2⟩
end Ab
