import Derived.Test.YtlgclfmmnifgoaaGreatDoorLSt22
import Derived.Test.YtlgclfmmnifgoaaGreatDoorCode
import Derived.Test.YtlgclfmmnifgoaaGreatDoorAbTag
import Derived.KernelRfl
namespace Ab
open Go (IntKind BinOp UnOp)
theorem xM (x : Int) (h0 : 11 ≤ x) (h1 : x ≤ 255) : res Γ 342 [.str [0,9,11,255],.int .u8 x] = some [.bool true] := by
 have d1 : decide ((0 : Int) ≤ x) = true := decide_eq_true (by omega)
 have d2 : decide (x ≤ (9 : Int)) = false := decide_eq_false (by omega)
 have d3 : decide ((11 : Int) ≤ x) = true := decide_eq_true (by omega)
 have d4 : decide (x ≤ (255 : Int)) = true := decide_eq_true (by omega)
 have i0 : idxA (.p (.str [0,9,11,255])) (.p (.int .i64 0)) = some (.p (.int .u8 0)) := rfl
 have i1 : idxA (.p (.str [0,9,11,255])) (.p (.int .i64 1)) = some (.p (.int .u8 9)) := rfl
 have i2 : idxA (.p (.str [0,9,11,255])) (.p (.int .i64 2)) = some (.p (.int .u8 11)) := rfl
 have i3 : idxA (.p (.str [0,9,11,255])) (.p (.int .i64 3)) = some (.p (.int .u8 255)) := rfl
 have g1 : cR .geq (.p (.int .u8 x)) (.p (.int .u8 0)) = some (.p (.bool true)) := by
  show some (AV.p (.bool (decide ((0 : Int) ≤ x)))) = _
  rw [d1]
 have g2 : cR .geq (.p (.int .u8 x)) (.p (.int .u8 11)) = some (.p (.bool true)) := by
  show some (AV.p (.bool (decide ((11 : Int) ≤ x)))) = _
  rw [d3]
 refine aw (fn := qc) rfl rfl ?_
 simp(disch:=first|assumption|omega|decide|(simp only[lens]<;>omega)|fail)only[go_sem,qc]
 rw [af (L := eD) rfl]
 simp(disch:=first|assumption|omega|decide|(simp only[lens]<;>omega)|fail)only[go_sem,eD,i0,i1,d2,g1]
 change Wp Γ eD _ _ _
 rw [af (L := eD) rfl]
 simp(disch:=first|assumption|omega|decide|(simp only[lens]<;>omega)|fail)only[go_sem,eD,i2,i3,d4,g2]
theorem qQ {f : Bool} {a b c : PV} : lB (some (.row f 3 [.agg [a,b,c]])) 3 true 1 0 0 = some (.p (.agg [a,b,c])) := rfl
theorem pop_3 {H : Heap} {i : Nat} {v : PV} (h : H[i]? = some (.row false 3 [v])) : popA H 3 (.own i 1) (.p (.int .i64 0)) = some (.own H.length 0,H.set i .dead ++ [.row false 3 []]) := by
 simp only [popA,h]
 rfl
theorem w8 {S : List Bool} {i j : Nat} (h : i ≠ j) : (S.set i true).getD j false = S.getD j false := by
 simp [List.getD,h]
theorem seen0 {n j : Nat} : (List.replicate n false).getD j false = false := by
 simp only [List.getD,List.getElem?_replicate]
 split <;> rfl
theorem stK0 {H : Heap} {i : Nat} {a c w : Int} : kE H (some (.row false 1 [.int .i64 a,.int .i64 c])) 1 i 2 0 0 (.p (.int .i64 w)) = some (H.set i (.row false 1 [.int .i64 w,.int .i64 c])) := rfl
theorem stK1 {H : Heap} {i : Nat} {a c w : Int} : kE H (some (.row false 1 [.int .i64 a,.int .i64 c])) 1 i 2 1 0 (.p (.int .i64 w)) = some (H.set i (.row false 1 [.int .i64 a,.int .i64 w])) := rfl
def bxP : Blk := .box [.p (.int .i64 0),.p bh]
theorem r12walk (b : UInt8) (r : List UInt8) (hr : r.length ≤ 1000) (h0 : 11 ≤ (b.toNat : Int)) : ∃ rs H',resW Γ 329 [.p (.agg [.int .i64 0,bh]),.p (.str (b :: r)),.p (.int .i64 0)] [bxP,bxP,bxP] = some (rs,H') ∧ ∃ v : PV,rs = [.p v,.p (.bool true)] := by
 have hh := xM (b.toNat : Int) h0 (by have := b.toNat_lt; omega)
 have hN : (b :: r).length = r.length + 1 := rfl
 have s1 : ((1 : Nat) : Int) - 1 = 0 := rfl
 obtain ⟨n,hn⟩ : ∃ n : Nat,(((4 : Nat) : Int) * (((r.length + 1 : Nat) : Int) + 1)).toNat = n := ⟨_,rfl⟩
 have hn2 : n = 4 * r.length + 8 := by omega
 have z1 : decide ((0 : Int) < ((r.length + 1 : Nat) : Int)) = true := decide_eq_true (by omega)
 have ix : idxA (.p (.str (b :: r))) (.p (.int .i64 0)) = some (.p (.int .u8 b.toNat)) := rfl
 have q2 : ((List.replicate n false).set (0 * (((r.length + 1 : Nat) : Int) + 1)).toNat true).getD (1 * (((r.length + 1 : Nat) : Int) + 1)).toNat false = false := by rw [w8 (by omega)]; exact seen0
 have q3 : (((List.replicate n false).set (0 * (((r.length + 1 : Nat) : Int) + 1)).toNat true).set (1 * (((r.length + 1 : Nat) : Int) + 1)).toNat true).getD (2 * (((r.length + 1 : Nat) : Int) + 1) + 1).toNat false = false := by rw [w8 (by omega),w8 (by omega)]; exact seen0
 have q4 : ((((List.replicate n false).set (0 * (((r.length + 1 : Nat) : Int) + 1)).toNat true).set (1 * (((r.length + 1 : Nat) : Int) + 1)).toNat true).set (2 * (((r.length + 1 : Nat) : Int) + 1) + 1).toNat true).getD (3 * (((r.length + 1 : Nat) : Int) + 1) + 1).toNat false = false := by rw [w8 (by omega),w8 (by omega),w8 (by omega)]; exact seen0
 unfold bxP bh sn
 refine fB (fn := mQ) (K := fun rs H' => ∃ v : PV,rs = [.p v,.p (.bool true)]) rfl rfl ?_
 simp(disch:=first|assumption|omega|decide|(simp only[lens]<;>omega)|fail)only[go_sem,mQ]
 rw [af (L := b8) rfl]
 simp(disch:=first|assumption|omega|decide|(simp only[lens]<;>omega)|fail)only[go_sem,b8,gD]
 change Wp Γ b8 _ _ _
 rw [af (L := b8) rfl]
 simp(disch:=first|assumption|omega|decide|(simp only[lens]<;>omega)|fail)only[go_sem,b8,gD]
 change Wp Γ b8 _ _ _
 rw [af (L := b8) rfl]
 simp(disch:=first|assumption|omega|decide|(simp only[lens]<;>omega)|fail)only[go_sem,b8]
 rw [af (L := bp) rfl]
 simp(disch:=first|assumption|omega|decide|(simp only[lens]<;>omega)|fail)only[go_sem,bp,qQ,s1,hn,vT]
 rw [pop_3 rfl]
 simp(disch:=first|assumption|omega|decide|(simp only[lens]<;>omega)|fail)only[go_sem,seen0,stK0]
 change Wp Γ bp _ _ _
 rw [af (L := bp) rfl]
 simp(disch:=first|assumption|omega|decide|(simp only[lens]<;>omega)|fail)only[go_sem,bp,qQ,s1,vT]
 rw [pop_3 rfl]
 simp(disch:=first|assumption|omega|decide|(simp only[lens]<;>omega)|fail)only[go_sem,q2,z1,ix,hh]
 change Wp Γ bp _ _ _
 rw [af (L := bp) rfl]
 simp(disch:=first|assumption|omega|decide|(simp only[lens]<;>omega)|fail)only[go_sem,bp,qQ,s1,vT]
 rw [pop_3 rfl]
 simp(disch:=first|assumption|omega|decide|(simp only[lens]<;>omega)|fail)only[go_sem,q3,stK1]
 change Wp Γ bp _ _ _
 rw [af (L := bp) rfl]
 simp(disch:=first|assumption|omega|decide|(simp only[lens]<;>omega)|fail)only[go_sem,bp,qQ,s1,vT]
 rw [pop_3 rfl]
 simp(disch:=first|assumption|omega|decide|(simp only[lens]<;>omega)|fail)only[go_sem,q4]
 exact ⟨_,rfl⟩
theorem still329 : an Γ 329 = true := rfl
theorem still319 : an Γ 319 = true := rfl
theorem still599 : an Γ 599 = true := rfl
theorem r12find (b : UInt8) (r : List UInt8) (hr : r.length ≤ 1000) (h0 : 11 ≤ (b.toNat : Int)) : ∃ rs H',resW Γ 319 [.p (.agg [.int .i64 0,bh]),.p (.str (b :: r)),.p (.int .i64 0)] [bxP,bxP] = some (rs,H') ∧ ∃ v : PV,rs = [.p v,.p (.bool true)] := by
 obtain ⟨rs,H2,hw,v,rfl⟩ := r12walk b r hr h0
 have hN : (b :: r).length = r.length + 1 := rfl
 have z1 : decide ((0 : Int) > ((r.length + 1 : Nat) : Int)) = false := decide_eq_false (by omega)
 have z2 : decide ((0 : Int) ≤ ((r.length + 1 : Nat) : Int)) = true := decide_eq_true (by omega)
 unfold bxP bh sn at hw ⊢
 refine fB (fn := mE) (K := fun rs H' => ∃ v : PV,rs = [.p v,.p (.bool true)]) rfl rfl ?_
 simp(disch:=first|assumption|omega|decide|(simp only[lens]<;>omega)|fail)only[go_sem,mE,z1]
 rw [af (L := jI) rfl]
 simp(disch:=first|assumption|omega|decide|(simp only[lens]<;>omega)|fail)only[go_sem,jI,z2,hw,still329]
 exact ⟨_,rfl⟩
theorem r12is (b : UInt8) (r : List UInt8) (hr : r.length ≤ 1000) (h0 : 11 ≤ (b.toNat : Int)) : ∃ rs H',resW Γ 599 [.p (.agg [.int .i64 0,bh]),.p (.str (b :: r))] [bxP] = some (rs,H') ∧ rs = [.p (.bool true)] := by
 obtain ⟨rs,H2,hw,v,rfl⟩ := r12find b r hr h0
 unfold bxP bh sn at hw ⊢
 refine fB (fn := u9) (K := fun rs H' => rs = [.p (.bool true)]) rfl rfl ?_
 simp(disch:=first|assumption|omega|decide|(simp only[lens]<;>omega)|fail)only[go_sem,u9,hw,still319]
theorem res_309 : res Γ 309 [.str [46]] = some [.agg [.int .i64 0,bh],.int .i64 0] := by
 unfold bh sn
 exact aa 400 (by kernel_rfl)
theorem AN (b : UInt8) (r : List UInt8) (hr : r.length ≤ 1000) (h0 : 11 ≤ (b.toNat : Int)) : res Γ 590 [.str [46],.str (b :: r)] = some [.bool true] := by
 obtain ⟨rs,H2,hw,rfl⟩ := r12is b r hr h0
 have h1 := res_309
 unfold bxP bh sn at hw
 unfold bh sn at h1
 refine aw (fn := vv) rfl rfl ?_
 simp(disch:=first|assumption|omega|decide|(simp only[lens]<;>omega)|fail)only[go_sem,vv,h1,hw,still599]
end Ab
namespace Ab
open Go (IntKind BinOp UnOp)
def schR : PV := .agg [.str [46],arcP .any]
def hdrT (k : Nat) : AV := .agg [.p (.int .i64 1),.p (.int .i64 500000),.own k 1]
def RuleR (H : Heap) (ru : Nat) : Prop := ∃ id f,H[ru]? = some (.box [.own id 1,.p (.sl .nil 3 [])]) ∧ H[id]? = some (.row f 2 [schR])
theorem RuleR.keep {K : Nat → Prop} {H H' : Heap} {ru : Nat} (h : RuleR H ru) (hS : Since K H H') (hk : ¬ K ru) : RuleR H' ru := by
 obtain ⟨id,f,h1,h2⟩ := h
 obtain ⟨f',h3,_⟩ := hS.row id f 2 _ h2
 exact ⟨id,f',hS.box ru _ h1 hk,h3⟩
theorem l5 {H : Heap} {ru : Nat} (hr : RuleR H ru) (b : UInt8) (r : List UInt8) (hl : r.length ≤ 1000) (h0 : 11 ≤ (b.toNat : Int)) :
  ∃ G k,resW Γ 585 [.bx ru 0,.p (.str (b :: r))] H = some ([hdrT k,.p (.bool true)],H ++ G) ∧ (H ++ G)[k]? = some (.row false 2 [.agg [.int .i64 1,.int .i64 60]]) ∧ H.length ≤ k := by
 obtain ⟨id,f,h1,h2⟩ := hr
 have i1 := AN b r hl h0
 have l1 := (List.getElem?_eq_some_iff.1 h1).1
 have l2 := (List.getElem?_eq_some_iff.1 h2).1
 have k1 : ∀ G : Heap,(H ++ G)[ru]? = some (.box [.own id 1,.p (.sl .nil 3 [])]) := fun G => by rw [List.getElem?_append_left l1]; exact h1
 have k2 : ∀ G : Heap,(H ++ G)[id]? = some (.row f 2 [schR]) := fun G => by rw [List.getElem?_append_left l2]; exact h2
 have lk : lB (some (.row f 2 [schR])) 1 false 1 0 1 = some (.p (arcP .any)) := rfl
 have lk0 : lB (some (.row f 2 [schR])) 1 false 1 0 0 = some (.p (.str [46])) := rfl
 suffices h : ∃ rs H',resW Γ 585 [.bx ru 0,.p (.str (b :: r))] H = some (rs,H') ∧ ∃ k,rs = [hdrT k,.p (.bool true)] ∧ (∃ G,H' = H ++ G) ∧ H'[k]? = some (.row false 2 [.agg [.int .i64 1,.int .i64 60]]) ∧ H.length ≤ k by
  obtain ⟨rs,H',e,k,rfl,⟨G,rfl⟩,hk⟩ := h
  exact ⟨G,k,e,hk⟩
 refine fB (fn := cW) rfl rfl ?_
 simp(disch:=first|assumption|omega|decide|(simp only[lens]<;>omega)|fail)only[go_sem,cW,j3,oT,List.length_append,Nat.zero_add]
 rw [af (L := cZ) rfl]
 simp(disch:=first|assumption|omega|decide|(simp only[lens]<;>omega)|fail)only[go_sem,cZ,k1,k2,i1,lk,lk0,arcP,j3,oT,List.length_append,Nat.zero_add]
 rw [af (L := c8) rfl]
 simp(disch:=first|assumption|omega|decide|(simp only[lens]<;>omega)|fail)only[go_sem,c8,k1,j3,nK,p7,Nat.zero_add]
 refine ⟨_,rfl,⟨_,rfl⟩,?_,by omega⟩
 rw [j3]
 rfl
end Ab
namespace Ab
open Go (IntKind BinOp UnOp)
section
variable {X room : Nat} {H0 H : Heap} {l : Fl} {c : Nat} {s : List UInt8}
theorem RfS.set {i : Nat} (h : RfS X room H0 l 0 H) {f : Bool} {sz : Nat} {xs : List PV} (hi : H[i]? = some (.row f sz xs)) (hl : H0.length ≤ i) (b : Blk) : RfS X room H0 l 0 (H.set i b) := by
 obtain ⟨k,w,lv,h1,h2⟩ := h.x
 refine ⟨⟨k,w,lv,?_,?_⟩,h.since.set (.inr hl)⟩
 ·rw [List.getElem?_set_ne (fun e => by rw [e,h1] at hi; cases hi)]
  exact h1
 ·rcases h2 with ⟨_,h2⟩ | ⟨id,xs,_,_,_,q1,q2⟩
  ·exact .inl ⟨rfl,h2⟩
  ·omega
def rowC (f : Bool) : Blk := .row f 2 [.agg [.int .i64 1,.int .i64 60]]
theorem yx (h : RfS X room H0 l 0 H) (h1 : 1 ≤ s.length) (h2 : s.length ≤ 255) (hg : fget s l = none) (hl : l.length ≤ 1000) {k : Nat} (hk : H[k]? = some (rowC false)) (hk0 : H0.length ≤ k) (hr : room ≤ 1000000) (hu : used l + 748 ≤ room) :
  ∃ H',resW Γ 584 [.bx X 0,.p (.str s),hdrT k] H = some ([.p (.int .i64 0)],H') ∧ RfS X room H0 (fput s (aZ uJ) l) 0 H' ∧ SinceK (fun i => i = X) H H' := by
 have e1 := @lN .any
 have e2 := @lq .any
 have e28 : ((28 : Nat) : Int) = 28 := rfl
 have hlk := (List.getElem?_eq_some_iff.1 hk).1
 have hbl : (ae hdrB).length = 28 := rfl
 have hk1 : ∀ G : Heap,(H ++ G)[k]? = some (.row false 2 [.agg [.int .i64 1,.int .i64 60]]) := fun G => by rw [List.getElem?_append_left hlk]; exact hk
 obtain ⟨G,hG⟩ : ∃ G,(H ++ [Blk.box [.p (.int .i64 1),.p (.int .i64 500000),.own k 1]]).set k (.row true 2 [.agg [.int .i64 1,.int .i64 60]]) = G := ⟨_,rfl⟩
 have g1 : G[H.length]? = some (.box [.p (.int .i64 1),.p (.int .i64 500000),.own k 1]) := by
  rw [← hG,List.getElem?_set_ne (by omega)]; simp
 have g2 : G[k]? = some (.row true 2 [.agg [.int .i64 1,.int .i64 60]]) := by
  rw [← hG]; exact List.getElem?_set_self (by simp; omega)
 have RG : RfS X room H0 l 0 G := by
  rw [← hG]
  exact (h.app _).set (hk1 _) hk0 _
 have kG : SinceK (fun i => i = X) H G := by
  rw [← hG]
  exact ((SinceK.refl H).app _).row (hk1 _) _
 obtain ⟨H1,a1,a2,a3⟩ := zr RG h1 h2 hg hl (k := .tight) (k1 := .any) (k2 := .any) hdrB (List.replicate 720 0) (by decide) (by rw [List.length_replicate]; decide) (by omega) (by omega) (by rw [List.length_replicate]; show used l + (28 + 720) ≤ room; omega)
 rw [zeros] at a2
 obtain ⟨H2,b1,b2,b3⟩ := An a2
 have ez : ae (List.replicate 720 0) = ints .u8 (List.replicate 720 0) := by simp only [ae,ints,List.map_replicate]; rfl
 rw [ez] at a1
 unfold hdrP arcP at e1 e2
 refine ⟨H2,?_,b2,(kG.trans a3).trans b3⟩
 refine ab (fn := fL) rfl rfl ?_
 simp(disch:=first|assumption|omega|decide|(simp only[lens]<;>omega)|fail)only[go_sem,fL,hdrT,e1,e2,bE,hbl,e28,hk1,hG,g1,g2,uL,vV,a1,b1,qx]
theorem tV (h : RfS X room H0 l 0 H) (h1 : 1 ≤ s.length) (h2 : s.length ≤ 255) (hg : fget s l = none) (hl : l.length ≤ 1000) {k : Nat} (hk : H[k]? = some (rowC false)) (hk0 : H0.length ≤ k) (hr : room ≤ 1000000) (hul : used l ≤ 1000000) (hu : room < used l + 748) :
  ∃ H',resW Γ 584 [.bx X 0,.p (.str s),hdrT k] H = some ([.p (.int .i64 4)],H') ∧ RfS X room H0 l 0 H' ∧ SinceK (fun i => i = X) H H' := by
 have e1 := @lN .any
 have e2 := @lq .any
 have e28 : ((28 : Nat) : Int) = 28 := rfl
 have hlk := (List.getElem?_eq_some_iff.1 hk).1
 have hbl : (ae hdrB).length = 28 := rfl
 have hk1 : ∀ G : Heap,(H ++ G)[k]? = some (.row false 2 [.agg [.int .i64 1,.int .i64 60]]) := fun G => by rw [List.getElem?_append_left hlk]; exact hk
 obtain ⟨G,hG⟩ : ∃ G,(H ++ [Blk.box [.p (.int .i64 1),.p (.int .i64 500000),.own k 1]]).set k (.row true 2 [.agg [.int .i64 1,.int .i64 60]]) = G := ⟨_,rfl⟩
 have g1 : G[H.length]? = some (.box [.p (.int .i64 1),.p (.int .i64 500000),.own k 1]) := by
  rw [← hG,List.getElem?_set_ne (by omega)]; simp
 have g2 : G[k]? = some (.row true 2 [.agg [.int .i64 1,.int .i64 60]]) := by
  rw [← hG]; exact List.getElem?_set_self (by simp; omega)
 have RG : RfS X room H0 l 0 G := by
  rw [← hG]
  exact (h.app _).set (hk1 _) hk0 _
 have kG : SinceK (fun i => i = X) H G := by
  rw [← hG]
  exact ((SinceK.refl H).app _).row (hk1 _) _
 have a1 := pS RG h1 h2 hg hl (k := .tight) (k1 := .any) (k2 := .any) hdrB (List.replicate 720 0) (by decide) (by rw [List.length_replicate]; decide) (by omega) (by omega) (by rw [List.length_replicate]; show room < used l + (28 + 720); omega)
 have ez : ae (List.replicate 720 0) = ints .u8 (List.replicate 720 0) := by simp only [ae,ints,List.map_replicate]; rfl
 rw [ez] at a1
 unfold hdrP arcP at e1 e2
 refine ⟨G,?_,RG,kG⟩
 refine ab (fn := fL) rfl rfl ?_
 simp(disch:=first|assumption|omega|decide|(simp only[lens]<;>omega)|fail)only[go_sem,fL,hdrT,e1,e2,bE,hbl,e28,hk1,hG,g1,g2,uL,a1,qx]
end
end Ab
namespace Ab
open Go (IntKind BinOp UnOp)
theorem RfS.re {X room : Nat} {H0 H H' : Heap} {l : Fl} {K : Nat → Prop} (h : RfS X room H0 l 0 H) (hS : Since K H H') (k1 : ¬ K X) : RfS X room H' l 0 H' := by
 obtain ⟨k,w,lv,h1,h2⟩ := h.x
 refine ⟨⟨k,w,lv,hS.box X _ h1 k1,?_⟩,.refl _⟩
 rcases h2 with ⟨_,h2⟩ | ⟨id,xs,_,_,_,q1,q2⟩
 ·exact .inl ⟨rfl,h2⟩
 ·omega
theorem RowR.keep {K : Nat → Prop} {H H' : Heap} {x : Nat} {L : Path} (h : RowR H x L) (hS : Since K H H') (hk : ¬ K x) : RowR H' x L := by
 obtain ⟨kk,h,h2⟩ := h
 exact ⟨kk,hS.box x _ h hk,h2⟩
structure QSt (Y X RR RT room : Nat) (L : Path) (fl : Fl) (ld dr md : Int) (H : Heap) : Prop where
 core : H[Y]? = some (.box [.bx X 0,.bx RR 0,.bx RT 0,.p (.int .i64 ld),.p (.int .i64 dr),.p (.int .i64 md)])
 fs : RfS X room H fl 0 H
 row : RowR H RT L
 rule : RuleR H RR
def KQ (Y X RT : Nat) (i : Nat) : Prop := i = X ∨ i = Y ∨ i = RT
section
variable {Y X RR RT room : Nat} {L : Path} {fl : Fl} {ld dr md : Int} {H : Heap}
theorem QSt.ne (S : QSt Y X RR RT room L fl ld dr md H) : Y ≠ X ∧ Y ≠ RR ∧ Y ≠ RT ∧ X ≠ RR ∧ X ≠ RT ∧ RR ≠ RT := by
 obtain ⟨k,w,lv,h1,_⟩ := S.fs.x
 obtain ⟨id,f,u1,_⟩ := S.rule
 obtain ⟨kk,r1,_⟩ := S.row
 have c := S.core
 refine ⟨fun e => ?_,fun e => ?_,fun e => ?_,fun e => ?_,fun e => ?_,fun e => ?_⟩
 ·rw [e,h1] at c; simp at c
 ·rw [e,u1] at c; simp at c
 ·rw [e,r1] at c; simp at c
 ·rw [e,u1] at h1; simp at h1
 ·rw [e,r1] at h1; simp at h1
 ·rw [e,r1] at u1; simp at u1
theorem QSt.keep {H' : Heap} (S : QSt Y X RR RT room L fl ld dr md H) {K : Nat → Prop} (hS : Since K H H') (k1 : ¬ K Y) (k2 : ¬ K X) (k3 : ¬ K RR) (k4 : ¬ K RT) : QSt Y X RR RT room L fl ld dr md H' :=
 ⟨hS.box Y _ S.core k1,S.fs.re hS k2,S.row.keep hS k4,S.rule.keep hS k3⟩
theorem QSt.ext {H' : Heap} (S : QSt Y X RR RT room L fl ld dr md H) (hS : Since (fun _ => False) H H') : QSt Y X RR RT room L fl ld dr md H' := S.keep hS (fun e => e) (fun e => e) (fun e => e) (fun e => e)
theorem RfS.re0 {H0 : Heap} (h : RfS X room H0 fl 0 H) : RfS X room H fl 0 H := h.re (K := fun _ => False) (.refl H) (fun e => e)
theorem QSt.files {H' : Heap} {fl' : Fl} (S : QSt Y X RR RT room L fl ld dr md H) (h : RfS X room H fl' 0 H') : QSt Y X RR RT room L fl' ld dr md H' := by
 obtain ⟨n1,n2,n3,n4,n5,n6⟩ := S.ne
 exact ⟨h.since.box Y _ S.core n1,h.re0,S.row.keep h.since (fun e => n5 e.symm),S.rule.keep h.since (fun e => n4 e.symm)⟩
theorem QSt.nums {ld' dr' md' : Int} (S : QSt Y X RR RT room L fl ld dr md H) : QSt Y X RR RT room L fl ld' dr' md' (H.set Y (.box [.bx X 0,.bx RR 0,.bx RT 0,.p (.int .i64 ld'),.p (.int .i64 dr'),.p (.int .i64 md')])) := by
 obtain ⟨n1,n2,n3,n4,n5,n6⟩ := S.ne
 have hl := (List.getElem?_eq_some_iff.1 S.core).1
 have hS : Since (fun i => i = Y) H (H.set Y (.box [.bx X 0,.bx RR 0,.bx RT 0,.p (.int .i64 ld'),.p (.int .i64 dr'),.p (.int .i64 md')])) := (Since.refl H).set (.inl ⟨rfl,_,S.core⟩)
 exact ⟨List.getElem?_set_self hl,S.fs.re hS (fun e => n1 e.symm),S.row.keep hS (fun e => n3 e.symm),S.rule.keep hS (fun e => n2 e.symm)⟩
theorem QSt.rows {H' : Heap} {L' : Path} (S : QSt Y X RR RT room L fl ld dr md H) (h : RowR H' RT L') (hS : Since (fun i => i = RT) H H') : QSt Y X RR RT room L' fl ld dr md H' := by
 obtain ⟨n1,n2,n3,n4,n5,n6⟩ := S.ne
 exact ⟨hS.box Y _ S.core n3,S.fs.re hS n5,h,S.rule.keep hS n6⟩
theorem vM : an Γ 585 = true := rfl
theorem wu : an Γ 584 = true := rfl
theorem wm : an Γ 583 = true := rfl
theorem still402 : an Γ 402 = true := rfl
theorem rput_bad {k : SK} {xs : List PV} (s : List UInt8) (hn : nameB s = false) : resW Γ 577 [.bx Y 0,.p (.int .i64 1000),.p (.str s),.p (.sl k 2 xs)] H = some ([.p (.int .i64 0),.p (.int .i64 14)],H) := by
 have h := mM s
 rw [hn] at h
 refine ab (fn := be) rfl rfl ?_
 simp(disch:=first|assumption|omega|decide|(simp only[lens]<;>omega)|fail)only[go_sem,be,h]
theorem A2 {k : SK} (S : QSt Y X RR RT room L fl ld dr md H) (hN : Nms L) (ft : Fit L fl) (hfl : fl.length ≤ 900) (hl : L.length ≤ 900) (hroom : room ≤ 1000000) (s : List UInt8) (hn : nameB s = true) (hm : s ∉ L) (hul : used fl ≤ 1000000) (hu : room < used fl + 748) (hdr : 0 ≤ dr ∧ dr ≤ 1000) (i : Nat) :
  ∃ H',resW Γ 577 [.bx Y 0,.p (.int .i64 1000),.p (.str s),.p (.sl k 2 [ptP i])] H = some ([.p (.int .i64 0),.p (.int .i64 4)],H') ∧ QSt Y X RR RT room L fl ld (dr + 1) md H' ∧ Since (KQ Y X RT) H H' := by
 obtain ⟨b,rr,hs,h0⟩ := mO hn
 have hsl := br hn
 obtain ⟨G,k0,g1,g2,g3⟩ := l5 S.rule b rr (by rw [hs] at hsl; simp only [List.length_cons] at hsl; omega) h0
 rw [← hs] at g1
 obtain ⟨H1,hH1⟩ : ∃ H1,H ++ G = H1 := ⟨_,rfl⟩
 rw [hH1] at g1 g2
 have x1 : Since (fun _ => False) H H1 := by rw [← hH1]; exact Since.app _ _
 have x2 : Since (fun _ => False) H1 (H1 ++ [.box [.p (.int .i64 1),.p (.int .i64 500000),.own k0 1]]) := Since.app _ _
 have S1 := S.ext x1
 have S2 := S1.ext x2
 have hg := ft.none hN hn hm
 have hfn := @fI s
 have k2 : (H1 ++ [.box [.p (.int .i64 1),.p (.int .i64 500000),.own k0 1]])[k0]? = some (rowC false) := by
  rw [List.getElem?_append_left (List.getElem?_eq_some_iff.1 g2).1]; exact g2
 have F2 : RfS X room H fl 0 (H1 ++ [.box [.p (.int .i64 1),.p (.int .i64 500000),.own k0 1]]) := (S.fs.ext x1).ext x2
 obtain ⟨H3,a1,a2,a3⟩ := tV F2 (by omega) (by omega) hg (by omega) k2 g3 hroom hul hu
 have S3 := S.files a2
 have S5 := S3.nums (ld' := ld) (dr' := dr + 1) (md' := md)
 have e1 := o7 s (by omega)
 have e0 := mM s
 rw [hn] at e0
 have e2 := uv S.row (by omega) s
 rw [decide_eq_false hm] at e2
 have e1c : ((1 : Nat) : Int) = 1 := rfl
 refine ⟨_,?_,S5,(a2.since.mono fun j hj => .inl hj).set (.inl ⟨.inr (.inl rfl),_,S3.core⟩)⟩
 have c0 := S.core
 have c1 := S1.core
 have c2 := S2.core
 have c3 := S3.core
 unfold hdrT at g1 a1
 refine ab (fn := be) rfl rfl ?_
 simp(disch:=first|assumption|omega|decide|(simp only[lens]<;>omega)|fail)only[go_sem,be,ptP,e0,e2,mN,c0,c2,c3,vM,g1,bE,cX,e1,wu,a1,e1c]
theorem rput_ok {k : SK} (S : QSt Y X RR RT room L fl ld dr md H) (hN : Nms L) (ft : Fit L fl) (hfl : fl.length ≤ 800) (hl : L.length ≤ 900) (hroom : room ≤ 1000000) (s : List UInt8) (hn : nameB s = true) (hu : s ∈ L ∨ used fl + 748 ≤ room) (hld : 0 ≤ ld ∧ ld ≤ 1000) (hdr : 0 ≤ dr ∧ dr ≤ 1000) (hmd : 0 ≤ md ∧ md ≤ 1000) (i : Nat) (hi : i < 30) :
  ∃ H',resW Γ 577 [.bx Y 0,.p (.int .i64 1000),.p (.str s),.p (.sl k 2 [ptP i])] H = some ([.p (.int .i64 1),.p (.int .i64 0)],H') ∧ QSt Y X RR RT room (addS s L) (fput (fq s) (aZ (atB ++ valB i)) fl) (ld + 1) dr (if s ∈ L then md else md + 1) H' ∧ Since (KQ Y X RT) H H' := by
 have hsl := br hn
 have hfn := @fI s
 have e1 := o7 s (by omega)
 have e0 := mM s
 rw [hn] at e0
 have e2 := uv S.row (by omega) s
 have e1c : ((1 : Nat) : Int) = 1 := rfl
 have dz : dr + 1 - 1 = dr := by omega
 by_cases hm : s ∈ L
 ·rw [decide_eq_true hm] at e2
  obtain ⟨p,hp,hg⟩ := ft.has s hm
  obtain ⟨H1,a1,a2,a3⟩ := rR S.fs (by omega) (by omega) hp hg (by omega) i hi (k := k)
  have S1 := S.files a2
  have S2 := S1.nums (ld' := ld + 1) (dr' := dr) (md' := md)
  refine ⟨_,?_,by rw [addS,if_pos hm,if_pos hm]; exact S2,(a2.since.mono fun j hj => .inl hj).set (.inl ⟨.inr (.inl rfl),_,S1.core⟩)⟩
  have c0 := S.core
  have c1 := S1.core
  have hcl := (List.getElem?_eq_some_iff.1 c1).1
  have c2 : ∀ b,(H1.set Y b)[Y]? = some b := fun b => List.getElem?_set_self hcl
  refine ab (fn := be) rfl rfl ?_
  simp(disch:=first|assumption|omega|decide|(simp only[lens]<;>omega)|fail)only[go_sem,be,ptP,e0,e2,mN,c0,c1,c2,e1,wm,a1,List.set_set,e1c,dz]
 ·rw [decide_eq_false hm] at e2
  have hu : used fl + 748 ≤ room := by rcases hu with h | h; exact absurd h hm; exact h
  obtain ⟨b,rr,hs,h0⟩ := mO hn
  obtain ⟨G,k0,g1,g2,g3⟩ := l5 S.rule b rr (by rw [hs] at hsl; simp only [List.length_cons] at hsl; omega) h0
  rw [← hs] at g1
  obtain ⟨H1,hH1⟩ : ∃ H1,H ++ G = H1 := ⟨_,rfl⟩
  rw [hH1] at g1 g2
  have x1 : Since (fun _ => False) H H1 := by rw [← hH1]; exact Since.app _ _
  have x2 : Since (fun _ => False) H1 (H1 ++ [.box [.p (.int .i64 1),.p (.int .i64 500000),.own k0 1]]) := Since.app _ _
  have S1 := S.ext x1
  have S2 := S1.ext x2
  have hg := ft.none hN hn hm
  have k2 : (H1 ++ [.box [.p (.int .i64 1),.p (.int .i64 500000),.own k0 1]])[k0]? = some (rowC false) := by
   rw [List.getElem?_append_left (List.getElem?_eq_some_iff.1 g2).1]; exact g2
  have F2 : RfS X room H fl 0 (H1 ++ [.box [.p (.int .i64 1),.p (.int .i64 500000),.own k0 1]]) := (S.fs.ext x1).ext x2
  obtain ⟨H3,a1,a2,a3⟩ := yx F2 (by omega) (by omega) hg (by omega) k2 g3 hroom hu
  have S3 := S.files a2
  obtain ⟨H4,b1,b2,b3⟩ := uu S3.row (by omega) (fun t ht => by have := br (hN.ok t ht); omega) s (by omega) hn hm
  have S4 := S3.rows b2 b3
  have S5 := S4.nums (ld' := ld) (dr' := dr) (md' := md + 1)
  have q5 : ∀ b,(H4.set Y b)[Y]? = some b := fun b => List.getElem?_set_self (List.getElem?_eq_some_iff.1 S4.core).1
  obtain ⟨H6,d1,d2,d3⟩ := rR S5.fs (by omega) (by omega) (by rfl) fj (by rw [mP hg,List.length_append]; simp only [List.length_singleton]; omega) i hi (k := k)
  rw [fg] at d2
  have S6 := S5.files d2
  have S7 := S6.nums (ld' := ld + 1) (dr' := dr) (md' := md + 1)
  have n := S.ne
  have k4 : Since (KQ Y X RT) H H4 := (a2.since.mono fun j hj => .inl hj).trans (b3.mono fun j hj => .inr (.inr hj))
  have k5 := k4.set (b := .box [.bx X 0,.bx RR 0,.bx RT 0,.p (.int .i64 ld),.p (.int .i64 dr),.p (.int .i64 (md + 1))]) (.inl ⟨.inr (.inl rfl),_,S4.core⟩)
  have k6 := k5.trans (d2.since.mono fun j hj => .inl hj)
  refine ⟨_,?_,by rw [addS,if_neg hm,if_neg hm]; exact S7,k6.set (.inl ⟨.inr (.inl rfl),_,S6.core⟩)⟩
  have c0 := S.core
  have c1 := S1.core
  have c2 := S2.core
  have c3 := S3.core
  have c4 := S4.core
  have c6 := S6.core
  have c7 : ∀ b,(H6.set Y b)[Y]? = some b := fun b => List.getElem?_set_self (List.getElem?_eq_some_iff.1 c6).1
  unfold hdrT at g1 a1
  refine ab (fn := be) rfl rfl ?_
  simp(disch:=first|assumption|omega|decide|(simp only[lens]<;>omega)|fail)only[go_sem,be,ptP,e0,e2,mN,c0,c2,c3,c4,c6,c7,q5,vM,g1,bE,cX,e1,wu,a1,still402,b1,wm,d1,List.set_set,e1c,dz]
end
end Ab
namespace Ab
open Go (IntKind BinOp UnOp)
def t16 : List UInt8 := [115,99,104,101,109,97,32,46,32,49,115,58,49,109,105,110]
def hP (room : Int) : Heap := [.box [.nov,.nov],.box [.p (.sl .nil 4 []),.mp 0],.box [.nov,.nov],.box [.bx 1 0,.p (.int .i64 room),.mp 2],.box [.p (.int .i64 room),.p (.sl .nil 2 []),.p (.sl .nil 2 []),.p (.sl .nil 4 [])],.box [.bx 3 0,.bx 4 0,.bx 13 0,.bx 18 0,.p (.str t16)],.box [.own 8 1,.p (.sl .nil 5 [])],.box [.p (.int .i64 0),.p bh],.row false 4 [schP],.box [.nov,.nov],.box [.mp 9,.p (.int .i64 0)],.box [.bx 10 0,.bx 3 0,.bx 6 0,.p (.int .i64 0),.p (.int .i64 0),.p (.int .i64 0)],.box [.mp 2],.box [.bx 11 0],.box [.own 16 1,.p (.sl .nil 3 [])],.box [.p (.int .i64 0),.p bh],.row false 2 [schR],.box [.p (.sl .nil 1 [])],.box [.bx 4 0,.bx 14 0,.bx 17 0,.p (.int .i64 0),.p (.int .i64 0),.p (.int .i64 0)]]
def hP0 (room : Int) : Heap := [.box [.nov,.nov],.box [.p (.sl .nil 4 []),.mp 0],.box [.nov,.nov],.box [.bx 1 0,.p (.int .i64 room),.mp 2],.box [.p (.int .i64 room),.p (.sl .nil 2 []),.p (.sl .nil 2 []),.p (.sl .nil 4 [])],.box [.bx 3 0,.bx 4 0,.p .nilp,.p .nilp,.p (.str t16)]]
def hP1 (room : Int) : Heap := hP0 room ++ [.box [.own 8 1,.p (.sl .nil 5 [])],.box [.p (.int .i64 0),.p bh],.row false 4 [schP]]
theorem xT (room : Int) : resW Γ 486 [.p (.str t16)] (hP0 room) = some ([.bx 6 0,.p (.int .i64 0)],hP1 room) := eA 600 (by kernel_rfl)
theorem resW_new (room : Int) (h : 0 ≤ room) (h2 : room ≤ 5000) : resW Γ 483 [.p (.int .i64 room)] [] = some ([.bx 3 0,.p (.int .i64 0)],[.box [.nov,.nov],.box [.p (.sl .nil 4 []),.mp 0],.box [.nov,.nov],.box [.bx 1 0,.p (.int .i64 room),.mp 2]]) := by
 have d : decide (room < 0) = false := decide_eq_false (by omega)
 have d2 : decide (1073741824 < room) = false := decide_eq_false (by omega)
 refine ab (fn := pV) rfl rfl ?_
 simp(disch:=first|assumption|omega|decide|(simp only[lens]<;>omega)|fail)only[go_sem,pV,d,d2]
 rfl
theorem Bb (room : Int) (h : 0 ≤ room) (h2 : room ≤ 5000) (H : Heap) : resW Γ 587 [.p (.int .i64 room)] H = some ([.bx H.length 0,.p (.int .i64 0)],H ++ [.box [.p (.int .i64 room),.p (.sl .nil 2 []),.p (.sl .nil 2 []),.p (.sl .nil 4 [])]]) := by
 have d : decide (room < 0) = false := decide_eq_false (by omega)
 have d2 : decide (1073741824 < room) = false := decide_eq_false (by omega)
 refine ab (fn := uR) rfl rfl ?_
 simp(disch:=first|assumption|omega|decide|(simp only[lens]<;>omega)|fail)only[go_sem,uR,d,d2]
end Ab
namespace Ab
open Go (IntKind BinOp UnOp)
def hP2 (room : Int) : Heap := hP1 room ++ [.box [.nov,.nov],.box [.mp 9,.p (.int .i64 0)],.box [.bx 10 0,.bx 3 0,.bx 6 0,.p (.int .i64 0),.p (.int .i64 0),.p (.int .i64 0)],.box [.mp 2],.box [.bx 11 0]]
def hP3 (room : Int) : Heap := hP2 room ++ [.box [.own 16 1,.p (.sl .nil 3 [])],.box [.p (.int .i64 0),.p bh],.row false 2 [schR]]
theorem s9 (room : Int) : resW Γ 611 [.p (.str t16)] (hP2 room) = some ([.bx 14 0,.p (.int .i64 0)],hP3 room) := eA 600 (by kernel_rfl)
end Ab
namespace Ab
open Go (IntKind BinOp UnOp)
theorem still486 : an Γ 486 = true := rfl
theorem ja : an Γ 485 = true := rfl
theorem still611 : an Γ 611 = true := rfl
theorem pJ : an Γ 581 = true := rfl
theorem still471 : an Γ 471 = true := rfl
theorem still598 : an Γ 598 = true := rfl
theorem still586 : an Γ 586 = true := rfl
theorem still587 : an Γ 587 = true := rfl
theorem still483 : an Γ 483 = true := rfl
theorem Ap (room : Int) : resW Γ 395 [.p (.sl .nil 1 [])] (hP1 room) = some ([.bx 10 0],hP1 room ++ [.box [.nov,.nov],.box [.mp 9,.p (.int .i64 0)]]) := eA 60 (by kernel_rfl)
theorem xY (room : Int) : resW Γ 485 [.bx 3 0] (hP1 room ++ [.box [.nov,.nov],.box [.mp 9,.p (.int .i64 0)],.box [.bx 10 0,.bx 3 0,.bx 6 0,.p (.int .i64 0),.p (.int .i64 0),.p (.int .i64 0)]]) = some ([.p (.sl .nil 1 [])],hP1 room ++ [.box [.nov,.nov],.box [.mp 9,.p (.int .i64 0)],.box [.bx 10 0,.bx 3 0,.bx 6 0,.p (.int .i64 0),.p (.int .i64 0),.p (.int .i64 0)],.box [.mp 2]]) := eA 60 (by kernel_rfl)
theorem hP1_len (room : Int) : (hP1 room).length = 9 := rfl
theorem hP3_len (room : Int) : (hP3 room).length = 17 := rfl
theorem x9 (room : Int) : resW Γ 471 [.bx 3 0,.p (.str t16)] (hP0 room) = some ([.bx 13 0,.p (.int .i64 0)],hP2 room) := by
 have a1 := xT room
 have a2 := Ap room
 have a3 := xY room
 have e := hP1_len room
 have e0 : ((0 : Nat) : Int) = 0 := rfl
 refine ab (fn := iW) rfl rfl ?_
 simp(disch:=first|assumption|omega|decide|(simp only[lens]<;>omega)|fail)only[go_sem,iW,still486,a1,still395,a2,ja,a3]
 rw [af (L := gB) rfl]
 simp(disch:=first|assumption|omega|decide|(simp only[lens]<;>omega)|fail)only[go_sem,gB,e0,List.length_append,e]
 rfl
theorem xt (room : Int) : resW Γ 598 [.bx 4 0,.p (.str t16)] (hP2 room) = some ([.bx 18 0,.p (.int .i64 0)],hP3 room ++ [.box [.p (.sl .nil 1 [])],.box [.bx 4 0,.bx 14 0,.bx 17 0,.p (.int .i64 0),.p (.int .i64 0),.p (.int .i64 0)]]) := by
 have a1 := s9 room
 have e := hP3_len room
 have e0 : ((0 : Nat) : Int) = 0 := rfl
 have a3 : resW Γ 581 [.bx 4 0] (hP3 room ++ [.box [.p (.sl .nil 1 [])],.box [.bx 4 0,.bx 14 0,.bx 17 0,.p (.int .i64 0),.p (.int .i64 0),.p (.int .i64 0)]]) = some ([.p (.sl .nil 1 [])],hP3 room ++ [.box [.p (.sl .nil 1 [])],.box [.bx 4 0,.bx 14 0,.bx 17 0,.p (.int .i64 0),.p (.int .i64 0),.p (.int .i64 0)]]) := eA 60 (by kernel_rfl)
 refine ab (fn := mF) rfl rfl ?_
 simp(disch:=first|assumption|omega|decide|(simp only[lens]<;>omega)|fail)only[go_sem,mF,still611,a1,List.length_append,e,pJ,a3]
 rw [af (L := jG) rfl]
 simp(disch:=first|assumption|omega|decide|(simp only[lens]<;>omega)|fail)only[go_sem,jG,e0]
theorem hP_eq (room : Int) : (((hP3 room ++ [Blk.box [.p (.sl .nil 1 [])],Blk.box [.bx 4 0,.bx 14 0,.bx 17 0,.p (.int .i64 0),.p (.int .i64 0),.p (.int .i64 0)]]).set 5 (.box [.bx 3 0,.bx 4 0,.bx 13 0,.p .nilp,.p (.str t16)])).set 5 (.box [.bx 3 0,.bx 4 0,.bx 13 0,.bx 18 0,.p (.str t16)])) = hP room := rfl
theorem Bz (room : Int) : resW Γ 586 [.bx 5 0] (hP0 room) = some ([.p (.bool true)],hP room) := by
 have a1 := x9 room
 have a2 := xt room
 have g0 : (hP0 room)[5]? = some (.box [.bx 3 0,.bx 4 0,.p .nilp,.p .nilp,.p (.str t16)]) := rfl
 have g2 : (hP2 room)[5]? = some (.box [.bx 3 0,.bx 4 0,.p .nilp,.p .nilp,.p (.str t16)]) := rfl
 obtain ⟨G,hG⟩ : ∃ G,hP3 room ++ [Blk.box [.p (.sl .nil 1 [])],Blk.box [.bx 4 0,.bx 14 0,.bx 17 0,.p (.int .i64 0),.p (.int .i64 0),.p (.int .i64 0)]] = G := ⟨_,rfl⟩
 have g3 : G[5]? = some (.box [.bx 3 0,.bx 4 0,.p .nilp,.p .nilp,.p (.str t16)]) := by rw [← hG]; rfl
 have he := hP_eq room
 rw [hG] at a2 he
 have s1 : ∀ b,(G.set 5 b)[5]? = some b := fun b => List.getElem?_set_self (List.getElem?_eq_some_iff.1 g3).1
 rw [← he]
 refine ab (fn := et) rfl rfl ?_
 simp(disch:=first|assumption|omega|decide|(simp only[lens]<;>omega)|fail)only[go_sem,et,g0,still471,a1,g2,still598,a2,g3,s1]
theorem wK (room : Int) (h : 0 ≤ room) (h2 : room ≤ 5000) : resW Γ 578 [.p (.int .i64 room),.p (.str t16)] [] = some ([.bx 5 0,.p (.bool true)],hP room) := by
 have a1 := resW_new room h h2
 have a2 := Bb room h h2 [.box [.nov,.nov],.box [.p (.sl .nil 4 []),.mp 0],.box [.nov,.nov],.box [.bx 1 0,.p (.int .i64 room),.mp 2]]
 have a3 := Bz room
 have g5 : (hP room)[5]? = some (.box [.bx 3 0,.bx 4 0,.bx 13 0,.bx 18 0,.p (.str t16)]) := rfl
 unfold hP0 at a3
 refine ab (fn := kq) rfl rfl ?_
 simp(disch:=first|assumption|omega|decide|(simp only[lens]<;>omega)|fail)only[go_sem,kq,still483,a1,still587,a2,still586,a3,g5]
end Ab
namespace Ab
open Go (IntKind BinOp UnOp)
structure Pr (room : Nat) (N : Tri) (L : Path) (fl : Fl) (ld dr md : Int) (H : Heap) : Prop where
 ps : PSt 11 3 1 2 6 10 room N L fl ld dr md H
 qs : QSt 18 4 14 17 room L fl ld dr md H
 w : H[5]? = some (.box [.bx 3 0,.bx 4 0,.bx 13 0,.bx 18 0,.p (.str t16)])
 sb : H[13]? = some (.box [.bx 11 0])
 fit : Fit L fl
 nd : (bf fl).Nodup
 len : fl.length = L.length
section
variable {room : Nat} {N : Tri} {L : Path} {fl : Fl} {ld dr md : Int} {H : Heap}
theorem Pr.ext {H' : Heap} (P : Pr room N L fl ld dr md H) (hS : Since (fun _ => False) H H') : Pr room N L fl ld dr md H' :=
 ⟨P.ps.ext hS,P.qs.ext hS,hS.box 5 _ P.w (fun e => e),hS.box 13 _ P.sb (fun e => e),P.fit,P.nd,P.len⟩
theorem vS : an Γ 397 = true := rfl
theorem tJ (P : Pr room N L fl ld dr md H) : ∃ v H',resW Γ 469 [.bx 13 0] H = some ([v],H') ∧ RowV H' v L ∧ Ext0 H H' := by
 obtain ⟨v,H',h1,h2,h3⟩ := op_names P.ps.trie P.ps.nms
 refine ⟨v,H',?_,h2,h3⟩
 have c := P.ps.core
 have s := P.sb
 refine ab (fn := bS) rfl rfl ?_
 rcases h2 with ⟨_,rfl⟩ | ⟨_,id,rfl,_⟩
 ·simp(disch:=first|assumption|omega|decide|(simp only[lens]<;>omega)|fail)only[go_sem,bS,s,c,vS,h1]
 ·simp(disch:=first|assumption|omega|decide|(simp only[lens]<;>omega)|fail)only[go_sem,bS,s,c,vS,h1]
theorem s_counts (P : Pr room N L fl ld dr md H) : resW Γ 472 [.bx 13 0] H = some ([.p (.int .i64 ld),.p (.int .i64 dr),.p (.int .i64 md)],H) := by
 have c := P.ps.core
 have s := P.sb
 refine ab (fn := cm) rfl rfl ?_
 simp(disch:=first|assumption|omega|decide|(simp only[lens]<;>omega)|fail)only[go_sem,cm,s,c]
theorem Pr.file (P : Pr room N L fl ld dr md H) {s : List UInt8} (hs : s ∈ bf fl) : 1 ≤ s.length ∧ s.length ≤ 255 ∧ ∃ p,p.length = 12 ∧ fget s fl = some (aZ p) := by
 obtain ⟨x,hx,rfl⟩ := List.mem_map.1 hs
 obtain ⟨t,h1,h2,_⟩ := P.fit.all x hx
 have hsl := br (P.ps.nms.ok t h1)
 have hfn := @fI t
 obtain ⟨p,h3,h4⟩ := P.fit.has t h1
 rw [h2]
 exact ⟨by omega,by omega,p,h3,h4⟩
theorem Pr.flen (P : Pr room N L fl ld dr md H) {x : List UInt8 × List UInt8} (hx : x ∈ fl) : x.1.length ≤ 255 := (P.file (List.mem_map.2 ⟨x,hx,rfl⟩)).2.1
end
end Ab
namespace Ab
open Go (IntKind BinOp UnOp)
section
variable {room : Nat} {N : Tri} {L : Path} {fl : Fl} {ld dr md : Int} {H : Heap}
theorem so {H : Heap} {id n : Nat} {f : Bool} {b : List UInt8} (h : H[id]? = some (.row f 1 (ae b))) (hn : b.length = n) : kJ H (.own id n) = some (.p (.str b)) := by
 have h1 : rowOf H id n = some (1,ae b) := by
  unfold rowOf
  rw [h]
  exact if_pos (by rw [ar]; exact hn)
 simp only [kJ,h1,Option.bind_some,if_true,gA,Option.map_some]
theorem u5 {s : List UInt8} : decide (s ≠ s) = false := by simp
theorem rowS_k (A : Path) : ∃ k,rowS A = .sl k 1 (strs A) := by
 cases A with
 | nil => exact ⟨.nil,rfl⟩
 | cons a r => exact ⟨.any,rfl⟩
theorem tQ {v : AV} {A : Path} {k1 k2 kk : SK} (hv : RowV H v L) (hL : L.length ≤ 1000) (Q : Out → Prop)
  (hQ : ∀ e,look e 0 = .bx 5 0 → look e 3 = .p (.sl k1 1 (strs A)) → look e 4 = .p (.sl k2 1 (strs A)) → Q (.ex 0,e,H)) :
  ∀ (f i : Nat),i + f = L.length → Wp Γ aU [(0,.bx 5 0),(3,.p (.sl k1 1 (strs A))),(4,.p (.sl k2 1 (strs A))),(5,v),(6,.p (.sl kk 1 (strs L))),(10,.p (.int .i64 (i : Int)))] H Q := by
 intro f
 induction f with
 | zero =>
  intro i hi
  have hi : i = L.length := by omega
  subst hi
  rcases hv with ⟨rfl,rfl⟩ | ⟨_,id,rfl,hr⟩
  ·have e0 : (([] : Path).length : Int) = 0 := rfl
   rw [af (L := aU) rfl]
   simp(disch:=first|assumption|omega|decide|(simp only[lens]<;>omega)|fail)only[go_sem,aU]
   exact hQ _ rfl rfl rfl
  ·rw [af (L := aU) rfl]
   simp(disch:=first|assumption|omega|decide|(simp only[lens]<;>omega)|fail)only[go_sem,aU,hr]
   exact hQ _ rfl rfl rfl
 | succ f ih =>
  intro i hi
  have ih := ih (i + 1) (by omega)
  rcases hv with ⟨rfl,rfl⟩ | ⟨_,id,rfl,hr⟩
  ·simp at hi
  ·have hlt : i < L.length := by omega
   rw [af (L := aU) rfl]
   simp(disch:=first|assumption|omega|decide|(simp only[lens]<;>omega)|fail)only[go_sem,aU,hr,u5]
   exact ih
theorem nY {A : Path} {k1 k2 : SK} (P : Pr room N L fl ld dr md H) (hfl : fl.length ≤ 900) (hA : ∀ s ∈ A,s ∈ bf fl) (hl : A.length ≤ 1000) (Q : Out → Prop)
  (hQ : ∀ e H',Since (fun _ => False) H H' → Q (.ex 2,e,H')) :
  ∀ (f i : Nat) (H1 : Heap),i + f = A.length → Since (fun _ => False) H H1 → Wp Γ bz [(0,.bx 5 0),(3,.p (.sl k1 1 (strs A))),(4,.p (.sl k2 1 (strs A))),(11,.p (.int .i64 (i : Int)))] H1 Q := by
 intro f
 induction f with
 | zero =>
  intro i H1 hi hS
  have hi : i = A.length := by omega
  subst hi
  rw [af (L := bz) rfl]
  simp(disch:=first|assumption|omega|decide|(simp only[lens]<;>omega)|fail)only[go_sem,bz]
  exact hQ _ _ hS
 | succ f ih =>
  intro i H1 hi hS
  have hlt : i < A.length := by omega
  have P1 := P.ext hS
  obtain ⟨h1,h2,p,hp,hg⟩ := P.file (hA _ (getD_mem hlt))
  have L0 := eT hp
  have a1 := BD P1.qs.fs h1 h2 hg (by omega)
  obtain ⟨H2,b1,b2,b3⟩ := Bf P1.ps.fs h1 h2 hg (by omega) vX
  have P2 := P1.ext b2
  have c1 := AE P2.qs.fs h1 h2 hg (by omega) (by omega)
  have P3 := P2.ext (Since.app H2 [.row false 1 (ae (aZ p))])
  have hlen2 : H1.length < H2.length := (List.getElem?_eq_some_iff.1 b3).1
  have d1 : (H2 ++ [Blk.row false 1 (ae (aZ p))])[H1.length]? = some (.row false 1 (ae (aZ p))) := by rw [List.getElem?_append_left hlen2]; exact b3
  have d2 : (H2 ++ [Blk.row false 1 (ae (aZ p))])[H2.length]? = some (.row false 1 (ae (aZ p))) := by simp
  have s1 := so d1 L0
  have s2 := so d2 L0
  rw [L0] at a1 b1 c1
  have e748 : ((748 : Nat) : Int) = 748 := rfl
  rw [e748] at a1 b1 c1
  have ih := ih (i + 1) _ (by omega) ((hS.trans b2).trans (Since.app H2 [.row false 1 (ae (aZ p))]))
  have w1 := P1.w
  have w2 := P2.w
  rw [af (L := bz) rfl]
  simp(disch:=first|assumption|omega|decide|(simp only[lens]<;>omega)|fail)only[go_sem,bz,w1,w2,wo,a1,wB,b1,u6,c1,u5,s1,s2]
  exact ih
theorem i9 {l : Path} : (dP l).length = l.length := (b9 l).length_eq
theorem j6 : an Γ 469 = true := rfl
theorem vH : an Γ 472 = true := rfl
theorem zm (P : Pr room N L fl ld dr md H) (hL : L.length ≤ 900) (_hld : 0 ≤ ld ∧ ld ≤ 1000) (_hdr : 0 ≤ dr ∧ dr ≤ 1000) (_hmd : 0 ≤ md ∧ md ≤ 1000) : ∃ H',resW Γ 576 [.bx 5 0] H = some ([.p (.bool true)],H') ∧ Since (fun _ => False) H H' := by
 have hfl := P.len
 have hnl : (bf fl).length = fl.length := by simp [bf]
 have a1 := y5 P.ps.fs (fun x hx => by have := P.flen hx; omega) (by omega)
 obtain ⟨H1,hH1⟩ : ∃ H1,H ++ [Blk.box [.mp 2]] = H1 := ⟨_,rfl⟩
 have x1 : Ext0 H H1 := by rw [← hH1]; exact Ext0.app _ _
 rw [hH1] at a1
 have P1 := P.ext (.ext x1)
 obtain ⟨H2,kk,a2,x2⟩ := r3_list P1.qs.fs (by omega)
 rw [tU P.nd] at a2
 have P2 := P1.ext (.ext x2)
 obtain ⟨v,H3,a3,hv,x3⟩ := tJ P2
 have P3 := P2.ext (.ext x3)
 have S3 : Since (fun _ => False) H H3 := ((Since.ext x1).trans (.ext x2)).trans (.ext x3)
 obtain ⟨k5,r5,_⟩ := P3.qs.row
 have c5 := P3.qs.core
 have a4 := s_counts P3
 obtain ⟨k6,e6⟩ := rowS_k (dP (bf fl))
 have e6' : rowS (dP (List.map (fun x => x.1) fl)) = .sl k6 1 (strs (dP (bf fl))) := e6
 rw [e6'] at a1
 have pb1 := wq x1
 have pb3 := wq x3
 have lS : (strs (dP (bf fl))).length = L.length := by rw [strs_len,i9,hnl,hfl]
 have key : ∃ rs H',resW Γ 576 [.bx 5 0] H = some (rs,H') ∧ rs = [.p (.bool true)] ∧ Since (fun _ => False) H H' := by
  refine fB (fn := cT) (K := fun rs H' => rs = [.p (.bool true)] ∧ Since (fun _ => False) H H') rfl rfl ?_
  have w0 := P.w
  have w1 := P1.w
  have w2 := P2.w
  have w3 := P3.w
  have dl : decide (ld ≠ ld) = false := by simp
  have dd : decide (dr ≠ dr) = false := by simp
  have dm : decide (md ≠ md) = false := by simp
  have l2 := fun Q => tQ (H := H3) (A := dP (bf fl)) (k1 := k6) (k2 := kk) (kk := k5) hv (by omega) Q
  rcases hv with ⟨rfl,rfl⟩ | ⟨_,id,rfl,hr⟩
  ·simp(disch:=first|assumption|omega|decide|(simp only[lens]<;>omega)|fail)only[go_sem,cT,w0,w1,w2,w3,ja,a1,qF,pb1,pJ,a2,j6,a3,pb3,c5,r5,vH,a4,lS,dl,dd,dm]
   refine l2 _ (fun e e0 e3 e4 => ?_) 0 0 rfl
   simp(disch:=first|assumption|omega|decide|(simp only[lens]<;>omega)|fail)only[go_sem,e0,e3,e4]
   refine nY P3 (by omega) (fun s hs => (b9 _).subset hs) (by rw [i9,hnl,hfl]; omega) _ (fun e H' hS => ?_) (dP (bf fl)).length 0 H3 (by omega) (.refl _)
   simp(disch:=first|assumption|omega|decide|(simp only[lens]<;>omega)|fail)only[go_sem,]
   exact S3.trans hS
  ·simp(disch:=first|assumption|omega|decide|(simp only[lens]<;>omega)|fail)only[go_sem,cT,w0,w1,w2,w3,ja,a1,qF,pb1,pJ,a2,j6,a3,pb3,c5,r5,vH,a4,lS,dl,dd,dm,hr]
   refine l2 _ (fun e e0 e3 e4 => ?_) L.length 0 (by omega)
   simp(disch:=first|assumption|omega|decide|(simp only[lens]<;>omega)|fail)only[go_sem,e0,e3,e4]
   refine nY P3 (by omega) (fun s hs => (b9 _).subset hs) (by rw [i9,hnl,hfl]; omega) _ (fun e H' hS => ?_) (dP (bf fl)).length 0 H3 (by omega) (.refl _)
   simp(disch:=first|assumption|omega|decide|(simp only[lens]<;>omega)|fail)only[go_sem,]
   exact S3.trans hS
 obtain ⟨rs,H',h1,rfl,h2⟩ := key
 exact ⟨H',h1,h2⟩
end
end Ab
namespace Ab
open Go (IntKind BinOp UnOp)
theorem n9 {s : List UInt8} : ∀ {l : Fl},fget s l = none → s ∉ bf l
 | [],_ => by simp [bf]
 | (t,c) :: l,h => by
  unfold fget at h
  split at h
  ·cases h
  ·rename_i hne
   have ih := n9 (l := l) h
   simp only [bf,List.map_cons,List.mem_cons,not_or]
   exact ⟨hne,ih⟩
theorem pc {s b c : List UInt8} : ∀ {l : Fl},fget s l = some c → bf (fput s b l) = bf l
 | [],h => by cases h
 | (t,d) :: l,h => by
  unfold fget at h
  split at h
  ·rename_i e
   subst e
   simp [fput,bf]
  ·rename_i hne
   have ih := pc (b := b) (l := l) h
   simp only [fput,if_neg hne,bf,List.map_cons] at ih ⊢
   rw [ih]
theorem yb {s b : List UInt8} {l : Fl} (h : fget s l = none) : bf (fput s b l) = bf l ++ [s] := by
 rw [mP h]; simp [bf]
theorem fK {l : Fl} : (bf l).length = l.length := by simp [bf]
section
variable {room : Nat} {N : Tri} {L : Path} {fl : Fl} {ld dr md : Int} {H : Heap}
theorem sV (S : QSt 18 4 14 17 room L fl ld dr md H) {N : Tri} {L' : Path} (t : TrieN N H 10 L') : ¬ Foot N 18 ∧ ¬ Foot N 4 ∧ ¬ Foot N 14 ∧ ¬ Foot N 17 := by
 obtain ⟨k,w,lv,h1,_⟩ := S.fs.x
 obtain ⟨id,f,u1,_⟩ := S.rule
 obtain ⟨kk,r1,_⟩ := S.row
 exact ⟨dy t.lies S.core (fun m e => by cases e) (fun e => by cases e),dy t.lies h1 (fun m e => by cases e) (fun e => by cases e),dy t.lies u1 (fun m e => by cases e) (fun e => by cases e),dy t.lies r1 (fun m e => by cases e) (fun e => by cases e)⟩
theorem Ac (h : H[5]? = some (.box [.bx 3 0,.bx 4 0,.bx 13 0,.bx 18 0,.p (.str t16)])) (h2 : H[13]? = some (.box [.bx 11 0])) {N : Tri} {L' : Path} (t : TrieN N H 10 L') : ¬ Foot N 5 ∧ ¬ Foot N 13 :=
 ⟨dy t.lies h (fun m e => by cases e) (fun e => by cases e),dy t.lies h2 (fun m e => by cases e) (fun e => by cases e)⟩
theorem pr_mid {H2 : Heap} (P : Pr room N L fl ld dr md H) (hS : Since (KP N 11 1 2) H H2) :
  QSt 18 4 14 17 room L fl ld dr md H2 ∧ H2[5]? = some (.box [.bx 3 0,.bx 4 0,.bx 13 0,.bx 18 0,.p (.str t16)]) ∧ H2[13]? = some (.box [.bx 11 0]) := by
 obtain ⟨q1,q2,q3,q4⟩ := sV P.qs P.ps.trie
 obtain ⟨q5,q6⟩ := Ac P.w P.sb P.ps.trie
 have key : ∀ {j : Nat},¬ Foot N j → j ≠ 1 → j ≠ 2 → j ≠ 11 → ¬ KP N 11 1 2 j := fun hf h1 h2 h3 h => by
  rcases h with h | h | h | h
  ·exact h1 h
  ·exact h2 h
  ·exact h3 h
  ·exact hf h
 exact ⟨P.qs.keep hS (key q1 (by decide) (by decide) (by decide)) (key q2 (by decide) (by decide) (by decide)) (key q3 (by decide) (by decide) (by decide)) (key q4 (by decide) (by decide) (by decide)),
  hS.box 5 _ P.w (key q5 (by decide) (by decide) (by decide)),hS.box 13 _ P.sb (key q6 (by decide) (by decide) (by decide))⟩
theorem pr_end {N' : Tri} {L' : Path} {fl' : Fl} {ld' dr' md' : Int} {H2 H3 : Heap} (S2 : PSt 11 3 1 2 6 10 room N' L' fl' ld' dr' md' H2) (Q2 : QSt 18 4 14 17 room L fl ld dr md H2)
  (w2 : H2[5]? = some (.box [.bx 3 0,.bx 4 0,.bx 13 0,.bx 18 0,.p (.str t16)])) (b2 : H2[13]? = some (.box [.bx 11 0])) (Q3 : QSt 18 4 14 17 room L' fl' ld' dr' md' H3) (hS : Since (KQ 18 4 17) H2 H3)
  (fit : Fit L' fl') (nd : (bf fl').Nodup) (len : fl'.length = L'.length) : Pr room N' L' fl' ld' dr' md' H3 := by
 obtain ⟨q1,q2,q3,q4⟩ := sV Q2 S2.trie
 have key : ∀ {j : Nat},j ≠ 4 → j ≠ 18 → j ≠ 17 → ¬ KQ 18 4 17 j := fun h1 h2 h3 h => by
  rcases h with h | h | h
  ·exact h1 h
  ·exact h2 h
  ·exact h3 h
 exact ⟨S2.keep hS (key (by decide) (by decide) (by decide)) (key (by decide) (by decide) (by decide)) (key (by decide) (by decide) (by decide)) (key (by decide) (by decide) (by decide)) (key (by decide) (by decide) (by decide))
  (fun i hi => key (fun e => q2 (e ▸ hi)) (fun e => q1 (e ▸ hi)) (fun e => q4 (e ▸ hi))),Q3,hS.box 5 _ w2 (key (by decide) (by decide) (by decide)),hS.box 13 _ b2 (key (by decide) (by decide) (by decide)),fit,nd,len⟩
structure Put1 (room : Nat) (L : Path) (ld dr md : Int) (H : Heap) (i : Nat) (s : List UInt8) (k1 k2 : SK) (N' : Tri) (L' : Path) (fl' : Fl) (ld' dr' md' n e n2 e2 : Int) (H2 H3 : Heap) : Prop where
 a : resW Γ 476 [.bx 13 0,.p (.int .i64 1000),.p (.str s),.p (.sl k1 2 [ptP i])] H = some ([.p (.int .i64 n),.p (.int .i64 e)],H2)
 b : resW Γ 577 [.bx 18 0,.p (.int .i64 1000),.p (.str s),.p (.sl k2 2 [ptP i])] H2 = some ([.p (.int .i64 n2),.p (.int .i64 e2)],H3)
 w : H2[5]? = some (.box [.bx 3 0,.bx 4 0,.bx 13 0,.bx 18 0,.p (.str t16)])
 p : Pr room N' L' fl' ld' dr' md' H3
 u : used fl' ≤ room
 l : L'.length ≤ L.length + 1
 e : e = 0 ∨ (e = 4 ∨ e = 14) ∧ L' = L
 ld : 0 ≤ ld' ∧ ld' ≤ ld + 1
 dr : 0 ≤ dr' ∧ dr' ≤ dr + 1
 md : 0 ≤ md' ∧ md' ≤ md + 1
theorem pr_put (P : Pr room N L fl ld dr md H) (hL : L.length ≤ 30) (hroom : room ≤ 5000) (hu : used fl ≤ room) (hld : 0 ≤ ld ∧ ld ≤ 30) (hdr : 0 ≤ dr ∧ dr ≤ 30) (hmd : 0 ≤ md ∧ md ≤ 30) (i : Nat) (hi : i < 30) (s : List UInt8) (hs : s.length ≤ 1000) (k1 k2 : SK) :
  ∃ N' L' fl' ld' dr' md' n e n2 e2 H2 H3,Put1 room L ld dr md H i s k1 k2 N' L' fl' ld' dr' md' n e n2 e2 H2 H3 := by
 have hfl := P.len
 cases hn : nameB s with
 | false =>
  exact ⟨N,L,fl,ld,dr,md,_,_,_,_,H,H,put_bad s hs hn,rput_bad s hn,P.w,P,hu,by omega,.inr ⟨.inr rfl,rfl⟩,by omega,by omega,by omega⟩
 | true =>
  by_cases hc : s ∈ L ∨ used fl + 748 ≤ room
  ·obtain ⟨N',H2,a1,a2,a3,a4⟩ := put_ok P.ps P.sb P.fit (by omega) (by omega) s hn hc (by omega) (by omega) (by omega) i hi (k := k1)
   obtain ⟨Q2,w2,b2⟩ := pr_mid P a3
   obtain ⟨H3,c1,c2,c3⟩ := rput_ok Q2 P.ps.nms P.fit (by omega) (by omega) (by omega) s hn hc (by omega) (by omega) (by omega) i hi (k := k2)
   have hp : (atB ++ valB i).length = 12 := rfl
   have fit := P.fit.put (s := s) hp
   have hmd' : 0 ≤ (if s ∈ L then md else md + 1) ∧ (if s ∈ L then md else md + 1) ≤ md + 1 := by split <;> omega
   have hlen : (bf (fput (fq s) (aZ (atB ++ valB i)) fl)).Nodup ∧ (fput (fq s) (aZ (atB ++ valB i)) fl).length = (addS s L).length ∧ (addS s L).length ≤ L.length + 1 ∧ used (fput (fq s) (aZ (atB ++ valB i)) fl) ≤ room := by
    rw [fit.used]
    by_cases hm : s ∈ L
    ·obtain ⟨p,_,hg⟩ := P.fit.has s hm
     have e := pc (b := aZ (atB ++ valB i)) hg
     have e2 : (fput (fq s) (aZ (atB ++ valB i)) fl).length = fl.length := by rw [← fK,e,fK]
     rw [e,e2,addS,if_pos hm]
     have := P.fit.used
     exact ⟨P.nd,hfl,by omega,by omega⟩
    ·have hu2 : used fl + 748 ≤ room := by rcases hc with h | h; exact absurd h hm; exact h
     have hg := P.fit.none P.ps.nms hn hm
     have e := yb (b := aZ (atB ++ valB i)) hg
     have e2 : (fput (fq s) (aZ (atB ++ valB i)) fl).length = fl.length + 1 := by rw [← fK,e,List.length_append,fK]; rfl
     rw [e,e2,addS,if_neg hm,jY]
     have := P.fit.used
     refine ⟨?_,by omega,by omega,by omega⟩
     rw [List.nodup_append]
     exact ⟨P.nd,by simp,fun a ha b hb hab => n9 hg (by simp only [List.mem_singleton] at hb; rw [← hb,← hab]; exact ha)⟩
   exact ⟨N',_,_,_,_,_,_,_,_,_,H2,H3,a1,c1,w2,pr_end a2 Q2 w2 b2 c2 c3 fit hlen.1 hlen.2.1,hlen.2.2.2,hlen.2.2.1,.inl rfl,by omega,by omega,hmd'⟩
  ·have hm : s ∉ L := fun h => hc (.inl h)
   have hu2 : room < used fl + 748 := by
    have := fun h => hc (.inr h)
    omega
   obtain ⟨H2,a1,a2,a3⟩ := put_full P.ps P.sb P.fit (by omega) (by omega) s hn hm (by omega) hu2 (by omega) i (k := k1)
   obtain ⟨Q2,w2,b2⟩ := pr_mid P a3
   obtain ⟨H3,c1,c2,c3⟩ := A2 Q2 P.ps.nms P.fit (by omega) (by omega) (by omega) s hn hm (by omega) hu2 (by omega) i (k := k2)
   exact ⟨N,L,fl,_,_,_,_,_,_,_,H2,H3,a1,c1,w2,pr_end a2 Q2 w2 b2 c2 c3 P.fit P.nd hfl,hu,by omega,.inr ⟨.inl rfl,rfl⟩,by omega,by omega,by omega⟩
end
end Ab
namespace Ab
theorem yM : ∃ n r,callOf Γ (ev Γ n) 470 ((List.map .p ([] : List PV))) [] = some r ∧ mapO (aq r.2 4) r.1 = some [.bool true] := ⟨1000,([.p (.bool true)],(callOf Γ (ev Γ 1000) 470 [] []).elim [] (·.2)),by kernel_rfl,by kernel_rfl⟩
theorem uo : res Γ 470 [] = some [.bool true] := jl yM
end Ab
namespace Ab
open Go (IntKind BinOp UnOp)
section
variable {room : Nat}
theorem qb : an Γ 476 = true := rfl
theorem qH : an Γ 577 = true := rfl
theorem qS : an Γ 576 = true := rfl
theorem RowV.asLen {H : Heap} {v : AV} {L : Path} (h : RowV H v L) : Ab.asLen H false v = some L.length := by
 rcases h with ⟨rfl,rfl⟩ | ⟨_,id,rfl,hr⟩
 ·rfl
 ·simp only [Ab.asLen,rowOf,hr,strs_len,if_pos,Option.map_some]
theorem uq {N : Tri} {L : Path} {fl : Fl} {ld dr md : Int} {H : Heap} (P : Pr room N L fl ld dr md H) (hL : L.length ≤ 900) : ∃ k xs H',resW Γ 485 [.bx 3 0] H = some ([.p (.sl k 1 xs)],H') ∧ xs.length = L.length ∧ Since (fun _ => False) H H' := by
 have hfl := P.len
 have a1 := y5 P.ps.fs (fun x hx => by have := P.flen hx; omega) (by omega)
 obtain ⟨k,hk⟩ := rowS_k (dP (bf fl))
 have e : rowS (dP (List.map (fun x => x.1) fl)) = .sl k 1 (strs (dP (bf fl))) := hk
 rw [e] at a1
 exact ⟨k,_,_,a1,by rw [strs_len,i9,fK,hfl],Since.app _ _⟩
theorem sf_l1_ok {k : SK} (ns : Path) (hn : ns.length ≤ 30) (hroom : room ≤ 5000) (Q : Out → Prop)
  (hQ1 : ∀ e H,look e 4 = .p (.bool true) → Q (.ret,e,H)) (hQ2 : ∀ e H,Q (.ex 0,e,H)) :
  ∀ (f i : Nat),i + f = ns.length → ∀ N L fl ld dr md H,Pr room N L fl ld dr md H → L.length ≤ i → used fl ≤ room → 0 ≤ ld ∧ ld ≤ (i : Int) → 0 ≤ dr ∧ dr ≤ (i : Int) → 0 ≤ md ∧ md ≤ (i : Int) →
  Wp Γ aB [(0,.p (.int .i64 (room : Int))),(1,.p (.sl k 1 (strs ns))),(5,.bx 5 0),(7,.p (.int .i64 (i : Int)))] H Q := by
 intro f
 induction f with
 | zero =>
  intro i hi N L fl ld dr md H P hl hu h1 h2 h3
  have hi : i = ns.length := by omega
  subst hi
  rw [af (L := aB) rfl]
  simp(disch:=first|assumption|omega|decide|(simp only[lens]<;>omega)|fail)only[go_sem,aB]
  exact hQ2 _ _
 | succ f ih =>
  intro i hi N L fl ld dr md H P hl hu h1 h2 h3
  have hlt : i < ns.length := by omega
  by_cases hlen : (ns.getD i []).length > 210
  ·have d : decide (((ns.getD i []).length : Int) > 210) = true := decide_eq_true (by omega)
   rw [af (L := aB) rfl]
   simp(disch:=first|assumption|omega|decide|(simp only[lens]<;>omega)|fail)only[go_sem,aB,d]
   exact hQ1 _ _ rfl
  ·have d : decide (((ns.getD i []).length : Int) > 210) = false := decide_eq_false (by omega)
   obtain ⟨v,Ha,a1,hv,xa⟩ := tJ P
   have Pa := P.ext (.ext xa)
   obtain ⟨N',L',fl',ld',dr',md',n,e,n2,e2,H2,H3,U⟩ := pr_put Pa (by omega) hroom hu (by omega) (by omega) (by omega) i (by omega) (ns.getD i []) (by omega) .tight .tight
   obtain ⟨ua,ub,w2,P3,hu3,hl3,he,hld3,hdr3,hmd3⟩ := U
   have w0 := P.w
   have wa := Pa.w
   have w3 := P3.w
   have hla := hv.asLen
   unfold ptP at ua ub
   have hus := P3.fit.used
   have hfl := P3.len
   rcases he with rfl | ⟨he,rfl⟩
   ·obtain ⟨H4,q1,q2⟩ := zm P3 (by omega) (by omega) (by omega) (by omega)
    have P4 := P3.ext q2
    have w4 := P4.w
    have ks := fH w4
    have u4 := pL P4.ps.fs (by omega)
    obtain ⟨k5,xs,H5,q3,q4,q5⟩ := uq P4 (by omega)
    have P5 := P4.ext q5
    have ih := ih (i + 1) (by omega) N' L' fl' ld' dr' md' H5 P5 (by omega) hu3 (by omega) (by omega) (by omega)
    have d1 : decide ((used fl' : Int) > (room : Int)) = false := decide_eq_false (by omega)
    have d2 : decide ((used fl' : Int) ≠ 748 * (L'.length : Int)) = false := decide_eq_false (by omega)
    rw [af (L := aB) rfl]
    simp(disch:=first|assumption|omega|decide|(simp only[lens]<;>omega)|fail)only[go_sem,aB,d,w0,j6,a1,wa,w2,ua,ub,qb,qH,hla,qS,q1,w4,kF,u4,ja,q3,q4,d1,d2,ks]
    exact ih
   ·obtain ⟨v',Hb,m1,hv',xb⟩ := tJ P3
    have Pb := P3.ext (.ext xb)
    have hlb := hv'.asLen
    have wb := Pb.w
    obtain ⟨k6,ys,Hc,m2,m3,m4⟩ := uq Pb (by omega)
    have Pc := Pb.ext m4
    have wc := Pc.w
    obtain ⟨H4,q1,q2⟩ := zm Pc (by omega) (by omega) (by omega) (by omega)
    have P4 := Pc.ext q2
    have w4 := P4.w
    have ks := fH w4
    have u4 := pL P4.ps.fs (by omega)
    obtain ⟨k5,xs,H5,q3,q4,q5⟩ := uq P4 (by omega)
    have P5 := P4.ext q5
    have ih := ih (i + 1) (by omega) N' L' fl' ld' dr' md' H5 P5 (by omega) hu3 (by omega) (by omega) (by omega)
    have d1 : decide ((used fl' : Int) > (room : Int)) = false := decide_eq_false (by omega)
    have d2 : decide ((used fl' : Int) ≠ 748 * (L'.length : Int)) = false := decide_eq_false (by omega)
    have d3 : decide ((L'.length : Int) ≠ (L'.length : Int)) = false := decide_eq_false (by simp)
    rcases he with rfl | rfl
    ·rw [af (L := aB) rfl]
     simp(disch:=first|assumption|omega|decide|(simp only[lens]<;>omega)|fail)only[go_sem,aB,d,w0,j6,a1,wa,w2,w3,ua,ub,qb,qH,hla,m1,hlb,wb,m2,m3,qS,q1,w4,kF,u4,ja,q3,q4,d1,d2,d3,ks]
     exact ih
    ·rw [af (L := aB) rfl]
     simp(disch:=first|assumption|omega|decide|(simp only[lens]<;>omega)|fail)only[go_sem,aB,d,w0,j6,a1,wa,w2,w3,ua,ub,qb,qH,hla,m1,hlb,wb,m2,m3,qS,q1,w4,kF,u4,ja,q3,q4,d1,d2,d3,ks]
     exact ih
end
end Ab
namespace Ab
open Go (IntKind BinOp UnOp)
theorem hP_trie (room : Int) : TrieN (tri0 9) (hP room) 10 [] := by
 have h := trie0 ((hP room).take 9)
 have e : (hP room).take 9 ++ [Blk.box (ah [])] ++ [Blk.box [.mp ((hP room).take 9).length,.p (.int .i64 0)]] ++ (hP room).drop 11 = hP room := rfl
 have h2 := h.ext (Ext0.app _ ((hP room).drop 11))
 rw [e] at h2
 exact h2
theorem hP_pr (room : Nat) : Pr room (tri0 9) [] [] 0 0 0 (hP room) where
 ps := {
  core := rfl
  fs := ⟨rfl,⟨[],rfl,trivial,fun x hx => by simp at hx⟩,fun i hi => hi.elim,⟨_,_,rfl,.inl ⟨rfl,rfl⟩⟩,.refl _⟩
  trie := hP_trie room
  nms := ⟨.nil,by simp,by simp⟩
  rules := ⟨8,false,rfl,rfl⟩
  sep := fun h => by have := zQ h; omega }
 qs := ⟨rfl,⟨⟨_,_,_,rfl,.inl ⟨rfl,rfl⟩⟩,.refl _⟩,⟨.nil,rfl,.inr ⟨rfl,rfl⟩⟩,⟨16,false,rfl,rfl⟩⟩
 w := rfl
 sb := rfl
 fit := ⟨by simp,by simp⟩
 nd := .nil
 len := rfl
theorem still578 : an Γ 578 = true := rfl
theorem qy {k : SK} (room : Int) (ns : Path) : res Γ 635 [.int .i64 room,.sl k 1 (strs ns)] = some [.bool true] := by
 by_cases h1 : room < 0
 ·have d : decide (room < 0) = true := decide_eq_true h1
  refine aw (fn := bd) rfl rfl ?_
  simp(disch:=first|assumption|omega|decide|(simp only[lens]<;>omega)|fail)only[go_sem,bd,d]
 ·have d : decide (room < 0) = false := decide_eq_false h1
  by_cases h2 : room > 5000
  ·have d2 : decide (5000 < room) = true := decide_eq_true h2
   refine aw (fn := bd) rfl rfl ?_
   simp(disch:=first|assumption|omega|decide|(simp only[lens]<;>omega)|fail)only[go_sem,bd,d,d2]
  ·have d2 : decide (5000 < room) = false := decide_eq_false h2
   by_cases h3 : ns.length > 30
   ·have d3 : decide (30 < (ns.length : Int)) = true := decide_eq_true (by omega)
    refine aw (fn := bd) rfl rfl ?_
    simp(disch:=first|assumption|omega|decide|(simp only[lens]<;>omega)|fail)only[go_sem,bd,d,d2,d3]
   ·have d3 : decide (30 < (ns.length : Int)) = false := decide_eq_false (by omega)
    obtain ⟨r,hr⟩ : ∃ r : Nat,room = (r : Int) := ⟨room.toNat,by omega⟩
    have a1 := wK room (by omega) (by omega)
    unfold t16 at a1
    subst hr
    have hk := uo
    refine aw (fn := bd) rfl rfl ?_
    simp(disch:=first|assumption|omega|decide|(simp only[lens]<;>omega)|fail)only[go_sem,bd,d,d2,d3,still578,a1]
    refine sf_l1_ok ns (by omega) (by omega) _ (fun e H he => ?_) (fun e H => ?_) ns.length 0 (by omega) _ _ _ _ _ _ _ (hP_pr r) (by simp) (by simp [used]) (by simp) (by simp) (by simp)
    ·simp(disch:=first|assumption|omega|decide|(simp only[lens]<;>omega)|fail)only[go_sem,he]
    ·simp(disch:=first|assumption|omega|decide|(simp only[lens]<;>omega)|fail)only[go_sem,hk]
theorem oQ {kk : SK} (room : Int) (ns : Path) (_ : -9223372036854775808 ≤ room ∧ room ≤ 9223372036854775807) : res Γ 635 [.int .i64 room,.sl kk 1 (strs ns)] = some [.bool true] := qy room ns
end Ab
