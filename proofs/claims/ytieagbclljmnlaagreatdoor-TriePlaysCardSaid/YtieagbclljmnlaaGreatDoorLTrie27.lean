import Derived.Test.YtieagbclljmnlaaGreatDoorLTrie16
import Derived.Test.YtieagbclljmnlaaGreatDoorCode
import Derived.Test.YtieagbclljmnlaaGreatDoorAbTag
import Derived.KernelRfl
import Derived.Test.YtieagbclljmnlaaGreatDoorLGlob4
namespace Ab
open Go (IntKind BinOp UnOp)
theorem mem_addK {K : List HitB} {h x : HitB} : x ∈ addK K h ↔ x ∈ K ∨ x = h := by
 unfold addK
 split
 ·rename_i hm
  exact ⟨.inl,fun h => h.elim id fun e => e ▸ hm⟩
 ·simp
theorem mem_nodeK {K : List HitB} {s : List UInt8} {lf kids : Bool} {x : HitB} : x ∈ nodeK K s lf kids ↔ x ∈ K ∨ (lf = true ∧ x = (s,true)) ∨ (kids = true ∧ x = (s,false)) := by
 unfold nodeK
 cases lf <;> cases kids <;> simp [mem_addK,or_assoc]
theorem nodup_addK {K : List HitB} {h : HitB} (hk : K.Nodup) : (addK K h).Nodup := by
 unfold addK
 split
 ·exact hk
 ·rename_i hm
  rw [List.nodup_append]
  refine ⟨hk,by simp,fun a ha b hb => ?_⟩
  simp only [List.mem_singleton] at hb
  subst hb
  exact fun e => hm (e ▸ ha)
theorem nodup_nodeK {K : List HitB} {s : List UInt8} {lf kids : Bool} (hk : K.Nodup) : (nodeK K s lf kids).Nodup := by
 unfold nodeK
 cases lf <;> cases kids
 ·exact hk
 ·exact nodup_addK hk
 ·exact nodup_addK hk
 ·exact nodup_addK (nodup_addK hk)
def Answers (N : Tri) (w q : Path) (x : HitB) : Prop := w.length ≤ q.length ∧ ((leafAt N q = true ∧ x = (joinB [46] q,true)) ∨ (hasKids N q = true ∧ x = (joinB [46] q,false)))
theorem mem_stF {N : Tri} {w q : Path} {K : List HitB} {x : HitB} : x ∈ stF N w K q ↔ x ∈ K ∨ Answers N w q x := by
 unfold stF Answers
 split
 ·rename_i h
  exact ⟨.inl,fun h' => h'.elim id fun h' => absurd h'.1 (by omega)⟩
 ·rename_i h
  rw [mem_nodeK]
  have : w.length ≤ q.length := by omega
  simp [this]
theorem mem_foldF {N : Tri} {w : Path} {x : HitB} : ∀ {l : List Path} {K : List HitB},x ∈ l.foldl (stF N w) K ↔ x ∈ K ∨ ∃ q ∈ l,Answers N w q x := by
 intro l
 induction l with
 | nil => simp
 | cons q l ih =>
  intro K
  rw [List.foldl_cons,ih,mem_stF]
  simp [or_assoc]
theorem nodup_foldF {N : Tri} {w : Path} : ∀ {l : List Path} {K : List HitB},K.Nodup → (l.foldl (stF N w) K).Nodup := by
 intro l
 induction l with
 | nil => exact fun h => h
 | cons q l ih =>
  intro K h
  rw [List.foldl_cons]
  refine ih ?_
  unfold stF
  split
  ·exact h
  ·exact nodup_nodeK h
theorem mem_findK {N : Tri} {x : HitB} : ∀ {ws : List Path} {K : List HitB},x ∈ findK N ws K ↔ x ∈ K ∨ ∃ w ∈ ws,∃ q ∈ vis N (wantB w) 21 [],Answers N w q x := by
 intro ws
 induction ws with
 | nil => intro K; simp [findK]
 | cons w ws ih =>
  intro K
  have e : findK N (w :: ws) K = findK N ws ((vis N (wantB w) 21 []).foldl (stF N w) K) := rfl
  rw [e,ih,mem_foldF]
  simp [or_assoc]
theorem nodup_findK {N : Tri} : ∀ {ws : List Path} {K : List HitB},K.Nodup → (findK N ws K).Nodup := by
 intro ws
 induction ws with
 | nil => exact fun h => h
 | cons w ws ih => exact fun h => ih (nodup_foldF h)
theorem hitKeys_hit {K : List HitB} (h : ∀ x ∈ K,x.1.length ≤ lim) : hitKeysIn (hitM K) = some K := by
 induction K with
 | nil => rfl
 | cons x r ih =>
  obtain ⟨s,l⟩ := x
  have h1 := h (s,l) (by simp)
  have h2 := ih fun x hx => h x (by simp [hx])
  simp only [hitM] at h2
  simp only [hitM,List.map_cons,hitP,hitKeysIn]
  rw [if_pos h1]
  simp only [hitP] at h2
  rw [h2]
  rfl
theorem findK_len {N : Tri} (ht : Tiny N) {ws : List Path} : ∀ x ∈ findK N ws [],x.1.length ≤ 1000 := by
 intro x hx
 rcases mem_findK.1 hx with h | ⟨w,_,q,_,h1,h2⟩
 ·cases h
 ·have hq : ∃ nd,N q = some nd := by
   rcases h2 with ⟨h,_⟩ | ⟨h,_⟩
   ·exact leaf_some h
   ·unfold hasKids at h
    split at h
    ·rename_i nd e; exact ⟨nd,e⟩
    ·cases h
  obtain ⟨nd,hq⟩ := hq
  have := (ht.deep q nd hq).2
  rcases h2 with ⟨_,rfl⟩ | ⟨_,rfl⟩ <;> exact this
theorem resW_keysH (m : Nat) (H : Heap) : resW Γ 408 [.mp m] H = some ([.clo 425 [.bx H.length 0]],H ++ [.box [.mp m]]) := by
 refine resW_code (fn := maps_Keys_map_api_Hit_bool_api_Hit_bool) rfl rfl ?_
 simp (disch := first | assumption | omega | decide | (simp only [lens] <;> omega) | fail) only [go_sem,maps_Keys_map_api_Hit_bool_api_Hit_bool,boxA]
theorem still408 : stillW Γ 408 = true := rfl
theorem still409 : stillW Γ 409 = true := rfl
theorem resW_sortH {H : Heap} {m : Nat} {K : List HitB} (hm : H[m]? = some (.box (mapCells (hitM K)))) (hK : ∀ x ∈ K,x.1.length ≤ 1000) (hl : K.length ≤ lim) :
  resW Γ 409 [.clo 425 [.bx H.length 0],.p (.clo 410 [])] (H ++ [.box [.mp m]]) = some ([.p (rowH (sortH K))],H ++ [.box [.mp m]]) := by
 have hml : m < H.length := (List.getElem?_eq_some_iff.1 hm).1
 have b1 : boxOf (H ++ [.box [.mp m]]) H.length = some [.mp m] := by simp [boxOf]
 have b2 : mapOf (H ++ [.box [.mp m]]) m = some (hitM K) := by
  unfold mapOf
  rw [List.getElem?_append_left hml,hm]
  exact flatIn _
 have b3 := hitKeys_hit (K := K) fun x hx => Nat.le_trans (hK x hx) (by decide)
 refine resW_lookc (c := 410) (fn := trie_compare) (q := hitsQ) (g := hitsG [425] 410) (ps := K.flatMap fun a => K.map fun b => ([hitP a,hitP b],cmpH a b)) (rs := [rowH (sortH K)]) rfl rfl ?_ ?_ ?_
 ·show (boxOf (H ++ [.box [.mp m]]) H.length).bind (hitsQV (H ++ [.box [.mp m]])) = _
  rw [b1]
  show (mapOf (H ++ [.box [.mp m]]) m).bind _ = _
  rw [b2]
  show (hitKeysIn (hitM K)).map _ = _
  rw [b3]
  rfl
 ·show (boxOf (H ++ [.box [.mp m]]) H.length).bind (hitsV (H ++ [.box [.mp m]])) = _
  rw [b1]
  show (mapOf (H ++ [.box [.mp m]]) m).bind _ = _
  rw [b2]
  show (hitKeysIn (hitM K)).bind _ = _
  rw [b3]
  show (if (hitM K).length ≤ lim then _ else _) = _
  rw [if_pos (by unfold hitM; rw [List.length_map]; exact hl)]
 ·intro p hp
  obtain ⟨a,ha,hp⟩ := List.mem_flatMap.1 hp
  obtain ⟨b,hb,rfl⟩ := List.mem_map.1 hp
  exact res_compare a b (hK a ha) (hK b hb)
theorem op_find_err {t : AV} {H : Heap} {s : List UInt8} {e : Int} (h : res Γ 16 [.str s] = some [.sl .nil 1 [],.int .i64 e]) (he : e ≠ 0) : resW Γ 394 [t,.p (.str s)] H = some ([.p (.sl .nil 2 []),.p (.int .i64 e)],H) := by
 refine resW_code (fn := trie_Trie_Find) rfl rfl ?_
 simp (disch := first | assumption | omega | decide | (simp only [lens] <;> omega) | fail) only [go_sem,trie_Trie_Find,h]
theorem op_find_bad {kk : SK} {t : AV} {H : Heap} {s : List UInt8} {out : Path} (h : res Γ 16 [.str s] = some [.sl kk 1 (strs out),.int .i64 0]) (hl : out.length ≤ 1000) (hp : ∀ p ∈ out,p.length ≤ 100000) (hb : ¬ ∀ p ∈ out,patOk p = true) :
  ∃ H',resW Γ 394 [t,.p (.str s)] H = some ([.p (.sl .nil 2 []),.p (.int .i64 8)],H') ∧ Ext0 H H' := by
 have key : ∃ rs H',resW Γ 394 [t,.p (.str s)] H = some (rs,H') ∧ rs = [.p (.sl .nil 2 []),.p (.int .i64 8)] ∧ Ext0 H H' := by
  refine resW_ex (fn := trie_Trie_Find) (K := fun rs H' => rs = [.p (.sl .nil 2 []),.p (.int .i64 8)] ∧ Ext0 H H') rfl rfl ?_
  simp (disch := first | assumption | omega | decide | (simp only [lens] <;> omega) | fail) only [go_sem,trie_Trie_Find,h]
  refine find_l2_ok out hl hp H _ (fun h => absurd h hb) (fun _ e b e4 e5 => ?_) out.length 0 (by omega) (by simp)
  simp (disch := first | assumption | omega | decide | (simp only [lens] <;> omega) | fail) only [go_sem,e4,e5]
  exact Ext0.app _ _
 obtain ⟨rs,H',h1,rfl,h2⟩ := key
 exact ⟨H',h1,h2⟩
theorem op_find_nil {kk : SK} {H : Heap} {s : List UInt8} {out : Path} (h : res Γ 16 [.str s] = some [.sl kk 1 (strs out),.int .i64 0]) (hl : out.length ≤ 1000) (hp : ∀ p ∈ out,p.length ≤ 100000) (hb : ∀ p ∈ out,patOk p = true) :
  ∃ H',resW Γ 394 [.p .nilp,.p (.str s)] H = some ([.p (.sl .nil 2 []),.p (.int .i64 0)],H') ∧ Ext0 H H' := by
 have key : ∃ rs H',resW Γ 394 [.p .nilp,.p (.str s)] H = some (rs,H') ∧ rs = [.p (.sl .nil 2 []),.p (.int .i64 0)] ∧ Ext0 H H' := by
  refine resW_ex (fn := trie_Trie_Find) (K := fun rs H' => rs = [.p (.sl .nil 2 []),.p (.int .i64 0)] ∧ Ext0 H H') rfl rfl ?_
  simp (disch := first | assumption | omega | decide | (simp only [lens] <;> omega) | fail) only [go_sem,trie_Trie_Find,h]
  refine find_l2_ok out hl hp H _ (fun _ e e0 e8 => ?_) (fun h => absurd hb h) out.length 0 (by omega) (by simp)
  simp (disch := first | assumption | omega | decide | (simp only [lens] <;> omega) | fail) only [go_sem,e0,e8]
  exact Ext0.app _ _
 obtain ⟨rs,H',h1,rfl,h2⟩ := key
 exact ⟨H',h1,h2⟩
theorem len3 {H : Heap} {a b : Blk} : List.length (H ++ [a,b]) = H.length + 2 := by simp
theorem at3 {H : Heap} {a b c : Blk} : (H ++ [a,b,c])[H.length + 2]? = some c := by simp
theorem set3 {H : Heap} {a b c d : Blk} : (H ++ [a,b,c]).set (H.length + 2) d = H ++ [a,b,d] := by
 rw [List.set_append_right _ _ (by omega),Nat.add_sub_cancel_left]
 rfl
theorem at3a {H : Heap} {a b c : Blk} : (H ++ [a,b,c])[H.length]? = some a := by simp
def findP (K : List HitB) : List AV := if 512 < K.length then [.p (.sl .nil 2 []),.p (.int .i64 13)] else [.p (rowH (sortH K)),.p (.int .i64 0)]
theorem op_find {kk : SK} {N : Tri} {H : Heap} {r : Nat} {L : Path} (hN : TrieN N H r L) (hL : Nms L) {s : List UInt8} {out : Path} (h : res Γ 16 [.str s] = some [.sl kk 1 (strs out),.int .i64 0]) (hl : out.length ≤ 1000) (hp : ∀ p ∈ out,p.length ≤ 10000) (hb : ∀ p ∈ out,patOk p = true) :
  ∃ H',resW Γ 394 [.bx r 0,.p (.str s)] H = some (findP (findK N (out.map prt) []),H') ∧ Ext0 H H' := by
 have ht := hN.tiny hL
 have hkl := findK_len ht (ws := out.map prt)
 have key : ∃ rs H',resW Γ 394 [.bx r 0,.p (.str s)] H = some (rs,H') ∧ rs = findP (findK N (out.map prt) []) ∧ Ext0 H H' := by
  refine resW_ex (fn := trie_Trie_Find) (K := fun rs H' => rs = findP (findK N (out.map prt) []) ∧ Ext0 H H') rfl rfl ?_
  simp (disch := first | assumption | omega | decide | (simp only [lens] <;> omega) | fail) only [go_sem,trie_Trie_Find,h]
  refine find_l2_ok out hl (fun p h => Nat.le_trans (hp p h) (by omega)) H _ (fun _ e e0 e8 => ?_) (fun h => absurd hb h) out.length 0 (by omega) (by simp)
  have hra : rowAt (some (Blk.row false 1 (wantsP (out.map prt)))) out.length = some (1,wantsP (out.map prt)) := rowAt_pos (by rw [wantsP_len,List.length_map])
  simp (disch := first | assumption | omega | decide | (simp only [lens] <;> omega) | fail) only [go_sem,e0,e8,len2,len3,at3,set3,at3a,hra]
  have hS : FindS N r L.length H.length (H.length + 2) (H.length + 1) (out.map prt) H.length H [] (H ++ [Blk.row false 1 (wantsP (out.map prt)),Blk.box (mapCells (hitM [])),Blk.box [.mp (H.length + 1)]]) :=
   { lies := hN.lies.keep fun i hi => List.getElem?_append_left (hN.lies.foot_lt hi),base := fun i hi => hN.lies.foot_lt hi,map := by omega,all := by simp,box := by simp,seen := by simp,old := fun i hi => List.getElem?_append_left hi,len := by simp }
  have hlen : (out.map prt).length = out.length := by simp
  have hf : findK N ((out.map prt).drop 0) [] = findK N (out.map prt) [] := rfl
  have hgo := fun Q hQ => find_l1_go ht (fun w => hN.vis_len hL (wantB w)) (ws := out.map prt) (by rw [hlen]; exact hl) (fun w hw => by
   obtain ⟨p,hp',rfl⟩ := List.mem_map.1 hw
   have h1 := (List.all_eq_true.1 rfl : ∀ x ∈ ([] : List Nat),(true : Bool) = true)
   have hok := hb p hp'
   simp only [patOk,Bool.and_eq_true,decide_eq_true_eq] at hok
   exact ⟨Nat.le_trans hok.2 (by omega),fun x hx => Nat.le_trans (splitB_mem_len hx) (hp p hp')⟩) [] Q hQ (out.map prt).length 0 [] _ (by omega) hS hf
  rw [hlen] at hgo
  refine hgo _ fun e H' e13 hF => ?_
  have hbx := hF.box
  have hsn := hF.seen
  have hml : (hitM (findK N (out.map prt) [])).length = (findK N (out.map prt) []).length := by simp [hitM]
  have hx : Ext0 H H' := ⟨hF.len,hF.old⟩
  have k1 := resW_keysH (H.length + 1) H'
  unfold findP
  by_cases hgt : 512 < (findK N (out.map prt) []).length
  ·rw [if_pos hgt]
   simp (disch := first | assumption | omega | decide | (simp only [lens] <;> omega) | fail) only [go_sem,e13,hbx,hsn,hml]
   exact hx
  ·rw [if_neg hgt]
   have k2 := resW_sortH hsn hkl (by unfold lim; omega)
   simp (disch := first | assumption | omega | decide | (simp only [lens] <;> omega) | fail) only [go_sem,e13,hbx,hsn,hml,still408,still409,k1,k2]
   exact hx.trans (Ext0.app _ _)
 obtain ⟨rs,H',h1,rfl,h2⟩ := key
 exact ⟨H',h1,h2⟩
end Ab
namespace Ab
open Go (IntKind BinOp UnOp)
open Go.RowKit Go.Maps Go.Sort Go.Proofs
def hitAt (w ps : Path) : Prop := w.length ≤ ps.length ∧ ∀ i,i < w.length → matchB (w.getD i []) (ps.getD i []) = true
open Classical in
noncomputable def hitB (w : Path) (s : List UInt8) : Option HitB := if hitAt w (prt s) then some (joinB [46] ((prt s).take w.length),decide ((prt s).length = w.length)) else none
def layH (x : HitB) : List HitB → List HitB
 | [] => [x]
 | t :: r => if hitLess t x then t :: layH x r else if t = x then t :: r else x :: t :: r
noncomputable def layO (D : List HitB) (o : Option HitB) : List HitB := match o with | some x => layH x D | none => D
noncomputable def refW (w : Path) (L : Path) (D : List HitB) : List HitB := L.foldl (fun D s => layO D (hitB w s)) D
noncomputable def refK (ws : List Path) (L : Path) (D : List HitB) : List HitB := ws.foldl (fun D w => refW w L D) D
def ltH (a b : HitB) : Prop := hitLess a b = true
theorem ltH_trans {a b c : HitB} (h1 : ltH a b) (h2 : ltH b c) : ltH a c := by
 have h1 : ltOf cfT (unp a) (unp b) = true := by rw [← hitLess_eq]; exact h1
 have h2 : ltOf cfT (unp b) (unp c) = true := by rw [← hitLess_eq]; exact h2
 have := ltT_trans h1 h2
 rw [← hitLess_eq] at this
 exact this
theorem ltH_irrefl (a : HitB) : ¬ ltH a a := by
 intro h
 have h : ltOf cfT (unp a) (unp a) = true := by rw [← hitLess_eq]; exact h
 rw [ltT_irrefl] at h; cases h
theorem ltH_of {a b : HitB} (h1 : ¬ ltH a b) (h2 : a ≠ b) : ltH b a := by
 cases e : hitLess b a
 ·exact absurd (leH_antisymm (a := a) (b := b) e (by unfold leH; cases e2 : hitLess a b; rfl; exact absurd e2 h1)) h2
 ·exact e
theorem mem_layH {x y : HitB} : ∀ {D : List HitB},y ∈ layH x D ↔ y = x ∨ y ∈ D
 | [] => by simp [layH]
 | t :: r => by
  unfold layH
  split
  ·rw [List.mem_cons,mem_layH,List.mem_cons]
   constructor
   ·rintro (h | h | h) <;> simp [h]
   ·rintro (h | h | h) <;> simp [h]
  ·split
   ·rename_i h; subst h; simp
   ·simp
theorem sorted_layH {x : HitB} : ∀ {D : List HitB},D.Pairwise ltH → (layH x D).Pairwise ltH
 | [],_ => by simp [layH]
 | t :: r,h => by
  obtain ⟨h1,h2⟩ := List.pairwise_cons.1 h
  unfold layH
  split
  ·rename_i hb
   refine List.pairwise_cons.2 ⟨fun y hy => ?_,sorted_layH h2⟩
   rcases mem_layH.1 hy with rfl | hy
   ·exact hb
   ·exact h1 y hy
  ·rename_i hb
   split
   ·exact h
   ·rename_i hne
    have hx := ltH_of hb hne
    refine List.pairwise_cons.2 ⟨fun y hy => ?_,h⟩
    rcases List.mem_cons.1 hy with rfl | hy
    ·exact hx
    ·exact ltH_trans hx (h1 y hy)
theorem mem_layO {o : Option HitB} {y : HitB} {D : List HitB} : y ∈ layO D o ↔ o = some y ∨ y ∈ D := by
 cases o with
 | none => simp [layO]
 | some x => simp [layO,mem_layH,eq_comm]
theorem sorted_layO {o : Option HitB} {D : List HitB} (h : D.Pairwise ltH) : (layO D o).Pairwise ltH := by
 cases o with
 | none => exact h
 | some x => exact sorted_layH h
theorem layH_len {x : HitB} : ∀ {D : List HitB},(layH x D).length ≤ D.length + 1
 | [] => by simp [layH]
 | t :: r => by
  have := @layH_len x r
  unfold layH
  split
  ·simp only [List.length_cons]; omega
  ·split <;> simp only [List.length_cons] <;> omega
theorem layO_len {o : Option HitB} {D : List HitB} : (layO D o).length ≤ D.length + 1 := by
 cases o with
 | none => simp [layO]
 | some x => exact layH_len
theorem mem_refW {w : Path} {y : HitB} : ∀ {L : Path} {D : List HitB},y ∈ refW w L D ↔ y ∈ D ∨ ∃ s ∈ L,hitB w s = some y := by
 intro L
 induction L with
 | nil => simp [refW]
 | cons s L ih =>
  intro D
  have e : refW w (s :: L) D = refW w L (layO D (hitB w s)) := rfl
  rw [e,ih,mem_layO]
  constructor
  ·rintro ((h | h) | ⟨s',h1,h2⟩)
   ·exact .inr ⟨s,by simp,h⟩
   ·exact .inl h
   ·exact .inr ⟨s',by simp [h1],h2⟩
  ·rintro (h | ⟨s',h1,h2⟩)
   ·exact .inl (.inr h)
   ·rcases List.mem_cons.1 h1 with rfl | h1
    ·exact .inl (.inl h2)
    ·exact .inr ⟨s',h1,h2⟩
theorem sorted_refW {w : Path} : ∀ {L : Path} {D : List HitB},D.Pairwise ltH → (refW w L D).Pairwise ltH := by
 intro L
 induction L with
 | nil => exact fun h => h
 | cons s L ih => exact fun h => ih (sorted_layO h)
theorem refW_len {w : Path} : ∀ {L : Path} {D : List HitB},(refW w L D).length ≤ D.length + L.length := by
 intro L
 induction L with
 | nil => intro D; simp [refW]
 | cons s L ih =>
  intro D
  have e : refW w (s :: L) D = refW w L (layO D (hitB w s)) := rfl
  have h1 := @ih (layO D (hitB w s))
  have h2 := @layO_len (hitB w s) D
  rw [e,List.length_cons]
  omega
theorem mem_refK {L : Path} {y : HitB} : ∀ {ws : List Path} {D : List HitB},y ∈ refK ws L D ↔ y ∈ D ∨ ∃ w ∈ ws,∃ s ∈ L,hitB w s = some y := by
 intro ws
 induction ws with
 | nil => simp [refK]
 | cons w ws ih =>
  intro D
  have e : refK (w :: ws) L D = refK ws L (refW w L D) := rfl
  rw [e,ih,mem_refW]
  simp [or_assoc]
theorem sorted_refK {L : Path} : ∀ {ws : List Path} {D : List HitB},D.Pairwise ltH → (refK ws L D).Pairwise ltH := by
 intro ws
 induction ws with
 | nil => exact fun h => h
 | cons s L ih => exact fun h => ih (sorted_refW h)
theorem hitB_some {w : Path} {s : List UInt8} {y : HitB} : hitB w s = some y ↔ hitAt w (prt s) ∧ y = (joinB [46] ((prt s).take w.length),decide ((prt s).length = w.length)) := by
 unfold hitB
 split
 ·rename_i h; simp [h,eq_comm]
 ·rename_i h; simp [h]
theorem hitAt_take {w q u : Path} (hq : q.length = w.length) : hitAt w (q ++ u) ↔ hitAt w q := by
 unfold hitAt
 constructor
 ·rintro ⟨_,h⟩
  refine ⟨by omega,fun i hi => ?_⟩
  have := h i hi
  rw [List.getD_eq_getElem?_getD (l := q ++ u),List.getElem?_append_left (by omega),← List.getD_eq_getElem?_getD] at this
  exact this
 ·rintro ⟨_,h⟩
  refine ⟨by simp; omega,fun i hi => ?_⟩
  rw [List.getD_eq_getElem?_getD (l := q ++ u),List.getElem?_append_left (by omega),← List.getD_eq_getElem?_getD]
  exact h i hi
section
variable {N : Tri} {H : Heap} {r : Nat} {L : Path}
theorem TrieN.kids (h : TrieN N H r L) (_hL : Nms L) {q : Path} (_hne : q ≠ []) : hasKids N q = true ↔ ∃ s ∈ L,∃ k u,prt s = q ++ k :: u := by
 constructor
 ·intro hk
  unfold hasKids at hk
  split at hk
  ·rename_i nd hq
   cases hkids : nd.kids with
   | nil => rw [hkids] at hk; cases hk
   | cons x l =>
    obtain ⟨nd',h1,_⟩ := h.lies.kid q nd hq x.1 x.2 (by rw [hkids]; simp)
    obtain ⟨u,s,h2,h3⟩ := h.under h1 (by simp)
    exact ⟨s,h2,x.1,u,by rw [h3]; simp⟩
  ·cases hk
 ·rintro ⟨s,hs,k,u,e⟩
  obtain ⟨nd',h1⟩ := (h.has (q ++ [k])).2 (.inr ⟨u,s,hs,by rw [e]; simp⟩)
  obtain ⟨nd,h2,h3⟩ := h.lies.up q k nd' h1
  unfold hasKids
  rw [h2]
  cases hk : nd.kids with
  | nil => rw [hk] at h3; cases h3
  | cons x l => simp [hk]
theorem find_mem (h : TrieN N H r L) (hL : Nms L) {w : Path} (hw : w ≠ []) (y : HitB) : (∃ q ∈ vis N (wantB w) 21 [],Answers N w q y) ↔ ∃ s ∈ L,hitB w s = some y := by
 have ht := h.tiny hL
 have hd : ∀ t x,N ([] ++ t) = some x → t.length ≤ 21 := fun t x hx => by have := (ht.deep t x (by simpa using hx)).1; omega
 have hv := mem_vis (wn := wantB w) h.lies 21 [] hd
 constructor
 ·rintro ⟨q,hq,h1,h2⟩
  obtain ⟨k,t,e,⟨x,hx⟩,h3⟩ := (hv q).1 hq
  have e : q = k :: t := by simpa using e
  subst e
  have hlen : (k :: t).length = w.length := by
   have := h3 t.length (by simp)
   simp only [wantB,Bool.and_eq_true,decide_eq_true_eq,List.length_nil,Nat.zero_add] at this
   simp only [List.length_cons] at h1 ⊢
   omega
  have hat : hitAt w (k :: t) := ⟨by omega,fun i hi => by
   have := h3 i (by omega)
   simp only [wantB,Bool.and_eq_true,decide_eq_true_eq,List.length_nil,Nat.zero_add] at this
   exact this.2⟩
  rcases h2 with ⟨hl,rfl⟩ | ⟨hk,rfl⟩
  ·obtain ⟨s,hs,e⟩ := (h.leaf _).1 hl
   refine ⟨s,hs,hitB_some.2 ⟨by rw [e]; exact hat,?_⟩⟩
   rw [e,← hlen,List.take_length]
   simp
  ·obtain ⟨s,hs,k',u,e⟩ := (h.kids hL (by simp)).1 hk
   refine ⟨s,hs,hitB_some.2 ⟨by rw [e]; exact (hitAt_take hlen).2 hat,?_⟩⟩
   rw [e,← hlen,List.take_left']
   ·simp
   ·rfl
 ·rintro ⟨s,hs,hy⟩
  obtain ⟨h1,rfl⟩ := hitB_some.1 hy
  have hwl : 0 < w.length := List.length_pos_iff.2 hw
  have e : prt s = (prt s).take w.length ++ (prt s).drop w.length := (List.take_append_drop _ _).symm
  have hlen : ((prt s).take w.length).length = w.length := by rw [List.length_take]; have := h1.1; omega
  generalize (prt s).take w.length = q at e hlen
  have hne : q ≠ [] := fun h => by subst h; simp at hlen; omega
  have hat : hitAt w q := by rw [e] at h1; exact (hitAt_take hlen).1 h1
  obtain ⟨k,t,rfl⟩ : ∃ k t,q = k :: t := by
   cases q with
   | nil => exact absurd rfl hne
   | cons k t => exact ⟨k,t,rfl⟩
  refine ⟨k :: t,(hv _).2 ⟨k,t,by simp,(h.has _).2 (.inr ⟨_,s,hs,e⟩),fun j hj => ?_⟩,by omega,?_⟩
  ·simp only [wantB,Bool.and_eq_true,decide_eq_true_eq,List.length_nil,Nat.zero_add]
   exact ⟨by omega,hat.2 j (by omega)⟩
  ·cases hdr : (prt s).drop w.length with
   | nil =>
    rw [hdr,List.append_nil] at e
    refine .inl ⟨(h.leaf _).2 ⟨s,hs,e⟩,?_⟩
    rw [e,hlen]; simp
   | cons k' u =>
    rw [hdr] at e
    refine .inr ⟨(h.kids hL hne).2 ⟨s,hs,k',u,e⟩,?_⟩
    have : (prt s).length ≠ w.length := by rw [e]; simp only [List.length_append,List.length_cons] at hlen ⊢; omega
    simp [this]
theorem find_ref (h : TrieN N H r L) (hL : Nms L) {ws : List Path} (hw : ∀ w ∈ ws,w ≠ []) : sortH (findK N ws []) = refK ws L [] := by
 have hs := sorted_refK (ws := ws) (L := L) (D := []) .nil
 have hn : (refK ws L []).Nodup := List.Pairwise.imp (fun {a b} (hab : ltH a b) (e : a = b) => ltH_irrefl a (by rw [← e] at hab; exact hab)) hs
 refine List.Perm.eq_of_pairwise (le := leH) (fun a b _ _ => leH_antisymm) (sortH_sorted _) (hs.imp fun {a b} hab => leH_of_lt hab) ?_
 refine (sortH_perm _).trans ((List.perm_ext_iff_of_nodup (nodup_findK .nil) hn).2 fun y => ?_)
 rw [mem_findK,mem_refK]
 refine or_congr Iff.rfl ⟨?_,?_⟩
 ·rintro ⟨w,h1,h2⟩
  exact ⟨w,h1,(find_mem h hL (hw w h1) y).1 h2⟩
 ·rintro ⟨w,h1,h2⟩
  exact ⟨w,h1,(find_mem h hL (hw w h1) y).2 h2⟩
theorem find_ref_len (h : TrieN N H r L) (hL : Nms L) {ws : List Path} (hw : ∀ w ∈ ws,w ≠ []) : (findK N ws []).length = (refK ws L []).length := by
 rw [← find_ref h hL hw]
 exact (sortH_perm _).length_eq.symm
end
end Ab
namespace Ab
open Go (IntKind BinOp UnOp)
theorem before_l1_ok {k1 k2 : SK} (A B : Path) (_hA : A.length ≤ 900000000) (hB : B.length ≤ 900000000) (Q : Out → Prop)
  (hQ1 : ∀ e,look e 4 = .p (.bool (partsLess A B)) → Q (.ret,e,[])) (hQ2 : partsLess A B = decide (A.length < B.length) → ∀ e,look e 5 = .p (.sl k1 1 (strs A)) → look e 6 = .p (.sl k2 1 (strs B)) → Q (.ex 0,e,[])) :
  ∀ (f i : Nat),i + f = A.length → i ≤ B.length → partsLess (A.drop i) (B.drop i) = partsLess A B →
  Wp Γ r10_before_l1 [(5,.p (.sl k1 1 (strs A))),(6,.p (.sl k2 1 (strs B))),(7,.p (.int .i64 (i : Int)))] [] Q := by
 intro f
 induction f with
 | zero =>
  intro i hi hb hc
  have hi : i = A.length := by omega
  subst hi
  rw [W_loop (L := r10_before_l1) rfl]
  simp (disch := first | assumption | omega | decide | (simp only [lens] <;> omega) | fail) only [go_sem,r10_before_l1]
  refine hQ2 ?_ _ rfl rfl
  rw [← hc,List.drop_length]
  cases hd : B.drop A.length with
  | nil =>
   have : B.length ≤ A.length := List.drop_eq_nil_iff.1 hd
   rw [decide_eq_false (by omega)]; rfl
  | cons b t =>
   have : ¬ B.length ≤ A.length := fun h => by rw [List.drop_eq_nil_iff.2 h] at hd; cases hd
   rw [decide_eq_true (by omega)]; rfl
 | succ f ih =>
  intro i hi hb hc
  have hlt : i < A.length := by omega
  have hdA : A.drop i = A.getD i [] :: A.drop (i + 1) := by
   rw [List.drop_eq_getElem_cons hlt,List.getD_eq_getElem?_getD,List.getElem?_eq_getElem hlt]; rfl
  by_cases hbe : i = B.length
  ·have e : partsLess A B = decide (A.length < B.length) := by
    rw [← hc,hdA,hbe,List.drop_length,decide_eq_false (by omega)]; rfl
   rw [W_loop (L := r10_before_l1) rfl]
   simp (disch := first | assumption | omega | decide | (simp only [lens] <;> omega) | fail) only [go_sem,r10_before_l1]
   exact hQ2 e _ rfl rfl
  ·have hltB : i < B.length := by omega
   have hdB : B.drop i = B.getD i [] :: B.drop (i + 1) := by
    rw [List.drop_eq_getElem_cons hltB,List.getD_eq_getElem?_getD,List.getElem?_eq_getElem hltB]; rfl
   rw [hdA,hdB] at hc
   by_cases he : A.getD i [] = B.getD i []
   ·have hbl : bytesLess (A.getD i []) (B.getD i []) = false := by
     rw [he]
     cases e : bytesLess (B.getD i []) (B.getD i [])
     ·rfl
     ·exact absurd (less_iff.1 e) (List.lt_irrefl _)
    have hd : decide (A.getD i [] ≠ B.getD i []) = false := by rw [he]; simp
    have he' : (A.getD i [] == B.getD i []) = true := by rw [he]; simp
    simp only [partsLess,hbl,he',Bool.false_or,Bool.true_and] at hc
    have ih := ih (i + 1) (by omega) (by omega) hc
    rw [W_loop (L := r10_before_l1) rfl]
    simp (disch := first | assumption | omega | decide | (simp only [lens] <;> omega) | fail) only [go_sem,r10_before_l1,hd]
    exact ih
   ·have hb : (A.getD i [] == B.getD i []) = false := by simpa using he
    simp only [partsLess,hb,Bool.false_and,Bool.or_false] at hc
    rw [W_loop (L := r10_before_l1) rfl]
    simp (disch := first | assumption | omega | decide | (simp only [lens] <;> omega) | fail) only [go_sem,r10_before_l1,lss_str]
    exact hQ1 _ (by rw [← hc]; rfl)
theorem res_before (a b : List UInt8) (ha : a.length ≤ 1000000) (hb : b.length ≤ 1000000) : res Γ 419 [.str a,.str b] = some [.bool (partsLess (prt a) (prt b))] := by
 have hca := splitB_len 46 a
 have hca2 := @count_le a 46
 have hcb := splitB_len 46 b
 have hcb2 := @count_le b 46
 have h1 := res_r8Parts a (by omega)
 have h2 := res_r8Parts b (by omega)
 refine res_code (fn := r10_before) rfl rfl ?_
 simp (disch := first | assumption | omega | decide | (simp only [lens] <;> omega) | fail) only [go_sem,r10_before,h1,h2]
 refine before_l1_ok (splitB 46 a) (splitB 46 b) (by omega) (by omega) _ (fun e he => ?_) (fun h e e5 e6 => ?_) (splitB 46 a).length 0 (by omega) (by omega) rfl
 ·simp (disch := first | assumption | omega | decide | (simp only [lens] <;> omega) | fail) only [go_sem,he]
 ·simp (disch := first | assumption | omega | decide | (simp only [lens] <;> omega) | fail) only [go_sem,e5,e6]
  show _ = some [PV.bool (partsLess (splitB 46 a) (splitB 46 b))]
  rw [h]
  simp
def hitC (h : HitB) : List PV := [.str h.1,.bool h.2]
def hitL (D : List HitB) : List PV := aggs (D.map hitC)
theorem hitL_len {D : List HitB} : (hitL D).length = D.length := by simp [hitL,aggs]
def noHit : HitB := ([],false)
theorem hitL_get {D : List HitB} {i : Nat} (h : i < D.length) : (D.map hitC).getD i [] = [.str (D.getD i noHit).1,.bool (D.getD i noHit).2] := by
 simp [List.getD_eq_getElem?_getD,List.getElem?_eq_getElem h,hitC]
theorem layH_at {x : HitB} : ∀ {D : List HitB} {i : Nat},i ≤ D.length → (∀ j,j < i → hitLess (D.getD j noHit) x = true) → (i = D.length ∨ hitLess (D.getD i noHit) x = false) → layH x D = if D[i]? = some x then D else D.take i ++ x :: D.drop i
 | [],i,h,_,_ => by
  simp only [List.length_nil,Nat.le_zero_eq] at h
  subst h
  simp [layH]
 | t :: r,0,_,_,h => by
  rcases h with h | h
  ·simp at h
  ·have h : hitLess t x = false := by simpa using h
   by_cases e : t = x
   ·subst e; simp [layH,h]
   ·simp [layH,h,e]
 | t :: r,i + 1,hi,h1,h2 => by
  have h0 : hitLess t x = true := by simpa using h1 0 (by omega)
  have ih := @layH_at x r i (by simpa using hi) (fun j hj => by simpa using h1 (j + 1) (by omega)) (by
   rcases h2 with h2 | h2
   ·exact .inl (by simpa using h2)
   ·exact .inr (by simpa using h2))
  simp only [layH,h0,if_true,ih,List.getElem?_cons_succ,List.take_succ_cons,List.drop_succ_cons,List.cons_append]
  split <;> rfl
theorem hitLess_or (a : List UInt8) (la : Bool) (b : List UInt8) (lb : Bool) : hitLess (a,la) (b,lb) = (partsLess (prt a) (prt b) || ((a == b) && (!la && lb))) := by
 have e : (prt a == prt b) = (a == b) := by
  by_cases h : a = b
  ·subst h; simp
  ·have : prt a ≠ prt b := fun e => h (prt_inj e)
   rw [beq_eq_false_iff_ne.2 h,beq_eq_false_iff_ne.2 this]
 simp only [hitLess,dot_eq,e]
theorem lay_l1_ok {kk : SK} (D : List HitB) (x : HitB) (hD : D.length ≤ 900000) (hn : ∀ h ∈ D,h.1.length ≤ 1000) (hx : x.1.length ≤ 1000) (Q : Out → Prop)
  (hQ : ∀ i,i ≤ D.length → (∀ j,j < i → hitLess (D.getD j noHit) x = true) → (i = D.length ∨ hitLess (D.getD i noHit) x = false) →
   ∀ e,look e 0 = .p (.sl kk 2 (hitL D)) → look e 3 = .p (.ptr (hitC x)) → look e 5 = .p (.int .i64 (i : Int)) → Q (.ex 0,e,[])) :
  ∀ (f i : Nat),i + f = D.length → (∀ j,j < i → hitLess (D.getD j noHit) x = true) →
  Wp Γ r10_lay_l1 [(0,.p (.sl kk 2 (hitL D))),(3,.p (.ptr (hitC x))),(5,.p (.int .i64 (i : Int)))] [] Q := by
 intro f
 induction f with
 | zero =>
  intro i hi hj
  have hi : i = D.length := by omega
  subst hi
  rw [W_loop (L := r10_lay_l1) rfl]
  simp (disch := first | assumption | omega | decide | (simp only [lens] <;> omega) | fail) only [go_sem,r10_lay_l1,hitL_len]
  exact hQ _ (Nat.le_refl _) hj (.inl rfl) _ rfl rfl rfl
 | succ f ih =>
  intro i hi hj
  have hlt : i < D.length := by omega
  have hg := hitL_get hlt
  have hm : D.getD i noHit ∈ D := by rw [List.getD_eq_getElem?_getD,List.getElem?_eq_getElem hlt]; exact List.getElem_mem hlt
  have hl := hn _ hm
  have hia : iaddrA [] 2 (.p (.sl kk 2 (hitL D))) (.p (.int .i64 (i : Int))) = some (.p (.ptr [.str (D.getD i noHit).1,.bool (D.getD i noHit).2])) := by
   rw [← hg]
   exact iaddr_aggs (by omega) (by simpa using hlt)
  have hstep : hitLess (D.getD i noHit) x = true → ∀ j,j < i + 1 → hitLess (D.getD j noHit) x = true := fun h j hji => by
   by_cases e : j = i
   ·subst e; exact h
   ·exact hj j (by omega)
  have ih := fun h => ih (i + 1) (by omega) (hstep h)
  have hq := fun h => hQ i (by omega) hj (.inr h)
  obtain ⟨b,lb⟩ := x
  generalize D.getD i noHit = a at *
  obtain ⟨a,la⟩ := a
  have hbef := res_before a b (by simp only at hl; omega) (by simp only at hx; omega)
  rw [hitLess_or] at ih hq
  simp only [hitC] at *
  cases h1 : partsLess (prt a) (prt b)
  ·rw [h1] at hbef
   simp only [h1,Bool.false_or] at ih hq
   by_cases h2 : a = b
   ·have h2' : (a == b) = true := by simpa using h2
    have h3 : decide (a = b) = true := by simpa using h2
    simp only [h2',Bool.true_and] at ih hq
    cases la <;> cases lb <;> rw [W_loop (L := r10_lay_l1) rfl] <;> simp (disch := first | assumption | omega | decide | (simp only [lens] <;> omega) | fail) only [go_sem,r10_lay_l1,hitL_len,hia,hbef,h3] <;> first | exact ih rfl | exact hq rfl _ rfl rfl rfl
   ·have h2' : (a == b) = false := by simpa using h2
    have h3 : decide (a = b) = false := by simpa using h2
    simp only [h2',Bool.false_and] at ih hq
    rw [W_loop (L := r10_lay_l1) rfl]
    simp (disch := first | assumption | omega | decide | (simp only [lens] <;> omega) | fail) only [go_sem,r10_lay_l1,hitL_len,hia,hbef,h3]
    exact hq trivial _ rfl rfl rfl
  ·rw [h1] at hbef
   simp only [h1,Bool.true_or,forall_const] at ih
   rw [W_loop (L := r10_lay_l1) rfl]
   simp (disch := first | assumption | omega | decide | (simp only [lens] <;> omega) | fail) only [go_sem,r10_lay_l1,hitL_len,hia,hbef]
   exact ih
theorem res_lay {kk : SK} (D : List HitB) (x : HitB) (hD : D.length ≤ 900000) (hn : ∀ h ∈ D,h.1.length ≤ 1000) (hx : x.1.length ≤ 1000) : ∃ k2,res Γ 417 [.sl kk 2 (hitL D),.agg (hitC x)] = some [.sl k2 2 (hitL (layH x D))] := by
 refine ⟨if layH x D = D then kk else .any,?_⟩
 refine res_code (fn := r10_lay) rfl rfl ?_
 simp (disch := first | assumption | omega | decide | (simp only [lens] <;> omega) | fail) only [go_sem,r10_lay,hitC]
 refine lay_l1_ok D x hD hn hx _ (fun i h1 h2 h3 e e0 e3 e5 => ?_) D.length 0 (by omega) (fun j hj => by omega)
 have hk := layH_at h1 h2 h3
 have c1 : sliceA 2 (.p (.sl kk 2 (hitL D))) none (some (.p (.int .i64 (i : Int)))) = some (.p (.sl kk.cut 2 (hitL (D.take i)))) := by
  rw [cut_to (by omega) (by rw [hitL_len]; omega)]
  simp [hitL,aggs,List.map_take]
 have c2 : sliceA 2 (.p (.sl kk 2 (hitL D))) (some (.p (.int .i64 (i : Int)))) none = some (.p (.sl kk.cut 2 (hitL (D.drop i)))) := by
  rw [cut_from (by omega) (by rw [hitL_len]; omega)]
  simp [hitL,aggs,List.map_drop]
 have hl1 : (hitL (D.take i)).length = i := by rw [hitL_len,List.length_take]; omega
 have hl2 : (hitL (D.drop i)).length = D.length - i := by rw [hitL_len,List.length_drop]
 have hall : ∀ j,hitL (D.take j) ++ [.agg [.str x.1,.bool x.2]] ++ hitL (D.drop j) = hitL (D.take j ++ x :: D.drop j) := fun j => by simp [hitL,aggs,hitC]
 by_cases hlt : i < D.length
 ·have hg := hitL_get hlt
  have hia : iaddrA [] 2 (.p (.sl kk 2 (hitL D))) (.p (.int .i64 (i : Int))) = some (.p (.ptr [.str (D.getD i noHit).1,.bool (D.getD i noHit).2])) := by
   rw [← hg]
   exact iaddr_aggs (by omega) (by simpa using hlt)
  have hat : D[i]? = some (D.getD i noHit) := by rw [List.getD_eq_getElem?_getD,List.getElem?_eq_getElem hlt]; rfl
  rw [hat] at hk
  by_cases he : D.getD i noHit = x
  ·rw [he,if_pos rfl] at hk
   rw [hk,if_pos rfl]
   rw [he] at hia
   have e1 : eqCells [2,1] (hitC x) (hitC x) = some true := by simp [hitC,eqCells]
   simp only [hitC] at e1 e3 hia
   simp (disch := first | assumption | omega | decide | (simp only [lens] <;> omega) | fail) only [go_sem,e0,e3,e5,hitL_len,hia,e1]
  ·rw [if_neg (fun h => he (Option.some.inj h))] at hk
   have hne : layH x D ≠ D := fun h => by
    have := congrArg List.length (hk.symm.trans h)
    simp at this
    omega
   rw [if_neg hne,hk]
   have e1 : eqCells [2,1] [.str (D.getD i noHit).1,.bool (D.getD i noHit).2] (hitC x) = some false := by
    have : ¬ ((D.getD i noHit).1 = x.1 ∧ (D.getD i noHit).2 = x.2) := fun h => he (Prod.ext h.1 h.2)
    simp only [hitC,eqCells,Option.map_some,Option.some.injEq]
    simpa using this
   simp only [hitC] at e1 e3
   simp (disch := first | assumption | omega | decide | (simp only [lens] <;> omega) | fail) only [go_sem,e0,e3,e5,hitL_len,hia,e1,c1,c2]
   rw [← hall]
   simp
 ·have hi : i = D.length := by omega
  subst hi
  have hat : D[D.length]? = none := by simp
  rw [hat,if_neg (by simp)] at hk
  have hne : layH x D ≠ D := fun h => by
   have := congrArg List.length (hk.symm.trans h)
   simp at this
  rw [if_neg hne,hk]
  simp only [hitC] at e3
  simp (disch := first | assumption | omega | decide | (simp only [lens] <;> omega) | fail) only [go_sem,e0,e3,e5,hitL_len,c1,c2]
  rw [← hall]
  simp
end Ab
namespace Ab
open Go (IntKind BinOp UnOp)
def hitR (o : Option HitB) : List PV := match o with | some x => [.agg (hitC x),.bool true] | none => [.agg [.str [],.bool false],.bool false]
theorem hit_l1_ok {k1 k2 : SK} (w ps : Path) (hwl : w.length ≤ ps.length) (hpl : ps.length ≤ 900000000) (hw : ∀ p ∈ w,p.length < 900000000) (hp : ∀ p ∈ ps,p.length < 900000000) (Q : Out → Prop)
  (hQ1 : ¬ hitAt w ps → ∀ e,look e 4 = .bx 0 0 → look e 5 = .p (.bool false) → Q (.ret,e,[.box [.p (.str []),.p (.bool false)]]))
  (hQ2 : hitAt w ps → ∀ e,look e 0 = .p (.sl k1 1 (strs w)) → look e 4 = .bx 0 0 → look e 6 = .p (.sl k2 1 (strs ps)) → Q (.ex 0,e,[.box [.p (.str []),.p (.bool false)]])) :
  ∀ (f i : Nat),i + f = w.length → (∀ j,j < i → matchB (w.getD j []) (ps.getD j []) = true) →
  Wp Γ r10_hit_l1 [(0,.p (.sl k1 1 (strs w))),(4,.bx 0 0),(6,.p (.sl k2 1 (strs ps))),(7,.p (.int .i64 (i : Int)))] [.box [.p (.str []),.p (.bool false)]] Q := by
 intro f
 induction f with
 | zero =>
  intro i hi hj
  have hi : i = w.length := by omega
  subst hi
  rw [W_loop (L := r10_hit_l1) rfl]
  simp (disch := first | assumption | omega | decide | (simp only [lens] <;> omega) | fail) only [go_sem,r10_hit_l1]
  exact hQ2 ⟨hwl,hj⟩ _ rfl rfl rfl
 | succ f ih =>
  intro i hi hj
  have hlt : i < w.length := by omega
  have hm := res_r9Match (w.getD i []) (ps.getD i []) (hw _ (getD_mem hlt)) (hp _ (getD_mem (by omega)))
  cases hk : matchB (w.getD i []) (ps.getD i []) with
  | true =>
   rw [hk] at hm
   have ih := ih (i + 1) (by omega) (fun j hji => by
    by_cases e : j = i
    ·subst e; exact hk
    ·exact hj j (by omega))
   rw [W_loop (L := r10_hit_l1) rfl]
   simp (disch := first | assumption | omega | decide | (simp only [lens] <;> omega) | fail) only [go_sem,r10_hit_l1,hm]
   exact ih
  | false =>
   rw [hk] at hm
   rw [W_loop (L := r10_hit_l1) rfl]
   simp (disch := first | assumption | omega | decide | (simp only [lens] <;> omega) | fail) only [go_sem,r10_hit_l1,hm]
   exact hQ1 (fun h => by rw [h.2 i hlt] at hk; cases hk) _ rfl rfl
theorem joinB_le (s : List UInt8) (k : Nat) : (joinB [46] ((prt s).take k)).length ≤ s.length := by
 have h := joinB_take [46] (prt s) k
 rw [join_split] at h
 omega
theorem res_hit {kk : SK} (w : Path) (s : List UInt8) (hs : s.length ≤ 1000) (hwl : w.length ≤ 1000) (hw : ∀ p ∈ w,p.length ≤ 10000) : res Γ 418 [.sl kk 1 (strs w),.str s] = some (hitR (hitB w s)) := by
 have hps := res_r8Parts s (by omega)
 have hc := splitB_len 46 s
 have hc2 := @count_le s 46
 have hp : ∀ p ∈ splitB 46 s,p.length < 900000000 := fun p h => by have := splitB_mem_len h; omega
 refine res_code (fn := r10_hit) rfl rfl ?_
 by_cases hlt : (splitB 46 s).length < w.length
 ·have e : hitB w s = none := by
   unfold hitB
   rw [if_neg]
   intro h
   have h1 : w.length ≤ (splitB 46 s).length := h.1
   omega
  rw [e]
  unfold hitR
  simp (disch := first | assumption | omega | decide | (simp only [lens] <;> omega) | fail) only [go_sem,r10_hit,hps]
 ·simp (disch := first | assumption | omega | decide | (simp only [lens] <;> omega) | fail) only [go_sem,r10_hit,hps]
  refine hit_l1_ok w (splitB 46 s) (by omega) (by omega) (fun p h => by have := hw p h; omega) hp _ (fun hn e e4 e5 => ?_) (fun hy e e0 e4 e6 => ?_) w.length 0 (by omega) (fun j hj => by omega)
  ·have e' : hitB w s = none := by
    unfold hitB
    rw [if_neg hn]
   rw [e']
   unfold hitR
   simp (disch := first | assumption | omega | decide | (simp only [lens] <;> omega) | fail) only [go_sem,e4,e5]
  ·have hj1 := joinB_le s w.length
   have hj := fun kk => res_r8Join (kk := kk) ((splitB 46 s).take w.length) (by rw [List.length_take]; omega) (by
    have : (joinB [46] ((splitB 46 s).take w.length)).length ≤ s.length := hj1
    omega)
   have e' : hitB w s = some (joinB [46] ((splitB 46 s).take w.length),decide ((splitB 46 s).length = w.length)) := by
    unfold hitB
    exact if_pos hy
   rw [e']
   unfold hitR hitC
   simp (disch := first | assumption | omega | decide | (simp only [lens] <;> omega) | fail) only [go_sem,e0,e4,e6,hj]
   simp [Int.ofNat_inj]
end Ab
namespace Ab
open Go (IntKind BinOp UnOp)
def RowR (H : Heap) (x : Nat) (L : Path) : Prop := ∃ kk,H[x]? = some (.box [.p (.sl kk 1 (strs L))]) ∧ (kk = .any ∨ (kk = .nil ∧ L = []))
theorem RowR.ext {H H' : Heap} {x : Nat} {L : Path} (h : RowR H x L) (hx : Ext0 H H') : RowR H' x L := by
 obtain ⟨kk,h,hk⟩ := h
 exact ⟨kk,(hx.2 _ (List.getElem?_eq_some_iff.1 h).1).trans h,hk⟩
theorem hitB_len {w : Path} {s : List UInt8} {h : HitB} (hs : s.length ≤ 1000) (e : hitB w s = some h) : h.1.length ≤ 1000 := by
 obtain ⟨_,rfl⟩ := hitB_some.1 e
 have := joinB_le s w.length
 exact Nat.le_trans this hs
theorem rfind_l1_ok {kw ko : SK} {H : Heap} {x : Nat} {L : Path} (hR : RowR H x L) (hN : ∀ s ∈ L,s.length ≤ 1000) (out w : Path) (ix : Int) (hwl : w.length ≤ 1000) (hw : ∀ p ∈ w,p.length ≤ 10000) (D0 : List HitB) (Q : Out → Prop)
  (hQ : ∀ kk e H',look e 0 = .bx x 0 → look e 6 = .p (.sl ko 1 (strs out)) → look e 8 = .p (.sl kk 2 (hitL (refW w L D0))) → look e 9 = .p (.int .i64 ix) → Ext0 H H' → (∀ h ∈ refW w L D0,h.1.length ≤ 1000) → Q (.ex 2,e,H')) :
  ∀ (f j : Nat) (kk : SK) (D : List HitB) (H' : Heap),j + f = L.length → Ext0 H H' → refW w (L.drop j) D = refW w L D0 → (∀ h ∈ D,h.1.length ≤ 1000) → D.length + f ≤ 900000 → L.length ≤ 1000 →
  Wp Γ r10_Trie_Find_l1 [(0,.bx x 0),(6,.p (.sl ko 1 (strs out))),(8,.p (.sl kk 2 (hitL D))),(9,.p (.int .i64 ix)),(10,.p (.sl kw 1 (strs w))),(12,.p (.int .i64 (j : Int)))] H' Q := by
 intro f
 induction f with
 | zero =>
  intro j kk D H' hj hx hf hD hl hL
  have hj : j = L.length := by omega
  subst hj
  rw [List.drop_length] at hf
  have hf : D = refW w L D0 := hf
  subst hf
  have hQ := fun e h0 h6 h8 h9 => hQ kk e H' h0 h6 h8 h9 hx hD
  obtain ⟨k0,h,_⟩ := hR.ext hx
  rw [W_loop (L := r10_Trie_Find_l1) rfl]
  simp (disch := first | assumption | omega | decide | (simp only [lens] <;> omega) | fail) only [go_sem,r10_Trie_Find_l1,h]
  exact hQ _ rfl rfl rfl rfl
 | succ f ih =>
  intro j kk D H' hj hx hf hD hl hL
  have hlt : j < L.length := by omega
  have hdrop : L.drop j = L.getD j [] :: L.drop (j + 1) := by
   rw [List.drop_eq_getElem_cons hlt,List.getD_eq_getElem?_getD,List.getElem?_eq_getElem hlt]; rfl
  have hsl := hN (L.getD j []) (getD_mem hlt)
  have hh := res_hit (kk := kw) w (L.getD j []) hsl hwl hw
  rw [hdrop] at hf
  have hf : refW w (L.drop (j + 1)) (layO D (hitB w (L.getD j []))) = refW w L D0 := hf
  obtain ⟨k0,h,_⟩ := hR.ext hx
  cases ho : hitB w (L.getD j []) with
  | none =>
   rw [ho] at hf hh
   unfold hitR at hh
   have ih := ih (j + 1) kk D (H' ++ [.box [.p (.str []),.p (.bool false)]]) (by omega) (hx.trans (Ext0.app _ _)) hf hD (by omega) hL
   rw [W_loop (L := r10_Trie_Find_l1) rfl]
   simp (disch := first | assumption | omega | decide | (simp only [lens] <;> omega) | fail) only [go_sem,r10_Trie_Find_l1,h,hh,at_last,set_last]
   exact ih
  | some y =>
   rw [ho] at hf hh
   unfold hitR hitC at hh
   obtain ⟨k2,hlay⟩ := res_lay (kk := kk) D y (by omega) hD (hitB_len hsl ho)
   unfold hitC at hlay
   have hlen := @layH_len y D
   have ih := ih (j + 1) k2 (layH y D) (H' ++ [.box [.p (.str y.1),.p (.bool y.2)]]) (by omega) (hx.trans (Ext0.app _ _)) hf (fun h hm => by
    rcases mem_layH.1 hm with rfl | hm
    ·exact hitB_len hsl ho
    ·exact hD h hm) (by omega) hL
   rw [W_loop (L := r10_Trie_Find_l1) rfl]
   simp (disch := first | assumption | omega | decide | (simp only [lens] <;> omega) | fail) only [go_sem,r10_Trie_Find_l1,h,hh,at_last,set_last,hlay]
   exact ih
theorem rfind_l2_ok {ko : SK} {H : Heap} {x : Nat} {L : Path} (hR : RowR H x L) (hN : ∀ s ∈ L,s.length ≤ 1000) (hL : L.length ≤ 1000) (out : Path) (hl : out.length ≤ 600) (hp : ∀ p ∈ out,p.length ≤ 10000) (Q : Out → Prop)
  (hQ1 : (∀ p ∈ out,patOk p = true) → ∀ kk e H',look e 8 = .p (.sl kk 2 (hitL (refK (out.map prt) L []))) → Ext0 H H' → Q (.ex 0,e,H'))
  (hQ2 : (¬ ∀ p ∈ out,patOk p = true) → ∀ e H',look e 4 = .p (.sl .nil 2 []) → look e 5 = .p (.int .i64 8) → Ext0 H H' → Q (.ret,e,H')) :
  ∀ (f i : Nat) (kk : SK) (D : List HitB) (H' : Heap),i + f = out.length → Ext0 H H' → (∀ p ∈ out.take i,patOk p = true) → refK ((out.drop i).map prt) L D = refK (out.map prt) L [] → (∀ h ∈ D,h.1.length ≤ 1000) → D.length ≤ i * 1000 →
  Wp Γ r10_Trie_Find_l2 [(0,.bx x 0),(6,.p (.sl ko 1 (strs out))),(8,.p (.sl kk 2 (hitL D))),(9,.p (.int .i64 (i : Int)))] H' Q := by
 intro f
 induction f with
 | zero =>
  intro i kk D H' hi hx hok hf hD hDl
  have hi : i = out.length := by omega
  subst hi
  rw [List.drop_length] at hf
  rw [List.take_length] at hok
  have hf : D = refK (out.map prt) L [] := hf
  subst hf
  rw [W_loop (L := r10_Trie_Find_l2) rfl]
  simp (disch := first | assumption | omega | decide | (simp only [lens] <;> omega) | fail) only [go_sem,r10_Trie_Find_l2]
  exact hQ1 hok kk _ _ rfl hx
 | succ f ih =>
  intro i kk D H' hi hx hok hf hD hDl
  have hlt : i < out.length := by omega
  have hdrop : out.drop i = out.getD i [] :: out.drop (i + 1) := by
   rw [List.drop_eq_getElem_cons hlt,List.getD_eq_getElem?_getD,List.getElem?_eq_getElem hlt]; rfl
  have ht : out.take (i + 1) = out.take i ++ [out.getD i []] := by
   rw [List.take_add_one,List.getD_eq_getElem?_getD,List.getElem?_eq_getElem hlt]; rfl
  have hmem := getD_mem hlt
  have hpl := hp _ hmem
  have hres := res_r9Parts (out.getD i []) (by omega)
  rw [hdrop] at hf
  have hf : refK ((out.drop (i + 1)).map prt) L (refW (prt (out.getD i [])) L D) = refK (out.map prt) L [] := hf
  cases hk : patOk (out.getD i []) with
  | true =>
   rw [partsR_ok hk] at hres
   have hok' : ∀ p ∈ out.take (i + 1),patOk p = true := fun p hp => by
    rw [ht] at hp
    rcases List.mem_append.1 hp with hp | hp
    ·exact hok p hp
    ·simp only [List.mem_singleton] at hp
     subst hp; exact hk
   have hwl : (prt (out.getD i [])).length ≤ 1000 := by
    have hk := hk
    simp only [patOk,Bool.and_eq_true,decide_eq_true_eq] at hk
    exact Nat.le_trans hk.2 (by omega)
   have hlen := @refW_len (prt (out.getD i [])) L D
   rw [W_loop (L := r10_Trie_Find_l2) rfl]
   simp (disch := first | assumption | omega | decide | (simp only [lens] <;> omega) | fail) only [go_sem,r10_Trie_Find_l2,hres]
   refine rfind_l1_ok hR hN out (prt (out.getD i [])) i hwl (fun p h => by have := splitB_mem_len h; omega) D _ (fun kk' e H'' e0 e6 e8 e9 hx' hD' => ?_) L.length 0 kk D H' (by omega) hx rfl hD (by omega) hL
   have ih := ih (i + 1) kk' _ H'' (by omega) hx' hok' hf hD' (by omega)
   simp (disch := first | assumption | omega | decide | (simp only [lens] <;> omega) | fail) only [go_sem,e0,e6,e8,e9]
   exact ih
  | false =>
   rw [partsR_no hk] at hres
   rw [W_loop (L := r10_Trie_Find_l2) rfl]
   simp (disch := first | assumption | omega | decide | (simp only [lens] <;> omega) | fail) only [go_sem,r10_Trie_Find_l2,hres]
   exact hQ2 (fun h => by rw [h _ hmem] at hk; cases hk) _ _ rfl rfl hx
theorem rop_find_err {t : AV} {H : Heap} {s : List UInt8} {e : Int} (h : res Γ 15 [.str s] = some [.sl .nil 1 [],.int .i64 e]) (he : e ≠ 0) : resW Γ 405 [t,.p (.str s)] H = some ([.p (.sl .nil 2 []),.p (.int .i64 e)],H) := by
 refine resW_code (fn := r10_Trie_Find) rfl rfl ?_
 simp (disch := first | assumption | omega | decide | (simp only [lens] <;> omega) | fail) only [go_sem,r10_Trie_Find,h]
theorem rop_find {ko : SK} {H : Heap} {x : Nat} {L : Path} (hR : RowR H x L) (hN : ∀ s ∈ L,s.length ≤ 1000) (hL : L.length ≤ 1000) {s : List UInt8} {out : Path} (h : res Γ 15 [.str s] = some [.sl ko 1 (strs out),.int .i64 0]) (hl : out.length ≤ 600) (hp : ∀ p ∈ out,p.length ≤ 10000) :
    ∃ v e H',resW Γ 405 [.bx x 0,.p (.str s)] H = some ([.p v,.p (.int .i64 e)],H') ∧ Ext0 H H' ∧
      (((∀ p ∈ out,patOk p = true) ∧ 512 < (refK (out.map prt) L []).length ∧ v = .sl .nil 2 [] ∧ e = 13) ∨
       ((∀ p ∈ out,patOk p = true) ∧ ¬ 512 < (refK (out.map prt) L []).length ∧ (∃ kk,v = .sl kk 2 (hitL (refK (out.map prt) L []))) ∧ e = 0) ∨
       ((¬ ∀ p ∈ out,patOk p = true) ∧ v = .sl .nil 2 [] ∧ e = 8)) := by
  have key : ∃ rs H',resW Γ 405 [.bx x 0,.p (.str s)] H = some (rs,H') ∧ Ext0 H H' ∧ ∃ v e,rs = [.p v,.p (.int .i64 e)] ∧
      (((∀ p ∈ out,patOk p = true) ∧ 512 < (refK (out.map prt) L []).length ∧ v = .sl .nil 2 [] ∧ e = 13) ∨
       ((∀ p ∈ out,patOk p = true) ∧ ¬ 512 < (refK (out.map prt) L []).length ∧ (∃ kk,v = .sl kk 2 (hitL (refK (out.map prt) L []))) ∧ e = 0) ∨
       ((¬ ∀ p ∈ out,patOk p = true) ∧ v = .sl .nil 2 [] ∧ e = 8)) := by
    refine resW_ex (fn := r10_Trie_Find) (K := fun rs H' => Ext0 H H' ∧ ∃ v e,rs = [.p v,.p (.int .i64 e)] ∧
      (((∀ p ∈ out,patOk p = true) ∧ 512 < (refK (out.map prt) L []).length ∧ v = .sl .nil 2 [] ∧ e = 13) ∨
       ((∀ p ∈ out,patOk p = true) ∧ ¬ 512 < (refK (out.map prt) L []).length ∧ (∃ kk,v = .sl kk 2 (hitL (refK (out.map prt) L []))) ∧ e = 0) ∨
       ((¬ ∀ p ∈ out,patOk p = true) ∧ v = .sl .nil 2 [] ∧ e = 8))) rfl rfl ?_
    have hnil : hitL [] = [] := rfl
    have hgo := fun Q h1 h2 => rfind_l2_ok (ko := ko) hR hN hL out hl hp Q h1 h2 out.length 0 .nil [] H (by omega) (.refl _) (by simp) rfl (by simp) (by simp)
    rw [hnil] at hgo
    simp (disch := first | assumption | omega | decide | (simp only [lens] <;> omega) | fail) only [go_sem,r10_Trie_Find,h]
    refine hgo _ (fun hok kk e H' e8 hx => ?_) (fun hbad e H' e4 e5 hx => ?_)
    · by_cases hgt : 512 < (refK (out.map prt) L []).length
      · simp (disch := first | assumption | omega | decide | (simp only [lens] <;> omega) | fail) only [go_sem,e8,hitL_len]
        exact ⟨hx,_,_,rfl,.inl ⟨hok,hgt,rfl,rfl⟩⟩
      · simp (disch := first | assumption | omega | decide | (simp only [lens] <;> omega) | fail) only [go_sem,e8,hitL_len]
        exact ⟨hx,_,_,rfl,.inr (.inl ⟨hok,hgt,⟨_,rfl⟩,rfl⟩)⟩
    · simp (disch := first | assumption | omega | decide | (simp only [lens] <;> omega) | fail) only [go_sem,e4,e5]
      exact ⟨hx,_,_,rfl,.inr (.inr ⟨hbad,rfl,rfl⟩)⟩
  obtain ⟨rs,H',h1,h2,v,e,rfl,h3⟩ := key
  exact ⟨v,e,H',h1,h2,h3⟩
end Ab
namespace Ab
theorem known_evT : ∃ n r,callOf Γ (ev Γ n) 393 ((List.map .p ([] : List PV))) [] = some r ∧ mapO (reify r.2 4) r.1 = some [.bool true] := ⟨400,([.p (.bool true)],(callOf Γ (ev Γ 400) 393 [] []).elim [] (·.2)),by kernel_rfl,by kernel_rfl⟩
theorem res_knownT : res Γ 393 [] = some [.bool true] := res_of known_evT
end Ab
namespace Ab
open Go (IntKind BinOp UnOp)
theorem expand_both (s : List UInt8) (hs : s.length ≤ 4096) : (∃ e,e ≠ 0 ∧ res Γ 16 [.str s] = some [.sl .nil 1 [],.int .i64 e] ∧ res Γ 15 [.str s] = some [.sl .nil 1 [],.int .i64 e]) ∨
  (∃ out kk,Exp s out ∧ out.length ≤ 512 ∧ (∀ p ∈ out,p.length ≤ s.length) ∧ res Γ 16 [.str s] = some [.sl .any 1 (strs out),.int .i64 0] ∧ res Γ 15 [.str s] = some [.sl kk 1 (strs out),.int .i64 0]) := by
 cases hsc : scan 0 s with
 | false => exact .inl ⟨8,by decide,res_globExpand_no s (by omega) (.inr hsc),res_r9Expand_no s (by omega) (.inr hsc)⟩
 | true =>
  obtain ⟨out,hE⟩ := exp_of_scan hsc
  have h1 := res_globExpand s hs hE
  obtain ⟨kk,h2⟩ := res_r9Expand s hs hE
  unfold expandR at h1
  unfold expandK at h2
  by_cases hgt : 512 < out.length
  ·rw [if_pos hgt] at h1 h2
   exact .inl ⟨13,by decide,h1,h2⟩
  ·rw [if_neg hgt] at h1 h2
   by_cases hok : out.all okE = true
   ·rw [if_pos hok] at h1 h2
    exact .inr ⟨out,kk,hE,by omega,exp_le hE,h1,h2⟩
   ·rw [if_neg hok] at h1 h2
    exact .inl ⟨8,by decide,h1,h2⟩
theorem hitL_eq {K : List HitB} : hitL K = K.map hitP := by simp [hitL,aggs,hitC,hitP,Function.comp_def]
theorem rowH_eq (K : List HitB) : ∃ kk,rowH K = .sl kk 2 (hitL K) := by
 cases K with
 | nil => exact ⟨_,rfl⟩
 | cons x r => exact ⟨.any,by rw [hitL_eq]; rfl⟩
theorem prt_ne {p : List UInt8} : prt p ≠ [] := split_ne p
inductive TrieV (H : Heap) : AV → Path → Prop
 | nil : TrieV H (.p .nilp) []
 | att (N : Tri) (r : Nat) (L : Path) (h : TrieN N H r L) (hL : Nms L) : TrieV H (.bx r 0) L
theorem TrieV.ext {H H' : Heap} {t : AV} {L : Path} (h : TrieV H t L) (hx : Ext0 H H') : TrieV H' t L := by
 cases h with
 | nil => exact .nil
 | att N r L h hL => exact .att N r L (h.ext hx) hL
theorem refK_nil {ws : List Path} : refK ws [] [] = [] := by
 induction ws with
 | nil => rfl
 | cons w ws ih => exact ih
theorem trie_find {H : Heap} {t : AV} {L : Path} (h : TrieV H t L) {s : List UInt8} {out : Path} (hl : out.length ≤ 512) (hp : ∀ p ∈ out,p.length ≤ 10000) (h1 : res Γ 16 [.str s] = some [.sl .any 1 (strs out),.int .i64 0]) :
    ∃ v e H',resW Γ 394 [t,.p (.str s)] H = some ([.p v,.p (.int .i64 e)],H') ∧ Ext0 H H' ∧
      (((∀ p ∈ out,patOk p = true) ∧ 512 < (refK (out.map prt) L []).length ∧ v = .sl .nil 2 [] ∧ e = 13) ∨
       ((∀ p ∈ out,patOk p = true) ∧ ¬ 512 < (refK (out.map prt) L []).length ∧ (∃ kk,v = .sl kk 2 (hitL (refK (out.map prt) L []))) ∧ e = 0) ∨
       ((¬ ∀ p ∈ out,patOk p = true) ∧ v = .sl .nil 2 [] ∧ e = 8)) := by
  by_cases hok : ∀ p ∈ out,patOk p = true
  · cases h with
    | nil =>
      obtain ⟨H',a,b⟩ := op_find_nil (H := H) h1 (by omega) (fun p h => Nat.le_trans (hp p h) (by omega)) hok
      refine ⟨_,_,H',a,b,.inr (.inl ⟨hok,?_,⟨.nil,?_⟩,rfl⟩)⟩
      · rw [refK_nil]; simp
      · rw [refK_nil]; rfl
    | att N r L hT hL =>
      have hw : ∀ w ∈ out.map prt,w ≠ [] := fun w hw => by
        obtain ⟨p,_,rfl⟩ := List.mem_map.1 hw
        exact prt_ne
      obtain ⟨H',a,b⟩ := op_find hT hL h1 (by omega) hp hok
      have e1 := find_ref hT hL hw
      have e2 := find_ref_len hT hL hw
      unfold findP at a
      by_cases hgt : 512 < (refK (out.map prt) L []).length
      · rw [if_pos (by omega)] at a
        exact ⟨_,_,H',a,b,.inl ⟨hok,hgt,rfl,rfl⟩⟩
      · rw [if_neg (by omega),e1] at a
        obtain ⟨kk,e3⟩ := rowH_eq (refK (out.map prt) L [])
        exact ⟨_,_,H',a,b,.inr (.inl ⟨hok,hgt,⟨kk,e3⟩,rfl⟩)⟩
  · obtain ⟨H',a,b⟩ := op_find_bad (t := t) (H := H) h1 (by omega) (fun p h => Nat.le_trans (hp p h) (by omega)) hok
    exact ⟨_,_,H',a,b,.inr (.inr ⟨hok,rfl,rfl⟩)⟩
theorem find_agree {H : Heap} {t : AV} {L : Path} {x : Nat} (h : TrieV H t L) (hR : RowR H x L) (hN : ∀ s ∈ L,s.length ≤ 1000) (hL : L.length ≤ 1000) (s : List UInt8) (hs : s.length ≤ 4096) :
  ∃ A k1 k2 e H1 H2,resW Γ 394 [t,.p (.str s)] H = some ([.p (.sl k1 2 (hitL A)),.p (.int .i64 e)],H1) ∧ Ext0 H H1 ∧ resW Γ 405 [.bx x 0,.p (.str s)] H1 = some ([.p (.sl k2 2 (hitL A)),.p (.int .i64 e)],H2) ∧ Ext0 H1 H2 ∧ A.length ≤ 512 := by
 rcases expand_both s hs with ⟨e,he,h1,h2⟩ | ⟨out,kk,hE,hl,hp,h1,h2⟩
 ·exact ⟨[],.nil,.nil,e,H,H,op_find_err h1 he,.refl _,rop_find_err h2 he,.refl _,by simp⟩
 ·have hp : ∀ p ∈ out,p.length ≤ 10000 := fun p h => Nat.le_trans (hp p h) (by omega)
  obtain ⟨v1,e1,H1,a1,b1,c1⟩ := trie_find h hl hp h1
  obtain ⟨v2,e2,H2,a2,b2,c2⟩ := rop_find (hR.ext b1) hN hL h2 (by omega) hp
  rcases c1 with ⟨x1,x2,rfl,rfl⟩ | ⟨x1,x2,⟨ka,rfl⟩,rfl⟩ | ⟨x1,rfl,rfl⟩
  ·rcases c2 with ⟨y1,y2,rfl,rfl⟩ | ⟨y1,y2,⟨kb,rfl⟩,rfl⟩ | ⟨y1,rfl,rfl⟩
   ·exact ⟨[],.nil,.nil,_,H1,H2,a1,b1,a2,b2,by simp⟩
   ·exact absurd x2 y2
   ·exact absurd x1 y1
  ·rcases c2 with ⟨y1,y2,rfl,rfl⟩ | ⟨y1,y2,⟨kb,rfl⟩,rfl⟩ | ⟨y1,rfl,rfl⟩
   ·exact absurd y2 x2
   ·exact ⟨_,ka,kb,_,H1,H2,a1,b1,a2,b2,by omega⟩
   ·exact absurd x1 y1
  ·rcases c2 with ⟨y1,y2,rfl,rfl⟩ | ⟨y1,y2,⟨kb,rfl⟩,rfl⟩ | ⟨y1,rfl,rfl⟩
   ·exact absurd y1 x1
   ·exact absurd y1 x1
   ·exact ⟨[],.nil,.nil,_,H1,H2,a1,b1,a2,b2,by simp⟩
theorem hits_l1_ok {k1 k2 : SK} (A : List HitB) (hA : A.length ≤ 900000000) (Q : Out → Prop) (hQ : ∀ e,Q (.ex 0,e,[])) : ∀ (f i : Nat),i + f = A.length →
  Wp Γ l10_hits_l1 [(0,.p (.sl k1 2 (hitL A))),(1,.p (.sl k2 2 (hitL A))),(5,.p (.int .i64 (i : Int)))] [] Q := by
 intro f
 induction f with
 | zero =>
  intro i hi
  have hi : i = A.length := by omega
  subst hi
  rw [W_loop (L := l10_hits_l1) rfl]
  simp (disch := first | assumption | omega | decide | (simp only [lens] <;> omega) | fail) only [go_sem,l10_hits_l1,hitL_len]
  exact hQ _
 | succ f ih =>
  intro i hi
  have hlt : i < A.length := by omega
  have hg := hitL_get hlt
  have hia : ∀ kk,iaddrA [] 2 (.p (.sl kk 2 (hitL A))) (.p (.int .i64 (i : Int))) = some (.p (.ptr [.str (A.getD i noHit).1,.bool (A.getD i noHit).2])) := fun kk => by
   rw [← hg]
   exact iaddr_aggs (by omega) (by simpa using hlt)
  have e1 : eqCells [2,1] [.str (A.getD i noHit).1,.bool (A.getD i noHit).2] [.str (A.getD i noHit).1,.bool (A.getD i noHit).2] = some true := by simp [eqCells]
  have ih := ih (i + 1) (by omega)
  rw [W_loop (L := l10_hits_l1) rfl]
  simp (disch := first | assumption | omega | decide | (simp only [lens] <;> omega) | fail) only [go_sem,l10_hits_l1,hitL_len,hia,e1]
  exact ih
theorem res_hits {k1 k2 : SK} (A : List HitB) (hA : A.length ≤ 900000000) : res Γ 399 [.sl k1 2 (hitL A),.sl k2 2 (hitL A)] = some [.bool true] := by
 refine res_code (fn := l10_hits) rfl rfl ?_
 simp (disch := first | assumption | omega | decide | (simp only [lens] <;> omega) | fail) only [go_sem,l10_hits,hitL_len]
 refine hits_l1_ok A hA _ (fun e => ?_) A.length 0 (by omega)
 simp (disch := first | assumption | omega | decide | (simp only [lens] <;> omega) | fail) only [go_sem]
theorem texts_l1_ok {k1 k2 : SK} (A : Path) (hA : A.length ≤ 900000000) (Q : Out → Prop) (hQ : ∀ e,Q (.ex 0,e,[])) : ∀ (f i : Nat),i + f = A.length →
  Wp Γ l10_texts_l1 [(0,.p (.sl k1 1 (strs A))),(1,.p (.sl k2 1 (strs A))),(5,.p (.int .i64 (i : Int)))] [] Q := by
 intro f
 induction f with
 | zero =>
  intro i hi
  have hi : i = A.length := by omega
  subst hi
  rw [W_loop (L := l10_texts_l1) rfl]
  simp (disch := first | assumption | omega | decide | (simp only [lens] <;> omega) | fail) only [go_sem,l10_texts_l1]
  exact hQ _
 | succ f ih =>
  intro i hi
  have hlt : i < A.length := by omega
  have ih := ih (i + 1) (by omega)
  have hd : decide (A.getD i [] ≠ A.getD i []) = false := by simp
  rw [W_loop (L := l10_texts_l1) rfl]
  simp (disch := first | assumption | omega | decide | (simp only [lens] <;> omega) | fail) only [go_sem,l10_texts_l1,hd]
  exact ih
theorem res_texts {k1 k2 : SK} (A : Path) (hA : A.length ≤ 900000000) : res Γ 398 [.sl k1 1 (strs A),.sl k2 1 (strs A)] = some [.bool true] := by
 refine res_code (fn := l10_texts) rfl rfl ?_
 simp (disch := first | assumption | omega | decide | (simp only [lens] <;> omega) | fail) only [go_sem,l10_texts]
 refine texts_l1_ok A hA _ (fun e => ?_) A.length 0 (by omega)
 simp (disch := first | assumption | omega | decide | (simp only [lens] <;> omega) | fail) only [go_sem]
end Ab
namespace Ab
open Go (IntKind BinOp UnOp)
end Ab
namespace Ab
open Go (IntKind BinOp UnOp)
theorem Made.ext {H0 H : Heap} {r : Nat} {L : Path} (h : Made H0 r L H) : Ext0 H0 H := ⟨h.len,h.old⟩
theorem Made.trie {H0 H : Heap} {r : Nat} {L : Path} (h : Made H0 r L H) : TrieV H (.bx r 0) L := by
 obtain ⟨N,h1,_⟩ := h.at_
 exact .att N r L h1 h.nms
theorem trie_names {H : Heap} {r : Nat} {L : Path} (h : TrieV H (.bx r 0) L) : ∃ v H',resW Γ 397 [.bx r 0] H = some ([v],H') ∧ RowV H' v L ∧ Ext0 H H' := by
 cases h with
 | att N r L h hL => exact op_names h hL
theorem trie_len {H : Heap} {r : Nat} {L : Path} (h : TrieV H (.bx r 0) L) : resW Γ 400 [.bx r 0] H = some ([.p (.int .i64 (L.length : Int))],H) := by
 cases h with
 | att N r L h hL => exact resW_len h.lies
end Ab
namespace Ab
open Go (IntKind BinOp UnOp)
theorem still394 : stillW Γ 394 = true := rfl
theorem still397 : stillW Γ 397 = true := rfl
theorem still400 : stillW Γ 400 = true := rfl
end Ab
namespace Ab
open Go (IntKind BinOp UnOp)
end Ab
namespace Ab
open Go (IntKind BinOp UnOp)
theorem still392 : stillW Γ 392 = true := rfl
theorem trie_has {H : Heap} {r : Nat} {L : Path} (h : TrieV H (.bx r 0) L) (s : List UInt8) (hs : s.length ≤ 1000) : resW Γ 392 [.bx r 0,.p (.str s)] H = some ([.p (.bool (decide (s ∈ L)))],H) := by
 cases h with
 | att N r L h hL => exact op_has h s hs
end Ab
