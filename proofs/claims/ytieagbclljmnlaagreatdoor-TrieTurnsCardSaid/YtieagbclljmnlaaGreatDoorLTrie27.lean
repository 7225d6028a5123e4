import Derived.Test.YtieagbclljmnlaaGreatDoorLTrie22
import Derived.Test.YtieagbclljmnlaaGreatDoorLGlob4
namespace Ab
open Go (IntKind BinOp UnOp)
theorem res_TrieOfNothingA (s : List UInt8) : res Γ 467 [.str s] = some [.bool true] := by
 by_cases hl : 250 < s.length
 ·refine res_code (fn := l10_TrieOfNothing) rfl rfl ?_
  simp (disch := first | assumption | omega | decide | (simp only [lens] <;> omega) | fail) only [go_sem,l10_TrieOfNothing]
 ·have k1 := res_knownT
  obtain ⟨A,ka,kb,e,H1,H2,f1,x1,f2,x2,hA⟩ := find_agree (H := [.box [.p (.sl .nil 1 [])]]) (x := 0) .nil (.nil rfl rfl) (by simp) (by simp) s (by omega)
  have h1 : ∀ H,resW Γ 401 [.p .nilp,.p (.str s)] H = some ([.p (.int .i64 14)],H) := fun H => resW_insertNil s
  have h2 : ∀ H,resW Γ 403 [.p .nilp,.p (.str s)] H = some ([.p (.bool false)],H) := fun H => resW_removeNil s
  have h3 : ∀ H,resW Γ 392 [.p .nilp,.p (.str s)] H = some ([.p (.bool false)],H) := fun H => resW_hasNil s
  have h4 : ∀ H,resW Γ 397 [.p .nilp] H = some ([.p (.sl .nil 1 [])],H) := fun H => resW_namesNil
  have h5 : ∀ H,resW Γ 400 [.p .nilp] H = some ([.p (.int .i64 0)],H) := fun H => resW_lenNil
  have h6 := res_hits (k1 := ka) (k2 := kb) A (by omega)
  have s1 : stillW Γ 401 = true := rfl
  have s2 : stillW Γ 403 = true := rfl
  have s3 : stillW Γ 392 = true := rfl
  have s4 : stillW Γ 397 = true := rfl
  have s5 : stillW Γ 400 = true := rfl
  have s6 : stillW Γ 394 = true := rfl
  have s7 : stillW Γ 405 = true := rfl
  refine res_code (fn := l10_TrieOfNothing) rfl rfl ?_
  simp (disch := first | assumption | omega | decide | (simp only [lens] <;> omega) | fail) only [go_sem,l10_TrieOfNothing,f1,f2,h1,h2,h3,h4,h5,h6,s1,s2,s3,s4,s5,s6,s7,k1]
end Ab
namespace Ab
open Go (IntKind BinOp UnOp)
theorem mem_addN {L : Path} {s x : List UInt8} : x ∈ addN L s ↔ x ∈ L ∨ (x = s ∧ nameB s = true) := by
 unfold addN
 split
 ·rename_i h; rw [mem_addS]; simp [h,or_comm]
 ·rename_i h; simp [h]
theorem mem_foldN {x : List UInt8} : ∀ {l L : Path},x ∈ l.foldl addN L ↔ x ∈ L ∨ (x ∈ l ∧ nameB x = true) := by
 intro l
 induction l with
 | nil => simp
 | cons s l ih =>
  intro L
  rw [List.foldl_cons,ih,mem_addN]
  constructor
  ·rintro ((h | ⟨rfl,h⟩) | ⟨h1,h2⟩)
   ·exact .inl h
   ·exact .inr ⟨by simp,h⟩
   ·exact .inr ⟨by simp [h1],h2⟩
  ·rintro (h | ⟨h1,h2⟩)
   ·exact .inl (.inl h)
   ·rcases List.mem_cons.1 h1 with rfl | h1
    ·exact .inl (.inr ⟨rfl,h2⟩)
    ·exact .inr ⟨h1,h2⟩
theorem Made.ext {H0 H : Heap} {r : Nat} {L : Path} (h : Made H0 r L H) : Ext0 H0 H := ⟨h.len,h.old⟩
theorem Made.trie {H0 H : Heap} {r : Nat} {L : Path} (h : Made H0 r L H) : TrieV H (.bx r 0) L := by
 obtain ⟨N,h1,_⟩ := h.at_
 exact .att N r L h1 h.nms
theorem find_twice {H : Heap} {t1 t2 : AV} {L : Path} (h1 : TrieV H t1 L) (h2 : TrieV H t2 L) (s : List UInt8) (hs : s.length ≤ 4096) :
  ∃ A k1 k2 e H1 H2,resW Γ 394 [t1,.p (.str s)] H = some ([.p (.sl k1 2 (hitL A)),.p (.int .i64 e)],H1) ∧ Ext0 H H1 ∧ resW Γ 394 [t2,.p (.str s)] H1 = some ([.p (.sl k2 2 (hitL A)),.p (.int .i64 e)],H2) ∧ Ext0 H1 H2 ∧ A.length ≤ 512 := by
 rcases expand_both s hs with ⟨e,he,g1,g2⟩ | ⟨out,kk,hE,hl,hp,g1,g2⟩
 ·exact ⟨[],.nil,.nil,e,H,H,op_find_err g1 he,.refl _,op_find_err g1 he,.refl _,by simp⟩
 ·have hp : ∀ p ∈ out,p.length ≤ 10000 := fun p h => Nat.le_trans (hp p h) (by omega)
  obtain ⟨v1,e1,H1,a1,b1,c1⟩ := trie_find h1 hl hp g1
  obtain ⟨v2,e2,H2,a2,b2,c2⟩ := trie_find (h2.ext b1) hl hp g1
  rcases c1 with ⟨x1,x2,rfl,rfl⟩ | ⟨x1,x2,⟨ka,rfl⟩,rfl⟩ | ⟨x1,rfl,rfl⟩
  ·rcases c2 with ⟨y1,y2,rfl,rfl⟩ | ⟨y1,y2,⟨kb,rfl⟩,rfl⟩ | ⟨y1,rfl,rfl⟩
   ·exact ⟨[],.nil,.nil,_,H1,H2,a1,b1,a2,b2,by simp⟩
   ·exact absurd x2 y2
   ·exact absurd x1 y1
  ·rcases c2 with ⟨y1,y2,rfl,rfl⟩ | ⟨y1,y2,⟨kb,rfl⟩,rfl⟩ | ⟨y1,rfl,rfl⟩
   ·exact absurd y2 x2
   ·exact ⟨_,ka,kb,_,H1,H2,a1,b1,a2,b2,by omega⟩
   ·exact absurd x1 y1
  ·rcases c2 with ⟨y1,y2,rfl,rfl⟩ | ⟨y1,y2,⟨kb,rfl⟩,rfl⟩ | ⟨y1,rfl,rfl⟩
   ·exact absurd y1 x1
   ·exact absurd y1 x1
   ·exact ⟨[],.nil,.nil,_,H1,H2,a1,b1,a2,b2,by simp⟩
theorem trie_names {H : Heap} {r : Nat} {L : Path} (h : TrieV H (.bx r 0) L) : ∃ v H',resW Γ 397 [.bx r 0] H = some ([v],H') ∧ RowV H' v L ∧ Ext0 H H' := by
 cases h with
 | att N r L h hL => exact op_names h hL
theorem trie_len {H : Heap} {r : Nat} {L : Path} (h : TrieV H (.bx r 0) L) : resW Γ 400 [.bx r 0] H = some ([.p (.int .i64 (L.length : Int))],H) := by
 cases h with
 | att N r L h hL => exact resW_len h.lies
theorem turns_l1_ok {kk : SK} (l : Path) (pat : List UInt8) (hl : l.length ≤ 60) (Q : Out → Prop)
  (hQ1 : ∀ e H,look e 4 = .p (.bool true) → Q (.ret,e,H))
  (hQ2 : (∀ s ∈ l,s.length ≤ 250) → ∀ e,look e 0 = .p (.sl kk 1 (strs l)) → look e 1 = .p (.str pat) → look e 5 = .own 0 l.length → Q (.ex 0,e,[.row false 1 (strs l.reverse)])) :
  ∀ (k : Nat),k ≤ l.length → (∀ s ∈ l.drop k,s.length ≤ 250) →
  Wp Γ l10_TrieTurns_l1 [(0,.p (.sl kk 1 (strs l))),(1,.p (.str pat)),(5,.own 0 (l.length - k)),(6,.p (.int .i64 ((k : Int) - 1)))] [.row false 1 (strs (l.drop k).reverse)] Q := by
 intro k
 induction k with
 | zero =>
  intro _ hok
  rw [List.drop_zero] at hok
  have hQ2 := hQ2 hok
  rw [W_loop (L := l10_TrieTurns_l1) rfl]
  simp (disch := first | assumption | omega | decide | (simp only [lens] <;> omega) | fail) only [go_sem,l10_TrieTurns_l1]
  exact hQ2 _ rfl rfl rfl
 | succ k ih =>
  intro hk hok
  have hlt : k < l.length := by omega
  have hdrop : l.drop k = l.getD k [] :: l.drop (k + 1) := by
   rw [List.drop_eq_getElem_cons hlt,List.getD_eq_getElem?_getD,List.getElem?_eq_getElem hlt]; rfl
  have e : ((k + 1 : Nat) : Int) - 1 = (k : Int) := by omega
  rw [e]
  by_cases hs : 250 < (l.getD k []).length
  ·rw [W_loop (L := l10_TrieTurns_l1) rfl]
   simp (disch := first | assumption | omega | decide | (simp only [lens] <;> omega) | fail) only [go_sem,l10_TrieTurns_l1]
   exact hQ1 _ _ rfl
  ·have ih := ih (by omega) (fun s h => by
    rw [hdrop] at h
    rcases List.mem_cons.1 h with rfl | h
    ·omega
    ·exact hok s h)
   rw [hdrop,List.reverse_cons] at ih
   have hl1 : ((l.drop (k + 1)).reverse).length = l.length - (k + 1) := by simp
   have e2 : l.length - (k + 1) + 1 = l.length - k := by omega
   have happ : appK [.row false 1 (strs (l.drop (k + 1)).reverse)] (some (.row false 1 (strs (l.drop (k + 1)).reverse))) 1 0 (l.length - (k + 1)) [.str (l.getD k [])] = some (.own 0 (l.length - k),[.row false 1 (strs ((l.drop (k + 1)).reverse ++ [l.getD k []]))]) := by
    rw [appK_pos (by rw [strs_len,hl1]) (by rw [strs_len,hl1]; simp only [List.length_cons,List.length_nil]; omega),strs_one]
    simp only [List.length_cons,List.length_nil,Nat.zero_add,e2,List.set_cons_zero]
   rw [W_loop (L := l10_TrieTurns_l1) rfl]
   simp (disch := first | assumption | omega | decide | (simp only [lens] <;> omega) | fail) only [go_sem,l10_TrieTurns_l1,happ]
   exact ih
end Ab
namespace Ab
open Go (IntKind BinOp UnOp)
theorem still394 : stillW Γ 394 = true := rfl
theorem still397 : stillW Γ 397 = true := rfl
theorem still400 : stillW Γ 400 = true := rfl
theorem same_fold (l : Path) {L1 L2 : Path} (h1 : L1 = l.foldl addN []) (h2 : L2 = l.reverse.foldl addN []) (n1 : Nms L1) (n2 : Nms L2) : L1 = L2 :=
 sortedS_eq n1.sorted n2.sorted fun x => by rw [h1,h2,mem_foldN,mem_foldN]; simp
theorem res_TrieTurnsA {kk : SK} (l : Path) (pat : List UInt8) : res Γ 465 [.sl kk 1 (strs l),.str pat] = some [.bool true] := by
 by_cases h1 : 60 < l.length
 ·refine res_code (fn := l10_TrieTurns) rfl rfl ?_
  simp (disch := first | assumption | omega | decide | (simp only [lens] <;> omega) | fail) only [go_sem,l10_TrieTurns]
 by_cases h2 : 200 < pat.length
 ·refine res_code (fn := l10_TrieTurns) rfl rfl ?_
  simp (disch := first | assumption | omega | decide | (simp only [lens] <;> omega) | fail) only [go_sem,l10_TrieTurns]
 have hst := fun Q q1 q2 => turns_l1_ok (kk := kk) l pat (by omega) Q q1 q2 l.length (Nat.le_refl _) (by simp)
 have e0 : l.length - l.length = 0 := by omega
 have e1 : strs (l.drop l.length).reverse = [] := by simp [strs]
 rw [e0,e1] at hst
 refine res_code (fn := l10_TrieTurns) rfl rfl ?_
 simp (disch := first | assumption | omega | decide | (simp only [lens] <;> omega) | fail) only [go_sem,l10_TrieTurns]
 refine hst _ (fun e H e4 => ?_) (fun hok e x0 x1 x5 => ?_)
 ·simp (disch := first | assumption | omega | decide | (simp only [lens] <;> omega) | fail) only [go_sem,e4]
 ·have hok' : ∀ s ∈ l,s.length ≤ 1000 := fun s h => by have := hok s h; omega
  obtain ⟨H1,a1,m1⟩ := op_new (kk := kk) (H := [.row false 1 (strs l.reverse)]) l (by omega) hok'
  generalize [Blk.row false 1 (strs l.reverse)].length + 1 = r1 at a1 m1
  have hrow : H1[0]? = some (.row false 1 (strs l.reverse)) := m1.old 0 (by simp)
  obtain ⟨H2,a2,m2⟩ := op_newO (H := H1) (id := 0) l.reverse (by rw [List.length_reverse]; omega) (fun s h => hok' s (List.mem_reverse.1 h)) hrow
  rw [List.length_reverse] at a2
  generalize H1.length + 1 = r2 at a2 m2
  have hsame := same_fold l rfl rfl m1.nms m2.nms
  have t1 := m1.trie.ext m2.ext
  have t2 := m2.trie
  rw [← hsame] at t2
  obtain ⟨A,ka,kb,er,H3,H4,f1,g1,f2,g2,hA⟩ := find_twice t1 t2 pat (by omega)
  have t1 := (t1.ext g1).ext g2
  have t2 := (t2.ext g1).ext g2
  obtain ⟨v1,H5,n1,w1,g5⟩ := trie_names t1
  obtain ⟨v2,H6,n2,w2,g6⟩ := trie_names (t2.ext g5)
  have l1 := trie_len ((t1.ext g5).ext g6)
  have l2 := trie_len ((t2.ext g5).ext g6)
  have k1 := res_knownT
  have hh := res_hits (k1 := ka) (k2 := kb) A (by omega)
  have hLl : (l.foldl addN []).length ≤ 1000 := m1.nms.len
  have ht := fun k1 k2 => res_texts (k1 := k1) (k2 := k2) (l.foldl addN []) (by omega)
  generalize l.foldl addN [] = L at *
  rcases w1 with ⟨rfl,rfl⟩ | ⟨hne,i1,rfl,hr1⟩
  ·rcases w2 with ⟨_,rfl⟩ | ⟨hne,_⟩
   ·have ht : ∀ k1 k2,res Γ 398 [.sl k1 1 [],.sl k2 1 []] = some [.bool true] := ht
    simp (disch := first | assumption | omega | decide | (simp only [lens] <;> omega) | fail) only [go_sem,x0,x1,x5,still395,still394,still397,still400,a1,a2,f1,f2,n1,n2,l1,l2,k1,hh,ht]
   ·exact absurd rfl hne
  ·rcases w2 with ⟨rfl,_⟩ | ⟨_,i2,rfl,hr2⟩
   ·exact absurd rfl hne
   ·have hr1 : H6[i1]? = some (.row false 1 (strs L)) := (g6.2 _ (List.getElem?_eq_some_iff.1 hr1).1).trans hr1
    simp (disch := first | assumption | omega | decide | (simp only [lens] <;> omega) | fail) only [go_sem,x0,x1,x5,still395,still394,still397,still400,a1,a2,f1,f2,n1,n2,l1,l2,k1,hh,ht,hr1,hr2]
end Ab
namespace Ab
open Go (IntKind BinOp UnOp)
theorem plain_match {p s : List UInt8} (hb : ∀ c ∈ p,byteOk c = true) : matchB p s = decide (s = p) := by
 unfold matchB
 rw [toks_all hb]
 show mtD _ _ = _
 rw [Bool.eq_iff_iff,mtD_iff,Mt_singles,decide_eq_true_eq]
theorem name_plain {n : List UInt8} (h : nameB n = true) : plainB n = true := by
 obtain ⟨_,_,_,h4⟩ := nameB_facts h
 rw [← plain_split,List.all_eq_true]
 intro p hp
 rw [List.all_eq_true]
 exact (h4 p hp).2
theorem name_exp {n : List UInt8} (h : nameB n = true) : Exp n [n] := by
 refine .run n fun c hc => ?_
 have := name_plain h
 unfold plainB at this
 have := List.all_eq_true.1 this c hc
 rw [Bool.or_eq_true,beq_iff_eq] at this
 rcases this with rfl | this
 ·rfl
 ·exact (byteOk_no this).2.2.2.2
theorem name_toks {n : List UInt8} (h : nameB n = true) : ∀ p ∈ prt n,p ≠ [] ∧ (toksF p).isSome = true := fun p hp => by
 obtain ⟨_,_,_,h4⟩ := nameB_facts h
 obtain ⟨h5,h6⟩ := h4 p hp
 rw [toks_all h6]
 exact ⟨h5,rfl⟩
theorem name_pat {n : List UInt8} (h : nameB n = true) : patOk n = true := by
 obtain ⟨_,_,h3,_⟩ := nameB_facts h
 unfold patOk
 rw [Bool.and_eq_true,decide_eq_true_eq,List.all_eq_true]
 refine ⟨fun p hp => ?_,h3⟩
 obtain ⟨h5,h6⟩ := name_toks h p hp
 simp [partOk,h5,h6]
theorem name_okE {n : List UInt8} (h : nameB n = true) : okE n = true := by
 obtain ⟨h1,_,_,_⟩ := nameB_facts h
 have hne : n ≠ [] := fun e => by subst e; simp at h1
 unfold okE
 rw [decide_eq_true hne,Bool.true_and,List.all_eq_true]
 exact fun p hp => (name_toks h p hp).2
theorem name_expand {n : List UInt8} (h : nameB n = true) : res Γ 16 [.str n] = some [.sl .any 1 (strs [n]),.int .i64 0] := by
 obtain ⟨_,h2,_,_⟩ := nameB_facts h
 have e := res_globExpand n (by omega) (name_exp h)
 unfold expandR at e
 rw [if_neg (by simp),if_pos (by simp [name_okE h])] at e
 exact e
theorem name_hit {n s : List UInt8} (h : nameB n = true) : hitAt (prt n) (prt s) ↔ (prt n).length ≤ (prt s).length ∧ (prt s).take (prt n).length = prt n := by
 obtain ⟨_,_,_,h4⟩ := nameB_facts h
 have key : ∀ i,i < (prt n).length → ∀ q,matchB ((prt n).getD i []) q = true ↔ q = (prt n).getD i [] := fun i hi q => by
  have hm : (prt n).getD i [] ∈ prt n := by rw [List.getD_eq_getElem?_getD,List.getElem?_eq_getElem hi]; exact List.getElem_mem hi
  rw [plain_match (h4 _ hm).2,decide_eq_true_eq]
 unfold hitAt
 constructor
 ·rintro ⟨h1,h2⟩
  refine ⟨h1,List.ext_getElem (by rw [List.length_take]; omega) fun i h3 h4 => ?_⟩
  have := (key i h4 _).1 (h2 i h4)
  rw [List.length_take] at h3
  rw [List.getD_eq_getElem?_getD,List.getD_eq_getElem?_getD,List.getElem?_eq_getElem (by omega),List.getElem?_eq_getElem h4] at this
  simpa using this
 ·rintro ⟨h1,h2⟩
  refine ⟨h1,fun i hi => (key i hi _).2 ?_⟩
  have e := congrArg (fun l => l.getD i []) h2
  simp only [List.getD_eq_getElem?_getD,List.getElem?_take,if_pos hi] at e
  simpa only [List.getD_eq_getElem?_getD] using e
theorem name_ref {n : List UInt8} (h : nameB n = true) {L : Path} {x : HitB} (hx : x ∈ refK [prt n] L []) : x.1 = n ∧ (x.2 = true → n ∈ L) := by
 rcases mem_refK.1 hx with hx | ⟨w,hw,s,hs,e⟩
 ·cases hx
 ·simp only [List.mem_singleton] at hw
  subst hw
  obtain ⟨h1,rfl⟩ := hitB_some.1 e
  obtain ⟨h2,h3⟩ := (name_hit h).1 h1
  rw [h3]
  refine ⟨join_split n,fun h4 => ?_⟩
  simp only [decide_eq_true_eq] at h4
  rw [← h4,List.take_length] at h3
  rw [← prt_inj h3]
  exact hs
theorem name_ref_leaf {n : List UInt8} (h : nameB n = true) {L : Path} : (refK [prt n] L []).any (·.2) = decide (n ∈ L) := by
 rw [Bool.eq_iff_iff,List.any_eq_true,decide_eq_true_eq]
 constructor
 ·rintro ⟨x,hx,h2⟩
  exact (name_ref h hx).2 h2
 ·intro hn
  refine ⟨(n,true),mem_refK.2 (.inr ⟨prt n,by simp,n,hn,hitB_some.2 ⟨(name_hit h).2 ⟨Nat.le_refl _,List.take_length⟩,?_⟩⟩),rfl⟩
  rw [List.take_length,join_split]
  simp
theorem name_ref_len {n : List UInt8} (h : nameB n = true) {L : Path} : (refK [prt n] L []).length ≤ 2 := by
 have hs := sorted_refK (ws := [prt n]) (L := L) (D := []) .nil
 have hn : (refK [prt n] L []).Nodup := List.Pairwise.imp (fun {a b} (hab : ltH a b) (e : a = b) => ltH_irrefl a (by rw [← e] at hab; exact hab)) hs
 have := List.Nodup.length_le_of_subset hn (l₂ := [(n,true),(n,false)]) fun x hx => by
  obtain ⟨a,b⟩ := x
  have h1 := (name_ref h hx).1
  simp only at h1
  subst h1
  cases b <;> simp
 simpa using this
end Ab
namespace Ab
open Go (IntKind BinOp UnOp)
theorem self_l2_ok {kk : SK} (l : Path) (n : List UInt8) (hl : l.length ≤ 60) (Q : Out → Prop)
  (hQ1 : ∀ e H,look e 4 = .p (.bool true) → Q (.ret,e,H))
  (hQ2 : (∀ s ∈ l,s.length ≤ 250) → ∀ e,look e 0 = .p (.sl kk 1 (strs l)) → look e 1 = .p (.str n) → Q (.ex 0,e,[])) :
  ∀ (f i : Nat),i + f = l.length → (∀ s ∈ l.take i,s.length ≤ 250) →
  Wp Γ l10_TrieSelf_l2 [(0,.p (.sl kk 1 (strs l))),(1,.p (.str n)),(5,.p (.int .i64 (i : Int)))] [] Q := by
 intro f
 induction f with
 | zero =>
  intro i hi hok
  have hi : i = l.length := by omega
  subst hi
  rw [List.take_length] at hok
  rw [W_loop (L := l10_TrieSelf_l2) rfl]
  simp (disch := first | assumption | omega | decide | (simp only [lens] <;> omega) | fail) only [go_sem,l10_TrieSelf_l2]
  exact hQ2 hok _ rfl rfl
 | succ f ih =>
  intro i hi hok
  have hlt : i < l.length := by omega
  have ht : l.take (i + 1) = l.take i ++ [l.getD i []] := by
   rw [List.take_add_one,List.getD_eq_getElem?_getD,List.getElem?_eq_getElem hlt]; rfl
  by_cases hs : 250 < (l.getD i []).length
  ·rw [W_loop (L := l10_TrieSelf_l2) rfl]
   simp (disch := first | assumption | omega | decide | (simp only [lens] <;> omega) | fail) only [go_sem,l10_TrieSelf_l2]
   exact hQ1 _ _ rfl
  ·have ih := ih (i + 1) (by omega) (fun s h => by
    rw [ht] at h
    rcases List.mem_append.1 h with h | h
    ·exact hok s h
    ·simp only [List.mem_singleton] at h
     subst h; omega)
   rw [W_loop (L := l10_TrieSelf_l2) rfl]
   simp (disch := first | assumption | omega | decide | (simp only [lens] <;> omega) | fail) only [go_sem,l10_TrieSelf_l2]
   exact ih
theorem self_l1_ok {kk : SK} (D : List HitB) (n : List UInt8) (hD : D.length ≤ 1000) (hn : ∀ h ∈ D,h.1 = n) (t e8 : AV) (H : Heap) (Q : Out → Prop)
  (hQ : ∀ e,look e 1 = .p (.str n) → look e 6 = t → look e 8 = e8 → look e 9 = .p (.bool (D.any (·.2))) → Q (.ex 2,e,H)) :
  ∀ (f i : Nat) (b : Bool),i + f = D.length → (b || (D.drop i).any (·.2)) = D.any (·.2) →
  Wp Γ l10_TrieSelf_l1 [(1,.p (.str n)),(6,t),(7,.p (.sl kk 2 (hitL D))),(8,e8),(9,.p (.bool b)),(10,.p (.int .i64 (i : Int)))] H Q := by
 intro f
 induction f with
 | zero =>
  intro i b hi hb
  have hi : i = D.length := by omega
  subst hi
  rw [List.drop_length,List.any_nil,Bool.or_false] at hb
  subst hb
  rw [W_loop (L := l10_TrieSelf_l1) rfl]
  simp (disch := first | assumption | omega | decide | (simp only [lens] <;> omega) | fail) only [go_sem,l10_TrieSelf_l1,hitL_len]
  exact hQ _ rfl rfl rfl rfl
 | succ f ih =>
  intro i b hi hb
  have hlt : i < D.length := by omega
  have hg := hitL_get hlt
  have hm : D.getD i noHit ∈ D := by rw [List.getD_eq_getElem?_getD,List.getElem?_eq_getElem hlt]; exact List.getElem_mem hlt
  have hnm := hn _ hm
  have hdrop : D.drop i = D.getD i noHit :: D.drop (i + 1) := by
   rw [List.drop_eq_getElem_cons hlt,List.getD_eq_getElem?_getD,List.getElem?_eq_getElem hlt]; rfl
  rw [hdrop,List.any_cons,← Bool.or_assoc] at hb
  have hia : iaddrA H 2 (.p (.sl kk 2 (hitL D))) (.p (.int .i64 (i : Int))) = some (.p (.ptr [.str (D.getD i noHit).1,.bool (D.getD i noHit).2])) := by
   rw [← hg]
   exact iaddr_aggs (by omega) (by simpa using hlt)
  rw [hnm] at hia
  have ih := ih (i + 1) _ (by omega) hb
  have hd : decide (n ≠ n) = false := by simp
  generalize (D.getD i noHit).2 = c at *
  cases b <;> cases c <;> rw [W_loop (L := l10_TrieSelf_l1) rfl] <;> simp (disch := first | assumption | omega | decide | (simp only [lens] <;> omega) | fail) only [go_sem,l10_TrieSelf_l1,hitL_len,hia,hd] <;> exact ih
theorem still392 : stillW Γ 392 = true := rfl
theorem trie_has {H : Heap} {r : Nat} {L : Path} (h : TrieV H (.bx r 0) L) (s : List UInt8) (hs : s.length ≤ 1000) : resW Γ 392 [.bx r 0,.p (.str s)] H = some ([.p (.bool (decide (s ∈ L)))],H) := by
 cases h with
 | att N r L h hL => exact op_has h s hs
theorem res_TrieSelfA {kk : SK} (l : Path) (n : List UInt8) : res Γ 464 [.sl kk 1 (strs l),.str n] = some [.bool true] := by
 have his := res_r8Is n
 by_cases h1 : 60 < l.length
 ·refine res_code (fn := l10_TrieSelf) rfl rfl ?_
  simp (disch := first | assumption | omega | decide | (simp only [lens] <;> omega) | fail) only [go_sem,l10_TrieSelf]
 cases hn : nameB n with
 | false =>
  rw [hn] at his
  refine res_code (fn := l10_TrieSelf) rfl rfl ?_
  simp (disch := first | assumption | omega | decide | (simp only [lens] <;> omega) | fail) only [go_sem,l10_TrieSelf,his]
 | true =>
  rw [hn] at his
  obtain ⟨_,hnl,_,_⟩ := nameB_facts hn
  have hst := fun Q q1 q2 => self_l2_ok (kk := kk) l n (by omega) Q q1 q2 l.length 0 (by omega) (by simp)
  refine res_code (fn := l10_TrieSelf) rfl rfl ?_
  simp (disch := first | assumption | omega | decide | (simp only [lens] <;> omega) | fail) only [go_sem,l10_TrieSelf,his]
  refine hst _ (fun e H e4 => ?_) (fun hok e x0 x1 => ?_)
  ·simp (disch := first | assumption | omega | decide | (simp only [lens] <;> omega) | fail) only [go_sem,e4]
  ·have hok' : ∀ s ∈ l,s.length ≤ 1000 := fun s h => by have := hok s h; omega
   obtain ⟨H1,a1,m1⟩ := op_new (kk := kk) (H := []) l (by omega) hok'
   generalize ([] : Heap).length + 1 = r1 at a1 m1
   have t1 := m1.trie
   obtain ⟨v1,e1,H2,f1,g1,c1⟩ := trie_find t1 (s := n) (out := [n]) (by simp) (by simp; omega) (name_expand hn)
   have t2 := trie_has (t1.ext g1) n (by omega)
   have hp : ∀ p ∈ [n],patOk p = true := by simp [name_pat hn]
   have hlen := @name_ref_len n hn (l.foldl addN [])
   have hleaf := @name_ref_leaf n hn (l.foldl addN [])
   have hnm := fun h hh => (@name_ref n hn (l.foldl addN []) h hh).1
   have k1 := res_knownT
   have em : [n].map prt = [prt n] := rfl
   rw [em] at c1
   rcases c1 with ⟨_,y,_,_⟩ | ⟨_,_,⟨k2,rfl⟩,rfl⟩ | ⟨y,_,_⟩
   ·omega
   ·rw [← hleaf] at t2
    simp (disch := first | assumption | omega | decide | (simp only [lens] <;> omega) | fail) only [go_sem,x0,x1,still395,still394,a1,f1]
    refine self_l1_ok _ n (by omega) hnm _ _ _ _ (fun e z1 z6 z8 z9 => ?_) (refK [prt n] (l.foldl addN []) []).length 0 false (by omega) (by simp)
    have e0 : ∀ b : Bool,eqK 1 (.p (.bool b)) (.p (.bool b)) = some true := fun b => by simp [eqK]
    simp (disch := first | assumption | omega | decide | (simp only [lens] <;> omega) | fail) only [go_sem,z1,z6,z8,z9,still392,t2,k1]
   ·exact absurd hp y
end Ab
