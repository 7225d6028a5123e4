import Derived.Test.YtieagbclljmnlaaGreatDoorLTrie12
import Derived.Test.YtieagbclljmnlaaGreatDoorLGlob4
import Derived.Test.YtieagbclljmnlaaGreatDoorLGlob7
namespace Ab
open Go (IntKind BinOp UnOp)
theorem still401 : stillW Γ 401 = true := rfl
theorem still395 : stillW Γ 395 = true := rfl
def tri0 (k : Nat) : Tri := fun q => if q = [] then some ⟨k + 1,k,false,[]⟩ else none
theorem tri0_inv {k : Nat} {q : Path} {nd : Nd} (h : tri0 k q = some nd) : q = [] ∧ nd = ⟨k + 1,k,false,[]⟩ := by
 unfold tri0 at h
 split at h
 ·rename_i e; cases h; exact ⟨e,rfl⟩
 ·cases h
theorem trie0 (H : Heap) : TrieN (tri0 H.length) (H ++ [Blk.box (mapCells [])] ++ [Blk.box [.mp H.length,.p (.int .i64 0)]]) (H.length + 1) [] where
 lies := {
  root := ⟨_,rfl,rfl⟩
  box := fun q nd hq => by
   obtain ⟨rfl,rfl⟩ := tri0_inv hq
   rw [List.append_assoc,List.getElem?_append_right (by simp)]
   simp [mark]
  map := fun q nd hq => by
   obtain ⟨rfl,rfl⟩ := tri0_inv hq
   rw [List.append_assoc,List.getElem?_append_right (by simp)]
   simp [kidsM]
  kid := fun q nd hq k b hk => by
   obtain ⟨rfl,rfl⟩ := tri0_inv hq
   simp at hk
  up := fun q k nd hq => by
   obtain ⟨e,_⟩ := tri0_inv hq
   simp at e
  nodup := fun q nd hq => by
   obtain ⟨rfl,rfl⟩ := tri0_inv hq
   simp
  injb := fun p q nd nd' hp hq _ => by
   obtain ⟨rfl,_⟩ := tri0_inv hp
   obtain ⟨rfl,_⟩ := tri0_inv hq
   rfl
  injm := fun p q nd nd' hp hq _ => by
   obtain ⟨rfl,_⟩ := tri0_inv hp
   obtain ⟨rfl,_⟩ := tri0_inv hq
   rfl
  sep := fun p q nd nd' hp hq => by
   obtain ⟨rfl,rfl⟩ := tri0_inv hp
   obtain ⟨rfl,rfl⟩ := tri0_inv hq
   simp }
 pruned q hq := by
  rintro ⟨x,hx⟩
  exact absurd (tri0_inv hx).1 hq
 leaf q := by
  simp only [List.not_mem_nil,false_and,exists_false,iff_false,leafAt]
  split
  ·rename_i nd e
   obtain ⟨_,rfl⟩ := tri0_inv e
   simp
  ·simp
theorem tri0_foot {k i : Nat} (h : Foot (tri0 k) i) : k ≤ i := by
 obtain ⟨q,nd,hq,he⟩ := h
 obtain ⟨_,rfl⟩ := tri0_inv hq
 rcases he with rfl | rfl
 ·exact Nat.le_succ _
 ·exact Nat.le_refl _
def addN (L : Path) (s : List UInt8) : Path := if nameB s = true then addS s L else L
theorem op_insertN {N : Tri} {H : Heap} {r : Nat} {L : Path} (h : TrieN N H r L) (hL : Nms L) (s : List UInt8) (hs : s.length ≤ 1000) :
  ∃ N' H' e,resW Γ 401 [.bx r 0,.p (.str s)] H = some ([.p (.int .i64 e)],H') ∧ e = (if nameB s = true then 0 else 14) ∧ TrieN N' H' r (addN L s) ∧ Chg N N' H H' := by
 cases hn : nameB s with
 | true =>
  obtain ⟨N',H',h1,h2,h3⟩ := op_insert h hL s hs hn
  exact ⟨N',H',0,h1,rfl,by simpa [addN,hn] using h2,h3⟩
 | false => exact ⟨N,H,14,resW_insertNo s hs ⟨r,rfl⟩ hn,rfl,by simpa [addN,hn] using h,.refl _ _⟩
theorem addN_nms {s : List UInt8} {L : Path} (hL : Nms L) (hl : L.length < 1000) : Nms (addN L s) := by
 unfold addN
 split
 ·exact addS_nms hL ‹_› hl
 ·exact hL
theorem addN_len {s : List UInt8} {L : Path} : (addN L s).length ≤ L.length + 1 := by
 unfold addN
 split
 ·rw [addS_len]; split <;> omega
 ·omega
structure Made (H0 : Heap) (r : Nat) (L : Path) (H : Heap) : Prop where
 at_ : ∃ N,TrieN N H r L ∧ ∀ i,Foot N i → H0.length ≤ i
 old : ∀ i,i < H0.length → H[i]? = H0[i]?
 len : H0.length ≤ H.length
 nms : Nms L
theorem Made.add {H0 H : Heap} {r : Nat} {L : Path} (h : Made H0 r L H) (s : List UInt8) (hs : s.length ≤ 1000) (hl : L.length < 1000) :
  ∃ H' e,resW Γ 401 [.bx r 0,.p (.str s)] H = some ([.p (.int .i64 e)],H') ∧ Made H0 r (addN L s) H' := by
 obtain ⟨N,h1,h2⟩ := h.at_
 obtain ⟨N',H',e,h3,_,h4,h5⟩ := op_insertN h1 h.nms s hs
 have h6 := h.len
 exact ⟨H',e,h3,⟨⟨N',h4,fun i hi => by rcases h5.2.2 i hi with h | h; exact h2 i h; omega⟩,fun i hi => (h5.2.1 i (by omega) (fun hf => by have := h2 i hf; omega)).trans (h.old i hi),Nat.le_trans h6 h5.1,addN_nms h.nms hl⟩⟩
theorem new_l1_ok {kk : SK} {H0 : Heap} {r : Nat} (l : List (List UInt8)) (hl : l.length ≤ 900) (hs : ∀ s ∈ l,s.length ≤ 1000) (Q : Out → Prop) (hQ : ∀ e H',look e 3 = .bx r 0 → Made H0 r (l.foldl addN []) H' → Q (.ex 0,e,H')) :
  ∀ (f i : Nat) (H : Heap) (L : Path),i + f = l.length → Made H0 r L H → L.length ≤ i → (l.drop i).foldl addN L = l.foldl addN [] →
  Wp Γ trie_New_l1 [(3,.bx r 0),(10,.p (.sl kk 1 (strs l))),(11,.p (.int .i64 (l.length : Int))),(12,.p (.int .i64 (i : Int)))] H Q := by
 intro f
 induction f with
 | zero =>
  intro i H L hi hM hLl hf
  have hi : i = l.length := by omega
  subst hi
  rw [List.drop_length,List.foldl_nil] at hf
  subst hf
  rw [W_loop (L := trie_New_l1) rfl]
  simp (disch := first | assumption | omega | decide | (simp only [lens] <;> omega) | fail) only [go_sem,trie_New_l1]
  exact hQ _ _ rfl hM
 | succ f ih =>
  intro i H L hi hM hLl hf
  have hlt : i < l.length := by omega
  have hdrop : l.drop i = l.getD i [] :: l.drop (i + 1) := by
   rw [List.drop_eq_getElem_cons hlt,List.getD_eq_getElem?_getD,List.getElem?_eq_getElem hlt]; rfl
  have hsi := hs (l.getD i []) (by rw [List.getD_eq_getElem?_getD,List.getElem?_eq_getElem hlt]; exact List.getElem_mem hlt)
  rw [hdrop,List.foldl_cons] at hf
  obtain ⟨H',e,h1,h2⟩ := hM.add (l.getD i []) hsi (by omega)
  have ih := ih (i + 1) H' _ (by omega) h2 (by have := @addN_len (l.getD i []) L; omega) hf
  rw [W_loop (L := trie_New_l1) rfl]
  simp (disch := first | assumption | omega | decide | (simp only [lens] <;> omega) | fail) only [go_sem,trie_New_l1,still401,h1]
  exact ih
theorem made0 (H : Heap) : Made H (H.length + 1) [] (H ++ [Blk.box (mapCells [])] ++ [Blk.box [.mp H.length,.p (.int .i64 0)]]) :=
 ⟨⟨_,trie0 H,fun i hi => tri0_foot hi⟩,fun i hi => by rw [List.append_assoc,List.getElem?_append_left hi],by simp,⟨.nil,by simp,by simp⟩⟩
theorem op_new {kk : SK} {H : Heap} (l : List (List UInt8)) (hl : l.length ≤ 900) (hs : ∀ s ∈ l,s.length ≤ 1000) : ∃ H',resW Γ 395 [.p (.sl kk 1 (strs l))] H = some ([.bx (H.length + 1) 0],H') ∧ Made H (H.length + 1) (l.foldl addN []) H' := by
 have key : ∃ rs H',resW Γ 395 [.p (.sl kk 1 (strs l))] H = some (rs,H') ∧ rs = [.bx (H.length + 1) 0] ∧ Made H (H.length + 1) (l.foldl addN []) H' := by
  refine resW_ex (fn := trie_New) (K := fun rs H' => rs = [.bx (H.length + 1) 0] ∧ Made H (H.length + 1) (l.foldl addN []) H') rfl rfl ?_
  simp (disch := first | assumption | omega | decide | (simp only [lens] <;> omega) | fail) only [go_sem,trie_New,len2]
  have hm := made0 H
  rw [List.append_assoc] at hm
  refine new_l1_ok l hl hs _ (fun e H' he hM => ?_) l.length 0 _ [] (by omega) hm (by simp) rfl
  simp (disch := first | assumption | omega | decide | (simp only [lens] <;> omega) | fail) only [go_sem,he]
  exact hM
 obtain ⟨rs,H',h1,rfl,h2⟩ := key
 exact ⟨H',h1,h2⟩
end Ab
namespace Ab
open Go (IntKind BinOp UnOp)
def cmpB (a b : List UInt8) : Int := if bytesLess a b = true then -1 else if bytesLess b a = true then 1 else 0
def cmpL (a b : Path) : Int := if partsLess a b = true then -1 else if partsLess b a = true then 1 else 0
theorem lss_str {a b : List UInt8} : binAV .lss (.p (.str a)) (.p (.str b)) = some (.p (.bool (bytesLess a b))) := rfl
theorem gtr_str {a b : List UInt8} : binAV .gtr (.p (.str a)) (.p (.str b)) = some (.p (.bool (bytesLess b a))) := by
 have e : (!(bytesLess a b || a == b)) = bytesLess b a := by
  rw [Bool.eq_iff_iff,Bool.not_eq_true',Bool.or_eq_false_iff,less_iff]
  constructor
  ·rintro ⟨h1,h2⟩
   have h1 : ¬ a < b := fun h => by rw [less_iff.2 h] at h1; cases h1
   rcases Classical.em (b < a) with h3 | h3
   ·exact h3
   ·have := List.le_antisymm h3 h1
    subst this
    simp at h2
  ·intro h
   refine ⟨?_,?_⟩
   ·cases e : bytesLess a b
    ·rfl
    ·exact absurd h (List.lt_asymm (less_iff.1 e))
   ·cases e : (a == b)
    ·rfl
    ·have : a = b := by simpa using e
     subst this
     exact absurd h (List.lt_irrefl _)
 show some (AV.p (PV.bool (!(bytesLess a b || a == b)))) = _
 rw [e]
theorem res_isNaN (a : List UInt8) : res Γ 436 [.str a] = some [.bool false] := by
 refine res_code (fn := cmp_isNaN_string) rfl rfl ?_
 simp (disch := first | assumption | omega | decide | (simp only [lens] <;> omega) | fail) only [go_sem,cmp_isNaN_string]
 simp
theorem res_cmpStr (a b : List UInt8) : res Γ 430 [.str a,.str b] = some [.int .i64 (cmpB a b)] := by
 have h1 := res_isNaN a
 have h2 := res_isNaN b
 refine res_code (fn := cmp_Compare_string) rfl rfl ?_
 unfold cmpB
 cases e1 : bytesLess a b
 ·cases e2 : bytesLess b a
  ·simp (disch := first | assumption | omega | decide | (simp only [lens] <;> omega) | fail) only [go_sem,cmp_Compare_string,h1,h2,lss_str,gtr_str,e1,e2]
  ·simp (disch := first | assumption | omega | decide | (simp only [lens] <;> omega) | fail) only [go_sem,cmp_Compare_string,h1,h2,lss_str,gtr_str,e1,e2]
 ·simp (disch := first | assumption | omega | decide | (simp only [lens] <;> omega) | fail) only [go_sem,cmp_Compare_string,h1,h2,lss_str,e1]
theorem cmpB_zero {a b : List UInt8} : cmpB a b = 0 ↔ a = b := by
 unfold cmpB
 constructor
 ·intro h
  split at h
  ·cases h
  ·rename_i h1
   split at h
   ·cases h
   ·rename_i h2
    exact List.le_antisymm (fun h => h2 (less_iff.2 h)) (fun h => h1 (less_iff.2 h))
 ·rintro rfl
  have : bytesLess a a = false := by
   cases e : bytesLess a a
   ·rfl
   ·exact absurd (less_iff.1 e) (List.lt_irrefl _)
  simp [this]
theorem cmpL_cons (a b : List UInt8) (x y : Path) : cmpL (a :: x) (b :: y) = if cmpB a b = 0 then cmpL x y else cmpB a b := by
 by_cases hab : a = b
 ·subst hab
  have : bytesLess a a = false := by
   cases e : bytesLess a a
   ·rfl
   ·exact absurd (less_iff.1 e) (List.lt_irrefl _)
  rw [if_pos (cmpB_zero.2 rfl)]
  simp [cmpL,partsLess,this]
 ·rw [if_neg (fun h => hab (cmpB_zero.1 h))]
  have h1 : (a == b) = false := by simpa using hab
  have h2 : (b == a) = false := by simpa using fun e => hab e.symm
  simp [cmpL,cmpB,partsLess,h1,h2]
theorem compare_l1_ok {k1 k2 : SK} (A B : Path) (_hA : A.length ≤ 1000000) (hB : B.length ≤ 1000000) (Q : Out → Prop)
  (hQ1 : ∀ e,look e 4 = .p (.int .i64 (cmpL A B)) → Q (.ret,e,[])) (hQ2 : (A.length ≤ B.length ∧ cmpL A B = if A.length < B.length then -1 else 0) → ∀ e,look e 0 = .p (.sl k1 1 (strs A)) → look e 1 = .p (.sl k2 1 (strs B)) → Q (.ex 0,e,[])) :
  ∀ (f i : Nat),i + f = A.length → i ≤ B.length → cmpL (A.drop i) (B.drop i) = cmpL A B →
  Wp Γ slices_Compare_string_string_l1 [(0,.p (.sl k1 1 (strs A))),(1,.p (.sl k2 1 (strs B))),(9,.p (.sl k1 1 (strs A))),(10,.p (.int .i64 (A.length : Int))),(11,.p (.int .i64 (i : Int)))] [] Q := by
 intro f
 induction f with
 | zero =>
  intro i hi hb hc
  have hi : i = A.length := by omega
  subst hi
  rw [W_loop (L := slices_Compare_string_string_l1) rfl]
  simp (disch := first | assumption | omega | decide | (simp only [lens] <;> omega) | fail) only [go_sem,slices_Compare_string_string_l1]
  refine hQ2 ⟨hb,?_⟩ _ rfl rfl
  rw [← hc,List.drop_length]
  cases hd : B.drop A.length with
  | nil =>
   have : B.length ≤ A.length := List.drop_eq_nil_iff.1 hd
   rw [if_neg (by omega)]; rfl
  | cons b t =>
   have : ¬ B.length ≤ A.length := fun h => by rw [List.drop_eq_nil_iff.2 h] at hd; cases hd
   rw [if_pos (by omega)]; rfl
 | succ f ih =>
  intro i hi hb hc
  have hlt : i < A.length := by omega
  have hdA : A.drop i = A.getD i [] :: A.drop (i + 1) := by
   rw [List.drop_eq_getElem_cons hlt,List.getD_eq_getElem?_getD,List.getElem?_eq_getElem hlt]; rfl
  by_cases hbe : i = B.length
  ·have e : cmpL A B = 1 := by
    rw [← hc,hdA,hbe,List.drop_length]; rfl
   have hge : (B.length : Int) ≤ (i : Int) := by omega
   rw [W_loop (L := slices_Compare_string_string_l1) rfl]
   simp (disch := first | assumption | omega | decide | (simp only [lens] <;> omega) | fail) only [go_sem,slices_Compare_string_string_l1]
   exact hQ1 _ (by rw [e]; rfl)
  ·have hltB : i < B.length := by omega
   have hdB : B.drop i = B.getD i [] :: B.drop (i + 1) := by
    rw [List.drop_eq_getElem_cons hltB,List.getD_eq_getElem?_getD,List.getElem?_eq_getElem hltB]; rfl
   rw [hdA,hdB,cmpL_cons] at hc
   have hcs := res_cmpStr (A.getD i []) (B.getD i [])
   by_cases hz : cmpB (A.getD i []) (B.getD i []) = 0
   ·rw [if_pos hz] at hc
    rw [hz] at hcs
    have ih := ih (i + 1) (by omega) (by omega) hc
    rw [W_loop (L := slices_Compare_string_string_l1) rfl]
    simp (disch := first | assumption | omega | decide | (simp only [lens] <;> omega) | fail) only [go_sem,slices_Compare_string_string_l1,hcs]
    exact ih
   ·rw [if_neg hz] at hc
    rw [W_loop (L := slices_Compare_string_string_l1) rfl]
    simp (disch := first | assumption | omega | decide | (simp only [lens] <;> omega) | fail) only [go_sem,slices_Compare_string_string_l1,hcs]
    exact hQ1 _ (by rw [← hc]; rfl)
theorem res_sliceCmp {k1 k2 : SK} (A B : Path) (hA : A.length ≤ 1000000) (hB : B.length ≤ 1000000) : res Γ 424 [.sl k1 1 (strs A),.sl k2 1 (strs B)] = some [.int .i64 (cmpL A B)] := by
 refine res_code (fn := slices_Compare_string_string) rfl rfl ?_
 simp (disch := first | assumption | omega | decide | (simp only [lens] <;> omega) | fail) only [go_sem,slices_Compare_string_string]
 refine compare_l1_ok A B hA hB _ (fun e he => ?_) (fun ⟨h1,h2⟩ e e0 e1 => ?_) A.length 0 (by omega) (by omega) rfl
 ·simp (disch := first | assumption | omega | decide | (simp only [lens] <;> omega) | fail) only [go_sem,he]
 ·by_cases hlt : A.length < B.length
  ·rw [if_pos hlt] at h2
   simp (disch := first | assumption | omega | decide | (simp only [lens] <;> omega) | fail) only [go_sem,e0,e1,h2]
  ·rw [if_neg hlt] at h2
   simp (disch := first | assumption | omega | decide | (simp only [lens] <;> omega) | fail) only [go_sem,e0,e1,h2]
theorem res_compare (a b : List UInt8 × Bool) (ha : a.1.length ≤ 1000) (hb : b.1.length ≤ 1000) : res Γ 410 [hitP a,hitP b] = some [.int .i64 (cmpH a b)] := by
 obtain ⟨a,la⟩ := a
 obtain ⟨b,lb⟩ := b
 simp only at ha hb
 have hpa := res_nameParts a (by omega)
 have hpb := res_nameParts b (by omega)
 have hca := splitB_len 46 a
 have hca2 := @count_le a 46
 have hcb := splitB_len 46 b
 have hcb2 := @count_le b 46
 have hc := res_sliceCmp (k1 := .any) (k2 := .any) (splitB 46 a) (splitB 46 b) (by omega) (by omega)
 have e : cmpH (a,la) (b,lb) = if cmpL (prt a) (prt b) = 0 then (if (la == lb) = true then 0 else if la = true then 1 else -1) else cmpL (prt a) (prt b) := by
  simp only [cmpH,dot_eq,cmpL]
  split
  ·rfl
  ·split <;> rfl
 rw [e]
 unfold hitP
 by_cases hz : cmpL (splitB 46 a) (splitB 46 b) = 0
 ·rw [hz] at hc
  have hz' : cmpL (prt a) (prt b) = 0 := hz
  rw [if_pos hz']
  refine res_code (fn := trie_compare) rfl rfl ?_
  cases la <;> cases lb <;> simp (disch := first | assumption | omega | decide | (simp only [lens] <;> omega) | fail) only [go_sem,trie_compare,hpa,hpb,hc] <;> rfl
 ·have hz' : ¬ cmpL (prt a) (prt b) = 0 := hz
  rw [if_neg hz']
  refine res_code (fn := trie_compare) rfl rfl ?_
  simp (disch := first | assumption | omega | decide | (simp only [lens] <;> omega) | fail) only [go_sem,trie_compare,hpa,hpb,hc]
end Ab
namespace Ab
theorem joinC_len {a : List UInt8} : ∀ {alts : List (List UInt8)},a ∈ alts → a.length ≤ (joinC alts).length
 | [],h => by cases h
 | [b],h => by rw [List.mem_singleton] at h; subst h; exact Nat.le_refl _
 | b :: c :: r,h => by
  rw [joinC_cons (by simp),List.length_append,List.length_cons]
  rcases List.mem_cons.1 h with rfl | h
  ·omega
  ·have := joinC_len (alts := c :: r) h
   omega
theorem prodL_mem {a b : List (List UInt8)} {x : List UInt8} (h : x ∈ prodL a b) : ∃ y z,y ∈ a ∧ z ∈ b ∧ x = y ++ z := by
 unfold prodL at h
 obtain ⟨y,hy,hx⟩ := List.mem_flatMap.1 h
 obtain ⟨z,hz,rfl⟩ := List.mem_map.1 hx
 exact ⟨y,z,hy,hz,rfl⟩
theorem exp_le {u : List UInt8} {out : List (List UInt8)} (h : Exp u out) : ∀ x ∈ out,x.length ≤ u.length := by
 induction h with
 | run p hp => intro x hx; rw [List.mem_singleton] at hx; subst hx; exact Nat.le_refl _
 | grp p alts f u l hp ha hf hu ih ihu =>
  intro x hx
  obtain ⟨y,z,hy,hz,rfl⟩ := prodL_mem hx
  rw [List.mem_singleton] at hy
  subst hy
  obtain ⟨v,w,hv,hw,rfl⟩ := prodL_mem hz
  obtain ⟨a,ha',hv⟩ := List.mem_flatMap.1 hv
  have h1 := ih a ha' v hv
  have h2 := joinC_len ha'
  have h3 := ihu w hw
  simp only [List.length_append,List.length_cons]
  omega
theorem prodL_drop {A B : List (List UInt8)} {i : Nat} (h : i < A.length) : prodL (A.drop i) B = B.map (A.getD i [] ++ ·) ++ prodL (A.drop (i + 1)) B := by
 unfold prodL
 rw [List.drop_eq_getElem_cons h,List.flatMap_cons]
 simp [List.getElem?_eq_getElem h]
theorem prodL_end {A B : List (List UInt8)} : prodL (A.drop A.length) B = [] := by
 rw [List.drop_length]; rfl
end Ab
namespace Ab
open Go (IntKind BinOp UnOp)
abbrev rdB (s : List UInt8) (at_ : Int) (ov : Bool) : Blk := .box [.p (.str s),.p (.int .i64 at_),.p (.bool ov)]
theorem map_drop1 {B : List (List UInt8)} {j : Nat} {x : List UInt8} (h : j < B.length) : (B.drop j).map (x ++ ·) = (x ++ B.getD j []) :: (B.drop (j + 1)).map (x ++ ·) := by
 rw [List.drop_eq_getElem_cons h,List.map_cons]
 simp [List.getElem?_eq_getElem h]
theorem prod_boundG {a b : Nat} (ha : a ≤ 512) (hb : b ≤ 2000) : (0 : Int) ≤ (a : Int) * (b : Int) ∧ (a : Int) * (b : Int) ≤ 1024000 := by
 have := Nat.mul_le_mul ha hb
 constructor
 ·exact Int.mul_nonneg (by omega) (by omega)
 ·have : ((a * b : Nat) : Int) ≤ ((512 * 2000 : Nat) : Int) := by omega
  rw [Int.natCast_mul] at this
  exact this
theorem prod_cast {a b : Nat} {c : Int} (h : ((a * b : Nat) : Int) ≤ c) : (a : Int) * (b : Int) ≤ c := by rw [Int.natCast_mul] at h; exact h
theorem prod_cast2 {a b : Nat} {c : Int} (h : c < ((a * b : Nat) : Int)) : c < (a : Int) * (b : Int) := by rw [Int.natCast_mul] at h; exact h
set_option maxRecDepth 10000 in
theorem times_l1_PP {kA : SK} {kB : SK} (s : List UInt8) (at_ : Int) (ov : Bool) (A B : List (List UInt8)) (hB : B.length ≤ 2000) (x : List UInt8) (hx : x.length ≤ 1000000) (hy : ∀ y ∈ B,y.length ≤ 1000000) (i : Int) (Q : Out → Prop) : ∀ (n j : Nat) (D : List (List UInt8)),j + n = B.length → D.length + n ≤ 1000000 →
  Q (.nrm,[(2,.p (.sl kB 1 (strs B))),(7,.own 1 (D ++ (B.drop j).map (x ++ ·)).length),(27,.p (.sl kA 1 (strs A))),(28,.p (.int .i64 (A.length : Int))),(29,.p (.int .i64 i))],[rdB s at_ ov,.row false 1 (strs (D ++ (B.drop j).map (x ++ ·)))]) →
  Wp Γ glob_reader_times_l1 [(2,.p (.sl kB 1 (strs B))),(7,.own 1 D.length),(9,.p (.str x)),(27,.p (.sl kA 1 (strs A))),(28,.p (.int .i64 (A.length : Int))),(29,.p (.int .i64 i)),(33,.p (.sl kB 1 (strs B))),(34,.p (.int .i64 (B.length : Int))),(35,.p (.int .i64 (j : Int)))] [rdB s at_ ov,.row false 1 (strs D)] (InBlk [2,7,27,28,29] 2 Q) := by
 intro n
 induction n with
 | zero =>
  intro j D hj hD hQ
  obtain rfl : j = B.length := by omega
  rw [List.drop_length,List.map_nil,List.append_nil] at hQ
  rw [W_loop (L := glob_reader_times_l1) rfl]
  simp (disch := first | assumption | omega | decide | (simp only [lens] <;> omega) | fail) only [go_sem]
  exact hQ
 | succ n ih =>
  intro j D hj hD hQ
  have hlt : j < B.length := by omega
  have hyj := hy _ (getD_mem hlt)
  have ih := ih (j + 1) (D ++ [x ++ B.getD j []]) (by omega) (by simp; omega) (by
   rw [map_drop1 hlt] at hQ
   rw [List.append_assoc]
   exact hQ)
  rw [List.length_append] at ih
  rw [W_loop (L := glob_reader_times_l1) rfl]
  simp (disch := first | assumption | omega | decide | (simp only [lens] <;> omega) | fail) only [go_sem]
  exact ih
set_option maxRecDepth 10000 in
theorem times_l2_PP {kA : SK} {kB : SK} (s : List UInt8) (at_ : Int) (ov : Bool) (A B : List (List UInt8)) (hA : A.length ≤ 512) (hB : B.length ≤ 2000) (hx : ∀ x ∈ A,x.length ≤ 1000000) (hy : ∀ y ∈ B,y.length ≤ 1000000) (Q : Out → Prop) : ∀ (n i : Nat) (D : List (List UInt8)),i + n = A.length → D.length + (prodL (A.drop i) B).length ≤ 512 →
  Q (.nrm,[(7,.own 1 (D ++ prodL (A.drop i) B).length)],[rdB s at_ ov,.row false 1 (strs (D ++ prodL (A.drop i) B))]) →
  Wp Γ glob_reader_times_l2 [(2,.p (.sl kB 1 (strs B))),(7,.own 1 D.length),(27,.p (.sl kA 1 (strs A))),(28,.p (.int .i64 (A.length : Int))),(29,.p (.int .i64 (i : Int)))] [rdB s at_ ov,.row false 1 (strs D)] (InBlk [7] 0 Q) := by
 intro n
 induction n with
 | zero =>
  intro i D hi hD hQ
  obtain rfl : i = A.length := by omega
  rw [prodL_end,List.append_nil] at hQ
  rw [W_loop (L := glob_reader_times_l2) rfl]
  simp (disch := first | assumption | omega | decide | (simp only [lens] <;> omega) | fail) only [go_sem]
  exact hQ
 | succ n ih =>
  intro i D hi hD hQ
  have hlt : i < A.length := by omega
  have hxi := hx _ (getD_mem hlt)
  rw [prodL_drop hlt,List.length_append,List.length_map] at hD
  have ih := ih (i + 1) (D ++ B.map (A.getD i [] ++ ·)) (by omega) (by rw [List.length_append,List.length_map]; omega) (by
   rw [prodL_drop hlt] at hQ
   rw [List.append_assoc]
   exact hQ)
  rw [W_loop (L := glob_reader_times_l2) rfl]
  simp (disch := first | assumption | omega | decide | (simp only [lens] <;> omega) | fail) only [go_sem]
  refine times_l1_PP s at_ ov A B hB (A.getD i []) hxi hy i _ B.length 0 D (by omega) (by omega) ?_
  rw [List.drop_zero]
  simp (disch := first | assumption | omega | decide | (simp only [lens] <;> omega) | fail) only [go_sem]
  exact ih
set_option maxRecDepth 10000 in
theorem resM_times_PP {kA : SK} {kB : SK} (s : List UInt8) (at_ : Int) (A B : List (List UInt8)) (hA : A.length ≤ 512) (hB : B.length ≤ 2000) (hAB : A.length * B.length ≤ 512) (hx : ∀ x ∈ A,x.length ≤ 1000000) (hy : ∀ y ∈ B,y.length ≤ 1000000) :
  resM Γ 1 51 [.bx 0 0,.p (.sl kA 1 (strs A)),.p (.sl kB 1 (strs B))] [rdB s at_ false] = some ([.own 1 (prodL A B).length],[rdB s at_ false,.row false 1 (strs (prodL A B))]) := by
 obtain ⟨hp0,hp1⟩ := prod_boundG hA hB
 have hp2 : (A.length : Int) * (B.length : Int) ≤ 512 := prod_cast (by omega)
 refine resM_code (fn := glob_reader_times) rfl rfl ?_
 simp (disch := first | assumption | omega | decide | (simp only [lens] <;> omega) | fail) only [go_sem,glob_reader_times]
 refine times_l2_PP s at_ false A B hA hB hx hy _ A.length 0 [] (by omega) (by rw [List.drop_zero,prodL_len]; simpa using hAB) ?_
 rw [List.drop_zero,List.nil_append]
 simp (disch := first | assumption | omega | decide | (simp only [lens] <;> omega) | fail) only [go_sem]
set_option maxRecDepth 10000 in
theorem times_l1_OP {fA : Bool} {kB : SK} (s : List UInt8) (at_ : Int) (ov : Bool) (A B : List (List UInt8)) (hB : B.length ≤ 2000) (x : List UInt8) (hx : x.length ≤ 1000000) (hy : ∀ y ∈ B,y.length ≤ 1000000) (i : Int) (Q : Out → Prop) : ∀ (n j : Nat) (D : List (List UInt8)),j + n = B.length → D.length + n ≤ 1000000 →
  Q (.nrm,[(2,.p (.sl kB 1 (strs B))),(7,.own 2 (D ++ (B.drop j).map (x ++ ·)).length),(27,.own 1 A.length),(28,.p (.int .i64 (A.length : Int))),(29,.p (.int .i64 i))],[rdB s at_ ov,.row fA 1 (strs A),.row false 1 (strs (D ++ (B.drop j).map (x ++ ·)))]) →
  Wp Γ glob_reader_times_l1 [(2,.p (.sl kB 1 (strs B))),(7,.own 2 D.length),(9,.p (.str x)),(27,.own 1 A.length),(28,.p (.int .i64 (A.length : Int))),(29,.p (.int .i64 i)),(33,.p (.sl kB 1 (strs B))),(34,.p (.int .i64 (B.length : Int))),(35,.p (.int .i64 (j : Int)))] [rdB s at_ ov,.row fA 1 (strs A),.row false 1 (strs D)] (InBlk [2,7,27,28,29] 2 Q) := by
 intro n
 induction n with
 | zero =>
  intro j D hj hD hQ
  obtain rfl : j = B.length := by omega
  rw [List.drop_length,List.map_nil,List.append_nil] at hQ
  rw [W_loop (L := glob_reader_times_l1) rfl]
  simp (disch := first | assumption | omega | decide | (simp only [lens] <;> omega) | fail) only [go_sem]
  exact hQ
 | succ n ih =>
  intro j D hj hD hQ
  have hlt : j < B.length := by omega
  have hyj := hy _ (getD_mem hlt)
  have ih := ih (j + 1) (D ++ [x ++ B.getD j []]) (by omega) (by simp; omega) (by
   rw [map_drop1 hlt] at hQ
   rw [List.append_assoc]
   exact hQ)
  rw [List.length_append] at ih
  rw [W_loop (L := glob_reader_times_l1) rfl]
  simp (disch := first | assumption | omega | decide | (simp only [lens] <;> omega) | fail) only [go_sem]
  exact ih
set_option maxRecDepth 10000 in
theorem times_l2_OP {fA : Bool} {kB : SK} (s : List UInt8) (at_ : Int) (ov : Bool) (A B : List (List UInt8)) (hA : A.length ≤ 512) (hB : B.length ≤ 2000) (hx : ∀ x ∈ A,x.length ≤ 1000000) (hy : ∀ y ∈ B,y.length ≤ 1000000) (Q : Out → Prop) : ∀ (n i : Nat) (D : List (List UInt8)),i + n = A.length → D.length + (prodL (A.drop i) B).length ≤ 512 →
  Q (.nrm,[(7,.own 2 (D ++ prodL (A.drop i) B).length)],[rdB s at_ ov,.row fA 1 (strs A),.row false 1 (strs (D ++ prodL (A.drop i) B))]) →
  Wp Γ glob_reader_times_l2 [(2,.p (.sl kB 1 (strs B))),(7,.own 2 D.length),(27,.own 1 A.length),(28,.p (.int .i64 (A.length : Int))),(29,.p (.int .i64 (i : Int)))] [rdB s at_ ov,.row fA 1 (strs A),.row false 1 (strs D)] (InBlk [7] 0 Q) := by
 intro n
 induction n with
 | zero =>
  intro i D hi hD hQ
  obtain rfl : i = A.length := by omega
  rw [prodL_end,List.append_nil] at hQ
  rw [W_loop (L := glob_reader_times_l2) rfl]
  simp (disch := first | assumption | omega | decide | (simp only [lens] <;> omega) | fail) only [go_sem]
  exact hQ
 | succ n ih =>
  intro i D hi hD hQ
  have hlt : i < A.length := by omega
  have hxi := hx _ (getD_mem hlt)
  rw [prodL_drop hlt,List.length_append,List.length_map] at hD
  have ih := ih (i + 1) (D ++ B.map (A.getD i [] ++ ·)) (by omega) (by rw [List.length_append,List.length_map]; omega) (by
   rw [prodL_drop hlt] at hQ
   rw [List.append_assoc]
   exact hQ)
  rw [W_loop (L := glob_reader_times_l2) rfl]
  simp (disch := first | assumption | omega | decide | (simp only [lens] <;> omega) | fail) only [go_sem]
  refine times_l1_OP s at_ ov A B hB (A.getD i []) hxi hy i _ B.length 0 D (by omega) (by omega) ?_
  rw [List.drop_zero]
  simp (disch := first | assumption | omega | decide | (simp only [lens] <;> omega) | fail) only [go_sem]
  exact ih
set_option maxRecDepth 10000 in
theorem resM_times_OP {fA : Bool} {kB : SK} (s : List UInt8) (at_ : Int) (A B : List (List UInt8)) (hA : A.length ≤ 512) (hB : B.length ≤ 2000) (hAB : A.length * B.length ≤ 512) (hx : ∀ x ∈ A,x.length ≤ 1000000) (hy : ∀ y ∈ B,y.length ≤ 1000000) :
  resM Γ 2 51 [.bx 0 0,.own 1 A.length,.p (.sl kB 1 (strs B))] [rdB s at_ false,.row fA 1 (strs A)] = some ([.own 2 (prodL A B).length],[rdB s at_ false,.row fA 1 (strs A),.row false 1 (strs (prodL A B))]) := by
 obtain ⟨hp0,hp1⟩ := prod_boundG hA hB
 have hp2 : (A.length : Int) * (B.length : Int) ≤ 512 := prod_cast (by omega)
 refine resM_code (fn := glob_reader_times) rfl rfl ?_
 simp (disch := first | assumption | omega | decide | (simp only [lens] <;> omega) | fail) only [go_sem,glob_reader_times]
 refine times_l2_OP s at_ false A B hA hB hx hy _ A.length 0 [] (by omega) (by rw [List.drop_zero,prodL_len]; simpa using hAB) ?_
 rw [List.drop_zero,List.nil_append]
 simp (disch := first | assumption | omega | decide | (simp only [lens] <;> omega) | fail) only [go_sem]
set_option maxRecDepth 10000 in
theorem times_l1_PO {kA : SK} {fB : Bool} (s : List UInt8) (at_ : Int) (ov : Bool) (A B : List (List UInt8)) (hB : B.length ≤ 2000) (x : List UInt8) (hx : x.length ≤ 1000000) (hy : ∀ y ∈ B,y.length ≤ 1000000) (i : Int) (Q : Out → Prop) : ∀ (n j : Nat) (D : List (List UInt8)),j + n = B.length → D.length + n ≤ 1000000 →
  Q (.nrm,[(2,.own 1 B.length),(7,.own 2 (D ++ (B.drop j).map (x ++ ·)).length),(27,.p (.sl kA 1 (strs A))),(28,.p (.int .i64 (A.length : Int))),(29,.p (.int .i64 i))],[rdB s at_ ov,.row fB 1 (strs B),.row false 1 (strs (D ++ (B.drop j).map (x ++ ·)))]) →
  Wp Γ glob_reader_times_l1 [(2,.own 1 B.length),(7,.own 2 D.length),(9,.p (.str x)),(27,.p (.sl kA 1 (strs A))),(28,.p (.int .i64 (A.length : Int))),(29,.p (.int .i64 i)),(33,.own 1 B.length),(34,.p (.int .i64 (B.length : Int))),(35,.p (.int .i64 (j : Int)))] [rdB s at_ ov,.row fB 1 (strs B),.row false 1 (strs D)] (InBlk [2,7,27,28,29] 2 Q) := by
 intro n
 induction n with
 | zero =>
  intro j D hj hD hQ
  obtain rfl : j = B.length := by omega
  rw [List.drop_length,List.map_nil,List.append_nil] at hQ
  rw [W_loop (L := glob_reader_times_l1) rfl]
  simp (disch := first | assumption | omega | decide | (simp only [lens] <;> omega) | fail) only [go_sem]
  exact hQ
 | succ n ih =>
  intro j D hj hD hQ
  have hlt : j < B.length := by omega
  have hyj := hy _ (getD_mem hlt)
  have ih := ih (j + 1) (D ++ [x ++ B.getD j []]) (by omega) (by simp; omega) (by
   rw [map_drop1 hlt] at hQ
   rw [List.append_assoc]
   exact hQ)
  rw [List.length_append] at ih
  rw [W_loop (L := glob_reader_times_l1) rfl]
  simp (disch := first | assumption | omega | decide | (simp only [lens] <;> omega) | fail) only [go_sem]
  exact ih
set_option maxRecDepth 10000 in
theorem times_l2_PO {kA : SK} {fB : Bool} (s : List UInt8) (at_ : Int) (ov : Bool) (A B : List (List UInt8)) (hA : A.length ≤ 512) (hB : B.length ≤ 2000) (hx : ∀ x ∈ A,x.length ≤ 1000000) (hy : ∀ y ∈ B,y.length ≤ 1000000) (Q : Out → Prop) : ∀ (n i : Nat) (D : List (List UInt8)),i + n = A.length → D.length + (prodL (A.drop i) B).length ≤ 512 →
  Q (.nrm,[(7,.own 2 (D ++ prodL (A.drop i) B).length)],[rdB s at_ ov,.row fB 1 (strs B),.row false 1 (strs (D ++ prodL (A.drop i) B))]) →
  Wp Γ glob_reader_times_l2 [(2,.own 1 B.length),(7,.own 2 D.length),(27,.p (.sl kA 1 (strs A))),(28,.p (.int .i64 (A.length : Int))),(29,.p (.int .i64 (i : Int)))] [rdB s at_ ov,.row fB 1 (strs B),.row false 1 (strs D)] (InBlk [7] 0 Q) := by
 intro n
 induction n with
 | zero =>
  intro i D hi hD hQ
  obtain rfl : i = A.length := by omega
  rw [prodL_end,List.append_nil] at hQ
  rw [W_loop (L := glob_reader_times_l2) rfl]
  simp (disch := first | assumption | omega | decide | (simp only [lens] <;> omega) | fail) only [go_sem]
  exact hQ
 | succ n ih =>
  intro i D hi hD hQ
  have hlt : i < A.length := by omega
  have hxi := hx _ (getD_mem hlt)
  rw [prodL_drop hlt,List.length_append,List.length_map] at hD
  have ih := ih (i + 1) (D ++ B.map (A.getD i [] ++ ·)) (by omega) (by rw [List.length_append,List.length_map]; omega) (by
   rw [prodL_drop hlt] at hQ
   rw [List.append_assoc]
   exact hQ)
  rw [W_loop (L := glob_reader_times_l2) rfl]
  simp (disch := first | assumption | omega | decide | (simp only [lens] <;> omega) | fail) only [go_sem]
  refine times_l1_PO s at_ ov A B hB (A.getD i []) hxi hy i _ B.length 0 D (by omega) (by omega) ?_
  rw [List.drop_zero]
  simp (disch := first | assumption | omega | decide | (simp only [lens] <;> omega) | fail) only [go_sem]
  exact ih
set_option maxRecDepth 10000 in
theorem resM_times_PO {kA : SK} {fB : Bool} (s : List UInt8) (at_ : Int) (A B : List (List UInt8)) (hA : A.length ≤ 512) (hB : B.length ≤ 2000) (hAB : A.length * B.length ≤ 512) (hx : ∀ x ∈ A,x.length ≤ 1000000) (hy : ∀ y ∈ B,y.length ≤ 1000000) :
  resM Γ 2 51 [.bx 0 0,.p (.sl kA 1 (strs A)),.own 1 B.length] [rdB s at_ false,.row fB 1 (strs B)] = some ([.own 2 (prodL A B).length],[rdB s at_ false,.row fB 1 (strs B),.row false 1 (strs (prodL A B))]) := by
 obtain ⟨hp0,hp1⟩ := prod_boundG hA hB
 have hp2 : (A.length : Int) * (B.length : Int) ≤ 512 := prod_cast (by omega)
 refine resM_code (fn := glob_reader_times) rfl rfl ?_
 simp (disch := first | assumption | omega | decide | (simp only [lens] <;> omega) | fail) only [go_sem,glob_reader_times]
 refine times_l2_PO s at_ false A B hA hB hx hy _ A.length 0 [] (by omega) (by rw [List.drop_zero,prodL_len]; simpa using hAB) ?_
 rw [List.drop_zero,List.nil_append]
 simp (disch := first | assumption | omega | decide | (simp only [lens] <;> omega) | fail) only [go_sem]
set_option maxRecDepth 10000 in
theorem resM_timesO_PO {kA : SK} {fB : Bool} (s : List UInt8) (at_ : Int) (A B : List (List UInt8)) (hA : A.length ≤ 512) (hB : B.length ≤ 2000) {ov : Bool} (h : ov = true ∨ 512 < A.length * B.length) :
  resM Γ 2 51 [.bx 0 0,.p (.sl kA 1 (strs A)),.own 1 B.length] [rdB s at_ ov,.row fB 1 (strs B)] = some ([.p (.sl .nil 1 [])],[rdB s at_ true,.row fB 1 (strs B)]) := by
 obtain ⟨hp0,hp1⟩ := prod_boundG hA hB
 refine resM_code (fn := glob_reader_times) rfl rfl ?_
 cases ov
 ·have hp2 : 512 < (A.length : Int) * (B.length : Int) := by
   rcases h with h | h
   ·cases h
   ·exact prod_cast2 (by omega)
  simp (disch := first | assumption | omega | decide | (simp only [lens] <;> omega) | fail) only [go_sem,glob_reader_times]
 ·simp (disch := first | assumption | omega | decide | (simp only [lens] <;> omega) | fail) only [go_sem,glob_reader_times]
set_option maxRecDepth 10000 in
theorem times_l1_OO {fA : Bool} {fB : Bool} (s : List UInt8) (at_ : Int) (ov : Bool) (A B : List (List UInt8)) (hB : B.length ≤ 2000) (x : List UInt8) (hx : x.length ≤ 1000000) (hy : ∀ y ∈ B,y.length ≤ 1000000) (i : Int) (Q : Out → Prop) : ∀ (n j : Nat) (D : List (List UInt8)),j + n = B.length → D.length + n ≤ 1000000 →
  Q (.nrm,[(2,.own 2 B.length),(7,.own 3 (D ++ (B.drop j).map (x ++ ·)).length),(27,.own 1 A.length),(28,.p (.int .i64 (A.length : Int))),(29,.p (.int .i64 i))],[rdB s at_ ov,.row fA 1 (strs A),.row fB 1 (strs B),.row false 1 (strs (D ++ (B.drop j).map (x ++ ·)))]) →
  Wp Γ glob_reader_times_l1 [(2,.own 2 B.length),(7,.own 3 D.length),(9,.p (.str x)),(27,.own 1 A.length),(28,.p (.int .i64 (A.length : Int))),(29,.p (.int .i64 i)),(33,.own 2 B.length),(34,.p (.int .i64 (B.length : Int))),(35,.p (.int .i64 (j : Int)))] [rdB s at_ ov,.row fA 1 (strs A),.row fB 1 (strs B),.row false 1 (strs D)] (InBlk [2,7,27,28,29] 2 Q) := by
 intro n
 induction n with
 | zero =>
  intro j D hj hD hQ
  obtain rfl : j = B.length := by omega
  rw [List.drop_length,List.map_nil,List.append_nil] at hQ
  rw [W_loop (L := glob_reader_times_l1) rfl]
  simp (disch := first | assumption | omega | decide | (simp only [lens] <;> omega) | fail) only [go_sem]
  exact hQ
 | succ n ih =>
  intro j D hj hD hQ
  have hlt : j < B.length := by omega
  have hyj := hy _ (getD_mem hlt)
  have ih := ih (j + 1) (D ++ [x ++ B.getD j []]) (by omega) (by simp; omega) (by
   rw [map_drop1 hlt] at hQ
   rw [List.append_assoc]
   exact hQ)
  rw [List.length_append] at ih
  rw [W_loop (L := glob_reader_times_l1) rfl]
  simp (disch := first | assumption | omega | decide | (simp only [lens] <;> omega) | fail) only [go_sem]
  exact ih
set_option maxRecDepth 10000 in
theorem times_l2_OO {fA : Bool} {fB : Bool} (s : List UInt8) (at_ : Int) (ov : Bool) (A B : List (List UInt8)) (hA : A.length ≤ 512) (hB : B.length ≤ 2000) (hx : ∀ x ∈ A,x.length ≤ 1000000) (hy : ∀ y ∈ B,y.length ≤ 1000000) (Q : Out → Prop) : ∀ (n i : Nat) (D : List (List UInt8)),i + n = A.length → D.length + (prodL (A.drop i) B).length ≤ 512 →
  Q (.nrm,[(7,.own 3 (D ++ prodL (A.drop i) B).length)],[rdB s at_ ov,.row fA 1 (strs A),.row fB 1 (strs B),.row false 1 (strs (D ++ prodL (A.drop i) B))]) →
  Wp Γ glob_reader_times_l2 [(2,.own 2 B.length),(7,.own 3 D.length),(27,.own 1 A.length),(28,.p (.int .i64 (A.length : Int))),(29,.p (.int .i64 (i : Int)))] [rdB s at_ ov,.row fA 1 (strs A),.row fB 1 (strs B),.row false 1 (strs D)] (InBlk [7] 0 Q) := by
 intro n
 induction n with
 | zero =>
  intro i D hi hD hQ
  obtain rfl : i = A.length := by omega
  rw [prodL_end,List.append_nil] at hQ
  rw [W_loop (L := glob_reader_times_l2) rfl]
  simp (disch := first | assumption | omega | decide | (simp only [lens] <;> omega) | fail) only [go_sem]
  exact hQ
 | succ n ih =>
  intro i D hi hD hQ
  have hlt : i < A.length := by omega
  have hxi := hx _ (getD_mem hlt)
  rw [prodL_drop hlt,List.length_append,List.length_map] at hD
  have ih := ih (i + 1) (D ++ B.map (A.getD i [] ++ ·)) (by omega) (by rw [List.length_append,List.length_map]; omega) (by
   rw [prodL_drop hlt] at hQ
   rw [List.append_assoc]
   exact hQ)
  rw [W_loop (L := glob_reader_times_l2) rfl]
  simp (disch := first | assumption | omega | decide | (simp only [lens] <;> omega) | fail) only [go_sem]
  refine times_l1_OO s at_ ov A B hB (A.getD i []) hxi hy i _ B.length 0 D (by omega) (by omega) ?_
  rw [List.drop_zero]
  simp (disch := first | assumption | omega | decide | (simp only [lens] <;> omega) | fail) only [go_sem]
  exact ih
set_option maxRecDepth 10000 in
theorem resM_times_OO {fA : Bool} {fB : Bool} (s : List UInt8) (at_ : Int) (A B : List (List UInt8)) (hA : A.length ≤ 512) (hB : B.length ≤ 2000) (hAB : A.length * B.length ≤ 512) (hx : ∀ x ∈ A,x.length ≤ 1000000) (hy : ∀ y ∈ B,y.length ≤ 1000000) :
  resM Γ 3 51 [.bx 0 0,.own 1 A.length,.own 2 B.length] [rdB s at_ false,.row fA 1 (strs A),.row fB 1 (strs B)] = some ([.own 3 (prodL A B).length],[rdB s at_ false,.row fA 1 (strs A),.row fB 1 (strs B),.row false 1 (strs (prodL A B))]) := by
 obtain ⟨hp0,hp1⟩ := prod_boundG hA hB
 have hp2 : (A.length : Int) * (B.length : Int) ≤ 512 := prod_cast (by omega)
 refine resM_code (fn := glob_reader_times) rfl rfl ?_
 simp (disch := first | assumption | omega | decide | (simp only [lens] <;> omega) | fail) only [go_sem,glob_reader_times]
 refine times_l2_OO s at_ false A B hA hB hx hy _ A.length 0 [] (by omega) (by rw [List.drop_zero,prodL_len]; simpa using hAB) ?_
 rw [List.drop_zero,List.nil_append]
 simp (disch := first | assumption | omega | decide | (simp only [lens] <;> omega) | fail) only [go_sem]
set_option maxRecDepth 10000 in
theorem resM_timesO_OO {fA : Bool} {fB : Bool} (s : List UInt8) (at_ : Int) (A B : List (List UInt8)) (hA : A.length ≤ 512) (hB : B.length ≤ 2000) {ov : Bool} (h : ov = true ∨ 512 < A.length * B.length) :
  resM Γ 3 51 [.bx 0 0,.own 1 A.length,.own 2 B.length] [rdB s at_ ov,.row fA 1 (strs A),.row fB 1 (strs B)] = some ([.p (.sl .nil 1 [])],[rdB s at_ true,.row fA 1 (strs A),.row fB 1 (strs B)]) := by
 obtain ⟨hp0,hp1⟩ := prod_boundG hA hB
 refine resM_code (fn := glob_reader_times) rfl rfl ?_
 cases ov
 ·have hp2 : 512 < (A.length : Int) * (B.length : Int) := by
   rcases h with h | h
   ·cases h
   ·exact prod_cast2 (by omega)
  simp (disch := first | assumption | omega | decide | (simp only [lens] <;> omega) | fail) only [go_sem,glob_reader_times]
 ·simp (disch := first | assumption | omega | decide | (simp only [lens] <;> omega) | fail) only [go_sem,glob_reader_times]
end Ab
