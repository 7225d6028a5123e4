import Derived.Test.YtieagbclljmnlaaGreatDoorLGlob7
import Derived.Test.YtieagbclljmnlaaGreatDoorLAny
namespace Ab
open Go (IntKind BinOp UnOp)
def partB (p : List UInt8) : Bool := decide (p ≠ []) && p.all byteOk
def nameB (s : List UInt8) : Bool := decide (1 ≤ s.length) && decide (s.length ≤ 200) && decide ((splitB 46 s).length ≤ 20) && (splitB 46 s).all partB
theorem isName_l1_ok (p : List UInt8) (hp : p.length ≤ 1000) (v22 v23 v24 : AV) (H : Heap) (Q : Out → Prop) : ∀ (f i : Nat),i + f = p.length →
  ((∀ c ∈ p.drop i,byteOk c = true) → ∀ e,look e 22 = v22 → look e 23 = v23 → look e 24 = v24 → Q (.ex 2,e,H)) →
  ((¬ ∀ c ∈ p.drop i,byteOk c = true) → ∀ e,look e 2 = .p (.bool false) → Q (.ret,e,H)) →
  Wp Γ name_Is_l1 [(5,.p (.str p)),(22,v22),(23,v23),(24,v24),(31,.p (.int .i64 (p.length : Int))),(32,.p (.int .i64 (i : Int)))] H Q := by
 intro f
 induction f with
 | zero =>
  intro i hi h1 h2
  have hi : i = p.length := by omega
  subst hi
  rw [W_loop (L := name_Is_l1) rfl]
  simp (disch := first | assumption | omega | decide | (simp only [lens] <;> omega) | fail) only [go_sem,name_Is_l1]
  exact h1 (by simp) _ rfl rfl rfl
 | succ f ih =>
  intro i hi h1 h2
  have hlt : i < p.length := by omega
  have hd : p.drop i = p.getD i 0 :: p.drop (i + 1) := by
   rw [List.drop_eq_getElem_cons hlt,List.getD_eq_getElem?_getD,List.getElem?_eq_getElem hlt]; rfl
  have b0 := @byt_nonneg p i
  have b1 := @byt_le p i
  have hb := res_nameIsByte (byt p i) b0 (by omega)
  rw [byteI_byt] at hb
  rw [hd] at h1 h2
  cases hc : byteOk (p.getD i 0) with
  | true =>
   rw [hc] at hb
   have ih := ih (i + 1) (by omega) (fun ha => h1 (fun c hcm => by
    rcases List.mem_cons.1 hcm with rfl | hcm
    ·exact hc
    ·exact ha c hcm)) (fun ha => h2 (fun hb => ha fun c hcm => hb c (List.mem_cons_of_mem _ hcm)))
   rw [W_loop (L := name_Is_l1) rfl]
   simp (disch := first | assumption | omega | decide | (simp only [lens] <;> omega) | fail) only [go_sem,name_Is_l1,hb]
   exact ih
  | false =>
   rw [hc] at hb
   rw [W_loop (L := name_Is_l1) rfl]
   simp (disch := first | assumption | omega | decide | (simp only [lens] <;> omega) | fail) only [go_sem,name_Is_l1,hb]
   exact h2 (fun ha => by rw [ha _ (List.mem_cons_self ..)] at hc; cases hc) _ rfl
theorem partB_iff {p : List UInt8} : partB p = true ↔ p ≠ [] ∧ ∀ c ∈ p,byteOk c = true := by
 simp [partB,List.all_eq_true]
theorem isName_l2_ok {kk : SK} (ps : List (List UInt8)) (hl : ps.length ≤ 1000) (hp : ∀ p ∈ ps,p.length ≤ 1000) (H : Heap) (Q : Out → Prop) : ∀ (f i : Nat),i + f = ps.length →
  ((∀ p ∈ ps.drop i,partB p = true) → ∀ e,Q (.ex 0,e,H)) →
  ((¬ ∀ p ∈ ps.drop i,partB p = true) → ∀ e,look e 2 = .p (.bool false) → Q (.ret,e,H)) →
  Wp Γ name_Is_l2 [(22,.p (.sl kk 1 (strs ps))),(23,.p (.int .i64 (ps.length : Int))),(24,.p (.int .i64 (i : Int)))] H Q := by
 intro f
 induction f with
 | zero =>
  intro i hi h1 h2
  have hi : i = ps.length := by omega
  subst hi
  rw [W_loop (L := name_Is_l2) rfl]
  simp (disch := first | assumption | omega | decide | (simp only [lens] <;> omega) | fail) only [go_sem,name_Is_l2]
  exact h1 (by simp) _
 | succ f ih =>
  intro i hi h1 h2
  have hlt : i < ps.length := by omega
  have hd : ps.drop i = ps.getD i [] :: ps.drop (i + 1) := by
   rw [List.drop_eq_getElem_cons hlt,List.getD_eq_getElem?_getD,List.getElem?_eq_getElem hlt]; rfl
  have hpl := hp (ps.getD i []) (by rw [List.getD_eq_getElem?_getD,List.getElem?_eq_getElem hlt]; exact List.getElem_mem hlt)
  rw [hd] at h1 h2
  generalize hq : ps.getD i [] = p at *
  by_cases he : p = []
  ·rw [W_loop (L := name_Is_l2) rfl]
   simp (disch := first | assumption | omega | decide | (simp only [lens] <;> omega) | fail) only [go_sem,name_Is_l2,hq,he]
   refine h2 (fun ha => ?_) _ rfl
   have := (partB_iff.1 (ha _ (List.mem_cons_self ..))).1
   exact this he
  ·have key := fun QQ => isName_l1_ok p hpl (.p (.sl kk 1 (strs ps))) (.p (.int .i64 (ps.length : Int))) (.p (.int .i64 (i : Int))) H QQ p.length 0 (by omega)
   rw [W_loop (L := name_Is_l2) rfl]
   simp (disch := first | assumption | omega | decide | (simp only [lens] <;> omega) | fail) only [go_sem,name_Is_l2,hq,he]
   refine key _ (fun ha e e1 e2 e3 => ?_) (fun ha e e1 => ?_)
   ·simp (disch := first | assumption | omega | decide | (simp only [lens] <;> omega) | fail) only [go_sem,e1,e2,e3]
    refine ih (i + 1) (by omega) (fun hb => h1 fun q hq => ?_) (fun hb => h2 fun hc => hb fun q hq => hc q (List.mem_cons_of_mem _ hq))
    rcases List.mem_cons.1 hq with rfl | hq
    ·exact partB_iff.2 ⟨he,by simpa using ha⟩
    ·exact hb q hq
   ·simp (disch := first | assumption | omega | decide | (simp only [lens] <;> omega) | fail) only [go_sem]
    exact h2 (fun hc => ha (by simpa using (partB_iff.1 (hc _ (List.mem_cons_self ..))).2)) _ e1
theorem nameB_all {s : List UInt8} : ((∀ p ∈ splitB 46 s,partB p = true) ↔ (splitB 46 s).all partB = true) := by simp
theorem res_nameIs (s : List UInt8) (hs : s.length ≤ 1000) : res Γ 56 [.str s] = some [.bool (nameB s)] := by
 have hps := res_nameParts s (by omega)
 have hc := splitB_len 46 s
 have hc2 := @count_le s 46
 refine res_code (fn := name_Is) rfl rfl ?_
 unfold nameB
 by_cases h1 : s.length < 1
 ·have : decide (1 ≤ s.length) = false := by simpa using h1
  simp (disch := first | assumption | omega | decide | (simp only [lens] <;> omega) | fail) only [go_sem,name_Is,this]
 ·by_cases h2 : 200 < s.length
  ·have : decide (s.length ≤ 200) = false := by simpa using h2
   simp (disch := first | assumption | omega | decide | (simp only [lens] <;> omega) | fail) only [go_sem,name_Is,this]
  ·by_cases h3 : 20 < (splitB 46 s).length
   ·have : decide ((splitB 46 s).length ≤ 20) = false := by simpa using h3
    simp (disch := first | assumption | omega | decide | (simp only [lens] <;> omega) | fail) only [go_sem,name_Is,this]
   ·have e1 : decide (1 ≤ s.length) = true := by simp; omega
    have e2 : decide (s.length ≤ 200) = true := by simp; omega
    have e3 : decide ((splitB 46 s).length ≤ 20) = true := by simp; omega
    simp (disch := first | assumption | omega | decide | (simp only [lens] <;> omega) | fail) only [go_sem,name_Is,e1,e2,e3]
    refine isName_l2_ok (splitB 46 s) (by omega) (fun p hp => by have := splitB_mem_len hp; omega) _ _ (splitB 46 s).length 0 (by omega) (fun ha e => ?_) (fun ha e he => ?_)
    ·rw [List.drop_zero,nameB_all] at ha
     simp (disch := first | assumption | omega | decide | (simp only [lens] <;> omega) | fail) only [go_sem,ha]
    ·rw [List.drop_zero,nameB_all] at ha
     have ha : (splitB 46 s).all partB = false := by simpa using ha
     simp (disch := first | assumption | omega | decide | (simp only [lens] <;> omega) | fail) only [go_sem,he,ha]
theorem r8Is_l1_ok {kk : SK} (ps : List (List UInt8)) (_hl : ps.length ≤ 1000) (j : Nat) (hj : j < ps.length) (p : List UInt8) (hpj : ps.getD j [] = p) (hp : p.length ≤ 1000) (H : Heap) (Q : Out → Prop) : ∀ (f i : Nat),i + f = p.length →
  ((∀ c ∈ p.drop i,byteOk c = true) → ∀ e,look e 3 = .p (.sl kk 1 (strs ps)) → look e 4 = .p (.int .i64 (j : Int)) → Q (.ex 2,e,H)) →
  ((¬ ∀ c ∈ p.drop i,byteOk c = true) → ∀ e,look e 2 = .p (.bool false) → Q (.ret,e,H)) →
  Wp Γ r8_Is_l1 [(3,.p (.sl kk 1 (strs ps))),(4,.p (.int .i64 (j : Int))),(5,.p (.int .i64 (i : Int)))] H Q := by
 intro f
 induction f with
 | zero =>
  intro i hi h1 h2
  have hi : i = p.length := by omega
  subst hi
  rw [W_loop (L := r8_Is_l1) rfl]
  simp (disch := first | assumption | omega | decide | (simp only [lens] <;> omega) | fail) only [go_sem,r8_Is_l1,hpj]
  exact h1 (by simp) _ rfl rfl
 | succ f ih =>
  intro i hi h1 h2
  have hlt : i < p.length := by omega
  have hd : p.drop i = p.getD i 0 :: p.drop (i + 1) := by
   rw [List.drop_eq_getElem_cons hlt,List.getD_eq_getElem?_getD,List.getElem?_eq_getElem hlt]; rfl
  have b0 := @byt_nonneg p i
  have b1 := @byt_le p i
  have hb := res_r8Byte (byt p i) b0 (by omega)
  rw [byteI_byt] at hb
  rw [hd] at h1 h2
  cases hc : byteOk (p.getD i 0) with
  | true =>
   rw [hc] at hb
   have ih := ih (i + 1) (by omega) (fun ha => h1 (fun c hcm => by
    rcases List.mem_cons.1 hcm with rfl | hcm
    ·exact hc
    ·exact ha c hcm)) (fun ha => h2 (fun hb => ha fun c hcm => hb c (List.mem_cons_of_mem _ hcm)))
   rw [W_loop (L := r8_Is_l1) rfl]
   simp (disch := first | assumption | omega | decide | (simp only [lens] <;> omega) | fail) only [go_sem,r8_Is_l1,hpj,hb]
   exact ih
  | false =>
   rw [hc] at hb
   rw [W_loop (L := r8_Is_l1) rfl]
   simp (disch := first | assumption | omega | decide | (simp only [lens] <;> omega) | fail) only [go_sem,r8_Is_l1,hpj,hb]
   exact h2 (fun ha => by rw [ha _ (List.mem_cons_self ..)] at hc; cases hc) _ rfl
theorem r8Is_l2_ok {kk : SK} (ps : List (List UInt8)) (hl : ps.length ≤ 1000) (hp : ∀ p ∈ ps,p.length ≤ 1000) (H : Heap) (Q : Out → Prop) : ∀ (f i : Nat),i + f = ps.length →
  ((∀ p ∈ ps.drop i,partB p = true) → ∀ e,look e 3 = .p (.sl kk 1 (strs ps)) → Q (.ex 0,e,H)) →
  ((¬ ∀ p ∈ ps.drop i,partB p = true) → ∀ e,look e 2 = .p (.bool false) → Q (.ret,e,H)) →
  Wp Γ r8_Is_l2 [(3,.p (.sl kk 1 (strs ps))),(4,.p (.int .i64 (i : Int)))] H Q := by
 intro f
 induction f with
 | zero =>
  intro i hi h1 h2
  have hi : i = ps.length := by omega
  subst hi
  rw [W_loop (L := r8_Is_l2) rfl]
  simp (disch := first | assumption | omega | decide | (simp only [lens] <;> omega) | fail) only [go_sem,r8_Is_l2]
  exact h1 (by simp) _ rfl
 | succ f ih =>
  intro i hi h1 h2
  have hlt : i < ps.length := by omega
  have hd : ps.drop i = ps.getD i [] :: ps.drop (i + 1) := by
   rw [List.drop_eq_getElem_cons hlt,List.getD_eq_getElem?_getD,List.getElem?_eq_getElem hlt]; rfl
  have hpl := hp (ps.getD i []) (by rw [List.getD_eq_getElem?_getD,List.getElem?_eq_getElem hlt]; exact List.getElem_mem hlt)
  rw [hd] at h1 h2
  by_cases he : ps.getD i [] = []
  ·rw [W_loop (L := r8_Is_l2) rfl]
   simp (disch := first | assumption | omega | decide | (simp only [lens] <;> omega) | fail) only [go_sem,r8_Is_l2,he]
   refine h2 (fun ha => ?_) _ rfl
   have := (partB_iff.1 (ha _ (List.mem_cons_self ..))).1
   exact this he
  ·have key := fun QQ => r8Is_l1_ok (kk := kk) ps hl i hlt (ps.getD i []) rfl hpl H QQ (ps.getD i []).length 0 (by omega)
   rw [W_loop (L := r8_Is_l2) rfl]
   simp (disch := first | assumption | omega | decide | (simp only [lens] <;> omega) | fail) only [go_sem,r8_Is_l2,he]
   refine key _ (fun ha e e1 e2 => ?_) (fun ha e e1 => ?_)
   ·simp (disch := first | assumption | omega | decide | (simp only [lens] <;> omega) | fail) only [go_sem,e1,e2]
    refine ih (i + 1) (by omega) (fun hb => h1 fun q hq => ?_) (fun hb => h2 fun hc => hb fun q hq => hc q (List.mem_cons_of_mem _ hq))
    rcases List.mem_cons.1 hq with rfl | hq
    ·exact partB_iff.2 ⟨he,by simpa using ha⟩
    ·exact hb q hq
   ·simp (disch := first | assumption | omega | decide | (simp only [lens] <;> omega) | fail) only [go_sem]
    exact h2 (fun hc => ha (by simpa using (partB_iff.1 (hc _ (List.mem_cons_self ..))).2)) _ e1
theorem res_r8Is (s : List UInt8) : res Γ 396 [.str s] = some [.bool (nameB s)] := by
 have hc := splitB_len 46 s
 have hc2 := @count_le s 46
 refine res_code (fn := r8_Is) rfl rfl ?_
 unfold nameB
 by_cases h1 : s.length < 1
 ·have : decide (1 ≤ s.length) = false := by simpa using h1
  simp (disch := first | assumption | omega | decide | (simp only [lens] <;> omega) | fail) only [go_sem,r8_Is,this]
 ·by_cases h2 : 200 < s.length
  ·have : decide (s.length ≤ 200) = false := by simpa using h2
   simp (disch := first | assumption | omega | decide | (simp only [lens] <;> omega) | fail) only [go_sem,r8_Is,this]
  ·have hps := res_r8Parts s (by omega)
   have e1 : decide (1 ≤ s.length) = true := by simp; omega
   have e2 : decide (s.length ≤ 200) = true := by simp; omega
   simp (disch := first | assumption | omega | decide | (simp only [lens] <;> omega) | fail) only [go_sem,r8_Is,hps,e1,e2]
   refine r8Is_l2_ok (splitB 46 s) (by omega) (fun p hp => by have := splitB_mem_len hp; omega) _ _ (splitB 46 s).length 0 (by omega) (fun ha e he => ?_) (fun ha e he => ?_)
   ·rw [List.drop_zero,nameB_all] at ha
    simp (disch := first | assumption | omega | decide | (simp only [lens] <;> omega) | fail) only [go_sem,ha,he]
    simp
    omega
   ·rw [List.drop_zero,nameB_all] at ha
    have ha : (splitB 46 s).all partB = false := by simpa using ha
    simp (disch := first | assumption | omega | decide | (simp only [lens] <;> omega) | fail) only [go_sem,he,ha]
end Ab
namespace Ab
open Go (IntKind BinOp UnOp)
theorem still420 : stillW Γ 420 = true := rfl
theorem still414 : stillW Γ 414 = true := rfl
structure Laid (N : Tri) (H : Heap) (r n : Nat) (ps : Path) (i : Nat) (N' : Tri) (H' : Heap) : Prop where
 lies : Lies H' N' r n
 some : ∀ q,(∃ x,N' q = some x) ↔ (∃ x,N q = some x) ∨ ∃ j,j ≤ i ∧ q = ps.take j
 leaf : ∀ q,leafAt N' q = leafAt N q
 chg : Chg N N' H H'
theorem insert_l1_ok {kk : SK} {N : Tri} {H : Heap} {r n : Nat} (ps : Path) (hps : ps.length ≤ 1001) (Q : Out → Prop)
  (hQ : ∀ N' H' nd' e,Laid N H r n ps ps.length N' H' → N' ps = some nd' → look e 0 = .bx r 0 → look e 6 = (if ps = [] then .p .nilp else .bx nd'.b 0) → Q (.ex 0,e,H')) :
  ∀ (f i : Nat) (N1 : Tri) (H1 : Heap) (nd : Nd),i + f = ps.length → Laid N H r n ps i N1 H1 → N1 (ps.take i) = some nd →
  Wp Γ trie_Trie_Insert_l1 [(0,.bx r 0),(5,.bx nd.b 0),(6,if i = 0 then .p .nilp else .bx nd.b 0),(20,.p (.sl kk 1 (strs ps))),(21,.p (.int .i64 (ps.length : Int))),(22,.p (.int .i64 (i : Int)))] H1 Q := by
 intro f
 induction f with
 | zero =>
  intro i N1 H1 nd hi hL hN
  have hi : i = ps.length := by omega
  subst hi
  rw [List.take_length] at hN
  rw [W_loop (L := trie_Trie_Insert_l1) rfl]
  simp (disch := first | assumption | omega | decide | (simp only [lens] <;> omega) | fail) only [go_sem,trie_Trie_Insert_l1]
  refine hQ N1 H1 nd _ hL hN rfl ?_
  by_cases hz : ps = []
  ·subst hz; rfl
  ·rw [if_neg hz,if_neg (fun e => hz (List.length_eq_zero_iff.1 e))]
   rfl
 | succ f ih =>
  intro i N1 H1 nd hi hL hN
  have hlt : i < ps.length := by omega
  have ht : ps.take i ++ [ps.getD i []] = ps.take (i + 1) := by
   rw [List.take_add_one,List.getD_eq_getElem?_getD,List.getElem?_eq_getElem hlt]; rfl
  obtain ⟨N2,H2,nd2,h1,h2,h3,h4,h5,h6⟩ := step_ok hL.lies hN (ps.getD i [])
  rw [ht] at h3 h4
  have ih := ih (i + 1) N2 H2 nd2 (by omega) ⟨h2,fun q => ?_,fun q => (h5 q).trans (hL.leaf q),hL.chg.trans h6⟩ h3
  ·rw [if_neg (by omega)] at ih
   rw [W_loop (L := trie_Trie_Insert_l1) rfl]
   simp (disch := first | assumption | omega | decide | (simp only [lens] <;> omega) | fail) only [go_sem,trie_Trie_Insert_l1,still420,h1]
   exact ih
  ·rw [h4 q,hL.some q]
   constructor
   ·rintro ((h | ⟨j,hj,rfl⟩) | rfl)
    ·exact .inl h
    ·exact .inr ⟨j,by omega,rfl⟩
    ·exact .inr ⟨i + 1,Nat.le_refl _,rfl⟩
   ·rintro (h | ⟨j,hj,rfl⟩)
    ·exact .inl (.inl h)
    ·by_cases e : j = i + 1
     ·subst e; exact .inr rfl
     ·exact .inl (.inr ⟨j,by omega,rfl⟩)
def setLeaf (N : Tri) (p : Path) (l : Bool) : Tri := fun q => if q = p then (N p).map fun nd => { nd with leaf := l } else N q
theorem setLeaf_inv {N : Tri} {p q : Path} {l : Bool} {nd' : Nd} (h : setLeaf N p l q = some nd') : ∃ nd,N q = some nd ∧ nd'.b = nd.b ∧ nd'.m = nd.m ∧ nd'.kids = nd.kids := by
 unfold setLeaf at h
 split at h
 ·rename_i e
  subst e
  obtain ⟨nd,h1,rfl⟩ := Option.map_eq_some_iff.1 h
  exact ⟨nd,h1,rfl,rfl,rfl⟩
 ·exact ⟨nd',h,rfl,rfl,rfl⟩
theorem setLeaf_fwd {N : Tri} {p q : Path} {l : Bool} {nd : Nd} (h : N q = some nd) : ∃ nd',setLeaf N p l q = some nd' ∧ nd'.b = nd.b ∧ nd'.m = nd.m ∧ nd'.kids = nd.kids := by
 unfold setLeaf
 by_cases e : q = p
 ·subst e
  exact ⟨{ nd with leaf := l },by simp [h],rfl,rfl,rfl⟩
 ·exact ⟨nd,by simp [e,h],rfl,rfl,rfl⟩
theorem lies_setLeaf {H H' : Heap} {N : Tri} {r n n' : Nat} (h : Lies H N r n) {p : Path} (hp : p ≠ []) {nd nd0 : Nd} (hN : N p = some nd) (h0 : N [] = some nd0) {l : Bool}
  (e1 : H'[nd.b]? = some (.box [.mp nd.m,.p (.bool l)])) (e2 : H'[nd0.b]? = some (.box [.mp nd0.m,.p (.int .i64 (n' : Int))])) (e3 : ∀ i,i ≠ nd.b → i ≠ nd0.b → H'[i]? = H[i]?) :
  Lies H' (setLeaf N p l) r n' where
 root := by
  obtain ⟨nd1,h1,h2⟩ := h.root
  obtain ⟨nd',h3,h4,_⟩ := setLeaf_fwd (p := p) (l := l) h1
  exact ⟨nd',h3,h4.trans h2⟩
 box q nd' hq := by
  by_cases e : q = p
  ·subst e
   simp only [setLeaf,if_true,hN,Option.map_some,Option.some.injEq] at hq
   subst hq
   rw [mark_b hp]
   exact e1
  ·have hq' : N q = some nd' := by simpa [setLeaf,e] using hq
   by_cases e4 : q = []
   ·subst e4
    rw [h0] at hq'; cases hq'
    exact e2
   ·have hne : nd'.b ≠ nd.b := fun e5 => e (h.injb _ _ _ _ hq' hN e5)
    have hne0 : nd'.b ≠ nd0.b := fun e5 => e4 (h.injb _ _ _ _ hq' h0 e5)
    rw [e3 _ hne hne0,h.box q nd' hq',mark_b e4,mark_b e4]
 map q nd' hq := by
  obtain ⟨nd1,h1,_,h3,h4⟩ := setLeaf_inv hq
  rw [h3,h4,e3 _ (fun e => h.sep _ _ _ _ hN h1 e.symm) (fun e => h.sep _ _ _ _ h0 h1 e.symm)]
  exact h.map q nd1 h1
 kid q nd' hq k b hk := by
  obtain ⟨nd1,h1,_,h3,h4⟩ := setLeaf_inv hq
  rw [h4] at hk
  obtain ⟨nd2,h5,h6⟩ := h.kid q nd1 h1 k b hk
  obtain ⟨nd3,h7,h8,_⟩ := setLeaf_fwd (p := p) (l := l) h5
  exact ⟨nd3,h7,h8.trans h6⟩
 up q k nd' hq := by
  obtain ⟨nd1,h1,h2,h3,h4⟩ := setLeaf_inv hq
  obtain ⟨nd2,h5,h6⟩ := h.up q k nd1 h1
  obtain ⟨nd3,h7,h8,h9,h10⟩ := setLeaf_fwd (p := p) (l := l) h5
  exact ⟨nd3,h7,by rw [h10,h2]; exact h6⟩
 nodup q nd' hq := by
  obtain ⟨nd1,h1,h2,h3,h4⟩ := setLeaf_inv hq
  rw [h4]
  exact h.nodup q nd1 h1
 injb q q' nd1 nd2 hq hq' e := by
  obtain ⟨n1,h1,h2,h3,h4⟩ := setLeaf_inv hq
  obtain ⟨n2,g1,g2,g3,g4⟩ := setLeaf_inv hq'
  exact h.injb _ _ _ _ h1 g1 (by rw [← h2,← g2,e])
 injm q q' nd1 nd2 hq hq' e := by
  obtain ⟨n1,h1,h2,h3,h4⟩ := setLeaf_inv hq
  obtain ⟨n2,g1,g2,g3,g4⟩ := setLeaf_inv hq'
  exact h.injm _ _ _ _ h1 g1 (by rw [← h3,← g3,e])
 sep q q' nd1 nd2 hq hq' e := by
  obtain ⟨n1,h1,h2,h3,h4⟩ := setLeaf_inv hq
  obtain ⟨n2,g1,g2,g3,g4⟩ := setLeaf_inv hq'
  exact h.sep _ _ _ _ h1 g1 (by rw [← h2,← g3,e])
theorem setLeaf_foot {N : Tri} {p : Path} {l : Bool} {i : Nat} (h : Foot (setLeaf N p l) i) : Foot N i := by
 obtain ⟨q,nd',h1,h2⟩ := h
 obtain ⟨nd,h3,h4,h5,_⟩ := setLeaf_inv h1
 exact ⟨q,nd,h3,by rw [← h4,← h5]; exact h2⟩
theorem setLeaf_some {N : Tri} {p : Path} {l : Bool} (q : Path) : (∃ x,setLeaf N p l q = some x) ↔ ∃ x,N q = some x := by
 constructor
 ·rintro ⟨x,h⟩
  obtain ⟨nd,h1,_⟩ := setLeaf_inv h
  exact ⟨nd,h1⟩
 ·rintro ⟨x,h⟩
  obtain ⟨nd,h1,_⟩ := setLeaf_fwd (p := p) (l := l) h
  exact ⟨nd,h1⟩
theorem setLeaf_leaf {N : Tri} {p : Path} {l : Bool} {nd : Nd} (h : N p = some nd) (q : Path) : leafAt (setLeaf N p l) q = if q = p then l else leafAt N q := by
 unfold leafAt setLeaf
 by_cases e : q = p
 ·subst e; simp [h]
 ·simp [e]
theorem resW_insertNo {t : AV} {H : Heap} (s : List UInt8) (hs : s.length ≤ 1000) (ht : ∃ r,t = .bx r 0) (hn : nameB s = false) : resW Γ 401 [t,.p (.str s)] H = some ([.p (.int .i64 14)],H) := by
 obtain ⟨r,rfl⟩ := ht
 have h1 := res_nameIs s hs
 rw [hn] at h1
 refine resW_code (fn := trie_Trie_Insert) rfl rfl ?_
 simp (disch := first | assumption | omega | decide | (simp only [lens] <;> omega) | fail) only [go_sem,trie_Trie_Insert,h1]
theorem split_ne (s : List UInt8) : splitB 46 s ≠ [] := fun e => by
 have := splitB_len 46 s
 rw [e] at this
 simp at this
theorem resW_insert {H : Heap} {N : Tri} {r n : Nat} (h : Lies H N r n) (s : List UInt8) (hs : s.length ≤ 1000) (hn : nameB s = true) (hnn : n ≤ 1000000) :
  ∃ N' H',resW Γ 401 [.bx r 0,.p (.str s)] H = some ([.p (.int .i64 0)],H') ∧ Lies H' N' r (if leafAt N (splitB 46 s) = true then n else n + 1) ∧
   (∀ q,(∃ x,N' q = some x) ↔ (∃ x,N q = some x) ∨ ∃ j,q = (splitB 46 s).take j) ∧ (∀ q,leafAt N' q = if q = splitB 46 s then true else leafAt N q) ∧ Chg N N' H H' := by
 have h1 := res_nameIs s hs
 rw [hn] at h1
 have hps := res_nameParts s (by omega)
 have hc := splitB_len 46 s
 have hc2 := @count_le s 46
 obtain ⟨nd0,h0,hr0⟩ := h.root
 have key : ∃ rs H',resW Γ 401 [.bx r 0,.p (.str s)] H = some (rs,H') ∧ rs = [.p (.int .i64 0)] ∧ ∃ N',Lies H' N' r (if leafAt N (splitB 46 s) = true then n else n + 1) ∧
   (∀ q,(∃ x,N' q = some x) ↔ (∃ x,N q = some x) ∨ ∃ j,q = (splitB 46 s).take j) ∧ (∀ q,leafAt N' q = if q = splitB 46 s then true else leafAt N q) ∧ Chg N N' H H' := by
  refine resW_ex (fn := trie_Trie_Insert) (K := fun rs H' => rs = [.p (.int .i64 0)] ∧ ∃ N',Lies H' N' r (if leafAt N (splitB 46 s) = true then n else n + 1) ∧
   (∀ q,(∃ x,N' q = some x) ↔ (∃ x,N q = some x) ∨ ∃ j,q = (splitB 46 s).take j) ∧ (∀ q,leafAt N' q = if q = splitB 46 s then true else leafAt N q) ∧ Chg N N' H H') rfl rfl ?_
  simp (disch := first | assumption | omega | decide | (simp only [lens] <;> omega) | fail) only [go_sem,trie_Trie_Insert,h1,hps]
  have key := fun Q hQ => insert_l1_ok (kk := .any) (N := N) (H := H) (r := r) (n := n) (splitB 46 s) (by omega) Q hQ (splitB 46 s).length 0 N H nd0 (by omega) ⟨h,fun q => ⟨fun hq => .inl hq,fun hq => by
    rcases hq with hq | ⟨j,hj,rfl⟩
    ·exact hq
    ·have : j = 0 := by omega
     subst this
     exact ⟨nd0,h0⟩⟩,fun _ => rfl,.refl _ _⟩ h0
  rw [hr0,if_pos rfl] at key
  refine key _ fun N' H' nd' e hL hN' e0 e6 => ?_
  rw [if_neg (split_ne s)] at e6
  have hb := hL.lies.box _ nd' hN'
  rw [mark_b (split_ne s)] at hb
  obtain ⟨nd1,hr1,hrb⟩ := hL.lies.root
  have hbr := hL.lies.box _ nd1 hr1
  have hmk : mark [] nd1 n = .p (.int .i64 (n : Int)) := if_pos rfl
  rw [hmk,hrb] at hbr
  have hlf : leafAt N (splitB 46 s) = nd'.leaf := by rw [← hL.leaf,leafAt_some hN']
  have hsome : ∀ q,(∃ x,N' q = some x) ↔ (∃ x,N q = some x) ∨ ∃ j,q = (splitB 46 s).take j := fun q => by
   rw [hL.some q]
   constructor
   ·rintro (hq | ⟨j,_,hq⟩)
    ·exact .inl hq
    ·exact .inr ⟨j,hq⟩
   ·rintro (hq | ⟨j,rfl⟩)
    ·exact .inl hq
    ·by_cases hj : j ≤ (splitB 46 s).length
     ·exact .inr ⟨j,hj,rfl⟩
     ·exact .inr ⟨(splitB 46 s).length,Nat.le_refl _,by rw [List.take_of_length_le (by omega),List.take_length]⟩
  cases hl : nd'.leaf with
  | true =>
   rw [hl] at hb hlf
   simp (disch := first | assumption | omega | decide | (simp only [lens] <;> omega) | fail) only [go_sem,e0,e6,hb]
   rw [if_pos hlf]
   refine ⟨N',hL.lies,hsome,fun q => ?_,hL.chg⟩
   rw [hL.leaf]
   split
   ·rename_i e; rw [e,hlf]
   ·rfl
  | false =>
   rw [hl] at hb hlf
   have hne : nd'.b ≠ r := fun e => by
    have := hL.lies.injb _ _ _ _ hN' hr1 (by omega)
    exact split_ne s this
   have hb2 : (H'.set nd'.b (.box [.mp nd'.m,.p (.bool true)]))[r]? = some (.box [.mp nd1.m,.p (.int .i64 (n : Int))]) := by rw [List.getElem?_set_ne hne]; exact hbr
   have hwrap : IntKind.i64.wrap ((n : Int) + 1) = (n : Int) + 1 := by rw [wrap_i64 (by omega) (by omega)]
   simp (disch := first | assumption | omega | decide | (simp only [lens] <;> omega) | fail) only [go_sem,e0,e6,hb,hb2]
   rw [if_neg (by rw [hlf]; simp)]
   have hbl : nd'.b < H'.length := (List.getElem?_eq_some_iff.1 hb).1
   have hrl : r < H'.length := (List.getElem?_eq_some_iff.1 hbr).1
   have hnew : Lies ((H'.set nd'.b (.box [.mp nd'.m,.p (.bool true)])).set r (.box [.mp nd1.m,.p (.int .i64 (((n + 1 : Nat)) : Int))])) (setLeaf N' (splitB 46 s) true) r (n + 1) := by
    refine lies_setLeaf hL.lies (split_ne s) hN' hr1 ?_ ?_ fun i h1 h2 => ?_
    ·rw [List.getElem?_set_ne (fun e => hne e.symm),List.getElem?_set_self hbl]
    ·rw [hrb,List.getElem?_set_self (by simpa using hrl)]
    ·rw [List.getElem?_set_ne (by rw [← hrb]; exact h2.symm),List.getElem?_set_ne h1.symm]
   refine ⟨setLeaf N' (splitB 46 s) true,?_,fun q => ?_,fun q => ?_,?_⟩
   ·exact hnew
   ·rw [setLeaf_some]; exact hsome q
   ·rw [setLeaf_leaf hN',hL.leaf]
   ·have hc : Chg N' (setLeaf N' (splitB 46 s) true) H' ((H'.set nd'.b (.box [.mp nd'.m,.p (.bool true)])).set r (.box [.mp nd1.m,.p (.int .i64 (((n + 1 : Nat)) : Int))])) :=
     ⟨by simp,fun i hi hf => by
      rw [List.getElem?_set_ne (fun e => hf ⟨_,nd1,hr1,.inl (hrb.trans e)⟩),List.getElem?_set_ne (fun e => hf ⟨_,nd',hN',.inl e⟩)],fun i hi => .inl (setLeaf_foot hi)⟩
    exact hL.chg.trans hc
 obtain ⟨rs,H',h1,rfl,N',h2⟩ := key
 exact ⟨N',H',h1,h2⟩
end Ab
namespace Ab
open Go (IntKind BinOp UnOp)
theorem resW_has {H : Heap} {N : Tri} {r n : Nat} (h : Lies H N r n) (s : List UInt8) (hs : s.length ≤ 1000) : resW Γ 392 [.bx r 0,.p (.str s)] H = some ([.p (.bool (leafAt N (splitB 46 s)))],H) := by
 have hps := res_nameParts s (by omega)
 have hc := splitB_len 46 s
 have hc2 := @count_le s 46
 have hf := resW_find (kk := .any) h (splitB 46 s) (by omega) (split_ne s)
 cases hN : N (splitB 46 s) with
 | none =>
  rw [hN] at hf
  have e : leafAt N (splitB 46 s) = false := by simp [leafAt,hN]
  refine resW_code (fn := trie_Trie_Has) rfl rfl ?_
  simp (disch := first | assumption | omega | decide | (simp only [lens] <;> omega) | fail) only [go_sem,trie_Trie_Has,hps,still414,hf,ndV,e]
 | some nd =>
  rw [hN] at hf
  have hb := h.box _ nd hN
  rw [mark_b (split_ne s)] at hb
  have e := leafAt_some hN
  refine resW_code (fn := trie_Trie_Has) rfl rfl ?_
  simp (disch := first | assumption | omega | decide | (simp only [lens] <;> omega) | fail) only [go_sem,trie_Trie_Has,hps,still414,hf,ndV,hb,e]
theorem resW_len {H : Heap} {N : Tri} {r n : Nat} (h : Lies H N r n) : resW Γ 400 [.bx r 0] H = some ([.p (.int .i64 (n : Int))],H) := by
 obtain ⟨nd,h1,rfl⟩ := h.root
 have hb := h.box _ nd h1
 have hmk : mark [] nd n = .p (.int .i64 (n : Int)) := if_pos rfl
 rw [hmk] at hb
 refine resW_code (fn := trie_Trie_Len) rfl rfl ?_
 simp (disch := first | assumption | omega | decide | (simp only [lens] <;> omega) | fail) only [go_sem,trie_Trie_Len,hb]
def dropK (l : List (List UInt8 × Nat)) (k : List UInt8) : List (List UInt8 × Nat) := l.eraseP fun x => k == x.1
theorem mdrop_kids (l : List (List UInt8 × Nat)) (k : List UInt8) : mdrop (.str k) (kidsM l) = some (kidsM (dropK l k)) := by
 induction l with
 | nil => rfl
 | cons x r ih =>
  obtain ⟨k',b⟩ := x
  simp only [kidsM,List.map_cons,mdrop,keyEq,dropK,List.eraseP_cons]
  cases e : (k == k')
  ·have ih : mdrop (.str k) (List.map (fun k => (PV.str k.1,AV.bx k.2 0)) r) = some (kidsM (dropK r k)) := ih
   simp only [ih,Option.map_some]
   rfl
  ·rfl
theorem dropK_mem {l : List (List UInt8 × Nat)} (hn : (l.map (·.1)).Nodup) {k k' : List UInt8} {b : Nat} : (k',b) ∈ dropK l k ↔ (k',b) ∈ l ∧ k' ≠ k := by
 induction l with
 | nil => simp [dropK]
 | cons x r ih =>
  obtain ⟨k2,b2⟩ := x
  simp only [List.map_cons,List.nodup_cons] at hn
  have ih := ih hn.2
  simp only [dropK,List.eraseP_cons] at ih ⊢
  cases e : (k == k2)
  ·simp only [cond_false,List.mem_cons,Prod.mk.injEq]
   have hne : k2 ≠ k := fun h => by subst h; simp at e
   have ih : (k',b) ∈ List.eraseP (fun x => k == x.1) r ↔ (k',b) ∈ r ∧ k' ≠ k := ih
   rw [ih]
   constructor
   ·rintro (⟨rfl,rfl⟩ | ⟨h1,h2⟩)
    ·exact ⟨.inl ⟨rfl,rfl⟩,hne⟩
    ·exact ⟨.inr h1,h2⟩
   ·rintro ⟨⟨rfl,rfl⟩ | h1,h2⟩
    ·exact .inl ⟨rfl,rfl⟩
    ·exact .inr ⟨h1,h2⟩
  ·have hk : k = k2 := by simpa using e
   subst hk
   simp only [cond_true,List.mem_cons,Prod.mk.injEq]
   constructor
   ·intro h
    exact ⟨.inr h,fun e => hn.1 (by rw [← e]; exact List.mem_map.2 ⟨_,h,rfl⟩)⟩
   ·rintro ⟨⟨rfl,_⟩ | h1,h2⟩
    ·exact absurd rfl h2
    ·exact h1
theorem dropK_nodup {l : List (List UInt8 × Nat)} (hn : (l.map (·.1)).Nodup) (k : List UInt8) : ((dropK l k).map (·.1)).Nodup :=
 List.Nodup.sublist (List.Sublist.map _ (List.eraseP_sublist ..)) hn
def delKid (N : Tri) (p : Path) (k : List UInt8) : Tri := fun q =>
 if q = p then (N p).map fun nd => { nd with kids := dropK nd.kids k } else if q = p ++ [k] then none else N q
theorem lies_delKid {H : Heap} {N : Tri} {r n : Nat} (h : Lies H N r n) {p : Path} {nd nd' : Nd} (hp : N p = some nd) {k : List UInt8} (hk : N (p ++ [k]) = some nd') (hkids : nd'.kids = []) :
  Lies (H.set nd.m (Blk.box (mapCells (kidsM (dropK nd.kids k))))) (delKid N p k) r n := by
 have hml : nd.m < H.length := (List.getElem?_eq_some_iff.1 (h.map p nd hp)).1
 have a1 : delKid N p k p = some { nd with kids := dropK nd.kids k } := by simp [delKid,hp]
 have a2 : delKid N p k (p ++ [k]) = none := by simp [delKid]
 have a3 : ∀ q,q ≠ p → q ≠ p ++ [k] → delKid N p k q = N q := fun q h1 h2 => by simp [delKid,h1,h2]
 have hnd : ∀ q x,delKid N p k q = some x → (q = p ∧ x = { nd with kids := dropK nd.kids k }) ∨ (q ≠ p ∧ q ≠ p ++ [k] ∧ N q = some x) := by
  intro q x hq
  by_cases e1 : q = p
  ·subst e1; rw [a1] at hq; cases hq; exact .inl ⟨rfl,rfl⟩
  ·by_cases e2 : q = p ++ [k]
   ·subst e2; rw [a2] at hq; cases hq
   ·rw [a3 q e1 e2] at hq; exact .inr ⟨e1,e2,hq⟩
 have hpl : ∀ q x,delKid N p k q = some x → ∃ nd0,N q = some nd0 ∧ x.b = nd0.b ∧ x.m = nd0.m := by
  intro q x hq
  rcases hnd q x hq with ⟨rfl,rfl⟩ | ⟨_,_,h3⟩
  ·exact ⟨nd,hp,rfl,rfl⟩
  ·exact ⟨x,h3,rfl,rfl⟩
 refine ⟨?_,fun q x hq => ?_,fun q x hq => ?_,fun q x hq k' b' hk' => ?_,fun q k' x hq => ?_,fun q x hq => ?_,fun q q' x y hq hq' e => ?_,fun q q' x y hq hq' e => ?_,fun q q' x y hq hq' e => ?_⟩
 ·obtain ⟨nd0,h0,h1⟩ := h.root
  by_cases e1 : p = []
  ·subst e1
   rw [hp] at h0; cases h0
   exact ⟨_,a1,h1⟩
  ·exact ⟨nd0,(a3 [] (fun e => e1 e.symm) (by simp)).trans h0,h1⟩
 ·rcases hnd q x hq with ⟨rfl,rfl⟩ | ⟨h1,h2,h3⟩
  ·rw [List.getElem?_set_ne (h.sep _ _ _ _ hp hp).symm]
   exact h.box _ nd hp
  ·rw [List.getElem?_set_ne (h.sep _ _ _ _ h3 hp).symm]
   exact h.box _ _ h3
 ·rcases hnd q x hq with ⟨rfl,rfl⟩ | ⟨h1,h2,h3⟩
  ·rw [List.getElem?_set_self hml]
  ·rw [List.getElem?_set_ne (fun e => h1 (h.injm _ _ _ _ h3 hp e.symm))]
   exact h.map _ _ h3
 ·rcases hnd q x hq with ⟨rfl,rfl⟩ | ⟨h1,h2,h3⟩
  ·obtain ⟨hm,hne⟩ := (dropK_mem (h.nodup _ nd hp)).1 hk'
   obtain ⟨y,h4,h5⟩ := h.kid _ nd hp k' b' hm
   exact ⟨y,(a3 _ snoc_ne (fun e => hne (by simpa using e))).trans h4,h5⟩
  ·obtain ⟨y,h4,h5⟩ := h.kid q x h3 k' b' hk'
   by_cases e1 : q ++ [k'] = p
   ·rw [e1] at h4 ⊢
    rw [hp] at h4; cases h4
    exact ⟨_,a1,h5⟩
   ·refine ⟨y,(a3 _ e1 (fun e2 => ?_)).trans h4,h5⟩
    have := List.append_inj' e2 rfl
    exact h1 this.1
 ·rcases hnd _ x hq with ⟨e,rfl⟩ | ⟨h1,h2,h3⟩
  ·obtain ⟨y,h4,h5⟩ := h.up q k' nd (by rw [e]; exact hp)
   refine ⟨y,(a3 q (fun e2 => ?_) (fun e2 => ?_)).trans h4,h5⟩
   ·subst e2; exact snoc_ne e
   ·subst e2
    have := congrArg List.length e
    simp at this
  ·obtain ⟨y,h4,h5⟩ := h.up q k' x h3
   by_cases e1 : q = p
   ·subst e1
    rw [hp] at h4; cases h4
    exact ⟨_,a1,(dropK_mem (h.nodup _ nd hp)).2 ⟨h5,fun e => h2 (by rw [e])⟩⟩
   ·by_cases e2 : q = p ++ [k]
    ·subst e2
     rw [hk] at h4; cases h4
     rw [hkids] at h5
     simp at h5
    ·exact ⟨y,(a3 q e1 e2).trans h4,h5⟩
 ·rcases hnd q x hq with ⟨rfl,rfl⟩ | ⟨h1,h2,h3⟩
  ·exact dropK_nodup (h.nodup _ nd hp) k
  ·exact h.nodup q x h3
 ·obtain ⟨n1,h1,h2,h3⟩ := hpl q x hq
  obtain ⟨n2,g1,g2,g3⟩ := hpl q' y hq'
  exact h.injb _ _ _ _ h1 g1 (by rw [← h2,← g2,e])
 ·obtain ⟨n1,h1,h2,h3⟩ := hpl q x hq
  obtain ⟨n2,g1,g2,g3⟩ := hpl q' y hq'
  exact h.injm _ _ _ _ h1 g1 (by rw [← h3,← g3,e])
 ·obtain ⟨n1,h1,h2,h3⟩ := hpl q x hq
  obtain ⟨n2,g1,g2,g3⟩ := hpl q' y hq'
  exact h.sep _ _ _ _ h1 g1 (by rw [← h2,← g3,e])
theorem delKid_foot {N : Tri} {p : Path} {k : List UInt8} {i : Nat} (h : Foot (delKid N p k) i) : Foot N i := by
 obtain ⟨q,x,h1,h2⟩ := h
 unfold delKid at h1
 split at h1
 ·rename_i e
  subst e
  obtain ⟨nd,h3,rfl⟩ := Option.map_eq_some_iff.1 h1
  exact ⟨_,nd,h3,h2⟩
 ·split at h1
  ·cases h1
  ·exact ⟨q,x,h1,h2⟩
end Ab
namespace Ab
open Go (IntKind BinOp UnOp)
theorem still421 : stillW Γ 421 = true := rfl
def Pruned (N : Tri) : Prop := ∀ q,q ≠ [] → (∃ x,N q = some x) → ∃ u,leafAt N (q ++ u) = true
structure Gone (N : Tri) (H : Heap) (r n : Nat) (p tgt : Path) (N' : Tri) (H' : Heap) : Prop where
 lies : Lies H' N' r n
 leaf : ∀ q,leafAt N' q = if q = tgt then false else leafAt N q
 same : ∀ q x,N' q = some x → ∃ y,N q = some y ∧ x.b = y.b ∧ x.m = y.m
 out : ∀ q,(¬ ∃ k t,q = p ++ k :: t) → (∃ y,N q = some y) → ∃ x,N' q = some x
 inn : ∀ k t,(∃ x,N' (p ++ k :: t) = some x) → ∃ u,leafAt N' (p ++ k :: t ++ u) = true
 chg : Chg N N' H H'
section
variable {kk : SK} {H H1 : Heap} {b m b' m' : Nat} {c c1 : AV} {k k2 : List UInt8} {rest : Path} {es es' : List (PV × AV)}
theorem rem_none (hb : H[b]? = some (.box [.mp m,c])) (hm : H[m]? = some (.box (mapCells es))) (hf : mfind (.str k) es = some none) : resW Γ 421 [.bx b 0,.p (.sl kk 1 (strs (k :: rest)))] H = some ([.p (.bool false)],H) := by
 refine resW_code (fn := trie_node_removes) rfl rfl ?_
 simp (disch := first | assumption | omega | decide | (simp only [lens] <;> omega) | fail) only [go_sem,trie_node_removes,hb,hm,hf]
theorem rem_lastNo (hb : H[b]? = some (.box [.mp m,c])) (hm : H[m]? = some (.box (mapCells es))) (hf : mfind (.str k) es = some (some (.bx b' 0))) (hb' : H[b']? = some (.box [.mp m',.p (.bool false)])) :
  resW Γ 421 [.bx b 0,.p (.sl kk 1 (strs [k]))] H = some ([.p (.bool false)],H) := by
 refine resW_code (fn := trie_node_removes) rfl rfl ?_
 simp (disch := first | assumption | omega | decide | (simp only [lens] <;> omega) | fail) only [go_sem,trie_node_removes,hb,hm,hf,hb']
theorem rem_recNo (hb : H[b]? = some (.box [.mp m,c])) (hm : H[m]? = some (.box (mapCells es))) (hf : mfind (.str k) es = some (some (.bx b' 0))) (hl : rest.length ≤ 100000) (hr : resW Γ 421 [.bx b' 0,.p (.sl kk.cut 1 (strs (k2 :: rest)))] H = some ([.p (.bool false)],H)) :
  resW Γ 421 [.bx b 0,.p (.sl kk 1 (strs (k :: k2 :: rest)))] H = some ([.p (.bool false)],H) := by
 refine resW_code (fn := trie_node_removes) rfl rfl ?_
 simp (disch := first | assumption | omega | decide | (simp only [lens] <;> omega) | fail) only [go_sem,trie_node_removes,hb,hm,hf,still421,hr]
theorem rem_lastKeep (hb : H[b]? = some (.box [.mp m,c])) (hm : H[m]? = some (.box (mapCells es))) (hf : mfind (.str k) es = some (some (.bx b' 0))) (hb' : H[b']? = some (.box [.mp m',.p (.bool true)])) (hm' : H[m']? = some (.box (mapCells es'))) (hne : 0 < es'.length) (hs : b' ≠ m') :
  resW Γ 421 [.bx b 0,.p (.sl kk 1 (strs [k]))] H = some ([.p (.bool true)],H.set b' (.box [.mp m',.p (.bool false)])) := by
 have e1 : (H.set b' (.box [.mp m',.p (.bool false)]))[b']? = some (.box [.mp m',.p (.bool false)]) := List.getElem?_set_self (List.getElem?_eq_some_iff.1 hb').1
 have e2 : (H.set b' (.box [.mp m',.p (.bool false)]))[m']? = some (.box (mapCells es')) := by rw [List.getElem?_set_ne hs]; exact hm'
 refine resW_code (fn := trie_node_removes) rfl rfl ?_
 simp (disch := first | assumption | omega | decide | (simp only [lens] <;> omega) | fail) only [go_sem,trie_node_removes,hb,hm,hf,hb',e1,e2]
theorem rem_lastDel (hb : H[b]? = some (.box [.mp m,c])) (hm : H[m]? = some (.box (mapCells es))) (hf : mfind (.str k) es = some (some (.bx b' 0))) (hb' : H[b']? = some (.box [.mp m',.p (.bool true)])) (hm' : H[m']? = some (.box (mapCells []))) (hs : b' ≠ m') (hs1 : b' ≠ b) (hs2 : b' ≠ m) (hd : mdrop (.str k) es = some es') :
  resW Γ 421 [.bx b 0,.p (.sl kk 1 (strs [k]))] H = some ([.p (.bool true)],(H.set b' (.box [.mp m',.p (.bool false)])).set m (.box (mapCells es'))) := by
 have e1 : (H.set b' (.box [.mp m',.p (.bool false)]))[b']? = some (.box [.mp m',.p (.bool false)]) := List.getElem?_set_self (List.getElem?_eq_some_iff.1 hb').1
 have e2 : (H.set b' (.box [.mp m',.p (.bool false)]))[m']? = some (.box (mapCells [])) := by rw [List.getElem?_set_ne hs]; exact hm'
 have e3 : (H.set b' (.box [.mp m',.p (.bool false)]))[b]? = some (.box [.mp m,c]) := by rw [List.getElem?_set_ne hs1]; exact hb
 have e4 : (H.set b' (.box [.mp m',.p (.bool false)]))[m]? = some (.box (mapCells es)) := by rw [List.getElem?_set_ne hs2]; exact hm
 refine resW_code (fn := trie_node_removes) rfl rfl ?_
 simp (disch := first | assumption | omega | decide | (simp only [lens] <;> omega) | fail) only [go_sem,trie_node_removes,hb,hm,hf,hb',e1,e2,e3,e4,hd]
theorem rem_recLeaf (hb : H[b]? = some (.box [.mp m,c])) (hm : H[m]? = some (.box (mapCells es))) (hf : mfind (.str k) es = some (some (.bx b' 0))) (hl : rest.length ≤ 100000) (hr : resW Γ 421 [.bx b' 0,.p (.sl kk.cut 1 (strs (k2 :: rest)))] H = some ([.p (.bool true)],H1))
  (hb' : H1[b']? = some (.box [.mp m',.p (.bool true)])) : resW Γ 421 [.bx b 0,.p (.sl kk 1 (strs (k :: k2 :: rest)))] H = some ([.p (.bool true)],H1) := by
 refine resW_code (fn := trie_node_removes) rfl rfl ?_
 simp (disch := first | assumption | omega | decide | (simp only [lens] <;> omega) | fail) only [go_sem,trie_node_removes,hb,hm,hf,still421,hr,hb']
theorem rem_recKids (hb : H[b]? = some (.box [.mp m,c])) (hm : H[m]? = some (.box (mapCells es))) (hf : mfind (.str k) es = some (some (.bx b' 0))) (hl : rest.length ≤ 100000) (hr : resW Γ 421 [.bx b' 0,.p (.sl kk.cut 1 (strs (k2 :: rest)))] H = some ([.p (.bool true)],H1))
  (hb' : H1[b']? = some (.box [.mp m',.p (.bool false)])) (hm' : H1[m']? = some (.box (mapCells es'))) (hne : 0 < es'.length) : resW Γ 421 [.bx b 0,.p (.sl kk 1 (strs (k :: k2 :: rest)))] H = some ([.p (.bool true)],H1) := by
 refine resW_code (fn := trie_node_removes) rfl rfl ?_
 simp (disch := first | assumption | omega | decide | (simp only [lens] <;> omega) | fail) only [go_sem,trie_node_removes,hb,hm,hf,still421,hr,hb',hm']
theorem rem_recDel {es1 : List (PV × AV)} (hb : H[b]? = some (.box [.mp m,c])) (hm : H[m]? = some (.box (mapCells es))) (hf : mfind (.str k) es = some (some (.bx b' 0))) (hl : rest.length ≤ 100000) (hr : resW Γ 421 [.bx b' 0,.p (.sl kk.cut 1 (strs (k2 :: rest)))] H = some ([.p (.bool true)],H1))
  (hb' : H1[b']? = some (.box [.mp m',.p (.bool false)])) (hm' : H1[m']? = some (.box (mapCells []))) (hb1 : H1[b]? = some (.box [.mp m,c1])) (hm1 : H1[m]? = some (.box (mapCells es1))) (hd : mdrop (.str k) es1 = some es') :
  resW Γ 421 [.bx b 0,.p (.sl kk 1 (strs (k :: k2 :: rest)))] H = some ([.p (.bool true)],H1.set m (.box (mapCells es'))) := by
 refine resW_code (fn := trie_node_removes) rfl rfl ?_
 simp (disch := first | assumption | omega | decide | (simp only [lens] <;> omega) | fail) only [go_sem,trie_node_removes,hb,hm,hf,still421,hr,hb',hm',hb1,hm1,hd]
end
theorem kidsM_len (l : List (List UInt8 × Nat)) : (kidsM l).length = l.length := by simp [kidsM]
theorem Lies.noKids {H : Heap} {N : Tri} {r n : Nat} (h : Lies H N r n) {p : Path} {nd : Nd} (hp : N p = some nd) (hk : nd.kids = []) (k : List UInt8) (t : Path) : ¬ ∃ x,N (p ++ k :: t) = some x := by
 rintro ⟨x,hx⟩
 obtain ⟨y,hy⟩ := h.pre t (p ++ [k]) x (by simpa using hx)
 obtain ⟨nd2,h1,h2⟩ := h.up p k y hy
 rw [hp] at h1; cases h1
 rw [hk] at h2; simp at h2
theorem Lies.hasKid {H : Heap} {N : Tri} {r n : Nat} (h : Lies H N r n) {p : Path} {nd : Nd} (hp : N p = some nd) (hk : nd.kids ≠ []) : ∃ k x,N (p ++ [k]) = some x := by
 obtain ⟨⟨k,b⟩,hm⟩ := List.exists_mem_of_ne_nil _ hk
 obtain ⟨x,h1,_⟩ := h.kid p nd hp k b hm
 exact ⟨k,x,h1⟩
theorem delKid_leaf {N : Tri} {p : Path} {k : List UInt8} {nd : Nd} (hp : N p = some nd) (hk : leafAt N (p ++ [k]) = false) (q : Path) : leafAt (delKid N p k) q = leafAt N q := by
 unfold leafAt delKid
 by_cases e1 : q = p
 ·subst e1; simp [hp]
 ·by_cases e2 : q = p ++ [k]
  ·subst e2
   simp only [snoc_ne,if_false,if_true]
   unfold leafAt at hk
   exact hk.symm
  ·simp [e1,e2]
theorem delKid_same {N : Tri} {p : Path} {k : List UInt8} {q : Path} {x : Nd} (h : delKid N p k q = some x) : ∃ y,N q = some y ∧ x.b = y.b ∧ x.m = y.m := by
 unfold delKid at h
 split at h
 ·rename_i e
  subst e
  obtain ⟨nd,h3,rfl⟩ := Option.map_eq_some_iff.1 h
  exact ⟨nd,h3,rfl,rfl⟩
 ·split at h
  ·cases h
  ·exact ⟨x,h,rfl,rfl⟩
theorem delKid_out {N : Tri} {p : Path} {k : List UInt8} {q : Path} (hq : q ≠ p ++ [k]) (h : ∃ y,N q = some y) : ∃ x,delKid N p k q = some x := by
 obtain ⟨y,hy⟩ := h
 by_cases e : q = p
 ·subst e; exact ⟨_,by simp only [delKid,if_true,hy]; rfl⟩
 ·exact ⟨y,by simp [delKid,e,hq,hy]⟩
theorem removes_ok {H : Heap} {N : Tri} {r n : Nat} (h : Lies H N r n) (hP : Pruned N) : ∀ (rest : Path) (kk : SK) (k : List UInt8) (p : Path) (nd : Nd),rest.length ≤ 100000 → N p = some nd →
  (leafAt N (p ++ k :: rest) = false → resW Γ 421 [.bx nd.b 0,.p (.sl kk 1 (strs (k :: rest)))] H = some ([.p (.bool false)],H)) ∧
  (leafAt N (p ++ k :: rest) = true → ∃ N' H',resW Γ 421 [.bx nd.b 0,.p (.sl kk 1 (strs (k :: rest)))] H = some ([.p (.bool true)],H') ∧ Gone N H r n p (p ++ k :: rest) N' H') := by
 obtain ⟨nd0,hroot,hrb⟩ := h.root
 intro rest
 induction rest with
 | nil =>
  intro kk k p nd _ hp
  have hb := h.box p nd hp
  have hm := h.map p nd hp
  have hf := h.find hp k
  cases hk : N (p ++ [k]) with
  | none =>
   rw [hk] at hf
   refine ⟨fun _ => rem_none hb hm hf,fun hl => ?_⟩
   simp [leafAt,hk] at hl
  | some nd' =>
   rw [hk] at hf
   have hb' := h.box _ nd' hk
   have hm' := h.map _ nd' hk
   rw [mark_b (by simp)] at hb'
   have hlf := leafAt_some hk
   refine ⟨fun hl => ?_,fun hl => ?_⟩
   ·rw [hlf] at hl
    rw [hl] at hb'
    exact rem_lastNo hb hm hf hb'
   ·rw [hlf] at hl
    rw [hl] at hb'
    have hbl : nd'.b < H.length := (List.getElem?_eq_some_iff.1 hb').1
    have hne0 : nd'.b ≠ nd0.b := fun e => by have := h.injb _ _ _ _ hk hroot e; simp at this
    have hL1 : Lies (H.set nd'.b (.box [.mp nd'.m,.p (.bool false)])) (setLeaf N (p ++ [k]) false) r n := by
     refine lies_setLeaf h (by simp) hk hroot (List.getElem?_set_self hbl) ?_ fun i h1 _ => List.getElem?_set_ne h1.symm
     rw [List.getElem?_set_ne hne0]
     have := h.box _ _ hroot
     have hmk : mark [] nd0 n = .p (.int .i64 (n : Int)) := if_pos rfl
     rw [hmk] at this
     exact this
    have hchg1 : Chg N (setLeaf N (p ++ [k]) false) H (H.set nd'.b (.box [.mp nd'.m,.p (.bool false)])) :=
     ⟨by simp,fun i hi hfo => List.getElem?_set_ne (fun e => hfo ⟨_,nd',hk,.inl e⟩),fun i hi => .inl (setLeaf_foot hi)⟩
    have hsame1 : ∀ q x,setLeaf N (p ++ [k]) false q = some x → ∃ y,N q = some y ∧ x.b = y.b ∧ x.m = y.m := fun q x hq => by
     obtain ⟨y,h1,h2,h3,_⟩ := setLeaf_inv hq
     exact ⟨y,h1,h2,h3⟩
    have hleaf1 := fun q => setLeaf_leaf (l := false) hk q
    by_cases hkn : nd'.kids = []
    ·rw [hkn] at hm'
     have hd := mdrop_kids nd.kids k
     have hN1 : setLeaf N (p ++ [k]) false (p ++ [k]) = some { nd' with leaf := false } := by simp [setLeaf,hk]
     have hNp : setLeaf N (p ++ [k]) false p = some nd := by
      have : p ≠ p ++ [k] := snoc_ne.symm
      simp [setLeaf,this,hp]
     have hL2 := lies_delKid hL1 hNp hN1 hkn
     refine ⟨_,_,rem_lastDel hb hm hf hb' hm' (h.sep _ _ _ _ hk hk) (fun e => snoc_ne (h.injb _ _ _ _ hk hp e)) (h.sep _ _ _ _ hk hp) hd,hL2,fun q => ?_,fun q x hq => ?_,fun q hq hs => ?_,fun k' t hx => ?_,hchg1.trans ⟨by simp,fun i hi hfo => List.getElem?_set_ne (fun e => hfo ⟨p,nd,hNp,.inr e⟩),fun i hi => .inl (delKid_foot hi)⟩⟩
     ·rw [delKid_leaf hNp (by rw [leafAt_some hN1]),hleaf1]
     ·obtain ⟨y,h1,h2,h3⟩ := delKid_same hq
      obtain ⟨z,h4,h5,h6⟩ := hsame1 q y h1
      exact ⟨z,h4,h2.trans h5,h3.trans h6⟩
     ·exact delKid_out (fun e => hq ⟨k,[],e⟩) ((setLeaf_some q).2 hs)
     ·obtain ⟨x,hx⟩ := hx
      obtain ⟨y,h1,_⟩ := delKid_same hx
      obtain ⟨z,h4,_⟩ := hsame1 _ y h1
      obtain ⟨u,hu⟩ := hP _ (by simp) ⟨z,h4⟩
      refine ⟨u,?_⟩
      rw [delKid_leaf hNp (by rw [leafAt_some hN1]),hleaf1,if_neg (fun e => ?_)]
      ·exact hu
      ·have e1 : k' :: (t ++ u) = [k] := by simpa using e
       simp only [List.cons.injEq,List.append_eq_nil_iff] at e1
       obtain ⟨rfl,rfl,_⟩ := e1
       simp [delKid] at hx
    ·refine ⟨_,_,rem_lastKeep hb hm hf hb' hm' (by rw [kidsM_len]; exact List.length_pos_iff.2 hkn) (h.sep _ _ _ _ hk hk),hL1,hleaf1,hsame1,fun q hq hs => (setLeaf_some q).2 hs,fun k' t hx => ?_,hchg1⟩
     have hx := (setLeaf_some _).1 hx
     obtain ⟨u,hu⟩ := hP _ (by simp) hx
     by_cases e : p ++ k' :: t ++ u = p ++ [k]
     ·have e1 : k' :: (t ++ u) = [k] := by simpa using e
      simp only [List.cons.injEq,List.append_eq_nil_iff] at e1
      obtain ⟨rfl,rfl,rfl⟩ := e1
      obtain ⟨k3,x3,h3⟩ := h.hasKid hk hkn
      obtain ⟨u3,hu3⟩ := hP _ (by simp) ⟨x3,h3⟩
      refine ⟨[k3] ++ u3,?_⟩
      rw [← List.append_assoc,hleaf1,if_neg (fun e => by have := congrArg List.length e; simp at this)]
      exact hu3
     ·exact ⟨u,by rw [hleaf1,if_neg e]; exact hu⟩
 | cons k2 rest ih =>
  intro kk k p nd hlen hp
  have hb := h.box p nd hp
  have hm := h.map p nd hp
  have hf := h.find hp k
  simp only [List.length_cons] at hlen
  cases hk : N (p ++ [k]) with
  | none =>
   rw [hk] at hf
   refine ⟨fun _ => rem_none hb hm hf,fun hl => ?_⟩
   exfalso
   cases hN : N (p ++ k :: k2 :: rest) with
   | none => simp [leafAt,hN] at hl
   | some x =>
    obtain ⟨y,hy⟩ := h.pre (k2 :: rest) (p ++ [k]) x (by simpa using hN)
    rw [hk] at hy; cases hy
  | some nd' =>
   rw [hk] at hf
   obtain ⟨i1,i2⟩ := ih kk.cut k2 (p ++ [k]) nd' (by omega) hk
   have ep : p ++ [k] ++ k2 :: rest = p ++ k :: k2 :: rest := by simp
   rw [ep] at i1 i2
   refine ⟨fun hl => rem_recNo hb hm hf (by omega) (i1 hl),fun hl => ?_⟩
   obtain ⟨N1,H1,hr,G⟩ := i2 hl
   obtain ⟨nd1,hn1⟩ := G.out (p ++ [k]) (fun ⟨k3,t3,e⟩ => by have := congrArg List.length e; simp at this) ⟨nd',hk⟩
   obtain ⟨ndp,hnp⟩ := G.out p (fun ⟨k3,t3,e⟩ => by have := congrArg List.length e; simp at this) ⟨nd,hp⟩
   obtain ⟨y,hy,hby,hmy⟩ := G.same _ nd1 hn1
   rw [hk] at hy; cases hy
   obtain ⟨y,hy,hbp,hmp⟩ := G.same _ ndp hnp
   rw [hp] at hy; cases hy
   have hb1 := G.lies.box _ nd1 hn1
   have hm1 := G.lies.map _ nd1 hn1
   rw [mark_b (by simp),hby] at hb1
   have hbP := G.lies.box _ ndp hnp
   have hmP := G.lies.map _ ndp hnp
   rw [hbp] at hbP
   have outP : ∀ q,(¬ ∃ k t,q = p ++ k :: t) → ¬ ∃ k3 t3,q = p ++ [k] ++ k3 :: t3 := fun q hq ⟨k3,t3,e⟩ => hq ⟨k,k3 :: t3,by simpa using e⟩
   -- below p,but not below p ++ [k]
   have side : ∀ k' t,k' ≠ k → (∃ x,N1 (p ++ k' :: t) = some x) → ∃ u,leafAt N1 (p ++ k' :: t ++ u) = true := by
    rintro k' t hne ⟨x,hx⟩
    obtain ⟨z,hz,_⟩ := G.same _ x hx
    obtain ⟨u,hu⟩ := hP _ (by simp) ⟨z,hz⟩
    refine ⟨u,?_⟩
    rw [G.leaf,if_neg (fun e => ?_)]
    ·exact hu
    ·have e1 : k' :: (t ++ u) = k :: k2 :: rest := by simpa using e
     exact hne (List.cons.inj e1).1
   cases hlf : nd1.leaf with
   | true =>
    rw [hlf] at hb1
    refine ⟨N1,H1,rem_recLeaf hb hm hf (by omega) hr hb1,G.lies,G.leaf,G.same,fun q hq hs => G.out q (outP q hq) hs,fun k' t hx => ?_,G.chg⟩
    by_cases e : k' = k
    ·subst e
     cases t with
     | nil => exact ⟨[],by rw [List.append_nil,leafAt_some hn1,hlf]⟩
     | cons k3 t3 =>
      have := G.inn k3 t3 (by simpa using hx)
      simpa using this
    ·exact side k' t e hx
   | false =>
    rw [hlf] at hb1
    by_cases hkn : nd1.kids = []
    ·rw [hkn] at hm1
     rw [hmp] at hbP
     have hd := mdrop_kids ndp.kids k
     have hL2 := lies_delKid G.lies hnp hn1 hkn
     have hlf1 : leafAt N1 (p ++ [k]) = false := by rw [leafAt_some hn1,hlf]
     have hm1' : H1[nd'.m]? = some (.box (mapCells [])) := by rw [← hmy]; exact hm1
     rw [hmy] at hb1
     have hmP' := hmP
     rw [hmp] at hmP' hL2
     refine ⟨_,_,rem_recDel hb hm hf (by omega) hr hb1 hm1' hbP hmP' hd,hL2,fun q => ?_,fun q x hq => ?_,fun q hq hs => ?_,fun k' t hx => ?_,G.chg.trans ⟨by simp,fun i hi hfo => List.getElem?_set_ne (fun e => hfo ⟨p,ndp,hnp,.inr (hmp.trans e)⟩),fun i hi => .inl (delKid_foot hi)⟩⟩
     ·rw [delKid_leaf hnp hlf1,G.leaf]
     ·obtain ⟨y,h1,h2,h3⟩ := delKid_same hq
      obtain ⟨z,h4,h5,h6⟩ := G.same q y h1
      exact ⟨z,h4,h2.trans h5,h3.trans h6⟩
     ·exact delKid_out (fun e => hq ⟨k,[],e⟩) (G.out q (outP q hq) hs)
     ·obtain ⟨x,hx⟩ := hx
      obtain ⟨y,h1,_⟩ := delKid_same hx
      by_cases e : k' = k
      ·subst e
       exfalso
       cases t with
       | nil => simp [delKid] at hx
       | cons k3 t3 => exact G.lies.noKids hn1 hkn k3 t3 ⟨y,by simpa using h1⟩
      ·obtain ⟨u,hu⟩ := side k' t e ⟨y,h1⟩
       exact ⟨u,by rw [delKid_leaf hnp hlf1]; exact hu⟩
    ·have hm1' : H1[nd'.m]? = some (.box (mapCells (kidsM nd1.kids))) := by rw [← hmy]; exact hm1
     rw [hmy] at hb1
     refine ⟨N1,H1,rem_recKids hb hm hf (by omega) hr hb1 hm1' (by rw [kidsM_len]; exact List.length_pos_iff.2 hkn),G.lies,G.leaf,G.same,fun q hq hs => G.out q (outP q hq) hs,fun k' t hx => ?_,G.chg⟩
     by_cases e : k' = k
     ·subst e
      cases t with
      | nil =>
       obtain ⟨k3,x3,h3⟩ := G.lies.hasKid hn1 hkn
       obtain ⟨u,hu⟩ := G.inn k3 [] ⟨x3,h3⟩
       exact ⟨[k3] ++ u,by simpa using hu⟩
      | cons k3 t3 =>
       have := G.inn k3 t3 (by simpa using hx)
       simpa using this
     ·exact side k' t e hx
theorem lies_setN {H : Heap} {N : Tri} {r n n' : Nat} (h : Lies H N r n) {nd0 : Nd} (h0 : N [] = some nd0) : Lies (H.set r (.box [.mp nd0.m,.p (.int .i64 (n' : Int))])) N r n' where
 root := h.root
 box q nd hq := by
  obtain ⟨nd1,h1,rfl⟩ := h.root
  rw [h0] at h1; cases h1
  by_cases e : q = []
  ·subst e
   rw [h0] at hq; cases hq
   rw [List.getElem?_set_self (List.getElem?_eq_some_iff.1 (h.box _ _ h0)).1]
   rfl
  ·rw [List.getElem?_set_ne (fun e2 => e (h.injb _ _ _ _ hq h0 e2.symm)),h.box q nd hq,mark_b e,mark_b e]
 map q nd hq := by
  obtain ⟨nd1,h1,rfl⟩ := h.root
  rw [List.getElem?_set_ne (h.sep _ _ _ _ h1 hq)]
  exact h.map q nd hq
 kid := h.kid
 up := h.up
 nodup := h.nodup
 injb := h.injb
 injm := h.injm
 sep := h.sep
theorem resW_removeNo {H : Heap} {N : Tri} {r n : Nat} (h : Lies H N r n) (hP : Pruned N) (s : List UInt8) (hs : s.length ≤ 1000) (hl : leafAt N (splitB 46 s) = false) : resW Γ 403 [.bx r 0,.p (.str s)] H = some ([.p (.bool false)],H) := by
 obtain ⟨nd0,h0,rfl⟩ := h.root
 have hps := res_nameParts s (by omega)
 have hc := splitB_len 46 s
 have hc2 := @count_le s 46
 obtain ⟨k,rest,hk⟩ : ∃ k rest,splitB 46 s = k :: rest := by
  cases e : splitB 46 s with
  | nil => exact absurd e (split_ne s)
  | cons k r => exact ⟨k,r,rfl⟩
 rw [hk] at hps hc hl
 simp only [List.length_cons] at hc
 have h1 := (removes_ok h hP rest .any k [] nd0 (by omega) h0).1 (by simpa using hl)
 refine resW_code (fn := trie_Trie_Remove) rfl rfl ?_
 simp (disch := first | assumption | omega | decide | (simp only [lens] <;> omega) | fail) only [go_sem,trie_Trie_Remove,hps,still421,h1]
theorem resW_remove {H : Heap} {N : Tri} {r n : Nat} (h : Lies H N r n) (hP : Pruned N) (s : List UInt8) (hs : s.length ≤ 1000) (hn1 : 1 ≤ n) (hn : n ≤ 1000000) (hl : leafAt N (splitB 46 s) = true) :
  ∃ N' H',resW Γ 403 [.bx r 0,.p (.str s)] H = some ([.p (.bool true)],H') ∧ Lies H' N' r (n - 1) ∧ Pruned N' ∧ (∀ q,leafAt N' q = if q = splitB 46 s then false else leafAt N q) ∧ Chg N N' H H' := by
 obtain ⟨nd0,h0,hr⟩ := h.root
 have hps := res_nameParts s (by omega)
 have hc := splitB_len 46 s
 have hc2 := @count_le s 46
 obtain ⟨k,rest,hk⟩ : ∃ k rest,splitB 46 s = k :: rest := by
  cases e : splitB 46 s with
  | nil => exact absurd e (split_ne s)
  | cons k r => exact ⟨k,r,rfl⟩
 rw [hk] at hps hc hl ⊢
 simp only [List.length_cons] at hc
 obtain ⟨N1,H1,h1,G⟩ := (removes_ok h hP rest .any k [] nd0 (by omega) h0).2 (by simpa using hl)
 rw [hr] at h1
 simp only [List.nil_append] at G
 obtain ⟨ndp,hnp⟩ := G.out [] (fun ⟨k3,t3,e⟩ => by simp at e) ⟨nd0,h0⟩
 obtain ⟨nd2,hn2,hb2⟩ := G.lies.root
 rw [hnp] at hn2; cases hn2
 have hbr := G.lies.box _ _ hnp
 have hmk : mark [] ndp n = .p (.int .i64 (n : Int)) := if_pos rfl
 rw [hmk,hb2] at hbr
 have e1 : ((n : Int) - 1) = ((n - 1 : Nat) : Int) := by omega
 have hnew := lies_setN (n' := n - 1) G.lies hnp
 refine ⟨N1,H1.set r (.box [.mp ndp.m,.p (.int .i64 ((n - 1 : Nat) : Int))]),?_,hnew,fun q hq ⟨x,hx⟩ => ?_,G.leaf,G.chg.trans ⟨by simp,fun i hi hf => List.getElem?_set_ne (fun e => hf ⟨_,ndp,hnp,.inl (hb2.trans e)⟩),fun i hi => .inl hi⟩⟩
 ·refine resW_code (fn := trie_Trie_Remove) rfl rfl ?_
  simp (disch := first | assumption | omega | decide | (simp only [lens] <;> omega) | fail) only [go_sem,trie_Trie_Remove,hps,still421,h1,hbr,e1]
 ·cases q with
  | nil => exact absurd rfl hq
  | cons k3 t3 => exact G.inn k3 t3 ⟨x,hx⟩
end Ab
