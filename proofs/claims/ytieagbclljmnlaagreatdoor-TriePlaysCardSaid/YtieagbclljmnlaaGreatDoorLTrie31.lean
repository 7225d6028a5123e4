import Derived.Test.YtieagbclljmnlaaGreatDoorLTrie27
namespace Ab
open Go (IntKind BinOp UnOp)
def RowF (N : Tri) (H : Heap) (x : Nat) (L : Path) : Prop := RowR H x L ∧ ¬ Foot N x
theorem RowF.row {N : Tri} {H : Heap} {x : Nat} {L : Path} (h : RowF N H x L) : RowR H x L := h.1
theorem RowF.ext {N : Tri} {H H' : Heap} {x : Nat} {L : Path} (h : RowF N H x L) (hx : Ext0 H H') : RowF N H' x L := ⟨h.1.ext hx,h.2⟩
theorem RowF.chg {N N' : Tri} {H H' : Heap} {x : Nat} {L : Path} (h : RowF N H x L) (c : Chg N N' H H') : RowF N' H' x L := by
 obtain ⟨⟨kk,h,hk⟩,hf⟩ := h
 have hl := (List.getElem?_eq_some_iff.1 h).1
 refine ⟨⟨kk,(c.2.1 x hl hf).trans h,hk⟩,fun h' => ?_⟩
 rcases c.2.2 x h' with h' | h'
 ·exact hf h'
 ·omega
theorem rhas_l1_ok {H : Heap} {x : Nat} {L : Path} (hR : RowR H x L) (hL : L.length ≤ 1000) (s : List UInt8) (Q : Out → Prop) (hQ1 : s ∈ L → ∀ e,look e 4 = .p (.bool true) → Q (.ret,e,H)) (hQ2 : s ∉ L → ∀ e,Q (.ex 0,e,H)) :
  ∀ (f i : Nat),i + f = L.length → s ∉ L.take i → Wp Γ r10_Trie_Has_l1 [(0,.bx x 0),(1,.p (.str s)),(5,.p (.int .i64 (i : Int)))] H Q := by
 intro f
 induction f with
 | zero =>
  intro i hi hn
  have hi : i = L.length := by omega
  subst hi
  rw [List.take_length] at hn
  have hq := hQ2 hn
  clear hQ1 hQ2
  obtain ⟨k0,h,_⟩ := hR
  rw [W_loop (L := r10_Trie_Has_l1) rfl]
  simp (disch := first | assumption | omega | decide | (simp only [lens] <;> omega) | fail) only [go_sem,r10_Trie_Has_l1,h]
  exact hq _
 | succ f ih =>
  intro i hi hn
  have hlt : i < L.length := by omega
  have ht : L.take (i + 1) = L.take i ++ [L.getD i []] := by
   rw [List.take_add_one,List.getD_eq_getElem?_getD,List.getElem?_eq_getElem hlt]; rfl
  obtain ⟨k0,h,_⟩ := hR
  ·by_cases he : L.getD i [] = s
   ·have hm : s ∈ L := by rw [← he]; exact getD_mem hlt
    have hd : decide (L.getD i [] = s) = true := decide_eq_true he
    have hQ1 := hQ1 hm
    rw [W_loop (L := r10_Trie_Has_l1) rfl]
    simp (disch := first | assumption | omega | decide | (simp only [lens] <;> omega) | fail) only [go_sem,r10_Trie_Has_l1,h,hd]
    exact hQ1 _ rfl
   ·have hd : decide (L.getD i [] = s) = false := decide_eq_false he
    have ih := ih (i + 1) (by omega) (fun hm => by
     rw [ht] at hm
     rcases List.mem_append.1 hm with hm | hm
     ·exact hn hm
     ·simp only [List.mem_singleton] at hm
      exact he hm.symm)
    rw [W_loop (L := r10_Trie_Has_l1) rfl]
    simp (disch := first | assumption | omega | decide | (simp only [lens] <;> omega) | fail) only [go_sem,r10_Trie_Has_l1,h,hd]
    exact ih
theorem rop_has {H : Heap} {x : Nat} {L : Path} (hR : RowR H x L) (hL : L.length ≤ 1000) (s : List UInt8) : resW Γ 406 [.bx x 0,.p (.str s)] H = some ([.p (.bool (decide (s ∈ L)))],H) := by
 refine resW_code (fn := r10_Trie_Has) rfl rfl ?_
 simp (disch := first | assumption | omega | decide | (simp only [lens] <;> omega) | fail) only [go_sem,r10_Trie_Has]
 refine rhas_l1_ok hR hL s _ (fun hm e e4 => ?_) (fun hm e => ?_) L.length 0 (by omega) (by simp)
 ·have hd : decide (s ∈ L) = true := decide_eq_true hm
  simp (disch := first | assumption | omega | decide | (simp only [lens] <;> omega) | fail) only [go_sem,e4,hd]
 ·have hd : decide (s ∈ L) = false := decide_eq_false hm
  simp (disch := first | assumption | omega | decide | (simp only [lens] <;> omega) | fail) only [go_sem,hd]
theorem insS_at {s : List UInt8} : ∀ {L : Path} {i : Nat},i ≤ L.length → (∀ j,j < i → partsLess (prt (L.getD j [])) (prt s) = true) → (i = L.length ∨ partsLess (prt (L.getD i [])) (prt s) = false) → insS s L = L.take i ++ s :: L.drop i
 | [],i,h,_,_ => by
  simp only [List.length_nil,Nat.le_zero_eq] at h
  subst h
  simp [insS]
 | t :: r,0,_,_,h => by
  rcases h with h | h
  ·simp at h
  ·have h : partsLess (prt t) (prt s) = false := by simpa using h
   simp [insS,h]
 | t :: r,i + 1,hi,h1,h2 => by
  have h0 : partsLess (prt t) (prt s) = true := by simpa using h1 0 (by omega)
  have ih := @insS_at s r i (by simpa using hi) (fun j hj => by simpa using h1 (j + 1) (by omega)) (by
   rcases h2 with h2 | h2
   ·exact .inl (by simpa using h2)
   ·exact .inr (by simpa using h2))
  simp only [insS,h0,if_true,ih,List.take_succ_cons,List.drop_succ_cons,List.cons_append]
theorem rins_l1_ok {H : Heap} {x : Nat} {L : Path} (hR : RowR H x L) (hL : L.length ≤ 1000) (hN : ∀ s ∈ L,s.length ≤ 1000) (s : List UInt8) (hs : s.length ≤ 1000) (Q : Out → Prop)
  (hQ : ∀ i,i ≤ L.length → insS s L = L.take i ++ s :: L.drop i → ∀ e,look e 0 = .bx x 0 → look e 1 = .p (.str s) → look e 5 = .p (.int .i64 (i : Int)) → Q (.ex 0,e,H)) :
  ∀ (f i : Nat),i + f = L.length → (∀ j,j < i → partsLess (prt (L.getD j [])) (prt s) = true) → Wp Γ r10_Trie_Insert_l1 [(0,.bx x 0),(1,.p (.str s)),(5,.p (.int .i64 (i : Int)))] H Q := by
 intro f
 induction f with
 | zero =>
  intro i hi hj
  have hi : i = L.length := by omega
  subst hi
  have hQ := hQ L.length (Nat.le_refl _) (insS_at (Nat.le_refl _) hj (.inl rfl))
  obtain ⟨k0,h,_⟩ := hR
  rw [W_loop (L := r10_Trie_Insert_l1) rfl]
  simp (disch := first | assumption | omega | decide | (simp only [lens] <;> omega) | fail) only [go_sem,r10_Trie_Insert_l1,h]
  exact hQ _ rfl rfl rfl
 | succ f ih =>
  intro i hi hj
  have hlt : i < L.length := by omega
  have hb := res_before (L.getD i []) s (by have := hN _ (getD_mem hlt); omega) (by omega)
  obtain ⟨k0,h,_⟩ := hR
  ·cases hp : partsLess (prt (L.getD i [])) (prt s) with
   | true =>
    rw [hp] at hb
    have ih := ih (i + 1) (by omega) (fun j hji => by
     by_cases e : j = i
     ·subst e; exact hp
     ·exact hj j (by omega))
    rw [W_loop (L := r10_Trie_Insert_l1) rfl]
    simp (disch := first | assumption | omega | decide | (simp only [lens] <;> omega) | fail) only [go_sem,r10_Trie_Insert_l1,h,hb]
    exact ih
   | false =>
    rw [hp] at hb
    have hQ := hQ i (by omega) (insS_at (by omega) hj (.inr hp))
    rw [W_loop (L := r10_Trie_Insert_l1) rfl]
    simp (disch := first | assumption | omega | decide | (simp only [lens] <;> omega) | fail) only [go_sem,r10_Trie_Insert_l1,h,hb]
    exact hQ _ rfl rfl rfl
theorem still406 : stillW Γ 406 = true := rfl
theorem rop_insertNo {H : Heap} {x : Nat} (s : List UInt8) (hn : nameB s = false) : resW Γ 402 [.bx x 0,.p (.str s)] H = some ([.p (.int .i64 14)],H) := by
 have h1 := res_r8Is s
 rw [hn] at h1
 refine resW_code (fn := r10_Trie_Insert) rfl rfl ?_
 simp (disch := first | assumption | omega | decide | (simp only [lens] <;> omega) | fail) only [go_sem,r10_Trie_Insert,h1]
theorem rop_insertOld {H : Heap} {x : Nat} {L : Path} (hR : RowR H x L) (hL : L.length ≤ 1000) (s : List UInt8) (hn : nameB s = true) (hm : s ∈ L) : resW Γ 402 [.bx x 0,.p (.str s)] H = some ([.p (.int .i64 0)],H) := by
 have h1 := res_r8Is s
 rw [hn] at h1
 have h2 := rop_has hR hL s
 rw [decide_eq_true hm] at h2
 refine resW_code (fn := r10_Trie_Insert) rfl rfl ?_
 simp (disch := first | assumption | omega | decide | (simp only [lens] <;> omega) | fail) only [go_sem,r10_Trie_Insert,h1,still406,h2]
end Ab
namespace Ab
open Go (IntKind BinOp UnOp)
structure RowA (N : Tri) (H : Heap) (x : Nat) (L : Path) (H' : Heap) : Prop where
 row : RowF N H' x L
 len : H.length ≤ H'.length
 foot : ∀ i,Foot N i → H'[i]? = H[i]?
theorem piece_to {kk : SK} {L : Path} {i : Nat} (h : i ≤ L.length) : sliceA 1 (.p (.sl kk 1 (strs L))) none (some (.p (.int .i64 (i : Int)))) = some (.p (.sl kk.cut 1 (strs (L.take i)))) := by
 rw [cut_to (by omega) (by rw [strs_len]; omega),strs_take]
 rfl
theorem piece_from {kk : SK} {L : Path} {i : Nat} (h : i ≤ L.length) : sliceA 1 (.p (.sl kk 1 (strs L))) (some (.p (.int .i64 (i : Int)))) none = some (.p (.sl kk.cut 1 (strs (L.drop i)))) := by
 rw [cut_from (by omega) (by rw [strs_len]; omega),strs_drop]
 rfl
theorem rowA_store {N : Tri} {H : Heap} {x : Nat} {b : Blk} {L : Path} (hx : ¬ Foot N x) (hF : ∀ i,Foot N i → i < H.length) (g9 : x < H.length) :
  RowA N H x L ((H ++ [b]).set x (Blk.box [.p (.sl .any 1 (strs L))])) where
 row := ⟨⟨.any,List.getElem?_set_self (by simp; omega),.inl rfl⟩,hx⟩
 len := by simp
 foot i hi := by
  have h1 := hF i hi
  rw [List.getElem?_set_ne (fun e => hx (by rw [e]; exact hi)),List.getElem?_append_left (by omega)]
theorem tree_last {H : Heap} {xs : List PV} {n : Nat} (h : xs.length = n) : treeA (H ++ [.row false 1 xs]) (.own H.length n) = some (.p (.sl .any 1 xs),H ++ [.row true 1 xs]) := by
 rw [tree_own (f := false) (sz := 1) (xs := xs) (by simp) h]
 simp
theorem rop_insert {N : Tri} {H : Heap} {x : Nat} {L : Path} (hR : RowF N H x L) (hF : ∀ i,Foot N i → i < H.length) (hL : L.length ≤ 1000) (hN : ∀ s ∈ L,s.length ≤ 1000) (s : List UInt8) (hs : s.length ≤ 1000) (hn : nameB s = true) (hm : s ∉ L) :
  ∃ H',resW Γ 402 [.bx x 0,.p (.str s)] H = some ([.p (.int .i64 0)],H') ∧ RowA N H x (insS s L) H' := by
 have h1 := res_r8Is s
 rw [hn] at h1
 have h2 := rop_has hR.row hL s
 rw [decide_eq_false hm] at h2
 have key : ∃ rs H',resW Γ 402 [.bx x 0,.p (.str s)] H = some (rs,H') ∧ rs = [.p (.int .i64 0)] ∧ RowA N H x (insS s L) H' := by
  refine resW_ex (fn := r10_Trie_Insert) (K := fun rs H' => rs = [.p (.int .i64 0)] ∧ RowA N H x (insS s L) H') rfl rfl ?_
  simp (disch := first | assumption | omega | decide | (simp only [lens] <;> omega) | fail) only [go_sem,r10_Trie_Insert,h1,still406,h2]
  refine rins_l1_ok hR.row hL hN s hs _ (fun i hi hins e e0 e1 e5 => ?_) L.length 0 (by omega) (fun j hj => by omega)
  have hl1 : (strs (L.take i)).length = i := by rw [strs_len,List.length_take]; omega
  have hl2 : (strs (L.drop i)).length = L.length - i := by rw [strs_len,List.length_drop]
  have hall : strs (L.take i) ++ (PV.str s :: strs (L.drop i)) = strs (insS s L) := by rw [hins]; simp [strs]
  have hlen' : i + 1 + (L.length - i) = (insS s L).length := by rw [insS_len]; omega
  obtain ⟨⟨kk,h,hk⟩,hx⟩ := hR
  have hlx := (List.getElem?_eq_some_iff.1 h).1
  have g5 : ∀ b,(H ++ [b])[x]? = some (.box [.p (.sl kk 1 (strs L))]) := fun b => by rw [List.getElem?_append_left hlx]; exact h
  have c1 := piece_to (kk := kk) hi
  have c2 := piece_from (kk := kk) hi
  simp (disch := first | assumption | omega | decide | (simp only [lens] <;> omega) | fail) only [go_sem,e0,e1,e5,h,g5,c1,c2,at_last,set_last,hl1,hl2,tree_last]
  rw [← hins]
  exact rowA_store hx hF hlx
 obtain ⟨rs,H',h1,rfl,h2⟩ := key
 exact ⟨H',h1,h2⟩
theorem erase_at {s : List UInt8} : ∀ {L : Path} {i : Nat},i < L.length → s ∉ L.take i → L.getD i [] = s → L.erase s = L.take i ++ L.drop (i + 1)
 | [],_,h,_,_ => by simp at h
 | t :: r,0,_,_,h => by
  have h : t = s := by simpa using h
  subst h
  simp
 | t :: r,i + 1,hi,h1,h2 => by
  rw [List.take_succ_cons,List.mem_cons,not_or] at h1
  have ih := @erase_at s r i (by simpa using hi) h1.2 (by simpa using h2)
  have : (t == s) = false := by simpa using fun e => h1.1 e.symm
  rw [List.erase_cons,this,ih]
  simp
theorem rrem_l1_ok {N : Tri} {H : Heap} {x : Nat} {L : Path} (hR : RowF N H x L) (hF : ∀ i,Foot N i → i < H.length) (hL : L.length ≤ 1000) (s : List UInt8) (Q : Out → Prop)
  (hQ1 : s ∈ L → ∀ e H',look e 4 = .p (.bool true) → RowA N H x (L.erase s) H' → Q (.ret,e,H')) (hQ2 : s ∉ L → ∀ e,Q (.ex 0,e,H)) :
  ∀ (f i : Nat),i + f = L.length → s ∉ L.take i → Wp Γ r10_Trie_Remove_l1 [(0,.bx x 0),(1,.p (.str s)),(5,.p (.int .i64 (i : Int)))] H Q := by
 intro f
 induction f with
 | zero =>
  intro i hi hn
  have hi : i = L.length := by omega
  subst hi
  rw [List.take_length] at hn
  have hq := hQ2 hn
  clear hQ1 hQ2
  obtain ⟨⟨k0,h,_⟩,_⟩ := hR
  rw [W_loop (L := r10_Trie_Remove_l1) rfl]
  simp (disch := first | assumption | omega | decide | (simp only [lens] <;> omega) | fail) only [go_sem,r10_Trie_Remove_l1,h]
  exact hq _
 | succ f ih =>
  intro i hi hn
  have hlt : i < L.length := by omega
  have ht : L.take (i + 1) = L.take i ++ [L.getD i []] := by
   rw [List.take_add_one,List.getD_eq_getElem?_getD,List.getElem?_eq_getElem hlt]; rfl
  obtain ⟨⟨kk,h,hk⟩,hx⟩ := hR
  by_cases he : L.getD i [] = s
  ·have hm : s ∈ L := by rw [← he]; exact getD_mem hlt
   have hd : decide (L.getD i [] = s) = true := decide_eq_true he
   have hQ1 := hQ1 hm
   have hlx := (List.getElem?_eq_some_iff.1 h).1
   have g5 : ∀ b,(H ++ [b])[x]? = some (.box [.p (.sl kk 1 (strs L))]) := fun b => by rw [List.getElem?_append_left hlx]; exact h
   have c1 := piece_to (kk := kk) (L := L) (i := i) (by omega)
   have c2 := piece_from (kk := kk) (L := L) (i := i + 1) (by omega)
   have e1 : ((i : Int) + 1) = ((i + 1 : Nat) : Int) := by omega
   have hl1 : (strs (L.take i)).length = i := by rw [strs_len,List.length_take]; omega
   have hl2 : (strs (L.drop (i + 1))).length = L.length - (i + 1) := by rw [strs_len,List.length_drop]
   have hb := boxes_one (o := 0) (ks := []) h
   have her := erase_at hlt hn he
   rw [W_loop (L := r10_Trie_Remove_l1) rfl]
   simp (disch := first | assumption | omega | decide | (simp only [lens] <;> omega) | fail) only [go_sem,r10_Trie_Remove_l1,h,hd,g5,c1,at_last,set_last,hl1,hb,tree_last]
   rw [tn1,← her]
   exact hQ1 _ _ rfl (rowA_store hx hF hlx)
  ·have hd : decide (L.getD i [] = s) = false := decide_eq_false he
   have ih := ih (i + 1) (by omega) (fun hm => by
    rw [ht] at hm
    rcases List.mem_append.1 hm with hm | hm
    ·exact hn hm
    ·simp only [List.mem_singleton] at hm
     exact he hm.symm)
   rw [W_loop (L := r10_Trie_Remove_l1) rfl]
   simp (disch := first | assumption | omega | decide | (simp only [lens] <;> omega) | fail) only [go_sem,r10_Trie_Remove_l1,h,hd]
   exact ih
theorem rop_remove {N : Tri} {H : Heap} {x : Nat} {L : Path} (hR : RowF N H x L) (hF : ∀ i,Foot N i → i < H.length) (hL : L.length ≤ 1000) (s : List UInt8) :
  ∃ H',resW Γ 404 [.bx x 0,.p (.str s)] H = some ([.p (.bool (decide (s ∈ L)))],H') ∧ RowA N H x (L.erase s) H' := by
 have key : ∃ rs H',resW Γ 404 [.bx x 0,.p (.str s)] H = some (rs,H') ∧ rs = [.p (.bool (decide (s ∈ L)))] ∧ RowA N H x (L.erase s) H' := by
  refine resW_ex (fn := r10_Trie_Remove) (K := fun rs H' => rs = [.p (.bool (decide (s ∈ L)))] ∧ RowA N H x (L.erase s) H') rfl rfl ?_
  simp (disch := first | assumption | omega | decide | (simp only [lens] <;> omega) | fail) only [go_sem,r10_Trie_Remove]
  refine rrem_l1_ok hR hF hL s _ (fun hm e H' e4 hA => ?_) (fun hm e => ?_) L.length 0 (by omega) (by simp)
  ·have hd : decide (s ∈ L) = true := decide_eq_true hm
   simp (disch := first | assumption | omega | decide | (simp only [lens] <;> omega) | fail) only [go_sem,e4,hd]
   exact hA
  ·have hd : decide (s ∈ L) = false := decide_eq_false hm
   simp (disch := first | assumption | omega | decide | (simp only [lens] <;> omega) | fail) only [go_sem,hd]
   rw [List.erase_of_not_mem hm]
   exact ⟨hR,Nat.le_refl _,fun _ _ => rfl⟩
 obtain ⟨rs,H',h1,rfl,h2⟩ := key
 exact ⟨H',h1,h2⟩
end Ab
namespace Ab
open Go (IntKind BinOp UnOp)
abbrev ActB := Int × List UInt8
def actC (a : ActB) : List PV := [.int .i64 a.1,.str a.2]
def actL (l : List ActB) : List PV := aggs (l.map actC)
def noAct : ActB := (0,[])
theorem actL_len {l : List ActB} : (actL l).length = l.length := by simp [actL,aggs]
theorem actL_at {kk : SK} {l : List ActB} {i : Nat} (h : i < l.length) (H : Heap) : iaddrA H 2 (.p (.sl kk 2 (actL l))) (.p (.int .i64 (i : Int))) = some (.p (.ptr [.int .i64 (l.getD i noAct).1,.str (l.getD i noAct).2])) := by
 have e : (l.map actC).getD i [] = [.int .i64 (l.getD i noAct).1,.str (l.getD i noAct).2] := by
  simp [List.getD_eq_getElem?_getD,List.getElem?_eq_getElem h,actC]
 rw [← e]
 exact iaddr_aggs (by omega) (by simpa using h)
def heavyB (l : List ActB) : Bool := (l.take 100).any fun a => decide (250 < a.2.length)
theorem heavy_l1_ok {kk : SK} (l : List ActB) (Q : Out → Prop) (hQ1 : heavyB l = true → ∀ e,look e 2 = .p (.bool true) → Q (.ret,e,[])) (hQ2 : heavyB l = false → ∀ e,Q (.ex 0,e,[])) :
  ∀ (f i : Nat),i + f = (l.take 100).length → ((l.take 100).drop i).any (fun a => decide (250 < a.2.length)) = heavyB l →
  Wp Γ l10_heavy_l1 [(0,.p (.sl kk 2 (actL l))),(3,.p (.int .i64 (i : Int)))] [] Q := by
 intro f
 induction f with
 | zero =>
  intro i hi hb
  have hi : i = (l.take 100).length := by omega
  subst hi
  rw [List.drop_length,List.any_nil] at hb
  have hQ2 := hQ2 hb.symm
  rw [List.length_take]
  by_cases h : 100 < l.length
  ·have e : min 100 l.length = 100 := by omega
   rw [e]
   rw [W_loop (L := l10_heavy_l1) rfl]
   simp (disch := first | assumption | omega | decide | (simp only [lens] <;> omega) | fail) only [go_sem,l10_heavy_l1,actL_len]
   exact hQ2 _
  ·have e : min 100 l.length = l.length := by omega
   rw [e]
   rw [W_loop (L := l10_heavy_l1) rfl]
   simp (disch := first | assumption | omega | decide | (simp only [lens] <;> omega) | fail) only [go_sem,l10_heavy_l1,actL_len]
   exact hQ2 _
 | succ f ih =>
  intro i hi hb
  rw [List.length_take] at hi
  have hlt : i < l.length := by omega
  have h100 : i < 100 := by omega
  have hia := actL_at (kk := kk) hlt []
  have hdrop : (l.take 100).drop i = l.getD i noAct :: (l.take 100).drop (i + 1) := by
   rw [List.drop_eq_getElem_cons (by rw [List.length_take]; omega),List.getElem_take,List.getD_eq_getElem?_getD,List.getElem?_eq_getElem hlt]; rfl
  rw [hdrop,List.any_cons] at hb
  by_cases hg : 250 < (l.getD i noAct).2.length
  ·rw [decide_eq_true hg,Bool.true_or] at hb
   have hQ1 := hQ1 hb.symm
   rw [W_loop (L := l10_heavy_l1) rfl]
   simp (disch := first | assumption | omega | decide | (simp only [lens] <;> omega) | fail) only [go_sem,l10_heavy_l1,actL_len,hia]
   exact hQ1 _ rfl
  ·rw [decide_eq_false hg,Bool.false_or] at hb
   have ih := ih (i + 1) (by rw [List.length_take]; omega) hb
   rw [W_loop (L := l10_heavy_l1) rfl]
   simp (disch := first | assumption | omega | decide | (simp only [lens] <;> omega) | fail) only [go_sem,l10_heavy_l1,actL_len,hia]
   exact ih
theorem res_heavy {kk : SK} (l : List ActB) : res Γ 407 [.sl kk 2 (actL l)] = some [.bool (heavyB l)] := by
 refine res_code (fn := l10_heavy) rfl rfl ?_
 simp (disch := first | assumption | omega | decide | (simp only [lens] <;> omega) | fail) only [go_sem,l10_heavy]
 refine heavy_l1_ok l _ (fun hb e he => ?_) (fun hb e => ?_) (l.take 100).length 0 (by omega) rfl
 ·simp (disch := first | assumption | omega | decide | (simp only [lens] <;> omega) | fail) only [go_sem,he,hb]
 ·simp (disch := first | assumption | omega | decide | (simp only [lens] <;> omega) | fail) only [go_sem,hb]
def PlayI (r x : Nat) (L : Path) (H : Heap) : Prop := ∃ N,TrieN N H r L ∧ Nms L ∧ RowF N H x L
theorem PlayI.ext {r x : Nat} {L : Path} {H H' : Heap} (h : PlayI r x L H) (hx : Ext0 H H') : PlayI r x L H' := by
 obtain ⟨N,h1,h2,h3⟩ := h
 exact ⟨N,h1.ext hx,h2,h3.ext hx⟩
theorem PlayI.trie {r x : Nat} {L : Path} {H : Heap} (h : PlayI r x L H) : TrieV H (.bx r 0) L := by
 obtain ⟨N,h1,h2,h3⟩ := h
 exact .att N r L h1 h2
theorem PlayI.row {r x : Nat} {L : Path} {H : Heap} (h : PlayI r x L H) : RowR H x L := by
 obtain ⟨N,h1,h2,h3⟩ := h
 exact h3.1
theorem PlayI.nms {r x : Nat} {L : Path} {H : Heap} (h : PlayI r x L H) : Nms L := by
 obtain ⟨N,h1,h2,h3⟩ := h
 exact h2
theorem Nms.short {L : Path} (h : Nms L) : ∀ s ∈ L,s.length ≤ 1000 := fun s hs => by have := (nameB_facts (h.ok s hs)).2.1; omega
theorem both_insert {r x : Nat} {L : Path} {H : Heap} (h : PlayI r x L H) (hl : L.length ≤ 500) (s : List UInt8) (hs : s.length ≤ 1000) :
  ∃ e H1 H2 L',resW Γ 401 [.bx r 0,.p (.str s)] H = some ([.p (.int .i64 e)],H1) ∧ resW Γ 402 [.bx x 0,.p (.str s)] H1 = some ([.p (.int .i64 e)],H2) ∧ PlayI r x L' H2 ∧ L'.length ≤ L.length + 1 := by
 obtain ⟨N,h1,h2,h3⟩ := h
 obtain ⟨N1,H1,e,a1,he,t1,c1⟩ := op_insertN h1 h2 s hs
 have hF : ∀ i,Foot N1 i → i < H1.length := fun i hi => t1.lies.foot_lt hi
 have r1 := h3.chg c1
 cases hn : nameB s with
 | false =>
  have e1 : addN L s = L := by unfold addN; rw [hn]; rfl
  rw [hn] at he
  subst he
  rw [e1] at t1
  exact ⟨_,H1,H1,L,a1,rop_insertNo s hn,⟨N1,t1,h2,r1⟩,by omega⟩
 | true =>
  have e1 : addN L s = addS s L := by unfold addN; rw [hn]; rfl
  rw [hn] at he
  subst he
  rw [e1] at t1
  by_cases hm : s ∈ L
  ·have e2 : addS s L = L := if_pos hm
   rw [e2] at t1
   exact ⟨_,H1,H1,L,a1,rop_insertOld r1.row (by omega) s hn hm,⟨N1,t1,h2,r1⟩,by omega⟩
  ·have e2 : addS s L = insS s L := if_neg hm
   have n2 := addS_nms h2 hn (by omega)
   rw [e2] at t1 n2
   obtain ⟨H2,a2,hA⟩ := rop_insert r1 hF (by omega) h2.short s hs hn hm
   exact ⟨_,H1,H2,insS s L,a1,a2,⟨N1,t1.keep hA.foot,n2,hA.row⟩,by rw [insS_len]; omega⟩
theorem erase_nmsP {L : Path} (h : Nms L) (s : List UInt8) : Nms (L.erase s) :=
 ⟨h.sorted.sublist List.erase_sublist,fun x hx => h.ok x (List.mem_of_mem_erase hx),Nat.le_trans List.length_erase_le h.len⟩
theorem both_remove {r x : Nat} {L : Path} {H : Heap} (h : PlayI r x L H) (hl : L.length ≤ 500) (s : List UInt8) (hs : s.length ≤ 1000) :
  ∃ b H1 H2 L',resW Γ 403 [.bx r 0,.p (.str s)] H = some ([.p (.bool b)],H1) ∧ resW Γ 404 [.bx x 0,.p (.str s)] H1 = some ([.p (.bool b)],H2) ∧ PlayI r x L' H2 ∧ L'.length ≤ L.length + 1 := by
 obtain ⟨N,h1,h2,h3⟩ := h
 by_cases hm : s ∈ L
 ·obtain ⟨N1,H1,a1,t1,c1⟩ := op_remove h1 h2 s hs hm
  obtain ⟨H2,a2,hA⟩ := rop_remove (h3.chg c1) (fun i hi => t1.lies.foot_lt hi) (by omega) s
  rw [decide_eq_true hm] at a2
  exact ⟨true,H1,H2,_,a1,a2,⟨N1,t1.keep hA.foot,erase_nmsP h2 s,hA.row⟩,Nat.le_trans List.length_erase_le (by omega)⟩
 ·have a1 := op_removeNo h1 s hs hm
  obtain ⟨H2,a2,hA⟩ := rop_remove h3 (fun i hi => h1.lies.foot_lt hi) (by omega) s
  rw [decide_eq_false hm] at a2
  have e := List.erase_of_not_mem hm
  rw [e] at hA
  exact ⟨false,H,H2,L,a1,a2,⟨N,h1.keep hA.foot,h2,hA.row⟩,by omega⟩
end Ab
namespace Ab
open Go (IntKind BinOp UnOp)
theorem lenk_row {H : Heap} {x o : Nat} {kk : SK} {L : Path} (h : H[x]? = some (.box [.p (.sl kk 1 (strs L))])) : lenkA H (.p (.sl kk 1 (strs L))) (.bx x o) = some (.p (.int .i64 (L.length : Int))) := by
 have hb : boxOf H x = some [.p (.sl kk 1 (strs L))] := by unfold boxOf; rw [h]
 show (boxOf H x).bind _ = _
 rw [hb]
 have e : heldC [.p (.sl kk 1 (strs L))] (.p (.sl kk 1 (strs L))) = true := by unfold heldC; rfl
 simp only [Option.bind_some,e,ifB_t,asLen,strs_len,Option.map_some]
theorem strsB_strs : ∀ L : Path,strsB (strs L) = some L
 | [] => rfl
 | s :: r => by
  have := strsB_strs r
  simp only [strs,List.map_cons,strsB] at this ⊢
  rw [this]; rfl
theorem keep_row1 {H H' : Heap} {x : Nat} {kk : SK} {L : Path} (h : H[x]? = some (.box [.p (.sl kk 1 (strs L))])) (h' : H'[x]? = some (.box [.p (.sl kk 1 (strs L))])) (hk : kk = .any ∨ (kk = .nil ∧ L = [])) : keepOne H H' x = true := by
 unfold keepOne
 rw [h,h']
 rcases hk with rfl | ⟨rfl,rfl⟩
 ·simp [strsB_strs]
 ·rfl
theorem plays_l1_ok {kk : SK} (l : List ActB) (hs : ∀ i,i < l.length → i < 100 → (l.getD i noAct).2.length ≤ 250) (r x : Nat) (Q : Out → Prop) (hQ : ∀ e H,Q (.ex 0,e,H)) :
  ∀ (f i : Nat) (L : Path) (H : Heap),i + f = min 100 l.length → L.length ≤ i → PlayI r x L H →
  Wp Γ l10_TriePlays_l1 [(0,.p (.sl kk 2 (actL l))),(3,.bx r 0),(4,.bx x 0),(5,.p (.int .i64 (i : Int)))] H Q := by
 intro f
 induction f with
 | zero =>
  intro i L H hi hLl hI
  have hi : i = min 100 l.length := by omega
  by_cases h : 100 < l.length
  ·have e : i = 100 := by omega
   subst e
   rw [W_loop (L := l10_TriePlays_l1) rfl]
   simp (disch := first | assumption | omega | decide | (simp only [lens] <;> omega) | fail) only [go_sem,l10_TriePlays_l1,actL_len]
   exact hQ _ _
  ·have e : i = l.length := by omega
   subst e
   rw [W_loop (L := l10_TriePlays_l1) rfl]
   simp (disch := first | assumption | omega | decide | (simp only [lens] <;> omega) | fail) only [go_sem,l10_TriePlays_l1,actL_len]
   exact hQ _ _
 | succ f ih =>
  intro i L H hi hLl hI
  have hlt : i < l.length := by omega
  have h100 : i < 100 := by omega
  have hia := actL_at (kk := kk) hlt
  have hsl := hs i hlt h100
  generalize l.getD i noAct = a at hia hsl
  obtain ⟨k,s⟩ := a
  simp only at hia hsl
  -- the checks behind each act
  have tail : ∀ (L' : Path) (H' : Heap),PlayI r x L' H' → L'.length ≤ i + 1 → ∃ k0 v H2,H'[x]? = some (.box [.p (.sl k0 1 (strs L'))]) ∧ H2[x]? = some (.box [.p (.sl k0 1 (strs L'))]) ∧ keepOne H' H' x = true ∧ keepOne H' H2 x = true ∧
    resW Γ 400 [.bx r 0] H' = some ([.p (.int .i64 (L'.length : Int))],H') ∧ resW Γ 397 [.bx r 0] H' = some ([v],H2) ∧ RowV H2 v L' ∧ (∀ k1 k2,res Γ 398 [.sl k1 1 (strs L'),.sl k2 1 (strs L')] = some [.bool true]) ∧
    Wp Γ l10_TriePlays_l1 [(0,.p (.sl kk 2 (actL l))),(3,.bx r 0),(4,.bx x 0),(5,.p (.int .i64 ((i + 1 : Nat) : Int)))] H2 Q := by
   intro L' H' hI' hl'
   obtain ⟨k0,hb,hk⟩ := hI'.row
   obtain ⟨v,H2,n1,w1,g1⟩ := trie_names hI'.trie
   have hI2 := hI'.ext g1
   have hb2 : H2[x]? = some (.box [.p (.sl k0 1 (strs L'))]) := (g1.2 _ (List.getElem?_eq_some_iff.1 hb).1).trans hb
   exact ⟨k0,v,H2,hb,hb2,keep_row1 hb hb hk,keep_row1 hb hb2 hk,trie_len hI'.trie,n1,w1,fun k1 k2 => res_texts L' (by omega),ih (i + 1) L' H2 (by omega) hl' hI2⟩
  have s401 : stillW Γ 401 = true := rfl
  have s402 : stillW Γ 402 = true := rfl
  have s403 : stillW Γ 403 = true := rfl
  have s404 : stillW Γ 404 = true := rfl
  have s405 : stillW Γ 405 = true := rfl
  have hnil : ∀ k1 k2,(∀ k1 k2,res Γ 398 [.sl k1 1 (strs []),.sl k2 1 (strs [])] = some [.bool true]) → res Γ 398 [.sl k1 1 [],.sl k2 1 []] = some [.bool true] := fun k1 k2 h => h k1 k2
  have eb : ∀ b : Bool,eqK 1 (.p (.bool b)) (.p (.bool b)) = some true := fun b => by simp [eqK]
  by_cases h1 : k = 1
  ·obtain ⟨e,H1,H2,L',a1,a2,hI2,hl2⟩ := both_insert hI (by omega) s (by omega)
   obtain ⟨k0,v,H3,t1,t2,t3,t4,t5,t6,t7,t8,t9⟩ := tail L' H2 hI2 (by omega)
   have t10 := lenk_row (o := 0) t1
   subst h1
   rcases t7 with ⟨rfl,rfl⟩ | ⟨hne,i1,rfl,hr1⟩
   ·have t8 := fun k1 k2 => hnil k1 k2 t8
    have e0 : strs [] = [] := rfl
    rw [e0] at t1 t2 t10
    rw [W_loop (L := l10_TriePlays_l1) rfl]
    simp (disch := first | assumption | omega | decide | (simp only [lens] <;> omega) | fail) only [go_sem,l10_TriePlays_l1,actL_len,hia,s401,s402,a1,a2,t1,t2,t3,t4,t5,t6,t8,t10,still397,still400]
    exact t9
   ·rw [W_loop (L := l10_TriePlays_l1) rfl]
    simp (disch := first | assumption | omega | decide | (simp only [lens] <;> omega) | fail) only [go_sem,l10_TriePlays_l1,actL_len,hia,s401,s402,a1,a2,t1,t2,t3,t4,t5,t6,t8,t10,hr1,still397,still400]
    exact t9
  by_cases h2 : k = 2
  ·obtain ⟨e,H1,H2,L',a1,a2,hI2,hl2⟩ := both_remove hI (by omega) s (by omega)
   obtain ⟨k0,v,H3,t1,t2,t3,t4,t5,t6,t7,t8,t9⟩ := tail L' H2 hI2 (by omega)
   have t10 := lenk_row (o := 0) t1
   subst h2
   rcases t7 with ⟨rfl,rfl⟩ | ⟨hne,i1,rfl,hr1⟩
   ·have t8 := fun k1 k2 => hnil k1 k2 t8
    have e0 : strs [] = [] := rfl
    rw [e0] at t1 t2 t10
    rw [W_loop (L := l10_TriePlays_l1) rfl]
    simp (disch := first | assumption | omega | decide | (simp only [lens] <;> omega) | fail) only [go_sem,l10_TriePlays_l1,actL_len,hia,s403,s404,a1,a2,t1,t2,t3,t4,t5,t6,t8,t10,still397,still400]
    exact t9
   ·rw [W_loop (L := l10_TriePlays_l1) rfl]
    simp (disch := first | assumption | omega | decide | (simp only [lens] <;> omega) | fail) only [go_sem,l10_TriePlays_l1,actL_len,hia,s403,s404,a1,a2,t1,t2,t3,t4,t5,t6,t8,t10,hr1,still397,still400]
    exact t9
  by_cases h3 : k = 3
  ·obtain ⟨A,k1,k2,e,H1,H2,a1,x1,a2,x2,hA⟩ := find_agree hI.trie hI.row hI.nms.short hI.nms.len s (by omega)
   have hI2 := (hI.ext x1).ext x2
   have hh := res_hits (k1 := k1) (k2 := k2) A (by omega)
   obtain ⟨L',hL'⟩ : ∃ L',L' = L := ⟨_,rfl⟩
   rw [← hL'] at hI2
   have hl2 : L'.length ≤ L.length + 1 := by rw [hL']; omega
   obtain ⟨k0,v,H3,t1,t2,t3,t4,t5,t6,t7,t8,t9⟩ := tail L' H2 hI2 (by omega)
   have t10 := lenk_row (o := 0) t1
   subst h3
   rcases t7 with ⟨rfl,rfl⟩ | ⟨hne,i1,rfl,hr1⟩
   ·have t8 := fun k1 k2 => hnil k1 k2 t8
    have e0 : strs [] = [] := rfl
    rw [e0] at t1 t2 t10
    rw [W_loop (L := l10_TriePlays_l1) rfl]
    simp (disch := first | assumption | omega | decide | (simp only [lens] <;> omega) | fail) only [go_sem,l10_TriePlays_l1,actL_len,hia,still394,s405,a1,a2,hh,t1,t2,t3,t4,t5,t6,t8,t10,still397,still400]
    exact t9
   ·rw [W_loop (L := l10_TriePlays_l1) rfl]
    simp (disch := first | assumption | omega | decide | (simp only [lens] <;> omega) | fail) only [go_sem,l10_TriePlays_l1,actL_len,hia,still394,s405,a1,a2,hh,t1,t2,t3,t4,t5,t6,t8,t10,hr1,still397,still400]
    exact t9
  ·have a1 := trie_has hI.trie s (by omega)
   have a2 := rop_has hI.row hI.nms.len s
   obtain ⟨H2,hH2⟩ : ∃ H2,H2 = H := ⟨_,rfl⟩
   obtain ⟨L',hL'⟩ : ∃ L',L' = L := ⟨_,rfl⟩
   have hI2 := hI
   rw [← hH2] at hI2 a1 a2
   rw [← hL'] at hI2
   have hl2 : L'.length ≤ L.length + 1 := by rw [hL']; omega
   have d1 : decide (k = 1) = false := decide_eq_false h1
   have d2 : decide (k = 2) = false := decide_eq_false h2
   have d3 : decide (k = 3) = false := decide_eq_false h3
   obtain ⟨k0,v,H3,t1,t2,t3,t4,t5,t6,t7,t8,t9⟩ := tail L' H2 hI2 (by omega)
   have t10 := lenk_row (o := 0) t1
   rw [← hH2]
   rcases t7 with ⟨rfl,rfl⟩ | ⟨hne,i1,rfl,hr1⟩
   ·have t8 := fun k1 k2 => hnil k1 k2 t8
    have e0 : strs [] = [] := rfl
    rw [e0] at t1 t2 t10
    rw [W_loop (L := l10_TriePlays_l1) rfl]
    simp (disch := first | assumption | omega | decide | (simp only [lens] <;> omega) | fail) only [go_sem,l10_TriePlays_l1,actL_len,hia,d1,d2,d3,still392,still406,a1,a2,t1,t2,t3,t4,t5,t6,t8,t10,still397,still400]
    exact t9
   ·rw [W_loop (L := l10_TriePlays_l1) rfl]
    simp (disch := first | assumption | omega | decide | (simp only [lens] <;> omega) | fail) only [go_sem,l10_TriePlays_l1,actL_len,hia,d1,d2,d3,still392,still406,a1,a2,t1,t2,t3,t4,t5,t6,t8,t10,hr1,still397,still400]
    exact t9
theorem res_TriePlaysA {kk : SK} (l : List ActB) : res Γ 466 [.sl kk 2 (actL l)] = some [.bool true] := by
 have hh := res_heavy (kk := kk) l
 cases hb : heavyB l with
 | true =>
  rw [hb] at hh
  refine res_code (fn := l10_TriePlays) rfl rfl ?_
  simp (disch := first | assumption | omega | decide | (simp only [lens] <;> omega) | fail) only [go_sem,l10_TriePlays,hh]
 | false =>
  rw [hb] at hh
  have hs : ∀ i,i < l.length → i < 100 → (l.getD i noAct).2.length ≤ 250 := fun i hi h100 => by
   have hm : l.getD i noAct ∈ l.take 100 := by
    rw [List.getD_eq_getElem?_getD,List.getElem?_eq_getElem hi]
    have : (l.take 100)[i]'(by rw [List.length_take]; omega) = l[i] := List.getElem_take
    rw [Option.getD_some,← this]
    exact List.getElem_mem _
   have := List.any_eq_false.1 hb _ hm
   simpa using this
  obtain ⟨H1,a1,m1⟩ := op_new (kk := .nil) (H := []) [] (by simp) (by simp)
  have en : strs ([] : Path) = [] := rfl
  rw [en] at a1
  generalize ([] : Heap).length + 1 = r1 at a1 m1
  have k1 := res_knownT
  have hI : PlayI r1 H1.length [] (H1 ++ [.box [.p (.sl .nil 1 [])]]) := by
   obtain ⟨N,t1,_⟩ := m1.at_
   exact ⟨N,t1.ext (Ext0.app _ _),m1.nms,⟨.nil,by simp [strs],.inr ⟨rfl,rfl⟩⟩,fun hf => by have := t1.lies.foot_lt hf; omega⟩
  refine res_code (fn := l10_TriePlays) rfl rfl ?_
  simp (disch := first | assumption | omega | decide | (simp only [lens] <;> omega) | fail) only [go_sem,l10_TriePlays,hh,still395,a1]
  refine plays_l1_ok l hs r1 H1.length _ (fun e H => ?_) (min 100 l.length) 0 [] _ (by omega) (by simp) hI
  simp (disch := first | assumption | omega | decide | (simp only [lens] <;> omega) | fail) only [go_sem,k1]
end Ab
