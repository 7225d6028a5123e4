import Derived.Test.YtieagbclljmnlaaGreatDoorLGlob10
import Derived.Test.YtieagbclljmnlaaGreatDoorLGlob8
namespace Ab
open Go (IntKind BinOp UnOp)
abbrev eEnv (s : List UInt8) (n fr : Nat) (D : List (List UInt8)) (i : Nat) : Env := [(0,.p (.str s)),(6,.p (.int .i64 (n : Int))),(7,.p (.int .i64 (fr : Int))),(8,.own 0 D.length),(9,.p (.int .i64 (i : Int)))]
section
variable {s : List UInt8} (hs : s.length ≤ 900000) {Q : Out → Prop} {n fr i : Nat} {D : List (List UInt8)}
include hs
theorem ends_lit (hi : i < s.length) (hc : special (s.getD i 0) = false) (h : Wp Γ r9_ends_l1 (eEnv s n fr D (i + 1)) [.row false 1 (strs D)] (InBlk [0,8] 0 Q)) : Wp Γ r9_ends_l1 (eEnv s n fr D i) [.row false 1 (strs D)] (InBlk [0,8] 0 Q) := by
 simp only [special,Bool.or_eq_false_iff,beq_eq_false_iff_ne] at hc
 have n1 : byt s i ≠ 123 := fun h => hc.1.1 ((byt_eqG 123).1 h)
 have n2 : byt s i ≠ 125 := fun h => hc.1.2 ((byt_eqG 125).1 h)
 have n3 : byt s i ≠ 44 := fun h => hc.2 ((byt_eqG 44).1 h)
 rw [W_loop (L := r9_ends_l1) rfl]
 simp (disch := first | assumption | omega | decide | (simp only [lens] <;> omega) | fail) only [go_sem]
 exact h
theorem ends_open (hi : i < s.length) (hc : byt s i = 123) (hn : n ≤ 900001) (h : Wp Γ r9_ends_l1 (eEnv s (n + 1) fr D (i + 1)) [.row false 1 (strs D)] (InBlk [0,8] 0 Q)) : Wp Γ r9_ends_l1 (eEnv s n fr D i) [.row false 1 (strs D)] (InBlk [0,8] 0 Q) := by
 rw [W_loop (L := r9_ends_l1) rfl]
 simp (disch := first | assumption | omega | decide | (simp only [lens] <;> omega) | fail) only [go_sem,hc]
 exact h
theorem ends_close (hi : i < s.length) (hc : byt s i = 125) (hn : n ≤ 900001) (h : Wp Γ r9_ends_l1 (eEnv s (n + 1) fr D (i + 1)) [.row false 1 (strs D)] (InBlk [0,8] 0 Q)) (h1 : 1 ≤ n) : Wp Γ r9_ends_l1 (eEnv s (n + 2) fr D i) [.row false 1 (strs D)] (InBlk [0,8] 0 Q) := by
 have e : ((n + 2 : Nat) : Int) - 1 = ((n + 1 : Nat) : Int) := by omega
 rw [W_loop (L := r9_ends_l1) rfl]
 simp (disch := first | assumption | omega | decide | (simp only [lens] <;> omega) | fail) only [go_sem,hc,e]
 exact h
theorem ends_comma (hi : i < s.length) (hc : byt s i = 44) (hn : n ≤ 900001) (h1 : 2 ≤ n) (h : Wp Γ r9_ends_l1 (eEnv s n fr D (i + 1)) [.row false 1 (strs D)] (InBlk [0,8] 0 Q)) : Wp Γ r9_ends_l1 (eEnv s n fr D i) [.row false 1 (strs D)] (InBlk [0,8] 0 Q) := by
 rw [W_loop (L := r9_ends_l1) rfl]
 simp (disch := first | assumption | omega | decide | (simp only [lens] <;> omega) | fail) only [go_sem,hc]
 exact h
theorem ends_run {p rest : List UInt8} (hp : ∀ c ∈ p,special c = false) : ∀ {i : Nat},s.drop i = p ++ rest → Wp Γ r9_ends_l1 (eEnv s n fr D (i + p.length)) [.row false 1 (strs D)] (InBlk [0,8] 0 Q) → Wp Γ r9_ends_l1 (eEnv s n fr D i) [.row false 1 (strs D)] (InBlk [0,8] 0 Q) := by
 induction p with
 | nil => intro i _ h; exact h
 | cons c p ih =>
  intro i hd h
  obtain ⟨h1,h2,h3⟩ := drop_head hd
  refine ends_lit hs h1 (by rw [h2]; exact hp c (by simp)) ?_
  refine ih (fun x hx => hp x (by simp [hx])) h3 ?_
  rw [List.length_cons] at h
  rw [show i + 1 + p.length = i + (p.length + 1) by omega]
  exact h
def EndsOver (s : List UInt8) (a : List UInt8) : Prop := ∀ (Q : Out → Prop) (n fr i : Nat) (D : List (List UInt8)) (rest : List UInt8),s.drop i = a ++ rest → 1 ≤ n → n ≤ i → Wp Γ r9_ends_l1 (eEnv s n fr D (i + a.length)) [.row false 1 (strs D)] (InBlk [0,8] 0 Q) → Wp Γ r9_ends_l1 (eEnv s n fr D i) [.row false 1 (strs D)] (InBlk [0,8] 0 Q)
theorem ends_alts (h2 : 2 ≤ n) {rest : List UInt8} : ∀ {alts : List (List UInt8)},alts ≠ [] → (∀ a ∈ alts,EndsOver s a) → ∀ {i : Nat},n ≤ i → s.drop i = joinC alts ++ rest → Wp Γ r9_ends_l1 (eEnv s n fr D (i + (joinC alts).length)) [.row false 1 (strs D)] (InBlk [0,8] 0 Q) → Wp Γ r9_ends_l1 (eEnv s n fr D i) [.row false 1 (strs D)] (InBlk [0,8] 0 Q) := by
 intro alts
 induction alts with
 | nil => exact fun h => absurd rfl h
 | cons a asX ih =>
  intro _ ha i hn hd h
  by_cases h0 : asX = []
  ·subst h0
   exact ha a (by simp) Q n fr i D rest hd (by omega) hn h
  ·rw [joinC_cons h0] at hd h
   rw [List.append_assoc] at hd
   have hd2 : s.drop (i + a.length) = 44 :: (joinC asX ++ rest) := by rw [← List.drop_drop,hd,List.drop_left]; rfl
   obtain ⟨k1,k2,k3⟩ := drop_head hd2
   refine ha a (by simp) Q n fr i D _ hd (by omega) hn ?_
   refine ends_comma hs k1 ((byt_eqG 44).2 k2) (by omega) h2 ?_
   refine ih h0 (fun x hx => ha x (by simp [hx])) (by omega) k3 ?_
   rw [List.length_append,List.length_cons] at h
   rw [show i + a.length + 1 + (joinC asX).length = i + (a.length + ((joinC asX).length + 1)) by omega]
   exact h
theorem ends_over {a : List UInt8} {l : List (List UInt8)} (h : Exp a l) : EndsOver s a := by
 induction h with
 | run p hp => exact fun Q n fr i D rest hd _ _ h => ends_run hs hp hd h
 | grp p alts f u l hp ha hf hu ih ihu =>
  intro Q n fr i D rest hd h1 hni h
  rw [List.append_assoc] at hd
  refine ends_run hs hp hd ?_
  have hd2 : s.drop (i + p.length) = 123 :: (joinC alts ++ (125 :: (u ++ rest))) := by rw [← List.drop_drop,hd,List.drop_left]; simp
  obtain ⟨k1,k2,k3⟩ := drop_head hd2
  refine ends_open hs k1 ((byt_eqG 123).2 k2) (by omega) ?_
  refine ends_alts hs (by omega) ha ih (by omega) k3 ?_
  have hd3 : s.drop (i + p.length + 1 + (joinC alts).length) = 125 :: (u ++ rest) := by rw [← List.drop_drop,k3,List.drop_left]
  obtain ⟨j1,j2,j3⟩ := drop_head hd3
  obtain ⟨m,rfl⟩ : ∃ m,n = m + 1 := ⟨n - 1,by omega⟩
  by_cases hm : m = 0
  ·subst hm
   have e : ((0 + 1 + 1 : Nat) : Int) - 1 = ((1 : Nat) : Int) := by omega
   have hb := (byt_eqG (s := s) (i := i + p.length + 1 + (joinC alts).length) 125).2 j2
   rw [W_loop (L := r9_ends_l1) rfl]
   simp (disch := first | assumption | omega | decide | (simp only [lens] <;> omega) | fail) only [go_sem,hb]
   refine ihu Q 1 fr (i + p.length + 1 + (joinC alts).length + 1) D rest j3 (by omega) (by omega) ?_
   have el : i + p.length + 1 + (joinC alts).length + 1 + u.length = i + (p ++ 123 :: (joinC alts ++ 125 :: u)).length := by
    simp only [List.length_append,List.length_cons]; omega
   rw [el]
   exact h
  ·refine ends_close (n := m) hs j1 ((byt_eqG 125).2 j2) (by omega) ?_ (by omega)
   refine ihu Q (m + 1) fr (i + p.length + 1 + (joinC alts).length + 1) D rest j3 (by omega) (by omega) ?_
   have el : i + p.length + 1 + (joinC alts).length + 1 + u.length = i + (p ++ 123 :: (joinC alts ++ 125 :: u)).length := by
    simp only [List.length_append,List.length_cons]; omega
   rw [el]
   exact h
theorem ends_top {rest : List UInt8} : ∀ {alts : List (List UInt8)},alts ≠ [] → (∀ a ∈ alts,EndsOver s a) → ∀ {i : Nat} {D : List (List UInt8)},1 ≤ i → D.length ≤ i → s.drop i = joinC alts ++ 125 :: rest →
  Q (.ret,[(4,.p (.int .i64 ((i + (joinC alts).length : Nat) : Int))),(5,.own 0 (D ++ alts).length)],[.row false 1 (strs (D ++ alts))]) →
  Wp Γ r9_ends_l1 (eEnv s 1 i D i) [.row false 1 (strs D)] (InBlk [0,8] 0 Q) := by
 intro alts
 induction alts with
 | nil => exact fun h => absurd rfl h
 | cons a asX ih =>
  intro _ ha i D h1 hD hd hQ
  have cut : ∀ r,s.drop i = a ++ r → (s.take (i + a.length)).drop i = a := fun r h => by rw [List.drop_take,h,Nat.add_sub_cancel_left,List.take_left]
  by_cases h0 : asX = []
  ·subst h0
   have hd2 : s.drop (i + a.length) = 125 :: rest := by rw [← List.drop_drop,hd]; exact List.drop_left
   obtain ⟨k1,k2,k3⟩ := drop_head hd2
   have hb := (byt_eqG (s := s) (i := i + a.length) 125).2 k2
   have hc := cut _ hd
   refine ha a (by simp) Q 1 i i D _ hd (by omega) h1 ?_
   rw [List.length_append] at hQ
   rw [W_loop (L := r9_ends_l1) rfl]
   simp (disch := first | assumption | omega | decide | (simp only [lens] <;> omega) | fail) only [go_sem,hb,hc]
   exact hQ
  ·rw [joinC_cons h0] at hd hQ
   rw [List.append_assoc] at hd
   have hd2 : s.drop (i + a.length) = 44 :: (joinC asX ++ 125 :: rest) := by rw [← List.drop_drop,hd,List.drop_left]; rfl
   obtain ⟨k1,k2,k3⟩ := drop_head hd2
   have hb := (byt_eqG (s := s) (i := i + a.length) 44).2 k2
   have hc := cut _ hd
   refine ha a (by simp) Q 1 i i D _ hd (by omega) h1 ?_
   have := ih h0 (fun x hx => ha x (by simp [hx])) (i := i + a.length + 1) (D := D ++ [a]) (by omega) (by rw [List.length_append]; simp; omega) k3 (by
    rw [List.append_assoc]
    rw [List.length_append,List.length_cons] at hQ
    rw [show i + a.length + 1 + (joinC asX).length = i + (a.length + ((joinC asX).length + 1)) by omega]
    exact hQ)
   rw [eEnv,List.length_append] at this
   rw [W_loop (L := r9_ends_l1) rfl]
   simp (disch := first | assumption | omega | decide | (simp only [lens] <;> omega) | fail) only [go_sem,hb,hc]
   exact this
theorem res_ends {alts : List (List UInt8)} {f : List UInt8 → List (List UInt8)} (h0 : alts ≠ []) (ha : ∀ a ∈ alts,Exp a (f a)) {rest : List UInt8} (hd : s.drop i = 123 :: (joinC alts ++ 125 :: rest)) :
  res Γ 57 [.str s,.int .i64 (i : Int)] = some [.int .i64 ((i + 1 + (joinC alts).length : Nat) : Int),.sl .any 1 (strs alts)] := by
 obtain ⟨k1,k2,k3⟩ := drop_head hd
 have hb := (byt_eqG (s := s) (i := i) 123).2 k2
 refine res_code (fn := r9_ends) rfl rfl ?_
 simp (disch := first | assumption | omega | decide | (simp only [lens] <;> omega) | fail) only [go_sem,r9_ends]
 have : ∀ Q,Q (.ret,[(4,.p (.int .i64 ((i + 1 + (joinC alts).length : Nat) : Int))),(5,.own 0 alts.length)],[.row false 1 (strs alts)]) → Wp Γ r9_ends_l1 (eEnv s 0 (i + 1) [] i) [.row false 1 (strs [])] (InBlk [0,8] 0 Q) := by
  intro Q hQ
  refine ends_open hs k1 hb (by omega) ?_
  exact ends_top hs h0 (fun a h => ends_over hs (ha a h)) (by omega) (by simp) k3 hQ
 refine this _ ?_
 simp (disch := first | assumption | omega | decide | (simp only [lens] <;> omega) | fail) only [go_sem]
end
def prodP (p : List UInt8) (m l : List (List UInt8)) : List (List UInt8) := m.flatMap fun y => l.map fun z => p ++ (y ++ z)
theorem prodP_eq {p : List UInt8} {m l : List (List UInt8)} : prodL [p] (prodL m l) = prodP p m l := by
 rw [prodL_one]
 unfold prodP prodL
 rw [List.map_flatMap]
 congr 1
 funext y
 rw [List.map_map]
 rfl
theorem prodP_len {p : List UInt8} {m l : List (List UInt8)} : (prodP p m l).length = m.length * l.length := by
 rw [← prodP_eq,prodL_len,prodL_len]; simp
theorem prodP_drop {p : List UInt8} {m l : List (List UInt8)} {j : Nat} (h : j < m.length) : prodP p (m.drop j) l = (l.map fun z => p ++ (m.getD j [] ++ z)) ++ prodP p (m.drop (j + 1)) l := by
 unfold prodP
 rw [List.drop_eq_getElem_cons h,List.flatMap_cons]
 simp [List.getElem?_eq_getElem h]
theorem map_drop1' {l : List (List UInt8)} {j : Nat} {g : List UInt8 → List UInt8} (h : j < l.length) : (l.drop j).map g = g (l.getD j []) :: (l.drop (j + 1)).map g := by
 rw [List.drop_eq_getElem_cons h,List.map_cons]
 simp [List.getElem?_eq_getElem h]
section
variable {k6 k7 k11 : SK} {s p : List UInt8} (hs : s.length ≤ 1000000) (hp : s.take p.length = p) (hpl : p.length ≤ s.length) (alts l0 m : List (List UInt8)) (hl0 : l0.length ≤ 512) (hm : m.length ≤ 512) (b0 : ∀ x ∈ l0,x.length ≤ 1000000) (bm : ∀ x ∈ m,x.length ≤ 1000000) {Q : Out → Prop}
include hs hp hpl hl0 b0 bm
theorem all_l1_ok (k j : Nat) (hj : j < m.length) : ∀ (n h : Nat) (D : List (List UInt8)),h + n = l0.length → D.length + n ≤ 1000000 →
  Q (.nrm,[(0,.p (.str s)),(4,.p (.int .i64 (p.length : Int))),(6,.p (.sl k6 1 (strs alts))),(7,.p (.sl k7 1 (strs l0))),(9,.own 0 (D ++ (l0.drop h).map (fun z => p ++ (m.getD j [] ++ z))).length),(10,.p (.int .i64 (k : Int))),(11,.p (.sl k11 1 (strs m))),(13,.p (.int .i64 (j : Int)))],[.row false 1 (strs (D ++ (l0.drop h).map (fun z => p ++ (m.getD j [] ++ z))))]) →
  Wp Γ r9_all_l1 [(0,.p (.str s)),(4,.p (.int .i64 (p.length : Int))),(6,.p (.sl k6 1 (strs alts))),(7,.p (.sl k7 1 (strs l0))),(9,.own 0 D.length),(10,.p (.int .i64 (k : Int))),(11,.p (.sl k11 1 (strs m))),(13,.p (.int .i64 (j : Int))),(14,.p (.int .i64 (h : Int)))] [.row false 1 (strs D)] (InBlk [0,4,6,7,9,10,11,13] 6 Q) := by
 have bj := bm _ (getD_mem hj)
 intro n
 induction n with
 | zero =>
  intro h D hh hD hQ
  obtain rfl : h = l0.length := by omega
  rw [List.drop_length,List.map_nil,List.append_nil] at hQ
  rw [W_loop (L := r9_all_l1) rfl]
  simp (disch := first | assumption | omega | decide | (simp only [lens] <;> omega) | fail) only [go_sem]
  exact hQ
 | succ n ih =>
  intro h D hh hD hQ
  have hlt : h < l0.length := by omega
  have bh := b0 _ (getD_mem hlt)
  have ih := ih (h + 1) (D ++ [p ++ (m.getD j [] ++ l0.getD h [])]) (by omega) (by simp; omega) (by
   rw [map_drop1' hlt] at hQ
   rw [List.append_assoc]
   exact hQ)
  rw [List.length_append] at ih
  rw [W_loop (L := r9_all_l1) rfl]
  simp (disch := first | assumption | omega | decide | (simp only [lens] <;> omega) | fail) only [go_sem,hp]
  exact ih
include hm
theorem all_l2_ok (k : Nat) : ∀ (n j : Nat) (D : List (List UInt8)),j + n = m.length → D.length + (prodP p (m.drop j) l0).length ≤ 512 →
  Q (.nrm,[(0,.p (.str s)),(4,.p (.int .i64 (p.length : Int))),(6,.p (.sl k6 1 (strs alts))),(7,.p (.sl k7 1 (strs l0))),(9,.own 0 (D ++ prodP p (m.drop j) l0).length),(10,.p (.int .i64 (k : Int)))],[.row false 1 (strs (D ++ prodP p (m.drop j) l0))]) →
  Wp Γ r9_all_l2 [(0,.p (.str s)),(4,.p (.int .i64 (p.length : Int))),(6,.p (.sl k6 1 (strs alts))),(7,.p (.sl k7 1 (strs l0))),(9,.own 0 D.length),(10,.p (.int .i64 (k : Int))),(11,.p (.sl k11 1 (strs m))),(13,.p (.int .i64 (j : Int)))] [.row false 1 (strs D)] (InBlk [0,4,6,7,9,10] 4 Q) := by
 intro n
 induction n with
 | zero =>
  intro j D hj hD hQ
  obtain rfl : j = m.length := by omega
  rw [List.drop_length] at hQ
  have e : prodP p [] l0 = [] := rfl
  rw [e,List.append_nil] at hQ
  rw [W_loop (L := r9_all_l2) rfl]
  simp (disch := first | assumption | omega | decide | (simp only [lens] <;> omega) | fail) only [go_sem]
  exact hQ
 | succ n ih =>
  intro j D hj hD hQ
  have hlt : j < m.length := by omega
  rw [prodP_drop hlt,List.length_append,List.length_map] at hD
  have ih := ih (j + 1) (D ++ l0.map (fun z => p ++ (m.getD j [] ++ z))) (by omega) (by rw [List.length_append,List.length_map]; omega) (by
   rw [prodP_drop hlt] at hQ
   rw [List.append_assoc]
   exact hQ)
  rw [W_loop (L := r9_all_l2) rfl]
  simp (disch := first | assumption | omega | decide | (simp only [lens] <;> omega) | fail) only [go_sem]
  refine all_l1_ok hs hp hpl alts l0 m hl0 b0 bm k j hlt l0.length 0 D (by omega) (by omega) ?_
  rw [List.drop_zero]
  simp (disch := first | assumption | omega | decide | (simp only [lens] <;> omega) | fail) only [go_sem]
  exact ih
end
theorem all_l3_ok {k6 k7 : SK} {s p : List UInt8} (hs : s.length ≤ 1000000) (hp : s.take p.length = p) (hpl : p.length ≤ s.length) (alts l0 : List (List UInt8)) (hal : alts.length ≤ 1000000) (f : List UInt8 → List (List UInt8)) (hl0 : l0.length ≤ 512) (hl1 : 0 < l0.length) (b0 : ∀ x ∈ l0,x.length ≤ 1000000)
  (hf : ∀ a ∈ alts,((f a).length ≤ 512 → ∃ kk,res Γ 41 [.str a] = some [.sl kk 1 (strs (f a)),.bool true]) ∧ (512 < (f a).length → res Γ 41 [.str a] = some [.sl .nil 1 [],.bool false])) (bf : ∀ a ∈ alts,∀ x ∈ f a,x.length ≤ 1000000) {Q : Out → Prop} :
  ∀ (n k : Nat) (D : List (List UInt8)),k + n = alts.length → D.length ≤ 512 →
  ((D ++ prodP p ((alts.drop k).flatMap f) l0).length ≤ 512 → Q (.nrm,[(9,.own 0 (D ++ prodP p ((alts.drop k).flatMap f) l0).length)],[.row false 1 (strs (D ++ prodP p ((alts.drop k).flatMap f) l0))])) →
  (512 < (D ++ prodP p ((alts.drop k).flatMap f) l0).length → ∀ H,Q (.ret,[(2,.p (.sl .nil 1 [])),(3,.p (.bool false))],H)) →
  Wp Γ r9_all_l3 [(0,.p (.str s)),(4,.p (.int .i64 (p.length : Int))),(6,.p (.sl k6 1 (strs alts))),(7,.p (.sl k7 1 (strs l0))),(9,.own 0 D.length),(10,.p (.int .i64 (k : Int)))] [.row false 1 (strs D)] (InBlk [9] 2 Q) := by
 intro n
 induction n with
 | zero =>
  intro k D hk hD h1 h2
  obtain rfl : k = alts.length := by omega
  have e : prodP p ((alts.drop alts.length).flatMap f) l0 = [] := by rw [List.drop_length]; rfl
  rw [e,List.append_nil] at h1
  rw [W_loop (L := r9_all_l3) rfl]
  simp (disch := first | assumption | omega | decide | (simp only [lens] <;> omega) | fail) only [go_sem]
  exact h1 hD
 | succ n ih =>
  intro k D hk hD h1 h2
  have hlt : k < alts.length := by omega
  have hmem := getD_mem hlt
  obtain ⟨F1,F2⟩ := hf _ hmem
  have ed : (alts.drop k).flatMap f = f (alts.getD k []) ++ (alts.drop (k + 1)).flatMap f := by
   rw [List.drop_eq_getElem_cons hlt,List.flatMap_cons]
   simp [List.getElem?_eq_getElem hlt]
  have eP : prodP p ((alts.drop k).flatMap f) l0 = prodP p (f (alts.getD k [])) l0 ++ prodP p ((alts.drop (k + 1)).flatMap f) l0 := by
   rw [ed]; unfold prodP; rw [List.flatMap_append]
  rw [eP] at h1 h2
  have bfk := bf _ hmem
  obtain ⟨a,hak⟩ : ∃ a,alts.getD k [] = a := ⟨_,rfl⟩
  rw [hak] at F1 F2 bfk h1 h2
  by_cases hfa : (f a).length ≤ 512
  ·obtain ⟨kk,er⟩ := F1 hfa
   obtain ⟨q0,q1⟩ := prod_boundG (a := (f a).length) (b := l0.length) hfa (by omega)
   have eL := @prodP_len p (f a) l0
   by_cases hov : D.length + (f a).length * l0.length ≤ 512
   ·have q2 : (D.length : Int) + ((f a).length : Int) * (l0.length : Int) ≤ 512 := by
     have : ((D.length + (f a).length * l0.length : Nat) : Int) ≤ 512 := by omega
     rw [Int.natCast_add,Int.natCast_mul] at this
     exact this
    rw [W_loop (L := r9_all_l3) rfl]
    simp (disch := first | assumption | omega | decide | (simp only [lens] <;> omega) | fail) only [go_sem,hak,er]
    refine all_l2_ok hs hp hpl alts l0 (f a) hl0 hfa b0 bfk k (f a).length 0 D (by omega) (by rw [List.drop_zero,eL]; exact hov) ?_
    rw [List.drop_zero]
    simp (disch := first | assumption | omega | decide | (simp only [lens] <;> omega) | fail) only [go_sem]
    refine ih (k + 1) (D ++ prodP p (f a) l0) (by omega) (by rw [List.length_append,eL]; exact hov) ?_ ?_
    ·rw [List.append_assoc]; exact h1
    ·rw [List.append_assoc]; exact h2
   ·have q2 : ¬ (D.length : Int) + ((f a).length : Int) * (l0.length : Int) ≤ 512 := by
     intro h
     have : ((D.length + (f a).length * l0.length : Nat) : Int) ≤ 512 := by
      rw [Int.natCast_add,Int.natCast_mul]; exact h
     omega
    rw [W_loop (L := r9_all_l3) rfl]
    simp (disch := first | assumption | omega | decide | (simp only [lens] <;> omega) | fail) only [go_sem,hak,er]
    exact h2 (by simp only [List.length_append,eL]; omega) _
  ·have er := F2 (by omega)
   have eL := @prodP_len p (f a) l0
   have := Nat.le_mul_of_pos_right (f a).length hl1
   rw [W_loop (L := r9_all_l3) rfl]
   simp (disch := first | assumption | omega | decide | (simp only [lens] <;> omega) | fail) only [go_sem,hak,er]
   exact h2 (by simp only [List.length_append,eL]; omega) _
theorem all_l4_ok {s : List UInt8} (hs : s.length ≤ 1000000) {e : Nat} (he : e ≤ s.length) (h1 : ∀ j,j < e → byt s j ≠ 123) (h2 : e = s.length ∨ byt s e = 123) {Q : Out → Prop} (hQ : Q (.nrm,[(0,.p (.str s)),(4,.p (.int .i64 (e : Int)))],[])) :
  ∀ (n i : Nat),i + n = e → Wp Γ r9_all_l4 [(0,.p (.str s)),(4,.p (.int .i64 (i : Int)))] [] (InBlk [0,4] 0 Q) := by
 intro n
 induction n with
 | zero =>
  intro i hi
  obtain rfl : i = e := by omega
  by_cases hl : i = s.length
  ·subst hl
   rw [W_loop (L := r9_all_l4) rfl]
   simp (disch := first | assumption | omega | decide | (simp only [lens] <;> omega) | fail) only [go_sem]
   exact hQ
  ·have hb := h2.resolve_left hl
   rw [W_loop (L := r9_all_l4) rfl]
   simp (disch := first | assumption | omega | decide | (simp only [lens] <;> omega) | fail) only [go_sem,hb,ne_eq,not_true_eq_false]
   exact hQ
 | succ n ih =>
  intro i hi
  have hb := h1 i (by omega)
  rw [W_loop (L := r9_all_l4) rfl]
  simp (disch := first | assumption | omega | decide | (simp only [lens] <;> omega) | fail) only [go_sem]
  exact ih (i + 1) (by omega)
theorem run_no {p r : List UInt8} (hp : ∀ c ∈ p,special c = false) : ∀ j,j < p.length → byt (p ++ r) j ≠ 123 := by
 intro j hj h
 have h := (byt_eqG 123).1 h
 rw [List.getD_eq_getElem?_getD,List.getElem?_append_left hj,List.getElem?_eq_getElem hj] at h
 have h : p[j] = 123 := h
 have := hp _ (List.getElem_mem hj)
 rw [h] at this
 cases this
theorem joinC_count : ∀ {alts : List (List UInt8)},alts.length ≤ (joinC alts).length + 1
 | [] => by simp
 | a :: asX => by
  have ih := joinC_count (alts := asX)
  by_cases h : asX = []
  ·subst h; simp
  ·rw [joinC_cons h,List.length_append,List.length_cons,List.length_cons]; omega
theorem res_all {s : List UInt8} {out : List (List UInt8)} (h : Exp s out) : s.length ≤ 4096 → (out.length ≤ 512 → ∃ kk,res Γ 41 [.str s] = some [.sl kk 1 (strs out),.bool true]) ∧ (512 < out.length → res Γ 41 [.str s] = some [.sl .nil 1 [],.bool false]) := by
 induction h with
 | run p hp =>
  intro hs
  have n1 := run_no (r := []) hp
  rw [List.append_nil] at n1
  refine ⟨fun _ => ⟨.tight,?_⟩,fun h => by simp at h⟩
  refine res_code (fn := r9_all) rfl rfl ?_
  simp (disch := first | assumption | omega | decide | (simp only [lens] <;> omega) | fail) only [go_sem,r9_all]
  refine all_l4_ok (s := p) (by omega) (Nat.le_refl _) n1 (.inl rfl) ?_ p.length 0 (by omega)
  simp (disch := first | assumption | omega | decide | (simp only [lens] <;> omega) | fail) only [go_sem]
  rfl
 | grp p alts f u l0 hp ha0 hf hu ih ihu =>
  intro hs
  have hlen : (p ++ 123 :: (joinC alts ++ 125 :: u)).length = p.length + ((joinC alts).length + (u.length + 1) + 1) := by simp only [List.length_append,List.length_cons]
  have hd : (p ++ 123 :: (joinC alts ++ 125 :: u)).drop p.length = 123 :: (joinC alts ++ 125 :: u) := List.drop_left
  have htk : (p ++ 123 :: (joinC alts ++ 125 :: u)).take p.length = p := List.take_left
  have n1 := run_no (r := 123 :: (joinC alts ++ 125 :: u)) hp
  generalize p ++ 123 :: (joinC alts ++ 125 :: u) = s at *
  obtain ⟨k1,k2,k3⟩ := drop_head hd
  have hb := (byt_eqG (s := s) (i := p.length) 123).2 k2
  have ee := res_ends (s := s) (by omega) ha0 hf hd
  have hdu : s.drop (p.length + 1 + (joinC alts).length + 1) = u := by
   rw [← List.drop_drop,← List.drop_drop,k3,List.drop_left]
   rfl
  have hu0 := exp_pos hu
  have hul := exp_le hu
  obtain ⟨U1,U2⟩ := ihu (by omega)
  have ea : ∀ a ∈ alts,a.length ≤ 4096 := fun a h => by have := joinC_len h; omega
  have hC0 : 0 < (alts.flatMap f).length := by
   cases alts with
   | nil => exact absurd rfl ha0
   | cons a asX =>
    rw [List.flatMap_cons,List.length_append]
    have := exp_pos (hf a (by simp))
    omega
  have ehd : (((p.length + 1 + (joinC alts).length : Nat) : Int) + 1).toNat = p.length + 1 + (joinC alts).length + 1 := by omega
  have hal := @joinC_count alts
  rw [prodP_eq]
  by_cases hl0 : l0.length ≤ 512
  ·obtain ⟨kk,eu⟩ := U1 hl0
   have L3 := fun Q => all_l3_ok (k6 := .any) (k7 := kk) (s := s) (p := p) (by omega) htk (by omega) alts l0 (by omega) f hl0 hu0 (fun x h => by have := hul x h; omega) (fun a h => ih a h (ea a h)) (fun a h x hx => by have := exp_le (hf a h) x hx; have := ea a h; omega) (Q := Q) alts.length 0 [] (by omega) (by simp)
   rw [List.drop_zero,List.nil_append] at L3
   constructor
   ·intro ho
    refine ⟨.any,?_⟩
    refine res_code (fn := r9_all) rfl rfl ?_
    simp (disch := first | assumption | omega | decide | (simp only [lens] <;> omega) | fail) only [go_sem,r9_all]
    refine all_l4_ok (s := s) (by omega) (e := p.length) (by omega) n1 (.inr hb) ?_ p.length 0 (by omega)
    simp (disch := first | assumption | omega | decide | (simp only [lens] <;> omega) | fail) only [go_sem,ee,ehd,hdu,eu]
    refine L3 _ (fun _ => ?_) (fun h => by omega)
    simp (disch := first | assumption | omega | decide | (simp only [lens] <;> omega) | fail) only [go_sem]
   ·intro ho
    refine res_code (fn := r9_all) rfl rfl ?_
    simp (disch := first | assumption | omega | decide | (simp only [lens] <;> omega) | fail) only [go_sem,r9_all]
    refine all_l4_ok (s := s) (by omega) (e := p.length) (by omega) n1 (.inr hb) ?_ p.length 0 (by omega)
    simp (disch := first | assumption | omega | decide | (simp only [lens] <;> omega) | fail) only [go_sem,ee,ehd,hdu,eu]
    refine L3 _ (fun h => by omega) (fun _ H => ?_)
    simp (disch := first | assumption | omega | decide | (simp only [lens] <;> omega) | fail) only [go_sem]
  ·have eu := U2 (by omega)
   have : 512 < (prodP p (alts.flatMap f) l0).length := by
    rw [prodP_len]
    have := Nat.le_mul_of_pos_left l0.length hC0
    omega
   refine ⟨fun h => by omega,fun _ => ?_⟩
   refine res_code (fn := r9_all) rfl rfl ?_
   simp (disch := first | assumption | omega | decide | (simp only [lens] <;> omega) | fail) only [go_sem,r9_all]
   refine all_l4_ok (s := s) (by omega) (e := p.length) (by omega) n1 (.inr hb) ?_ p.length 0 (by omega)
   simp (disch := first | assumption | omega | decide | (simp only [lens] <;> omega) | fail) only [go_sem,ee,ehd,hdu,eu]
theorem rExp_l1_ok {k1 k2 : SK} (lo : List (List UInt8)) (b : Int) (l : List (List UInt8)) (hl : l.length ≤ 900000001) (hm : ∀ p ∈ l,p.length < 900000000) (Q : Out → Prop) : ∀ (n i : Nat),i + n = l.length →
  ((l.drop i).all (fun q => (toksF q).isSome) = false → Q (.ret,[(2,.p (.sl .nil 1 [])),(3,.p (.int .i64 8))],[])) →
  ((l.drop i).all (fun q => (toksF q).isSome) = true → Q (.nrm,[(4,.p (.sl k2 1 (strs lo))),(6,.p (.int .i64 b))],[])) →
  Wp Γ r9_Expand_l1 [(4,.p (.sl k2 1 (strs lo))),(6,.p (.int .i64 b)),(7,.p (.sl k1 1 (strs l))),(8,.p (.int .i64 (i : Int)))] [] (InBlk [4,6] 2 Q) := by
 intro n
 induction n with
 | zero =>
  intro i hi h1 h2
  obtain rfl : i = l.length := by omega
  rw [W_loop (L := r9_Expand_l1) rfl]
  simp (disch := first | assumption | omega | decide | (simp only [lens] <;> omega) | fail) only [go_sem]
  exact h2 (by rw [List.drop_length]; rfl)
 | succ n ih =>
  intro i hi h1 h2
  have hlt : i < l.length := by omega
  have hp := hm _ (getD_mem hlt)
  have e := res_r9simple _ hp
  rw [drop_all [] hlt] at h1 h2
  cases ht : (toksF (l.getD i [])).isSome
  ·rw [ht] at h1 e
   rw [W_loop (L := r9_Expand_l1) rfl]
   simp (disch := first | assumption | omega | decide | (simp only [lens] <;> omega) | fail) only [go_sem,e]
   exact h1 rfl
  ·rw [ht] at h1 h2 e
   rw [W_loop (L := r9_Expand_l1) rfl]
   simp (disch := first | assumption | omega | decide | (simp only [lens] <;> omega) | fail) only [go_sem,e]
   exact ih (i + 1) (by omega) h1 h2
theorem rExp_l2_ok {k2 : SK} (l : List (List UInt8)) (hl : l.length ≤ 512) (hm : ∀ p ∈ l,p.length < 900000000) (Q : Out → Prop) : ∀ (n i : Nat),i + n = l.length →
  ((l.drop i).all okE = false → Q (.ret,[(2,.p (.sl .nil 1 [])),(3,.p (.int .i64 8))],[])) →
  ((l.drop i).all okE = true → Q (.nrm,[(4,.p (.sl k2 1 (strs l)))],[])) →
  Wp Γ r9_Expand_l2 [(4,.p (.sl k2 1 (strs l))),(6,.p (.int .i64 (i : Int)))] [] (InBlk [4] 0 Q) := by
 intro n
 induction n with
 | zero =>
  intro i hi h1 h2
  obtain rfl : i = l.length := by omega
  rw [W_loop (L := r9_Expand_l2) rfl]
  simp (disch := first | assumption | omega | decide | (simp only [lens] <;> omega) | fail) only [go_sem]
  exact h2 (by rw [List.drop_length]; rfl)
 | succ n ih =>
  intro i hi h1 h2
  have hlt : i < l.length := by omega
  have hp := hm _ (getD_mem hlt)
  rw [drop_all [] hlt] at h1 h2
  unfold okE at h1 h2
  have hsl := splitB_len 46 (l.getD i [])
  have hsc := @count_le (l.getD i []) 46
  by_cases h0 : l.getD i [] = []
  ·rw [h0] at h1
   rw [W_loop (L := r9_Expand_l2) rfl]
   simp (disch := first | assumption | omega | decide | (simp only [lens] <;> omega) | fail) only [go_sem,h0]
   exact h1 rfl
  ·rw [decide_eq_true h0,Bool.true_and] at h1 h2
   rw [W_loop (L := r9_Expand_l2) rfl]
   simp (disch := first | assumption | omega | decide | (simp only [lens] <;> omega) | fail) only [go_sem]
   refine rExp_l1_ok (k1 := .any) _ _ (splitB 46 (l.getD i [])) (by omega) (fun p hp' => by have := splitB_mem_len hp'; omega) _ (splitB 46 (l.getD i [])).length 0 (by omega) (fun h => ?_) (fun h => ?_)
   ·rw [List.drop_zero] at h
    simp (disch := first | assumption | omega | decide | (simp only [lens] <;> omega) | fail) only [go_sem]
    exact h1 (by rw [h]; rfl)
   ·rw [List.drop_zero] at h
    rw [h,Bool.true_and] at h1 h2
    simp (disch := first | assumption | omega | decide | (simp only [lens] <;> omega) | fail) only [go_sem]
    exact ih (i + 1) (by omega) h1 h2
theorem res_r9Expand_no (s : List UInt8) (hs : s.length < 900000000) (h : 4096 < s.length ∨ scan 0 s = false) : res Γ 15 [.str s] = some [.sl .nil 1 [],.int .i64 8] := by
 have e := res_r9braces s hs
 refine res_code (fn := r9_Expand) rfl rfl ?_
 by_cases hl : 4096 < s.length
 ·simp (disch := first | assumption | omega | decide | (simp only [lens] <;> omega) | fail) only [go_sem,r9_Expand]
 ·have h := h.resolve_left hl
  rw [h] at e
  simp (disch := first | assumption | omega | decide | (simp only [lens] <;> omega) | fail) only [go_sem,r9_Expand,e]
def expandK (kk : SK) (out : List (List UInt8)) : List PV := if 512 < out.length then [.sl .nil 1 [],.int .i64 13] else if out.all okE = true then [.sl kk 1 (strs out),.int .i64 0] else [.sl .nil 1 [],.int .i64 8]
theorem res_r9Expand (s : List UInt8) (hs : s.length ≤ 4096) {out : List (List UInt8)} (h : Exp s out) : ∃ kk,res Γ 15 [.str s] = some (expandK kk out) := by
 have e := res_r9braces s (by omega)
 rw [scan_of_exp h] at e
 obtain ⟨A1,A2⟩ := res_all h hs
 have hle := exp_le h
 by_cases ho : 512 < out.length
 ·have e2 := A2 ho
  refine ⟨.any,?_⟩
  unfold expandK
  rw [if_pos ho]
  refine res_code (fn := r9_Expand) rfl rfl ?_
  simp (disch := first | assumption | omega | decide | (simp only [lens] <;> omega) | fail) only [go_sem,r9_Expand,e,e2]
 ·obtain ⟨kk,e2⟩ := A1 (by omega)
  refine ⟨kk,?_⟩
  unfold expandK
  rw [if_neg ho]
  refine res_code (fn := r9_Expand) rfl rfl ?_
  simp (disch := first | assumption | omega | decide | (simp only [lens] <;> omega) | fail) only [go_sem,r9_Expand,e,e2]
  refine rExp_l2_ok out (by omega) (fun p hp => by have := hle p hp; omega) _ out.length 0 (by omega) (fun h => ?_) (fun h => ?_)
  ·rw [List.drop_zero] at h
   rw [if_neg (by rw [h]; decide)]
   simp (disch := first | assumption | omega | decide | (simp only [lens] <;> omega) | fail) only [go_sem]
  ·rw [List.drop_zero] at h
   rw [if_pos h]
   simp (disch := first | assumption | omega | decide | (simp only [lens] <;> omega) | fail) only [go_sem]
end Ab
namespace Ab
open Go (IntKind BinOp UnOp)
abbrev HitB := List UInt8 × Bool
def hitM (K : List HitB) : List (PV × AV) := K.map fun h => (hitP h,.p (.bool true))
def addK (K : List HitB) (h : HitB) : List HitB := if h ∈ K then K else K ++ [h]
theorem mput_hit (K : List HitB) (h : HitB) : mputS [2,1] [.str h.1,.bool h.2] (.p (.bool true)) (hitM K) = some (hitM (addK K h)) := by
 induction K with
 | nil => simp [addK,hitM,mputS,hitP]
 | cons x r ih =>
  obtain ⟨s,l⟩ := h
  obtain ⟨s',l'⟩ := x
  have e0 : eqCells [2,1] [.str s,.bool l] [.str s',.bool l'] = some ((s == s') && ((l == l') && true)) := rfl
  simp only [hitM,List.map_cons,hitP,mputS,e0]
  by_cases he : (s,l) = (s',l')
  ·have h1 : s = s' := (Prod.mk.inj he).1
   have h2 : l = l' := (Prod.mk.inj he).2
   subst h1 h2
   simp [addK]
  ·have hb : ((s == s') && ((l == l') && true)) = false := by
    cases e1 : (s == s')
    ·rfl
    ·cases e2 : (l == l')
     ·rfl
     ·have h1 : s = s' := by simpa using e1
      have h2 : l = l' := by simpa using e2
      exact absurd (by rw [h1,h2]) he
   rw [hb]
   have ih : mputS [2,1] [.str s,.bool l] (.p (.bool true)) (List.map (fun h => (PV.agg [.str h.1,.bool h.2],AV.p (.bool true))) r) = some (hitM (addK r (s,l))) := ih
   simp only [ih,Option.map_some]
   unfold addK
   by_cases hm : (s,l) ∈ r
   ·have : (s,l) ∈ (s',l') :: r := List.mem_cons_of_mem _ hm
    simp only [if_pos hm,if_pos this,hitM,List.map_cons,hitP]
   ·have : (s,l) ∉ (s',l') :: r := fun h => by
     rcases List.mem_cons.1 h with h | h
     ·exact he h
     ·exact hm h
    simp only [if_neg hm,if_neg this,hitM,List.map_cons,List.cons_append,hitP]
noncomputable def wantB (w : Path) (d : Nat) (k : List UInt8) : Bool := decide (d < w.length) && matchB (w.getD d []) k
theorem resW_want {kk : SK} {H : Heap} {wb : Nat} (w : Path) (hw : H[wb]? = some (.box [.p (.sl kk 1 (strs w))])) (_hwl : w.length ≤ 1000) (hws : ∀ p ∈ w,p.length ≤ 10000) (d : Nat) (hd : d ≤ 1000) (k : List UInt8) (hk : k.length ≤ 10000) :
  resW Γ 411 [.p (.int .i64 (d : Int)),.p (.str k),.bx wb 0] H = some ([.p (.bool (wantB w d k))],H) := by
 unfold wantB
 by_cases hlt : d < w.length
 ·have hp : (w.getD d []).length ≤ 10000 := hws _ (by rw [List.getD_eq_getElem?_getD,List.getElem?_eq_getElem hlt]; exact List.getElem_mem hlt)
  have hm := res_globMatch (w.getD d []) k (by omega) (by omega)
  have e : decide (d < w.length) = true := decide_eq_true hlt
  refine resW_code (fn := trie_Trie_Find_1) rfl rfl ?_
  simp (disch := first | assumption | omega | decide | (simp only [lens] <;> omega) | fail) only [go_sem,trie_Trie_Find_1,hw,hm,e]
 ·have e : decide (d < w.length) = false := decide_eq_false hlt
  refine resW_code (fn := trie_Trie_Find_1) rfl rfl ?_
  simp (disch := first | assumption | omega | decide | (simp only [lens] <;> omega) | fail) only [go_sem,trie_Trie_Find_1,hw,e]
theorem msets_hit {H : Heap} {id : Nat} {K : List HitB} (h : H[id]? = some (.box (mapCells (hitM K)))) (s : List UInt8) (b : Bool) : msetsA H [2,1] (.mp id) (.p (.agg [.str s,.bool b])) (.p (.bool true)) = some (H.set id (.box (mapCells (hitM (addK K (s,b)))))) := by
 have e1 : eqCells [2,1] [.str s,.bool b] [.str s,.bool b] = some true := by simp [eqCells]
 have e2 : mapOf H id = some (hitM K) := by
  unfold mapOf
  rw [h]
  exact flatIn _
 have e3 := mput_hit K (s,b)
 simp only at e3
 simp only [msetsA,e1,ok_p,e2,Option.bind_some,e3,Option.map_some,beq_self_eq_true,Bool.and_self,ifB]
section
variable {kk : SK} {H : Heap} {wb sb sm b m id : Nat} {w q : Path} {K : List HitB} {lf : Bool} {es : List (PV × AV)}
def nodeK (K : List HitB) (s : List UInt8) (lf kids : Bool) : List HitB :=
 let K1 := if lf = true then addK K (s,true) else K
 if kids = true then addK K1 (s,false) else K1
theorem resW_meetShort (hw : H[wb]? = some (.box [.p (.sl kk 1 (strs w))])) (hr : H[id]? = some (.row false 1 (strs q))) (h : q.length < w.length) : resW Γ 412 [.own id q.length,.bx b 0,.bx wb 0,.bx sb 0] H = some ([],H) := by
 refine resW_code (fn := trie_Trie_Find_2) rfl rfl ?_
 simp (disch := first | assumption | omega | decide | (simp only [lens] <;> omega) | fail) only [go_sem,trie_Trie_Find_2,hw,hr]
theorem resW_meetHit (hw : H[wb]? = some (.box [.p (.sl kk 1 (strs w))])) (hr : H[id]? = some (.row false 1 (strs q))) (h : ¬ q.length < w.length) (h1 : q.length ≤ 20) (h2 : (joinB [46] q).length ≤ 1000)
  (hb : H[b]? = some (.box [.mp m,.p (.bool lf)])) (hm : H[m]? = some (.box (mapCells es))) (hs : H[sb]? = some (.box [.mp sm])) (hsm : H[sm]? = some (.box (mapCells (hitM K)))) (hne1 : sm ≠ b) (hne2 : sm ≠ m) (hne3 : sm ≠ sb) :
  resW Γ 412 [.own id q.length,.bx b 0,.bx wb 0,.bx sb 0] H = some ([],H.set sm (.box (mapCells (hitM (nodeK K (joinB [46] q) lf (!es.isEmpty)))))) := by
 have hj := res_nameJoin (kk := .any) q (by omega) (by omega)
 have hsml : sm < H.length := (List.getElem?_eq_some_iff.1 hsm).1
 have key : ∀ K',(H.set sm (.box (mapCells (hitM K'))))[sm]? = some (.box (mapCells (hitM K'))) ∧ (H.set sm (.box (mapCells (hitM K'))))[b]? = some (.box [.mp m,.p (.bool lf)]) ∧ (H.set sm (.box (mapCells (hitM K'))))[m]? = some (.box (mapCells es)) ∧ (H.set sm (.box (mapCells (hitM K'))))[sb]? = some (.box [.mp sm]) := fun K' =>
  ⟨List.getElem?_set_self hsml,by rw [List.getElem?_set_ne hne1]; exact hb,by rw [List.getElem?_set_ne hne2]; exact hm,by rw [List.getElem?_set_ne hne3]; exact hs⟩
 have m1 := fun b => msets_hit hsm (joinB [46] q) b
 cases lf with
 | true =>
  obtain ⟨k1,k2,k3,k4⟩ := key (addK K (joinB [46] q,true))
  cases es with
  | nil =>
   refine resW_code (fn := trie_Trie_Find_2) rfl rfl ?_
   simp (disch := first | assumption | omega | decide | (simp only [lens] <;> omega) | fail) only [go_sem,trie_Trie_Find_2,hw,hr,hj,hb,hs,m1,k2,k3]
   rfl
  | cons x r =>
   have m2 := msets_hit k1 (joinB [46] q) false
   refine resW_code (fn := trie_Trie_Find_2) rfl rfl ?_
   simp (disch := first | assumption | omega | decide | (simp only [lens] <;> omega) | fail) only [go_sem,trie_Trie_Find_2,hw,hr,hj,hb,hs,m1,k2,k3,k4,m2]
   rw [List.set_set]
   rfl
 | false =>
  cases es with
  | nil =>
   have e : H.set sm (.box (mapCells (hitM (nodeK K (joinB [46] q) false true.not)))) = H := by
    have e1 : nodeK K (joinB [46] q) false true.not = K := rfl
    rw [e1]
    apply List.ext_getElem?
    intro i
    by_cases hi : sm = i
    ·subst hi; rw [List.getElem?_set_self hsml,hsm]
    ·rw [List.getElem?_set_ne hi]
   refine resW_code (fn := trie_Trie_Find_2) rfl rfl ?_
   simp (disch := first | assumption | omega | decide | (simp only [lens] <;> omega) | fail) only [go_sem,trie_Trie_Find_2,hw,hr,hj,hb,hm]
   exact e.symm
  | cons x r =>
   refine resW_code (fn := trie_Trie_Find_2) rfl rfl ?_
   simp (disch := first | assumption | omega | decide | (simp only [lens] <;> omega) | fail) only [go_sem,trie_Trie_Find_2,hw,hr,hj,hb,hm,hs,m1]
   rfl
end
end Ab
namespace Ab
open Go (IntKind BinOp UnOp)
def hasKids (N : Tri) (q : Path) : Bool := match N q with | some nd => !nd.kids.isEmpty | none => false
def stF (N : Tri) (w : Path) (K : List HitB) (q : Path) : List HitB := if q.length < w.length then K else nodeK K (joinB [46] q) (leafAt N q) (hasKids N q)
structure FindJ (N : Tri) (r n wb sb sm : Nat) (w : Path) (B : Nat) (K : List HitB) (H : Heap) : Prop where
 lies : Lies H N r n
 base : ∀ i,Foot N i → i < B
 map : B ≤ sm
 want : H[wb]? = some (.box [.p (.sl .any 1 (strs w))])
 box : H[sb]? = some (.box [.mp sm])
 seen : H[sm]? = some (.box (mapCells (hitM K)))
theorem isEmpty_kids (l : List (List UInt8 × Nat)) : (kidsM l).isEmpty = l.isEmpty := by cases l <;> rfl
theorem goes_find {N : Tri} (ht : Tiny N) (r n wb sb sm : Nat) (w : Path) (B : Nat) (hwl : w.length ≤ 1000) (hws : ∀ p ∈ w,p.length ≤ 10000) : Goes Γ N 411 412 [.bx wb 0] [.bx wb 0,.bx sb 0] (wantB w) (stF N w) (FindJ N r n wb sb sm w B) (fun _ i => i = sm) (fun _ => 0) 1000000 where
 lies s H h := ⟨r,n,h.lies⟩
 ext s H H' h hx := by
  have k : ∀ i b,H[i]? = some b → H'[i]? = some b := fun i b hb => (hx.2 i (List.getElem?_eq_some_iff.1 hb).1).trans hb
  exact ⟨⟨h.lies.keep fun i hi => hx.2 i (h.lies.foot_lt hi),h.base,h.map,k _ _ h.want,k _ _ h.box,k _ _ h.seen⟩,fun _ h => h⟩
 lt s H i h ho := by
  subst ho
  exact (List.getElem?_eq_some_iff.1 h.seen).1
 wants s H q k nd h hN := by
  have h1 := (ht.deep _ nd hN).1
  obtain ⟨nd0,h2,h3⟩ := h.lies.up q k nd hN
  have h4 := (ht.kids q nd0 h2).2 _ h3
  simp only at h4
  exact ⟨H,resW_want w h.want hwl hws q.length (by simp at h1; omega) k (by omega),.refl _⟩
 grow s q := by omega
 still := ⟨rfl,rfl⟩
 small := ht.kids
 meets s H q nd id h _ hq hN hrow := by
  obtain ⟨d1,d2⟩ := ht.deep q nd hN
  have hb := h.lies.box q nd hN
  have hm := h.lies.map q nd hN
  rw [mark_b hq] at hb
  by_cases hlt : q.length < w.length
  ·refine ⟨H,resW_meetShort h.want hrow hlt,?_,Nat.le_refl _,fun i _ ho => ⟨rfl,ho⟩⟩
   rw [stF,if_pos hlt]
   exact h
  ·have hsml : sm < H.length := (List.getElem?_eq_some_iff.1 h.seen).1
   have f1 := h.base _ ⟨q,nd,hN,.inl rfl⟩
   have f2 := h.base _ ⟨q,nd,hN,.inr rfl⟩
   have hB := h.map
   have hne3 : sm ≠ sb := fun e => by have := h.seen; rw [e,h.box] at this; simp [mapCells] at this
   have hne4 : sm ≠ wb := fun e => by have := h.seen; rw [e,h.want] at this; simp [mapCells] at this
   refine ⟨_,resW_meetHit h.want hrow hlt d1 d2 hb hm h.box h.seen (by omega) (by omega) hne3,?_,by simp,fun i _ ho => ⟨List.getElem?_set_ne (fun e => ho e.symm),ho⟩⟩
   have e : stF N w s q = nodeK s (joinB [46] q) nd.leaf (!(kidsM nd.kids).isEmpty) := by
    rw [stF,if_neg hlt,leafAt_some hN,isEmpty_kids]
    simp only [hasKids,hN]
   rw [e]
   exact ⟨h.lies.keep fun i hi => List.getElem?_set_ne (fun e => by have := h.base i hi; omega),h.base,h.map,by rw [List.getElem?_set_ne hne4]; exact h.want,by rw [List.getElem?_set_ne hne3]; exact h.box,List.getElem?_set_self hsml⟩
def wantsP (l : List Path) : List PV := l.map fun w => .sl .any 1 (strs w)
theorem wantsP_len {l : List Path} : (wantsP l).length = l.length := by simp [wantsP]
theorem wantsP_get {l : List Path} {i : Nat} (h : i < l.length) : (wantsP l)[i]? = some (.sl .any 1 (strs (l.getD i []))) := by simp [wantsP,List.getElem?_eq_getElem h]
noncomputable def findK (N : Tri) (ws : List Path) (K : List HitB) : List HitB := ws.foldl (fun K w => (vis N (wantB w) 21 []).foldl (stF N w) K) K
structure FindS (N : Tri) (r n al sb sm : Nat) (ws : List Path) (B : Nat) (H0 : Heap) (K : List HitB) (H : Heap) : Prop where
 lies : Lies H N r n
 base : ∀ i,Foot N i → i < B
 map : B ≤ sm
 all : H[al]? = some (.row false 1 (wantsP ws))
 box : H[sb]? = some (.box [.mp sm])
 seen : H[sm]? = some (.box (mapCells (hitM K)))
 old : ∀ i,i < B → H[i]? = H0[i]?
 len : B ≤ H.length
section
variable {N : Tri} {r n al sb sm : Nat} {ws : List Path} {B : Nat} {H0 : Heap}
theorem FindS.go (ht : Tiny N) (hv : ∀ w,(vis N (wantB w) 21 []).length ≤ 100000) {K : List HitB} {H : Heap} (h : FindS N r n al sb sm ws B H0 K H) (w : Path) (hwl : w.length ≤ 1000) (hws : ∀ p ∈ w,p.length ≤ 10000) :
  ∃ H',resW Γ 413 [.bx r 0,.p (.sl .nil 1 []),.p (.int .i64 0),.clo 411 [.bx H.length 0],.clo 412 [.bx H.length 0,.bx sb 0]] (H ++ [.box [.p (.sl .any 1 (strs w))]]) = some ([],H') ∧ FindS N r n al sb sm ws B H0 ((vis N (wantB w) 21 []).foldl (stF N w) K) H' := by
 obtain ⟨nd,h1,rfl⟩ := h.lies.root
 have k : ∀ i b,H[i]? = some b → (H ++ [Blk.box [AV.p (.sl .any 1 (strs w))]])[i]? = some b := fun i b hb => (List.getElem?_append_left (List.getElem?_eq_some_iff.1 hb).1).trans hb
 have hJ : FindJ N nd.b n H.length sb sm w B K (H ++ [Blk.box [AV.p (.sl .any 1 (strs w))]]) :=
  ⟨h.lies.keep fun i hi => List.getElem?_append_left (h.lies.foot_lt hi),h.base,h.map,by simp,k _ _ h.box,k _ _ h.seen⟩
 obtain ⟨H',hw,hJ',hA⟩ := walk_ok (goes_find ht nd.b n H.length sb sm w B hwl hws) (wv := .clo 411 [.bx H.length 0]) (mv := .clo 412 [.bx H.length 0,.bx sb 0]) rfl rfl 21 [] nd (.p (.sl .nil 1 [])) K _ h1 (fun t nd' hn => by
  have := (ht.deep t nd' (by simpa using hn)).1
  omega) (by decide) (by have := hv w; omega) hJ (.inl ⟨rfl,rfl⟩)
 have e0 : ((List.length ([] : Path) : Nat) : Int) = 0 := rfl
 rw [e0] at hw
 have hal : al ≠ sm := fun e => by have := h.all; rw [e,h.seen] at this; cases this
 refine ⟨H',hw,hJ'.lies,h.base,h.map,?_,hJ'.box,hJ'.seen,fun i hi => ?_,by have := hA.1; have := h.len; simp at *; omega⟩
 ·rw [(hA.2 al (List.getElem?_eq_some_iff.1 (k _ _ h.all)).1 hal).1]
  exact k _ _ h.all
 ·have hB := h.map
  have hlen := h.len
  rw [(hA.2 i (by simp; omega) (by omega)).1,List.getElem?_append_left (by omega)]
  exact h.old i hi
theorem find_l1_go (ht : Tiny N) (hv : ∀ w,(vis N (wantB w) 21 []).length ≤ 100000) (hl : ws.length ≤ 1000) (hw1 : ∀ w ∈ ws,w.length ≤ 1000 ∧ ∀ p ∈ w,p.length ≤ 10000) (K0 : List HitB) (Q : Out → Prop) (hQ : ∀ e H',look e 13 = .bx sb 0 → FindS N r n al sb sm ws B H0 (findK N ws K0) H' → Q (.ex 2,e,H')) :
  ∀ (f i : Nat) (K : List HitB) (H : Heap),i + f = ws.length → FindS N r n al sb sm ws B H0 K H → findK N (ws.drop i) K = findK N ws K0 →
  Wp Γ trie_Trie_Find_l1 [(0,.bx r 0),(13,.bx sb 0),(46,.own al ws.length),(47,.p (.int .i64 (ws.length : Int))),(48,.p (.int .i64 (i : Int)))] H Q := by
 intro f
 induction f with
 | zero =>
  intro i K H hi hS hf
  have hi : i = ws.length := by omega
  subst hi
  rw [List.drop_length] at hf
  have hf : K = findK N ws K0 := hf
  subst hf
  rw [W_loop (L := trie_Trie_Find_l1) rfl]
  simp (disch := first | assumption | omega | decide | (simp only [lens] <;> omega) | fail) only [go_sem,trie_Trie_Find_l1]
  exact hQ _ _ rfl hS
 | succ f ih =>
  intro i K H hi hS hf
  have hlt : i < ws.length := by omega
  have hdrop : ws.drop i = ws.getD i [] :: ws.drop (i + 1) := by
   rw [List.drop_eq_getElem_cons hlt,List.getD_eq_getElem?_getD,List.getElem?_eq_getElem hlt]; rfl
  obtain ⟨hwl,hws⟩ := hw1 (ws.getD i []) (by rw [List.getD_eq_getElem?_getD,List.getElem?_eq_getElem hlt]; exact List.getElem_mem hlt)
  rw [hdrop] at hf
  obtain ⟨H',h1,h2⟩ := hS.go ht hv (ws.getD i []) hwl hws
  have ih := ih (i + 1) _ H' (by omega) h2 hf
  have hrow := hS.all
  have hel : loadA H 1 false (.el al ws.length i 0) = some (.p (.sl .any 1 (strs (ws.getD i [])))) := by
   simp only [loadA,rowOf_eq,hrow,rowAt_pos wantsP_len,Option.bind_some,wantsP_get hlt,PV.cells,List.drop_zero,takeP_one]
  have hia : iaddrA H 1 (.own al ws.length) (.p (.int .i64 (i : Int))) = some (.el al ws.length i 0) := iaddr_own hrow wantsP_len (by omega) (by omega)
  rw [iaddr_K,hrow] at hia
  rw [load_K,hrow] at hel
  rw [W_loop (L := trie_Trie_Find_l1) rfl]
  simp (disch := first | assumption | omega | decide | (simp only [lens] <;> omega) | fail) only [go_sem,trie_Trie_Find_l1,hrow,hia,hel,at_last,set_last,still413,h1]
  exact ih
end
noncomputable def patOk (p : List UInt8) : Bool := (splitB 46 p).all partOk && decide ((splitB 46 p).length ≤ 20)
theorem partsR_ok {p : List UInt8} (h : patOk p = true) : partsR p = [.sl .any 1 (strs (splitB 46 p)),.int .i64 0] := by
 simp only [patOk,Bool.and_eq_true,decide_eq_true_eq] at h
 exact if_pos h
theorem partsR_no {p : List UInt8} (h : patOk p = false) : partsR p = [.sl .nil 1 [],.int .i64 8] := by
 refine if_neg fun hh => ?_
 have : patOk p = true := by simp only [patOk,Bool.and_eq_true,decide_eq_true_eq]; exact hh
 rw [this] at h; cases h
theorem find_l2_ok {kk : SK} {t : AV} (pats : List (List UInt8)) (hl : pats.length ≤ 1000) (hp : ∀ p ∈ pats,p.length ≤ 100000) (H0 : Heap) (Q : Out → Prop)
  (hQ1 : (∀ p ∈ pats,patOk p = true) → ∀ e,look e 0 = t → look e 8 = .own H0.length pats.length → Q (.ex 0,e,H0 ++ [.row false 1 (wantsP (pats.map prt))]))
  (hQ2 : (¬ ∀ p ∈ pats,patOk p = true) → ∀ e b,look e 4 = .p (.sl .nil 2 []) → look e 5 = .p (.int .i64 8) → Q (.ret,e,H0 ++ [b])) :
  ∀ (f i : Nat),i + f = pats.length → (∀ p ∈ pats.take i,patOk p = true) →
  Wp Γ trie_Trie_Find_l2 [(0,t),(8,.own H0.length i),(24,.p (.sl kk 1 (strs pats))),(25,.p (.int .i64 (pats.length : Int))),(26,.p (.int .i64 (i : Int)))] (H0 ++ [.row false 1 (wantsP ((pats.take i).map prt))]) Q := by
 intro f
 induction f with
 | zero =>
  intro i hi hok
  have hi : i = pats.length := by omega
  subst hi
  rw [List.take_length] at hok ⊢
  rw [W_loop (L := trie_Trie_Find_l2) rfl]
  simp (disch := first | assumption | omega | decide | (simp only [lens] <;> omega) | fail) only [go_sem,trie_Trie_Find_l2]
  exact hQ1 hok _ rfl rfl
 | succ f ih =>
  intro i hi hok
  have hlt : i < pats.length := by omega
  have ht : pats.take (i + 1) = pats.take i ++ [pats.getD i []] := by
   rw [List.take_add_one,List.getD_eq_getElem?_getD,List.getElem?_eq_getElem hlt]; rfl
  have hmem : pats.getD i [] ∈ pats := by rw [List.getD_eq_getElem?_getD,List.getElem?_eq_getElem hlt]; exact List.getElem_mem hlt
  have hpl := hp _ hmem
  have hres := res_globParts (pats.getD i []) (by omega)
  cases hk : patOk (pats.getD i []) with
  | true =>
   rw [partsR_ok hk] at hres
   have ih := ih (i + 1) (by omega) (fun p hp => by
    rw [ht] at hp
    rcases List.mem_append.1 hp with hp | hp
    ·exact hok p hp
    ·simp only [List.mem_singleton] at hp
     subst hp; exact hk)
   have hlen : (wantsP ((pats.take i).map prt)).length = i := by rw [wantsP_len,List.length_map,List.length_take]; omega
   have happ : appK (H0 ++ [.row false 1 (wantsP ((pats.take i).map prt))]) (some (.row false 1 (wantsP ((pats.take i).map prt)))) 1 H0.length i [.sl .any 1 (strs (splitB 46 (pats.getD i [])))] =
     some (.own H0.length (i + 1),H0 ++ [.row false 1 (wantsP ((pats.take (i + 1)).map prt))]) := by
    rw [appK_pos hlen (by rw [hlen]; simp only [List.length_cons,List.length_nil]; omega),set_last rfl,ht]
    simp [wantsP]
   rw [W_loop (L := trie_Trie_Find_l2) rfl]
   simp (disch := first | assumption | omega | decide | (simp only [lens] <;> omega) | fail) only [go_sem,trie_Trie_Find_l2,hres,at_last,happ]
   exact ih
  | false =>
   rw [partsR_no hk] at hres
   rw [W_loop (L := trie_Trie_Find_l2) rfl]
   simp (disch := first | assumption | omega | decide | (simp only [lens] <;> omega) | fail) only [go_sem,trie_Trie_Find_l2,hres]
   exact hQ2 (fun h => by rw [h _ hmem] at hk; cases hk) _ _ rfl rfl
end Ab
