import Derived.Test.YtieagbclljmnlaaGreatDoorLGlob4
namespace Ab
open Go (IntKind BinOp UnOp)
def okC : List UInt8 → Bool
 | a :: b :: c :: r => if b = 45 then (if c < a then false else okC r) else okC (b :: c :: r)
 | _ => true
theorem classF_ok : ∀ {l : List UInt8} {acc : List Bool},(classF l acc).isSome = okC l
 | [],_ => rfl
 | [a],_ => rfl
 | [a,b],_ => rfl
 | a :: b :: c :: r,acc => by
  rw [classF_3,okC]
  split
  ·split
   ·rfl
   ·exact classF_ok
  ·exact classF_ok
theorem drop3e {s : List UInt8} {i e : Nat} (h : i + 2 < e) (he : e ≤ s.length) : (s.take e).drop i = s.getD i 0 :: s.getD (i + 1) 0 :: s.getD (i + 2) 0 :: (s.take e).drop (i + 3) := by
 rw [drop3 (by rw [List.length_take]; omega)]
 have g : ∀ j,j < e → (s.take e).getD j 0 = s.getD j 0 := fun j hj => by
  rw [List.getD_eq_getElem?_getD,List.getElem?_take,if_pos hj,List.getD_eq_getElem?_getD]
 rw [g i (by omega),g (i + 1) (by omega),g (i + 2) (by omega)]
theorem drop1e {s : List UInt8} {i e : Nat} (h : i < e) (he : e ≤ s.length) : (s.take e).drop i = s.getD i 0 :: (s.take e).drop (i + 1) := by
 rw [drop1 (by rw [List.length_take]; omega)]
 rw [List.getD_eq_getElem?_getD,List.getElem?_take,if_pos h,List.getD_eq_getElem?_getD]
theorem okC_short {a : UInt8} {r : List UInt8} (h : r.length < 2) : okC (a :: r) = okC r := by
 match r,h with
 | [],_ => rfl
 | [b],_ => rfl
theorem r9_class_l1_ok (s : List UInt8) (e : Nat) (he : e ≤ s.length) (hs : s.length < 900000000) (Q : Out → Prop) : ∀ (n i : Nat),e ≤ i + n → i ≤ e →
  (okC ((s.take e).drop i) = false → Q (.ret,[(4,.p (.int .i64 (-1)))],[])) → (okC ((s.take e).drop i) = true → Q (.nrm,[(5,.p (.int .i64 (e : Int)))],[])) →
  Wp Γ r9_class_l1 [(0,.p (.str s)),(5,.p (.int .i64 (e : Int))),(6,.p (.int .i64 (i : Int)))] [] (InBlk [5] 2 Q) := by
 intro n
 induction n with
 | zero =>
  intro i hn hi h1 h2
  obtain rfl : i = e := by omega
  rw [W_loop (L := r9_class_l1) rfl]
  simp (disch := first | assumption | omega | decide | (simp only [lens] <;> omega) | fail) only [go_sem]
  exact h2 (by rw [List.drop_eq_nil_of_le (by rw [List.length_take]; omega)]; rfl)
 | succ n ih =>
  intro i hn hi h1 h2
  by_cases hlt : i < e
  ·have b0 := @byt_nonneg s i
   by_cases h3 : i + 2 < e
   ·rw [drop3e h3 he,okC] at h1 h2
    by_cases h45 : byt s (i + 1) = 45
    ·have e45 : s.getD (i + 1) 0 = 45 := (byt_eqG 45).1 h45
     rw [if_pos e45] at h1 h2
     by_cases hc : byt s (i + 2) < byt s i
     ·rw [if_pos (byt_lt_iff.1 hc)] at h1
      rw [W_loop (L := r9_class_l1) rfl]
      simp (disch := first | assumption | omega | decide | (simp only [lens] <;> omega) | fail) only [go_sem,tn1,tn2]
      exact h1 rfl
     ·rw [if_neg (fun h => hc (byt_lt_iff.2 h))] at h1 h2
      rw [W_loop (L := r9_class_l1) rfl]
      simp (disch := first | assumption | omega | decide | (simp only [lens] <;> omega) | fail) only [go_sem,tn1,tn2]
      exact ih (i + 3) (by omega) (by omega) h1 h2
    ·have e45 : ¬ s.getD (i + 1) 0 = 45 := fun h => h45 ((byt_eqG 45).2 h)
     rw [if_neg e45] at h1 h2
     have ed : s.getD (i + 1) 0 :: s.getD (i + 2) 0 :: (s.take e).drop (i + 3) = (s.take e).drop (i + 1) := by
      have := drop3e h3 he
      rw [drop1e hlt he] at this
      exact (List.cons.inj this).2.symm
     rw [ed] at h1 h2
     rw [W_loop (L := r9_class_l1) rfl]
     simp (disch := first | assumption | omega | decide | (simp only [lens] <;> omega) | fail) only [go_sem,tn1]
     exact ih (i + 1) (by omega) (by omega) h1 h2
   ·rw [drop1e hlt he,okC_short (by rw [List.length_drop,List.length_take]; omega)] at h1 h2
    rw [W_loop (L := r9_class_l1) rfl]
    simp (disch := first | assumption | omega | decide | (simp only [lens] <;> omega) | fail) only [go_sem]
    exact ih (i + 1) (by omega) (by omega) h1 h2
  ·obtain rfl : i = e := by omega
   rw [W_loop (L := r9_class_l1) rfl]
   simp (disch := first | assumption | omega | decide | (simp only [lens] <;> omega) | fail) only [go_sem]
   exact h2 (by rw [List.drop_eq_nil_of_le (by rw [List.length_take]; omega)]; rfl)
def endAt (s : List UInt8) (i : Nat) (c : UInt8) : Nat := if ixB (s.drop i) c < 0 then s.length else i + (ixB (s.drop i) c).toNat
theorem ixB_cons {b c : UInt8} {l : List UInt8} : ixB (b :: l) c = if b = c then 0 else if ixB l c = -1 then -1 else ixB l c + 1 := by
 simp only [ixB,beq_iff_eq]
theorem endAt_hit {s : List UInt8} {i : Nat} {c : UInt8} (h : i < s.length) (hc : s.getD i 0 = c) : endAt s i c = i := by
 unfold endAt
 rw [drop1 h,ixB_cons,if_pos hc]
 rfl
theorem endAt_miss {s : List UInt8} {i : Nat} {c : UInt8} (h : i < s.length) (hc : s.getD i 0 ≠ c) : endAt s i c = endAt s (i + 1) c := by
 unfold endAt
 rw [drop1 h,ixB_cons,if_neg hc]
 have := @ixB_nn (s.drop (i + 1)) c
 by_cases hx : ixB (s.drop (i + 1)) c = -1
 ·rw [if_pos hx,if_pos (by omega),if_pos (by omega)]
 ·rw [if_neg hx,if_neg (by omega),if_neg (by omega)]; omega
theorem endAt_le {s : List UInt8} {i : Nat} {c : UInt8} (h : i ≤ s.length) : i ≤ endAt s i c ∧ endAt s i c ≤ s.length := by
 unfold endAt
 have := @ixB_nn (s.drop i) c
 rw [List.length_drop] at this
 split <;> omega
theorem r9_class_l2_ok (s : List UInt8) (at_ : Nat) (hs : s.length < 900000000) (Q : Out → Prop) : ∀ (n i : Nat),s.length ≤ i + n → i ≤ s.length →
  Q (.nrm,[(0,.p (.str s)),(1,.p (.int .i64 (at_ : Int))),(5,.p (.int .i64 (endAt s i 93 : Int)))],[]) →
  Wp Γ r9_class_l2 [(0,.p (.str s)),(1,.p (.int .i64 (at_ : Int))),(5,.p (.int .i64 (i : Int)))] [] (InBlk [0,1,5] 0 Q) := by
 have e0 : endAt s s.length 93 = s.length := by
  unfold endAt
  rw [List.drop_length]
  rfl
 intro n
 induction n with
 | zero =>
  intro i hn hi h1
  obtain rfl : i = s.length := by omega
  rw [e0] at h1
  rw [W_loop (L := r9_class_l2) rfl]
  simp (disch := first | assumption | omega | decide | (simp only [lens] <;> omega) | fail) only [go_sem]
  exact h1
 | succ n ih =>
  intro i hn hi h1
  by_cases hlt : i < s.length
  ·by_cases hb : byt s i = 93
   ·rw [endAt_hit hlt ((byt_eqG 93).1 hb)] at h1
    rw [W_loop (L := r9_class_l2) rfl]
    simp (disch := first | assumption | omega | decide | (simp only [lens] <;> omega) | fail) only [go_sem,hb,ne_eq,not_true_eq_false]
    exact h1
   ·rw [endAt_miss hlt (byt_ne (b := 93) hb)] at h1
    rw [W_loop (L := r9_class_l2) rfl]
    simp (disch := first | assumption | omega | decide | (simp only [lens] <;> omega) | fail) only [go_sem]
    exact ih (i + 1) (by omega) (by omega) h1
  ·obtain rfl : i = s.length := by omega
   rw [e0] at h1
   rw [W_loop (L := r9_class_l2) rfl]
   simp (disch := first | assumption | omega | decide | (simp only [lens] <;> omega) | fail) only [go_sem]
   exact h1
def classE (s : List UInt8) (i : Nat) : Int := if s.length ≤ endAt s (i + 1) 93 then -1 else if endAt s (i + 1) 93 = i + 1 then -1 else if okC ((s.take (endAt s (i + 1) 93)).drop (i + 1)) = true then (endAt s (i + 1) 93 : Int) else -1
theorem res_r9class (s : List UInt8) (hs : s.length < 900000000) (i : Nat) (hi : i < s.length) : res Γ 58 [.str s,.int .i64 (i : Int)] = some [.int .i64 (classE s i)] := by
 have he := endAt_le (s := s) (i := i + 1) (c := 93) (by omega)
 refine res_code (fn := r9_class) rfl rfl ?_
 simp (disch := first | assumption | omega | decide | (simp only [lens] <;> omega) | fail) only [go_sem,r9_class]
 refine r9_class_l2_ok s i hs _ s.length (i + 1) (by omega) (by omega) ?_
 unfold classE
 generalize endAt s (i + 1) 93 = e at *
 by_cases h1 : s.length ≤ e
 ·rw [if_pos h1]
  simp (disch := first | assumption | omega | decide | (simp only [lens] <;> omega) | fail) only [go_sem]
 ·rw [if_neg h1]
  by_cases h2 : e = i + 1
  ·rw [if_pos h2]
   subst h2
   simp (disch := first | assumption | omega | decide | (simp only [lens] <;> omega) | fail) only [go_sem]
  ·rw [if_neg h2]
   simp (disch := first | assumption | omega | decide | (simp only [lens] <;> omega) | fail) only [go_sem]
   refine r9_class_l1_ok s e he.2 hs _ e (i + 1) (by omega) (by omega) (fun h => ?_) (fun h => ?_)
   ·simp (disch := first | assumption | omega | decide | (simp only [lens] <;> omega) | fail) only [go_sem,h]
   ·simp (disch := first | assumption | omega | decide | (simp only [lens] <;> omega) | fail) only [go_sem,h]
theorem inF_3 {a b c x : UInt8} {r : List UInt8} : inF (a :: b :: c :: r) x = if b = 45 then ((decide (a ≤ x) && decide (x ≤ c)) || inF r x) else (a == x || inF (b :: c :: r) x) := by
 rw [inF]
theorem inF_short {a x : UInt8} {r : List UInt8} (h : r.length < 2) : inF (a :: r) x = (a == x || inF r x) := by
 match r,h with
 | [],_ => simp [inF]
 | [b],_ => simp [inF]
theorem r9_in_l1_ok (s : List UInt8) (e : Nat) (he : e ≤ s.length) (hs : s.length < 900000000) (c : UInt8) (Q : Out → Prop) : ∀ (n i : Nat),e ≤ i + n → i ≤ e →
  (inF ((s.take e).drop i) c = true → Q (.ret,[(8,.p (.bool true))],[])) → (inF ((s.take e).drop i) c = false → Q (.nrm,[],[])) →
  Wp Γ r9_in_l1 [(0,.p (.str s)),(2,.p (.int .i64 (e : Int))),(3,.p (.int .u8 (c.toNat : Int))),(9,.p (.int .i64 (i : Int)))] [] (InBlk [] 0 Q) := by
 have done : ∀ i,¬ i < e → inF ((s.take e).drop i) c = false := fun i hi => by
  rw [List.drop_eq_nil_of_le (by rw [List.length_take]; omega)]; rfl
 have eqi : ∀ i,(s.getD i 0 == c) = true ↔ byt s i = (c.toNat : Int) := fun i => by
  rw [byt_eqG,beq_iff_eq]
 have lei : ∀ i,s.getD i 0 ≤ c ↔ byt s i ≤ (c.toNat : Int) := fun i => by
  rw [UInt8.le_iff_toNat_le]; unfold byt; omega
 have gei : ∀ i,c ≤ s.getD i 0 ↔ (c.toNat : Int) ≤ byt s i := fun i => by
  rw [UInt8.le_iff_toNat_le]; unfold byt; omega
 have hcl := c.toNat_lt
 intro n
 induction n with
 | zero =>
  intro i hn hi h1 h2
  obtain rfl : i = e := by omega
  rw [W_loop (L := r9_in_l1) rfl]
  simp (disch := first | assumption | omega | decide | (simp only [lens] <;> omega) | fail) only [go_sem]
  exact h2 (done _ (by omega))
 | succ n ih =>
  intro i hn hi h1 h2
  by_cases hlt : i < e
  ·have b0 := @byt_nonneg s i
   have one : inF ((s.take e).drop i) c = (s.getD i 0 == c || inF ((s.take e).drop (i + 1)) c) → ¬ (i + 2 < e ∧ byt s (i + 1) = 45) → Wp Γ r9_in_l1 [(0,.p (.str s)),(2,.p (.int .i64 (e : Int))),(3,.p (.int .u8 (c.toNat : Int))),(9,.p (.int .i64 (i : Int)))] [] (InBlk [] 0 Q) := by
    intro ho hno
    rw [ho] at h1 h2
    by_cases hb : byt s i = (c.toNat : Int)
    ·rw [(eqi i).2 hb] at h1
     by_cases h3 : i + 2 < e
     ·have h45 : ¬ byt s (i + 1) = 45 := fun h => hno ⟨h3,h⟩
      rw [W_loop (L := r9_in_l1) rfl]
      simp (disch := first | assumption | omega | decide | (simp only [lens] <;> omega) | fail) only [go_sem,tn1]
      exact h1 rfl
     ·rw [W_loop (L := r9_in_l1) rfl]
      simp (disch := first | assumption | omega | decide | (simp only [lens] <;> omega) | fail) only [go_sem]
      exact h1 rfl
    ·have hb' : (s.getD i 0 == c) = false := by
      cases h : (s.getD i 0 == c)
      ·rfl
      ·exact absurd ((eqi i).1 h) hb
     rw [hb',Bool.false_or] at h1 h2
     by_cases h3 : i + 2 < e
     ·have h45 : ¬ byt s (i + 1) = 45 := fun h => hno ⟨h3,h⟩
      rw [W_loop (L := r9_in_l1) rfl]
      simp (disch := first | assumption | omega | decide | (simp only [lens] <;> omega) | fail) only [go_sem,tn1]
      exact ih (i + 1) (by omega) (by omega) h1 h2
     ·rw [W_loop (L := r9_in_l1) rfl]
      simp (disch := first | assumption | omega | decide | (simp only [lens] <;> omega) | fail) only [go_sem]
      exact ih (i + 1) (by omega) (by omega) h1 h2
   by_cases h3 : i + 2 < e
   ·by_cases h45 : byt s (i + 1) = 45
    ·have e45 : s.getD (i + 1) 0 = 45 := (byt_eqG 45).1 h45
     rw [drop3e h3 he,inF_3,if_pos e45] at h1 h2
     by_cases hx : byt s i ≤ (c.toNat : Int)
     ·rw [decide_eq_true ((lei i).2 hx),Bool.true_and] at h1 h2
      by_cases hy : (c.toNat : Int) ≤ byt s (i + 2)
      ·rw [decide_eq_true ((gei (i + 2)).2 hy),Bool.true_or] at h1
       rw [W_loop (L := r9_in_l1) rfl]
       simp (disch := first | assumption | omega | decide | (simp only [lens] <;> omega) | fail) only [go_sem,tn1,tn2]
       exact h1 rfl
      ·rw [decide_eq_false (fun h => hy ((gei (i + 2)).1 h)),Bool.false_or] at h1 h2
       rw [W_loop (L := r9_in_l1) rfl]
       simp (disch := first | assumption | omega | decide | (simp only [lens] <;> omega) | fail) only [go_sem,tn1,tn2]
       exact ih (i + 3) (by omega) (by omega) h1 h2
     ·rw [decide_eq_false (fun h => hx ((lei i).1 h)),Bool.false_and,Bool.false_or] at h1 h2
      rw [W_loop (L := r9_in_l1) rfl]
      simp (disch := first | assumption | omega | decide | (simp only [lens] <;> omega) | fail) only [go_sem,tn1]
      exact ih (i + 3) (by omega) (by omega) h1 h2
    ·have e45 : ¬ s.getD (i + 1) 0 = 45 := fun h => h45 ((byt_eqG 45).2 h)
     refine one ?_ (fun h => h45 h.2)
     have ed : s.getD (i + 1) 0 :: s.getD (i + 2) 0 :: (s.take e).drop (i + 3) = (s.take e).drop (i + 1) := by
      have := drop3e h3 he
      rw [drop1e hlt he] at this
      exact (List.cons.inj this).2.symm
     rw [drop3e h3 he,inF_3,if_neg e45,ed]
   ·refine one ?_ (fun h => h3 h.1)
    rw [drop1e hlt he,inF_short (by rw [List.length_drop,List.length_take]; omega)]
  ·rw [W_loop (L := r9_in_l1) rfl]
   simp (disch := first | assumption | omega | decide | (simp only [lens] <;> omega) | fail) only [go_sem]
   exact h2 (done i hlt)
theorem res_r9in (s : List UInt8) (e : Nat) (he : e ≤ s.length) (hs : s.length < 900000000) (c : UInt8) (i : Nat) (hi : i < e) : res Γ 59 [.str s,.int .i64 (i : Int),.int .i64 (e : Int),.int .u8 (c.toNat : Int)] = some [.bool (inF ((s.take e).drop (i + 1)) c)] := by
 refine res_code (fn := r9_in) rfl rfl ?_
 simp (disch := first | assumption | omega | decide | (simp only [lens] <;> omega) | fail) only [go_sem,r9_in]
 refine r9_in_l1_ok s e he hs c _ e (i + 1) (by omega) (by omega) (fun h => ?_) (fun h => ?_)
 ·simp (disch := first | assumption | omega | decide | (simp only [lens] <;> omega) | fail) only [go_sem,h]
 ·simp (disch := first | assumption | omega | decide | (simp only [lens] <;> omega) | fail) only [go_sem,h]
end Ab
namespace Ab
open Go (IntKind BinOp UnOp)
theorem classE_spec {s : List UInt8} {i : Nat} (hi : i < s.length) :
  (classE s i = -1 ∧ (ixB (s.drop (i + 1)) 93 ≤ 0 ∨ classF ((s.drop (i + 1)).take (ixB (s.drop (i + 1)) 93).toNat) none256 = none)) ∨
  (∃ (x : Nat) (st : List Bool),0 < x ∧ i + 1 + x < s.length ∧ classE s i = ((i + 1 + x : Nat) : Int) ∧ ixB (s.drop (i + 1)) 93 = (x : Int) ∧ (s.take (i + 1 + x)).drop (i + 1) = (s.drop (i + 1)).take x ∧ classF ((s.drop (i + 1)).take x) none256 = some st) := by
 have hx := @ixB_nn (s.drop (i + 1)) 93
 rw [List.length_drop] at hx
 unfold classE endAt
 by_cases h0 : ixB (s.drop (i + 1)) 93 < 0
 ·refine .inl ⟨?_,.inl (by omega)⟩
  rw [if_pos h0,if_pos (Nat.le_refl _)]
 ·rw [if_neg h0]
  obtain ⟨x,hxe⟩ := Int.eq_ofNat_of_zero_le (show 0 ≤ ixB (s.drop (i + 1)) 93 by omega)
  rw [hxe] at hx ⊢
  rw [Int.toNat_natCast,if_neg (by omega)]
  by_cases h1 : x = 0
  ·subst h1
   exact .inl ⟨by rw [if_pos (by omega)],.inl (by omega)⟩
  ·rw [if_neg (by omega)]
   have ec : (s.take (i + 1 + x)).drop (i + 1) = (s.drop (i + 1)).take x := by
    rw [List.drop_take,show i + 1 + x - (i + 1) = x by omega]
   rw [ec,← classF_ok (acc := none256)]
   cases hc : classF ((s.drop (i + 1)).take x) none256 with
   | none => exact .inl ⟨rfl,.inr rfl⟩
   | some st => exact .inr ⟨x,st,by omega,by omega,rfl,rfl,ec,hc⟩
theorem toks_br_none {r : List UInt8} (h : ixB r 93 ≤ 0 ∨ classF (r.take (ixB r 93).toNat) none256 = none) : toksF (91 :: r) = none := by
 rw [toksF,if_neg (by decide),if_neg (by decide),if_pos rfl]
 rcases h with h | h
 ·rw [if_pos h]
 ·rw [h]; split <;> rfl
theorem toks_br {r : List UInt8} {x : Nat} {st : List Bool} (h0 : 0 < x) (h : ixB r 93 = (x : Int)) (hc : classF (r.take x) none256 = some st) : toksF (91 :: r) = (toksF (r.drop (x + 1))).map ((false,st) :: ·) := by
 rw [toksF,if_neg (by decide),if_neg (by decide),if_pos rfl,if_neg (by omega),h,Int.toNat_natCast,hc]
theorem simple_l1_ok (s : List UInt8) (hs : s.length < 900000000) (Q : Out → Prop) : ∀ (n i : Nat),s.length ≤ i + n → i ≤ s.length →
  (toksF (s.drop i) = none → Q (.ret,[(2,.p (.bool false))],[])) → (∀ t,toksF (s.drop i) = some t → Q (.nrm,[],[])) →
  Wp Γ r9_simple_l1 [(0,.p (.str s)),(3,.p (.int .i64 (i : Int)))] [] (InBlk [] 0 Q) := by
 intro n
 induction n with
 | zero =>
  intro i hn hi h1 h2
  obtain rfl : i = s.length := by omega
  rw [W_loop (L := r9_simple_l1) rfl]
  simp (disch := first | assumption | omega | decide | (simp only [lens] <;> omega) | fail) only [go_sem]
  exact h2 [] (by rw [List.drop_length,toksF])
 | succ n ih =>
  intro i hn hi h1 h2
  by_cases hlt : i < s.length
  ·have b0 := @byt_nonneg s i
   have b1 := @byt_le s i
   rw [drop1 hlt] at h1 h2
   by_cases e91 : byt s i = 91
   ·have er := res_r9class s hs i hlt
    rw [(byt_eqG 91).1 e91] at h1 h2
    rcases classE_spec hlt with ⟨k1,k2⟩ | ⟨x,st,k1,k2,k3,k4,k5,k6⟩
    ·rw [k1] at er
     rw [W_loop (L := r9_simple_l1) rfl]
     simp (disch := first | assumption | omega | decide | (simp only [lens] <;> omega) | fail) only [go_sem,e91,er]
     exact h1 (toks_br_none k2)
    ·rw [toks_br k1 k4 k6] at h1 h2
     rw [List.drop_drop] at h1 h2
     rw [k3] at er
     rw [W_loop (L := r9_simple_l1) rfl]
     simp (disch := first | assumption | omega | decide | (simp only [lens] <;> omega) | fail) only [go_sem,e91,er]
     have := ih (i + 1 + (x + 1)) (by omega) (by omega) (fun h => h1 (toks_none h)) (fun t h => h2 _ (toks_some h))
     rw [show ((i + 1 + (x + 1) : Nat) : Int) = ((i + 1 + x : Nat) : Int) + 1 by omega] at this
     exact this
   ·rw [toksF] at h1 h2
    by_cases e42 : byt s i = 42
    ·rw [if_pos ((byt_eqG 42).1 e42)] at h1 h2
     rw [W_loop (L := r9_simple_l1) rfl]
     simp (disch := first | assumption | omega | decide | (simp only [lens] <;> omega) | fail) only [go_sem,e42]
     exact ih (i + 1) (by omega) (by omega) (fun h => h1 (toks_none h)) (fun t h => h2 _ (toks_some h))
    ·rw [if_neg (byt_ne (b := 42) e42)] at h1 h2
     by_cases e63 : byt s i = 63
     ·rw [if_pos ((byt_eqG 63).1 e63)] at h1 h2
      rw [W_loop (L := r9_simple_l1) rfl]
      simp (disch := first | assumption | omega | decide | (simp only [lens] <;> omega) | fail) only [go_sem,e63]
      exact ih (i + 1) (by omega) (by omega) (fun h => h1 (toks_none h)) (fun t h => h2 _ (toks_some h))
     ·rw [if_neg (byt_ne (b := 63) e63),if_neg (byt_ne (b := 91) e91)] at h1 h2
      have er := res_r8Byte (byt s i) b0 (by omega)
      rw [byteI_byt] at er
      cases hb : byteOk (s.getD i 0)
      ·rw [if_neg (by rw [hb]; decide)] at h1
       rw [hb] at er
       rw [W_loop (L := r9_simple_l1) rfl]
       simp (disch := first | assumption | omega | decide | (simp only [lens] <;> omega) | fail) only [go_sem,er]
       exact h1 rfl
      ·rw [if_pos hb] at h1 h2
       rw [hb] at er
       rw [W_loop (L := r9_simple_l1) rfl]
       simp (disch := first | assumption | omega | decide | (simp only [lens] <;> omega) | fail) only [go_sem,er]
       exact ih (i + 1) (by omega) (by omega) (fun h => h1 (toks_none h)) (fun t h => h2 _ (toks_some h))
  ·obtain rfl : i = s.length := by omega
   rw [W_loop (L := r9_simple_l1) rfl]
   simp (disch := first | assumption | omega | decide | (simp only [lens] <;> omega) | fail) only [go_sem]
   exact h2 [] (by rw [List.drop_length,toksF])
theorem res_r9simple (s : List UInt8) (hs : s.length < 900000000) : res Γ 39 [.str s] = some [.bool (toksF s).isSome] := by
 refine res_code (fn := r9_simple) rfl rfl ?_
 simp (disch := first | assumption | omega | decide | (simp only [lens] <;> omega) | fail) only [go_sem,r9_simple]
 refine simple_l1_ok s hs _ s.length 0 (by omega) (by omega) (fun h => ?_) (fun t h => ?_)
 ·rw [List.drop_zero] at h
  simp (disch := first | assumption | omega | decide | (simp only [lens] <;> omega) | fail) only [go_sem,h]
  rfl
 ·rw [List.drop_zero] at h
  simp (disch := first | assumption | omega | decide | (simp only [lens] <;> omega) | fail) only [go_sem,h]
  rfl
theorem take_rep_set {D : List Bool} {k m : Nat} {v : Bool} (h : k ≤ D.length) : (D.take k ++ List.replicate (m + 1) false).set k v = D.take k ++ v :: List.replicate m false := by
 rw [List.set_append_right _ _ (by rw [List.length_take]; omega),List.length_take,Nat.min_eq_left h,Nat.sub_self]
 rfl
theorem take_step {D : List Bool} {k m : Nat} (h : k < D.length) : D.take k ++ D.getD k false :: List.replicate m false = D.take (k + 1) ++ List.replicate m false := by
 rw [take_snoc' false h,List.append_assoc]
 rfl
theorem take_getG {D R : List Bool} {k j : Nat} (h : j < k) (hk : k ≤ D.length) : (D.take k ++ R).getD j false = D.getD j false := by
 rw [List.getD_eq_getElem?_getD,List.getElem?_append_left (by rw [List.length_take]; omega),List.getElem?_take,if_pos h,List.getD_eq_getElem?_getD]
structure TokAt (p : List UInt8) (i e : Nat) (t : Tok) : Prop where
 notAny : t.1 = false
 ask : byt p i = 63 ∧ (∀ c,inT t c = true) ∨ byt p i = 91 ∧ i < e ∧ e ≤ p.length ∧ (∀ c,inT t c = inF ((p.take e).drop (i + 1)) c) ∨ byt p i ≠ 63 ∧ byt p i ≠ 91 ∧ (∀ c,inT t c = (p.getD i 0 == c))
abbrev mEnv (p s : List UInt8) (i e k : Nat) : Env := [(0,.p (.str p)),(1,.p (.str s)),(5,.own 0 (s.length + 1)),(6,.p (.int .i64 (i : Int))),(7,.own 1 (s.length + 1)),(8,.p (.int .i64 (e : Int))),(9,.p (.int .i64 (k : Int)))]
theorem m_l1_star (p s : List UInt8) (_hp : p.length < 900000000) (hs : s.length < 900000000) (i e : Nat) (hi : i < p.length) (h42 : byt p i = 42) {A D : List Bool} (hA : A.length = s.length + 1) (hD : D.length = s.length + 1)
  (d0 : D.getD 0 false = A.getD 0 false) (dS : ∀ k,k < s.length → D.getD (k + 1) false = (A.getD (k + 1) false || D.getD k false)) (Q : Out → Prop) : ∀ (m k : Nat),k + m = s.length + 1 →
  Q (.nrm,[(0,.p (.str p)),(1,.p (.str s)),(7,.own 1 (s.length + 1)),(8,.p (.int .i64 (e : Int)))],[.row false 1 (bools A),.row false 1 (bools D)]) →
  Wp Γ r9_matches_l1 (mEnv p s i e k) [.row false 1 (bools A),.row false 1 (bools (D.take k ++ List.replicate m false))] (InBlk [0,1,7,8] 2 Q) := by
 intro m
 induction m with
 | zero =>
  intro k hk hQ
  obtain rfl : k = s.length + 1 := by omega
  rw [List.replicate_zero,List.append_nil,List.take_of_length_le (by omega)]
  rw [W_loop (L := r9_matches_l1) rfl]
  simp (disch := first | assumption | omega | decide | (simp only [lens] <;> omega) | fail) only [go_sem]
  exact hQ
 | succ m ih =>
  intro k hk hQ
  have ih := ih (k + 1) (by omega) hQ
  have hst := fun v => take_rep_set (D := D) (k := k) (m := m) (v := v) (by omega)
  have hl : (D.take k ++ List.replicate (m + 1) false).length = s.length + 1 := by rw [List.length_append,List.length_take,List.length_replicate]; omega
  rw [← take_step (by omega)] at ih
  cases ha : A.getD k false
  ·by_cases h0 : k = 0
   ·subst h0
    rw [d0,ha] at ih
    rw [W_loop (L := r9_matches_l1) rfl]
    simp (disch := first | assumption | omega | decide | (simp only [lens] <;> omega) | fail) only [go_sem,h42,ha]
    exact ih
   ·obtain ⟨k,rfl⟩ : ∃ j,k = j + 1 := ⟨k - 1,by omega⟩
    have ek : ((k + 1 : Nat) : Int) - 1 = (k : Int) := by omega
    have eg : (D.take (k + 1) ++ List.replicate (m + 1) false).getD k false = D.getD k false := take_getG (by omega) (by omega)
    rw [dS k (by omega),ha,Bool.false_or] at ih
    rw [W_loop (L := r9_matches_l1) rfl]
    simp (disch := first | assumption | omega | decide | (simp only [lens] <;> omega) | fail) only [go_sem,h42,ha,ek,eg,hst]
    exact ih
  ·have : D.getD k false = true := by
    by_cases h0 : k = 0
    ·subst h0; rw [d0,ha]
    ·obtain ⟨k,rfl⟩ : ∃ j,k = j + 1 := ⟨k - 1,by omega⟩
     rw [dS k (by omega),ha]; rfl
   rw [this] at ih
   rw [W_loop (L := r9_matches_l1) rfl]
   simp (disch := first | assumption | omega | decide | (simp only [lens] <;> omega) | fail) only [go_sem,h42,ha,hst]
   exact ih
theorem m_l1_set (p s : List UInt8) (hp : p.length < 900000000) (hs : s.length < 900000000) (i e : Nat) (hi : i < p.length) (h42 : byt p i ≠ 42) {t : Tok} (ht : TokAt p i e t) {A D : List Bool} (hA : A.length = s.length + 1) (hD : D.length = s.length + 1)
  (d0 : D.getD 0 false = false) (dS : ∀ k,k < s.length → D.getD (k + 1) false = (A.getD k false && inT t (s.getD k 0))) (Q : Out → Prop) : ∀ (m k : Nat),k + m = s.length + 1 →
  Q (.nrm,[(0,.p (.str p)),(1,.p (.str s)),(7,.own 1 (s.length + 1)),(8,.p (.int .i64 (e : Int)))],[.row false 1 (bools A),.row false 1 (bools D)]) →
  Wp Γ r9_matches_l1 (mEnv p s i e k) [.row false 1 (bools A),.row false 1 (bools (D.take k ++ List.replicate m false))] (InBlk [0,1,7,8] 2 Q) := by
 intro m
 induction m with
 | zero =>
  intro k hk hQ
  obtain rfl : k = s.length + 1 := by omega
  rw [List.replicate_zero,List.append_nil,List.take_of_length_le (by omega)]
  rw [W_loop (L := r9_matches_l1) rfl]
  simp (disch := first | assumption | omega | decide | (simp only [lens] <;> omega) | fail) only [go_sem]
  exact hQ
 | succ m ih =>
  intro k hk hQ
  have ih := ih (k + 1) (by omega) hQ
  have hst := fun v => take_rep_set (D := D) (k := k) (m := m) (v := v) (by omega)
  have hl : (D.take k ++ List.replicate (m + 1) false).length = s.length + 1 := by rw [List.length_append,List.length_take,List.length_replicate]; omega
  rw [← take_step (by omega)] at ih
  by_cases h0 : k = 0
  ·subst h0
   rw [d0] at ih
   rw [W_loop (L := r9_matches_l1) rfl]
   simp (disch := first | assumption | omega | decide | (simp only [lens] <;> omega) | fail) only [go_sem]
   exact ih
  ·obtain ⟨k,rfl⟩ : ∃ j,k = j + 1 := ⟨k - 1,by omega⟩
   have ek : ((k + 1 : Nat) : Int) - 1 = (k : Int) := by omega
   rw [dS k (by omega)] at ih
   cases ha : A.getD k false
   ·rw [ha,Bool.false_and] at ih
    rw [W_loop (L := r9_matches_l1) rfl]
    simp (disch := first | assumption | omega | decide | (simp only [lens] <;> omega) | fail) only [go_sem,ha,ek]
    exact ih
   ·rw [ha,Bool.true_and] at ih
    rcases ht.ask with ⟨h63,hc⟩ | ⟨h91,hie,hep,hc⟩ | ⟨h63,h91,hc⟩
    ·rw [hc] at ih
     rw [W_loop (L := r9_matches_l1) rfl]
     simp (disch := first | assumption | omega | decide | (simp only [lens] <;> omega) | fail) only [go_sem,ha,ek,h63,hst]
     exact ih
    ·have er := res_r9in p e hep hp (s.getD k 0) i hie
     have eb : byt s k = ((s.getD k 0).toNat : Int) := rfl
     rw [hc] at ih
     cases hin : inF ((p.take e).drop (i + 1)) (s.getD k 0)
     ·rw [hin] at er ih
      rw [W_loop (L := r9_matches_l1) rfl]
      simp (disch := first | assumption | omega | decide | (simp only [lens] <;> omega) | fail) only [go_sem,ha,ek,h91,eb,er,hst,ne_eq,not_true_eq_false]
      exact ih
     ·rw [hin] at er ih
      rw [W_loop (L := r9_matches_l1) rfl]
      simp (disch := first | assumption | omega | decide | (simp only [lens] <;> omega) | fail) only [go_sem,ha,ek,h91,eb,er,hst]
      exact ih
    ·rw [hc] at ih
     have eb : (p.getD i 0 == s.getD k 0) = decide (byt p i = byt s k) := by
      have : p.getD i 0 = s.getD k 0 ↔ byt p i = byt s k := by
       unfold byt
       rw [← UInt8.toNat_inj]; omega
      rw [Bool.eq_iff_iff,beq_iff_eq,decide_eq_true_eq]; exact this
     rw [eb] at ih
     rw [W_loop (L := r9_matches_l1) rfl]
     simp (disch := first | assumption | omega | decide | (simp only [lens] <;> omega) | fail) only [go_sem,ha,ek,h91,h63,hst]
     exact ih
theorem m_l2_ok (p s : List UInt8) (hp : p.length < 900000000) (hs : s.length < 900000000) {T : List Tok} (Q : Out → Prop) (hQ : Q (.nrm,[(1,.p (.str s)),(5,.own 0 (s.length + 1))],[.row false 1 (bools (dpV T s))])) :
  ∀ (n i : Nat) (T1 T2 : List Tok) (env : Env) (H : Heap),p.length ≤ i + n → i ≤ p.length → T = T1 ++ T2 → toksF (p.drop i) = some T2 →
  norm [0,1,5,6] (some 0) env H = some ([(0,.p (.str p)),(1,.p (.str s)),(5,.own 0 (s.length + 1)),(6,.p (.int .i64 (i : Int)))],[.row false 1 (bools (dpV T1 s))]) →
  Wp Γ r9_matches_l2 env H (InBlk [1,5] 0 Q) := by
 intro n
 have fin : ∀ (T1 T2 : List Tok) (env : Env) (H : Heap),T = T1 ++ T2 → toksF (p.drop p.length) = some T2 →
  norm [0,1,5,6] (some 0) env H = some ([(0,.p (.str p)),(1,.p (.str s)),(5,.own 0 (s.length + 1)),(6,.p (.int .i64 ((p.length : Nat) : Int)))],[.row false 1 (bools (dpV T1 s))]) →
  Wp Γ r9_matches_l2 env H (InBlk [1,5] 0 Q) := by
  intro T1 T2 env H hT h2 hN
  rw [List.drop_length,toksF] at h2
  cases h2
  rw [List.append_nil] at hT
  subst hT
  rw [W_loop (L := r9_matches_l2) rfl]
  rw [hN]
  simp (disch := first | assumption | omega | decide | (simp only [lens] <;> omega) | fail) only [go_sem]
  exact hQ
 induction n with
 | zero =>
  intro i T1 T2 env H hn hi hT h2 hN
  obtain rfl : i = p.length := by omega
  exact fin T1 T2 env H hT h2 hN
 | succ n ih =>
  intro i T1 T2 env H hn hi hT h2 hN
  by_cases hlt : i < p.length
  ·have hA := @dpV_len T1 s
   have hrep : List.replicate (s.length + 1) (PV.bool false) = bools (List.replicate (s.length + 1) false) := bools_rep
   have ecast : ((s.length : Int) + 1).toNat = s.length + 1 := by omega
   have nrm : ∀ (j : Nat) (D A : List Bool),norm [0,1,5,6] (some 0) [(6,.p (.int .i64 (j : Int))),(0,.p (.str p)),(1,.p (.str s)),(5,.own 1 (s.length + 1)),(6,.p (.int .i64 (j : Int)))] [.row false 1 (bools A),.row false 1 (bools D)] = some ([(0,.p (.str p)),(1,.p (.str s)),(5,.own 0 (s.length + 1)),(6,.p (.int .i64 (j : Int)))],[.row false 1 (bools D)]) := by
    intro j D A
    simp (disch := first | assumption | omega | decide | (simp only [lens] <;> omega) | fail) only [go_sem]
   rw [drop1 hlt] at h2
   by_cases e91 : byt p i = 91
   ·have er := res_r9class p hp i hlt
    rw [(byt_eqG 91).1 e91] at h2
    rcases classE_spec hlt with ⟨k1,k2⟩ | ⟨x,st,k1,k2,k3,k4,k5,k6⟩
    ·rw [toks_br_none k2] at h2; cases h2
    ·rw [toks_br k1 k4 k6] at h2
     obtain ⟨U,hU,rfl⟩ := Option.map_eq_some_iff.1 h2
     rw [List.drop_drop] at hU
     rw [k3] at er
     have tk : TokAt p i (i + 1 + x) (false,st) := ⟨rfl,.inr (.inl ⟨e91,by omega,by omega,fun c => by rw [toks_inT k6,k5]⟩)⟩
     have hD := @dpV_len (T1 ++ [(false,st)]) s
     rw [W_loop (L := r9_matches_l2) rfl]
     rw [hN]
     simp (disch := first | assumption | omega | decide | (simp only [lens] <;> omega) | fail) only [go_sem,e91,er,ecast,hrep]
     refine m_l1_set p s hp hs i (i + 1 + x) hlt (by rw [e91]; decide) tk hA hD (dp_set0 rfl) (fun k hk => dp_set rfl hk) _ (s.length + 1) 0 (by omega) ?_
     simp (disch := first | assumption | omega | decide | (simp only [lens] <;> omega) | fail) only [go_sem]
     refine ih (i + 1 + (x + 1)) (T1 ++ [(false,st)]) U _ _ (by omega) (by omega) (by rw [hT,List.append_assoc]; rfl) hU ?_
     simp (disch := first | assumption | omega | decide | (simp only [lens] <;> omega) | fail) only [go_sem]
     rfl
   ·rw [toksF,if_neg (byt_ne (b := 91) e91)] at h2
    by_cases e42 : byt p i = 42
    ·rw [if_pos ((byt_eqG 42).1 e42)] at h2
     obtain ⟨U,hU,rfl⟩ := Option.map_eq_some_iff.1 h2
     have hD := @dpV_len (T1 ++ [(true,none256)]) s
     rw [W_loop (L := r9_matches_l2) rfl]
     rw [hN]
     simp (disch := first | assumption | omega | decide | (simp only [lens] <;> omega) | fail) only [go_sem,ecast,hrep]
     refine m_l1_star p s hp hs i i hlt e42 hA hD (dp_star0 rfl) (fun k hk => dp_star rfl hk) _ (s.length + 1) 0 (by omega) ?_
     simp (disch := first | assumption | omega | decide | (simp only [lens] <;> omega) | fail) only [go_sem]
     refine ih (i + 1) (T1 ++ [(true,none256)]) U _ _ (by omega) (by omega) (by rw [hT,List.append_assoc]; rfl) hU ?_
     simp (disch := first | assumption | omega | decide | (simp only [lens] <;> omega) | fail) only [go_sem]
     rfl
    ·rw [if_neg (byt_ne (b := 42) e42)] at h2
     have tail : ∀ {t : Tok} {U : List Tok},TokAt p i i t → toksF (p.drop (i + 1)) = some U → T2 = t :: U → Wp Γ r9_matches_l2 env H (InBlk [1,5] 0 Q) := by
      intro t U tk hU e2
      subst e2
      have hD := @dpV_len (T1 ++ [t]) s
      rw [W_loop (L := r9_matches_l2) rfl]
      rw [hN]
      simp (disch := first | assumption | omega | decide | (simp only [lens] <;> omega) | fail) only [go_sem,ecast,hrep]
      refine m_l1_set p s hp hs i i hlt e42 tk hA hD (dp_set0 tk.notAny) (fun k hk => dp_set tk.notAny hk) _ (s.length + 1) 0 (by omega) ?_
      simp (disch := first | assumption | omega | decide | (simp only [lens] <;> omega) | fail) only [go_sem]
      refine ih (i + 1) (T1 ++ [t]) U _ _ (by omega) (by omega) (by rw [hT,List.append_assoc]; rfl) hU ?_
      simp (disch := first | assumption | omega | decide | (simp only [lens] <;> omega) | fail) only [go_sem]
      rfl
     by_cases e63 : byt p i = 63
     ·rw [if_pos ((byt_eqG 63).1 e63)] at h2
      obtain ⟨U,hU,e2⟩ := Option.map_eq_some_iff.1 h2
      exact tail (t := (false,fillN none256 0 256)) ⟨rfl,.inl ⟨e63,fun c => by unfold inT; dsimp only; exact all_get c⟩⟩ hU e2.symm
     ·rw [if_neg (byt_ne (b := 63) e63)] at h2
      split at h2
      ·obtain ⟨U,hU,e2⟩ := Option.map_eq_some_iff.1 h2
       exact tail (t := single (p.getD i 0)) ⟨rfl,.inr (.inr ⟨e63,e91,fun c => single_in⟩)⟩ hU e2.symm
      ·cases h2
  ·obtain rfl : i = p.length := by omega
   exact fin T1 T2 env H hT h2 hN
theorem res_r9matches (p s : List UInt8) (hp : p.length < 900000000) (hs : s.length < 900000000) {T : List Tok} (h : toksF p = some T) : res Γ 44 [.str p,.str s] = some [.bool (mtD T s)] := by
 have hrep : List.replicate (s.length + 1) (PV.bool false) = bools (List.replicate (s.length + 1) false) := bools_rep
 have ecast : ((s.length : Int) + 1).toNat = s.length + 1 := by omega
 have e0 : (List.replicate (s.length + 1) false).set 0 true = dpV [] s := by rw [dpV_nil]; rfl
 have hl := @dpV_len T s
 have hlast := @dp_last T s
 refine res_code (fn := r9_matches) rfl rfl ?_
 simp (disch := first | assumption | omega | decide | (simp only [lens] <;> omega) | fail) only [go_sem,r9_matches,ecast,hrep,e0]
 refine m_l2_ok p s hp hs (T := T) _ ?_ p.length 0 [] T _ _ (by omega) (by omega) rfl (by rw [List.drop_zero]; exact h) ?_
 ·simp (disch := first | assumption | omega | decide | (simp only [lens] <;> omega) | fail) only [go_sem,hlast]
 ·simp (disch := first | assumption | omega | decide | (simp only [lens] <;> omega) | fail) only [go_sem]
  rfl
theorem res_r9Match (p s : List UInt8) (hp : p.length < 900000000) (hs : s.length < 900000000) : res Γ 20 [.str p,.str s] = some [.bool (matchB p s)] := by
 have e := res_r9simple p hp
 unfold matchB
 cases ht : toksF p with
 | none =>
  rw [ht] at e
  have e : res Γ 39 [.str p] = some [.bool false] := e
  refine res_code (fn := r9_Match) rfl rfl ?_
  simp (disch := first | assumption | omega | decide | (simp only [lens] <;> omega) | fail) only [go_sem,r9_Match,e]
 | some T =>
  rw [ht] at e
  have e : res Γ 39 [.str p] = some [.bool true] := e
  have e2 := res_r9matches p s hp hs ht
  refine res_code (fn := r9_Match) rfl rfl ?_
  simp (disch := first | assumption | omega | decide | (simp only [lens] <;> omega) | fail) only [go_sem,r9_Match,e,e2]
end Ab
namespace Ab
open Go (IntKind BinOp UnOp)
def partOk (p : List UInt8) : Bool := decide (p ≠ []) && (toksF p).isSome
def partsR (s : List UInt8) : List PV := if (splitB 46 s).all partOk = true ∧ (splitB 46 s).length ≤ 20 then [.sl .any 1 (strs (splitB 46 s)),.int .i64 0] else [.sl .nil 1 [],.int .i64 8]
theorem splitB_mem_len {c : UInt8} : ∀ {s p : List UInt8},p ∈ splitB c s → p.length ≤ s.length
 | [],p,h => by simp [splitB] at h; subst h; exact Nat.le_refl _
 | b :: l,p,h => by
  rw [splitB] at h
  split at h
  ·rcases List.mem_cons.1 h with rfl | h
   ·simp
   ·have := splitB_mem_len h; simp; omega
  ·split at h
   ·rw [List.mem_singleton] at h; subst h; simp
   ·rename_i x t he
    rcases List.mem_cons.1 h with rfl | h
    ·have := splitB_mem_len (s := l) (p := x) (c := c) (by rw [he]; simp)
     simp; omega
    ·have := splitB_mem_len (s := l) (p := p) (c := c) (by rw [he]; simp [h])
     simp; omega
theorem getD_mem {l : List (List UInt8)} {i : Nat} (h : i < l.length) : l.getD i [] ∈ l := by
 rw [List.getD_eq_getElem?_getD,List.getElem?_eq_getElem h]; simp
theorem drop_all {α : Type} {l : List α} {i : Nat} {f : α → Bool} (d : α) (h : i < l.length) : (l.drop i).all f = (f (l.getD i d) && (l.drop (i + 1)).all f) := by
 rw [List.drop_eq_getElem_cons h,List.all_cons]
 simp [List.getElem?_eq_getElem h]
theorem Parts_l1_ok {kk k2 : SK} (l : List (List UInt8)) (hl : l.length ≤ 900000000) (hm : ∀ p ∈ l,p.length < 900000000) (Q : Out → Prop) : ∀ (n i : Nat),i + n = l.length →
  ((l.drop i).all partOk = false → Q (.ret,[(2,.p (.sl .nil 1 [])),(3,.p (.int .i64 8))],[])) → ((l.drop i).all partOk = true → Q (.nrm,[(4,.p (.sl kk 1 (strs l)))],[])) →
  Wp Γ glob_Parts_l1 [(4,.p (.sl kk 1 (strs l))),(11,.p (.sl k2 1 (strs l))),(12,.p (.int .i64 (l.length : Int))),(13,.p (.int .i64 (i : Int)))] [] (InBlk [4] 0 Q) := by
 intro n
 induction n with
 | zero =>
  intro i hi h1 h2
  obtain rfl : i = l.length := by omega
  rw [W_loop (L := glob_Parts_l1) rfl]
  simp (disch := first | assumption | omega | decide | (simp only [lens] <;> omega) | fail) only [go_sem]
  exact h2 (by rw [List.drop_length]; rfl)
 | succ n ih =>
  intro i hi h1 h2
  have hlt : i < l.length := by omega
  have hp := hm _ (getD_mem hlt)
  rw [drop_all [] hlt] at h1 h2
  unfold partOk at h1 h2
  cases ht : toksF (l.getD i []) with
  | none =>
   have e := res_pieces_no _ hp ht
   rw [ht] at h1
   rw [W_loop (L := glob_Parts_l1) rfl]
   simp (disch := first | assumption | omega | decide | (simp only [lens] <;> omega) | fail) only [go_sem,e]
   exact h1 (by simp)
  | some t =>
   have e := res_pieces _ hp ht
   rw [ht] at h1 h2
   by_cases h0 : l.getD i [] = []
   ·rw [h0] at e h1
    rw [W_loop (L := glob_Parts_l1) rfl]
    simp (disch := first | assumption | omega | decide | (simp only [lens] <;> omega) | fail) only [go_sem,h0,e]
    exact h1 (by simp)
   ·rw [decide_eq_true h0] at h1 h2
    rw [W_loop (L := glob_Parts_l1) rfl]
    simp (disch := first | assumption | omega | decide | (simp only [lens] <;> omega) | fail) only [go_sem,e]
    exact ih (i + 1) (by omega) h1 h2
theorem res_globParts (s : List UInt8) (hs : s.length < 900000000) : res Γ 23 [.str s] = some (partsR s) := by
 have hl := splitB_len 46 s
 have hc := @count_le s 46
 have hm : ∀ p ∈ splitB 46 s,p.length < 900000000 := fun p hp => by have := splitB_mem_len hp; omega
 unfold partsR
 refine res_code (fn := glob_Parts) rfl rfl ?_
 simp (disch := first | assumption | omega | decide | (simp only [lens] <;> omega) | fail) only [go_sem,glob_Parts]
 refine Parts_l1_ok (splitB 46 s) (by omega) hm _ (splitB 46 s).length 0 (by omega) (fun h => ?_) (fun h => ?_)
 ·rw [List.drop_zero] at h
  simp (disch := first | assumption | omega | decide | (simp only [lens] <;> omega) | fail) only [go_sem]
  rw [if_neg (fun h2 => by rw [h] at h2; cases h2.1)]
 ·rw [List.drop_zero] at h
  by_cases hn : (splitB 46 s).length ≤ 20
  ·simp (disch := first | assumption | omega | decide | (simp only [lens] <;> omega) | fail) only [go_sem]
   rw [if_pos ⟨h,hn⟩]
  ·simp (disch := first | assumption | omega | decide | (simp only [lens] <;> omega) | fail) only [go_sem]
   rw [if_neg (fun h2 => hn h2.2)]
theorem r9_Parts_l1_ok {kk : SK} (l : List (List UInt8)) (hl : l.length ≤ 900000000) (hm : ∀ p ∈ l,p.length < 900000000) (Q : Out → Prop) : ∀ (n i : Nat),i + n = l.length →
  ((l.drop i).all partOk = false → Q (.ret,[(2,.p (.sl .nil 1 [])),(3,.p (.int .i64 8))],[])) → ((l.drop i).all partOk = true → Q (.nrm,[(4,.p (.sl kk 1 (strs l)))],[])) →
  Wp Γ r9_Parts_l1 [(4,.p (.sl kk 1 (strs l))),(5,.p (.int .i64 (i : Int)))] [] (InBlk [4] 0 Q) := by
 intro n
 induction n with
 | zero =>
  intro i hi h1 h2
  obtain rfl : i = l.length := by omega
  rw [W_loop (L := r9_Parts_l1) rfl]
  simp (disch := first | assumption | omega | decide | (simp only [lens] <;> omega) | fail) only [go_sem]
  exact h2 (by rw [List.drop_length]; rfl)
 | succ n ih =>
  intro i hi h1 h2
  have hlt : i < l.length := by omega
  have hp := hm _ (getD_mem hlt)
  have e := res_r9simple _ hp
  rw [drop_all [] hlt] at h1 h2
  unfold partOk at h1 h2
  by_cases h0 : l.getD i [] = []
  ·rw [h0] at h1
   rw [W_loop (L := r9_Parts_l1) rfl]
   simp (disch := first | assumption | omega | decide | (simp only [lens] <;> omega) | fail) only [go_sem,h0]
   exact h1 (by simp)
  ·rw [decide_eq_true h0] at h1 h2
   cases ht : (toksF (l.getD i [])).isSome
   ·rw [ht] at h1 e
    rw [W_loop (L := r9_Parts_l1) rfl]
    simp (disch := first | assumption | omega | decide | (simp only [lens] <;> omega) | fail) only [go_sem,e]
    exact h1 (by simp)
   ·rw [ht] at h2 h1 e
    rw [W_loop (L := r9_Parts_l1) rfl]
    simp (disch := first | assumption | omega | decide | (simp only [lens] <;> omega) | fail) only [go_sem,e]
    exact ih (i + 1) (by omega) h1 h2
theorem res_r9Parts (s : List UInt8) (hs : s.length < 900000000) : res Γ 22 [.str s] = some (partsR s) := by
 have hl := splitB_len 46 s
 have hc := @count_le s 46
 have hm : ∀ p ∈ splitB 46 s,p.length < 900000000 := fun p hp => by have := splitB_mem_len hp; omega
 unfold partsR
 refine res_code (fn := r9_Parts) rfl rfl ?_
 by_cases hn : (splitB 46 s).length ≤ 20
 ·simp (disch := first | assumption | omega | decide | (simp only [lens] <;> omega) | fail) only [go_sem,r9_Parts]
  refine r9_Parts_l1_ok (splitB 46 s) (by omega) hm _ (splitB 46 s).length 0 (by omega) (fun h => ?_) (fun h => ?_)
  ·rw [List.drop_zero] at h
   simp (disch := first | assumption | omega | decide | (simp only [lens] <;> omega) | fail) only [go_sem]
   rw [if_neg (fun h2 => by rw [h] at h2; cases h2.1)]
  ·rw [List.drop_zero] at h
   simp (disch := first | assumption | omega | decide | (simp only [lens] <;> omega) | fail) only [go_sem]
   rw [if_pos ⟨h,hn⟩]
 ·simp (disch := first | assumption | omega | decide | (simp only [lens] <;> omega) | fail) only [go_sem,r9_Parts]
  rw [if_neg (fun h2 => hn h2.2)]
theorem balanced_l1_ok (s : List UInt8) (hs : s.length < 900000000) (Q : Out → Prop) : ∀ (n i d : Nat),i + n = s.length → d ≤ i →
  (scan d (s.drop i) = false → Q (.ret,[(2,.p (.bool false))],[])) → (∀ d' : Nat,scan d (s.drop i) = (d' == 0) → Q (.nrm,[(3,.p (.int .i64 (d' : Int)))],[])) →
  Wp Γ glob_balanced_l1 [(0,.p (.str s)),(3,.p (.int .i64 (d : Int))),(6,.p (.int .i64 (s.length : Int))),(7,.p (.int .i64 (i : Int)))] [] (InBlk [3] 0 Q) := by
 intro n
 induction n with
 | zero =>
  intro i d hi hd h1 h2
  obtain rfl : i = s.length := by omega
  rw [W_loop (L := glob_balanced_l1) rfl]
  simp (disch := first | assumption | omega | decide | (simp only [lens] <;> omega) | fail) only [go_sem]
  exact h2 d (by rw [List.drop_length]; rfl)
 | succ n ih =>
  intro i d hi hd h1 h2
  have hlt : i < s.length := by omega
  rw [drop1 hlt,scan] at h1 h2
  by_cases e1 : byt s i = 123
  ·rw [(byt_eqG 123).1 e1,if_pos (by decide)] at h1 h2
   rw [W_loop (L := glob_balanced_l1) rfl]
   simp (disch := first | assumption | omega | decide | (simp only [lens] <;> omega) | fail) only [go_sem,e1]
   exact ih (i + 1) (d + 1) (by omega) (by omega) h1 h2
  ·rw [if_neg (by simpa using byt_ne (b := 123) e1)] at h1 h2
   by_cases e2 : byt s i = 125
   ·rw [if_pos (by simpa using (byt_eqG 125).1 e2)] at h1 h2
    by_cases hd0 : d = 0
    ·subst hd0
     rw [W_loop (L := glob_balanced_l1) rfl]
     simp (disch := first | assumption | omega | decide | (simp only [lens] <;> omega) | fail) only [go_sem,e2]
     exact h1 rfl
    ·rw [decide_eq_true (by omega),Bool.true_and] at h1 h2
     rw [W_loop (L := glob_balanced_l1) rfl]
     simp (disch := first | assumption | omega | decide | (simp only [lens] <;> omega) | fail) only [go_sem,e2]
     rw [show (d : Int) - 1 = ((d - 1 : Nat) : Int) by omega]
     exact ih (i + 1) (d - 1) (by omega) (by omega) h1 h2
   ·rw [if_neg (by simpa using byt_ne (b := 125) e2)] at h1 h2
    by_cases e3 : byt s i = 44
    ·rw [if_pos (by simpa using (byt_eqG 44).1 e3)] at h1 h2
     by_cases hd0 : d = 0
     ·subst hd0
      rw [W_loop (L := glob_balanced_l1) rfl]
      simp (disch := first | assumption | omega | decide | (simp only [lens] <;> omega) | fail) only [go_sem,e3]
      exact h1 rfl
     ·rw [decide_eq_true (by omega),Bool.true_and] at h1 h2
      rw [W_loop (L := glob_balanced_l1) rfl]
      simp (disch := first | assumption | omega | decide | (simp only [lens] <;> omega) | fail) only [go_sem,e3]
      exact ih (i + 1) d (by omega) (by omega) h1 h2
    ·rw [if_neg (by simpa using byt_ne (b := 44) e3)] at h1 h2
     rw [W_loop (L := glob_balanced_l1) rfl]
     simp (disch := first | assumption | omega | decide | (simp only [lens] <;> omega) | fail) only [go_sem]
     exact ih (i + 1) d (by omega) (by omega) h1 h2
theorem nat_beq0 {d : Nat} : decide ((d : Int) = 0) = (d == 0) := by
 cases d with
 | zero => rfl
 | succ d => rw [decide_eq_false (by omega)]; rfl
theorem res_balanced (s : List UInt8) (hs : s.length < 900000000) : res Γ 38 [.str s] = some [.bool (scan 0 s)] := by
 refine res_code (fn := glob_balanced) rfl rfl ?_
 simp (disch := first | assumption | omega | decide | (simp only [lens] <;> omega) | fail) only [go_sem,glob_balanced]
 refine balanced_l1_ok s hs _ s.length 0 0 (by omega) (by omega) (fun h => ?_) (fun d h => ?_)
 ·rw [List.drop_zero] at h
  simp (disch := first | assumption | omega | decide | (simp only [lens] <;> omega) | fail) only [go_sem,h]
 ·rw [List.drop_zero] at h
  simp (disch := first | assumption | omega | decide | (simp only [lens] <;> omega) | fail) only [go_sem]
  rw [h,nat_beq0]
theorem braces_l1_ok (s : List UInt8) (hs : s.length < 900000000) (Q : Out → Prop) : ∀ (n i d : Nat),i + n = s.length → d ≤ i →
  (scan d (s.drop i) = false → Q (.ret,[(2,.p (.bool false))],[])) → (∀ d' : Nat,scan d (s.drop i) = (d' == 0) → Q (.nrm,[(3,.p (.int .i64 (d' : Int)))],[])) →
  Wp Γ r9_braces_l1 [(0,.p (.str s)),(3,.p (.int .i64 (d : Int))),(4,.p (.int .i64 (i : Int)))] [] (InBlk [3] 0 Q) := by
 intro n
 induction n with
 | zero =>
  intro i d hi hd h1 h2
  obtain rfl : i = s.length := by omega
  rw [W_loop (L := r9_braces_l1) rfl]
  simp (disch := first | assumption | omega | decide | (simp only [lens] <;> omega) | fail) only [go_sem]
  exact h2 d (by rw [List.drop_length]; rfl)
 | succ n ih =>
  intro i d hi hd h1 h2
  have hlt : i < s.length := by omega
  rw [drop1 hlt,scan] at h1 h2
  by_cases e1 : byt s i = 123
  ·rw [(byt_eqG 123).1 e1,if_pos (by decide)] at h1 h2
   rw [W_loop (L := r9_braces_l1) rfl]
   simp (disch := first | assumption | omega | decide | (simp only [lens] <;> omega) | fail) only [go_sem,e1]
   exact ih (i + 1) (d + 1) (by omega) (by omega) h1 h2
  ·rw [if_neg (by simpa using byt_ne (b := 123) e1)] at h1 h2
   by_cases e2 : byt s i = 125
   ·rw [if_pos (by simpa using (byt_eqG 125).1 e2)] at h1 h2
    by_cases hd0 : d = 0
    ·subst hd0
     rw [W_loop (L := r9_braces_l1) rfl]
     simp (disch := first | assumption | omega | decide | (simp only [lens] <;> omega) | fail) only [go_sem,e2]
     exact h1 rfl
    ·rw [decide_eq_true (by omega),Bool.true_and] at h1 h2
     rw [W_loop (L := r9_braces_l1) rfl]
     simp (disch := first | assumption | omega | decide | (simp only [lens] <;> omega) | fail) only [go_sem,e2]
     rw [show (d : Int) - 1 = ((d - 1 : Nat) : Int) by omega]
     exact ih (i + 1) (d - 1) (by omega) (by omega) h1 h2
   ·rw [if_neg (by simpa using byt_ne (b := 125) e2)] at h1 h2
    by_cases e3 : byt s i = 44
    ·rw [if_pos (by simpa using (byt_eqG 44).1 e3)] at h1 h2
     by_cases hd0 : d = 0
     ·subst hd0
      rw [W_loop (L := r9_braces_l1) rfl]
      simp (disch := first | assumption | omega | decide | (simp only [lens] <;> omega) | fail) only [go_sem,e3]
      exact h1 rfl
     ·rw [decide_eq_true (by omega),Bool.true_and] at h1 h2
      rw [W_loop (L := r9_braces_l1) rfl]
      simp (disch := first | assumption | omega | decide | (simp only [lens] <;> omega) | fail) only [go_sem,e3]
      exact ih (i + 1) d (by omega) (by omega) h1 h2
    ·rw [if_neg (by simpa using byt_ne (b := 44) e3)] at h1 h2
     rw [W_loop (L := r9_braces_l1) rfl]
     simp (disch := first | assumption | omega | decide | (simp only [lens] <;> omega) | fail) only [go_sem]
     exact ih (i + 1) d (by omega) (by omega) h1 h2
theorem res_r9braces (s : List UInt8) (hs : s.length < 900000000) : res Γ 42 [.str s] = some [.bool (scan 0 s)] := by
 refine res_code (fn := r9_braces) rfl rfl ?_
 simp (disch := first | assumption | omega | decide | (simp only [lens] <;> omega) | fail) only [go_sem,r9_braces]
 refine braces_l1_ok s hs _ s.length 0 0 (by omega) (by omega) (fun h => ?_) (fun d h => ?_)
 ·rw [List.drop_zero] at h
  simp (disch := first | assumption | omega | decide | (simp only [lens] <;> omega) | fail) only [go_sem,h]
 ·rw [List.drop_zero] at h
  simp (disch := first | assumption | omega | decide | (simp only [lens] <;> omega) | fail) only [go_sem]
  rw [h,nat_beq0]
end Ab
