import Derived.Test.YtjlcnbpehbgfaaaGreatDoorLSub6
import Derived.Test.YtjlcnbpehbgfaaaGreatDoorPRex
namespace Ab
open Go (IntKind BinOp UnOp)
theorem bn_ff : (false != false) = false := rfl
theorem bn_tf : (true != false) = true := rfl
theorem bn_ft : (false != true) = true := rfl
theorem bn_tt : (true != true) = false := rfl
attribute [go_sem] bn_ff bn_tf bn_ft bn_tt
theorem set_self {l : List Bool} {i : Nat} : l.set i (l.getD i false) = l := by
 by_cases h : i < l.length
 ·rw [List.getD_eq_getElem?_getD,List.getElem?_eq_getElem h]; exact List.set_getElem_self h
 ·exact List.set_eq_of_length_le (by omega)
theorem r1class_l1_ok (R r0 r1 : Blk) (nt : Bool) (l : List Bool) (hl : l.length = 256) (T : List Blk) (Q : Out → Prop) (hQ : Q (.nrm,[(2,.bx 2 0),(4,.bx 3 0)],r0 :: r1 :: R :: setB (if nt = true then notL l else l) :: T)) : ∀ (n i : Nat),i + n = 256 →
  Wp Γ r11_reader_class_l1 [(2,.bx 2 0),(4,.bx 3 0),(5,.p (.bool nt)),(12,.p (.int .i64 (i : Int)))] (r0 :: r1 :: R :: setB (if nt = true then notL (l.take i) ++ l.drop i else l) :: T) (InBlk [2,4] 4 Q) := by
 intro n
 induction n with
 | zero =>
  intro i hi
  obtain rfl : i = 256 := by omega
  have e : notL (l.take 256) ++ l.drop 256 = notL l := by rw [List.take_of_length_le (by omega),List.drop_of_length_le (by omega),List.append_nil]
  rw [e]
  rw [W_loop (L := r11_reader_class_l1) rfl]
  simp (disch := first | assumption | omega | decide | (simp only [lens] <;> omega) | fail) only [go_sem]
  exact hQ
 | succ n ih =>
  intro i hi
  have ih := ih (i + 1) (by omega)
  cases nt
  ·rw [if_neg Bool.false_ne_true] at ih ⊢
   have es := @set_self l i
   cases h : l.getD i false <;> rw [h] at es
   ·rw [W_loop (L := r11_reader_class_l1) rfl]
    simp (disch := first | assumption | omega | decide | (simp only [lens] <;> omega) | fail) only [go_sem,h,es,bq_ff]
    exact ih
   ·rw [W_loop (L := r11_reader_class_l1) rfl]
    simp (disch := first | assumption | omega | decide | (simp only [lens] <;> omega) | fail) only [go_sem,h,es,bq_tf]
    exact ih
  ·rw [if_pos (Eq.refl true)] at ih ⊢
   have e1 := @not_set l i (by omega)
   have e2 := @not_get l i (by omega)
   rw [← e1] at ih
   have hlen : (notL (l.take i) ++ l.drop i).length = 256 := by simp [notL]; omega
   generalize notL (l.take i) ++ l.drop i = m at *
   cases h : l.getD i false <;> rw [h] at e2 ih
   ·rw [W_loop (L := r11_reader_class_l1) rfl]
    simp (disch := first | assumption | omega | decide | (simp only [lens] <;> omega) | fail) only [go_sem,e2,bq_ft]
    exact ih
   ·rw [W_loop (L := r11_reader_class_l1) rfl]
    simp (disch := first | assumption | omega | decide | (simp only [lens] <;> omega) | fail) only [go_sem,e2,bq_tt]
    exact ih
abbrev L2Env (_x c d : Int) (id : Nat) (nt : Bool) (i : Int) : Env := [(0,.bx 0 0),(2,.bx 2 0),(4,.bx 3 0),(5,.p (.bool nt)),(7,.p (.int .u8 c)),(8,.bx id 0),(10,.p (.int .u8 d)),(11,.p (.int .i64 i))]
theorem r1class_l2_wide (R r0 r1 : Blk) (nt : Bool) (l o : List Bool) (hl : l.length = 256) (ho : o.length = 256) (hne : o ≠ noneL) (c d : Int) (T : List Blk) (Q : Out → Prop) (hQ : Q (.nrm,[(0,.bx 0 0),(2,.bx 2 0),(4,.bx 3 0),(5,.p (.bool nt))],r0 :: r1 :: R :: setB (withL l o) :: (T ++ [setB o]))) : ∀ (n i : Nat),i + n = 256 →
  Wp Γ r11_reader_class_l2 (L2Env 0 c d (T.length + 4) nt (i : Int)) (r0 :: r1 :: R :: setB (withL (l.take i) (o.take i) ++ l.drop i) :: (T ++ [setB o])) (InBlk [0,2,4,5] 2 Q) := by
 have q1 : eqCells ks256 (bools o) (bools noneL) = some false := by unfold ks256; rw [eqCells_bools ho noneL_len,decide_eq_false hne]
 have hob : (bools o).length = 256 := by rw [bools_len,ho]
 intro n
 induction n with
 | zero =>
  intro i hi
  obtain rfl : i = 256 := by omega
  rw [List.take_of_length_le (by omega),List.take_of_length_le (by omega),List.drop_of_length_le (by omega),List.append_nil]
  rw [W_loop (L := r11_reader_class_l2) rfl]
  simp (disch := first | assumption | omega | decide | (simp only [lens] <;> omega) | fail) only [go_sem]
  exact hQ
 | succ n ih =>
  intro i hi
  have ih := ih (i + 1) (by omega)
  obtain ⟨e1,e2⟩ := @with_snoc l o i (by omega) (by omega)
  rw [← e1] at ih
  have hlen : (withL (l.take i) (o.take i) ++ l.drop i).length = 256 := by simp [withL]; omega
  generalize withL (l.take i) (o.take i) ++ l.drop i = m at *
  cases h1 : l.getD i false <;> cases h2 : o.getD i false <;> rw [h1,h2] at ih <;> rw [h1] at e2 <;> simp only [Bool.or_false,Bool.or_true] at ih
  ·rw [W_loop (L := r11_reader_class_l2) rfl]
   simp (disch := first | assumption | omega | decide | (simp only [lens] <;> omega) | fail) only [go_sem,e2,h2,q1,at_last]
   exact ih
  ·rw [W_loop (L := r11_reader_class_l2) rfl]
   simp (disch := first | assumption | omega | decide | (simp only [lens] <;> omega) | fail) only [go_sem,e2,h2,at_last]
   exact ih
  ·rw [W_loop (L := r11_reader_class_l2) rfl]
   simp (disch := first | assumption | omega | decide | (simp only [lens] <;> omega) | fail) only [go_sem,e2]
   exact ih
  ·rw [W_loop (L := r11_reader_class_l2) rfl]
   simp (disch := first | assumption | omega | decide | (simp only [lens] <;> omega) | fail) only [go_sem,e2]
   exact ih
theorem noneL_get {i : Nat} : noneL.getD i false = false := by
 unfold noneL
 rw [List.getD_eq_getElem?_getD,List.getElem?_replicate]
 split <;> rfl
theorem span_get {a b i : Nat} (h : i < 256) : (spanL a b).getD i false = (decide (a ≤ i) && decide (i ≤ b)) := by
 simp [spanL,List.getD_eq_getElem?_getD,h]
theorem r1class_l2_span (R r0 r1 : Blk) (nt : Bool) (l : List Bool) (hl : l.length = 256) (c d : Nat) (_hc : c < 256) (_hd : d < 256) (T : List Blk) (Q : Out → Prop) (hQ : Q (.nrm,[(0,.bx 0 0),(2,.bx 2 0),(4,.bx 3 0),(5,.p (.bool nt))],r0 :: r1 :: R :: setB (withL l (spanL c d)) :: (T ++ [setB noneL]))) : ∀ (n i : Nat),i + n = 256 →
  Wp Γ r11_reader_class_l2 (L2Env 0 c d (T.length + 4) nt (i : Int)) (r0 :: r1 :: R :: setB (withL (l.take i) ((spanL c d).take i) ++ l.drop i) :: (T ++ [setB noneL])) (InBlk [0,2,4,5] 2 Q) := by
 have q1 : eqCells ks256 (bools noneL) (bools noneL) = some true := by unfold ks256; rw [eqCells_bools noneL_len noneL_len,decide_eq_true (Eq.refl noneL)]
 have hob : (bools noneL).length = 256 := by rw [bools_len,noneL_len]
 have hzl := noneL_len
 have ho := @spanL_len c d
 intro n
 induction n with
 | zero =>
  intro i hi
  obtain rfl : i = 256 := by omega
  rw [List.take_of_length_le (by omega),List.take_of_length_le (by omega),List.drop_of_length_le (by omega),List.append_nil]
  rw [W_loop (L := r11_reader_class_l2) rfl]
  simp (disch := first | assumption | omega | decide | (simp only [lens] <;> omega) | fail) only [go_sem]
  exact hQ
 | succ n ih =>
  intro i hi
  have ih := ih (i + 1) (by omega)
  obtain ⟨e1,e2⟩ := @with_snoc l (spanL c d) i (by omega) (by omega)
  rw [← e1,span_get (by omega),@int_nat_le c i,@int_nat_le i d] at ih
  have hlen : (withL (l.take i) ((spanL c d).take i) ++ l.drop i).length = 256 := by simp [withL]; omega
  have hn0 := @noneL_get i
  generalize withL (l.take i) ((spanL c d).take i) ++ l.drop i = m at *
  cases h1 : l.getD i false <;> cases h2 : decide ((c : Int) ≤ (i : Int)) <;> cases h3 : decide ((i : Int) ≤ (d : Int)) <;> rw [h1,h2,h3] at ih <;> rw [h1] at e2 <;> simp only [Bool.or_false,Bool.or_true,Bool.and_true,Bool.and_false] at ih
  all_goals
   rw [W_loop (L := r11_reader_class_l2) rfl]
   simp (disch := first | assumption | omega | decide | (simp only [lens] <;> omega) | fail) only [go_sem,e2,h2,h3,hn0,q1,at_last]
   exact ih
abbrev DEnv (nt : Bool) (f : Bool) : Env := [(0,.bx 0 0),(2,.bx 2 0),(4,.bx 3 0),(5,.p (.bool nt)),(6,.p (.bool f))]
set_option maxRecDepth 10000 in
set_option maxHeartbeats 4000000 in
theorem r1class_l3_ok (s : List UInt8) (hs : s.length ≤ 4096) (d e g : Int) (m : Nat) (xs : List PV) (hx : xs.length = m) (nt : Bool) (Q : Out → Prop) : ∀ (n : Nat) (all : List Bool),all.length = 256 → ∀ (i : Nat) (first : Bool) (T : List Blk),i ≤ s.length → s.length < i + n →
    (match classS s n all i first with
     | some (A,j) => A.length = 256 → j < s.length → ∀ T',Q (.nrm,[(0,.bx 0 0),(2,.bx 2 0),(4,.bx 3 0),(5,.p (.bool nt))],r1B s j d e g m :: .row false 4 xs :: setB noneL :: setB A :: T')
     | none => ∀ (j : Nat) A T',A.length = 256 → Q (.ret,[(2,.bx 2 0),(3,.p (.bool false))],r1B s j d e g m :: .row false 4 xs :: setB A :: setB A :: T')) →
    Wp Γ r11_reader_class_l3 (DEnv nt first) (r1B s i d e g m :: .row false 4 xs :: setB noneL :: setB all :: T) (InBlk [0,2,4,5] 0 Q) := by
  have hz : (bools noneL).length = 256 := by rw [bools_len,noneL_len]
  have hzl := noneL_len
  have q1 : eqCells ks256 (bools noneL) (bools noneL) = some true := by unfold ks256; rw [eqCells_bools noneL_len noneL_len,decide_eq_true (Eq.refl noneL)]
  intro n
  induction n with
  | zero => intro all hall i first T hi hn; omega
  | succ n ih =>
    intro all hall i first T hi hn hQ
    have hab : (bools all).length = 256 := by rw [bools_len,hall]
    have ei : res Γ 327 [.ptr (r1P s i d e g xs),.int .u8 93] = some [.bool (isS2 s i 93)] := res_more s hs i d e g xs 93
    unfold classS at hQ
    by_cases hend : first = false ∧ i < s.length ∧ bt s i = 93
    · rw [if_pos hend] at hQ
      obtain ⟨hf,h1,h2⟩ := hend
      subst hf
      have : isS2 s i 93 = true := by unfold isS2; rw [decide_eq_true h1,decide_eq_true h2]; rfl
      rw [this] at ei
      rw [W_loop (L := r11_reader_class_l3) rfl]
      simp (disch := first | assumption | omega | decide | (simp only [lens] <;> omega) | fail) only [go_sem,ei]
      exact hQ hall h1 T
    · rw [if_neg hend] at hQ
      have hgo : first = true ∨ (first = false ∧ isS2 s i 93 = false) := by
        cases first
        · refine .inr ⟨rfl,?_⟩
          unfold isS2
          rw [← Bool.decide_and,decide_eq_false_iff_not]
          exact fun h => hend ⟨rfl,h⟩
        · exact .inl rfl
      have eS := resM_item s hs i (by omega) d e g m xs hx
      have key : ∀ (f : Bool),(f = true ∨ (f = false ∧ isS2 s i 93 = false)) → Wp Γ r11_reader_class_l3 (DEnv nt f) (r1B s i d e g m :: .row false 4 xs :: setB noneL :: setB all :: T) (InBlk [0,2,4,5] 0 Q) := by
        intro f hf
        cases hit : itemS s i with
        | none =>
          rw [hit] at hQ eS
          obtain ⟨c,S,j,hS,eS⟩ := eS
          have hSb : (bools S).length = 256 := by rw [bools_len,hS]
          rcases hf with rfl | ⟨rfl,hf⟩
          · rw [W_loop (L := r11_reader_class_l3) rfl]
            simp (disch := first | assumption | omega | decide | (simp only [lens] <;> omega) | fail) only [go_sem,eS,st375,at_last,set_last]
            exact hQ j all _ hall
          · rw [hf] at ei
            rw [W_loop (L := r11_reader_class_l3) rfl]
            simp (disch := first | assumption | omega | decide | (simp only [lens] <;> omega) | fail) only [go_sem,eS,ei,st375,at_last,set_last]
            exact hQ j all _ hall
        | some x =>
          obtain ⟨c,w,j⟩ := x
          rw [hit] at hQ eS
          obtain ⟨k1,k2,k3,k4⟩ := itemS_lt hit
          dsimp only at hQ eS
          cases w
          · rw [if_neg Bool.false_ne_true] at hQ eS
            rw [if_neg Bool.false_ne_true] at eS
            have em : res Γ 327 [.ptr (r1P s j d e g xs),.int .u8 45] = some [.bool (isS2 s j 45)] := res_more s hs j d e g xs 45
            have ex : res Γ 376 [.ptr (r1P s j d e g xs),.int .i64 ((j : Int) + 1)] = some [.bool (sixAt s (j + 1))] := res_sixAt s hs (j + 1) (by omega) j d e g xs
            have s1 : ((j : Int) + 1).toNat = j + 1 := by omega
            cases hr : rangesS s j
            · rw [hr] at hQ
              rw [if_neg Bool.false_ne_true] at hQ
              have ih := fun T' => ih (withL all (spanL c c)) (by rw [withL_len (by rw [hall,spanL_len]),hall]) j false T' k3 (by omega) hQ
              have L := fun Q hQ => r1class_l2_span (setB noneL) (r1B s j d e g m) (.row false 4 xs) nt all hall c c k1 k1 T Q hQ 256 0 (by omega)
              cases c1 : isS2 s j 45
              · rw [c1] at em
                rcases hf with rfl | ⟨rfl,hf⟩
                · rw [W_loop (L := r11_reader_class_l3) rfl]
                  simp (disch := first | assumption | omega | decide | (simp only [lens] <;> omega) | fail) only [go_sem,eS,em,q1,st375,at_last,set_last]
                  refine L _ ?_
                  simp (disch := first | assumption | omega | decide | (simp only [lens] <;> omega) | fail) only [go_sem]
                  exact ih _
                · rw [hf] at ei
                  rw [W_loop (L := r11_reader_class_l3) rfl]
                  simp (disch := first | assumption | omega | decide | (simp only [lens] <;> omega) | fail) only [go_sem,eS,em,q1,ei,st375,at_last,set_last]
                  refine L _ ?_
                  simp (disch := first | assumption | omega | decide | (simp only [lens] <;> omega) | fail) only [go_sem]
                  exact ih _
              · rw [c1] at em
                have hj45 : bt s j = 45 := by
                  unfold isS2 at c1
                  rw [Bool.and_eq_true] at c1
                  exact of_decide_eq_true c1.2
                by_cases c2 : j + 1 < s.length
                · by_cases c3 : bt s (j + 1) = 93
                  · have hb : byt s (j + 1) = 93 := by rw [byt_bt,c3]; rfl
                    rcases hf with rfl | ⟨rfl,hf⟩
                    · rw [W_loop (L := r11_reader_class_l3) rfl]
                      simp (disch := first | assumption | omega | decide | (simp only [lens] <;> omega) | fail) only [go_sem,eS,em,q1,s1,hb,st375,at_last,set_last,ne_eq,not_true_eq_false]
                      refine L _ ?_
                      simp (disch := first | assumption | omega | decide | (simp only [lens] <;> omega) | fail) only [go_sem]
                      exact ih _
                    · rw [hf] at ei
                      rw [W_loop (L := r11_reader_class_l3) rfl]
                      simp (disch := first | assumption | omega | decide | (simp only [lens] <;> omega) | fail) only [go_sem,eS,em,q1,s1,hb,ei,st375,at_last,set_last,ne_eq,not_true_eq_false]
                      refine L _ ?_
                      simp (disch := first | assumption | omega | decide | (simp only [lens] <;> omega) | fail) only [go_sem]
                      exact ih _
                  · have hb : ¬ byt s (j + 1) = 93 := by rw [byt_bt]; omega
                    have c4 : sixAt s (j + 1) = true := by
                      unfold rangesS at hr
                      rw [decide_eq_true c2,decide_eq_true hj45,decide_eq_false c3] at hr
                      simpa using hr
                    rw [c4] at ex
                    rcases hf with rfl | ⟨rfl,hf⟩
                    · rw [W_loop (L := r11_reader_class_l3) rfl]
                      simp (disch := first | assumption | omega | decide | (simp only [lens] <;> omega) | fail) only [go_sem,eS,em,ex,q1,s1,hb,st375,at_last,set_last,ne_eq]
                      refine L _ ?_
                      simp (disch := first | assumption | omega | decide | (simp only [lens] <;> omega) | fail) only [go_sem]
                      exact ih _
                    · rw [hf] at ei
                      rw [W_loop (L := r11_reader_class_l3) rfl]
                      simp (disch := first | assumption | omega | decide | (simp only [lens] <;> omega) | fail) only [go_sem,eS,em,ex,q1,s1,hb,ei,st375,at_last,set_last,ne_eq]
                      refine L _ ?_
                      simp (disch := first | assumption | omega | decide | (simp only [lens] <;> omega) | fail) only [go_sem]
                      exact ih _
                · 
                  rcases hf with rfl | ⟨rfl,hf⟩
                  · rw [W_loop (L := r11_reader_class_l3) rfl]
                    simp (disch := first | assumption | omega | decide | (simp only [lens] <;> omega) | fail) only [go_sem,eS,em,q1,st375,at_last,set_last]
                    refine L _ ?_
                    simp (disch := first | assumption | omega | decide | (simp only [lens] <;> omega) | fail) only [go_sem]
                    exact ih _
                  · rw [hf] at ei
                    rw [W_loop (L := r11_reader_class_l3) rfl]
                    simp (disch := first | assumption | omega | decide | (simp only [lens] <;> omega) | fail) only [go_sem,eS,em,q1,ei,st375,at_last,set_last]
                    refine L _ ?_
                    simp (disch := first | assumption | omega | decide | (simp only [lens] <;> omega) | fail) only [go_sem]
                    exact ih _
            · rw [hr] at hQ
              rw [if_pos (Eq.refl true)] at hQ
              obtain ⟨⟨⟨c2,hj45⟩,c3⟩,c4⟩ : ((j + 1 < s.length ∧ bt s j = 45) ∧ ¬ bt s (j + 1) = 93) ∧ sixAt s (j + 1) = false := by
                unfold rangesS at hr
                simpa only [Bool.and_eq_true,decide_eq_true_eq,Bool.not_eq_true',decide_eq_false_iff_not] using hr
              have c1 : isS2 s j 45 = true := by unfold isS2; rw [decide_eq_true (show j < s.length by omega),decide_eq_true hj45]; rfl
              have hb : ¬ byt s (j + 1) = 93 := by rw [byt_bt]; omega
              rw [c1] at em
              rw [c4] at ex
              have eS2 := resM_item s hs (j + 1) (by omega) d e g m xs hx
              cases hit2 : itemS s (j + 1) with
              | none =>
                rw [hit2] at hQ eS2
                obtain ⟨c2',S,j2,hS,eS2⟩ := eS2
                have eS2 : resM Γ 2 375 [.bx 0 0] [r1B s ((j : Int) + 1) d e g m,.row false 4 xs] = _ := eS2
                have hSb : (bools S).length = 256 := by rw [bools_len,hS]
                rcases hf with rfl | ⟨rfl,hf⟩
                · rw [W_loop (L := r11_reader_class_l3) rfl]
                  simp (disch := first | assumption | omega | decide | (simp only [lens] <;> omega) | fail) only [go_sem,eS,eS2,em,ex,q1,s1,hb,st375,at_last,set_last,ne_eq]
                  exact hQ j2 all _ hall
                · rw [hf] at ei
                  rw [W_loop (L := r11_reader_class_l3) rfl]
                  simp (disch := first | assumption | omega | decide | (simp only [lens] <;> omega) | fail) only [go_sem,eS,eS2,em,ex,q1,s1,hb,ei,st375,at_last,set_last,ne_eq]
                  exact hQ j2 all _ hall
              | some y =>
                obtain ⟨c2',w2,j2⟩ := y
                rw [hit2] at hQ eS2
                obtain ⟨m1,m2,m3,m4⟩ := itemS_lt hit2
                dsimp only at hQ eS2
                have hw2 : w2 = false := by
                  cases w2
                  · rfl
                  · exfalso
                    have h6 := m4 rfl
                    unfold itemS at hit2
                    rw [if_neg (by omega)] at hit2
                    split at hit2
                    · rename_i h92
                      split at hit2
                      · cases hit2
                      · rename_i hl2
                        split at hit2
                        · rename_i h66
                          unfold sixAt at c4
                          rw [decide_eq_true (show j + 1 + 1 < s.length by omega),decide_eq_true h92,h66] at c4
                          cases c4
                        · split at hit2
                          · cases hit2
                          · simp only [Option.some.injEq,Prod.mk.injEq] at hit2
                            exact absurd hit2.2.1 (by decide)
                    · simp only [Option.some.injEq,Prod.mk.injEq] at hit2
                      exact absurd hit2.2.1 (by decide)
                subst hw2
                rw [if_neg Bool.false_ne_true] at eS2
                rw [if_neg Bool.false_ne_true] at eS2
                have eS2 : resM Γ 2 375 [.bx 0 0] [r1B s ((j : Int) + 1) d e g m,.row false 4 xs] = _ := eS2
                by_cases hlt : c2' < c
                · rw [if_pos hlt] at hQ
                  rcases hf with rfl | ⟨rfl,hf⟩
                  · rw [W_loop (L := r11_reader_class_l3) rfl]
                    simp (disch := first | assumption | omega | decide | (simp only [lens] <;> omega) | fail) only [go_sem,eS,eS2,em,ex,q1,s1,hb,st375,at_last,set_last,ne_eq]
                    exact hQ j2 all _ hall
                  · rw [hf] at ei
                    rw [W_loop (L := r11_reader_class_l3) rfl]
                    simp (disch := first | assumption | omega | decide | (simp only [lens] <;> omega) | fail) only [go_sem,eS,eS2,em,ex,q1,s1,hb,ei,st375,at_last,set_last,ne_eq]
                    exact hQ j2 all _ hall
                · rw [if_neg hlt] at hQ
                  have ih := fun T' => ih (withL all (spanL c c2')) (by rw [withL_len (by rw [hall,spanL_len]),hall]) j2 false T' m3 (by omega) hQ
                  have L := fun Q hQ => r1class_l2_span (setB noneL) (r1B s j2 d e g m) (.row false 4 xs) nt all hall c c2' k1 m1 T Q hQ 256 0 (by omega)
                  rcases hf with rfl | ⟨rfl,hf⟩
                  · rw [W_loop (L := r11_reader_class_l3) rfl]
                    simp (disch := first | assumption | omega | decide | (simp only [lens] <;> omega) | fail) only [go_sem,eS,eS2,em,ex,q1,s1,hb,st375,at_last,set_last,ne_eq]
                    refine L _ ?_
                    simp (disch := first | assumption | omega | decide | (simp only [lens] <;> omega) | fail) only [go_sem]
                    exact ih _
                  · rw [hf] at ei
                    rw [W_loop (L := r11_reader_class_l3) rfl]
                    simp (disch := first | assumption | omega | decide | (simp only [lens] <;> omega) | fail) only [go_sem,eS,eS2,em,ex,q1,s1,hb,ei,st375,at_last,set_last,ne_eq]
                    refine L _ ?_
                    simp (disch := first | assumption | omega | decide | (simp only [lens] <;> omega) | fail) only [go_sem]
                    exact ih _
          · rw [if_pos (Eq.refl true)] at hQ eS
            rw [if_pos (Eq.refl true)] at eS
            have hob : (bools (sixL c)).length = 256 := by rw [bools_len,sixL_len]
            have q2 : eqCells ks256 (bools (sixL c)) (bools noneL) = some false := by unfold ks256; rw [eqCells_bools sixL_len noneL_len,decide_eq_false (sixL_ne (k4 rfl))]
            have ih := fun T' => ih (withL all (sixL c)) (by rw [withL_len (by rw [hall,sixL_len]),hall]) j false T' k3 (by omega) hQ
            have L := fun Q hQ => r1class_l2_wide (setB noneL) (r1B s j d e g m) (.row false 4 xs) nt all (sixL c) hall sixL_len (sixL_ne (k4 rfl)) 0 0 T Q hQ 256 0 (by omega)
            rcases hf with rfl | ⟨rfl,hf⟩
            · rw [W_loop (L := r11_reader_class_l3) rfl]
              simp (disch := first | assumption | omega | decide | (simp only [lens] <;> omega) | fail) only [go_sem,eS,q2,st375,at_last,set_last]
              refine L _ ?_
              simp (disch := first | assumption | omega | decide | (simp only [lens] <;> omega) | fail) only [go_sem]
              exact ih _
            · rw [hf] at ei
              rw [W_loop (L := r11_reader_class_l3) rfl]
              simp (disch := first | assumption | omega | decide | (simp only [lens] <;> omega) | fail) only [go_sem,eS,q2,ei,st375,at_last,set_last]
              refine L _ ?_
              simp (disch := first | assumption | omega | decide | (simp only [lens] <;> omega) | fail) only [go_sem]
              exact ih _
      exact key first hgo
end Ab
namespace Ab
open Go (IntKind BinOp UnOp)
set_option maxRecDepth 10000 in
set_option maxHeartbeats 1000000 in
theorem resM_r1class (s : List UInt8) (hs : s.length ≤ 4096) (i : Nat) (hi : i < s.length) (d e g : Int) (m : Nat) (xs : List PV) (hx : xs.length = m) :
  match classT s (i + 1) with
  | some (A,j) => A.length = 256 ∧ resM Γ 2 365 [.bx 0 0] [r1B s i d e g m,.row false 4 xs] = some ([.p (setP A),.p (.bool true)],[r1B s j d e g m,.row false 4 xs])
  | none => ∃ (A : List Bool) (j : Nat),A.length = 256 ∧ resM Γ 2 365 [.bx 0 0] [r1B s i d e g m,.row false 4 xs] = some ([.p (setP A),.p (.bool false)],[r1B s j d e g m,.row false 4 xs]) := by
 have hz : (bools noneL).length = 256 := by rw [bools_len,noneL_len]
 have em : res Γ 327 [.ptr (r1P s ((i : Int) + 1) d e g xs),.int .u8 94] = some [.bool (isS2 s (i + 1) 94)] := res_more s hs (i + 1) d e g xs 94
 unfold classT
 cases h94 : isS2 s (i + 1) 94
 ·rw [h94] at em
  rw [if_neg Bool.false_ne_true]
  cases hc : classS s (s.length + 1) noneL (i + 1) true with
  | none =>
   have L : ∀ (Q : Out → Prop),(∀ (j : Nat) A T',A.length = 256 → Q (.ret,[(2,.bx 2 0),(3,.p (.bool false))],r1B s j d e g m :: .row false 4 xs :: setB A :: setB A :: T')) → Wp Γ r11_reader_class_l3 (DEnv false true) (r1B s (i + 1 : Nat) d e g m :: .row false 4 xs :: setB noneL :: setB noneL :: []) (InBlk [0,2,4,5] 0 Q) := fun Q h => r1class_l3_ok s hs d e g m xs hx false Q (s.length + 1) noneL noneL_len (i + 1) true [] (by omega) (by omega) (by rw [hc]; exact h)
   have := resM_ex (k := 2) (f := 365) (fn := r11_reader_class) (args := [.bx 0 0]) (HL := [r1B s i d e g m,.row false 4 xs]) (K := fun r => ∃ (A : List Bool) (j : Nat),A.length = 256 ∧ r = ([.p (setP A),.p (.bool false)],[r1B s j d e g m,.row false 4 xs])) rfl rfl (by
    simp (disch := first | assumption | omega | decide | (simp only [lens] <;> omega) | fail) only [go_sem,r11_reader_class,em]
    refine L _ (fun j A T' hA => ?_)
    have hAb : (bools A).length = 256 := by rw [bools_len,hA]
    simp (disch := first | assumption | omega | decide | (simp only [lens] <;> omega) | fail) only [go_sem]
    refine ⟨([.p (setP A),.p (.bool false)],[r1B s j d e g m,.row false 4 xs]),?_,⟨A,j,hA,rfl⟩⟩
    simp (disch := first | assumption | omega | decide | (simp only [lens] <;> omega) | fail) only [go_sem])
   obtain ⟨r,hr,A,j,hA,rfl⟩ := this
   exact ⟨A,j,hA,hr⟩
  | some r =>
   obtain ⟨A,j⟩ := r
   obtain ⟨hA,hj⟩ := classS_len noneL_len hc
   have hAb : (bools A).length = 256 := by rw [bools_len,hA]
   have hnl : (bools (notL A)).length = 256 := by simp [notL,hA,bools]
   have L : ∀ (Q : Out → Prop),(A.length = 256 → j < s.length → ∀ T',Q (.nrm,[(0,.bx 0 0),(2,.bx 2 0),(4,.bx 3 0),(5,.p (.bool false))],r1B s j d e g m :: .row false 4 xs :: setB noneL :: setB A :: T')) → Wp Γ r11_reader_class_l3 (DEnv false true) (r1B s (i + 1 : Nat) d e g m :: .row false 4 xs :: setB noneL :: setB noneL :: []) (InBlk [0,2,4,5] 0 Q) := fun Q h => r1class_l3_ok s hs d e g m xs hx false Q (s.length + 1) noneL noneL_len (i + 1) true [] (by omega) (by omega) (by rw [hc]; exact h)
   refine ⟨hA,resM_code (fn := r11_reader_class) rfl rfl ?_⟩
   simp (disch := first | assumption | omega | decide | (simp only [lens] <;> omega) | fail) only [go_sem,r11_reader_class,em]
   refine L _ (fun _ _ T' => ?_)
   simp (disch := first | assumption | omega | decide | (simp only [lens] <;> omega) | fail) only [go_sem]
   refine r1class_l1_ok (setB noneL) (r1B s ((j : Int) + 1) d e g m) (.row false 4 xs) false A hA T' _ ?_ 256 0 (by omega)
   simp (disch := first | assumption | omega | decide | (simp only [lens] <;> omega) | fail) only [go_sem,Bool.false_eq_true,if_false]
   rfl
 ·rw [h94] at em
  rw [if_pos (Eq.refl true)]
  have hi1 : i + 1 + 1 ≤ s.length := by
   unfold isS2 at h94
   rw [Bool.and_eq_true] at h94
   have := of_decide_eq_true h94.1
   omega
  cases hc : classS s (s.length + 1) noneL (i + 1 + 1) true with
  | none =>
   have L : ∀ (Q : Out → Prop),(∀ (j : Nat) A T',A.length = 256 → Q (.ret,[(2,.bx 2 0),(3,.p (.bool false))],r1B s j d e g m :: .row false 4 xs :: setB A :: setB A :: T')) → Wp Γ r11_reader_class_l3 (DEnv true true) (r1B s (i + 1 + 1 : Nat) d e g m :: .row false 4 xs :: setB noneL :: setB noneL :: []) (InBlk [0,2,4,5] 0 Q) := fun Q h => r1class_l3_ok s hs d e g m xs hx true Q (s.length + 1) noneL noneL_len (i + 1 + 1) true [] (by omega) (by omega) (by rw [hc]; exact h)
   have := resM_ex (k := 2) (f := 365) (fn := r11_reader_class) (args := [.bx 0 0]) (HL := [r1B s i d e g m,.row false 4 xs]) (K := fun r => ∃ (A : List Bool) (j : Nat),A.length = 256 ∧ r = ([.p (setP A),.p (.bool false)],[r1B s j d e g m,.row false 4 xs])) rfl rfl (by
    simp (disch := first | assumption | omega | decide | (simp only [lens] <;> omega) | fail) only [go_sem,r11_reader_class,em]
    refine L _ (fun j A T' hA => ?_)
    have hAb : (bools A).length = 256 := by rw [bools_len,hA]
    simp (disch := first | assumption | omega | decide | (simp only [lens] <;> omega) | fail) only [go_sem]
    refine ⟨([.p (setP A),.p (.bool false)],[r1B s j d e g m,.row false 4 xs]),?_,⟨A,j,hA,rfl⟩⟩
    simp (disch := first | assumption | omega | decide | (simp only [lens] <;> omega) | fail) only [go_sem])
   obtain ⟨r,hr,A,j,hA,rfl⟩ := this
   exact ⟨A,j,hA,hr⟩
  | some r =>
   obtain ⟨A,j⟩ := r
   obtain ⟨hA,hj⟩ := classS_len noneL_len hc
   have hAb : (bools A).length = 256 := by rw [bools_len,hA]
   have hnl : (bools (notL A)).length = 256 := by simp [notL,hA,bools]
   have L : ∀ (Q : Out → Prop),(A.length = 256 → j < s.length → ∀ T',Q (.nrm,[(0,.bx 0 0),(2,.bx 2 0),(4,.bx 3 0),(5,.p (.bool true))],r1B s j d e g m :: .row false 4 xs :: setB noneL :: setB A :: T')) → Wp Γ r11_reader_class_l3 (DEnv true true) (r1B s (i + 1 + 1 : Nat) d e g m :: .row false 4 xs :: setB noneL :: setB noneL :: []) (InBlk [0,2,4,5] 0 Q) := fun Q h => r1class_l3_ok s hs d e g m xs hx true Q (s.length + 1) noneL noneL_len (i + 1 + 1) true [] (by omega) (by omega) (by rw [hc]; exact h)
   refine ⟨by simp [notL,hA],resM_code (fn := r11_reader_class) rfl rfl ?_⟩
   simp (disch := first | assumption | omega | decide | (simp only [lens] <;> omega) | fail) only [go_sem,r11_reader_class,em]
   refine L _ (fun _ _ T' => ?_)
   simp (disch := first | assumption | omega | decide | (simp only [lens] <;> omega) | fail) only [go_sem]
   refine r1class_l1_ok (setB noneL) (r1B s ((j : Int) + 1) d e g m) (.row false 4 xs) true A hA T' _ ?_ 256 0 (by omega)
   simp (disch := first | assumption | omega | decide | (simp only [lens] <;> omega) | fail) only [go_sem,if_true]
   rfl
def dotL : List Bool := notL (oneL 10)
theorem dotL_len : dotL.length = 256 := by unfold dotL notL; rw [List.length_map,oneL_len]
theorem dotL_get {i : Nat} (h : i < 256) : dotL.getD i false = decide ((i : Int) ≠ 10) := by
 have e : (oneL 10)[i]? = some (decide (i = 10)) := by
  unfold oneL
  rw [List.getElem?_set]
  by_cases h1 : 10 = i
  ·subst h1; rw [if_pos rfl,if_pos (by rw [noneL_len]; omega)]; rfl
  ·rw [if_neg h1,decide_eq_false (fun e => h1 e.symm)]
   unfold noneL
   rw [List.getElem?_replicate,if_pos h]
 unfold dotL notL
 rw [List.getD_eq_getElem?_getD,List.getElem?_map,e,Option.map_some,Option.getD_some,← decide_not,decide_eq_decide]
 omega
theorem gen_snoc {o : List Bool} {i : Nat} (ho : o.length = 256) (h : i < 256) : (o.take i ++ noneL.drop i).set i (o.getD i false) = o.take (i + 1) ++ noneL.drop (i + 1) := by
 have hz := noneL_len
 have e1 : (o.take i).length = i := by rw [List.length_take]; omega
 rw [List.set_append_right _ _ (by omega),e1,Nat.sub_self,List.drop_eq_getElem_cons (by omega),List.set_cons_zero,List.take_succ_eq_append_getElem (by omega),List.append_assoc,List.getD_eq_getElem?_getD,List.getElem?_eq_getElem (by omega)]
 rfl
theorem r1set_l1_ok (r0 r1 R : Blk) (Q : Out → Prop) (hQ : Q (.nrm,[(2,.bx 2 0),(4,.bx 3 0)],[r0,r1,R,setB dotL])) : ∀ (n i : Nat),i + n = 256 →
  Wp Γ r11_reader_set_l1 [(2,.bx 2 0),(4,.bx 3 0),(6,.p (.int .i64 (i : Int)))] [r0,r1,R,setB (dotL.take i ++ noneL.drop i)] (InBlk [2,4] 1 Q) := by
 have hl := dotL_len
 have hz := noneL_len
 intro n
 induction n with
 | zero =>
  intro i hi
  obtain rfl : i = 256 := by omega
  rw [List.take_of_length_le (by omega),List.drop_of_length_le (by omega),List.append_nil]
  rw [W_loop (L := r11_reader_set_l1) rfl]
  simp (disch := first | assumption | omega | decide | (simp only [lens] <;> omega) | fail) only [go_sem]
  exact hQ
 | succ n ih =>
  intro i hi
  have ih := ih (i + 1) (by omega)
  rw [← gen_snoc dotL_len (by omega),dotL_get (by omega)] at ih
  have hlen : (dotL.take i ++ noneL.drop i).length = 256 := by rw [List.length_append,List.length_take,List.length_drop]; omega
  generalize dotL.take i ++ noneL.drop i = m at *
  rw [W_loop (L := r11_reader_set_l1) rfl]
  simp (disch := first | assumption | omega | decide | (simp only [lens] <;> omega) | fail) only [go_sem]
  exact ih
def setS (s : List UInt8) (i : Nat) : Option (List Bool × Nat) :=
 if bt s i = 46 then some (dotL,i + 1) else if bt s i = 91 then classT s (i + 1) else if bt s i = 92 then (match itemS s i with | some (c,w,j) => some (if w = true then sixL c else oneL c,j) | none => none)
 else if specB (bt s i) = true then none else some (oneL (bt s i),i + 1)
theorem st365 : stillF Γ 2 365 = true := by kernel_rfl
set_option maxRecDepth 10000 in
set_option maxHeartbeats 1000000 in
theorem resM_r1set (s : List UInt8) (hs : s.length ≤ 4096) (i : Nat) (hi : i < s.length) (d e g : Int) (m : Nat) (xs : List PV) (hx : xs.length = m) :
  match setS s i with
  | some (A,j) => A.length = 256 ∧ resM Γ 2 361 [.bx 0 0] [r1B s i d e g m,.row false 4 xs] = some ([.p (setP A),.p (.bool true)],[r1B s j d e g m,.row false 4 xs])
  | none => ∃ (A : List Bool) (j : Nat),A.length = 256 ∧ resM Γ 2 361 [.bx 0 0] [r1B s i d e g m,.row false 4 xs] = some ([.p (setP A),.p (.bool false)],[r1B s j d e g m,.row false 4 xs]) := by
 have hz : (bools noneL).length = 256 := by rw [bools_len,noneL_len]
 have hzl := noneL_len
 have hdl : (bools dotL).length = 256 := by rw [bools_len,dotL_len]
 unfold setS
 by_cases h46 : bt s i = 46
 ·rw [if_pos h46]
  have hb : byt s i = 46 := by rw [byt_bt,h46]; rfl
  refine ⟨dotL_len,resM_code (fn := r11_reader_set) rfl rfl ?_⟩
  simp (disch := first | assumption | omega | decide | (simp only [lens] <;> omega) | fail) only [go_sem,r11_reader_set,hb]
  refine r1set_l1_ok (r1B s ((i : Int) + 1) d e g m) (.row false 4 xs) (setB noneL) _ ?_ 256 0 (by omega)
  simp (disch := first | assumption | omega | decide | (simp only [lens] <;> omega) | fail) only [go_sem]
  rfl
 ·have n46 : ¬ byt s i = 46 := by rw [byt_bt]; omega
  rw [if_neg h46]
  by_cases h91 : bt s i = 91
  ·rw [if_pos h91]
   have hb : byt s i = 91 := by rw [byt_bt,h91]; rfl
   have eC := resM_r1class s hs i hi d e g m xs hx
   cases hc : classT s (i + 1) with
   | none =>
    rw [hc] at eC
    obtain ⟨A,j,hA,eC⟩ := eC
    have hAb : (bools A).length = 256 := by rw [bools_len,hA]
    refine ⟨A,j,hA,resM_code (fn := r11_reader_set) rfl rfl ?_⟩
    simp (disch := first | assumption | omega | decide | (simp only [lens] <;> omega) | fail) only [go_sem,r11_reader_set,hb,eC,st365]
   | some r =>
    obtain ⟨A,j⟩ := r
    rw [hc] at eC
    obtain ⟨hA,eC⟩ := eC
    have hAb : (bools A).length = 256 := by rw [bools_len,hA]
    refine ⟨hA,resM_code (fn := r11_reader_set) rfl rfl ?_⟩
    simp (disch := first | assumption | omega | decide | (simp only [lens] <;> omega) | fail) only [go_sem,r11_reader_set,hb,eC,st365]
  ·have n91 : ¬ byt s i = 91 := by rw [byt_bt]; omega
   rw [if_neg h91]
   by_cases h92 : bt s i = 92
   ·rw [if_pos h92]
    have hb : byt s i = 92 := by rw [byt_bt,h92]; rfl
    have eS := resM_stroke s hs i (by omega) d e g m xs hx
    have q1 : eqCells ks256 (bools noneL) (bools noneL) = some true := by unfold ks256; rw [eqCells_bools noneL_len noneL_len,decide_eq_true (Eq.refl noneL)]
    unfold itemS
    rw [if_neg (by omega),if_pos h92]
    unfold strokeR at eS
    by_cases h1 : s.length ≤ i + 1
    ·rw [if_pos h1] at eS
     rw [if_pos h1]
     refine ⟨noneL,i,noneL_len,resM_code (fn := r11_reader_set) rfl rfl ?_⟩
     simp (disch := first | assumption | omega | decide | (simp only [lens] <;> omega) | fail) only [go_sem,r11_reader_set,hb,eS,st366]
    ·rw [if_neg h1] at eS
     rw [if_neg h1]
     cases h6 : sixB (bt s (i + 1))
     ·rw [h6,if_neg Bool.false_ne_true] at eS
      rw [if_neg Bool.false_ne_true]
      cases hw : wordN (bt s (i + 1))
      ·rw [hw] at eS
       rw [if_neg Bool.false_ne_true]
       have ho : (bools (oneL (bt s (i + 1)))).length = 256 := by rw [bools_len,oneL_len]
       have e1 : noneL.set (bt s (i + 1)) true = oneL (bt s (i + 1)) := rfl
       have hlt := @bt_lt s (i + 1)
       refine ⟨oneL_len,?_⟩
       show resM Γ 2 361 [.bx 0 0] [r1B s i d e g m,.row false 4 xs] = some ([.p (setP (oneL (bt s (i + 1)))),.p (.bool true)],[r1B s ((i : Int) + 2) d e g m,.row false 4 xs])
       refine resM_code (fn := r11_reader_set) rfl rfl ?_
       simp (disch := first | assumption | omega | decide | (simp only [lens] <;> omega) | fail) only [go_sem,r11_reader_set,hb,eS,st366,q1,e1,Bool.not_false]
       rfl
      ·rw [hw] at eS
       rw [if_pos (Eq.refl true)]
       refine ⟨noneL,i + 2,noneL_len,resM_code (fn := r11_reader_set) rfl rfl ?_⟩
       simp (disch := first | assumption | omega | decide | (simp only [lens] <;> omega) | fail) only [go_sem,r11_reader_set,hb,eS,st366,Bool.not_true]
     ·rw [h6,if_pos (Eq.refl true)] at eS
      rw [if_pos (Eq.refl true)]
      have h6l : (bools (sixL (bt s (i + 1)))).length = 256 := by rw [bools_len,sixL_len]
      have q2 : eqCells ks256 (bools (sixL (bt s (i + 1)))) (bools noneL) = some false := by unfold ks256; rw [eqCells_bools sixL_len noneL_len,decide_eq_false (sixL_ne h6)]
      refine ⟨sixL_len,?_⟩
      show resM Γ 2 361 [.bx 0 0] [r1B s i d e g m,.row false 4 xs] = some ([.p (setP (sixL (bt s (i + 1)))),.p (.bool true)],[r1B s ((i : Int) + 2) d e g m,.row false 4 xs])
      refine resM_code (fn := r11_reader_set) rfl rfl ?_
      simp (disch := first | assumption | omega | decide | (simp only [lens] <;> omega) | fail) only [go_sem,r11_reader_set,hb,eS,st366,q2]
      rfl
   ·have n92 : ¬ byt s i = 92 := by rw [byt_bt]; omega
    rw [if_neg h92]
    have eP : res Γ 367 [.int .u8 (byt s i)] = _ := res_special (bt s i) bt_lt
    cases hp : specB (bt s i)
    ·rw [hp] at eP
     rw [if_neg Bool.false_ne_true]
     have ho : (bools (oneL (bt s i))).length = 256 := by rw [bools_len,oneL_len]
     have hlt := @bt_lt s i
     have e1 : noneL.set (bt s i) true = oneL (bt s i) := rfl
     have e2 : (byt s i).toNat = bt s i := rfl
     have e3 : 0 ≤ byt s i := byt_nonneg
     have e4 : byt s i < 256 := by have := @byt_le s i; omega
     refine ⟨oneL_len,?_⟩
     show resM Γ 2 361 [.bx 0 0] [r1B s i d e g m,.row false 4 xs] = some ([.p (setP (oneL (bt s i))),.p (.bool true)],[r1B s ((i : Int) + 1) d e g m,.row false 4 xs])
     refine resM_code (fn := r11_reader_set) rfl rfl ?_
     simp (disch := first | assumption | omega | decide | (simp only [lens] <;> omega) | fail) only [go_sem,r11_reader_set,eP,e2,e1]
    ·rw [hp] at eP
     rw [if_pos (Eq.refl true)]
     refine ⟨noneL,i,noneL_len,resM_code (fn := r11_reader_set) rfl rfl ?_⟩
     simp (disch := first | assumption | omega | decide | (simp only [lens] <;> omega) | fail) only [go_sem,r11_reader_set,eP]
end Ab
namespace Ab
inductive Pc where
 | inst (op : Nat) (p : List UInt8)
 | nil
 | cons (a r : Pc)
 | alt (a r : Pc)
 | grp (g : Nat) (k : Pc)
 | rep (c : Nat) (lazy : Bool) (k : Pc)
abbrev Ins := Int × Int × Int × List UInt8
def lenP : Pc → Nat
 | .inst _ _ => 1
 | .nil => 0
 | .cons a r => lenP a + lenP r
 | .alt a r => lenP a + lenP r + 2
 | .grp g k => if g = 0 then lenP k else lenP k + 2
 | .rep c _ k => if c = 42 then lenP k + 2 else lenP k + 1
def spl (lazy : Bool) (x y : Int) : Ins := if lazy = true then (2,y,x,[]) else (2,x,y,[])
def comp : Pc → Nat → List Ins
 | .inst op p,_ => [((op : Int),0,0,p)]
 | .nil,_ => []
 | .cons a r,b => comp a b ++ comp r (b + lenP a)
 | .alt a r,b => (2,(b : Int) + 1,(b : Int) + 2 + lenP a,[]) :: (comp a (b + 1) ++ (3,(b : Int) + 2 + lenP a + lenP r,0,[]) :: comp r (b + 2 + lenP a))
 | .grp g k,b => if g = 0 then comp k b else (4,2 * (g : Int),0,[]) :: (comp k (b + 1) ++ [(4,2 * (g : Int) + 1,0,[])])
 | .rep c lz k,b =>
  if c = 42 then spl lz ((b : Int) + 1) ((b : Int) + 2 + lenP k) :: (comp k (b + 1) ++ [(3,(b : Int),0,[])])
  else if c = 43 then comp k b ++ [spl lz (b : Int) ((b : Int) + lenP k + 1)]
  else spl lz ((b : Int) + 1) ((b : Int) + 1 + lenP k) :: comp k (b + 1)
theorem comp_len : ∀ (p : Pc) (b : Nat),(comp p b).length = lenP p
 | .inst _ _,_ => rfl
 | .nil,_ => rfl
 | .cons a r,b => by simp only [comp,lenP,List.length_append,comp_len a,comp_len r]
 | .alt a r,b => by simp only [comp,lenP,List.length_append,List.length_cons,comp_len a,comp_len r]; omega
 | .grp g k,b => by
  simp only [comp,lenP]
  split
  ·exact comp_len k b
  ·simp only [List.length_append,List.length_cons,comp_len k,List.length_nil]
 | .rep c lz k,b => by
  simp only [comp,lenP]
  by_cases h : c = 42
  ·rw [if_pos h,if_pos h]; simp only [List.length_append,List.length_cons,comp_len k,List.length_nil]
  ·rw [if_neg h,if_neg h]
   split <;> simp only [List.length_append,List.length_cons,comp_len k,List.length_nil]
def mv1 (k : Int) (x : Ins) : Ins := (x.1,if x.1 = 2 ∨ x.1 = 3 then x.2.1 + k else x.2.1,if x.1 = 2 then x.2.2.1 + k else x.2.2.1,x.2.2.2)
def mv (k : Int) (l : List Ins) : List Ins := l.map (mv1 k)
theorem mv_len {k l} : (mv k l).length = l.length := by simp [mv]
theorem mv1_spl {k x y : Int} {lz : Bool} : mv1 k (spl lz x y) = spl lz (x + k) (y + k) := by cases lz <;> rfl
def okP : Pc → Prop
 | .inst op _ => op = 1 ∨ op = 5 ∨ op = 6
 | .nil => True
 | .cons a r => okP a ∧ okP r
 | .alt a r => okP a ∧ okP r
 | .grp _ k => okP k
 | .rep _ _ k => okP k
theorem comp_mv : ∀ (p : Pc),okP p → ∀ (b c : Nat) (k : Int),(c : Int) = (b : Int) + k → mv k (comp p b) = comp p c
 | .inst op p,h,b,c,k,_ => by
  rcases h with rfl | rfl | rfl <;> rfl
 | .nil,_,_,_,_,_ => rfl
 | .cons a r,h,b,c,k,e => by
  have e1 := comp_mv a h.1 b c k e
  have e2 := comp_mv r h.2 (b + lenP a) (c + lenP a) k (by omega)
  unfold mv at *
  simp only [comp,List.map_append,e1,e2]
 | .alt a r,h,b,c,k,e => by
  have e1 := comp_mv a h.1 (b + 1) (c + 1) k (by omega)
  have e2 := comp_mv r h.2 (b + 2 + lenP a) (c + 2 + lenP a) k (by omega)
  unfold mv at *
  simp only [comp,List.map_append,List.map_cons,e1,e2]
  congr 1
  ·show ((2,_,_,_) : Ins) = _
   congr 2
   ·show (b : Int) + 1 + k = _; omega
   ·congr 1
    show (b : Int) + 2 + lenP a + k = _; omega
  ·congr 2
   show ((3,_,_,_) : Ins) = _
   congr 2
   show (b : Int) + 2 + lenP a + lenP r + k = _; omega
 | .grp g q,h,b,c,k,e => by
  have e0 := comp_mv q h b c k e
  have e1 := comp_mv q h (b + 1) (c + 1) k (by omega)
  unfold mv at *
  simp only [comp]
  split
  ·exact e0
  ·simp only [List.map_append,List.map_cons,e1,List.map_nil]
   rfl
 | .rep d lz q,h,b,c,k,e => by
  have e0 := comp_mv q h b c k e
  have e1 := comp_mv q h (b + 1) (c + 1) k (by omega)
  unfold mv at *
  simp only [comp]
  have x1 : (b : Int) + 1 + k = (c : Int) + 1 := by omega
  have x2 : (b : Int) + 2 + lenP q + k = (c : Int) + 2 + lenP q := by omega
  have x3 : (b : Int) + lenP q + 1 + k = (c : Int) + lenP q + 1 := by omega
  have x4 : (b : Int) + 1 + lenP q + k = (c : Int) + 1 + lenP q := by omega
  have x5 : mv1 k ((3,(b : Int),0,[]) : Ins) = (3,(c : Int),0,[]) := by
   show ((3,_,_,_) : Ins) = _
   congr 2
   show (b : Int) + k = _; omega
  split
  ·simp only [List.map_append,List.map_cons,e1,List.map_nil,mv1_spl,x1,x2,x5]
  ·split
   ·simp only [List.map_append,List.map_cons,e0,List.map_nil,mv1_spl,x3,← e]
   ·simp only [List.map_cons,e1,mv1_spl,x1,x4]
inductive Md where | ways | row | piece | atom | group
def at2 (s : List UInt8) (i c : Nat) : Bool := decide (i < s.length) && decide (bt s i = c)
abbrev PR := Except Bool (Pc × Nat × Nat)
def rd (setf : Nat → Option (List Bool × Nat)) (s : List UInt8) : Nat → Md → Nat → Nat → Nat → PR
 | 0,_,_,_,_ => .error false
 | n + 1,.ways,d,i,g =>
  match rd setf s n .row d i g with
  | .error b => .error b
  | .ok (p,j,g') =>
   if at2 s j 124 = true then
    match rd setf s n .ways d (j + 1) g' with
    | .error b => .error b
    | .ok (q,k,g'') => .ok (.alt p q,k,g'')
   else .ok (p,j,g')
 | n + 1,.row,d,i,g =>
  if i < s.length ∧ bt s i ≠ 124 ∧ bt s i ≠ 41 then
   match rd setf s n .piece d i g with
   | .error b => .error b
   | .ok (p,j,g') =>
    match rd setf s n .row d j g' with
    | .error b => .error b
    | .ok (q,k,g'') => .ok (.cons p q,k,g'')
  else .ok (.nil,i,g)
 | n + 1,.piece,d,i,g =>
  match rd setf s n .atom d i g with
  | .error b => .error b
  | .ok (p,j,g') =>
   if j < s.length ∧ (bt s j = 42 ∨ bt s j = 43 ∨ bt s j = 63) then .ok (.rep (bt s j) (at2 s (j + 1) 63) p,if at2 s (j + 1) 63 = true then j + 2 else j + 1,g')
   else .ok (p,j,g')
 | n + 1,.atom,d,i,g =>
  if bt s i = 40 then rd setf s n .group d (i + 1) g
  else if bt s i = 94 then .ok (.inst 5 [],i + 1,g)
  else if bt s i = 36 then .ok (.inst 6 [],i + 1,g)
  else match setf i with
   | none => .error false
   | some (A,j) => .ok (.inst 1 (pairsB A),j,g)
 | n + 1,.group,d,i,g =>
  if 64 ≤ d then .error true
  else if at2 s i 63 = true ∧ at2 s (i + 1) 58 = true then
   match rd setf s n .ways (d + 1) (i + 2) g with
   | .error b => .error b
   | .ok (p,j,g') => if at2 s j 41 = true then .ok (.grp 0 p,j + 1,g') else .error false
  else
   match rd setf s n .ways (d + 1) i (g + 1) with
   | .error b => .error b
   | .ok (p,j,g') => if at2 s j 41 = true then .ok (.grp (g + 1) p,j + 1,g') else .error false
def need (L : Nat) : Md → Nat
 | .ways => 5 * L + 5
 | .row => 5 * L + 4
 | .piece => 5 * L + 3
 | .atom => 5 * L + 2
 | .group => 5 * L + 6
theorem at2_lt {s : List UInt8} {i c : Nat} (h : at2 s i c = true) : i < s.length ∧ bt s i = c := by
 unfold at2 at h
 rw [Bool.and_eq_true] at h
 exact ⟨of_decide_eq_true h.1,of_decide_eq_true h.2⟩
def isRow : Pc → Prop
 | .nil => True
 | .cons _ r => isRow r
 | _ => False
def isWays : Pc → Prop
 | .alt a r => isRow a ∧ isWays r
 | p => isRow p
def fine : Pc → Prop
 | .inst op _ => op = 1 ∨ op = 5 ∨ op = 6
 | .nil => True
 | .cons a r => fine a ∧ (∀ b c,a ≠ .cons b c) ∧ a ≠ .nil ∧ (∀ b c,a ≠ .alt b c) ∧ isRow r ∧ fine r
 | .alt a r => fine a ∧ isRow a ∧ fine r ∧ isWays r
 | .grp _ k => fine k ∧ isWays k
 | .rep c _ k => (c = 42 ∨ c = 43 ∨ c = 63) ∧ fine k ∧ (∀ b c,k ≠ .cons b c) ∧ k ≠ .nil ∧ (∀ b c,k ≠ .alt b c)
theorem fine_ok : ∀ (p : Pc),fine p → okP p
 | .inst _ _,h => h
 | .nil,_ => trivial
 | .cons a r,h => ⟨fine_ok a h.1,fine_ok r h.2.2.2.2.2⟩
 | .alt a r,h => ⟨fine_ok a h.1,fine_ok r h.2.2.1⟩
 | .grp _ k,h => fine_ok k h.1
 | .rep _ _ k,h => fine_ok k h.2.1
def single (p : Pc) : Prop := (∀ b c,p ≠ .cons b c) ∧ p ≠ .nil ∧ (∀ b c,p ≠ .alt b c)
def RdOk (L : Nat) (m : Md) (i g : Nat) (r : Pc × Nat × Nat) : Prop :=
 i ≤ r.2.1 ∧ r.2.1 ≤ L ∧ g ≤ r.2.2 ∧ r.2.2 + i ≤ g + r.2.1 + (match m with | .group => 1 | _ => 0) ∧ lenP r.1 + 2 * i ≤ 2 * r.2.1 + (match m with | .group => 2 | _ => 0) ∧ fine r.1 ∧
 (match m with
  | .ways => isWays r.1
  | .row => isRow r.1
  | _ => single r.1 ∧ (match m with | .group => True | _ => i < r.2.1))
theorem isRow_ways {p : Pc} (h : isRow p) : isWays p := by
 cases p <;> first | exact h | exact h.elim
set_option maxHeartbeats 1000000 in
theorem rd_ok {setf : Nat → Option (List Bool × Nat)} {s : List UInt8} (hset : ∀ i A j,i < s.length → setf i = some (A,j) → i < j ∧ j ≤ s.length) : ∀ (n : Nat) (m : Md) (d i g : Nat) (r : Pc × Nat × Nat),i ≤ s.length → (match m with | .piece => i < s.length | .atom => i < s.length | _ => True) → rd setf s n m d i g = .ok r → RdOk s.length m i g r := by
 intro n
 induction n with
 | zero => intro m d i g r _ _ h; cases h
 | succ n ih =>
  intro m d i g r hi hm h
  cases m with
  | ways =>
   simp only [rd] at h
   cases h1 : rd setf s n .row d i g with
   | error b => rw [h1] at h; cases h
   | ok q =>
    obtain ⟨p,j,g'⟩ := q
    rw [h1] at h
    dsimp only at h
    obtain ⟨a1,a2,a3,a4,a5,a6,a7⟩ := ih _ _ _ _ _ hi trivial h1
    dsimp only at a1 a2 a3 a4 a5 a6 a7
    by_cases hj : at2 s j 124 = true
    ·rw [if_pos hj] at h
     have hj := at2_lt hj
     cases h2 : rd setf s n .ways d (j + 1) g' with
     | error b => rw [h2] at h; cases h
     | ok q2 =>
      obtain ⟨q,k,g2⟩ := q2
      rw [h2] at h
      obtain ⟨b1,b2,b3,b4,b5,b6,b7⟩ := ih _ _ _ _ _ (by omega) trivial h2
      dsimp only at b1 b2 b3 b4 b5 b6 b7
      cases h
      refine ⟨by dsimp only; omega,b2,by dsimp only; omega,by dsimp only; omega,by dsimp only [lenP]; omega,⟨a6,a7,b6,b7⟩,⟨a7,b7⟩⟩
    ·rw [if_neg hj] at h
     cases h
     exact ⟨a1,a2,a3,a4,a5,a6,isRow_ways a7⟩
  | row =>
   simp only [rd] at h
   by_cases hc : i < s.length ∧ bt s i ≠ 124 ∧ bt s i ≠ 41
   ·rw [if_pos hc] at h
    cases h1 : rd setf s n .piece d i g with
    | error b => rw [h1] at h; cases h
    | ok q =>
     obtain ⟨p,j,g'⟩ := q
     rw [h1] at h
     dsimp only at h
     obtain ⟨a1,a2,a3,a4,a5,a6,a7⟩ := ih _ _ _ _ _ hi hc.1 h1
     dsimp only at a1 a2 a3 a4 a5 a6 a7
     cases h2 : rd setf s n .row d j g' with
     | error b => rw [h2] at h; cases h
     | ok q2 =>
      obtain ⟨q,k,g2⟩ := q2
      rw [h2] at h
      obtain ⟨b1,b2,b3,b4,b5,b6,b7⟩ := ih _ _ _ _ _ a2 trivial h2
      dsimp only at b1 b2 b3 b4 b5 b6 b7
      cases h
      exact ⟨by dsimp only; omega,b2,by dsimp only; omega,by dsimp only; omega,by dsimp only [lenP]; omega,⟨a6,a7.1.1,a7.1.2.1,a7.1.2.2,b7,b6⟩,b7⟩
   ·rw [if_neg hc] at h
    cases h
    exact ⟨Nat.le_refl _,hi,Nat.le_refl _,by dsimp only; omega,by dsimp only [lenP]; omega,trivial,trivial⟩
  | piece =>
   simp only [rd] at h
   cases h1 : rd setf s n .atom d i g with
   | error b => rw [h1] at h; cases h
   | ok q =>
    obtain ⟨p,j,g'⟩ := q
    rw [h1] at h
    dsimp only at h
    obtain ⟨a1,a2,a3,a4,a5,a6,a7⟩ := ih _ _ _ _ _ hi hm h1
    dsimp only at a1 a2 a3 a4 a5 a6 a7
    by_cases hj : j < s.length ∧ (bt s j = 42 ∨ bt s j = 43 ∨ bt s j = 63)
    ·rw [if_pos hj] at h
     have hl : lenP (Pc.rep (bt s j) (at2 s (j + 1) 63) p) ≤ lenP p + 2 := by
      simp only [lenP]; split <;> omega
     cases h
     refine ⟨?_,?_,a3,?_,?_,⟨hj.2,a6,a7.1⟩,⟨⟨?_,?_,?_⟩,?_⟩⟩
     ·dsimp only; split <;> omega
     ·dsimp only
      split
      ·rename_i h3; have := at2_lt h3; omega
      ·omega
     ·dsimp only; split <;> omega
     ·dsimp only; split <;> omega
     ·intro b c e; cases e
     ·intro e; cases e
     ·intro b c e; cases e
     ·dsimp only; split <;> omega
    ·rw [if_neg hj] at h
     cases h
     exact ⟨a1,a2,a3,a4,a5,a6,a7⟩
  | atom =>
   simp only [rd] at h
   have hm : i < s.length := hm
   have sg : ∀ o p,single (Pc.inst o p) := fun o p => ⟨fun b c e => (by cases e),fun e => (by cases e),fun b c e => (by cases e)⟩
   by_cases h4 : bt s i = 40
   ·rw [if_pos h4] at h
    obtain ⟨a1,a2,a3,a4,a5,a6,a7⟩ := ih _ _ _ _ _ (by omega) trivial h
    dsimp only at a1 a2 a3 a4 a5 a6 a7
    exact ⟨by omega,a2,a3,by dsimp only; omega,by dsimp only; omega,a6,a7.1,by dsimp only; omega⟩
   ·rw [if_neg h4] at h
    by_cases h9 : bt s i = 94
    ·rw [if_pos h9] at h
     cases h
     exact ⟨by dsimp only; omega,by dsimp only; omega,Nat.le_refl _,by dsimp only; omega,by dsimp only [lenP]; omega,Or.inr (Or.inl rfl),sg _ _,by dsimp only; omega⟩
    ·rw [if_neg h9] at h
     by_cases h3 : bt s i = 36
     ·rw [if_pos h3] at h
      cases h
      exact ⟨by dsimp only; omega,by dsimp only; omega,Nat.le_refl _,by dsimp only; omega,by dsimp only [lenP]; omega,Or.inr (Or.inr rfl),sg _ _,by dsimp only; omega⟩
     ·rw [if_neg h3] at h
      cases h1 : setf i with
      | none => rw [h1] at h; cases h
      | some q =>
       obtain ⟨A,j⟩ := q
       rw [h1] at h
       cases h
       have := hset i A j hm h1
       exact ⟨by dsimp only; omega,by dsimp only; omega,Nat.le_refl _,by dsimp only; omega,by dsimp only [lenP]; omega,Or.inl rfl,sg _ _,by dsimp only; omega⟩
  | group =>
   simp only [rd] at h
   by_cases hd : 64 ≤ d
   ·rw [if_pos hd] at h; cases h
   ·rw [if_neg hd] at h
    by_cases hq : at2 s i 63 = true ∧ at2 s (i + 1) 58 = true
    ·rw [if_pos hq] at h
     have q1 := at2_lt hq.2
     cases h1 : rd setf s n .ways (d + 1) (i + 2) g with
     | error b => rw [h1] at h; cases h
     | ok q =>
      obtain ⟨p,j,g'⟩ := q
      rw [h1] at h
      dsimp only at h
      obtain ⟨a1,a2,a3,a4,a5,a6,a7⟩ := ih _ _ _ _ _ (by omega) trivial h1
      dsimp only at a1 a2 a3 a4 a5 a6 a7
      by_cases hj : at2 s j 41 = true
      ·rw [if_pos hj] at h
       have hj := at2_lt hj
       cases h
       exact ⟨by dsimp only; omega,by dsimp only; omega,a3,by dsimp only; omega,by dsimp only [lenP]; rw [if_pos rfl]; omega,⟨a6,a7⟩,⟨fun b c e => (by cases e),fun e => (by cases e),fun b c e => (by cases e)⟩,trivial⟩
      ·rw [if_neg hj] at h; cases h
    ·rw [if_neg hq] at h
     cases h1 : rd setf s n .ways (d + 1) i (g + 1) with
     | error b => rw [h1] at h; cases h
     | ok q =>
      obtain ⟨p,j,g'⟩ := q
      rw [h1] at h
      dsimp only at h
      obtain ⟨a1,a2,a3,a4,a5,a6,a7⟩ := ih _ _ _ _ _ hi trivial h1
      dsimp only at a1 a2 a3 a4 a5 a6 a7
      by_cases hj : at2 s j 41 = true
      ·rw [if_pos hj] at h
       have hj := at2_lt hj
       cases h
       exact ⟨by dsimp only; omega,by dsimp only; omega,by dsimp only; omega,by dsimp only; omega,by dsimp only [lenP]; rw [if_neg (by omega)]; omega,⟨a6,a7⟩,⟨fun b c e => (by cases e),fun e => (by cases e),fun b c e => (by cases e)⟩,trivial⟩
      ·rw [if_neg hj] at h; cases h
end Ab
