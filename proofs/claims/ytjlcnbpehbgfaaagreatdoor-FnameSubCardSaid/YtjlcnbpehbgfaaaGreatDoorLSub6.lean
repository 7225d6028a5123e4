import Derived.Test.YtjlcnbpehbgfaaaGreatDoorPRex
namespace Ab
open Go (IntKind BinOp UnOp)
theorem byt_bt {s : List UInt8} {i : Nat} : byt s i = ((bt s i : Nat) : Int) := rfl
abbrev rdP (s : List UInt8) (i g d : Nat) (b o : Bool) : List PV := [.str s,.int .i64 (i : Int),.int .i64 (g : Int),.int .i64 (d : Int),.bool b,.bool o]
abbrev rdB (s : List UInt8) (i g d : Nat) (b o : Bool) : Blk := .box [.p (.str s),.p (.int .i64 (i : Int)),.p (.int .i64 (g : Int)),.p (.int .i64 (d : Int)),.p (.bool b),.p (.bool o)]
abbrev rdI (s : List UInt8) (i : Int) (g d : Nat) (b o : Bool) : Blk := .box [.p (.str s),.p (.int .i64 i),.p (.int .i64 (g : Int)),.p (.int .i64 (d : Int)),.p (.bool b),.p (.bool o)]
abbrev rdQ (s : List UInt8) (i : Int) (g d : Nat) (b o : Bool) : List PV := [.str s,.int .i64 i,.int .i64 (g : Int),.int .i64 (d : Int),.bool b,.bool o]
attribute [go_sem] pures_map
theorem res_now_end (s : List UInt8) (_hs : s.length ≤ 4096) (i g d : Nat) (b o : Bool) (h : s.length ≤ i) : res Γ 355 [.ptr (rdP s i g d b o)] = some [.int .u8 0,.bool false] := by
 refine res_code (fn := rex_text_now) rfl rfl ?_
 simp (disch := first | assumption | omega | decide | (simp only [lens] <;> omega) | fail) only [go_sem,rex_text_now]
theorem res_now (s : List UInt8) (_hs : s.length ≤ 4096) (i g d : Nat) (b o : Bool) (h : i < s.length) : res Γ 355 [.ptr (rdP s i g d b o)] = some [.int .u8 (byt s i),.bool true] := by
 refine res_code (fn := rex_text_now) rfl rfl ?_
 simp (disch := first | assumption | omega | decide | (simp only [lens] <;> omega) | fail) only [go_sem,rex_text_now]
def isS2 (s : List UInt8) (i c : Nat) : Bool := decide (i < s.length) && decide (bt s i = c)
theorem res_is (s : List UInt8) (hs : s.length ≤ 4096) (i g d : Nat) (b o : Bool) (c : Nat) : res Γ 356 [.ptr (rdP s i g d b o),.int .u8 (c : Int)] = some [.bool (isS2 s i c)] := by
 unfold isS2
 by_cases h : i < s.length
 ·rw [decide_eq_true h,Bool.true_and]
  have e := res_now s hs i g d b o h
  have e2 : decide (bt s i = c) = decide (byt s i = (c : Int)) := by rw [decide_eq_decide,byt_bt]; omega
  rw [e2]
  refine res_code (fn := rex_text_is) rfl rfl ?_
  simp (disch := first | assumption | omega | decide | (simp only [lens] <;> omega) | fail) only [go_sem,rex_text_is,e]
 ·rw [decide_eq_false h,Bool.false_and]
  have e := res_now_end s hs i g d b o (by omega)
  refine res_code (fn := rex_text_is) rfl rfl ?_
  simp (disch := first | assumption | omega | decide | (simp only [lens] <;> omega) | fail) only [go_sem,rex_text_is,e]
theorem resM_takes (s : List UInt8) (hs : s.length ≤ 4096) (i g d : Nat) (b o : Bool) (c : Nat) : resM Γ 1 344 [.bx 0 0,.p (.int .u8 (c : Int))] [rdB s i g d b o] = some ([.p (.bool (isS2 s i c))],[rdB s (if isS2 s i c = true then i + 1 else i) g d b o]) := by
 have e := res_is s hs i g d b o c
 cases h : isS2 s i c
 ·rw [h] at e
  refine resM_code (fn := rex_text_takes) rfl rfl ?_
  simp (disch := first | assumption | omega | decide | (simp only [lens] <;> omega) | fail) only [go_sem,rex_text_takes,e]
 ·rw [h] at e
  have hi : i < s.length := by
   unfold isS2 at h
   rw [Bool.and_eq_true] at h
   exact of_decide_eq_true h.1
  refine resM_code (fn := rex_text_takes) rfl rfl ?_
  simp (disch := first | assumption | omega | decide | (simp only [lens] <;> omega) | fail) only [go_sem,rex_text_takes,e]
  rfl
def escR (s : List UInt8) (i : Nat) : List Bool × Bool × Nat :=
 if s.length ≤ i then (noneL,false,i) else if sixB (bt s i) = true then (sixL (bt s i),true,i + 1) else (oneL (bt s i),!wordN (bt s i),i + 1)
theorem resM_escaped (s : List UInt8) (hs : s.length ≤ 4096) (i g d : Nat) (b o : Bool) : resM Γ 1 374 [.bx 0 0] [rdB s i g d b o] = some ([.p (setP (escR s i).1),.p (.bool (escR s i).2.1)],[rdB s (escR s i).2.2 g d b o]) := by
 have hz : (bools noneL).length = 256 := by rw [bools_len,noneL_len]
 unfold escR
 by_cases h : s.length ≤ i
 ·rw [if_pos h]
  have e := res_now_end s hs i g d b o h
  refine resM_code (fn := rex_reader_escaped) rfl rfl ?_
  simp (disch := first | assumption | omega | decide | (simp only [lens] <;> omega) | fail) only [go_sem,rex_reader_escaped,e]
 ·rw [if_neg h]
  have e := res_now s hs i g d b o (by omega)
  have e1 : res Γ 384 [.int .u8 (byt s i)] = _ := res_named (bt s i) bt_lt
  have e2 : res Γ 368 [.int .u8 (byt s i)] = _ := res_one (bt s i) bt_lt
  have e3 : res Γ 383 [.int .u8 (byt s i)] = _ := res_isWord (bt s i) bt_lt
  have hr : (bools (sixR (bt s i))).length = 256 := by rw [bools_len,sixR_len]
  have ho : (bools (oneL (bt s i))).length = 256 := by rw [bools_len,oneL_len]
  cases h6 : sixB (bt s i)
  ·rw [h6] at e1
   rw [if_neg Bool.false_ne_true]
   refine resM_code (fn := rex_reader_escaped) rfl rfl ?_
   simp (disch := first | assumption | omega | decide | (simp only [lens] <;> omega) | fail) only [go_sem,rex_reader_escaped,e,e1,e2,e3]
   rfl
  ·have : sixR (bt s i) = sixL (bt s i) := by rw [sixR,if_pos h6]
   rw [h6,this] at e1
   rw [this] at hr
   rw [if_pos (Eq.refl true)]
   refine resM_code (fn := rex_reader_escaped) rfl rfl ?_
   simp (disch := first | assumption | omega | decide | (simp only [lens] <;> omega) | fail) only [go_sem,rex_reader_escaped,e,e1]
   rfl
theorem st374 : stillF Γ 1 374 = true := by kernel_rfl
theorem st344 : stillF Γ 1 344 = true := by kernel_rfl
theorem itemS_lt {s : List UInt8} {i c j : Nat} {w : Bool} (h : itemS s i = some (c,w,j)) : c < 256 ∧ i < j ∧ j ≤ s.length ∧ (w = true → sixB c = true) := by
 unfold itemS at h
 have b1 := @bt_lt s i
 have b2 := @bt_lt s (i + 1)
 split at h
 ·cases h
 ·split at h
  ·split at h
   ·cases h
   ·split at h
    ·rename_i h6
     simp only [Option.some.injEq,Prod.mk.injEq] at h
     obtain ⟨rfl,rfl,rfl⟩ := h
     exact ⟨b2,by omega,by omega,fun _ => h6⟩
    ·split at h
     ·cases h
     ·simp only [Option.some.injEq,Prod.mk.injEq] at h
      obtain ⟨rfl,rfl,rfl⟩ := h
      exact ⟨b2,by omega,by omega,fun h => by cases h⟩
  ·simp only [Option.some.injEq,Prod.mk.injEq] at h
   obtain ⟨rfl,rfl,rfl⟩ := h
   exact ⟨b1,by omega,by omega,fun h => by cases h⟩
theorem resM_side (s : List UInt8) (hs : s.length ≤ 4096) (i g d : Nat) (b o : Bool) :
  match itemS s i with
  | some (c,w,j) => resM Γ 1 381 [.bx 0 0] [rdB s i g d b o] = some ([.p (setP (if w = true then sixL c else oneL c)),.p (.int .u8 (c : Int)),.p (.bool w),.p (.bool true)],[rdB s j g d b o])
  | none => ∃ (S : List Bool) (c : Int) (w : Bool) (j : Nat),S.length = 256 ∧ resM Γ 1 381 [.bx 0 0] [rdB s i g d b o] = some ([.p (setP S),.p (.int .u8 c),.p (.bool w),.p (.bool false)],[rdB s j g d b o]) := by
 have hz : (bools noneL).length = 256 := by rw [bools_len,noneL_len]
 have hzl := noneL_len
 by_cases h0 : s.length ≤ i
 ·have : itemS s i = none := by unfold itemS; rw [if_pos h0]
  rw [this]
  have e := res_now_end s hs i g d b o h0
  refine ⟨noneL,0,false,i,hzl,?_⟩
  refine resM_code (fn := rex_reader_side) rfl rfl ?_
  simp (disch := first | assumption | omega | decide | (simp only [lens] <;> omega) | fail) only [go_sem,rex_reader_side,e]
 ·have e := res_now s hs i g d b o (by omega)
  have e2 : res Γ 368 [.int .u8 (byt s i)] = _ := res_one (bt s i) bt_lt
  have ho : (bools (oneL (bt s i))).length = 256 := by rw [bools_len,oneL_len]
  by_cases h92 : bt s i = 92
  ·have hb : byt s i = 92 := by rw [byt_bt,h92]; rfl
   rw [hb] at e
   by_cases h1 : s.length ≤ i + 1
   ·have : itemS s i = none := by unfold itemS; rw [if_neg h0,if_pos h92,if_pos h1]
    rw [this]
    have e' : res Γ 355 [.ptr (rdQ s ((i : Int) + 1) g d b o)] = _ := res_now_end s hs (i + 1) g d b o h1
    refine ⟨noneL,0,false,i + 1,hzl,?_⟩
    refine resM_code (fn := rex_reader_side) rfl rfl ?_
    simp (disch := first | assumption | omega | decide | (simp only [lens] <;> omega) | fail) only [go_sem,rex_reader_side,e,e']
    rfl
   ·have e' : res Γ 355 [.ptr (rdQ s ((i : Int) + 1) g d b o)] = _ := res_now s hs (i + 1) g d b o (by omega)
    have e3 : res Γ 384 [.int .u8 (byt s (i + 1))] = _ := res_named (bt s (i + 1)) bt_lt
    have e4 : resM Γ 1 374 [.bx 0 0] [rdI s ((i : Int) + 1) g d b o] = _ := resM_escaped s hs (i + 1) g d b o
    unfold escR at e4
    rw [if_neg h1] at e4
    have h6l : (bools (sixL (bt s (i + 1)))).length = 256 := by rw [bools_len,sixL_len]
    have ho1 : (bools (oneL (bt s (i + 1)))).length = 256 := by rw [bools_len,oneL_len]
    cases h6 : sixB (bt s (i + 1))
    ·rw [h6] at e3 e4
     rw [if_neg Bool.false_ne_true] at e4
     cases hw : wordN (bt s (i + 1))
     ·have : itemS s i = some (bt s (i + 1),false,i + 2) := by unfold itemS; rw [if_neg h0,if_pos h92,if_neg h1,h6,hw,if_neg Bool.false_ne_true,if_neg Bool.false_ne_true]
      rw [this]
      rw [hw] at e4
      show resM Γ 1 381 [.bx 0 0] [rdB s i g d b o] = some ([.p (setP (oneL (bt s (i + 1)))),.p (.int .u8 (byt s (i + 1))),.p (.bool false),.p (.bool true)],[rdB s (i + 2) g d b o])
      refine resM_code (fn := rex_reader_side) rfl rfl ?_
      simp (disch := first | assumption | omega | decide | (simp only [lens] <;> omega) | fail) only [go_sem,rex_reader_side,e,e',e3,e4,st374]
     ·have : itemS s i = none := by unfold itemS; rw [if_neg h0,if_pos h92,if_neg h1,h6,hw,if_neg Bool.false_ne_true,if_pos (Eq.refl true)]
      rw [this]
      rw [hw] at e4
      refine ⟨oneL (bt s (i + 1)),byt s (i + 1),false,i + 2,oneL_len,?_⟩
      refine resM_code (fn := rex_reader_side) rfl rfl ?_
      simp (disch := first | assumption | omega | decide | (simp only [lens] <;> omega) | fail) only [go_sem,rex_reader_side,e,e',e3,e4,st374]
    ·rw [h6] at e3 e4
     rw [if_pos (Eq.refl true)] at e4
     have : itemS s i = some (bt s (i + 1),true,i + 2) := by unfold itemS; rw [if_neg h0,if_pos h92,if_neg h1,h6,if_pos (Eq.refl true)]
     rw [this]
     show resM Γ 1 381 [.bx 0 0] [rdB s i g d b o] = some ([.p (setP (sixL (bt s (i + 1)))),.p (.int .u8 (byt s (i + 1))),.p (.bool true),.p (.bool true)],[rdB s (i + 2) g d b o])
     refine resM_code (fn := rex_reader_side) rfl rfl ?_
     simp (disch := first | assumption | omega | decide | (simp only [lens] <;> omega) | fail) only [go_sem,rex_reader_side,e,e',e3,e4,st374]
  ·have : itemS s i = some (bt s i,false,i + 1) := by unfold itemS; rw [if_neg h0,if_neg h92]
   rw [this]
   have hb : ¬ byt s i = 92 := by rw [byt_bt]; omega
   show resM Γ 1 381 [.bx 0 0] [rdB s i g d b o] = some ([.p (setP (oneL (bt s i))),.p (.int .u8 (byt s i)),.p (.bool false),.p (.bool true)],[rdB s (i + 1) g d b o])
   refine resM_code (fn := rex_reader_side) rfl rfl ?_
   simp (disch := first | assumption | omega | decide | (simp only [lens] <;> omega) | fail) only [go_sem,rex_reader_side,e,e2,ne_eq]
   rfl
theorem res_ranges (s : List UInt8) (hs : s.length ≤ 4096) (i g d : Nat) (hi : i ≤ 5000) (b o : Bool) : res Γ 382 [.ptr (rdP s i g d b o)] = some [.bool (rangesS s i)] := by
 have hz : (bools noneL).length = 256 := by rw [bools_len,noneL_len]
 have e : res Γ 356 [.ptr (rdP s i g d b o),.int .u8 45] = some [.bool (isS2 s i 45)] := res_is s hs i g d b o 45
 unfold isS2 at e
 unfold rangesS
 by_cases h1 : i + 1 < s.length
 ·rw [decide_eq_true h1,Bool.true_and]
  rw [decide_eq_true (show i < s.length by omega),Bool.true_and] at e
  have s1 : ((i : Int) + 1).toNat = i + 1 := by omega
  have s2 : ((i : Int) + 2).toNat = i + 2 := by omega
  cases h2 : decide (bt s i = 45)
  ·rw [h2] at e
   rw [Bool.false_and,Bool.false_and]
   refine res_code (fn := rex_reader_ranges) rfl rfl ?_
   simp (disch := first | assumption | omega | decide | (simp only [lens] <;> omega) | fail) only [go_sem,rex_reader_ranges,e]
  ·rw [h2] at e
   rw [Bool.true_and]
   by_cases h3 : bt s (i + 1) = 93
   ·have hb : byt s (i + 1) = 93 := by rw [byt_bt,h3]; rfl
    rw [decide_eq_true h3]
    refine res_code (fn := rex_reader_ranges) rfl rfl ?_
    simp (disch := first | assumption | omega | decide | (simp only [lens] <;> omega) | fail) only [go_sem,rex_reader_ranges,e,s1,hb]
   ·have hb : ¬ byt s (i + 1) = 93 := by rw [byt_bt]; omega
    rw [decide_eq_false h3]
    unfold sixAt
    by_cases h4 : bt s (i + 1) = 92
    ·have hb4 : byt s (i + 1) = 92 := by rw [byt_bt,h4]; rfl
     by_cases h5 : i + 2 < s.length
     ·have e1 : res Γ 384 [.int .u8 (byt s (i + 2))] = _ := res_named (bt s (i + 2)) bt_lt
      have h6l : (bools (sixR (bt s (i + 2)))).length = 256 := by rw [bools_len,sixR_len]
      rw [decide_eq_true (show i + 1 + 1 < s.length by omega),decide_eq_true h4]
      refine res_code (fn := rex_reader_ranges) rfl rfl ?_
      simp (disch := first | assumption | omega | decide | (simp only [lens] <;> omega) | fail) only [go_sem,rex_reader_ranges,e,s1,s2,hb4,e1,ne_eq,not_true_eq_false]
     ·rw [decide_eq_false (show ¬ i + 1 + 1 < s.length by omega)]
      refine res_code (fn := rex_reader_ranges) rfl rfl ?_
      simp (disch := first | assumption | omega | decide | (simp only [lens] <;> omega) | fail) only [go_sem,rex_reader_ranges,e,s1,hb4,ne_eq,not_true_eq_false]
    ·have hb4 : ¬ byt s (i + 1) = 92 := by rw [byt_bt]; omega
     rw [decide_eq_false h4]
     refine res_code (fn := rex_reader_ranges) rfl rfl ?_
     simp (disch := first | assumption | omega | decide | (simp only [lens] <;> omega) | fail) only [go_sem,rex_reader_ranges,e,s1,hb4,ne_eq]
 ·rw [decide_eq_false h1]
  by_cases h0 : i < s.length
  ·rw [decide_eq_true h0,Bool.true_and] at e
   cases h2 : decide (bt s i = 45) <;> rw [h2] at e
   ·refine res_code (fn := rex_reader_ranges) rfl rfl ?_
    simp (disch := first | assumption | omega | decide | (simp only [lens] <;> omega) | fail) only [go_sem,rex_reader_ranges,e]
   ·refine res_code (fn := rex_reader_ranges) rfl rfl ?_
    simp (disch := first | assumption | omega | decide | (simp only [lens] <;> omega) | fail) only [go_sem,rex_reader_ranges,e]
  ·rw [decide_eq_false h0,Bool.false_and] at e
   refine res_code (fn := rex_reader_ranges) rfl rfl ?_
   simp (disch := first | assumption | omega | decide | (simp only [lens] <;> omega) | fail) only [go_sem,rex_reader_ranges,e]
end Ab
namespace Ab
open Go (IntKind BinOp UnOp)
theorem st381 : stillF Γ 1 381 = true := by kernel_rfl
abbrev CEnv (nt : Bool) (f : Bool) : Env := [(0,.bx 0 0),(2,.bx 1 0),(4,.bx 2 0),(5,.p (.bool nt)),(6,.p (.bool f))]
set_option maxRecDepth 10000 in
theorem rclass_l1_ok (s : List UInt8) (hs : s.length ≤ 4096) (g d : Nat) (b o : Bool) (nt : Bool) (Q : Out → Prop) : ∀ (n : Nat) (all : List Bool),all.length = 256 → ∀ (i : Nat) (first : Bool) (T : List Blk),i ≤ s.length → s.length < i + n →
    (match classS s n all i first with
     | some (A,j) => A.length = 256 → j < s.length → ∀ T',Q (.nrm,[(0,.bx 0 0),(2,.bx 1 0),(4,.bx 2 0),(5,.p (.bool nt))],rdB s j g d b o :: setB noneL :: setB A :: T')
     | none => ∀ j A T',A.length = 256 → Q (.ret,[(2,.bx 1 0),(3,.p (.bool false))],rdB s j g d b o :: setB A :: setB A :: T')) →
    Wp Γ rex_reader_class_l1 (CEnv nt first) (rdB s i g d b o :: setB noneL :: setB all :: T) (InBlk [0,2,4,5] 0 Q) := by
  have hz : (bools noneL).length = 256 := by rw [bools_len,noneL_len]
  have hzl := noneL_len
  intro n
  induction n with
  | zero => intro all hall i first T hi hn; omega
  | succ n ih =>
    intro all hall i first T hi hn hQ
    have hab : (bools all).length = 256 := by rw [bools_len,hall]
    have ei : res Γ 356 [.ptr (rdP s i g d b o),.int .u8 93] = some [.bool (isS2 s i 93)] := res_is s hs i g d b o 93
    unfold classS at hQ
    by_cases hend : first = false ∧ i < s.length ∧ bt s i = 93
    · rw [if_pos hend] at hQ
      obtain ⟨hf,h1,h2⟩ := hend
      subst hf
      have : isS2 s i 93 = true := by unfold isS2; rw [decide_eq_true h1,decide_eq_true h2]; rfl
      rw [this] at ei
      rw [W_loop (L := rex_reader_class_l1) rfl]
      simp (disch := first | assumption | omega | decide | (simp only [lens] <;> omega) | fail) only [go_sem,ei]
      exact hQ hall h1 T
    · rw [if_neg hend] at hQ
      have hgo : first = true ∨ (first = false ∧ isS2 s i 93 = false) := by
        cases first
        · refine .inr ⟨rfl,?_⟩
          unfold isS2
          rw [← Bool.decide_and,decide_eq_false_iff_not]
          exact fun h => hend ⟨rfl,h⟩
        · exact .inl rfl
      have eS := resM_side s hs i g d b o
      have key : ∀ (f : Bool),(f = true ∨ (f = false ∧ isS2 s i 93 = false)) → Wp Γ rex_reader_class_l1 (CEnv nt f) (rdB s i g d b o :: setB noneL :: setB all :: T) (InBlk [0,2,4,5] 0 Q) := by
        intro f hf
        cases hit : itemS s i with
        | none =>
          rw [hit] at hQ eS
          obtain ⟨S,c,w,j,hS,eS⟩ := eS
          have hSb : (bools S).length = 256 := by rw [bools_len,hS]
          rcases hf with rfl | ⟨rfl,hf⟩
          · rw [W_loop (L := rex_reader_class_l1) rfl]
            simp (disch := first | assumption | omega | decide | (simp only [lens] <;> omega) | fail) only [go_sem,eS,st381,at_last,set_last]
            exact hQ j all _ hall
          · rw [hf] at ei
            rw [W_loop (L := rex_reader_class_l1) rfl]
            simp (disch := first | assumption | omega | decide | (simp only [lens] <;> omega) | fail) only [go_sem,ei,eS,st381,at_last,set_last]
            exact hQ j all _ hall
        | some x =>
          obtain ⟨c,w,j⟩ := x
          rw [hit] at hQ eS
          obtain ⟨k1,k2,k3,k4⟩ := itemS_lt hit
          have ih := ih
          dsimp only at hQ eS
          cases w
          · rw [if_neg Bool.false_ne_true] at hQ eS
            have eR := res_ranges s hs j g d (by omega) b o
            have hob : (bools (oneL c)).length = 256 := by rw [bools_len,oneL_len]
            cases hr : rangesS s j
            · rw [hr] at hQ eR
              rw [if_neg Bool.false_ne_true] at hQ
              have eW := res_with all (oneL c) hall oneL_len
              rw [oneL_span k1] at eW hob eS
              have hWl : (bools (withL all (spanL c c))).length = 256 := by rw [bools_len,withL_len (by rw [hall,spanL_len]),hall]
              have ih := fun T' => ih (withL all (spanL c c)) (by rw [withL_len (by rw [hall,spanL_len]),hall]) j false T' k3 (by omega) hQ
              rcases hf with rfl | ⟨rfl,hf⟩
              · rw [W_loop (L := rex_reader_class_l1) rfl]
                simp (disch := first | assumption | omega | decide | (simp only [lens] <;> omega) | fail) only [go_sem,eS,eR,eW,st381,at_last,set_last]
                exact ih _
              · rw [hf] at ei
                rw [W_loop (L := rex_reader_class_l1) rfl]
                simp (disch := first | assumption | omega | decide | (simp only [lens] <;> omega) | fail) only [go_sem,ei,eS,eR,eW,st381,at_last,set_last]
                exact ih _
            · rw [hr] at hQ eR
              rw [if_pos (Eq.refl true)] at hQ
              have eS2 := resM_side s hs (j + 1) g d b o
              have hjl : j + 1 < s.length := by
                unfold rangesS at hr
                simp only [Bool.and_eq_true,decide_eq_true_eq] at hr
                exact hr.1.1.1
              cases hit2 : itemS s (j + 1) with
              | none =>
                rw [hit2] at hQ eS2
                obtain ⟨S,c2,w2,j2,hS,eS2⟩ := eS2
                have eS2 : resM Γ 1 381 [.bx 0 0] [rdI s ((j : Int) + 1) g d b o] = _ := eS2
                have hSb : (bools S).length = 256 := by rw [bools_len,hS]
                rcases hf with rfl | ⟨rfl,hf⟩
                · rw [W_loop (L := rex_reader_class_l1) rfl]
                  simp (disch := first | assumption | omega | decide | (simp only [lens] <;> omega) | fail) only [go_sem,eS,eS2,eR,st381,at_last,set_last,at_l2,set_l2]
                  exact hQ j2 all _ hall
                · rw [hf] at ei
                  rw [W_loop (L := rex_reader_class_l1) rfl]
                  simp (disch := first | assumption | omega | decide | (simp only [lens] <;> omega) | fail) only [go_sem,ei,eS,eS2,eR,st381,at_last,set_last,at_l2,set_l2]
                  exact hQ j2 all _ hall
              | some y =>
                obtain ⟨c2,w2,j2⟩ := y
                rw [hit2] at hQ eS2
                obtain ⟨m1,m2,m3,m4⟩ := itemS_lt hit2
                dsimp only at hQ eS2
                have eS2 : resM Γ 1 381 [.bx 0 0] [rdI s ((j : Int) + 1) g d b o] = _ := eS2
                have hSb : (bools (if w2 = true then sixL c2 else oneL c2)).length = 256 := by
                  rw [bools_len]; split
                  · exact sixL_len
                  · exact oneL_len
                by_cases hlt : c2 < c
                · rw [if_pos hlt] at hQ
                  rcases hf with rfl | ⟨rfl,hf⟩
                  · rw [W_loop (L := rex_reader_class_l1) rfl]
                    simp (disch := first | assumption | omega | decide | (simp only [lens] <;> omega) | fail) only [go_sem,eS,eS2,eR,st381,at_last,set_last,at_l2,set_l2]
                    exact hQ j2 all _ hall
                  · rw [hf] at ei
                    rw [W_loop (L := rex_reader_class_l1) rfl]
                    simp (disch := first | assumption | omega | decide | (simp only [lens] <;> omega) | fail) only [go_sem,ei,eS,eS2,eR,st381,at_last,set_last,at_l2,set_l2]
                    exact hQ j2 all _ hall
                · rw [if_neg hlt] at hQ
                  have eF := resM_adds (oneL c) oneL_len c c2 (by omega) m1
                  rw [fill_span (by omega) m1] at eF
                  have hsp : (bools (spanL c c2)).length = 256 := by rw [bools_len,spanL_len]
                  have eW := res_with all (spanL c c2) hall spanL_len
                  have hWl : (bools (withL all (spanL c c2))).length = 256 := by rw [bools_len,withL_len (by rw [hall,spanL_len]),hall]
                  have ih := fun T' => ih (withL all (spanL c c2)) (by rw [withL_len (by rw [hall,spanL_len]),hall]) j2 false T' m3 (by omega) hQ
                  rcases hf with rfl | ⟨rfl,hf⟩
                  · rw [W_loop (L := rex_reader_class_l1) rfl]
                    simp (disch := first | assumption | omega | decide | (simp only [lens] <;> omega) | fail) only [go_sem,eS,eS2,eR,eF,eW,st381,st380,at_last,set_last,at_l1,at_l2,set_l1,set_l2]
                    exact ih _
                  · rw [hf] at ei
                    rw [W_loop (L := rex_reader_class_l1) rfl]
                    simp (disch := first | assumption | omega | decide | (simp only [lens] <;> omega) | fail) only [go_sem,ei,eS,eS2,eR,eF,eW,st381,st380,at_last,set_last,at_l1,at_l2,set_l1,set_l2]
                    exact ih _
          · rw [if_pos (Eq.refl true)] at hQ eS
            have hob : (bools (sixL c)).length = 256 := by rw [bools_len,sixL_len]
            have eW := res_with all (sixL c) hall sixL_len
            have hWl : (bools (withL all (sixL c))).length = 256 := by rw [bools_len,withL_len (by rw [hall,sixL_len]),hall]
            have ih := fun T' => ih (withL all (sixL c)) (by rw [withL_len (by rw [hall,sixL_len]),hall]) j false T' k3 (by omega) hQ
            rcases hf with rfl | ⟨rfl,hf⟩
            · rw [W_loop (L := rex_reader_class_l1) rfl]
              simp (disch := first | assumption | omega | decide | (simp only [lens] <;> omega) | fail) only [go_sem,eS,eW,st381,at_last,set_last]
              exact ih _
            · rw [hf] at ei
              rw [W_loop (L := rex_reader_class_l1) rfl]
              simp (disch := first | assumption | omega | decide | (simp only [lens] <;> omega) | fail) only [go_sem,ei,eS,eW,st381,at_last,set_last]
              exact ih _
      exact key first hgo
def classT (s : List UInt8) (i : Nat) : Option (List Bool × Nat) :=
 if isS2 s i 94 = true then (classS s (s.length + 1) noneL (i + 1) true).map fun r => (notL r.1,r.2 + 1) else (classS s (s.length + 1) noneL i true).map fun r => (r.1,r.2 + 1)
theorem classS_len {s : List UInt8} : ∀ {n : Nat} {all : List Bool} {i : Nat} {f : Bool} {A : List Bool} {j : Nat},all.length = 256 → classS s n all i f = some (A,j) → A.length = 256 ∧ j < s.length
 | 0,_,_,_,_,_,_,h => by cases h
 | n + 1,all,i,f,A,j,hl,h => by
  have hw : ∀ o : List Bool,o.length = 256 → (withL all o).length = 256 := fun o ho => by rw [withL_len (by omega)]; exact hl
  unfold classS at h
  split at h
  ·rename_i he
   simp only [Option.some.injEq,Prod.mk.injEq] at h
   obtain ⟨rfl,rfl⟩ := h
   exact ⟨hl,he.2.1⟩
  ·split at h
   ·cases h
   ·split at h
    ·exact classS_len (hw _ sixL_len) h
    ·split at h
     ·split at h
      ·cases h
      ·split at h
       ·cases h
       ·exact classS_len (hw _ spanL_len) h
     ·exact classS_len (hw _ spanL_len) h
set_option maxRecDepth 10000 in
theorem resM_rclass (s : List UInt8) (hs : s.length ≤ 4096) (i g d : Nat) (hi : i ≤ s.length) (b o : Bool) :
  match classT s i with
  | some (A,j) => A.length = 256 ∧ resM Γ 1 373 [.bx 0 0] [rdB s i g d b o] = some ([.p (setP A),.p (.bool true)],[rdB s j g d b o])
  | none => ∃ (A : List Bool) (j : Nat),A.length = 256 ∧ resM Γ 1 373 [.bx 0 0] [rdB s i g d b o] = some ([.p (setP A),.p (.bool false)],[rdB s j g d b o]) := by
 have hz : (bools noneL).length = 256 := by rw [bools_len,noneL_len]
 have et : resM Γ 1 344 [.bx 0 0,.p (.int .u8 94)] [rdB s i g d b o] = some ([.p (.bool (isS2 s i 94))],[rdB s (if isS2 s i 94 = true then i + 1 else i) g d b o]) := resM_takes s hs i g d b o 94
 unfold classT
 cases h94 : isS2 s i 94
 ·rw [h94,if_neg Bool.false_ne_true] at et
  rw [if_neg Bool.false_ne_true]
  cases hc : classS s (s.length + 1) noneL i true with
  | none =>
   have L : ∀ (Q : Out → Prop),(∀ j A T',A.length = 256 → Q (.ret,[(2,.bx 1 0),(3,.p (.bool false))],rdB s j g d b o :: setB A :: setB A :: T')) → Wp Γ rex_reader_class_l1 (CEnv false true) (rdB s i g d b o :: setB noneL :: setB noneL :: []) (InBlk [0,2,4,5] 0 Q) := fun Q h => rclass_l1_ok s hs g d b o false Q (s.length + 1) noneL noneL_len i true [] hi (by omega) (by rw [hc]; exact h)
   have := resM_ex (k := 1) (f := 373) (fn := rex_reader_class) (args := [.bx 0 0]) (HL := [rdB s i g d b o]) (K := fun r => ∃ (A : List Bool) (j : Nat),A.length = 256 ∧ r = ([.p (setP A),.p (.bool false)],[rdB s j g d b o])) rfl rfl (by
    simp (disch := first | assumption | omega | decide | (simp only [lens] <;> omega) | fail) only [go_sem,rex_reader_class,et,st344]
    refine L _ (fun j A T' hA => ?_)
    have hAb : (bools A).length = 256 := by rw [bools_len,hA]
    simp (disch := first | assumption | omega | decide | (simp only [lens] <;> omega) | fail) only [go_sem]
    refine ⟨([.p (setP A),.p (.bool false)],[rdB s j g d b o]),?_,⟨A,j,hA,rfl⟩⟩
    simp (disch := first | assumption | omega | decide | (simp only [lens] <;> omega) | fail) only [go_sem])
   obtain ⟨r,hr,A,j,hA,rfl⟩ := this
   exact ⟨A,j,hA,hr⟩
  | some r =>
   obtain ⟨A,j⟩ := r
   obtain ⟨hA,hj⟩ := classS_len noneL_len hc
   have hAb : (bools A).length = 256 := by rw [bools_len,hA]
   have hnot := res_not A hA
   have hnl : (bools (notL A)).length = 256 := by simp [notL,hA,bools]
   have L : ∀ (Q : Out → Prop),(A.length = 256 → j < s.length → ∀ T',Q (.nrm,[(0,.bx 0 0),(2,.bx 1 0),(4,.bx 2 0),(5,.p (.bool false))],rdB s j g d b o :: setB noneL :: setB A :: T')) → Wp Γ rex_reader_class_l1 (CEnv false true) (rdB s i g d b o :: setB noneL :: setB noneL :: []) (InBlk [0,2,4,5] 0 Q) := fun Q h => rclass_l1_ok s hs g d b o false Q (s.length + 1) noneL noneL_len i true [] hi (by omega) (by rw [hc]; exact h)
   refine ⟨hA,resM_code (fn := rex_reader_class) rfl rfl ?_⟩
   simp (disch := first | assumption | omega | decide | (simp only [lens] <;> omega) | fail) only [go_sem,rex_reader_class,et,st344]
   refine L _ (fun _ _ T' => ?_)
   simp (disch := first | assumption | omega | decide | (simp only [lens] <;> omega) | fail) only [go_sem]
   rfl
 ·rw [h94,if_pos (Eq.refl true)] at et
  rw [if_pos (Eq.refl true)]
  have hi1 : i + 1 ≤ s.length := by
   unfold isS2 at h94
   rw [Bool.and_eq_true] at h94
   exact of_decide_eq_true h94.1
  cases hc : classS s (s.length + 1) noneL (i + 1) true with
  | none =>
   have L : ∀ (Q : Out → Prop),(∀ j A T',A.length = 256 → Q (.ret,[(2,.bx 1 0),(3,.p (.bool false))],rdB s j g d b o :: setB A :: setB A :: T')) → Wp Γ rex_reader_class_l1 (CEnv true true) (rdB s (i + 1) g d b o :: setB noneL :: setB noneL :: []) (InBlk [0,2,4,5] 0 Q) := fun Q h => rclass_l1_ok s hs g d b o true Q (s.length + 1) noneL noneL_len (i + 1) true [] hi1 (by omega) (by rw [hc]; exact h)
   have := resM_ex (k := 1) (f := 373) (fn := rex_reader_class) (args := [.bx 0 0]) (HL := [rdB s i g d b o]) (K := fun r => ∃ (A : List Bool) (j : Nat),A.length = 256 ∧ r = ([.p (setP A),.p (.bool false)],[rdB s j g d b o])) rfl rfl (by
    simp (disch := first | assumption | omega | decide | (simp only [lens] <;> omega) | fail) only [go_sem,rex_reader_class,et,st344]
    refine L _ (fun j A T' hA => ?_)
    have hAb : (bools A).length = 256 := by rw [bools_len,hA]
    simp (disch := first | assumption | omega | decide | (simp only [lens] <;> omega) | fail) only [go_sem]
    refine ⟨([.p (setP A),.p (.bool false)],[rdB s j g d b o]),?_,⟨A,j,hA,rfl⟩⟩
    simp (disch := first | assumption | omega | decide | (simp only [lens] <;> omega) | fail) only [go_sem])
   obtain ⟨r,hr,A,j,hA,rfl⟩ := this
   exact ⟨A,j,hA,hr⟩
  | some r =>
   obtain ⟨A,j⟩ := r
   obtain ⟨hA,hj⟩ := classS_len noneL_len hc
   have hAb : (bools A).length = 256 := by rw [bools_len,hA]
   have hnot := res_not A hA
   have hnl : (bools (notL A)).length = 256 := by simp [notL,hA,bools]
   have L : ∀ (Q : Out → Prop),(A.length = 256 → j < s.length → ∀ T',Q (.nrm,[(0,.bx 0 0),(2,.bx 1 0),(4,.bx 2 0),(5,.p (.bool true))],rdB s j g d b o :: setB noneL :: setB A :: T')) → Wp Γ rex_reader_class_l1 (CEnv true true) (rdB s (i + 1) g d b o :: setB noneL :: setB noneL :: []) (InBlk [0,2,4,5] 0 Q) := fun Q h => rclass_l1_ok s hs g d b o true Q (s.length + 1) noneL noneL_len (i + 1) true [] hi1 (by omega) (by rw [hc]; exact h)
   refine ⟨by simp [notL,hA],resM_code (fn := rex_reader_class) rfl rfl ?_⟩
   simp (disch := first | assumption | omega | decide | (simp only [lens] <;> omega) | fail) only [go_sem,rex_reader_class,et,st344]
   refine L _ (fun _ _ T' => ?_)
   simp (disch := first | assumption | omega | decide | (simp only [lens] <;> omega) | fail) only [go_sem,hnot]
   rfl
end Ab
namespace Ab
open Go (IntKind BinOp UnOp)
abbrev r1P (s : List UInt8) (i d e g : Int) (xs : List PV) : List PV := [.str s,.int .i64 i,.int .i64 d,.int .i64 e,.int .i64 g,.sl .any 4 xs]
abbrev r1B (s : List UInt8) (i d e g : Int) (n : Nat) : Blk := .box [.p (.str s),.p (.int .i64 i),.p (.int .i64 d),.p (.int .i64 e),.p (.int .i64 g),.own 1 n]
theorem res_more (s : List UInt8) (_hs : s.length ≤ 4096) (i : Nat) (d e g : Int) (xs : List PV) (c : Nat) : res Γ 327 [.ptr (r1P s i d e g xs),.int .u8 (c : Int)] = some [.bool (isS2 s i c)] := by
 unfold isS2
 by_cases h : i < s.length
 ·have e2 : decide (bt s i = c) = decide (byt s i = (c : Int)) := by rw [decide_eq_decide,byt_bt]; omega
  rw [decide_eq_true h,Bool.true_and,e2]
  refine res_code (fn := r11_reader_more) rfl rfl ?_
  simp (disch := first | assumption | omega | decide | (simp only [lens] <;> omega) | fail) only [go_sem,r11_reader_more]
 ·rw [decide_eq_false h,Bool.false_and]
  refine res_code (fn := r11_reader_more) rfl rfl ?_
  simp (disch := first | assumption | omega | decide | (simp only [lens] <;> omega) | fail) only [go_sem,r11_reader_more]
theorem res_sixAt (s : List UInt8) (_hs : s.length ≤ 4096) (i : Nat) (hi : i ≤ 5000) (j d e g : Int) (xs : List PV) : res Γ 376 [.ptr (r1P s j d e g xs),.int .i64 (i : Int)] = some [.bool (sixAt s i)] := by
 have hz : (bools noneL).length = 256 := by rw [bools_len,noneL_len]
 unfold sixAt
 have s1 : ((i : Int) + 1).toNat = i + 1 := by omega
 by_cases h : i + 1 < s.length
 ·rw [decide_eq_true h,Bool.true_and]
  by_cases h2 : bt s i = 92
  ·have hb : byt s i = 92 := by rw [byt_bt,h2]; rfl
   have e1 : res Γ 378 [.int .u8 (byt s (i + 1))] = _ := res_six (bt s (i + 1)) bt_lt
   have h6l : (bools (sixR (bt s (i + 1)))).length = 256 := by rw [bools_len,sixR_len]
   rw [decide_eq_true h2,Bool.true_and]
   refine res_code (fn := r11_reader_sixAt) rfl rfl ?_
   simp (disch := first | assumption | omega | decide | (simp only [lens] <;> omega) | fail) only [go_sem,r11_reader_sixAt,s1,hb,e1,ne_eq,not_true_eq_false]
  ·have hb : ¬ byt s i = 92 := by rw [byt_bt]; omega
   rw [decide_eq_false h2,Bool.false_and]
   refine res_code (fn := r11_reader_sixAt) rfl rfl ?_
   simp (disch := first | assumption | omega | decide | (simp only [lens] <;> omega) | fail) only [go_sem,r11_reader_sixAt,hb,ne_eq]
 ·rw [decide_eq_false h]
  refine res_code (fn := r11_reader_sixAt) rfl rfl ?_
  simp (disch := first | assumption | omega | decide | (simp only [lens] <;> omega) | fail) only [go_sem,r11_reader_sixAt]
def strokeR (s : List UInt8) (i : Nat) : Nat × List Bool × Bool × Nat :=
 if s.length ≤ i + 1 then (0,noneL,false,i) else if sixB (bt s (i + 1)) = true then (0,sixL (bt s (i + 1)),true,i + 2) else (bt s (i + 1),noneL,!wordN (bt s (i + 1)),i + 2)
theorem strokeR_len {s : List UInt8} {i : Nat} : (strokeR s i).2.1.length = 256 := by
 unfold strokeR
 split
 ·exact noneL_len
 ·split
  ·exact sixL_len
  ·exact noneL_len
theorem resM_stroke (s : List UInt8) (_hs : s.length ≤ 4096) (i : Nat) (hi : i ≤ 5000) (d e g : Int) (n : Nat) (xs : List PV) (_hx : xs.length = n) : resM Γ 2 366 [.bx 0 0] [r1B s i d e g n,.row false 4 xs] =
  some ([.p (.int .u8 ((strokeR s i).1 : Int)),.p (setP (strokeR s i).2.1),.p (.bool (strokeR s i).2.2.1)],[r1B s ((strokeR s i).2.2.2 : Nat) d e g n,.row false 4 xs]) := by
 have hz : (bools noneL).length = 256 := by rw [bools_len,noneL_len]
 unfold strokeR
 by_cases h : s.length ≤ i + 1
 ·rw [if_pos h]
  refine resM_code (fn := r11_reader_stroke) rfl rfl ?_
  simp (disch := first | assumption | omega | decide | (simp only [lens] <;> omega) | fail) only [go_sem,r11_reader_stroke]
  rfl
 ·rw [if_neg h]
  have s1 : ((i : Int) + 1).toNat = i + 1 := by omega
  have e1 : res Γ 378 [.int .u8 (byt s (i + 1))] = _ := res_six (bt s (i + 1)) bt_lt
  have e2 : res Γ 377 [.int .u8 (byt s (i + 1))] = _ := res_word (bt s (i + 1)) bt_lt
  cases h6 : sixB (bt s (i + 1))
  ·rw [if_neg Bool.false_ne_true]
   have : sixR (bt s (i + 1)) = noneL := by rw [sixR,h6,if_neg Bool.false_ne_true]
   rw [h6,this] at e1
   refine resM_code (fn := r11_reader_stroke) rfl rfl ?_
   simp (disch := first | assumption | omega | decide | (simp only [lens] <;> omega) | fail) only [go_sem,r11_reader_stroke,s1,e1,e2]
   rfl
  ·rw [if_pos (Eq.refl true)]
   have : sixR (bt s (i + 1)) = sixL (bt s (i + 1)) := by rw [sixR,h6,if_pos (Eq.refl true)]
   have h6l : (bools (sixL (bt s (i + 1)))).length = 256 := by rw [bools_len,sixL_len]
   rw [h6,this] at e1
   refine resM_code (fn := r11_reader_stroke) rfl rfl ?_
   simp (disch := first | assumption | omega | decide | (simp only [lens] <;> omega) | fail) only [go_sem,r11_reader_stroke,s1,e1]
   rfl
theorem st366 : stillF Γ 2 366 = true := by kernel_rfl
theorem st375 : stillF Γ 2 375 = true := by kernel_rfl
theorem resM_item (s : List UInt8) (hs : s.length ≤ 4096) (i : Nat) (hi : i ≤ 5000) (d e g : Int) (n : Nat) (xs : List PV) (hx : xs.length = n) :
  match itemS s i with
  | some (c,w,j) => resM Γ 2 375 [.bx 0 0] [r1B s i d e g n,.row false 4 xs] = some ([.p (.int .u8 ((if w = true then 0 else c : Nat) : Int)),.p (setP (if w = true then sixL c else noneL)),.p (.bool true)],[r1B s j d e g n,.row false 4 xs])
  | none => ∃ (c : Int) (S : List Bool) (j : Nat),S.length = 256 ∧ resM Γ 2 375 [.bx 0 0] [r1B s i d e g n,.row false 4 xs] = some ([.p (.int .u8 c),.p (setP S),.p (.bool false)],[r1B s j d e g n,.row false 4 xs]) := by
 have hz : (bools noneL).length = 256 := by rw [bools_len,noneL_len]
 by_cases h0 : s.length ≤ i
 ·have : itemS s i = none := by unfold itemS; rw [if_pos h0]
  rw [this]
  refine ⟨0,noneL,i,noneL_len,?_⟩
  refine resM_code (fn := r11_reader_item) rfl rfl ?_
  simp (disch := first | assumption | omega | decide | (simp only [lens] <;> omega) | fail) only [go_sem,r11_reader_item]
 ·by_cases h92 : bt s i = 92
  ·have hb : byt s i = 92 := by rw [byt_bt,h92]; rfl
   have eS := resM_stroke s hs i hi d e g n xs hx
   have hl : (bools (strokeR s i).2.1).length = 256 := by rw [bools_len,strokeR_len]
   have fin : resM Γ 2 375 [.bx 0 0] [r1B s i d e g n,.row false 4 xs] = some ([.p (.int .u8 ((strokeR s i).1 : Int)),.p (setP (strokeR s i).2.1),.p (.bool (strokeR s i).2.2.1)],[r1B s ((strokeR s i).2.2.2 : Nat) d e g n,.row false 4 xs]) := by
    generalize strokeR s i = R at *
    refine resM_code (fn := r11_reader_item) rfl rfl ?_
    simp (disch := first | assumption | omega | decide | (simp only [lens] <;> omega) | fail) only [go_sem,r11_reader_item,hb,eS,st366]
   by_cases h1 : s.length ≤ i + 1
   ·have : itemS s i = none := by unfold itemS; rw [if_neg h0,if_pos h92,if_pos h1]
    rw [this]
    have e : strokeR s i = (0,noneL,false,i) := by unfold strokeR; rw [if_pos h1]
    rw [e] at fin
    exact ⟨_,_,_,noneL_len,fin⟩
   ·cases h6 : sixB (bt s (i + 1))
    ·cases hw : wordN (bt s (i + 1))
     ·have : itemS s i = some (bt s (i + 1),false,i + 2) := by unfold itemS; rw [if_neg h0,if_pos h92,if_neg h1,h6,hw,if_neg Bool.false_ne_true,if_neg Bool.false_ne_true]
      rw [this]
      have e : strokeR s i = (bt s (i + 1),noneL,true,i + 2) := by unfold strokeR; rw [if_neg h1,h6,hw,if_neg Bool.false_ne_true]; rfl
      rw [e] at fin
      exact fin
     ·have : itemS s i = none := by unfold itemS; rw [if_neg h0,if_pos h92,if_neg h1,h6,hw,if_neg Bool.false_ne_true,if_pos (Eq.refl true)]
      rw [this]
      have e : strokeR s i = (bt s (i + 1),noneL,false,i + 2) := by unfold strokeR; rw [if_neg h1,h6,hw,if_neg Bool.false_ne_true]; rfl
      rw [e] at fin
      exact ⟨_,_,_,noneL_len,fin⟩
    ·have : itemS s i = some (bt s (i + 1),true,i + 2) := by unfold itemS; rw [if_neg h0,if_pos h92,if_neg h1,h6,if_pos (Eq.refl true)]
     rw [this]
     have e : strokeR s i = (0,sixL (bt s (i + 1)),true,i + 2) := by unfold strokeR; rw [if_neg h1,h6,if_pos (Eq.refl true)]
     rw [e] at fin
     exact fin
  ·have : itemS s i = some (bt s i,false,i + 1) := by unfold itemS; rw [if_neg h0,if_neg h92]
   rw [this]
   have hb : ¬ byt s i = 92 := by rw [byt_bt]; omega
   have s1 : ((i : Int) + 1 - 1).toNat = i := by omega
   have s2 : (i : Int) + 1 - 1 = i := by omega
   show resM Γ 2 375 [.bx 0 0] [r1B s i d e g n,.row false 4 xs] = some ([.p (.int .u8 (byt s i)),.p (setP noneL),.p (.bool true)],[r1B s ((i : Int) + 1) d e g n,.row false 4 xs])
   refine resM_code (fn := r11_reader_item) rfl rfl ?_
   simp (disch := first | assumption | omega | decide | (simp only [lens] <;> omega) | fail) only [go_sem,r11_reader_item,s1]
end Ab
