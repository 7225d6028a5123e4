import Derived.Test.YtjlcnbpehbgfaaaGreatDoorLSub23
import Derived.Test.YtjlcnbpehbgfaaaGreatDoorPPike2
import Derived.Test.YtjlcnbpehbgfaaaGreatDoorLIs
import Derived.Test.YtjlcnbpehbgfaaaGreatDoorCode
import Derived.Test.YtjlcnbpehbgfaaaGreatDoorPRex
namespace Ab
open Go (IntKind BinOp UnOp)
theorem tn1 {i : Nat} : ((i : Int) + 1).toNat = i + 1 := by omega
attribute [go_sem] tn1
theorem hasS_drop {s : List UInt8} {c i : Nat} (h : i + 1 < s.length) : hasS (s.drop i) c = ((decide (bt s i ≤ c) && decide (c ≤ bt s (i + 1))) || hasS (s.drop (i + 2)) c) := by
 have e1 : s.drop i = s[i] :: s.drop (i + 1) := List.drop_eq_getElem_cons (by omega)
 have e2 : s.drop (i + 1) = s[i + 1] :: s.drop (i + 2) := List.drop_eq_getElem_cons (by omega)
 have b1 : bt s i = s[i].toNat := by unfold bt; rw [List.getD_eq_getElem?_getD,List.getElem?_eq_getElem (by omega)]; rfl
 have b2 : bt s (i + 1) = s[i + 1].toNat := by unfold bt; rw [List.getD_eq_getElem?_getD,List.getElem?_eq_getElem h]; rfl
 rw [e1,e2,b1,b2]
 rfl
theorem hasS_end {s : List UInt8} {c i : Nat} (h : ¬ i + 1 < s.length) : hasS (s.drop i) c = false := by
 by_cases h2 : i < s.length
 ·have e1 : s.drop i = s[i] :: s.drop (i + 1) := List.drop_eq_getElem_cons (by omega)
  rw [e1,List.drop_eq_nil_of_le (by omega)]; rfl
 ·rw [List.drop_eq_nil_of_le (by omega)]; rfl
theorem rexHas_l1_ok (s : List UInt8) (hs : s.length ≤ 1000000) (c : Nat) (_hc : c < 256) (Q : Out → Prop) : ∀ (n i : Nat),s.length + 2 ≤ i + n → i ≤ s.length + 1 →
    (match hasS (s.drop i) c with
     | true => Q (.ret,[(4,.p (.bool true))],[])
     | false => Q (.nrm,[],[])) → Wp Γ rex_Has_l1 [(0,.p (.str s)),(1,.p (.int .u8 c)),(5,.p (.int .i64 i))] [] (InBlk [] 0 Q) := by
  intro n
  induction n with
  | zero => intro i h1 h2; exact absurd h1 (by omega)
  | succ n ih =>
    intro i hn hi hQ
    by_cases hl : i + 1 < s.length
    · rw [hasS_drop hl] at hQ
      by_cases h1 : bt s i ≤ c
      · have b1 : byt s i ≤ (c : Int) := by rw [byt_bt]; omega
        by_cases h2 : c ≤ bt s (i + 1)
        · have b2 : (c : Int) ≤ byt s (i + 1) := by rw [byt_bt]; omega
          rw [decide_eq_true h1,decide_eq_true h2] at hQ
          rw [W_loop (L := rex_Has_l1) rfl]
          simp (disch := first | assumption | omega | decide | (simp only [lens] <;> omega) | fail) only [go_sem]
          exact hQ
        · have b2 : ¬ (c : Int) ≤ byt s (i + 1) := by rw [byt_bt]; omega
          rw [decide_eq_false h2,Bool.and_false,Bool.false_or] at hQ
          rw [W_loop (L := rex_Has_l1) rfl]
          simp (disch := first | assumption | omega | decide | (simp only [lens] <;> omega) | fail) only [go_sem]
          exact ih (i + 2) (by omega) (by omega) hQ
      · have b1 : ¬ byt s i ≤ (c : Int) := by rw [byt_bt]; omega
        rw [decide_eq_false h1,Bool.false_and,Bool.false_or] at hQ
        rw [W_loop (L := rex_Has_l1) rfl]
        simp (disch := first | assumption | omega | decide | (simp only [lens] <;> omega) | fail) only [go_sem]
        exact ih (i + 2) (by omega) (by omega) hQ
    · rw [hasS_end hl] at hQ
      rw [W_loop (L := rex_Has_l1) rfl]
      simp (disch := first | assumption | omega | decide | (simp only [lens] <;> omega) | fail) only [go_sem]
      exact hQ
theorem res_rexHas (s : List UInt8) (hs : s.length ≤ 1000000) (c : Nat) (hc : c < 256) : res Γ 358 [.str s,.int .u8 c] = some [.bool (hasS s c)] := by
 have L := fun Q hQ => rexHas_l1_ok s hs c hc Q (s.length + 2) 0 (by omega) (by omega) hQ
 rw [List.drop_zero] at L
 cases h : hasS s c
 ·rw [h] at L
  refine res_code (fn := rex_Has) rfl rfl ?_
  simp (disch := first | assumption | omega | decide | (simp only [lens] <;> omega) | fail) only [go_sem,rex_Has]
  refine L _ ?_
  simp (disch := first | assumption | omega | decide | (simp only [lens] <;> omega) | fail) only [go_sem]
 ·rw [h] at L
  refine res_code (fn := rex_Has) rfl rfl ?_
  simp (disch := first | assumption | omega | decide | (simp only [lens] <;> omega) | fail) only [go_sem,rex_Has]
  refine L _ ?_
  simp (disch := first | assumption | omega | decide | (simp only [lens] <;> omega) | fail) only [go_sem]
theorem r11Has_l1_ok (s : List UInt8) (hs : s.length ≤ 1000000) (c : Nat) (_hc : c < 256) (Q : Out → Prop) : ∀ (n i : Nat),s.length + 2 ≤ i + n → i ≤ s.length + 1 →
    (match hasS (s.drop i) c with
     | true => Q (.ret,[(4,.p (.bool true))],[])
     | false => Q (.nrm,[],[])) → Wp Γ r11_Has_l1 [(0,.p (.str s)),(1,.p (.int .u8 c)),(5,.p (.int .i64 i))] [] (InBlk [] 0 Q) := by
  intro n
  induction n with
  | zero => intro i h1 h2; exact absurd h1 (by omega)
  | succ n ih =>
    intro i hn hi hQ
    by_cases hl : i + 1 < s.length
    · rw [hasS_drop hl] at hQ
      by_cases h1 : bt s i ≤ c
      · have b1 : byt s i ≤ (c : Int) := by rw [byt_bt]; omega
        by_cases h2 : c ≤ bt s (i + 1)
        · have b2 : (c : Int) ≤ byt s (i + 1) := by rw [byt_bt]; omega
          rw [decide_eq_true h1,decide_eq_true h2] at hQ
          rw [W_loop (L := r11_Has_l1) rfl]
          simp (disch := first | assumption | omega | decide | (simp only [lens] <;> omega) | fail) only [go_sem]
          exact hQ
        · have b2 : ¬ (c : Int) ≤ byt s (i + 1) := by rw [byt_bt]; omega
          rw [decide_eq_false h2,Bool.and_false,Bool.false_or] at hQ
          rw [W_loop (L := r11_Has_l1) rfl]
          simp (disch := first | assumption | omega | decide | (simp only [lens] <;> omega) | fail) only [go_sem]
          exact ih (i + 2) (by omega) (by omega) hQ
      · have b1 : ¬ byt s i ≤ (c : Int) := by rw [byt_bt]; omega
        rw [decide_eq_false h1,Bool.false_and,Bool.false_or] at hQ
        rw [W_loop (L := r11_Has_l1) rfl]
        simp (disch := first | assumption | omega | decide | (simp only [lens] <;> omega) | fail) only [go_sem]
        exact ih (i + 2) (by omega) (by omega) hQ
    · rw [hasS_end hl] at hQ
      rw [W_loop (L := r11_Has_l1) rfl]
      simp (disch := first | assumption | omega | decide | (simp only [lens] <;> omega) | fail) only [go_sem]
      exact hQ
theorem res_r11Has (s : List UInt8) (hs : s.length ≤ 1000000) (c : Nat) (hc : c < 256) : res Γ 342 [.str s,.int .u8 c] = some [.bool (hasS s c)] := by
 have L := fun Q hQ => r11Has_l1_ok s hs c hc Q (s.length + 2) 0 (by omega) (by omega) hQ
 rw [List.drop_zero] at L
 cases h : hasS s c
 ·rw [h] at L
  refine res_code (fn := r11_Has) rfl rfl ?_
  simp (disch := first | assumption | omega | decide | (simp only [lens] <;> omega) | fail) only [go_sem,r11_Has]
  refine L _ ?_
  simp (disch := first | assumption | omega | decide | (simp only [lens] <;> omega) | fail) only [go_sem]
 ·rw [h] at L
  refine res_code (fn := r11_Has) rfl rfl ?_
  simp (disch := first | assumption | omega | decide | (simp only [lens] <;> omega) | fail) only [go_sem,r11_Has]
  refine L _ ?_
  simp (disch := first | assumption | omega | decide | (simp only [lens] <;> omega) | fail) only [go_sem]
theorem map_quoJ {a b : Int} (h0 : 0 ≤ a) (ha : a ≤ 9223372036854775807) (h1 : 0 < b) : binAV .quo (.p (.int .i64 a)) (.p (.int .i64 b)) = some (.p (.int .i64 (a / b))) := by
 have h2 : a / b ≤ a := Int.ediv_le_self b h0
 have h3 : 0 ≤ a / b := Int.ediv_nonneg h0 (by omega)
 have e : IntKind.wrap .i64 (a / b) = a / b := wrap_i64 (by omega) (by omega)
 simp only [binAV,binPV,binInt,true_or,if_true]
 rw [if_neg (by omega),Int.tdiv_eq_ediv_of_nonneg h0,e]; rfl
def grpS (s : List UInt8) (sv : List Int) (k : Nat) : List UInt8 :=
 if 2 * k + 1 < sv.length then (if sv.getD (2 * k) 0 < 0 ∨ sv.getD (2 * k + 1) 0 < sv.getD (2 * k) 0 ∨ (s.length : Int) < sv.getD (2 * k + 1) 0 then [] else (s.take (sv.getD (2 * k + 1) 0).toNat).drop (sv.getD (2 * k) 0).toNat) else []
theorem res_pikeGroup (s : List UInt8) (_hs : s.length ≤ 1000000) (sv : List Int) (hv : sv.length ≤ 100000) (kk : SK) (k : Nat) (hk : k ≤ 1000) : res Γ 347 [.str s,.sl kk 1 (ints .i64 sv),.int .i64 k] = some [.str (grpS s sv k)] := by
 unfold grpS
 by_cases h : 2 * k + 1 < sv.length
 ·rw [if_pos h]
  have e2 : (2 * (k : Int)).toNat = 2 * k := by omega
  have e3 : (2 * (k : Int) + 1).toNat = 2 * k + 1 := by omega
  by_cases h1 : sv.getD (2 * k) 0 < 0
  ·rw [if_pos (.inl h1)]
   refine res_code (fn := pike_Group) rfl rfl ?_
   simp (disch := first | assumption | omega | decide | (simp only [lens] <;> omega) | fail) only [go_sem,pike_Group,map_quoJ,e2,e3]
  ·by_cases h2 : sv.getD (2 * k + 1) 0 < sv.getD (2 * k) 0
   ·rw [if_pos (.inr (.inl h2))]
    refine res_code (fn := pike_Group) rfl rfl ?_
    simp (disch := first | assumption | omega | decide | (simp only [lens] <;> omega) | fail) only [go_sem,pike_Group,map_quoJ,e2,e3]
   ·by_cases h3 : (s.length : Int) < sv.getD (2 * k + 1) 0
    ·rw [if_pos (.inr (.inr h3))]
     refine res_code (fn := pike_Group) rfl rfl ?_
     simp (disch := first | assumption | omega | decide | (simp only [lens] <;> omega) | fail) only [go_sem,pike_Group,map_quoJ,e2,e3]
    ·rw [if_neg (by omega)]
     refine res_code (fn := pike_Group) rfl rfl ?_
     simp (disch := first | assumption | omega | decide | (simp only [lens] <;> omega) | fail) only [go_sem,pike_Group,map_quoJ,e2,e3]
 ·rw [if_neg h]
  refine res_code (fn := pike_Group) rfl rfl ?_
  simp (disch := first | assumption | omega | decide | (simp only [lens] <;> omega) | fail) only [go_sem,pike_Group,map_quoJ]
theorem res_r12Group (s : List UInt8) (_hs : s.length ≤ 1000000) (sv : List Int) (_hv : sv.length ≤ 100000) (kk : SK) (k : Nat) (hk : k ≤ 1000) : res Γ 331 [.str s,.sl kk 1 (ints .i64 sv),.int .i64 k] = some [.str (grpS s sv k)] := by
 unfold grpS
 by_cases h : 2 * k + 1 < sv.length
 ·rw [if_pos h]
  have e2 : (2 * (k : Int)).toNat = 2 * k := by omega
  have e3 : (2 * (k : Int) + 1).toNat = 2 * k + 1 := by omega
  by_cases h1 : sv.getD (2 * k) 0 < 0
  ·rw [if_pos (.inl h1)]
   refine res_code (fn := r12_Group) rfl rfl ?_
   simp (disch := first | assumption | omega | decide | (simp only [lens] <;> omega) | fail) only [go_sem,r12_Group,e2,e3]
  ·by_cases h2 : sv.getD (2 * k + 1) 0 < sv.getD (2 * k) 0
   ·rw [if_pos (.inr (.inl h2))]
    refine res_code (fn := r12_Group) rfl rfl ?_
    simp (disch := first | assumption | omega | decide | (simp only [lens] <;> omega) | fail) only [go_sem,r12_Group,e2,e3]
   ·by_cases h3 : (s.length : Int) < sv.getD (2 * k + 1) 0
    ·rw [if_pos (.inr (.inr h3))]
     refine res_code (fn := r12_Group) rfl rfl ?_
     simp (disch := first | assumption | omega | decide | (simp only [lens] <;> omega) | fail) only [go_sem,r12_Group,e2,e3]
    ·rw [if_neg (by omega)]
     refine res_code (fn := r12_Group) rfl rfl ?_
     simp (disch := first | assumption | omega | decide | (simp only [lens] <;> omega) | fail) only [go_sem,r12_Group,e2,e3]
 ·rw [if_neg h]
  refine res_code (fn := r12_Group) rfl rfl ?_
  simp (disch := first | assumption | omega | decide | (simp only [lens] <;> omega) | fail) only [go_sem,r12_Group]
def digB (c : Nat) : Bool := decide (48 ≤ c ∧ c ≤ 57)
theorem res_substDigit (c : Nat) (hc : c < 256) : res Γ 348 [.int .u8 c] = some [.bool (digB c)] := by
 unfold digB
 by_cases h1 : 48 ≤ c
 ·by_cases h2 : c ≤ 57
  ·rw [decide_eq_true ⟨h1,h2⟩]
   refine res_code (fn := subst_isDigit) rfl rfl ?_
   simp (disch := first | assumption | omega | decide | (simp only [lens] <;> omega) | fail) only [go_sem,subst_isDigit]
   rw [decide_eq_true (by omega)]
  ·rw [decide_eq_false (fun h => h2 h.2)]
   refine res_code (fn := subst_isDigit) rfl rfl ?_
   simp (disch := first | assumption | omega | decide | (simp only [lens] <;> omega) | fail) only [go_sem,subst_isDigit]
   rw [decide_eq_false (by omega)]
 ·rw [decide_eq_false (fun h => h1 h.1)]
  refine res_code (fn := subst_isDigit) rfl rfl ?_
  simp (disch := first | assumption | omega | decide | (simp only [lens] <;> omega) | fail) only [go_sem,subst_isDigit]
theorem res_r13digit (c : Nat) (hc : c < 256) : res Γ 330 [.int .u8 c] = some [.bool (digB c)] := by
 unfold digB
 by_cases h1 : 48 ≤ c
 ·by_cases h2 : c ≤ 57
  ·rw [decide_eq_true ⟨h1,h2⟩]
   refine res_code (fn := r13_digit) rfl rfl ?_
   simp (disch := first | assumption | omega | decide | (simp only [lens] <;> omega) | fail) only [go_sem,r13_digit]
   rw [decide_eq_true (by omega)]
  ·rw [decide_eq_false (fun h => h2 h.2)]
   refine res_code (fn := r13_digit) rfl rfl ?_
   simp (disch := first | assumption | omega | decide | (simp only [lens] <;> omega) | fail) only [go_sem,r13_digit]
   rw [decide_eq_false (by omega)]
 ·rw [decide_eq_false (fun h => h1 h.1)]
  refine res_code (fn := r13_digit) rfl rfl ?_
  simp (disch := first | assumption | omega | decide | (simp only [lens] <;> omega) | fail) only [go_sem,r13_digit]
def chkT : List UInt8 → Bool
 | [] => true
 | 92 :: c :: r => (c == 92 || digB c.toNat) && chkT r
 | 92 :: [] => false
 | _ :: r => chkT r
theorem bt_at {s : List UInt8} {i : Nat} (h : i < s.length) : bt s i = s[i].toNat := by unfold bt; rw [List.getD_eq_getElem?_getD,List.getElem?_eq_getElem h]; rfl
theorem u8_eq {a : UInt8} {n : Nat} (hn : n < 256) : a.toNat = n ↔ a = UInt8.ofNat n := by
 constructor
 ·intro h
  rw [← h]
  exact (UInt8.ofNat_toNat).symm
 ·rintro rfl
  rw [UInt8.toNat_ofNat']
  exact Nat.mod_eq_of_lt hn
theorem chkT_plain {s : List UInt8} {i : Nat} (h : i < s.length) (hb : bt s i ≠ 92) : chkT (s.drop i) = chkT (s.drop (i + 1)) := by
 have e1 : s.drop i = s[i] :: s.drop (i + 1) := List.drop_eq_getElem_cons h
 rw [bt_at h] at hb
 have : s[i] ≠ 92 := fun e => hb (by rw [e]; rfl)
 rw [e1]
 generalize s[i] = a at *
 generalize s.drop (i + 1) = r at *
 conv => lhs; unfold chkT
 split
 ·rename_i h; cases h
 ·rename_i h; cases h; exact absurd rfl this
 ·rename_i h; cases h; exact absurd rfl this
 ·rename_i h; cases h; rfl
theorem chkT_end {s : List UInt8} {i : Nat} (h : ¬ i < s.length) : chkT (s.drop i) = true := by
 rw [List.drop_eq_nil_of_le (by omega)]; rfl
theorem chkT_last {s : List UInt8} {i : Nat} (h : i < s.length) (hb : bt s i = 92) (h2 : ¬ i + 1 < s.length) : chkT (s.drop i) = false := by
 have e1 : s.drop i = s[i] :: s.drop (i + 1) := List.drop_eq_getElem_cons h
 rw [bt_at h] at hb
 have : s[i] = 92 := (u8_eq (n := 92) (by omega)).1 hb
 rw [e1,this,List.drop_eq_nil_of_le (by omega)]; rfl
theorem chkT_esc {s : List UInt8} {i : Nat} (hb : bt s i = 92) (h2 : i + 1 < s.length) : chkT (s.drop i) = ((decide (bt s (i + 1) = 92) || digB (bt s (i + 1))) && chkT (s.drop (i + 2))) := by
 have e1 : s.drop i = s[i] :: s.drop (i + 1) := List.drop_eq_getElem_cons (by omega)
 have e2 : s.drop (i + 1) = s[i + 1] :: s.drop (i + 2) := List.drop_eq_getElem_cons h2
 rw [bt_at (by omega)] at hb
 have : s[i] = 92 := (u8_eq (n := 92) (by omega)).1 hb
 rw [e1,this,e2,bt_at h2]
 have e3 : (s[i + 1] == 92) = decide (s[i + 1].toNat = 92) := by
  rw [Bool.eq_iff_iff,beq_iff_eq,decide_eq_true_iff,u8_eq (by omega)]; rfl
 rw [← e3]; rfl
theorem substCheck_l1_ok (s : List UInt8) (hs : s.length ≤ 1000000) (Q : Out → Prop) : ∀ (n i : Nat),s.length + 1 ≤ i + n → i ≤ s.length →
    (match chkT (s.drop i) with
     | false => Q (.ret,[(2,.p (.int .i64 8))],[])
     | true => Q (.nrm,[],[])) → Wp Γ subst_Check_l1 [(0,.p (.str s)),(3,.p (.int .i64 i))] [] (InBlk [] 0 Q) := by
  intro n
  induction n with
  | zero => intro i h1 h2; exact absurd h1 (by omega)
  | succ n ih =>
    intro i hn hi hQ
    by_cases hl : i < s.length
    · by_cases hb : bt s i = 92
      · have b1 : byt s i = 92 := by rw [byt_bt,hb]; rfl
        by_cases h2 : i + 1 < s.length
        · rw [chkT_esc hb h2] at hQ
          have eD := res_substDigit (bt s (i + 1)) bt_lt
          rw [← byt_bt] at eD
          by_cases h3 : bt s (i + 1) = 92
          · have b2 : byt s (i + 1) = 92 := by rw [byt_bt,h3]; rfl
            rw [decide_eq_true h3,Bool.true_or,Bool.true_and] at hQ
            rw [W_loop (L := subst_Check_l1) rfl]
            simp (disch := first | assumption | omega | decide | (simp only [lens] <;> omega) | fail) only [go_sem]
            exact ih (i + 2) (by omega) (by omega) hQ
          · have b2 : ¬ byt s (i + 1) = 92 := by rw [byt_bt]; omega
            rw [decide_eq_false h3,Bool.false_or] at hQ
            cases hd : digB (bt s (i + 1))
            · rw [hd] at hQ eD
              rw [W_loop (L := subst_Check_l1) rfl]
              simp (disch := first | assumption | omega | decide | (simp only [lens] <;> omega) | fail) only [go_sem,eD]
              exact hQ
            · rw [hd,Bool.true_and] at hQ
              rw [hd] at eD
              rw [W_loop (L := subst_Check_l1) rfl]
              simp (disch := first | assumption | omega | decide | (simp only [lens] <;> omega) | fail) only [go_sem,eD]
              exact ih (i + 2) (by omega) (by omega) hQ
        · rw [chkT_last hl hb h2] at hQ
          rw [W_loop (L := subst_Check_l1) rfl]
          simp (disch := first | assumption | omega | decide | (simp only [lens] <;> omega) | fail) only [go_sem]
          exact hQ
      · have b1 : ¬ byt s i = 92 := by rw [byt_bt]; omega
        rw [chkT_plain hl hb] at hQ
        rw [W_loop (L := subst_Check_l1) rfl]
        simp (disch := first | assumption | omega | decide | (simp only [lens] <;> omega) | fail) only [go_sem]
        exact ih (i + 1) (by omega) (by omega) hQ
    · rw [chkT_end hl] at hQ
      rw [W_loop (L := subst_Check_l1) rfl]
      simp (disch := first | assumption | omega | decide | (simp only [lens] <;> omega) | fail) only [go_sem]
      exact hQ
theorem res_substCheck (s : List UInt8) (hs : s.length ≤ 1000000) : res Γ 339 [.str s] = some [.int .i64 (if chkT s = true then 0 else 8)] := by
 have L := fun Q hQ => substCheck_l1_ok s hs Q (s.length + 1) 0 (by omega) (by omega) hQ
 rw [List.drop_zero] at L
 cases h : chkT s
 ·rw [h] at L
  refine res_code (fn := subst_Check) rfl rfl ?_
  simp (disch := first | assumption | omega | decide | (simp only [lens] <;> omega) | fail) only [go_sem,subst_Check]
  refine L _ ?_
  simp (disch := first | assumption | omega | decide | (simp only [lens] <;> omega) | fail) only [go_sem]
 ·rw [h] at L
  refine res_code (fn := subst_Check) rfl rfl ?_
  simp (disch := first | assumption | omega | decide | (simp only [lens] <;> omega) | fail) only [go_sem,subst_Check]
  refine L _ ?_
  simp (disch := first | assumption | omega | decide | (simp only [lens] <;> omega) | fail) only [go_sem]
theorem r13Check_l1_ok (s : List UInt8) (hs : s.length ≤ 1000000) (Q : Out → Prop) : ∀ (n i : Nat),s.length + 1 ≤ i + n → i ≤ s.length →
    (match chkT (s.drop i) with
     | false => Q (.ret,[(2,.p (.int .i64 8))],[])
     | true => Q (.nrm,[],[])) → Wp Γ r13_Check_l1 [(0,.p (.str s)),(3,.p (.int .i64 i))] [] (InBlk [] 0 Q) := by
  intro n
  induction n with
  | zero => intro i h1 h2; exact absurd h1 (by omega)
  | succ n ih =>
    intro i hn hi hQ
    by_cases hl : i < s.length
    · by_cases hb : bt s i = 92
      · have b1 : byt s i = 92 := by rw [byt_bt,hb]; rfl
        by_cases h2 : i + 1 < s.length
        · rw [chkT_esc hb h2] at hQ
          have eD := res_r13digit (bt s (i + 1)) bt_lt
          rw [← byt_bt] at eD
          by_cases h3 : bt s (i + 1) = 92
          · have b2 : byt s (i + 1) = 92 := by rw [byt_bt,h3]; rfl
            rw [decide_eq_true h3,Bool.true_or,Bool.true_and] at hQ
            rw [W_loop (L := r13_Check_l1) rfl]
            simp (disch := first | assumption | omega | decide | (simp only [lens] <;> omega) | fail) only [go_sem]
            exact ih (i + 2) (by omega) (by omega) hQ
          · have b2 : ¬ byt s (i + 1) = 92 := by rw [byt_bt]; omega
            rw [decide_eq_false h3,Bool.false_or] at hQ
            cases hd : digB (bt s (i + 1))
            · rw [hd] at hQ eD
              rw [W_loop (L := r13_Check_l1) rfl]
              simp (disch := first | assumption | omega | decide | (simp only [lens] <;> omega) | fail) only [go_sem,eD]
              exact hQ
            · rw [hd,Bool.true_and] at hQ
              rw [hd] at eD
              rw [W_loop (L := r13_Check_l1) rfl]
              simp (disch := first | assumption | omega | decide | (simp only [lens] <;> omega) | fail) only [go_sem,eD]
              exact ih (i + 2) (by omega) (by omega) hQ
        · rw [chkT_last hl hb h2] at hQ
          rw [W_loop (L := r13_Check_l1) rfl]
          simp (disch := first | assumption | omega | decide | (simp only [lens] <;> omega) | fail) only [go_sem]
          exact hQ
      · have b1 : ¬ byt s i = 92 := by rw [byt_bt]; omega
        rw [chkT_plain hl hb] at hQ
        rw [W_loop (L := r13_Check_l1) rfl]
        simp (disch := first | assumption | omega | decide | (simp only [lens] <;> omega) | fail) only [go_sem]
        exact ih (i + 1) (by omega) (by omega) hQ
    · rw [chkT_end hl] at hQ
      rw [W_loop (L := r13_Check_l1) rfl]
      simp (disch := first | assumption | omega | decide | (simp only [lens] <;> omega) | fail) only [go_sem]
      exact hQ
theorem res_r13Check (s : List UInt8) (hs : s.length ≤ 1000000) : res Γ 320 [.str s] = some [.int .i64 (if chkT s = true then 0 else 8)] := by
 have L := fun Q hQ => r13Check_l1_ok s hs Q (s.length + 1) 0 (by omega) (by omega) hQ
 rw [List.drop_zero] at L
 cases h : chkT s
 ·rw [h] at L
  refine res_code (fn := r13_Check) rfl rfl ?_
  simp (disch := first | assumption | omega | decide | (simp only [lens] <;> omega) | fail) only [go_sem,r13_Check]
  refine L _ ?_
  simp (disch := first | assumption | omega | decide | (simp only [lens] <;> omega) | fail) only [go_sem]
 ·rw [h] at L
  refine res_code (fn := r13_Check) rfl rfl ?_
  simp (disch := first | assumption | omega | decide | (simp only [lens] <;> omega) | fail) only [go_sem,r13_Check]
  refine L _ ?_
  simp (disch := first | assumption | omega | decide | (simp only [lens] <;> omega) | fail) only [go_sem]
end Ab
namespace Ab
open Go (IntKind BinOp UnOp)
theorem wrap_u64 {x : Int} (h0 : 0 ≤ x) (h1 : x ≤ 18446744073709551615) : IntKind.u64.wrap x = x := by
 simp only [IntKind.wrap,IntKind.bits,IntKind.signed,Bool.false_and]
 have e : (2 : Int) ^ 64 = 18446744073709551616 := by decide
 rw [e]
 simp
 omega
attribute [go_sem] wrap_u64
end Ab
namespace Ab
theorem mul_halves {x y : Int} (hx : 0 ≤ x ∧ x < 18446744073709551616) (hy : 0 ≤ y ∧ y < 18446744073709551616) :
  let x0 := x % 4294967296; let x1 := x / 4294967296; let y0 := y % 4294967296; let y1 := y / 4294967296
  let w0 := x0 * y0; let t := x1 * y0 + w0 / 4294967296; let w1 := t % 4294967296 + x0 * y1
  (0 ≤ w0 ∧ w0 ≤ 18446744065119617025) ∧ (0 ≤ x1 * y0 ∧ x1 * y0 ≤ 18446744065119617025) ∧ (0 ≤ x0 * y1 ∧ x0 * y1 ≤ 18446744065119617025) ∧ (0 ≤ x1 * y1 ∧ x1 * y1 ≤ 18446744065119617025) ∧
   x1 * y1 + t / 4294967296 + w1 / 4294967296 = x * y / 18446744073709551616 ∧ (0 ≤ x * y / 18446744073709551616 ∧ x * y / 18446744073709551616 < 18446744073709551616) := by
 intro x0 x1 y0 y1 w0 t w1
 have b : ∀ a c : Int,0 ≤ a → a ≤ 4294967295 → 0 ≤ c → c ≤ 4294967295 → 0 ≤ a * c ∧ a * c ≤ 18446744065119617025 := fun a c h1 h2 h3 h4 =>
  ⟨Int.mul_nonneg h1 h3,Int.le_trans (Int.mul_le_mul h2 h4 h3 (by decide)) (by decide)⟩
 have hx0 : 0 ≤ x0 ∧ x0 ≤ 4294967295 := by omega
 have hx1 : 0 ≤ x1 ∧ x1 ≤ 4294967295 := by omega
 have hy0 : 0 ≤ y0 ∧ y0 ≤ 4294967295 := by omega
 have hy1 : 0 ≤ y1 ∧ y1 ≤ 4294967295 := by omega
 have b1 := b x0 y0 hx0.1 hx0.2 hy0.1 hy0.2
 have b2 := b x1 y0 hx1.1 hx1.2 hy0.1 hy0.2
 have b3 := b x0 y1 hx0.1 hx0.2 hy1.1 hy1.2
 have b4 := b x1 y1 hx1.1 hx1.2 hy1.1 hy1.2
 have ex : x = 4294967296 * x1 + x0 := by omega
 have ey : y = 4294967296 * y1 + y0 := by omega
 have e : x * y = 18446744073709551616 * (x1 * y1) + 4294967296 * (x1 * y0) + 4294967296 * (x0 * y1) + x0 * y0 := by
  rw [ex,ey,Int.add_mul,Int.mul_add,Int.mul_add,Int.mul_assoc,Int.mul_left_comm x1,← Int.mul_assoc 4294967296,Int.mul_assoc 4294967296 x1 y0,Int.mul_left_comm x0 4294967296]
  omega
 refine ⟨b1,b2,b3,b4,?_,?_⟩
 ·rw [e]
  omega
 ·rw [e]
  omega
end Ab
namespace Ab
open Go (IntKind BinOp UnOp)
theorem wrap_u64m (x : Int) : IntKind.u64.wrap x = x % 18446744073709551616 := by
 simp only [IntKind.wrap,IntKind.bits,IntKind.signed,Bool.false_and]
 have e : (2 : Int) ^ 64 = 18446744073709551616 := by decide
 rw [e]
 simp
theorem map_shr32 (x : Int) : binAV .shr (.p (.int .u64 x)) (.p (.int .u64 32)) = some (.p (.int .u64 (x / 4294967296))) := by
 have e : x.fdiv (2 ^ min 32 IntKind.u64.bits) = x / 4294967296 := by
  have e : (2 : Int) ^ (min 32 IntKind.u64.bits) = 4294967296 := by decide
  rw [e,Int.fdiv_eq_ediv_of_nonneg _ (by decide)]
 simp [binAV,binPV,binInt,e]
theorem map_and32 {x : Int} (_h0 : 0 ≤ x) (_h1 : x ≤ 18446744073709551615) : binAV .and (.p (.int .u64 x)) (.p (.int .u64 4294967295)) = some (.p (.int .u64 (x % 4294967296))) := by
 have e : (BitVec.ofInt IntKind.u64.bits 4294967295).toNat = 2 ^ 32 - 1 := by decide
 have e3 : ((2 ^ IntKind.u64.bits : Nat) : Int) = 18446744073709551616 := by decide
 have key : ((BitVec.ofInt IntKind.u64.bits x &&& BitVec.ofInt IntKind.u64.bits 4294967295).toNat : Int) = x % 4294967296 := by
  rw [BitVec.toNat_and,e,Nat.and_two_pow_sub_one_eq_mod,BitVec.toNat_ofInt,e3]
  omega
 simp only [binAV,binPV,binInt,true_or,if_true,Option.map_some,key]
 rw [wrap_u64 (by omega) (by omega)]
theorem res_Mul64 {x y : Int} (hx : 0 ≤ x ∧ x < 18446744073709551616) (hy : 0 ≤ y ∧ y < 18446744073709551616) : res Γ 149 [.int .u64 x,.int .u64 y] = some [.int .u64 (x * y / 18446744073709551616),.int .u64 (x * y % 18446744073709551616)] := by
 obtain ⟨b1,b2,b3,b4,e,b5⟩ := mul_halves hx hy
 rw [← e] at b5 ⊢
 rw [← wrap_u64m (x * y)]
 refine res_code (fn := math_bits_Mul64) rfl rfl ?_
 simp (disch := first | assumption | omega | decide | (simp only [lens] <;> omega) | fail) only [go_sem,math_bits_Mul64,map_shr32,map_and32,wrap_u64]
end Ab
namespace Ab
open Go (IntKind BinOp UnOp)
theorem ints_cons {k : IntKind} {a : Int} {r : List Int} : ints k (a :: r) = .int k a :: ints k r := rfl
theorem bne_ff : (false != false) = false := rfl
theorem bne_tf : (true != false) = true := rfl
attribute [go_sem] bne_ff bne_tf
theorem res_cloneI (sv : List Int) (h0 : 0 < sv.length) (h : sv.length ≤ 100000) : res Γ 349 [.sl .any 1 (ints .i64 sv)] = some [.sl .any 1 (ints .i64 sv)] := by
 cases sv with
 | nil => exact absurd h0 (by simp)
 | cons a r =>
  simp only [List.length_cons] at h
  refine res_code (fn := slices_Clone_int_int) rfl rfl ?_
  simp (disch := first | assumption | omega | decide | (simp only [lens] <;> omega) | fail) only [go_sem,slices_Clone_int_int,ints_cons,app_tight0]
theorem res_cloneI0 : res Γ 349 [.sl .nil 1 []] = some [.sl .nil 1 []] := by
 refine res_code (fn := slices_Clone_int_int) rfl rfl ?_
 simp (disch := first | assumption | omega | decide | (simp only [lens] <;> omega) | fail) only [go_sem,slices_Clone_int_int]
theorem resM_cloneI (sv : List Int) (h0 : 0 < sv.length) (h : sv.length ≤ 100000) : resM Γ 0 349 [.p (.sl .any 1 (ints .i64 sv))] [] = some ([.own 0 sv.length],[.row false 1 (ints .i64 sv)]) := by
 cases sv with
 | nil => exact absurd h0 (by simp)
 | cons a r =>
  simp only [List.length_cons] at h
  refine resM_code (fn := slices_Clone_int_int) rfl rfl ?_
  simp (disch := first | assumption | omega | decide | (simp only [lens] <;> omega) | fail) only [go_sem,slices_Clone_int_int,ints_cons,app_tight0]
abbrev sI (sv : List Int) : PV := .sl .any 1 (ints .i64 sv)
theorem res_plwith (sv : List Int) (h0 : 0 < sv.length) (h : sv.length ≤ 100000) (x v : Int) : res Γ 357 [.agg [sI sv],.int .i64 x,.int .i64 v] = some [.agg [sI (setAt sv x v)]] := by
 have eC := resM_cloneI sv h0 h
 unfold setAt
 by_cases hx : 0 ≤ x ∧ x < (sv.length : Int)
 ·rw [if_pos hx]
  refine res_code (fn := pike_laid_with) rfl rfl ?_
  simp (disch := first | assumption | omega | decide | (simp only [lens] <;> omega) | fail) only [go_sem,pike_laid_with,eC]
 ·rw [if_neg hx]
  by_cases hx0 : x < 0
  ·refine res_code (fn := pike_laid_with) rfl rfl ?_
   simp (disch := first | assumption | omega | decide | (simp only [lens] <;> omega) | fail) only [go_sem,pike_laid_with]
  ·refine res_code (fn := pike_laid_with) rfl rfl ?_
   simp (disch := first | assumption | omega | decide | (simp only [lens] <;> omega) | fail) only [go_sem,pike_laid_with]
theorem res_mulU (a b : Nat) (h : a * b < 18446744073709551616) (ha : a < 18446744073709551616) (hb : b < 18446744073709551616) : res Γ 359 [.int .u64 a,.int .u64 b] = some [.int .u64 0,.int .u64 ((a * b : Nat) : Int)] := by
 have e := res_Mul64 (x := (a : Int)) (y := (b : Int)) (by omega) (by omega)
 have e1 : (a : Int) * b / 18446744073709551616 = 0 := by
  rw [← Int.natCast_mul]
  omega
 have e2 : (a : Int) * b % 18446744073709551616 = ((a * b : Nat) : Int) := by
  rw [← Int.natCast_mul]
  omega
 rw [e1,e2] at e
 refine res_code (fn := math_bits_Mul) rfl rfl ?_
 simp (disch := first | assumption | omega | decide | (simp only [lens] <;> omega) | fail) only [go_sem,math_bits_Mul,e]
theorem wsl_lo {xs : List PV} {n m : Nat} {k : IntKind} (hl : xs.length = n) (h : m < n) : wsliceA [.row false 1 xs] 1 (.own 0 n) (some (.p (.int k (m : Int)))) none = some (.el 0 n (n + m) n) := by
 unfold wsliceA
 simp only [rowOf,List.getElem?_cons_zero,hl,if_true,Option.bind_some,bound]
 rw [if_pos (by omega),Option.bind_some,Int.toNat_natCast,if_pos h]
theorem wsl_hi {xs : List PV} {n m : Nat} {k : IntKind} (hl : xs.length = n) (h : m ≤ n) (h0 : 0 < n) : wsliceA [.row false 1 xs] 1 (.own 0 n) none (some (.p (.int k (m : Int)))) = some (.el 0 n n m) := by
 unfold wsliceA
 simp only [rowOf,List.getElem?_cons_zero,hl,if_true,Option.bind_some,bound]
 rw [if_pos (by omega),Option.bind_some,Int.toNat_natCast,if_pos h0,Nat.add_zero]
theorem win_lo {xs : List PV} {n m : Nat} (hl : xs.length = n) (h : m ≤ n) (h0 : 0 < n) : winElems [.row false 1 xs] 1 (.el 0 n n m) = some (xs.take m) := by
 unfold winElems
 simp only [rowOf,List.getElem?_cons_zero,hl,if_true,Option.bind_some,Nat.sub_self,List.drop_zero]
 rw [if_pos ⟨Nat.le_refl _,h0,Nat.zero_le _,h⟩]
theorem win_p {H : Heap} {sz : Nat} {k : SK} {xs : List PV} : winElems H sz (.p (.sl k sz xs)) = some xs := by simp [winElems,elemsOf]
def repR (n m : Nat) : List PV := ints .i64 (List.replicate m (-1) ++ List.replicate (n - m) 0)
theorem repR_len {n m : Nat} (h : m ≤ n) : (repR n m).length = n := by unfold repR; rw [ints_len,List.length_append,List.length_replicate,List.length_replicate]; omega
theorem repR_step {n m : Nat} (h : m < n) : spliceP (repR n m) m (((repR n m).take m).take (n - m)) = repR n (m + min m (n - m)) := by
 have e1 : (repR n m).take m = ints .i64 (List.replicate m (-1)) := by
  unfold repR
  rw [ints_take,List.take_append_of_le_length (by simp),List.take_of_length_le (by simp)]
 have e2 : ((repR n m).take m).take (n - m) = ints .i64 (List.replicate (min m (n - m)) (-1)) := by
  rw [e1,ints_take,List.take_replicate,Nat.min_comm]
 unfold spliceP
 rw [e2,e1,ints_len,List.length_replicate]
 unfold repR
 rw [ints_drop,ints_app,ints_app,List.drop_append,List.drop_of_length_le (by simp),List.length_replicate,List.nil_append,List.drop_replicate]
 congr 2
 ·rw [List.replicate_append_replicate]
 ·congr 1; omega
theorem repR_len2 {n m : Nat} (h : m ≤ n) : ((repR n m).take m).length = m := by rw [List.length_take,repR_len h]; omega
theorem repeat_l1_ok (n : Nat) (hn : n ≤ 100000) (Q : Out → Prop) (hQ : Q (.nrm,[(7,.own 0 n)],[.row false 1 (repR n n)])) : ∀ (d m : Nat),n ≤ m + d → m ≤ n → 1 ≤ m → Wp Γ slices_Repeat_int_int_l1 [(7,.own 0 n),(8,.p (.int .i64 m))] [.row false 1 (repR n m)] (InBlk [7] 0 Q) := by
 intro d
 induction d with
 | zero =>
  intro m h1 h2 h3
  have : m = n := by omega
  subst this
  have hl := @repR_len m m (Nat.le_refl _)
  rw [W_loop (L := slices_Repeat_int_int_l1) rfl]
  simp (disch := first | assumption | omega | decide | (simp only [lens] <;> omega) | fail) only [go_sem]
  exact hQ
 | succ d ih =>
  intro m h1 h2 h3
  have hl := @repR_len n m h2
  have hl2 := @repR_len2 n m h2
  by_cases hm : m < n
  ·have e := repR_step hm
   have I := ih (m + min m (n - m)) (by omega) (by omega) (by omega)
   rw [W_loop (L := slices_Repeat_int_int_l1) rfl]
   simp (disch := first | assumption | omega | decide | (simp only [lens] <;> omega) | fail) only [go_sem,L_wslice,wsl_lo,wsl_hi,win_lo,e,hl,hl2,Nat.add_sub_cancel_left,Nat.le_add_right,hm,h2,Nat.le_refl]
   exact I
  ·have : m = n := by omega
   subst this
   rw [W_loop (L := slices_Repeat_int_int_l1) rfl]
   simp (disch := first | assumption | omega | decide | (simp only [lens] <;> omega) | fail) only [go_sem]
   exact hQ
theorem res_repeat (n : Nat) (h1 : 1 ≤ n) (hn : n ≤ 100000) : res Γ 352 [.sl .tight 1 [.int .i64 (-1)],.int .i64 n] = some [sI (List.replicate n (-1))] := by
 have eM := res_mulU 1 n (by omega) (by omega) (by omega)
 rw [Nat.one_mul] at eM
 have L := fun Q hQ => repeat_l1_ok n hn Q hQ n 1 (by omega) h1 (Nat.le_refl _)
 have e1 : spliceP (ints .i64 (List.replicate n 0)) 0 (([.int .i64 (-1)] : List PV).take n) = repR n 1 := by
  obtain ⟨m,rfl⟩ : ∃ m,n = m + 1 := ⟨n - 1,by omega⟩
  simp [spliceP,repR,ints,List.replicate_succ]
 have e2 : min 1 n = 1 := by omega
 have h0 : 0 < n := h1
 have hl : (ints .i64 (List.replicate n 0)).length = n := by rw [ints_len,List.length_replicate]
 have e3 : repR n n = ints .i64 (List.replicate n (-1)) := by
  unfold repR; rw [Nat.sub_self,List.replicate_zero,List.append_nil]
 rw [e3] at L
 refine res_code (fn := slices_Repeat_int_int) rfl rfl ?_
 simp (disch := first | assumption | omega | decide | (simp only [lens] <;> omega) | fail) only [go_sem,slices_Repeat_int_int,wrap_u64,eM,ints_rep,win_p,e1,e2,hl,h0]
 refine L _ ?_
 simp (disch := first | assumption | omega | decide | (simp only [lens] <;> omega) | fail) only [go_sem]
end Ab
namespace Ab
open Go (IntKind BinOp UnOp)
def wyC (w : Wy) : List PV := [sI w.2,.int .i64 w.1]
def wR (ws : List Wy) : List PV := aggs (ws.map wyC)
def stR (st : List Wy) : List PV := wR st.reverse
theorem wR_len {ws} : (wR ws).length = ws.length := by simp [wR,aggs]
theorem stR_len {st} : (stR st).length = st.length := by simp [stR,wR_len]
theorem wR_app1 {ws : List Wy} {pc : Int} {sv : List Int} : wR ws ++ [.agg [.sl .any 1 (ints .i64 sv),.int .i64 pc]] = wR (ws ++ [(pc,sv)]) := by simp [wR,aggs,wyC]
theorem stR_cons1 {st : List Wy} {pc : Int} {sv : List Int} : stR st ++ [.agg [.sl .any 1 (ints .i64 sv),.int .i64 pc]] = stR ((pc,sv) :: st) := by simp [stR,wR,aggs,wyC]
theorem stR_cons2 {st : List Wy} {pc pc2 : Int} {sv sv2 : List Int} : stR st ++ [.agg [.sl .any 1 (ints .i64 sv),.int .i64 pc],.agg [.sl .any 1 (ints .i64 sv2),.int .i64 pc2]] = stR ((pc2,sv2) :: (pc,sv) :: st) := by simp [stR,wR,aggs,wyC]
theorem stR_get {st : List Wy} {w : Wy} : (stR (w :: st))[st.length]? = some (.agg (wyC w)) := by
 unfold stR
 rw [List.reverse_cons]
 have : wR (st.reverse ++ [w]) = wR st.reverse ++ [.agg (wyC w)] := by simp [wR,aggs]
 rw [this,List.getElem?_append_right (by rw [wR_len,List.length_reverse]; exact Nat.le_refl _),wR_len,List.length_reverse,Nat.sub_self]; rfl
theorem stR_take {st : List Wy} {w : Wy} : (stR (w :: st)).take st.length = stR st := by
 unfold stR
 rw [List.reverse_cons]
 have : wR (st.reverse ++ [w]) = wR st.reverse ++ [.agg (wyC w)] := by simp [wR,aggs]
 rw [this,List.take_left' (by rw [wR_len,List.length_reverse])]
theorem loadK_st {f : Bool} {st : List Wy} {pc : Int} {sv : List Int} : loadK (some (.row f 2 (stR ((pc,sv) :: st)))) 2 true (st.length + 1) st.length 0 = some (.p (.agg [.sl .any 1 (ints .i64 sv),.int .i64 pc])) := by
 unfold loadK
 simp only [stR_len,List.length_cons,if_true,stR_get,Option.bind_some]
 rfl
def popK (H : Heap) (b : Option Blk) (sz id n : Nat) (h : Int) : Option (AV × Heap) := match b with
 | some (.row false sz' xs) => if xs.length = n ∧ sz' = sz ∧ 0 ≤ h ∧ h ≤ n then some (.own H.length h.toNat,H.set id .dead ++ [.row false sz (xs.take h.toNat)]) else none
 | _ => none
theorem pop_K {H : Heap} {sz id n : Nat} {k : IntKind} {h : Int} : popA H sz (.own id n) (.p (.int k h)) = popK H H[id]? sz id n h := by
 unfold popA popK
 rfl
theorem popK_st {H : Heap} {id : Nat} {st : List Wy} {w : Wy} : popK H (some (.row false 2 (stR (w :: st)))) 2 id (st.length + 1) (st.length : Int) = some (.own H.length st.length,H.set id .dead ++ [.row false 2 (stR st)]) := by
 unfold popK
 simp only [stR_len,List.length_cons]
 rw [if_pos ⟨trivial,trivial,by omega,by omega⟩,Int.toNat_natCast,stR_take]
theorem len1 {n : Nat} : ((n + 1 : Nat) : Int) - 1 = (n : Int) := by omega
def seenE (s : List Int) : List (PV × AV) := s.map fun k => (.int .i64 k,.p (.bool true))
abbrev sB (s : List Int) : Blk := .box (mapCells (seenE s))
theorem seen_find {s : List Int} {k : Int} : mfind (.int .i64 k) (seenE s) = some (if k ∈ s then some (.p (.bool true)) else none) := by
 induction s with
 | nil => rfl
 | cons a s ih =>
  show mfind (.int .i64 k) ((.int .i64 a,.p (.bool true)) :: seenE s) = _
  simp only [mfind,keyEq,if_true]
  by_cases h : k = a
  ·subst h; simp
  ·rw [beq_false_of_ne h]
   simp only [ih,List.mem_cons,h,false_or]
theorem seen_put {s : List Int} {k : Int} (h : k ∉ s) : mput (.int .i64 k) (.p (.bool true)) (seenE s) = some (seenE (s ++ [k])) := by
 induction s with
 | nil => rfl
 | cons a s ih =>
  simp only [List.mem_cons,not_or] at h
  show mput (.int .i64 k) _ ((.int .i64 a,.p (.bool true)) :: seenE s) = _
  simp only [mput,keyEq,if_true]
  rw [beq_false_of_ne h.1]
  simp only [ih h.2,Option.map_some]
  rfl
theorem seen_refs {s : List Int} : (mapCells (seenE s)).flatMap AV.refs = [] := by
 have : ∀ s : List Int,(mapFlat (seenE s)).flatMap AV.refs = [] := by
  intro s
  induction s with
  | nil => rfl
  | cons a s ih =>
   show (AV.p (.int .i64 a) :: AV.p (.bool true) :: mapFlat (seenE s)).flatMap AV.refs = []
   rw [List.flatMap_cons,List.flatMap_cons,ih]; rfl
 unfold mapCells
 rw [List.flatMap_cons,List.flatMap_cons,this]; rfl
theorem seen_ren {s : List Int} {p d} : mapO (AV.ren p d) (mapCells (seenE s)) = some (mapCells (seenE s)) := by
 have : ∀ s : List Int,mapO (AV.ren p d) (mapFlat (seenE s)) = some (mapFlat (seenE s)) := by
  intro s
  induction s with
  | nil => rfl
  | cons a s ih =>
   show mapO (AV.ren p d) (AV.p (.int .i64 a) :: AV.p (.bool true) :: mapFlat (seenE s)) = _
   simp only [mapO_cons,ren_p,Option.bind_some,ih,Option.map_some]; rfl
 unfold mapCells
 simp only [mapO_cons,ren_nov,Option.bind_some,this,Option.map_some]
theorem seen_nil : mapCells [] = mapCells (seenE []) := rfl
theorem refs_mp {id} : AV.refs (.mp id) = [id] := rfl
theorem ren_mp {r d id} : AV.ren r d (.mp id) = (r id).map .mp := by cases d <;> rfl
attribute [go_sem] refs_mp ren_mp
theorem rowAt_st {f sz st n} (h : List.length st = n) : rowAt (some (.row f sz (stR st))) n = some (sz,stR st) := rowAt_pos (stR_len.trans h)
theorem rowAt_wR {f sz ws n} (h : List.length ws = n) : rowAt (some (.row f sz (wR ws))) n = some (sz,wR ws) := rowAt_pos (wR_len.trans h)
theorem iaddrK_st {f sz st id} {n : Nat} {i} (h : List.length st = n) (h1 : 0 ≤ i) (h2 : i < (n : Int)) : iaddrK (some (.row f sz (stR st))) sz id n i = some (.el id n i.toNat 0) := iaddrK_pos (stR_len.trans h) h1 h2
theorem iaddrK_wR {f sz ws id} {n : Nat} {i} (h : List.length ws = n) (h1 : 0 ≤ i) (h2 : i < (n : Int)) : iaddrK (some (.row f sz (wR ws))) sz id n i = some (.el id n i.toNat 0) := iaddrK_pos (wR_len.trans h) h1 h2
theorem appK_st {H : Heap} {sz id n st ys} (h : List.length st = n) (h' : st.length + ys.length ≤ 1073741824) : appK H (some (.row false sz (stR st))) sz id n ys = some (.own id (n + ys.length),H.set id (.row false sz (stR st ++ ys))) := appK_pos (stR_len.trans h) (by rw [stR_len]; exact h')
theorem appK_wR {H : Heap} {sz id n ws ys} (h : List.length ws = n) (h' : ws.length + ys.length ≤ 1073741824) : appK H (some (.row false sz (wR ws))) sz id n ys = some (.own id (n + ys.length),H.set id (.row false sz (wR ws ++ ys))) := appK_pos (wR_len.trans h) (by rw [wR_len]; exact h')
attribute [go_sem] rowAt_st rowAt_wR iaddrK_st iaddrK_wR appK_st appK_wR
attribute [go_sem] L_popf wR_app1 stR_cons1 stR_cons2 wR_len stR_len loadK_st pop_K popK_st len1 seen_refs seen_ren seen_put
abbrev wkB (g : Int) (kl : SK) (l : List Ins) (t : List UInt8) : Blk := .box [.p (.int .i64 g),.p (.sl kl 4 (inR l)),.p (.str t)]
inductive Sh where | a | b | c
def aH (wk X : Blk) (sh : Sh) (ws : List Wy) (s : List Int) (st : List Wy) : Heap := match sh with
 | .a => [wk,.box [.own 2 ws.length,.mp 3],.row false 2 (wR ws),sB s,.row false 2 (stR st)]
 | .b => [wk,.box [.p (.sl .nil 2 []),.mp 2],sB s,X,.row false 2 (stR st)]
 | .c => [wk,.box [.own 5 ws.length,.mp 2],sB s,X,.row false 2 (stR st),.row false 2 (wR ws)]
def okSh (sh : Sh) (ws : List Wy) : Prop := match sh with | .b => ws = [] | _ => True
def shN : Sh → Sh | .a => .a | .b => .c | .c => .c
def shF (sh : Sh) : List Wy → Sh | [] => sh | _ :: _ => shN sh
theorem shF_N {sh lv} : shF (shN sh) lv = shN sh := by cases lv <;> cases sh <;> rfl
abbrev aE (k n : Nat) : Env := [(0,.bx 0 0),(1,.bx 1 0),(3,.p (.int .i64 k)),(8,.own 4 n)]
set_option maxRecDepth 10000 in
set_option maxHeartbeats 8000000 in
theorem pkAdds_l1_ok (g : Int) (kl : SK) (l : List Ins) (hl : l.length ≤ 10000) (t : List UInt8) (_ht : t.length ≤ 1000000) (k m : Nat) (hm : 0 < m ∧ m ≤ 100000) (xb : List PV) (Q : Out → Prop) {st s lv s'} (hc : Cl l t.length k st s lv s') :
  ∀ (sh : Sh) (ws : List Wy),okSh sh ws → ws.length + lv.length ≤ 100000 → st.length + 2 * left l s ≤ 100000 → (∀ w ∈ st,w.2.length = m) →
  Q (.nrm,[],aH (wkB g kl l t) (.box (xb.map .p)) (shF sh lv) (ws ++ lv) s' []) →
  ∀ e H,norm [0,1,3,8] (some 4) e H = some (aE k st.length,aH (wkB g kl l t) (.box (xb.map .p)) sh ws s st) →
  Wp Γ pike_walk_adds_l1 e H (InBlk [] 0 Q) := by
 induction hc with
 | nil =>
  intro sh ws hsh hw hst hsv hQ e H hH
  rw [List.append_nil] at hQ
  rcases sh with _ | _ | _ <;> simp only [aH,shF] at hH hQ
  all_goals
   rw [W_loop (L := pike_walk_adds_l1) rfl]
   rw [hH]
   simp (disch := first | assumption | omega | decide | (simp only [lens] <;> omega) | fail) only [go_sem]
   exact hQ
 | @skip w st s lv s' hd _ ih =>
  intro sh ws hsh hw hst hsv hQ e H hH
  obtain ⟨pc,sv⟩ := w
  simp only [List.length_cons] at hst hH
  have I := ih sh ws hsh hw (by omega) (fun w h => hsv w (List.mem_cons_of_mem _ h)) hQ
  dsimp only at hd
  by_cases h0 : pc < 0
  ·rcases sh with _ | _ | _ <;> simp only [aH] at hH I
   all_goals
    rw [W_loop (L := pike_walk_adds_l1) rfl]
    rw [hH]
    simp (disch := first | assumption | omega | decide | (simp only [lens] <;> omega) | fail) only [go_sem]
    refine I _ _ ?_
    simp (disch := first | assumption | omega | decide | (simp only [lens] <;> omega) | fail) only [go_sem,norm_k]
  ·by_cases h1 : (l.length : Int) ≤ pc
   ·rcases sh with _ | _ | _ <;> simp only [aH] at hH I
    all_goals
     rw [W_loop (L := pike_walk_adds_l1) rfl]
     rw [hH]
     simp (disch := first | assumption | omega | decide | (simp only [lens] <;> omega) | fail) only [go_sem]
     refine I _ _ ?_
     simp (disch := first | assumption | omega | decide | (simp only [lens] <;> omega) | fail) only [go_sem,norm_k]
   ·have h2 : pc ∈ s := by
     rcases hd with h | h | h
     ·exact absurd h h0
     ·exact absurd h h1
     ·exact h
    have eF : mfind (.int .i64 pc) (seenE s) = some (some (.p (.bool true))) := by rw [seen_find,if_pos h2]
    rcases sh with _ | _ | _ <;> simp only [aH] at hH I
    all_goals
     rw [W_loop (L := pike_walk_adds_l1) rfl]
     rw [hH]
     simp (disch := first | assumption | omega | decide | (simp only [lens] <;> omega) | fail) only [go_sem,eF]
     refine I _ _ ?_
     simp (disch := first | assumption | omega | decide | (simp only [lens] <;> omega) | fail) only [go_sem,norm_k]
 | @leaf w st s lv s' hd hf _ ih =>
  intro sh ws hsh hw hst hsv hQ e H hH
  obtain ⟨pc,sv⟩ := w
  simp only [List.length_cons] at hst hH hw
  have hL := left_lt hd
  dsimp only at hd hL ih
  have h0 : ¬ pc < 0 := fun h => hd (.inl h)
  have h1 : ¬ (l.length : Int) ≤ pc := fun h => hd (.inr (.inl h))
  have h2 : pc ∉ s := fun h => hd (.inr (.inr h))
  have eF : mfind (.int .i64 pc) (seenE s) = some none := by rw [seen_find,if_neg h2]
  have I := ih (shN sh) (ws ++ [(pc,sv)]) (by cases sh <;> trivial) (by rw [List.length_append]; show ws.length + 1 + lv.length ≤ _; omega) (by omega) (fun w h => hsv w (List.mem_cons_of_mem _ h)) (by rw [shF_N,List.append_assoc]; exact hQ)
  have hwl : (ws ++ [(pc,sv)]).length = ws.length + 1 := by rw [List.length_append]; rfl
  have hf : (insAt l pc).1 = 1 ∨ (insAt l pc).1 = 7 := hf
  unfold insAt at hf
  generalize hg : l.getD pc.toNat (0,0,0,[]) = z at hf
  obtain ⟨o,x,y,p⟩ := z
  dsimp only at hf
  rcases hf with rfl | rfl
  all_goals
   rcases sh with _ | _ | _ <;> simp only [aH,shN] at hH I <;> rw [hwl] at I
  all_goals
   try (have hsh : ws = [] := hsh; subst hsh)
  all_goals
   rw [W_loop (L := pike_walk_adds_l1) rfl]
   rw [hH]
   simp (disch := first | assumption | omega | decide | (simp only [lens] <;> omega) | fail) only [go_sem,eF,iaddr_ins,hg,insC_mk]
   refine I _ _ ?_
   simp (disch := first | assumption | omega | decide | (simp only [lens] <;> omega) | fail) only [go_sem,norm_k]
   try rfl
 | @go w st s lv s' hd hf _ ih =>
  intro sh ws hsh hw hst hsv hQ e H hH
  obtain ⟨pc,sv⟩ := w
  simp only [List.length_cons] at hst hH
  have hL := left_lt hd
  dsimp only at hd hL ih
  have h0 : ¬ pc < 0 := fun h => hd (.inl h)
  have h1 : ¬ (l.length : Int) ≤ pc := fun h => hd (.inr (.inl h))
  have h2 : pc ∉ s := fun h => hd (.inr (.inr h))
  have hsv0 : sv.length = m := hsv (pc,sv) (List.mem_cons_self ..)
  have eF : mfind (.int .i64 pc) (seenE s) = some none := by rw [seen_find,if_neg h2]
  have heps := @eps_len l t.length k (pc,sv)
  have hsv2 : ∀ w ∈ eps l t.length k (pc,sv) ++ st,w.2.length = m := by
   intro w hw
   rcases List.mem_append.1 hw with hw | hw
   ·unfold eps at hw
    repeat' split at hw
    all_goals
     simp only [List.mem_cons,List.not_mem_nil,or_false] at hw
    ·rcases hw with rfl | rfl <;> exact hsv0
    ·subst hw; exact hsv0
    ·subst hw; exact setAt_len.trans hsv0
    ·subst hw; exact hsv0
    ·subst hw; exact hsv0
   ·exact hsv w (List.mem_cons_of_mem _ hw)
  have I := ih sh ws hsh hw (by rw [List.length_append]; omega) hsv2 hQ
  have hf : ¬((insAt l pc).1 = 1 ∨ (insAt l pc).1 = 7) := hf
  unfold eps at I heps
  unfold insAt at hf I heps
  dsimp only at I heps
  generalize hg : l.getD pc.toNat (0,0,0,[]) = z at hf I heps
  obtain ⟨o,x,y,p⟩ := z
  dsimp only at hf I heps
  have n1 : ¬ o = 1 := fun h => hf (.inl h)
  have n7 : ¬ o = 7 := fun h => hf (.inr h)
  by_cases o2 : o = 2
  ·subst o2
   rw [if_pos rfl] at I
   simp only [List.cons_append,List.nil_append,List.length_cons] at I
   rcases sh with _ | _ | _ <;> simp only [aH] at hH I
   all_goals
    rw [W_loop (L := pike_walk_adds_l1) rfl]
    rw [hH]
    simp (disch := first | assumption | omega | decide | (simp only [lens] <;> omega) | fail) only [go_sem,eF,iaddr_ins,hg,insC_mk]
    refine I _ _ ?_
    simp (disch := first | assumption | omega | decide | (simp only [lens] <;> omega) | fail) only [go_sem,norm_k]
  ·rw [if_neg o2] at I
   by_cases o3 : o = 3
   ·subst o3
    rw [if_pos rfl] at I
    simp only [List.cons_append,List.nil_append,List.length_cons] at I
    rcases sh with _ | _ | _ <;> simp only [aH] at hH I
    all_goals
     rw [W_loop (L := pike_walk_adds_l1) rfl]
     rw [hH]
     simp (disch := first | assumption | omega | decide | (simp only [lens] <;> omega) | fail) only [go_sem,eF,iaddr_ins,hg,insC_mk]
     refine I _ _ ?_
     simp (disch := first | assumption | omega | decide | (simp only [lens] <;> omega) | fail) only [go_sem,norm_k]
   ·rw [if_neg o3] at I
    by_cases o4 : o = 4
    ·subst o4
     rw [if_pos rfl] at I
     simp only [List.cons_append,List.nil_append,List.length_cons] at I
     have eW := res_plwith sv (by omega) (by omega) x k
     rcases sh with _ | _ | _ <;> simp only [aH] at hH I
     all_goals
      rw [W_loop (L := pike_walk_adds_l1) rfl]
      rw [hH]
      simp (disch := first | assumption | omega | decide | (simp only [lens] <;> omega) | fail) only [go_sem,eF,iaddr_ins,hg,insC_mk,eW]
      refine I _ _ ?_
      simp (disch := first | assumption | omega | decide | (simp only [lens] <;> omega) | fail) only [go_sem,norm_k]
    ·rw [if_neg o4] at I
     by_cases o5 : o = 5
     ·subst o5
      rw [if_pos rfl] at I
      by_cases hk : k = 0
      ·subst hk
       rw [if_pos rfl] at I
       simp only [List.cons_append,List.nil_append,List.length_cons] at I
       rcases sh with _ | _ | _ <;> simp only [aH] at hH I
       all_goals
        rw [W_loop (L := pike_walk_adds_l1) rfl]
        rw [hH]
        simp (disch := first | assumption | omega | decide | (simp only [lens] <;> omega) | fail) only [go_sem,eF,iaddr_ins,hg,insC_mk]
        refine I _ _ ?_
        simp (disch := first | assumption | omega | decide | (simp only [lens] <;> omega) | fail) only [go_sem,norm_k]
      ·rw [if_neg hk] at I
       simp only [List.nil_append] at I
       rcases sh with _ | _ | _ <;> simp only [aH] at hH I
       all_goals
        rw [W_loop (L := pike_walk_adds_l1) rfl]
        rw [hH]
        simp (disch := first | assumption | omega | decide | (simp only [lens] <;> omega) | fail) only [go_sem,eF,iaddr_ins,hg,insC_mk]
        refine I _ _ ?_
        simp (disch := first | assumption | omega | decide | (simp only [lens] <;> omega) | fail) only [go_sem,norm_k]
     ·rw [if_neg o5] at I
      by_cases o6 : o = 6
      ·subst o6
       rw [if_pos rfl] at I
       by_cases hk : k = t.length
       ·rw [if_pos hk] at I
        simp only [List.cons_append,List.nil_append,List.length_cons] at I
        rcases sh with _ | _ | _ <;> simp only [aH] at hH I
        all_goals
         rw [W_loop (L := pike_walk_adds_l1) rfl]
         rw [hH]
         simp (disch := first | assumption | omega | decide | (simp only [lens] <;> omega) | fail) only [go_sem,eF,iaddr_ins,hg,insC_mk]
         refine I _ _ ?_
         simp (disch := first | assumption | omega | decide | (simp only [lens] <;> omega) | fail) only [go_sem,norm_k]
       ·rw [if_neg hk] at I
        simp only [List.nil_append] at I
        rcases sh with _ | _ | _ <;> simp only [aH] at hH I
        all_goals
         rw [W_loop (L := pike_walk_adds_l1) rfl]
         rw [hH]
         simp (disch := first | assumption | omega | decide | (simp only [lens] <;> omega) | fail) only [go_sem,eF,iaddr_ins,hg,insC_mk]
         refine I _ _ ?_
         simp (disch := first | assumption | omega | decide | (simp only [lens] <;> omega) | fail) only [go_sem,norm_k]
      ·rw [if_neg o6] at I
       simp only [List.nil_append] at I
       rcases sh with _ | _ | _ <;> simp only [aH] at hH I
       all_goals
        rw [W_loop (L := pike_walk_adds_l1) rfl]
        rw [hH]
        simp (disch := first | assumption | omega | decide | (simp only [lens] <;> omega) | fail) only [go_sem,eF,iaddr_ins,hg,insC_mk]
        refine I _ _ ?_
        simp (disch := first | assumption | omega | decide | (simp only [lens] <;> omega) | fail) only [go_sem,norm_k]
theorem cl_lv_len {l L k st s lv s'} (h : Cl l L k st s lv s') : lv.length + left l s' ≤ left l s := by
 induction h with
 | nil => simp
 | skip _ _ ih => exact ih
 | leaf hd _ _ ih => have := left_lt hd; simp only [List.length_cons]; omega
 | go hd _ _ ih => have := left_lt hd; omega
theorem left_le {l s} : left l s ≤ l.length := by
 unfold left
 exact Nat.le_trans (List.length_filter_le _ _) (by rw [List.length_range]; exact Nat.le_refl _)
theorem resM_adds_a (g : Int) (kl : SK) (l : List Ins) (hl : l.length ≤ 10000) (t : List UInt8) (ht : t.length ≤ 1000000) (k : Nat) {pc : Int} {sv : List Int} (hsv : 0 < sv.length ∧ sv.length ≤ 100000) {s lv s'} (hc : Cl l t.length k [(pc,sv)] s lv s')
  (ws : List Wy) (n : Nat) (hn : ws.length = n) (hw : n ≤ 50000) :
  resM Γ 4 351 [.bx 0 0,.bx 1 0,.p (.agg [.sl .any 1 (ints .i64 sv),.int .i64 pc]),.p (.int .i64 k)] [wkB g kl l t,.box [.own 2 n,.mp 3],.row false 2 (wR ws),sB s] =
   some ([],[wkB g kl l t,.box [.own 2 (n + lv.length),.mp 3],.row false 2 (wR (ws ++ lv)),sB s']) := by
 subst hn
 have hll := cl_lv_len hc
 have hle := @left_le l s
 have L := fun Q => pkAdds_l1_ok g kl l hl t ht k sv.length hsv [] Q hc .a ws trivial (by omega) (by simp only [List.length_singleton]; omega) (by intro w hw; rw [List.mem_singleton] at hw; subst hw; rfl)
 have hF : shF .a lv = .a := by cases lv <;> rfl
 rw [hF] at L
 simp only [aH,List.length_append] at L
 refine resM_code (fn := pike_walk_adds) rfl rfl ?_
 simp (disch := first | assumption | omega | decide | (simp only [lens] <;> omega) | fail) only [go_sem,pike_walk_adds]
 refine L _ ?_ _ _ ?_
 ·simp (disch := first | assumption | omega | decide | (simp only [lens] <;> omega) | fail) only [go_sem]
 ·simp (disch := first | assumption | omega | decide | (simp only [lens] <;> omega) | fail) only [go_sem,norm_k]
  try rfl
theorem resM_adds_b (g : Int) (kl : SK) (l : List Ins) (hl : l.length ≤ 10000) (t : List UInt8) (ht : t.length ≤ 1000000) (k : Nat) {pc : Int} {sv : List Int} (hsv : 0 < sv.length ∧ sv.length ≤ 100000) {s lv s'} (hc : Cl l t.length k [(pc,sv)] s lv s') :
  resM Γ 3 351 [.bx 0 0,.bx 1 0,.p (.agg [.sl .any 1 (ints .i64 sv),.int .i64 pc]),.p (.int .i64 k)] [wkB g kl l t,.box [.p (.sl .nil 2 []),.mp 2],sB s] =
   some ([],match lv with
    | [] => [wkB g kl l t,.box [.p (.sl .nil 2 []),.mp 2],sB s']
    | _ :: _ => [wkB g kl l t,.box [.own 3 lv.length,.mp 2],sB s',.row false 2 (wR lv)]) := by
 have hll := cl_lv_len hc
 have hle := @left_le l s
 have L := fun Q => pkAdds_l1_ok g kl l hl t ht k sv.length hsv [.sl .any 1 (ints .i64 sv),.int .i64 pc] Q hc .b [] rfl (by simp only [List.length_nil]; omega) (by simp only [List.length_singleton]; omega) (by intro w hw; rw [List.mem_singleton] at hw; subst hw; rfl)
 cases lv with
 | nil =>
  simp only [aH,shF] at L
  refine resM_code (fn := pike_walk_adds) rfl rfl ?_
  simp (disch := first | assumption | omega | decide | (simp only [lens] <;> omega) | fail) only [go_sem,pike_walk_adds]
  refine L _ ?_ _ _ ?_
  ·simp (disch := first | assumption | omega | decide | (simp only [lens] <;> omega) | fail) only [go_sem]
  ·simp (disch := first | assumption | omega | decide | (simp only [lens] <;> omega) | fail) only [go_sem,norm_k]
   try rfl
 | cons a r =>
  have hwl : (a :: r : List Wy).length = r.length + 1 := rfl
  simp only [aH,shF,shN,List.nil_append] at L
  refine resM_code (fn := pike_walk_adds) rfl rfl ?_
  simp (disch := first | assumption | omega | decide | (simp only [lens] <;> omega) | fail) only [go_sem,pike_walk_adds]
  refine L _ ?_ _ _ ?_
  ·simp (disch := first | assumption | omega | decide | (simp only [lens] <;> omega) | fail) only [go_sem]
  ·simp (disch := first | assumption | omega | decide | (simp only [lens] <;> omega) | fail) only [go_sem,norm_k]
   try rfl
end Ab
