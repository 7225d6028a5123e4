import Derived.Test.YtjlcnbpehbgfaaaGreatDoorLSub29
import Derived.Test.YtjlcnbpehbgfaaaGreatDoorLSub19
import Derived.Test.YtjlcnbpehbgfaaaGreatDoorLRen2
namespace Ab
open Go (IntKind BinOp UnOp)
def byR (b : List UInt8) : List PV := b.map fun c => PV.int .u8 (c.toNat : Int)
theorem by_fold {s : List UInt8} : (s.map fun b => PV.int .u8 (b.toNat : Int)) = byR s := rfl
theorem byR_len {b} : (byR b).length = b.length := by simp [byR]
theorem byR_app {a b} : byR a ++ byR b = byR (a ++ b) := by simp [byR]
theorem byR_in : ∀ {b : List UInt8},bytesIn (byR b) = some b
 | [] => rfl
 | c :: b => by
  show (bytesIn (byR b)).map (UInt8.ofNat ((c.toNat : Int).toNat) :: ·) = _
  rw [byR_in,Option.map_some,Int.toNat_natCast,UInt8.ofNat_toNat]
theorem rowAt_by {f sz b n} (h : List.length b = n) : rowAt (some (.row f sz (byR b))) n = some (sz,byR b) := rowAt_pos (byR_len.trans h)
theorem appK_by {H : Heap} {id n} {b s : List UInt8} (h : List.length b = n) (h' : b.length + s.length ≤ 1073741824) : appK H (some (.row false 1 (byR b))) 1 id n (byR s) = some (.own id (n + s.length),H.set id (.row false 1 (byR (b ++ s)))) := by
 rw [appK_pos (byR_len.trans h) (by rw [byR_len,byR_len]; exact h'),byR_len,byR_app]
theorem app_nil_by {H : Heap} {sz' : Nat} {s : List UInt8} (h : s.length ≤ 1073741824) : appendA H 1 (.p (.sl .nil sz' [])) (byR s) = some (.own H.length s.length,H ++ [.row false 1 (byR s)]) := by
 rw [app_nil (by rw [byR_len]; exact h),byR_len]
attribute [go_sem] by_fold byR_len byR_in rowAt_by appK_by app_nil_by
abbrev Wx := Option (List UInt8) × Bool
def layX (X : Wx) (s : List UInt8) : Wx := if X.2 = true then X else if 4096 < (X.1.getD []).length + s.length then (X.1,true) else (some (X.1.getD [] ++ s),false)
def wsH (X : Wx) : Heap := match X.1 with
 | none => [.box [.p (.sl .nil 1 []),.p (.int .i64 4096),.p (.bool X.2)]]
 | some b => [.box [.own 1 b.length,.p (.int .i64 4096),.p (.bool X.2)],.row false 1 (byR b)]
def kX (X : Wx) : Nat := match X.1 with | none => 1 | some _ => 2
set_option maxRecDepth 10000 in
theorem resM_slays (X : Wx) (s : List UInt8) (hs : s.length ≤ 1000000) (hX : (X.1.getD []).length ≤ 4096) : resM Γ (kX X) 336 [.bx 0 0,.p (.sl .tight 1 [.str s])] (wsH X) = some ([],wsH (layX X s)) := by
 obtain ⟨o,ov⟩ := X
 unfold layX kX
 cases ov with
 | true =>
  rw [if_pos rfl]
  cases o with
  | none =>
   simp only [wsH]
   refine resM_code (fn := subst_writer_lays) rfl rfl ?_
   simp (disch := first | assumption | omega | decide | (simp only [lens] <;> omega) | fail) only [go_sem,subst_writer_lays]
   rw [W_loop (L := subst_writer_lays_l1) rfl]
   simp (disch := first | assumption | omega | decide | (simp only [lens] <;> omega) | fail) only [go_sem]
  | some b =>
   simp only [wsH]
   refine resM_code (fn := subst_writer_lays) rfl rfl ?_
   simp (disch := first | assumption | omega | decide | (simp only [lens] <;> omega) | fail) only [go_sem,subst_writer_lays]
   rw [W_loop (L := subst_writer_lays_l1) rfl]
   simp (disch := first | assumption | omega | decide | (simp only [lens] <;> omega) | fail) only [go_sem]
 | false =>
  rw [if_neg Bool.false_ne_true]
  cases o with
  | none =>
   simp only [Option.getD_none,List.length_nil,Nat.zero_add,List.nil_append]
   by_cases h : 4096 < s.length
   ·rw [if_pos h]
    simp only [wsH]
    refine resM_code (fn := subst_writer_lays) rfl rfl ?_
    simp (disch := first | assumption | omega | decide | (simp only [lens] <;> omega) | fail) only [go_sem,subst_writer_lays]
    rw [W_loop (L := subst_writer_lays_l1) rfl]
    simp (disch := first | assumption | omega | decide | (simp only [lens] <;> omega) | fail) only [go_sem]
   ·rw [if_neg h]
    simp only [wsH]
    refine resM_code (fn := subst_writer_lays) rfl rfl ?_
    simp (disch := first | assumption | omega | decide | (simp only [lens] <;> omega) | fail) only [go_sem,subst_writer_lays]
    rw [W_loop (L := subst_writer_lays_l1) rfl]
    simp (disch := first | assumption | omega | decide | (simp only [lens] <;> omega) | fail) only [go_sem]
    rw [W_loop (L := subst_writer_lays_l1) rfl]
    simp (disch := first | assumption | omega | decide | (simp only [lens] <;> omega) | fail) only [go_sem]
  | some b =>
   simp only [Option.getD_some] at hX ⊢
   by_cases h : 4096 < b.length + s.length
   ·rw [if_pos h]
    simp only [wsH]
    refine resM_code (fn := subst_writer_lays) rfl rfl ?_
    simp (disch := first | assumption | omega | decide | (simp only [lens] <;> omega) | fail) only [go_sem,subst_writer_lays]
    rw [W_loop (L := subst_writer_lays_l1) rfl]
    simp (disch := first | assumption | omega | decide | (simp only [lens] <;> omega) | fail) only [go_sem]
   ·rw [if_neg h]
    simp only [wsH,List.length_append]
    refine resM_code (fn := subst_writer_lays) rfl rfl ?_
    simp (disch := first | assumption | omega | decide | (simp only [lens] <;> omega) | fail) only [go_sem,subst_writer_lays]
    rw [W_loop (L := subst_writer_lays_l1) rfl]
    simp (disch := first | assumption | omega | decide | (simp only [lens] <;> omega) | fail) only [go_sem]
    rw [W_loop (L := subst_writer_lays_l1) rfl]
    simp (disch := first | assumption | omega | decide | (simp only [lens] <;> omega) | fail) only [go_sem]
end Ab
namespace Ab
open Go (IntKind BinOp UnOp)
def escS (t : List UInt8) (sv : List Int) (c : Nat) : List UInt8 := if c = 92 then [92] else grpS t sv (c - 48)
def expS (t : List UInt8) (sv : List Int) : List UInt8 → List UInt8
 | [] => []
 | 92 :: c :: r => escS t sv c.toNat ++ expS t sv r
 | c :: r => c :: expS t sv r
def expX (t : List UInt8) (sv : List Int) : List UInt8 → Wx → Wx
 | [],X => X
 | 92 :: c :: r,X => expX t sv r (layX X (escS t sv c.toNat))
 | c :: r,X => expX t sv r (layX X [c])
theorem layX_over {X s} (h : X.2 = true) : layX X s = X := by unfold layX; rw [if_pos h]
theorem expX_over {t sv X} (h : X.2 = true) : ∀ {m},expX t sv m X = X := by
 intro m
 induction m using expS.induct with
 | case1 => rfl
 | case2 c r ih => simp only [expX,layX_over h]; exact ih
 | case3 c r hc ih =>
  unfold expX
  split
  ·rename_i e; cases e
  ·rename_i c2 r2 e
   cases e
   exact absurd rfl (hc _ _ rfl)
  ·rename_i e1 e2
   cases e2
   rw [layX_over h]; exact ih
theorem layX_le {X s} (h : (X.1.getD []).length ≤ 4096) : ((layX X s).1.getD []).length ≤ 4096 := by
 unfold layX
 split
 ·exact h
 ·split
  ·exact h
  ·simp only [Option.getD_some,List.length_append]; omega
def okX (X : Wx) (s : List UInt8) : Prop := if s.length ≤ 4096 then X.2 = false ∧ X.1.getD [] = s else X.2 = true
theorem okX_lay {X s u} (h : okX X s) : okX (layX X u) (s ++ u) := by
 unfold okX at h ⊢
 unfold layX
 by_cases hs : s.length ≤ 4096
 ·rw [if_pos hs] at h
  obtain ⟨h1,h2⟩ := h
  have hn : ¬X.2 = true := by rw [h1]; exact Bool.false_ne_true
  simp only [if_neg hn,h2,List.length_append]
  by_cases hu : s.length + u.length ≤ 4096
  ·rw [if_pos hu,if_neg (by omega)]
   exact ⟨rfl,rfl⟩
  ·rw [if_neg hu,if_pos (by omega)]
 ·rw [if_neg hs] at h
  rw [if_pos h,List.length_append,if_neg (by omega)]
  exact h
theorem ob_at {s : List UInt8} {i : Nat} (h : i < s.length) : (s.take (i + 1)).drop i = [s.getD i 0] := by
 rw [List.drop_take,show i + 1 - i = 1 by omega,List.drop_eq_getElem_cons h,List.take_succ_cons,List.take_zero,List.getD_eq_getElem?_getD,List.getElem?_eq_getElem h]; rfl
theorem ob_bytes {s : List UInt8} {i : Nat} : bytesIn [.int .u8 (byt s i)] = some [s.getD i 0] := by
 show some [UInt8.ofNat (byt s i).toNat] = _
 unfold byt
 rw [Int.toNat_natCast,UInt8.ofNat_toNat]
theorem drop_c {s : List UInt8} {i : Nat} (h : i < s.length) : s.drop i = s.getD i 0 :: s.drop (i + 1) := by
 rw [List.drop_eq_getElem_cons h,List.getD_eq_getElem?_getD,List.getElem?_eq_getElem h]; rfl
theorem getD_92 {s : List UInt8} {i : Nat} (h : bt s i = 92) : s.getD i 0 = 92 := (u8_eq (n := 92) (by omega)).1 h
theorem exp_esc {t sv} {s : List UInt8} {i : Nat} (hb : bt s i = 92) (h2 : i + 1 < s.length) : expS t sv (s.drop i) = escS t sv (bt s (i + 1)) ++ expS t sv (s.drop (i + 2)) ∧ ∀ X,expX t sv (s.drop i) X = expX t sv (s.drop (i + 2)) (layX X (escS t sv (bt s (i + 1)))) := by
 rw [drop_c (by omega : i < s.length),drop_c h2,getD_92 hb]
 exact ⟨rfl,fun _ => rfl⟩
theorem exp_plain {t sv} {s : List UInt8} {i : Nat} (h : i < s.length) (hb : bt s i ≠ 92) : expS t sv (s.drop i) = [s.getD i 0] ++ expS t sv (s.drop (i + 1)) ∧ ∀ X,expX t sv (s.drop i) X = expX t sv (s.drop (i + 1)) (layX X [s.getD i 0]) := by
 have hc : s.getD i 0 ≠ 92 := fun e => hb (by unfold bt; rw [e]; rfl)
 rw [drop_c h]
 generalize s.getD i 0 = c at hc
 generalize s.drop (i + 1) = r
 constructor
 ·conv => lhs; unfold expS
  split
  ·rename_i e; cases e
  ·rename_i e; cases e; exact absurd rfl hc
  ·rename_i e; cases e; rfl
 ·intro X
  conv => lhs; unfold expX
  split
  ·rename_i e; cases e
  ·rename_i e; cases e; exact absurd rfl hc
  ·rename_i e; cases e; rfl
theorem okX_exp {t sv} : ∀ {m X s},okX X s → okX (expX t sv m X) (s ++ expS t sv m) := by
 intro m
 induction m using expS.induct with
 | case1 => intro X s h; simpa [expX,expS] using h
 | case2 c r ih =>
  intro X s h
  have := ih (okX_lay (u := escS t sv c.toNat) h)
  simp only [expX,expS]
  rw [List.append_assoc] at this
  exact this
 | case3 c r hc ih =>
  intro X s h
  have := ih (okX_lay (u := [c]) h)
  rw [List.append_assoc] at this
  have e1 : expS t sv (c :: r) = c :: expS t sv r := by
   conv => lhs; unfold expS
   split
   ·rename_i e; cases e
   ·rename_i e; cases e; exact absurd rfl (hc _ _ rfl)
   ·rename_i e; cases e; rfl
  have e2 : expX t sv (c :: r) X = expX t sv r (layX X [c]) := by
   conv => lhs; unfold expX
   split
   ·rename_i e; cases e
   ·rename_i e; cases e; exact absurd rfl (hc _ _ rfl)
   ·rename_i e; cases e; rfl
  rw [e1,e2]
  exact this
theorem escS_len {t sv c} : (escS t sv c).length ≤ t.length + 1 := by
 unfold escS grpS
 repeat' split
 all_goals simp
 omega
def allS (F : Nat → Option (List Int)) (t m : List UInt8) : Nat → Nat → List UInt8 → List UInt8
  | 0,_,s => s
  | n + 1,k,s =>
    if t.length < k then s
    else match F k with
      | none => s ++ t.drop k
      | some x =>
        if x.getD 0 0 < (k : Int) ∨ x.getD 1 0 < x.getD 0 0 then s ++ t.drop k
        else if x.getD 0 0 = x.getD 1 0 then
          (if x.getD 1 0 < (t.length : Int) then allS F t m n ((x.getD 1 0).toNat + 1) (s ++ (t.take (x.getD 0 0).toNat).drop k ++ expS t x m ++ [t.getD (x.getD 1 0).toNat 0])
           else allS F t m n ((x.getD 1 0).toNat + 1) (s ++ (t.take (x.getD 0 0).toNat).drop k ++ expS t x m))
        else allS F t m n (x.getD 1 0).toNat (s ++ (t.take (x.getD 0 0).toNat).drop k ++ expS t x m)
theorem allS_ge {F t m} : ∀ {n k s},s.length ≤ (allS F t m n k s).length
 | 0,_,_ => Nat.le_refl _
 | n + 1,k,s => by
  unfold allS
  split
  ·exact Nat.le_refl _
  ·split
   ·rw [List.length_append]; omega
   ·split
    ·rw [List.length_append]; omega
    ·split
     ·split
      ·refine Nat.le_trans ?_ allS_ge
       simp only [List.length_append]; omega
      ·refine Nat.le_trans ?_ allS_ge
       simp only [List.length_append]; omega
     ·refine Nat.le_trans ?_ allS_ge
      simp only [List.length_append]; omega
theorem expS_len {t sv} : ∀ {m},(expS t sv m).length ≤ m.length * (t.length + 1) := by
 intro m
 induction m using expS.induct with
 | case1 => simp [expS]
 | case2 c r ih =>
  have := @escS_len t sv c.toNat
  simp only [expS,List.length_append,List.length_cons,Nat.add_mul,Nat.one_mul]
  omega
 | case3 c r hc ih =>
  have e1 : expS t sv (c :: r) = c :: expS t sv r := by
   conv => lhs; unfold expS
   split
   ·rename_i e; cases e
   ·rename_i e; cases e; exact absurd rfl (hc _ _ rfl)
   ·rename_i e; cases e; rfl
  rw [e1]
  simp only [List.length_cons,Nat.add_mul,Nat.one_mul]
  omega
end Ab
namespace Ab
open Go (IntKind BinOp UnOp)
theorem chk_esc {s : List UInt8} {i : Nat} (hi : i < s.length) (hc : chkT (s.drop i) = true) (hb : bt s i = 92) : i + 1 < s.length ∧ (bt s (i + 1) = 92 ∨ (bt s (i + 1) ≠ 92 ∧ digB (bt s (i + 1)) = true)) ∧ chkT (s.drop (i + 2)) = true := by
 by_cases h2 : i + 1 < s.length
 ·rw [chkT_esc hb h2,Bool.and_eq_true,Bool.or_eq_true,decide_eq_true_iff] at hc
  refine ⟨h2,?_,hc.2⟩
  by_cases h3 : bt s (i + 1) = 92
  ·exact .inl h3
  ·exact .inr ⟨h3,hc.1.resolve_left h3⟩
 ·rw [chkT_last hi hb h2] at hc; cases hc
theorem digB_iff {c : Nat} (h : digB c = true) : 48 ≤ c ∧ c ≤ 57 := of_decide_eq_true h
theorem st336_1 : stillF Γ 1 336 = true := by kernel_rfl
theorem st336_2 : stillF Γ 2 336 = true := by kernel_rfl
theorem st337_1 : stillF Γ 1 337 = true := by kernel_rfl
theorem st337_2 : stillF Γ 2 337 = true := by kernel_rfl
theorem isS_lay {X : Wx} {s} : X.1.isSome = true → (layX X s).1.isSome = true := by
 intro h
 unfold layX
 split
 ·exact h
 ·split
  ·exact h
  ·rfl
abbrev xE (m t : List UInt8) (sv : List Int) (i : Nat) : Env := [(0,.bx 0 0),(1,.p (.str m)),(2,.p (.str t)),(3,.p (.sl .any 1 (ints .i64 sv))),(8,.p (.int .i64 i))]
set_option maxRecDepth 10000 in
set_option maxHeartbeats 2000000 in
theorem sexp_l1_ok (m : List UInt8) (hm : m.length ≤ 100000) (t : List UInt8) (ht : t.length ≤ 100000) (sv : List Int) (hv : sv.length ≤ 100000) (Q : Out → Prop) : ∀ (n i : Nat) (X : Wx),m.length + 1 ≤ i + n → i ≤ m.length → chkT (m.drop i) = true → (X.1.getD []).length ≤ 4096 →
  Q (.nrm,[],wsH (expX t sv (m.drop i) X)) →
  Wp Γ subst_writer_expands_l1 (xE m t sv i) (wsH X) (InBlk [] 0 Q) := by
 intro n
 induction n with
 | zero => intro i X h1 h2; exact absurd h1 (by omega)
 | succ n ih =>
  intro i X hn hi hc hX hQ
  by_cases hil : i < m.length
  ·cases hov : X.2
   ·by_cases hb : bt m i = 92
    ·obtain ⟨h2,h3,hc2⟩ := chk_esc hil hc hb
     have b1 : byt m i = 92 := by rw [byt_bt,hb]; rfl
     rw [(exp_esc hb h2).2] at hQ
     have I := ih (i + 2) _ (by omega) (by omega) hc2 (layX_le hX) hQ
     have eL := resM_slays X (escS t sv (bt m (i + 1))) (by have := @escS_len t sv (bt m (i + 1)); omega) hX
     have i2 : ((i + 2 : Nat) : Int) = (i : Int) + 1 + 1 := by omega
     simp only [xE,i2] at I
     rcases h3 with h3 | ⟨h3,hd⟩
     ·have b2 : byt m (i + 1) = 92 := by rw [byt_bt,h3]; rfl
      rw [h3,show escS t sv 92 = [92] from rfl] at eL I
      obtain ⟨o,ov⟩ := X
      have hov : ov = false := hov
      subst hov
      cases o with
      | none =>
       simp only [wsH,kX] at eL ⊢
       cases hY : (layX (none,false) [92]) with
       | mk o2 ov2 =>
        rw [hY] at eL I
        cases o2 with
        | none =>
         simp only [wsH] at eL I
         rw [W_loop (L := subst_writer_expands_l1) rfl]
         simp (disch := first | assumption | omega | decide | (simp only [lens] <;> omega) | fail) only [go_sem,eL,st336_1]
         exact I
        | some b2 =>
         simp only [wsH] at eL I
         rw [W_loop (L := subst_writer_expands_l1) rfl]
         simp (disch := first | assumption | omega | decide | (simp only [lens] <;> omega) | fail) only [go_sem,eL,st336_1]
         exact I
      | some b =>
       simp only [wsH,kX] at eL ⊢
       cases hY : (layX (some b,false) [92]) with
       | mk o2 ov2 =>
        rw [hY] at eL I
        cases o2 with
        | none =>
         have := isS_lay (X := (some b,false)) (s := [92]) rfl
         rw [hY] at this; cases this
        | some b2 =>
         simp only [wsH] at eL I
         rw [W_loop (L := subst_writer_expands_l1) rfl]
         simp (disch := first | assumption | omega | decide | (simp only [lens] <;> omega) | fail) only [go_sem,eL,st336_2]
         exact I
     ·have b2 : ¬ byt m (i + 1) = 92 := by rw [byt_bt]; omega
      have hdd := digB_iff hd
      have eD := res_substDigit (bt m (i + 1)) bt_lt
      rw [← byt_bt,hd] at eD
      have es : escS t sv (bt m (i + 1)) = grpS t sv (bt m (i + 1) - 48) := by unfold escS; rw [if_neg h3]
      have eG := res_pikeGroup t (by omega) sv hv .any (bt m (i + 1) - 48) (by omega)
      have e5 : byt m (i + 1) - 48 = ((bt m (i + 1) - 48 : Nat) : Int) := by rw [byt_bt]; omega
      rw [es] at eL I
      have hbb := @byt_bt m (i + 1)
      obtain ⟨o,ov⟩ := X
      have hov : ov = false := hov
      subst hov
      cases o with
      | none =>
       simp only [wsH,kX] at eL ⊢
       cases hY : (layX (none,false) (grpS t sv (bt m (i + 1) - 48))) with
       | mk o2 ov2 =>
        rw [hY] at eL I
        cases o2 with
        | none =>
         simp only [wsH] at eL I
         rw [W_loop (L := subst_writer_expands_l1) rfl]
         simp (disch := first | assumption | omega | decide | (simp only [lens] <;> omega) | fail) only [go_sem,eD,e5,eG,eL,st336_1]
         exact I
        | some b2 =>
         simp only [wsH] at eL I
         rw [W_loop (L := subst_writer_expands_l1) rfl]
         simp (disch := first | assumption | omega | decide | (simp only [lens] <;> omega) | fail) only [go_sem,eD,e5,eG,eL,st336_1]
         exact I
      | some b =>
       simp only [wsH,kX] at eL ⊢
       cases hY : (layX (some b,false) (grpS t sv (bt m (i + 1) - 48))) with
       | mk o2 ov2 =>
        rw [hY] at eL I
        cases o2 with
        | none =>
         have := isS_lay (X := (some b,false)) (s := grpS t sv (bt m (i + 1) - 48)) rfl
         rw [hY] at this; cases this
        | some b2 =>
         simp only [wsH] at eL I
         rw [W_loop (L := subst_writer_expands_l1) rfl]
         simp (disch := first | assumption | omega | decide | (simp only [lens] <;> omega) | fail) only [go_sem,eD,e5,eG,eL,st336_2]
         exact I
    ·have b1 : ¬ byt m i = 92 := by rw [byt_bt]; omega
     rw [chkT_plain hil hb] at hc
     rw [(exp_plain hil hb).2] at hQ
     have I := ih (i + 1) _ (by omega) (by omega) hc (layX_le hX) hQ
     have eL := resM_slays X [m.getD i 0] (by simp) hX
     have eo := ob_at hil
     have i1 : ((i + 1 : Nat) : Int) = (i : Int) + 1 := by omega
     simp only [xE,i1] at I
     obtain ⟨o,ov⟩ := X
     have hov : ov = false := hov
     subst hov
     cases o with
     | none =>
      simp only [wsH,kX] at eL ⊢
      cases hY : (layX (none,false) [m.getD i 0]) with
      | mk o2 ov2 =>
       rw [hY] at eL I
       cases o2 with
       | none =>
        simp only [wsH] at eL I
        rw [W_loop (L := subst_writer_expands_l1) rfl]
        simp (disch := first | assumption | omega | decide | (simp only [lens] <;> omega) | fail) only [go_sem,eo,eL,st336_1]
        exact I
       | some b2 =>
        simp only [wsH] at eL I
        rw [W_loop (L := subst_writer_expands_l1) rfl]
        simp (disch := first | assumption | omega | decide | (simp only [lens] <;> omega) | fail) only [go_sem,eo,eL,st336_1]
        exact I
     | some b =>
      simp only [wsH,kX] at eL ⊢
      cases hY : (layX (some b,false) [m.getD i 0]) with
      | mk o2 ov2 =>
       rw [hY] at eL I
       cases o2 with
       | none =>
        have := isS_lay (X := (some b,false)) (s := [m.getD i 0]) rfl
        rw [hY] at this; cases this
       | some b2 =>
        simp only [wsH] at eL I
        rw [W_loop (L := subst_writer_expands_l1) rfl]
        simp (disch := first | assumption | omega | decide | (simp only [lens] <;> omega) | fail) only [go_sem,eo,eL,st336_2]
        exact I
   ·rw [expX_over hov] at hQ
    obtain ⟨o,ov⟩ := X
    have hov : ov = true := hov
    subst hov
    cases o with
    | none =>
     simp only [wsH] at hQ ⊢
     rw [W_loop (L := subst_writer_expands_l1) rfl]
     simp (disch := first | assumption | omega | decide | (simp only [lens] <;> omega) | fail) only [go_sem]
     exact hQ
    | some b =>
     simp only [wsH] at hQ ⊢
     rw [W_loop (L := subst_writer_expands_l1) rfl]
     simp (disch := first | assumption | omega | decide | (simp only [lens] <;> omega) | fail) only [go_sem]
     exact hQ
  ·rw [List.drop_eq_nil_of_le (by omega)] at hQ
   simp only [expX] at hQ
   obtain ⟨o,ov⟩ := X
   cases o with
   | none =>
    simp only [wsH] at hQ ⊢
    rw [W_loop (L := subst_writer_expands_l1) rfl]
    simp (disch := first | assumption | omega | decide | (simp only [lens] <;> omega) | fail) only [go_sem]
    exact hQ
   | some b =>
    simp only [wsH] at hQ ⊢
    rw [W_loop (L := subst_writer_expands_l1) rfl]
    simp (disch := first | assumption | omega | decide | (simp only [lens] <;> omega) | fail) only [go_sem]
    exact hQ
theorem isS_exp {t sv} : ∀ {m X},X.1.isSome = true → (expX t sv m X).1.isSome = true := by
 intro m
 induction m using expS.induct with
 | case1 => intro X h; exact h
 | case2 c r ih => intro X h; exact ih (isS_lay h)
 | case3 c r hc ih =>
  intro X h
  have e2 : expX t sv (c :: r) X = expX t sv r (layX X [c]) := by
   conv => lhs; unfold expX
   split
   ·rename_i e; cases e
   ·rename_i e; cases e; exact absurd rfl (hc _ _ rfl)
   ·rename_i e; cases e; rfl
  rw [e2]
  exact ih (isS_lay h)
theorem resM_sexp (m : List UInt8) (hm : m.length ≤ 100000) (hc : chkT m = true) (t : List UInt8) (ht : t.length ≤ 100000) (sv : List Int) (hv : sv.length ≤ 100000) (X : Wx) (hX : (X.1.getD []).length ≤ 4096) :
  resM Γ (kX X) 337 [.bx 0 0,.p (.str m),.p (.str t),.p (.sl .any 1 (ints .i64 sv))] (wsH X) = some ([],wsH (expX t sv m X)) := by
 have L := fun Q hQ => sexp_l1_ok m hm t ht sv hv Q (m.length + 1) 0 X (by omega) (Nat.zero_le _) (by rw [List.drop_zero]; exact hc) hX hQ
 rw [List.drop_zero] at L
 obtain ⟨o,ov⟩ := X
 cases hY : expX t sv m (o,ov) with
 | mk o2 ov2 =>
  rw [hY] at L
  cases o with
  | none =>
   simp only [wsH,kX] at L ⊢
   cases o2 with
   | none =>
    refine resM_code (fn := subst_writer_expands) rfl rfl ?_
    simp (disch := first | assumption | omega | decide | (simp only [lens] <;> omega) | fail) only [go_sem,subst_writer_expands]
    refine L _ ?_
    simp (disch := first | assumption | omega | decide | (simp only [lens] <;> omega) | fail) only [go_sem]
   | some b2 =>
    refine resM_code (fn := subst_writer_expands) rfl rfl ?_
    simp (disch := first | assumption | omega | decide | (simp only [lens] <;> omega) | fail) only [go_sem,subst_writer_expands]
    refine L _ ?_
    simp (disch := first | assumption | omega | decide | (simp only [lens] <;> omega) | fail) only [go_sem]
  | some b =>
   simp only [wsH,kX] at L ⊢
   cases o2 with
   | none =>
    have := isS_exp (t := t) (sv := sv) (m := m) (X := (some b,ov)) rfl
    rw [hY] at this; cases this
   | some b2 =>
    refine resM_code (fn := subst_writer_expands) rfl rfl ?_
    simp (disch := first | assumption | omega | decide | (simp only [lens] <;> omega) | fail) only [go_sem,subst_writer_expands]
    refine L _ ?_
    simp (disch := first | assumption | omega | decide | (simp only [lens] <;> omega) | fail) only [go_sem]
end Ab
namespace Ab
open Go (IntKind BinOp UnOp)
set_option maxRecDepth 10000 in
set_option maxHeartbeats 1000000 in
theorem r13exp_l1_ok (m : List UInt8) (hm : m.length ≤ 100000) (t : List UInt8) (ht : t.length ≤ 100000) (sv : List Int) (hv : sv.length ≤ 100000) (Q : Out → Prop) : ∀ (n i : Nat) (s : List UInt8),m.length + 1 ≤ i + n → i ≤ m.length → chkT (m.drop i) = true → s.length ≤ i * 100001 →
  Q (.nrm,[(7,.p (.str (s ++ expS t sv (m.drop i))))],[]) →
  Wp Γ r13_Expand_l1 [(0,.p (.str m)),(1,.p (.str t)),(2,.p (.sl .any 1 (ints .i64 sv))),(7,.p (.str s)),(8,.p (.int .i64 i))] [] (InBlk [7] 0 Q) := by
 intro n
 induction n with
 | zero => intro i s h1 h2; exact absurd h1 (by omega)
 | succ n ih =>
  intro i s hn hi hc hs hQ
  by_cases hil : i < m.length
  ·by_cases hb : bt m i = 92
   ·obtain ⟨h2,h3,hc2⟩ := chk_esc hil hc hb
    have b1 : byt m i = 92 := by rw [byt_bt,hb]; rfl
    rw [(exp_esc hb h2).1,← List.append_assoc] at hQ
    have hel := @escS_len t sv (bt m (i + 1))
    have I := ih (i + 2) _ (by omega) (by omega) hc2 (by rw [List.length_append]; omega) hQ
    have i2 : ((i + 2 : Nat) : Int) = (i : Int) + 1 + 1 := by omega
    rw [i2] at I
    rcases h3 with h3 | ⟨h3,hd⟩
    ·have b2 : byt m (i + 1) = 92 := by rw [byt_bt,h3]; rfl
     rw [h3,show escS t sv 92 = [92] from rfl] at I
     have eD := res_r13digit 92 (by omega)
     have eD : res Γ 330 [.int .u8 (byt m (i + 1))] = some [.bool false] := by rw [b2]; exact eD
     rw [W_loop (L := r13_Expand_l1) rfl]
     simp (disch := first | assumption | omega | decide | (simp only [lens] <;> omega) | fail) only [go_sem,eD]
     exact I
    ·have b2 : ¬ byt m (i + 1) = 92 := by rw [byt_bt]; omega
     have hdd := digB_iff hd
     have eD := res_r13digit (bt m (i + 1)) bt_lt
     rw [← byt_bt,hd] at eD
     have es : escS t sv (bt m (i + 1)) = grpS t sv (bt m (i + 1) - 48) := by unfold escS; rw [if_neg h3]
     have eG := res_r12Group t (by omega) sv hv .any (bt m (i + 1) - 48) (by omega)
     have e5 : byt m (i + 1) - 48 = ((bt m (i + 1) - 48 : Nat) : Int) := by rw [byt_bt]; omega
     rw [es] at I hel
     have hbb := @byt_bt m (i + 1)
     rw [W_loop (L := r13_Expand_l1) rfl]
     simp (disch := first | assumption | omega | decide | (simp only [lens] <;> omega) | fail) only [go_sem,eD,e5,eG]
     exact I
   ·have b1 : ¬ byt m i = 92 := by rw [byt_bt]; omega
    rw [chkT_plain hil hb] at hc
    rw [(exp_plain hil hb).1,← List.append_assoc] at hQ
    have I := ih (i + 1) _ (by omega) (by omega) hc (by rw [List.length_append]; show s.length + 1 ≤ _; omega) hQ
    have eo := @ob_bytes m i
    have i1 : ((i + 1 : Nat) : Int) = (i : Int) + 1 := by omega
    rw [i1] at I
    have hol : ([m.getD i 0] : List UInt8).length = 1 := rfl
    rw [W_loop (L := r13_Expand_l1) rfl]
    simp (disch := first | assumption | omega | decide | (simp only [lens] <;> omega) | fail) only [go_sem,eo,strOfA]
    exact I
  ·rw [List.drop_eq_nil_of_le (by omega)] at hQ
   simp only [expS,List.append_nil] at hQ
   rw [W_loop (L := r13_Expand_l1) rfl]
   simp (disch := first | assumption | omega | decide | (simp only [lens] <;> omega) | fail) only [go_sem]
   exact hQ
theorem res_r13Expand (m : List UInt8) (hm : m.length ≤ 100000) (hc : chkT m = true) (t : List UInt8) (ht : t.length ≤ 100000) (sv : List Int) (hv : sv.length ≤ 100000) : res Γ 318 [.str m,.str t,.sl .any 1 (ints .i64 sv)] = some [.str (expS t sv m)] := by
 have L := fun Q hQ => r13exp_l1_ok m hm t ht sv hv Q (m.length + 1) 0 [] (by omega) (Nat.zero_le _) (by rw [List.drop_zero]; exact hc) (by simp) hQ
 rw [List.drop_zero,List.nil_append] at L
 refine res_code (fn := r13_Expand) rfl rfl ?_
 simp (disch := first | assumption | omega | decide | (simp only [lens] <;> omega) | fail) only [go_sem,r13_Expand]
 refine L _ ?_
 simp (disch := first | assumption | omega | decide | (simp only [lens] <;> omega) | fail) only [go_sem]
def FOk (f : Nat) (g : Nat) (l : List Ins) (t : List UInt8) (F : Nat → Option (List Int)) : Prop := ∀ k,k ≤ t.length → (∀ kl,res Γ f [progV g kl l,.str t,.int .i64 k] = some [fV (F k),.bool (F k).isSome]) ∧ ∀ x,F k = some x → okS (2 * g + 2) t.length x
theorem okS_at {n L : Nat} {x : List Int} (h : okS n L x) {i : Nat} (hi : i < n) : -1 ≤ x.getD i 0 ∧ x.getD i 0 ≤ L := by
 rw [List.getD_eq_getElem?_getD,List.getElem?_eq_getElem (by rw [h.1]; exact hi)]
 exact h.2 _ (List.getElem_mem _)
def endA (T t : List UInt8) (k : Nat) (s : List UInt8) : Prop := k ≤ t.length + 1 ∧ (k ≤ t.length → T = s ++ t.drop k) ∧ (t.length < k → T = s)
set_option maxRecDepth 10000 in
set_option maxHeartbeats 2000000 in
theorem r13all_l1_ok (g : Nat) (hg : g ≤ 1024) (kl : SK) (l : List Ins) (m : List UInt8) (hm : m.length ≤ 1000) (hcm : chkT m = true) (t : List UInt8) (ht : t.length ≤ 4096) (F : Nat → Option (List Int)) (hF : FOk 319 g l t F) (Q : Out → Prop) (T : List UInt8)
  (hQ1 : ∀ k s,endA T t k s → s.length ≤ 100000000 → Q (.nrm,[(2,.p (.str t)),(9,.p (.str s)),(10,.p (.int .i64 (k : Nat)))],[.box [.p (.int .i64 g),.p (.sl kl 4 (inR l))]]))
  (hQ2 : 4096 < T.length → Q (.ret,[(6,.p (.str [])),(7,.p (.int .i64 13))],[.box [.p (.int .i64 g),.p (.sl kl 4 (inR l))]])) : ∀ (n k : Nat) (s : List UInt8),t.length + 2 ≤ k + n → k ≤ t.length + 1 → s.length ≤ 4096 → T = allS F t m n k s →
  Wp Γ r13_All_l1 [(1,.p (.str m)),(2,.p (.str t)),(3,.bx 0 0),(9,.p (.str s)),(10,.p (.int .i64 k))] [.box [.p (.int .i64 g),.p (.sl kl 4 (inR l))]] (InBlk [2,9,10] 1 Q) := by
 intro n
 induction n with
 | zero => intro k s h1 h2; exact absurd h1 (by omega)
 | succ n ih =>
  intro k s hn hk hs hT
  unfold allS at hT
  by_cases hkt : t.length < k
  ·rw [if_pos hkt] at hT
   have hQ := hQ1 k s ⟨hk,fun h => absurd hkt (by omega),fun _ => hT⟩ (by omega)
   rw [W_loop (L := r13_All_l1) rfl]
   simp (disch := first | assumption | omega | decide | (simp only [lens] <;> omega) | fail) only [go_sem]
   exact hQ
  ·rw [if_neg hkt] at hT
   obtain ⟨eF,hx⟩ := hF k (by omega)
   have eF := eF kl
   cases hf : F k with
   | none =>
    rw [hf] at hT eF
    dsimp only at hT
    rw [fV_n,Option.isSome_none] at eF
    have hQ := hQ1 k s ⟨hk,fun _ => hT,fun h => absurd h hkt⟩ (by omega)
    rw [W_loop (L := r13_All_l1) rfl]
    simp (disch := first | assumption | omega | decide | (simp only [lens] <;> omega) | fail) only [go_sem,eF]
    exact hQ
   | some x =>
    rw [hf] at hT eF
    rw [fV_s,Option.isSome_some] at eF
    dsimp only at hT
    have hok := hx x hf
    have hxl := hok.1
    have ha := okS_at hok (i := 0) (by omega)
    have hb := okS_at hok (i := 1) (by omega)
    have eE := res_r13Expand m (by omega) hcm t (by omega) x (by omega)
    generalize hga : x.getD 0 0 = a at ha hT
    generalize hgb : x.getD 1 0 = b at hb hT
    by_cases c1 : a < (k : Int)
    ·rw [if_pos (.inl c1)] at hT
     have hQ := hQ1 k s ⟨hk,fun _ => hT,fun h => absurd h hkt⟩ (by omega)
     rw [W_loop (L := r13_All_l1) rfl]
     simp (disch := first | assumption | omega | decide | (simp only [lens] <;> omega) | fail) only [go_sem,eF,hga]
     exact hQ
    ·by_cases c2 : b < a
     ·rw [if_pos (.inr c2)] at hT
      have hQ := hQ1 k s ⟨hk,fun _ => hT,fun h => absurd h hkt⟩ (by omega)
      rw [W_loop (L := r13_All_l1) rfl]
      simp (disch := first | assumption | omega | decide | (simp only [lens] <;> omega) | fail) only [go_sem,eF,hga,hgb]
      exact hQ
     ·rw [if_neg (by omega)] at hT
      obtain ⟨a',rfl⟩ : ∃ a' : Nat,a = a' := ⟨a.toNat,by omega⟩
      obtain ⟨b',rfl⟩ : ∃ b' : Nat,b = b' := ⟨b.toNat,by omega⟩
      simp only [Int.toNat_natCast,List.append_assoc] at hT
      have hel : (expS t x m).length ≤ 4097000 := by
       refine Nat.le_trans expS_len ?_
       refine Nat.le_trans (Nat.mul_le_mul hm (by omega : t.length + 1 ≤ 4097)) ?_
       omega
      have hwl : ((t.take a').drop k).length ≤ 4096 := by rw [List.length_drop,List.length_take]; omega
      have e1l : (s ++ (t.take a').drop k).length ≤ 8192 := by rw [List.length_append]; omega
      have e2l : (s ++ ((t.take a').drop k ++ expS t x m)).length ≤ 5000000 := by rw [List.length_append,List.length_append]; omega
      by_cases c3 : (a' : Int) = (b' : Int)
      ·rw [if_pos c3] at hT
       have c3' : a' = b' := by omega
       subst c3'
       by_cases c4 : (a' : Int) < (t.length : Int)
       ·rw [if_pos c4] at hT
        have eo := ob_at (s := t) (i := a') (by omega)
        have hol : ([t.getD a' 0] : List UInt8).length = 1 := rfl
        have e3l : (s ++ ((t.take a').drop k ++ (expS t x m ++ [t.getD a' 0]))).length ≤ 5000001 := by rw [List.length_append,List.length_append,List.length_append,hol]; omega
        by_cases c5 : 4096 < (s ++ ((t.take a').drop k ++ (expS t x m ++ [t.getD a' 0]))).length
        ·have hQ := hQ2 (by rw [hT]; exact Nat.lt_of_lt_of_le c5 allS_ge)
         rw [W_loop (L := r13_All_l1) rfl]
         simp (disch := first | assumption | omega | decide | (simp only [lens] <;> omega) | fail) only [go_sem,eF,hga,hgb,eE,eo]
         exact hQ
        ·have I := ih (a' + 1) _ (by omega) (by omega) (by omega) hT
         rw [show ((a' + 1 : Nat) : Int) = (a' : Int) + 1 by omega] at I
         rw [W_loop (L := r13_All_l1) rfl]
         simp (disch := first | assumption | omega | decide | (simp only [lens] <;> omega) | fail) only [go_sem,eF,hga,hgb,eE,eo]
         exact I
       ·rw [if_neg c4] at hT
        by_cases c5 : 4096 < (s ++ ((t.take a').drop k ++ expS t x m)).length
        ·have hQ := hQ2 (by rw [hT]; exact Nat.lt_of_lt_of_le c5 allS_ge)
         rw [W_loop (L := r13_All_l1) rfl]
         simp (disch := first | assumption | omega | decide | (simp only [lens] <;> omega) | fail) only [go_sem,eF,hga,hgb,eE]
         exact hQ
        ·have I := ih (a' + 1) _ (by omega) (by omega) (by omega) hT
         rw [show ((a' + 1 : Nat) : Int) = (a' : Int) + 1 by omega] at I
         rw [W_loop (L := r13_All_l1) rfl]
         simp (disch := first | assumption | omega | decide | (simp only [lens] <;> omega) | fail) only [go_sem,eF,hga,hgb,eE]
         exact I
      ·rw [if_neg c3] at hT
       by_cases c5 : 4096 < (s ++ ((t.take a').drop k ++ expS t x m)).length
       ·have hQ := hQ2 (by rw [hT]; exact Nat.lt_of_lt_of_le c5 allS_ge)
        rw [W_loop (L := r13_All_l1) rfl]
        simp (disch := first | assumption | omega | decide | (simp only [lens] <;> omega) | fail) only [go_sem,eF,hga,hgb,eE]
        exact hQ
       ·have I := ih b' _ (by omega) (by omega) (by omega) hT
        rw [W_loop (L := r13_All_l1) rfl]
        simp (disch := first | assumption | omega | decide | (simp only [lens] <;> omega) | fail) only [go_sem,eF,hga,hgb,eE]
        exact I
def allOut (F : Nat → Option (List Int)) (t m : List UInt8) : List PV :=
 if chkT m = true then (if 4096 < t.length then [.str [],.int .i64 13] else if (allS F t m (t.length + 2) 0 []).length ≤ 4096 then [.str (allS F t m (t.length + 2) 0 []),.int .i64 0] else [.str [],.int .i64 13]) else [.str [],.int .i64 8]
set_option maxRecDepth 10000 in
set_option maxHeartbeats 1000000 in
theorem res_r13All (g : Nat) (hg : g ≤ 1024) (kl : SK) (l : List Ins) (m : List UInt8) (hm : m.length ≤ 1000) (t : List UInt8) (ht : t.length ≤ 10000) (F : Nat → Option (List Int)) (hF : FOk 319 g l t F) : res Γ 308 [progV g kl l,.str m,.str t] = some (allOut F t m) := by
 unfold allOut
 have eC := res_r13Check m (by omega)
 by_cases hc : chkT m = true
 ·rw [if_pos hc] at eC ⊢
  by_cases htl : 4096 < t.length
  ·rw [if_pos htl]
   refine res_code (fn := r13_All) rfl rfl ?_
   simp (disch := first | assumption | omega | decide | (simp only [lens] <;> omega) | fail) only [go_sem,r13_All,eC]
  ·rw [if_neg htl]
   have L := fun Q hQ1 hQ2 => r13all_l1_ok g hg kl l m hm hc t (by omega) F hF Q (allS F t m (t.length + 2) 0 []) hQ1 hQ2 (t.length + 2) 0 [] (by omega) (by omega) (by simp) rfl
   generalize allS F t m (t.length + 2) 0 [] = T at *
   refine res_code (fn := r13_All) rfl rfl ?_
   simp (disch := first | assumption | omega | decide | (simp only [lens] <;> omega) | fail) only [go_sem,r13_All,eC]
   refine L _ (fun k s he hs => ?_) (fun hT => ?_)
   ·obtain ⟨h1,h2,h3⟩ := he
    have hdl : (t.drop k).length ≤ 4096 := by rw [List.length_drop]; omega
    by_cases hk : k ≤ t.length
    ·have h2 := h2 hk
     by_cases hT : T.length ≤ 4096
     ·rw [if_pos hT]
      simp (disch := first | assumption | omega | decide | (simp only [lens] <;> omega) | fail) only [go_sem,← h2]
     ·rw [if_neg hT]
      simp (disch := first | assumption | omega | decide | (simp only [lens] <;> omega) | fail) only [go_sem,← h2]
    ·have h3 := h3 (by omega)
     subst h3
     by_cases hT : T.length ≤ 4096
     ·rw [if_pos hT]
      simp (disch := first | assumption | omega | decide | (simp only [lens] <;> omega) | fail) only [go_sem]
     ·rw [if_neg hT]
      simp (disch := first | assumption | omega | decide | (simp only [lens] <;> omega) | fail) only [go_sem]
   ·rw [if_neg (by omega)]
    simp (disch := first | assumption | omega | decide | (simp only [lens] <;> omega) | fail) only [go_sem]
 ·rw [if_neg hc] at eC ⊢
  refine res_code (fn := r13_All) rfl rfl ?_
  simp (disch := first | assumption | omega | decide | (simp only [lens] <;> omega) | fail) only [go_sem,r13_All,eC]
end Ab
namespace Ab
open Go (IntKind BinOp UnOp)
def alW (X : Wx) : Heap := match X.1 with
 | none => [.box [.p (.sl .nil 1 []),.p (.int .i64 4096),.p (.bool X.2)]]
 | some b => [.box [.own 2 b.length,.p (.int .i64 4096),.p (.bool X.2)],.row false 1 (byR b)]
theorem expX_le {t sv} : ∀ {m X},(X.1.getD []).length ≤ 4096 → ((expX t sv m X).1.getD []).length ≤ 4096 := by
 intro m
 induction m using expS.induct with
 | case1 => intro X h; exact h
 | case2 c r ih => intro X h; exact ih (layX_le h)
 | case3 c r hc ih =>
  intro X h
  have e2 : expX t sv (c :: r) X = expX t sv r (layX X [c]) := by
   conv => lhs; unfold expX
   split
   ·rename_i e; cases e
   ·rename_i e; cases e; exact absurd rfl (hc _ _ rfl)
   ·rename_i e; cases e; rfl
  rw [e2]
  exact ih (layX_le h)
theorem no_some {b : List UInt8} {ov ov2 : Bool} (h : ((some b,ov) : Wx).1.isSome = true → ((none,ov2) : Wx).1.isSome = true) : False := by cases h rfl
set_option maxRecDepth 10000 in
set_option maxHeartbeats 8000000 in
theorem sall_l1_ok (g : Nat) (hg : g ≤ 1024) (kl : SK) (l : List Ins) (m : List UInt8) (hm : m.length ≤ 1000) (hcm : chkT m = true) (t : List UInt8) (ht : t.length ≤ 4096) (F : Nat → Option (List Int)) (hF : FOk 338 g l t F) (Q : Out → Prop) (T : List UInt8)
    (hQ1 : ∀ (k : Nat) s X,endA T t k s → okX X s → (X.1.getD []).length ≤ 4096 → Q (.nrm,[(2,.p (.str t)),(9,.bx 1 0),(10,.p (.int .i64 k))],.box [.p (.int .i64 g),.p (.sl kl 4 (inR l))] :: alW X)) : ∀ (n k : Nat) (s : List UInt8) (X : Wx),t.length + 2 ≤ k + n → k ≤ t.length + 1 → okX X s → (X.1.getD []).length ≤ 4096 → T = allS F t m n k s →
    ∀ e H,norm [1,2,3,9,10] (some 0) e H = some ([(1,.p (.str m)),(2,.p (.str t)),(3,.bx 0 0),(9,.bx 1 0),(10,.p (.int .i64 k))],.box [.p (.int .i64 g),.p (.sl kl 4 (inR l))] :: alW X) →
    Wp Γ subst_All_l1 e H (InBlk [2,9,10] 0 Q) := by
  intro n
  induction n with
  | zero => intro k s X h1 h2; exact absurd h1 (by omega)
  | succ n ih =>
    intro k s X hn hk hs hX hT e H hH
    unfold allS at hT
    by_cases hkt : t.length < k
    · rw [if_pos hkt] at hT
      have hQ := hQ1 k s X ⟨hk,fun h => absurd hkt (by omega),fun _ => hT⟩ hs hX
      obtain ⟨o,ov⟩ := X
      cases o <;> simp only [alW] at hH hQ
      all_goals
        rw [W_loop (L := subst_All_l1) rfl]
        rw [hH]
        simp (disch := first | assumption | omega | decide | (simp only [lens] <;> omega) | fail) only [go_sem]
        exact hQ
    · rw [if_neg hkt] at hT
      obtain ⟨eF,hx⟩ := hF k (by omega)
      have eF := eF kl
      cases hf : F k with
      | none =>
        rw [hf] at hT eF
        dsimp only at hT
        rw [fV_n,Option.isSome_none] at eF
        have hQ := hQ1 k s X ⟨hk,fun _ => hT,fun h => absurd h hkt⟩ hs hX
        obtain ⟨o,ov⟩ := X
        cases o <;> simp only [alW] at hH hQ
        all_goals
          rw [W_loop (L := subst_All_l1) rfl]
          rw [hH]
          simp (disch := first | assumption | omega | decide | (simp only [lens] <;> omega) | fail) only [go_sem,eF]
          exact hQ
      | some x =>
        rw [hf] at hT eF
        rw [fV_s,Option.isSome_some] at eF
        dsimp only at hT
        have hok := hx x hf
        have hxl := hok.1
        have ha := okS_at hok (i := 0) (by omega)
        have hb := okS_at hok (i := 1) (by omega)
        generalize hga : x.getD 0 0 = a at ha hT
        generalize hgb : x.getD 1 0 = b at hb hT
        by_cases c1 : a < (k : Int)
        · rw [if_pos (.inl c1)] at hT
          have hQ := hQ1 k s X ⟨hk,fun _ => hT,fun h => absurd h hkt⟩ hs hX
          obtain ⟨o,ov⟩ := X
          cases o <;> simp only [alW] at hH hQ
          all_goals
            rw [W_loop (L := subst_All_l1) rfl]
            rw [hH]
            simp (disch := first | assumption | omega | decide | (simp only [lens] <;> omega) | fail) only [go_sem,eF,hga]
            exact hQ
        · by_cases c2 : b < a
          · rw [if_pos (.inr c2)] at hT
            have hQ := hQ1 k s X ⟨hk,fun _ => hT,fun h => absurd h hkt⟩ hs hX
            obtain ⟨o,ov⟩ := X
            cases o <;> simp only [alW] at hH hQ
            all_goals
              rw [W_loop (L := subst_All_l1) rfl]
              rw [hH]
              simp (disch := first | assumption | omega | decide | (simp only [lens] <;> omega) | fail) only [go_sem,eF,hga,hgb]
              exact hQ
          · rw [if_neg (by omega)] at hT
            obtain ⟨a',rfl⟩ : ∃ a' : Nat,a = a' := ⟨a.toNat,by omega⟩
            obtain ⟨b',rfl⟩ : ∃ b' : Nat,b = b' := ⟨b.toNat,by omega⟩
            simp only [Int.toNat_natCast] at hT
            have hwl : ((t.take a').drop k).length ≤ 4096 := by rw [List.length_drop,List.length_take]; omega
            have e1 := resM_slays X ((t.take a').drop k) (by omega) hX
            have s1 := okX_lay (u := (t.take a').drop k) hs
            have l1 := layX_le (s := (t.take a').drop k) hX
            have m1 := @isS_lay X ((t.take a').drop k)
            generalize layX X ((t.take a').drop k) = X1 at e1 s1 l1 m1
            have e2 := resM_sexp m (by omega) hcm t (by omega) x (by omega) X1 l1
            have s2 := okX_exp (t := t) (sv := x) (m := m) s1
            have m2 := @isS_exp t x m X1
            have l2 := expX_le (t := t) (sv := x) (m := m) l1
            generalize expX t x m X1 = X2 at e2 s2 m2 l2
            by_cases c3 : (a' : Int) = (b' : Int)
            · rw [if_pos c3] at hT
              have c3' : a' = b' := by omega
              subst c3'
              by_cases c4 : (a' : Int) < (t.length : Int)
              · rw [if_pos c4] at hT
                have eo := ob_at (s := t) (i := a') (by omega)
                have e3 := resM_slays X2 [t.getD a' 0] (by simp) l2
                have s3 := okX_lay (u := [t.getD a' 0]) s2
                have l3 := layX_le (s := [t.getD a' 0]) l2
                have m3 := @isS_lay X2 [t.getD a' 0]
                generalize layX X2 [t.getD a' 0] = X3 at e3 s3 l3 m3
                have I := ih (a' + 1) _ X3 (by omega) (by omega) s3 l3 hT
                rw [show ((a' + 1 : Nat) : Int) = (a' : Int) + 1 by omega] at I
                clear hT s1 s2 s3 l1 l2 l3 ih hQ1 hs hX
                obtain ⟨o,ov⟩ := X
                obtain ⟨o1,ov1⟩ := X1
                obtain ⟨o2,ov2⟩ := X2
                obtain ⟨o3,ov3⟩ := X3
                cases o <;> cases o1 <;> cases o2 <;> cases o3 <;> first
                  | exact (no_some m1).elim
                  | exact (no_some m2).elim
                  | exact (no_some m3).elim
                  | (simp only [alW,wsH,kX] at hH I e1 e2 e3
                     rw [W_loop (L := subst_All_l1) rfl]
                     rw [hH]
                     simp (disch := first | assumption | omega | decide | (simp only [lens] <;> omega) | fail) only [go_sem,eF,hga,hgb,eo,e1,e2,e3,st336_1,st336_2,st337_1,st337_2]
                     refine I _ _ ?_
                     simp (disch := first | assumption | omega | decide | (simp only [lens] <;> omega) | fail) only [go_sem,norm_t]
                     try rfl
                     done)
              · rw [if_neg c4] at hT
                have I := ih (a' + 1) _ X2 (by omega) (by omega) s2 l2 hT
                rw [show ((a' + 1 : Nat) : Int) = (a' : Int) + 1 by omega] at I
                clear hT s1 s2 l1 l2 ih hQ1 hs hX
                obtain ⟨o,ov⟩ := X
                obtain ⟨o1,ov1⟩ := X1
                obtain ⟨o2,ov2⟩ := X2
                cases o <;> cases o1 <;> cases o2 <;> first
                  | exact (no_some m1).elim
                  | exact (no_some m2).elim
                  | (simp only [alW,wsH,kX] at hH I e1 e2
                     rw [W_loop (L := subst_All_l1) rfl]
                     rw [hH]
                     simp (disch := first | assumption | omega | decide | (simp only [lens] <;> omega) | fail) only [go_sem,eF,hga,hgb,e1,e2,st336_1,st336_2,st337_1,st337_2]
                     refine I _ _ ?_
                     simp (disch := first | assumption | omega | decide | (simp only [lens] <;> omega) | fail) only [go_sem,norm_t]
                     try rfl
                     done)
            · rw [if_neg c3] at hT
              have I := ih b' _ X2 (by omega) (by omega) s2 l2 hT
              clear hT s1 s2 l1 l2 ih hQ1 hs hX
              obtain ⟨o,ov⟩ := X
              obtain ⟨o1,ov1⟩ := X1
              obtain ⟨o2,ov2⟩ := X2
              cases o <;> cases o1 <;> cases o2 <;> first
                | exact (no_some m1).elim
                | exact (no_some m2).elim
                | (simp only [alW,wsH,kX] at hH I e1 e2
                   rw [W_loop (L := subst_All_l1) rfl]
                   rw [hH]
                   simp (disch := first | assumption | omega | decide | (simp only [lens] <;> omega) | fail) only [go_sem,eF,hga,hgb,e1,e2,st336_1,st336_2,st337_1,st337_2]
                   refine I _ _ ?_
                   simp (disch := first | assumption | omega | decide | (simp only [lens] <;> omega) | fail) only [go_sem,norm_t]
                   try rfl
                   done)
set_option maxRecDepth 10000 in
set_option maxHeartbeats 2000000 in
theorem res_substAll (g : Nat) (hg : g ≤ 1024) (kl : SK) (l : List Ins) (m : List UInt8) (hm : m.length ≤ 1000) (t : List UInt8) (ht : t.length ≤ 10000) (F : Nat → Option (List Int)) (hF : FOk 338 g l t F) : res Γ 322 [progV g kl l,.str m,.str t] = some (allOut F t m) := by
  unfold allOut
  have eC := res_substCheck m (by omega)
  by_cases hc : chkT m = true
  · rw [if_pos hc] at eC ⊢
    by_cases htl : 4096 < t.length
    · rw [if_pos htl]
      refine res_code (fn := subst_All) rfl rfl ?_
      simp (disch := first | assumption | omega | decide | (simp only [lens] <;> omega) | fail) only [go_sem,subst_All,eC]
    · rw [if_neg htl]
      have L := fun Q hQ1 => sall_l1_ok g hg kl l m hm hc t (by omega) F hF Q (allS F t m (t.length + 2) 0 []) hQ1 (t.length + 2) 0 [] (none,false) (by omega) (by omega) ⟨rfl,rfl⟩ (by simp) rfl
      generalize allS F t m (t.length + 2) 0 [] = T at *
      refine res_code (fn := subst_All) rfl rfl ?_
      simp (disch := first | assumption | omega | decide | (simp only [lens] <;> omega) | fail) only [go_sem,subst_All,eC]
      refine L _ (fun k s X he hs hX => ?_) _ _ ?_
      · obtain ⟨h1,h2,h3⟩ := he
        have hdl : (t.drop k).length ≤ 4096 := by rw [List.length_drop]; omega
        by_cases hk : k < t.length
        · have h2 := h2 (by omega)
          have e1 := resM_slays X (t.drop k) (by omega) hX
          have s1 := okX_lay (u := t.drop k) hs
          have m1 := @isS_lay X (t.drop k)
          rw [← h2] at s1
          generalize layX X (t.drop k) = X1 at e1 s1 m1
          unfold okX at s1
          obtain ⟨o,ov⟩ := X
          obtain ⟨o1,ov1⟩ := X1
          by_cases hT : T.length ≤ 4096
          · rw [if_pos hT] at s1 ⊢
            obtain ⟨s2,s3⟩ := s1
            dsimp only at s2 s3
            subst s2
            cases o <;> cases o1 <;> first
              | exact (no_some m1).elim
              | (simp only [Option.getD_none,Option.getD_some] at s3
                 subst s3
                 simp only [alW,wsH,kX] at e1 ⊢
                 simp (disch := first | assumption | omega | decide | (simp only [lens] <;> omega) | fail) only [go_sem,e1,st336_1,st336_2,strOfA,bytesIn]
                 done)
          · rw [if_neg hT] at s1 ⊢
            have s1 : ov1 = true := s1
            subst s1
            cases o <;> cases o1 <;> first
              | exact (no_some m1).elim
              | (simp only [alW,wsH,kX] at e1 ⊢
                 simp (disch := first | assumption | omega | decide | (simp only [lens] <;> omega) | fail) only [go_sem,e1,st336_1,st336_2]
                 done)
        · have h4 : T = s := by
            by_cases hk2 : t.length < k
            · exact h3 hk2
            · have := h2 (by omega)
              rw [List.drop_eq_nil_of_le (by omega),List.append_nil] at this
              exact this
          subst h4
          unfold okX at hs
          obtain ⟨o,ov⟩ := X
          by_cases hT : T.length ≤ 4096
          · rw [if_pos hT] at hs ⊢
            obtain ⟨s2,s3⟩ := hs
            dsimp only at s2 s3
            subst s2
            cases o <;> (simp only [Option.getD_none,Option.getD_some] at s3
                         subst s3
                         simp only [alW]
                         simp (disch := first | assumption | omega | decide | (simp only [lens] <;> omega) | fail) only [go_sem,strOfA,bytesIn])
          · rw [if_neg hT] at hs ⊢
            have s1 : ov = true := hs
            subst s1
            cases o <;> (simp only [alW]
                         simp (disch := first | assumption | omega | decide | (simp only [lens] <;> omega) | fail) only [go_sem])
      · simp only [alW]
        simp (disch := first | assumption | omega | decide | (simp only [lens] <;> omega) | fail) only [go_sem,norm_t]
        try rfl
  · rw [if_neg hc] at eC ⊢
    refine res_code (fn := subst_All) rfl rfl ?_
    simp (disch := first | assumption | omega | decide | (simp only [lens] <;> omega) | fail) only [go_sem,subst_All,eC]
end Ab
namespace Ab
def tl (N : Nat) : Pc → Prop
 | .inst _ q => q.length ≤ N
 | .nil => True
 | .cons a r => tl N a ∧ tl N r
 | .alt a r => tl N a ∧ tl N r
 | .grp _ k => tl N k
 | .rep _ _ k => tl N k
theorem spl_txt {lz x y} : (spl lz x y).2.2.2 = [] := by cases lz <;> rfl
theorem comp_tl {N : Nat} : ∀ (p : Pc) (b : Nat),tl N p → ∀ x ∈ comp p b,x.2.2.2.length ≤ N
 | .inst _ _,_,h,x,hx => by
  simp only [comp,List.mem_singleton] at hx
  subst hx
  exact h
 | .nil,_,_,x,hx => by cases hx
 | .cons a r,b,h,x,hx => by
  simp only [comp,List.mem_append] at hx
  rcases hx with hx | hx
  ·exact comp_tl a _ h.1 x hx
  ·exact comp_tl r _ h.2 x hx
 | .alt a r,b,h,x,hx => by
  simp only [comp,List.mem_cons,List.mem_append] at hx
  rcases hx with rfl | hx | rfl | hx
  ·exact Nat.zero_le _
  ·exact comp_tl a _ h.1 x hx
  ·exact Nat.zero_le _
  ·exact comp_tl r _ h.2 x hx
 | .grp g k,b,h,x,hx => by
  simp only [comp] at hx
  split at hx
  ·exact comp_tl k _ h x hx
  ·simp only [List.mem_cons,List.mem_append,List.not_mem_nil,or_false] at hx
   rcases hx with rfl | hx | rfl
   ·exact Nat.zero_le _
   ·exact comp_tl k _ h x hx
   ·exact Nat.zero_le _
 | .rep c lz k,b,h,x,hx => by
  simp only [comp] at hx
  split at hx
  ·simp only [List.mem_cons,List.mem_append,List.not_mem_nil,or_false] at hx
   rcases hx with rfl | hx | rfl
   ·rw [spl_txt]; exact Nat.zero_le _
   ·exact comp_tl k _ h x hx
   ·exact Nat.zero_le _
  ·split at hx
   ·simp only [List.mem_cons,List.mem_append,List.not_mem_nil,or_false] at hx
    rcases hx with hx | rfl
    ·exact comp_tl k _ h x hx
    ·rw [spl_txt]; exact Nat.zero_le _
   ·simp only [List.mem_cons] at hx
    rcases hx with rfl | hx
    ·rw [spl_txt]; exact Nat.zero_le _
    ·exact comp_tl k _ h x hx
theorem pairsB_len {l : List Bool} : (pairsB l).length ≤ 512 := by
 unfold pairsB
 rw [List.length_map]
 exact runsL_len
theorem rd_tl {setf : Nat → Option (List Bool × Nat)} {s : List UInt8} : ∀ (n : Nat) (m : Md) (d i g : Nat) (r : Pc × Nat × Nat),rd setf s n m d i g = .ok r → tl 512 r.1 := by
 intro n
 induction n with
 | zero => intro m d i g r h; cases h
 | succ n ih =>
  intro m d i g r h
  cases m with
  | ways =>
   simp only [rd] at h
   cases h1 : rd setf s n .row d i g with
   | error b => rw [h1] at h; cases h
   | ok q =>
    obtain ⟨p,j,g'⟩ := q
    rw [h1] at h
    dsimp only at h
    have b := ih _ _ _ _ _ h1
    split at h
    ·cases h2 : rd setf s n .ways d (j + 1) g' with
     | error b => rw [h2] at h; cases h
     | ok q2 =>
      rw [h2] at h
      have b2 := ih _ _ _ _ _ h2
      cases h
      exact ⟨b,b2⟩
    ·cases h; exact b
  | row =>
   simp only [rd] at h
   split at h
   ·cases h1 : rd setf s n .piece d i g with
    | error b => rw [h1] at h; cases h
    | ok q =>
     obtain ⟨p,j,g'⟩ := q
     rw [h1] at h
     dsimp only at h
     have b := ih _ _ _ _ _ h1
     cases h2 : rd setf s n .row d j g' with
     | error b => rw [h2] at h; cases h
     | ok q2 =>
      rw [h2] at h
      have b2 := ih _ _ _ _ _ h2
      cases h
      exact ⟨b,b2⟩
   ·cases h; trivial
  | piece =>
   simp only [rd] at h
   cases h1 : rd setf s n .atom d i g with
   | error b => rw [h1] at h; cases h
   | ok q =>
    obtain ⟨p,j,g'⟩ := q
    rw [h1] at h
    dsimp only at h
    have b := ih _ _ _ _ _ h1
    split at h
    ·cases h; exact b
    ·cases h; exact b
  | atom =>
   simp only [rd] at h
   split at h
   ·exact ih _ _ _ _ _ h
   ·split at h
    ·cases h; exact Nat.zero_le _
    ·split at h
     ·cases h; exact Nat.zero_le _
     ·cases h1 : setf i with
      | none => rw [h1] at h; cases h
      | some q =>
       rw [h1] at h
       cases h
       exact pairsB_len
  | group =>
   simp only [rd] at h
   split at h
   ·cases h
   ·split at h
    ·cases h1 : rd setf s n .ways (d + 1) (i + 2) g with
     | error b => rw [h1] at h; cases h
     | ok q =>
      rw [h1] at h
      dsimp only at h
      have b := ih _ _ _ _ _ h1
      split at h
      ·cases h; exact b
      ·cases h
    ·cases h1 : rd setf s n .ways (d + 1) i (g + 1) with
     | error b => rw [h1] at h; cases h
     | ok q =>
      rw [h1] at h
      dsimp only at h
      have b := ih _ _ _ _ _ h1
      split at h
      ·cases h; exact b
      ·cases h
end Ab
namespace Ab
open Go (IntKind BinOp UnOp)
theorem progS_ok {s : List UInt8} (hs : s.length ≤ 100) {g : Nat} {l : List Ins} (h : progS s = .inr (g,l)) : g ≤ 1024 ∧ l.length ≤ 10000 ∧ ∀ x ∈ l,x.2.2.2.length ≤ 1000000 := by
 unfold progS at h
 cases hp : parseS s with
 | error b => rw [hp] at h; cases b <;> cases h
 | ok r =>
  obtain ⟨p,j,g'⟩ := r
  rw [hp] at h
  obtain ⟨hf,hw,hj,hg,hl,hm⟩ := mu_small hs hp
  have ht : tl 512 p := rd_tl _ .ways 0 0 0 _ hp
  dsimp only at h
  split at h
  ·cases h
  ·cases h
   refine ⟨by omega,?_,fun x hx => ?_⟩
   ·simp only [List.length_cons,List.length_append,comp_len,List.length_nil]; omega
   ·simp only [List.mem_cons,List.mem_append,List.not_mem_nil,or_false] at hx
    rcases hx with rfl | hx | rfl | rfl
    ·exact Nat.zero_le _
    ·exact Nat.le_trans (comp_tl p 1 ht x hx) (by omega)
    ·exact Nat.zero_le _
    ·exact Nat.zero_le _
theorem progS_err {s : List UInt8} {e : Int} (h : progS s = .inl e) : e = 12 ∨ e = 8 := by
 unfold progS at h
 cases hp : parseS s with
 | error b => rw [hp] at h; cases b <;> cases h <;> simp
 | ok r =>
  rw [hp] at h
  dsimp only at h
  split at h
  ·cases h; simp
  ·cases h
theorem allOut_cases (F t m) : ∃ (n : List UInt8) (e : Int),allOut F t m = [.str n,.int .i64 e] ∧ (e = 0 ∨ e = 8 ∨ e = 13) := by
 unfold allOut
 split
 ·split
  ·exact ⟨_,_,rfl,by simp⟩
  ·split
   ·exact ⟨_,_,rfl,by simp⟩
   ·exact ⟨_,_,rfl,by simp⟩
 ·exact ⟨_,_,rfl,by simp⟩
theorem sub_both (x m t : List UInt8) (hx : x.length ≤ 100) (hm : m.length ≤ 1000) (ht : t.length ≤ 10000) : ∃ (n : List UInt8) (e : Int),(0 ≤ e ∧ e ≤ 100) ∧
    ((e ≠ 0 ∧ res Γ 323 [.str x] = some [noProg,.int .i64 e] ∧ res Γ 309 [.str x] = some [noProg,.int .i64 e]) ∨
     ∃ g l,res Γ 323 [.str x] = some [prog g l,.int .i64 0] ∧ res Γ 309 [.str x] = some [prog g l,.int .i64 0] ∧ res Γ 322 [prog g l,.str m,.str t] = some [.str n,.int .i64 e] ∧ res Γ 308 [prog g l,.str m,.str t] = some [.str n,.int .i64 e]) := by
  have e1 := res_rexCompile x hx
  have e2 := res_r11Compile x hx
  cases hp : progS x with
  | inl e =>
    rw [hp] at e1 e2
    have := progS_err hp
    exact ⟨[],e,by omega,.inl ⟨by omega,e1,e2⟩⟩
  | inr gl =>
    obtain ⟨g,l⟩ := gl
    rw [hp] at e1 e2
    obtain ⟨h1,h2,h3⟩ := progS_ok hx hp
    obtain ⟨F,hF⟩ := find_both g h1 l h2 h3 t ht
    obtain ⟨n,e,ha,he⟩ := allOut_cases F t m
    have s1 := res_substAll g h1 .any l m hm t ht F (fun k hk => ⟨(hF k hk).1,(hF k hk).2.2⟩)
    have s2 := res_r13All g h1 .any l m hm t ht F (fun k hk => ⟨(hF k hk).2.1,(hF k hk).2.2⟩)
    rw [ha] at s1 s2
    exact ⟨n,e,by omega,.inr ⟨g,l,e1,e2,s1,s2⟩⟩
def errO (e : Int) : List PV := [zeroS,.int .i64 e]
def rnOut (s : Ser) (lt ln a b : Nat) (n : List UInt8) (e : Int) : List PV :=
 if lt < a ∨ ln < b ∨ isS s = false then errO 1 else if e ≠ 0 then errO e else if isS (renS s n) = true then [(renS s n).pv .any,.int .i64 0] else errO 1
set_option maxRecDepth 10000 in
theorem res_RenameG {kt kn : SK} (how : List UInt8) (f a b : Nat) (_ha : a ≤ 100) (_hb : b ≤ 100) (he1 : res Γ 306 [.str how] = some [.clo f [],.int .i64 a,.int .i64 b]) (ts : List (List UInt8)) (ns : List Int) (s : Ser) (hs : s.vals.length ≤ 1000000) (_hts : ts.length ≤ 1000000) (_hns : ns.length ≤ 1000000) (n : List UInt8) (e : Int) (he : 0 ≤ e ∧ e ≤ 100)
    (he2 : a ≤ ts.length → b ≤ ns.length → res Γ f [.agg [.str s.name,.int .i64 s.start,.int .i64 s.step,.sl .any 2 (vpv s.vals),.int .i64 s.cons,.sl kt 1 (strs ts),.sl kn 1 (ints .i64 ns)]] = some [.str n,.int .i64 e]) :
    res Γ 299 [.str how,s.pv .any,.sl kt 1 (strs ts),.sl kn 1 (ints .i64 ns)] = some (rnOut s ts.length ns.length a b n e) := by
  have e3 := res_seriesIs (kk := .any) s (by omega)
  have e4 := res_seriesIs (kk := .any) (renS s n) (show s.vals.length ≤ _ by omega)
  have e5 := res_seriesOwnR (kk := .any) s (by omega)
  unfold rnOut errO
  by_cases c1 : ts.length < a
  · rw [if_pos (.inl c1)]
    unfold Ser.pv zeroS at *
    refine res_code (fn := fname_Rename) rfl rfl ?_
    simp (disch := first | assumption | omega | decide | (simp only [lens] <;> omega) | fail) only [go_sem,fname_Rename,he1]
  · by_cases c2 : ns.length < b
    · rw [if_pos (.inr (.inl c2))]
      unfold Ser.pv zeroS at *
      refine res_code (fn := fname_Rename) rfl rfl ?_
      simp (disch := first | assumption | omega | decide | (simp only [lens] <;> omega) | fail) only [go_sem,fname_Rename,he1]
    · have he2 := he2 (by omega) (by omega)
      cases hi : isS s
      · rw [if_pos (.inr (.inr rfl))]
        rw [hi] at e3
        unfold Ser.pv zeroS at *
        refine res_code (fn := fname_Rename) rfl rfl ?_
        simp (disch := first | assumption | omega | decide | (simp only [lens] <;> omega) | fail) only [go_sem,fname_Rename,he1,e3]
      · rw [if_neg (by rintro (h | h | h); · exact c1 h
                       · exact c2 h
                       · cases h)]
        rw [hi] at e3
        by_cases c3 : e = 0
        · subst c3
          rw [if_neg (by simp)]
          generalize isS (renS s n) = i2 at *
          unfold renS Ser.pv at *
          unfold zeroS at *
          cases i2
          · rw [if_neg Bool.false_ne_true]
            refine res_code (fn := fname_Rename) rfl rfl ?_
            simp (disch := first | assumption | omega | decide | (simp only [lens] <;> omega) | fail) only [go_sem,fname_Rename,he1,he2,e3,e4,e5,ne_eq,not_true_eq_false]
          · rw [if_pos (Eq.refl true)]
            refine res_code (fn := fname_Rename) rfl rfl ?_
            simp (disch := first | assumption | omega | decide | (simp only [lens] <;> omega) | fail) only [go_sem,fname_Rename,he1,he2,e3,e4,e5,ne_eq,not_true_eq_false]
        · rw [if_pos c3]
          unfold Ser.pv zeroS at *
          refine res_code (fn := fname_Rename) rfl rfl ?_
          simp (disch := first | assumption | omega | decide | (simp only [lens] <;> omega) | fail) only [go_sem,fname_Rename,he1,he2,e3,ne_eq,c3,not_false_eq_true]
end Ab
