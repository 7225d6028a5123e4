import Derived.Test.YtieagbclljmnlaaGreatDoorLGlob8
namespace Ab
open Go (IntKind BinOp UnOp)
def stV (b : Bool) (l : List (List UInt8)) : AV := match b with | true => .p (.sl .tight 1 (strs l)) | false => .own 1 l.length
def stH (b : Bool) (s : List UInt8) (at_ : Int) (l : List (List UInt8)) : Heap := match b with | true => [rdB s at_ false] | false => [rdB s at_ false,.row false 1 (strs l)]
def Stop (r : List UInt8) : Prop := r = [] ∨ ∃ c t,r = c :: t ∧ (c = 44 ∨ c = 125)
abbrev rNorm (env : Env) (H : Heap) (v : AV) (H2 : Heap) : Prop := norm [0,3] (some 1) env H = some ([(0,.bx 0 0),(3,v)],H2)
theorem drop_head {s : List UInt8} {i : Nat} {c : UInt8} {t : List UInt8} (h : s.drop i = c :: t) : i < s.length ∧ s.getD i 0 = c ∧ s.drop (i + 1) = t := by
 obtain ⟨h1,h2,h3,_⟩ := drop_cons h
 exact ⟨h1,(byt_eqG c).1 h2,h3⟩
theorem row_end {s : List UInt8} (_hs : s.length < 900000000) {at_ : Nat} (ha : at_ ≤ s.length) {b : Bool} {l : List (List UInt8)} {env : Env} {H : Heap} {Q : Out → Prop} (hN : rNorm env H (stV b l) (stH b s at_ l)) (hst : Stop (s.drop at_))
  (fin : Q (.ret,[(2,stV b l)],stH b s at_ l) ∧ Q (.nrm,[(3,stV b l)],stH b s at_ l)) : Wp Γ glob_reader_row_l1 env H (InBlk [3] 0 Q) := by
 obtain ⟨f1,f2⟩ := fin
 rcases hst with h | ⟨c,t,h,hc⟩
 ·have := drop_nil h
  obtain rfl : at_ = s.length := by omega
  cases b
  ·unfold stV stH at *
   rw [W_loop (L := glob_reader_row_l1) rfl]
   rw [hN]
   simp (disch := first | assumption | omega | decide | (simp only [lens] <;> omega) | fail) only [go_sem]
   exact f2
  ·unfold stV stH at *
   rw [W_loop (L := glob_reader_row_l1) rfl]
   rw [hN]
   simp (disch := first | assumption | omega | decide | (simp only [lens] <;> omega) | fail) only [go_sem]
   exact f2
 ·obtain ⟨h1,h2,h3⟩ := drop_head h
  have hb : byt s at_ = 44 ∨ byt s at_ = 125 := by
   rcases hc with rfl | rfl
   ·exact .inl ((byt_eqG 44).2 h2)
   ·exact .inr ((byt_eqG 125).2 h2)
  rcases hb with hb | hb
  ·cases b
   ·unfold stV stH at *
    rw [W_loop (L := glob_reader_row_l1) rfl]
    rw [hN]
    simp (disch := first | assumption | omega | decide | (simp only [lens] <;> omega) | fail) only [go_sem,hb]
    exact f1
   ·unfold stV stH at *
    rw [W_loop (L := glob_reader_row_l1) rfl]
    rw [hN]
    simp (disch := first | assumption | omega | decide | (simp only [lens] <;> omega) | fail) only [go_sem,hb]
    exact f1
  ·cases b
   ·unfold stV stH at *
    rw [W_loop (L := glob_reader_row_l1) rfl]
    rw [hN]
    simp (disch := first | assumption | omega | decide | (simp only [lens] <;> omega) | fail) only [go_sem,hb]
    exact f1
   ·unfold stV stH at *
    rw [W_loop (L := glob_reader_row_l1) rfl]
    rw [hN]
    simp (disch := first | assumption | omega | decide | (simp only [lens] <;> omega) | fail) only [go_sem,hb]
    exact f1
theorem ixP_none' {f : UInt8 → Bool} : ∀ {p : List UInt8},(∀ c ∈ p,f c = false) → ixP f p = -1
 | [],_ => rfl
 | c :: p,h => by
  have e : ixP f (c :: p) = if f c = true then 0 else if ixP f p = -1 then -1 else ixP f p + 1 := rfl
  rw [e,h c (by simp),if_neg (by decide),ixP_none' fun x hx => h x (by simp [hx]),if_pos rfl]
theorem ixP_hit' {f : UInt8 → Bool} {c : UInt8} {t : List UInt8} (hc : f c = true) : ∀ {p : List UInt8},(∀ c ∈ p,f c = false) → ixP f (p ++ c :: t) = (p.length : Int)
 | [],_ => by
  have e : ixP f (c :: t) = if f c = true then 0 else if ixP f t = -1 then -1 else ixP f t + 1 := rfl
  rw [List.nil_append,e,if_pos hc]; rfl
 | x :: p,h => by
  have e : ∀ r,ixP f (x :: r) = if f x = true then 0 else if ixP f r = -1 then -1 else ixP f r + 1 := fun _ => rfl
  have ih := ixP_hit' (t := t) hc (p := p) fun y hy => h y (by simp [hy])
  rw [List.cons_append,e,h x (by simp),if_neg (by decide),ih,if_neg (by omega)]
  simp
theorem special_c {c : UInt8} : List.contains [123,125,44] c = special c := by
 simp only [List.contains_cons,List.contains_nil,Bool.or_false,special]
 cases c == 123 <;> cases c == 125 <;> rfl
theorem strs_single {p : List UInt8} : strs [p] = [.str p] := rfl
theorem prodL_one_len {l : List (List UInt8)} {p : List UInt8} : (prodL l [p]).length = l.length := by rw [prodL_len]; simp
theorem row_lit {s : List UInt8} (hs : s.length ≤ 900000) {at_ : Nat} {p r : List UInt8} (hd : s.drop at_ = p ++ r) (hp : ∀ c ∈ p,special c = false) (hp0 : p ≠ []) (hr : r = [] ∨ ∃ c t,r = c :: t ∧ special c = true)
  {b : Bool} {l : List (List UInt8)} (hl : l.length ≤ 512) (hx : ∀ x ∈ l,x.length ≤ at_) {env : Env} {H : Heap} {Q : Out → Prop} (hN : rNorm env H (stV b l) (stH b s at_ l))
  (cont : ∀ env H,rNorm env H (stV false (prodL l [p])) (stH false s ((at_ : Int) + p.length) (prodL l [p])) → Wp Γ glob_reader_row_l1 env H (InBlk [3] 0 Q)) : Wp Γ glob_reader_row_l1 env H (InBlk [3] 0 Q) := by
 have hlen : at_ + p.length ≤ s.length ∧ 0 < p.length := by
  have e := congrArg List.length hd
  rw [List.length_drop,List.length_append] at e
  cases p with
  | nil => exact absurd rfl hp0
  | cons c p => rw [List.length_cons] at *; omega
 have hlt : at_ < s.length := by omega
 have hdl : (s.drop at_).length = s.length - at_ := List.length_drop
 have eix := res_IndexAny (s.drop at_) [123,125,44] (by omega) (by decide) (by decide) (by decide)
 have hsp : special (s.getD at_ 0) = false := by
  cases p with
  | nil => exact absurd rfl hp0
  | cons c p =>
   obtain ⟨_,h2,_⟩ := drop_head hd
   rw [h2]
   exact hp c (by simp)
 simp only [special,Bool.or_eq_false_iff,beq_eq_false_iff_ne] at hsp
 have n1 : byt s at_ ≠ 123 := fun h => hsp.1.1 ((byt_eqG 123).1 h)
 have n2 : byt s at_ ≠ 125 := fun h => hsp.1.2 ((byt_eqG 125).1 h)
 have n3 : byt s at_ ≠ 44 := fun h => hsp.2 ((byt_eqG 44).1 h)
 have cut : (s.take (at_ + p.length)).drop at_ = p := by
  rw [List.drop_take,hd,Nat.add_sub_cancel_left,List.take_left]
 have ecut : ((at_ : Int) + (p.length : Int)).toNat = at_ + p.length := by omega
 have hx1 : ∀ x ∈ l,x.length ≤ 1000000 := fun x h => by have := hx x h; omega
 have hy1 : ∀ y ∈ [p],y.length ≤ 1000000 := fun y h => by rw [List.mem_singleton] at h; subst h; omega
 have pl := @prodL_one_len l p
 have eP := fun ka => resM_times_PP (kA := ka) (kB := .tight) s (at_ : Int) l [p] hl (by simp) (by simpa using hl) hx1 hy1
 have eO := fun fa => resM_times_OP (fA := fa) (kB := .tight) s (at_ : Int) l [p] hl (by simp) (by simpa using hl) hx1 hy1
 rw [strs_single] at eP eO
 have st1 : stillF Γ 1 51 = true := rfl
 have st2 : stillF Γ 2 51 = true := rfl
 have hcase : (ixP (List.contains [123,125,44]) (s.drop at_) = -1 ∧ at_ + p.length = s.length) ∨ ixP (List.contains [123,125,44]) (s.drop at_) = (p.length : Int) := by
  rw [hd]
  rcases hr with rfl | ⟨c,t,rfl,hc⟩
  ·refine .inl ⟨?_,?_⟩
   ·rw [List.append_nil]
    exact ixP_none' fun c h => by rw [special_c]; exact hp c h
   ·have e := congrArg List.length hd
    rw [List.length_drop,List.append_nil] at e
    omega
  ·exact .inr (ixP_hit' (by rw [special_c]; exact hc) fun c h => by rw [special_c]; exact hp c h)
 rcases hcase with ⟨h1,h2⟩ | h1
 ·rw [h1] at eix
  have esub : (s.length : Int) - (at_ : Int) = (p.length : Int) := by omega
  cases b
  ·unfold stV stH at *
   rw [W_loop (L := glob_reader_row_l1) rfl]
   rw [hN]
   simp (disch := first | assumption | omega | decide | (simp only [lens] <;> omega) | fail) only [go_sem,eix,esub,ecut,cut,eO,st2,pl]
   refine cont _ _ ?_
   simp (disch := first | assumption | omega | decide | (simp only [lens] <;> omega) | fail) only [go_sem,pl,rNorm]
  ·unfold stV stH at *
   rw [W_loop (L := glob_reader_row_l1) rfl]
   rw [hN]
   simp (disch := first | assumption | omega | decide | (simp only [lens] <;> omega) | fail) only [go_sem,eix,esub,ecut,cut,eP,st1,pl]
   refine cont _ _ ?_
   simp (disch := first | assumption | omega | decide | (simp only [lens] <;> omega) | fail) only [go_sem,pl,rNorm]
 ·rw [h1] at eix
  cases b
  ·unfold stV stH at *
   rw [W_loop (L := glob_reader_row_l1) rfl]
   rw [hN]
   simp (disch := first | assumption | omega | decide | (simp only [lens] <;> omega) | fail) only [go_sem,eix,ecut,cut,eO,st2,pl]
   refine cont _ _ ?_
   simp (disch := first | assumption | omega | decide | (simp only [lens] <;> omega) | fail) only [go_sem,pl,rNorm]
  ·unfold stV stH at *
   rw [W_loop (L := glob_reader_row_l1) rfl]
   rw [hN]
   simp (disch := first | assumption | omega | decide | (simp only [lens] <;> omega) | fail) only [go_sem,eix,ecut,cut,eP,st1,pl]
   refine cont _ _ ?_
   simp (disch := first | assumption | omega | decide | (simp only [lens] <;> omega) | fail) only [go_sem,pl,rNorm]
theorem row_grp {s : List UInt8} (_hs : s.length ≤ 900000) {at_ : Nat} {w : List UInt8} (hd : s.drop at_ = 123 :: w) {b : Bool} {l : List (List UInt8)} (hl : l.length ≤ 512) (hx : ∀ x ∈ l,x.length ≤ 1000000) {env : Env} {H : Heap} {Q : Out → Prop}
  (hN : rNorm env H (stV b l) (stH b s at_ l)) {at2 : Int} {ov : Bool} {c : List (List UInt8)} (hc : c.length ≤ 2000)
  (hch : resM Γ 1 50 [.bx 0 0] [rdB s at_ false] = some ([.own 1 c.length],[rdB s at2 ov,.row false 1 (strs c)]))
  (hok : ov = false → l.length * c.length ≤ 512 → (∀ y ∈ c,y.length ≤ 1000000) ∧ ∀ env H,rNorm env H (stV false (prodL l c)) (stH false s at2 (prodL l c)) → Wp Γ glob_reader_row_l1 env H (InBlk [3] 0 Q))
  (hov : ov = true ∨ 512 < l.length * c.length → Q (.nrm,[(3,.p (.sl .nil 1 []))],[rdB s at2 true])) : Wp Γ glob_reader_row_l1 env H (InBlk [3] 0 Q) := by
 obtain ⟨hlt,h2,_⟩ := drop_head hd
 have hb : byt s at_ = 123 := (byt_eqG 123).2 h2
 have st1 : stillF Γ 1 50 = true := rfl
 have st2 : stillF Γ 2 51 = true := rfl
 have st3 : stillF Γ 3 51 = true := rfl
 by_cases h : ov = true ∨ 512 < l.length * c.length
 ·have hov := hov h
  have eP := fun ka fb => resM_timesO_PO (kA := ka) (fB := fb) s at2 l c hl hc h
  have eO := fun fa fb => resM_timesO_OO (fA := fa) (fB := fb) s at2 l c hl hc h
  cases b
  ·unfold stV stH at *
   rw [W_loop (L := glob_reader_row_l1) rfl]
   rw [hN]
   simp (disch := first | assumption | omega | decide | (simp only [lens] <;> omega) | fail) only [go_sem,hb,hch,st1,eO,st3]
   rw [W_loop (L := glob_reader_row_l1) rfl]
   simp (disch := first | assumption | omega | decide | (simp only [lens] <;> omega) | fail) only [go_sem]
   repeat' (first | (simp (disch := first | assumption | omega | decide | (simp only [lens] <;> omega) | fail) only [go_sem]) | refine cond_split (fun hc => ?_) (fun hc => ?_) | refine gd_split_f (fun hc => ?_) (fun hc => ?_) | refine gd_split_t (fun hc => ?_) (fun hc => ?_))
   all_goals exact hov
  ·unfold stV stH at *
   rw [W_loop (L := glob_reader_row_l1) rfl]
   rw [hN]
   simp (disch := first | assumption | omega | decide | (simp only [lens] <;> omega) | fail) only [go_sem,hb,hch,st1,eP,st2]
   rw [W_loop (L := glob_reader_row_l1) rfl]
   simp (disch := first | assumption | omega | decide | (simp only [lens] <;> omega) | fail) only [go_sem]
   repeat' (first | (simp (disch := first | assumption | omega | decide | (simp only [lens] <;> omega) | fail) only [go_sem]) | refine cond_split (fun hc => ?_) (fun hc => ?_) | refine gd_split_f (fun hc => ?_) (fun hc => ?_) | refine gd_split_t (fun hc => ?_) (fun hc => ?_))
   all_goals exact hov
 ·have h1 : ov = false := by cases ov; rfl; exact absurd (.inl rfl) h
  have h2 : l.length * c.length ≤ 512 := Nat.le_of_not_lt fun h' => h (.inr h')
  subst h1
  obtain ⟨hy,cont⟩ := hok rfl h2
  have eP := fun ka fb => resM_times_PO (kA := ka) (fB := fb) s at2 l c hl hc h2 hx hy
  have eO := fun fa fb => resM_times_OO (fA := fa) (fB := fb) s at2 l c hl hc h2 hx hy
  cases b
  ·unfold stV stH at *
   rw [W_loop (L := glob_reader_row_l1) rfl]
   rw [hN]
   simp (disch := first | assumption | omega | decide | (simp only [lens] <;> omega) | fail) only [go_sem,hb,hch,st1,eO,st3]
   refine cont _ _ ?_
   simp (disch := first | assumption | omega | decide | (simp only [lens] <;> omega) | fail) only [go_sem,rNorm]
  ·unfold stV stH at *
   rw [W_loop (L := glob_reader_row_l1) rfl]
   rw [hN]
   simp (disch := first | assumption | omega | decide | (simp only [lens] <;> omega) | fail) only [go_sem,hb,hch,st1,eP,st2]
   refine cont _ _ ?_
   simp (disch := first | assumption | omega | decide | (simp only [lens] <;> omega) | fail) only [go_sem,rNorm]
def RowRes (a : List UInt8) (out : List (List UInt8)) : Prop := ∀ (s : List UInt8) (at_ : Nat) (rest : List UInt8),s.length ≤ 900000 → at_ ≤ s.length → s.drop at_ = a ++ rest → Stop rest →
 (out.length ≤ 512 → resM Γ 1 37 [.bx 0 0] [rdB s at_ false] = some ([stV a.isEmpty out],stH a.isEmpty s ((at_ + a.length : Nat) : Int) out)) ∧
 (512 < out.length → ∃ at2 : Nat,at2 ≤ s.length + a.length ∧ resM Γ 1 37 [.bx 0 0] [rdB s at_ false] = some ([.p (.sl .nil 1 [])],[rdB s at2 true]))
theorem choice_loop (f : List UInt8 → List (List UInt8)) {s : List UInt8} (hs : s.length ≤ 900000) {rest : List UInt8} {Q : Out → Prop} : ∀ (alts : List (List UInt8)),alts ≠ [] → (∀ a ∈ alts,RowRes a (f a)) →
  ∀ (at_ : Nat) (x : UInt8) (D : List (List UInt8)) (env : Env) (H : Heap),x ≠ 125 → s.drop at_ = x :: (joinC alts ++ 125 :: rest) → D.length ≤ 512 → rNorm env H (stV false D) (stH false s at_ D) →
  ((D ++ alts.flatMap f).length ≤ 512 → Q (.nrm,[(0,.bx 0 0),(3,stV false (D ++ alts.flatMap f))],stH false s ((at_ + 1 + (joinC alts).length : Nat) : Int) (D ++ alts.flatMap f))) →
  (512 < (D ++ alts.flatMap f).length → ∀ (at2 : Nat) (xs : List (List UInt8)),at2 ≤ s.length + (joinC alts).length → xs.length ≤ 2000 → Q (.nrm,[(0,.bx 0 0),(3,.own 1 xs.length)],[rdB s at2 true,.row false 1 (strs xs)])) →
  Wp Γ glob_reader_choice_l1 env H (InBlk [0,3] 0 Q) := by
 intro alts
 induction alts with
 | nil => exact fun h => absurd rfl h
 | cons a asX ih =>
  intro _ hR at_ x D env H hx hd hD hN hok hov
  obtain ⟨hlt,hx2,hd2⟩ := drop_head hd
  have nx : byt s at_ ≠ 125 := fun h => hx (hx2 ▸ (byt_eqG 125).1 h)
  obtain ⟨rest1,hr1,hst⟩ : ∃ rest1,joinC (a :: asX) ++ 125 :: rest = a ++ rest1 ∧ ((asX = [] ∧ rest1 = 125 :: rest ∧ joinC (a :: asX) = a) ∨ (asX ≠ [] ∧ rest1 = 44 :: (joinC asX ++ 125 :: rest) ∧ joinC (a :: asX) = a ++ 44 :: joinC asX)) := by
   by_cases h : asX = []
   ·subst h
    exact ⟨125 :: rest,rfl,.inl ⟨rfl,rfl,rfl⟩⟩
   ·rw [joinC_cons h]
    exact ⟨44 :: (joinC asX ++ 125 :: rest),by rw [List.append_assoc]; rfl,.inr ⟨h,rfl,rfl⟩⟩
  have hlen1 : at_ + 1 + a.length ≤ s.length := by
   have e := congrArg List.length hd2
   rw [hr1,List.length_drop,List.length_append] at e; omega
  have hstop : Stop rest1 := by
   rcases hst with ⟨_,h,_⟩ | ⟨_,h,_⟩
   ·exact .inr ⟨125,_,h,.inr rfl⟩
   ·exact .inr ⟨44,_,h,.inl rfl⟩
  rw [hr1] at hd2
  obtain ⟨R1,R2⟩ := hR a (by simp) s (at_ + 1) rest1 hs (by omega) hd2 hstop
  have hd3 : s.drop (at_ + 1 + a.length) = rest1 := by
   rw [← List.drop_drop,hd2,List.drop_left]
  have st1 : stillF Γ 1 37 = true := rfl
  have efm : (a :: asX).flatMap f = f a ++ asX.flatMap f := List.flatMap_cons
  rw [efm] at hok hov
  by_cases hfa : (f a).length ≤ 512
  ·have R := R1 hfa
   have ec1 : ((at_ + 1 : Nat) : Int) = (at_ : Int) + 1 := rfl
   rw [ec1] at R
   have next : ∀ env H,rNorm env H (stV false (D ++ f a)) (stH false s ((at_ + 1 + a.length : Nat) : Int) (D ++ f a)) → (D ++ f a).length ≤ 512 → Wp Γ glob_reader_choice_l1 env H (InBlk [0,3] 0 Q) := by
    intro env H hN2 hl2
    rcases hst with ⟨h1,h2,h3⟩ | ⟨h1,h2,h3⟩
    ·subst h1
     rw [h2] at hd3
     obtain ⟨k1,k2,_⟩ := drop_head hd3
     have e125 : byt s (at_ + 1 + a.length) = 125 := (byt_eqG 125).2 k2
     rw [List.flatMap_nil,List.append_nil,h3] at hok
     have hok := hok hl2
     unfold stV stH at *
     rw [W_loop (L := glob_reader_choice_l1) rfl]
     rw [hN2]
     simp (disch := first | assumption | omega | decide | (simp only [lens] <;> omega) | fail) only [go_sem,e125,ne_eq,not_true_eq_false]
     exact hok
    ·rw [h2] at hd3
     have ht : at_ + 1 + a.length + 1 + (joinC asX).length = at_ + 1 + (joinC (a :: asX)).length := by
      rw [h3,List.length_append,List.length_cons]; omega
     refine ih h1 (fun y hy => hR y (by simp [hy])) (at_ + 1 + a.length) 44 (D ++ f a) env H (by decide) hd3 hl2 hN2 (fun h => ?_) (fun h => ?_)
     ·rw [ht]
      rw [List.append_assoc] at h ⊢
      exact hok h
     ·rw [List.append_assoc] at h
      exact fun at2 xs ha => hov h at2 xs (by rw [h3,List.length_append,List.length_cons]; omega)
   by_cases hl2 : (D ++ f a).length ≤ 512
   ·have hl3 : D.length + (f a).length ≤ 512 := by rw [List.length_append] at hl2; exact hl2
    have nx2 := fun env H h => next env H h hl2
    have edec : decide (512 < ((D.length + (f a).length : Nat) : Int)) = false := decide_eq_false (by omega)
    unfold stV stH at hN R nx2
    cases hb : a.isEmpty
    ·rw [hb] at R
     rw [W_loop (L := glob_reader_choice_l1) rfl]
     rw [hN]
     simp (disch := first | assumption | omega | decide | (simp only [lens] <;> omega) | fail) only [go_sem,R,st1,edec]
     refine nx2 _ _ ?_
     simp (disch := first | assumption | omega | decide | (simp only [lens] <;> omega) | fail) only [go_sem,rNorm,List.length_append]
    ·rw [hb] at R
     rw [W_loop (L := glob_reader_choice_l1) rfl]
     rw [hN]
     simp (disch := first | assumption | omega | decide | (simp only [lens] <;> omega) | fail) only [go_sem,R,st1,edec]
     refine nx2 _ _ ?_
     simp (disch := first | assumption | omega | decide | (simp only [lens] <;> omega) | fail) only [go_sem,rNorm,List.length_append]
   ·have hl3 : ¬ D.length + (f a).length ≤ 512 := by rw [List.length_append] at hl2; exact hl2
    have hov := hov (by simp only [List.length_append] at hl2 ⊢; omega) (at_ + 1 + a.length) (D ++ f a) (by omega) (by rw [List.length_append]; omega)
    rw [List.length_append] at hov
    have edec : decide (512 < ((D.length + (f a).length : Nat) : Int)) = true := decide_eq_true (by omega)
    unfold stV stH at hN R
    cases hb : a.isEmpty
    ·rw [hb] at R
     rw [W_loop (L := glob_reader_choice_l1) rfl]
     rw [hN]
     simp (disch := first | assumption | omega | decide | (simp only [lens] <;> omega) | fail) only [go_sem,R,st1,edec]
     rw [W_loop (L := glob_reader_choice_l1) rfl]
     simp (disch := first | assumption | omega | decide | (simp only [lens] <;> omega) | fail) only [go_sem]
     repeat' (first | (simp (disch := first | assumption | omega | decide | (simp only [lens] <;> omega) | fail) only [go_sem]) | refine cond_split (fun hc => ?_) (fun hc => ?_) | refine gd_split_f (fun hc => ?_) (fun hc => ?_) | refine gd_split_t (fun hc => ?_) (fun hc => ?_))
     all_goals exact hov
    ·rw [hb] at R
     rw [W_loop (L := glob_reader_choice_l1) rfl]
     rw [hN]
     simp (disch := first | assumption | omega | decide | (simp only [lens] <;> omega) | fail) only [go_sem,R,st1,edec]
     rw [W_loop (L := glob_reader_choice_l1) rfl]
     simp (disch := first | assumption | omega | decide | (simp only [lens] <;> omega) | fail) only [go_sem]
     repeat' (first | (simp (disch := first | assumption | omega | decide | (simp only [lens] <;> omega) | fail) only [go_sem]) | refine cond_split (fun hc => ?_) (fun hc => ?_) | refine gd_split_f (fun hc => ?_) (fun hc => ?_) | refine gd_split_t (fun hc => ?_) (fun hc => ?_))
     all_goals exact hov
  ·obtain ⟨at2,hat2,R⟩ := R2 (by omega)
   have ec1 : ((at_ + 1 : Nat) : Int) = (at_ : Int) + 1 := rfl
   rw [ec1] at R
   have hja := joinC_len (alts := a :: asX) (a := a) (by simp)
   have hov := hov (by simp only [List.length_append]; omega) at2 D (by omega) (by omega)
   have hja2 : a.length ≤ s.length := by
    have e := congrArg List.length hd2
    rw [List.length_drop,List.length_append] at e; omega
   unfold stV stH at hN
   rw [W_loop (L := glob_reader_choice_l1) rfl]
   rw [hN]
   simp (disch := first | assumption | omega | decide | (simp only [lens] <;> omega) | fail) only [go_sem,R,st1]
   rw [W_loop (L := glob_reader_choice_l1) rfl]
   simp (disch := first | assumption | omega | decide | (simp only [lens] <;> omega) | fail) only [go_sem]
   repeat' (first | (simp (disch := first | assumption | omega | decide | (simp only [lens] <;> omega) | fail) only [go_sem]) | refine cond_split (fun hc => ?_) (fun hc => ?_) | refine gd_split_f (fun hc => ?_) (fun hc => ?_) | refine gd_split_t (fun hc => ?_) (fun hc => ?_))
   all_goals exact hov
theorem choice_res (f : List UInt8 → List (List UInt8)) {s : List UInt8} (hs : s.length ≤ 900000) {rest : List UInt8} {alts : List (List UInt8)} (ha : alts ≠ []) (hR : ∀ a ∈ alts,RowRes a (f a)) {at_ : Nat} (hd : s.drop at_ = 123 :: (joinC alts ++ 125 :: rest)) :
  ((alts.flatMap f).length ≤ 512 → resM Γ 1 50 [.bx 0 0] [rdB s at_ false] = some ([.own 1 (alts.flatMap f).length],[rdB s ((at_ + 1 + (joinC alts).length : Nat) + 1 : Int) false,.row false 1 (strs (alts.flatMap f))])) ∧
  (512 < (alts.flatMap f).length → ∃ (at2 : Nat) (xs : List (List UInt8)),at2 ≤ s.length + (joinC alts).length + 1 ∧ xs.length ≤ 2000 ∧ resM Γ 1 50 [.bx 0 0] [rdB s at_ false] = some ([.own 1 xs.length],[rdB s at2 true,.row false 1 (strs xs)])) := by
 have hlen : at_ + 1 + (joinC alts).length < s.length := by
  have e := congrArg List.length hd
  rw [List.length_drop,List.length_cons,List.length_append,List.length_cons] at e
  omega
 constructor
 ·intro h
  refine resM_code (fn := glob_reader_choice) rfl rfl ?_
  simp (disch := first | assumption | omega | decide | (simp only [lens] <;> omega) | fail) only [go_sem,glob_reader_choice]
  refine choice_loop f hs alts ha hR at_ 123 [] _ _ (by decide) hd (by simp) ?_ (fun _ => ?_) (fun h' => ?_)
  ·unfold stV stH
   simp (disch := first | assumption | omega | decide | (simp only [lens] <;> omega) | fail) only [go_sem,rNorm]
   rfl
  ·unfold stV stH
   rw [List.nil_append]
   simp (disch := first | assumption | omega | decide | (simp only [lens] <;> omega) | fail) only [go_sem]
  ·rw [List.nil_append] at h'; omega
 ·intro h
  by_cases hx : ∃ (at2 : Nat) (xs : List (List UInt8)),at2 ≤ s.length + (joinC alts).length + 1 ∧ xs.length ≤ 2000 ∧ resM Γ 1 50 [.bx 0 0] [rdB s at_ false] = some ([.own 1 xs.length],[rdB s at2 true,.row false 1 (strs xs)])
  ·exact hx
  ·exfalso
   have key := callK (Γ := Γ) (f := 50) (fn := glob_reader_choice) (args := [.bx 0 0]) (HL := [rdB s at_ false]) (K := fun vs h => ∃ (at2 : Nat) (xs : List (List UInt8)),at2 ≤ s.length + (joinC alts).length + 1 ∧ xs.length ≤ 2000 ∧ tidy 1 (vs,h) = some ([.own 1 xs.length],[rdB s at2 true,.row false 1 (strs xs)])) rfl rfl (by
    simp (disch := first | assumption | omega | decide | (simp only [lens] <;> omega) | fail) only [go_sem,glob_reader_choice]
    refine choice_loop f hs alts ha hR at_ 123 [] _ _ (by decide) hd (by simp) ?_ (fun h' => ?_) (fun _ at2 xs ha2 hxs => ?_)
    ·unfold stV stH
     simp (disch := first | assumption | omega | decide | (simp only [lens] <;> omega) | fail) only [go_sem,rNorm]
     rfl
    ·rw [List.nil_append] at h'; omega
    ·simp (disch := first | assumption | omega | decide | (simp only [lens] <;> omega) | fail) only [go_sem]
     refine ⟨at2 + 1,xs,by omega,hxs,?_⟩
     rfl)
   obtain ⟨n,vs,h2,h3,at2,xs,h4,h6,h5⟩ := key
   exact hx ⟨at2,xs,h4,h6,resM_of ⟨n,(vs,h2),h3,h5⟩⟩
end Ab
namespace Ab
open Go (IntKind BinOp UnOp)
def RowMain (u : List UInt8) (out : List (List UInt8)) : Prop := ∀ (s : List UInt8) (at_ : Nat) (rest : List UInt8) (l : List (List UInt8)) (b : Bool) (env : Env) (H : Heap) (Q : Out → Prop),s.length ≤ 900000 → at_ ≤ s.length → s.drop at_ = u ++ rest → Stop rest →
 rNorm env H (stV b l) (stH b s at_ l) → 0 < l.length → l.length ≤ 512 → (∀ x ∈ l,x.length ≤ at_) →
 (l.length * out.length ≤ 512 → Q (.ret,[(2,stV (b && u.isEmpty) (prodL l out))],stH (b && u.isEmpty) s ((at_ + u.length : Nat) : Int) (prodL l out)) ∧ Q (.nrm,[(3,stV (b && u.isEmpty) (prodL l out))],stH (b && u.isEmpty) s ((at_ + u.length : Nat) : Int) (prodL l out))) →
 (512 < l.length * out.length → ∀ at2 : Nat,at2 ≤ s.length + u.length → Q (.nrm,[(3,.p (.sl .nil 1 []))],[rdB s at2 true])) →
 Wp Γ glob_reader_row_l1 env H (InBlk [3] 0 Q)
theorem stop_special {r : List UInt8} (h : Stop r) : r = [] ∨ ∃ c t,r = c :: t ∧ special c = true := by
 rcases h with h | ⟨c,t,h,hc⟩
 ·exact .inl h
 ·refine .inr ⟨c,t,h,?_⟩
  rcases hc with rfl | rfl <;> rfl
theorem rowres_of {u : List UInt8} {out : List (List UInt8)} (h : RowMain u out) : RowRes u out := by
 intro s at_ rest hs ha hd hst
 have hN : rNorm [(0,.bx 0 0),(3,.p (.sl .tight 1 [.str []]))] [rdB s at_ false] (stV true [[]]) (stH true s at_ [[]]) := by
  unfold stV stH
  simp (disch := first | assumption | omega | decide | (simp only [lens] <;> omega) | fail) only [go_sem,rNorm]
  rfl
 have hN' : ∀ x y : AV,rNorm [(3,.p (.sl .tight 1 [.str []])),(6,x),(0,.bx 0 0),(2,y)] [rdB s at_ false] (stV true [[]]) (stH true s at_ [[]]) := fun x y => by
  unfold stV stH
  simp (disch := first | assumption | omega | decide | (simp only [lens] <;> omega) | fail) only [go_sem,rNorm]
  rfl
 have e1 : ∀ n,([[]] : List (List UInt8)).length * n = n := fun n => Nat.one_mul n
 constructor
 ·intro ho
  refine resM_code (fn := glob_reader_row) rfl rfl ?_
  simp (disch := first | assumption | omega | decide | (simp only [lens] <;> omega) | fail) only [go_sem,glob_reader_row]
  refine h s at_ rest [[]] true _ _ _ hs ha hd hst hN (by simp) (by simp) (by simp) (fun _ => ?_) (fun h' => ?_)
  ·rw [prodL_nil_left,Bool.true_and]
   cases u.isEmpty
   ·unfold stV stH
    constructor <;> simp (disch := first | assumption | omega | decide | (simp only [lens] <;> omega) | fail) only [go_sem]
   ·unfold stV stH
    constructor <;> simp (disch := first | assumption | omega | decide | (simp only [lens] <;> omega) | fail) only [go_sem]
  ·rw [e1] at h'; omega
 ·intro ho
  have key := callK (Γ := Γ) (f := 37) (fn := glob_reader_row) (args := [.bx 0 0]) (HL := [rdB s at_ false]) (K := fun vs h => ∃ at2 : Nat,at2 ≤ s.length + u.length ∧ tidy 1 (vs,h) = some ([.p (.sl .nil 1 [])],[rdB s at2 true])) rfl rfl (by
   simp (disch := first | assumption | omega | decide | (simp only [lens] <;> omega) | fail) only [go_sem,glob_reader_row]
   refine h s at_ rest [[]] true _ _ _ hs ha hd hst hN (by simp) (by simp) (by simp) (fun h' => ?_) (fun _ at2 h2 => ?_)
   ·rw [e1] at h'; omega
   ·simp (disch := first | assumption | omega | decide | (simp only [lens] <;> omega) | fail) only [go_sem]
    exact ⟨at2,h2,rfl⟩)
  obtain ⟨n,vs,h2,h3,at2,h4,h5⟩ := key
  exact ⟨at2,h4,resM_of ⟨n,(vs,h2),h3,h5⟩⟩
theorem prodL_pos {a b : List (List UInt8)} (ha : 0 < a.length) (hb : 0 < b.length) : 0 < (prodL a b).length := by rw [prodL_len]; exact Nat.mul_pos ha hb
theorem prodL_le {a b : List (List UInt8)} {n m : Nat} (ha : ∀ x ∈ a,x.length ≤ n) (hb : ∀ x ∈ b,x.length ≤ m) : ∀ x ∈ prodL a b,x.length ≤ n + m := by
 intro x hx
 obtain ⟨y,z,hy,hz,rfl⟩ := prodL_mem hx
 have := ha y hy
 have := hb z hz
 rw [List.length_append]; omega
theorem row_main {u : List UInt8} {out : List (List UInt8)} (h : Exp u out) : RowMain u out := by
 induction h with
 | run p hp =>
  intro s at_ rest l b env H Q hs ha hd hst hN l0 l512 hx fin ovr
  by_cases h0 : p = []
  ·subst h0
   rw [prodL_nil_right] at fin
   have fin := fin (by simpa using l512)
   rw [show (b && ([] : List UInt8).isEmpty) = b by simp] at fin
   exact row_end (by omega) ha hN (by rw [hd]; exact hst) fin
  ·have fin := fin (by simpa using l512)
   have hb : (b && p.isEmpty) = false := by
    cases p with
    | nil => exact absurd rfl h0
    | cons c p => simp
   rw [hb] at fin
   have hl : at_ + p.length ≤ s.length := by
    have e := congrArg List.length hd
    rw [List.length_drop,List.length_append] at e; omega
   refine row_lit hs hd hp h0 (stop_special hst) l512 hx hN fun env H hN2 => ?_
   exact row_end (by omega) hl hN2 (by rw [← List.drop_drop,hd,List.drop_left]; exact hst) fin
 | grp p alts f u l0 hp ha0 hf hu ih ihu =>
  intro s at_ rest l b env H Q hs ha hd hst hN lp l512 hx fin ovr
  have hR : ∀ a ∈ alts,RowRes a (f a) := fun a h => rowres_of (ih a h)
  have hu0 := exp_pos hu
  have hul := exp_le hu
  have hne : (b && (p ++ 123 :: (joinC alts ++ 125 :: u)).isEmpty) = false := by
   cases p <;> simp
  rw [hne] at fin
  have hdl := congrArg List.length hd
  rw [List.length_drop] at hdl
  simp only [List.length_append,List.length_cons] at hdl
  have hCl : ∀ y ∈ alts.flatMap f,y.length ≤ (joinC alts).length := fun y hy => by
   obtain ⟨a,h1,h2⟩ := List.mem_flatMap.1 hy
   have := exp_le (hf a h1) y h2
   have := joinC_len h1
   omega
  have hC0 : 0 < (alts.flatMap f).length := by
   cases alts with
   | nil => exact absurd rfl ha0
   | cons a asX =>
    rw [List.flatMap_cons,List.length_append]
    have := exp_pos (hf a (by simp))
    omega
  have eout : ∀ l : List (List UInt8),prodL l (prodL [p] (prodL (alts.flatMap f) l0)) = prodL (prodL (prodL l [p]) (alts.flatMap f)) l0 := fun l => by
   rw [prodL_assoc,prodL_assoc]
  rw [eout] at fin
  have olen : (prodL [p] (prodL (alts.flatMap f) l0)).length = (alts.flatMap f).length * l0.length := by
   rw [prodL_len,prodL_len]; simp
  rw [olen] at fin ovr
  have hul2 : (p ++ 123 :: (joinC alts ++ 125 :: u)).length = p.length + ((joinC alts).length + (u.length + 1) + 1) := by
   simp only [List.length_append,List.length_cons]
  rw [hul2] at fin ovr
  have G : ∀ (b1 : Bool) (env : Env) (H : Heap),(∀ x ∈ prodL l [p],x.length ≤ at_ + p.length) → rNorm env H (stV b1 (prodL l [p])) (stH b1 s ((at_ + p.length : Nat) : Int) (prodL l [p])) → Wp Γ glob_reader_row_l1 env H (InBlk [3] 0 Q) := by
   intro b1 env H hx1 hN1
   have pl := @prodL_one_len l p
   have hd1 : s.drop (at_ + p.length) = 123 :: (joinC alts ++ 125 :: (u ++ rest)) := by
    rw [← List.drop_drop,hd,List.append_assoc,List.drop_left]
    simp
   obtain ⟨C1,C2⟩ := choice_res f hs ha0 hR hd1
   by_cases hC : (alts.flatMap f).length ≤ 512
   ·refine row_grp hs hd1 (by omega) (fun x h => by have := hx1 x h; omega) hN1 (by omega) (C1 hC) (fun _ h2 => ⟨fun y hy => by have := hCl y hy; omega,fun env H hN2 => ?_⟩) (fun h => ?_)
    ·rw [pl] at h2
     have hat : at_ + p.length + 1 + (joinC alts).length + 1 ≤ s.length := by omega
     refine ihu s (at_ + p.length + 1 + (joinC alts).length + 1) rest (prodL (prodL l [p]) (alts.flatMap f)) false env H Q hs hat ?_ hst hN2 (prodL_pos (by omega) hC0) (by rw [prodL_len,pl]; exact h2) ?_ (fun h3 => ?_) (fun h3 at2 h4 => ?_)
     ·have e : at_ + p.length + 1 + (joinC alts).length + 1 = (at_ + p.length) + ((joinC alts).length + 2) := by omega
      rw [e,← List.drop_drop,hd1,show (joinC alts).length + 2 = (joinC alts).length + 1 + 1 from rfl,List.drop_succ_cons]
      rw [List.drop_append,List.drop_eq_nil_of_le (by omega),List.nil_append,Nat.add_sub_cancel_left]
      rfl
     ·intro x h
      have := prodL_le hx1 hCl x h
      omega
     ·rw [prodL_len,pl,Nat.mul_assoc] at h3
      have fin := fin h3
      have e : at_ + (p.length + ((joinC alts).length + (u.length + 1) + 1)) = at_ + p.length + 1 + (joinC alts).length + 1 + u.length := by omega
      rw [e] at fin
      exact fin
     ·rw [prodL_len,pl,Nat.mul_assoc] at h3
      exact ovr h3 at2 (by omega)
    ·rcases h with h | h
     ·cases h
     ·rw [pl] at h
      have h2 : l.length * (alts.flatMap f).length ≤ l.length * ((alts.flatMap f).length * l0.length) := Nat.mul_le_mul_left _ (Nat.le_mul_of_pos_right _ hu0)
      exact ovr (by omega) (at_ + p.length + 1 + (joinC alts).length + 1) (by omega)
   ·obtain ⟨at2,xs,k1,k2,k3⟩ := C2 (by omega)
    refine row_grp hs hd1 (by omega) (fun x h => by have := hx1 x h; omega) hN1 k2 k3 (fun h => by cases h) (fun _ => ?_)
    have h2 : (alts.flatMap f).length ≤ (alts.flatMap f).length * l0.length := Nat.le_mul_of_pos_right _ hu0
    have h3 : (alts.flatMap f).length * l0.length ≤ l.length * ((alts.flatMap f).length * l0.length) := Nat.le_mul_of_pos_left _ lp
    exact ovr (by omega) at2 (by omega)
  by_cases h0 : p = []
  ·subst h0
   have e : prodL l [[]] = l := prodL_nil_right l
   rw [e] at G
   exact G b env H hx hN
  ·refine row_lit hs (r := 123 :: (joinC alts ++ 125 :: (u ++ rest))) (by rw [hd,List.append_assoc]; simp) hp h0 (.inr ⟨123,_,rfl,rfl⟩) l512 hx hN fun env H hN2 => ?_
   exact G false env H (prodL_le hx fun x h => by rw [List.mem_singleton] at h; subst h; exact Nat.le_refl _) hN2
def okE (p : List UInt8) : Bool := decide (p ≠ []) && (splitB 46 p).all fun q => (toksF q).isSome
theorem Exp_l1_ok {k1 : SK} (v : AV) (a b : Int) (row : AV) (B : Heap) (l : List (List UInt8)) (hl : l.length ≤ 900000001) (hm : ∀ p ∈ l,p.length < 900000000) (Q : Out → Prop) : ∀ (n i : Nat),i + n = l.length →
  ((l.drop i).all (fun q => (toksF q).isSome) = false → Q (.ret,[(2,.p (.sl .nil 1 [])),(3,.p (.int .i64 8))],B)) →
  ((l.drop i).all (fun q => (toksF q).isSome) = true → Q (.nrm,[(5,v),(29,row),(30,.p (.int .i64 a)),(31,.p (.int .i64 b))],B)) →
  Wp Γ glob_Expand_l1 [(5,v),(29,row),(30,.p (.int .i64 a)),(31,.p (.int .i64 b)),(38,.p (.sl k1 1 (strs l))),(39,.p (.int .i64 (l.length : Int))),(40,.p (.int .i64 (i : Int)))] B (InBlk [5,29,30,31] 2 Q) := by
 intro n
 induction n with
 | zero =>
  intro i hi h1 h2
  obtain rfl : i = l.length := by omega
  rw [W_loop (L := glob_Expand_l1) rfl]
  simp (disch := first | assumption | omega | decide | (simp only [lens] <;> omega) | fail) only [go_sem]
  exact h2 (by rw [List.drop_length]; rfl)
 | succ n ih =>
  intro i hi h1 h2
  have hlt : i < l.length := by omega
  have hp := hm _ (getD_mem hlt)
  rw [drop_all [] hlt] at h1 h2
  cases ht : toksF (l.getD i []) with
  | none =>
   have e := res_pieces_no _ hp ht
   rw [ht] at h1
   rw [W_loop (L := glob_Expand_l1) rfl]
   simp (disch := first | assumption | omega | decide | (simp only [lens] <;> omega) | fail) only [go_sem,e]
   exact h1 rfl
  | some t =>
   have e := res_pieces _ hp ht
   rw [ht] at h1 h2
   rw [W_loop (L := glob_Expand_l1) rfl]
   simp (disch := first | assumption | omega | decide | (simp only [lens] <;> omega) | fail) only [go_sem,e]
   exact ih (i + 1) (by omega) h1 h2
theorem Exp_l2_ok (fr : Bool) (bx : Blk) (l : List (List UInt8)) (hl : l.length ≤ 512) (hm : ∀ p ∈ l,p.length < 900000000) (Q : Out → Prop) : ∀ (n i : Nat),i + n = l.length →
  ((l.drop i).all okE = false → Q (.ret,[(2,.p (.sl .nil 1 [])),(3,.p (.int .i64 8))],[bx,.row fr 1 (strs l)])) →
  ((l.drop i).all okE = true → Q (.nrm,[(5,.own 1 l.length)],[bx,.row fr 1 (strs l)])) →
  Wp Γ glob_Expand_l2 [(5,.own 1 l.length),(29,.own 1 l.length),(30,.p (.int .i64 (l.length : Int))),(31,.p (.int .i64 (i : Int)))] [bx,.row fr 1 (strs l)] (InBlk [5] 0 Q) := by
 intro n
 induction n with
 | zero =>
  intro i hi h1 h2
  obtain rfl : i = l.length := by omega
  rw [W_loop (L := glob_Expand_l2) rfl]
  simp (disch := first | assumption | omega | decide | (simp only [lens] <;> omega) | fail) only [go_sem]
  exact h2 (by rw [List.drop_length]; rfl)
 | succ n ih =>
  intro i hi h1 h2
  have hlt : i < l.length := by omega
  have hp := hm _ (getD_mem hlt)
  rw [drop_all [] hlt] at h1 h2
  unfold okE at h1 h2
  have hsl := splitB_len 46 (l.getD i [])
  have hsc := @count_le (l.getD i []) 46
  by_cases h0 : l.getD i [] = []
  ·rw [h0] at h1
   rw [W_loop (L := glob_Expand_l2) rfl]
   simp (disch := first | assumption | omega | decide | (simp only [lens] <;> omega) | fail) only [go_sem,h0]
   exact h1 rfl
  ·rw [decide_eq_true h0,Bool.true_and] at h1 h2
   rw [W_loop (L := glob_Expand_l2) rfl]
   simp (disch := first | assumption | omega | decide | (simp only [lens] <;> omega) | fail) only [go_sem]
   refine Exp_l1_ok (k1 := .any) _ _ _ _ _ (splitB 46 (l.getD i [])) (by omega) (fun p hp' => by have := splitB_mem_len hp'; omega) _ (splitB 46 (l.getD i [])).length 0 (by omega) (fun h => ?_) (fun h => ?_)
   ·rw [List.drop_zero] at h
    simp (disch := first | assumption | omega | decide | (simp only [lens] <;> omega) | fail) only [go_sem]
    exact h1 (by rw [h]; rfl)
   ·rw [List.drop_zero] at h
    rw [h,Bool.true_and] at h1 h2
    simp (disch := first | assumption | omega | decide | (simp only [lens] <;> omega) | fail) only [go_sem]
    exact ih (i + 1) (by omega) h1 h2
def expandR (_s : List UInt8) (out : List (List UInt8)) : List PV := if 512 < out.length then [.sl .nil 1 [],.int .i64 13] else if out.all okE = true then [.sl .any 1 (strs out),.int .i64 0] else [.sl .nil 1 [],.int .i64 8]
theorem res_globExpand_no (s : List UInt8) (hs : s.length < 900000000) (h : 4096 < s.length ∨ scan 0 s = false) : res Γ 16 [.str s] = some [.sl .nil 1 [],.int .i64 8] := by
 have e := res_balanced s hs
 refine res_code (fn := glob_Expand) rfl rfl ?_
 by_cases hl : 4096 < s.length
 ·simp (disch := first | assumption | omega | decide | (simp only [lens] <;> omega) | fail) only [go_sem,glob_Expand]
 ·have h := h.resolve_left hl
  rw [h] at e
  simp (disch := first | assumption | omega | decide | (simp only [lens] <;> omega) | fail) only [go_sem,glob_Expand,e]
theorem res_globExpand (s : List UInt8) (hs : s.length ≤ 4096) {out : List (List UInt8)} (h : Exp s out) : res Γ 16 [.str s] = some (expandR s out) := by
 have e := res_balanced s (by omega)
 rw [scan_of_exp h] at e
 obtain ⟨R1,R2⟩ := rowres_of (row_main h) s 0 [] (by omega) (by omega) (by rw [List.append_nil]; rfl) (.inl rfl)
 have st1 : stillF Γ 1 37 = true := rfl
 have hle := exp_le h
 unfold expandR
 by_cases ho : 512 < out.length
 ·obtain ⟨at2,_,R⟩ := R2 ho
  rw [if_pos ho]
  have R : resM Γ 1 37 [.bx 0 0] [rdB s 0 false] = some ([.p (.sl .nil 1 [])],[rdB s at2 true]) := R
  refine res_code (fn := glob_Expand) rfl rfl ?_
  simp (disch := first | assumption | omega | decide | (simp only [lens] <;> omega) | fail) only [go_sem,glob_Expand,e,R,st1]
 ·rw [if_neg ho]
  have R := R1 (by omega)
  have R : resM Γ 1 37 [.bx 0 0] [rdB s 0 false] = some ([stV s.isEmpty out],stH s.isEmpty s ((0 + s.length : Nat) : Int) out) := R
  generalize ((0 + s.length : Nat) : Int) = at2 at R
  cases hse : s.isEmpty
  ·rw [hse] at R
   unfold stV stH at R
   refine res_code (fn := glob_Expand) rfl rfl ?_
   simp (disch := first | assumption | omega | decide | (simp only [lens] <;> omega) | fail) only [go_sem,glob_Expand,e,R,st1]
   refine Exp_l2_ok false _ out (by omega) (fun p hp => by have := hle p hp; omega) _ out.length 0 (by omega) (fun h => ?_) (fun h => ?_)
   ·rw [List.drop_zero] at h
    rw [if_neg (by rw [h]; decide)]
    simp (disch := first | assumption | omega | decide | (simp only [lens] <;> omega) | fail) only [go_sem]
   ·rw [List.drop_zero] at h
    rw [if_pos h]
    simp (disch := first | assumption | omega | decide | (simp only [lens] <;> omega) | fail) only [go_sem]
  ·rw [hse] at R
   have : s = [] := by simpa using hse
   subst this
   have : out = [[]] := by
    generalize hz : ([] : List UInt8) = z at h
    cases h with
    | run p hp => rw [← hz]
    | grp p alts f u l hp ha hf hu => cases p <;> cases hz
   subst this
   unfold stV stH at R
   rw [if_neg (by decide)]
   refine res_code (fn := glob_Expand) rfl rfl ?_
   simp (disch := first | assumption | omega | decide | (simp only [lens] <;> omega) | fail) only [go_sem,glob_Expand,e,R,st1]
   rw [W_loop (L := glob_Expand_l2) rfl]
   simp (disch := first | assumption | omega | decide | (simp only [lens] <;> omega) | fail) only [go_sem,strs_single,iaddr_lit,PV.cells]
end Ab
