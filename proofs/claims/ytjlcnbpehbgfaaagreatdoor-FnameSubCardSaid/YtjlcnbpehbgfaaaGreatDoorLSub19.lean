import Derived.Test.YtjlcnbpehbgfaaaGreatDoorLSub14
import Derived.Test.YtjlcnbpehbgfaaaGreatDoorPRex2
namespace Ab
open Go (IntKind BinOp UnOp)
def compE (e : Int) : Pc → Nat → List Ins
 | .alt a r,b => (2,(b : Int) + 1,(b : Int) + 2 + lenP a,[]) :: (comp a (b + 1) ++ (3,e,0,[]) :: compE e r (b + 2 + lenP a))
 | p,b => comp p b
def jumpsOf : Pc → Nat → List Int
 | .alt a r,b => ((b : Int) + 1 + lenP a) :: jumpsOf r (b + 2 + lenP a)
 | _,_ => []
theorem compE_comp : ∀ (p : Pc) (b : Nat) (e : Int),e = (b : Int) + lenP p → compE e p b = comp p b
 | .inst _ _,_,_,_ => rfl
 | .nil,_,_,_ => rfl
 | .cons _ _,_,_,_ => rfl
 | .grp _ _,_,_,_ => rfl
 | .rep _ _ _,_,_,_ => rfl
 | .alt a r,b,e,h => by
  have := compE_comp r (b + 2 + lenP a) e (by simp only [lenP] at h; omega)
  simp only [compE,comp,this]
  have : e = (b : Int) + 2 + lenP a + lenP r := by simp only [lenP] at h; omega
  rw [this]
theorem compE_len : ∀ (p : Pc) (b : Nat) (e : Int),(compE e p b).length = lenP p
 | .inst _ _,_,_ => rfl
 | .nil,_,_ => rfl
 | .cons a r,b,e => comp_len (.cons a r) b
 | .grp g k,b,e => comp_len (.grp g k) b
 | .rep c lz k,b,e => comp_len (.rep c lz k) b
 | .alt a r,b,e => by
  have := compE_len r (b + 2 + lenP a) e
  simp only [compE,lenP,List.length_cons,List.length_append,comp_len,this]
  omega
theorem jumpsOf_len : ∀ (p : Pc) (b : Nat),(jumpsOf p b).length ≤ lenP p
 | .inst _ _,_ => Nat.zero_le _
 | .nil,_ => Nat.zero_le _
 | .cons a r,b => Nat.zero_le _
 | .grp g k,b => Nat.zero_le _
 | .rep c lz k,b => Nat.zero_le _
 | .alt a r,b => by
  have := jumpsOf_len r (b + 2 + lenP a)
  simp only [jumpsOf,lenP,List.length_cons]
  omega
theorem set_jump {pre post : List Ins} {i : Nat} (hi : pre.length = i) {e : Int} : (pre ++ (3,0,0,[]) :: post).set i (setX ((pre ++ (3,0,0,[]) :: post).getD i (0,0,0,[])) e) = pre ++ (3,e,0,[]) :: post := by
 subst hi
 have h : (pre ++ ((3,0,0,[]) : Ins) :: post).getD pre.length (0,0,0,[]) = (3,0,0,[]) := by simp [List.getD_eq_getElem?_getD]
 rw [h,List.set_append_right _ _ (Nat.le_refl _),Nat.sub_self,List.set_cons_zero]; rfl
set_option maxRecDepth 10000 in
theorem wr_ways_l1 (e : Nat) (js : List Int) (hjs : js.length ≤ 5000) (_he : e ≤ 5000) (Q : Out → Prop) : ∀ (p : Pc) (b i : Nat) (pre : List Ins),pre.length = b → b + lenP p = e → js.drop i = jumpsOf p b → i ≤ js.length →
  Q (.nrm,[],[wB e,.row false 4 (inR (pre ++ compE e p b)),.row false 1 (ints .i64 js)]) →
  Wp Γ rex_writer_ways_l1 [(0,.bx 0 0),(50,.own 2 js.length),(51,.p (.int .i64 js.length)),(52,.p (.int .i64 i))] [wB e,.row false 4 (inR (pre ++ compE 0 p b)),.row false 1 (ints .i64 js)] (InBlk [] 2 Q) := by
 intro p
 have fin : ∀ (b i : Nat) (L : List Ins),L.length = e → js.drop i = [] → i ≤ js.length → Q (.nrm,[],[wB e,.row false 4 (inR L),.row false 1 (ints .i64 js)]) →
   Wp Γ rex_writer_ways_l1 [(0,.bx 0 0),(50,.own 2 js.length),(51,.p (.int .i64 js.length)),(52,.p (.int .i64 i))] [wB e,.row false 4 (inR L),.row false 1 (ints .i64 js)] (InBlk [] 2 Q) := by
  intro b i L hL hd hi hQ
  have : i = js.length := by
   have := congrArg List.length hd
   rw [List.length_drop,List.length_nil] at this
   omega
  subst this
  rw [W_loop (L := rex_writer_ways_l1) rfl]
  simp (disch := first | assumption | omega | decide | (simp only [lens] <;> omega) | fail) only [go_sem]
  exact hQ
 induction p with
 | inst o q => intro b i pre hb he hd hi hQ; exact fin b i _ (by rw [List.length_append,compE_len]; omega) hd hi hQ
 | nil => intro b i pre hb he hd hi hQ; exact fin b i _ (by rw [List.length_append,compE_len]; omega) hd hi hQ
 | cons a r _ _ => intro b i pre hb he hd hi hQ; exact fin b i _ (by rw [List.length_append,compE_len]; omega) hd hi hQ
 | grp g k _ => intro b i pre hb he hd hi hQ; exact fin b i _ (by rw [List.length_append,compE_len]; omega) hd hi hQ
 | rep c lz k _ => intro b i pre hb he hd hi hQ; exact fin b i _ (by rw [List.length_append,compE_len]; omega) hd hi hQ
 | alt a r _ ihr =>
  intro b i pre hb heq hd hi hQ
  have hil : i < js.length := by
   have := congrArg List.length hd
   rw [List.length_drop] at this
   simp only [jumpsOf,List.length_cons] at this
   omega
  have hjd : js.getD i 0 = ((b + 1 + lenP a : Nat) : Int) := by
   have h := List.drop_eq_getElem_cons hil
   rw [hd] at h
   simp only [jumpsOf,List.cons.injEq] at h
   rw [List.getD_eq_getElem?_getD,List.getElem?_eq_getElem hil,Option.getD_some,← h.1]
   omega
  have hjd2 : js.drop (i + 1) = jumpsOf r (b + 2 + lenP a) := by
   have h := List.drop_eq_getElem_cons hil
   rw [hd] at h
   simp only [jumpsOf,List.cons.injEq] at h
   exact h.2.symm
  simp only [lenP] at heq
  have e1 : ∀ e' : Int,pre ++ compE e' (.alt a r) b = (pre ++ (2,(b : Int) + 1,(b : Int) + 2 + lenP a,[]) :: comp a (b + 1)) ++ (3,e',0,[]) :: compE e' r (b + 2 + lenP a) := by
   intro e'; simp [compE]
  have e2 : ∀ e' f : Int,(pre ++ (2,(b : Int) + 1,(b : Int) + 2 + lenP a,[]) :: comp a (b + 1)) ++ (3,e',0,[]) :: compE f r (b + 2 + lenP a) = ((pre ++ (2,(b : Int) + 1,(b : Int) + 2 + lenP a,[]) :: comp a (b + 1)) ++ [(3,e',0,[])]) ++ compE f r (b + 2 + lenP a) := by
   intro e' f; simp
  rw [e1] at hQ ⊢
  have hl : (pre ++ ((2,(b : Int) + 1,(b : Int) + 2 + lenP a,[]) : Ins) :: comp a (b + 1)).length = b + 1 + lenP a := by
   rw [List.length_append,List.length_cons,comp_len,hb]; omega
  have hs := @set_jump (pre ++ ((2,(b : Int) + 1,(b : Int) + 2 + lenP a,[]) : Ins) :: comp a (b + 1)) (compE 0 r (b + 2 + lenP a)) _ hl e
  have I := ihr (b + 2 + lenP a) (i + 1) ((pre ++ (2,(b : Int) + 1,(b : Int) + 2 + lenP a,[]) :: comp a (b + 1)) ++ [(3,(e : Int),0,[])]) (by rw [List.length_append,hl,List.length_singleton]; omega) (by omega) hjd2 (by omega) (by rw [← e2]; exact hQ)
  rw [← e2,← hs] at I
  have hL : ((pre ++ ((2,(b : Int) + 1,(b : Int) + 2 + lenP a,[]) : Ins) :: comp a (b + 1)) ++ (3,0,0,[]) :: compE 0 r (b + 2 + lenP a)).length = e := by
   rw [List.length_append,hl,List.length_cons,compE_len]; omega
  generalize (pre ++ ((2,(b : Int) + 1,(b : Int) + 2 + lenP a,[]) : Ins) :: comp a (b + 1)) ++ (3,0,0,[]) :: compE 0 r (b + 2 + lenP a) = L at *
  have hlt : b + 1 + lenP a < e := by omega
  have hd1 : decide (b + 1 + lenP a < e) = true := decide_eq_true hlt
  rw [W_loop (L := rex_writer_ways_l1) rfl]
  simp (disch := first | assumption | omega | decide | (simp only [lens] <;> omega) | fail) only [go_sem,hjd,hd1]
  exact I
end Ab
namespace Ab
def szP : Pc → Nat
 | .inst _ _ => 1
 | .nil => 1
 | .cons a r => szP a + szP r + 1
 | .alt a r => szP a + szP r + 1
 | .grp _ k => szP k + 1
 | .rep _ _ k => szP k + 1
theorem rd_sz {setf : Nat → Option (List Bool × Nat)} {s : List UInt8} (hset : ∀ i A j,i < s.length → setf i = some (A,j) → i < j ∧ j ≤ s.length) : ∀ (n : Nat) (m : Md) (d i g : Nat) (r : Pc × Nat × Nat),i ≤ s.length → (match m with | .piece => i < s.length | .atom => i < s.length | _ => True) → rd setf s n m d i g = .ok r →
  szP r.1 + 4 * i + (match m with | .ways => 0 | .row => 0 | _ => 2) ≤ 4 * r.2.1 + 1 := by
 intro n
 induction n with
 | zero => intro m d i g r _ _ h; cases h
 | succ n ih =>
  intro m d i g r hi hm h
  cases m with
  | ways =>
   simp only [rd] at h
   cases h1 : rd setf s n .row d i g with
   | error b => rw [h1] at h; cases h
   | ok q =>
    obtain ⟨p,j,g'⟩ := q
    rw [h1] at h
    dsimp only at h
    have a := rd_ok hset n .row d i g _ hi trivial h1
    have b := ih _ _ _ _ _ hi trivial h1
    have a1 := a.1
    have a2 := a.2.1
    dsimp only at a1 a2 b
    by_cases hj : at2 s j 124 = true
    ·rw [if_pos hj] at h
     have hj := at2_lt hj
     cases h2 : rd setf s n .ways d (j + 1) g' with
     | error b => rw [h2] at h; cases h
     | ok q2 =>
      obtain ⟨q,k,g2⟩ := q2
      rw [h2] at h
      have b2 := ih _ _ _ _ _ (by omega) trivial h2
      cases h
      dsimp only [szP] at b2 ⊢
      omega
    ·rw [if_neg hj] at h
     cases h
     exact b
  | row =>
   simp only [rd] at h
   by_cases hc : i < s.length ∧ bt s i ≠ 124 ∧ bt s i ≠ 41
   ·rw [if_pos hc] at h
    cases h1 : rd setf s n .piece d i g with
    | error b => rw [h1] at h; cases h
    | ok q =>
     obtain ⟨p,j,g'⟩ := q
     rw [h1] at h
     dsimp only at h
     have a := rd_ok hset n .piece d i g _ hi hc.1 h1
     have b := ih _ _ _ _ _ hi hc.1 h1
     have a2 := a.2.1
     dsimp only at a2 b
     cases h2 : rd setf s n .row d j g' with
     | error b => rw [h2] at h; cases h
     | ok q2 =>
      obtain ⟨q,k,g2⟩ := q2
      rw [h2] at h
      have b2 := ih _ _ _ _ _ a2 trivial h2
      cases h
      dsimp only [szP] at b2 ⊢
      omega
   ·rw [if_neg hc] at h
    cases h
    dsimp only [szP]; omega
  | piece =>
   simp only [rd] at h
   cases h1 : rd setf s n .atom d i g with
   | error b => rw [h1] at h; cases h
   | ok q =>
    obtain ⟨p,j,g'⟩ := q
    rw [h1] at h
    dsimp only at h
    have b := ih _ _ _ _ _ hi hm h1
    dsimp only at b
    by_cases hj : j < s.length ∧ (bt s j = 42 ∨ bt s j = 43 ∨ bt s j = 63)
    ·rw [if_pos hj] at h
     cases h
     dsimp only [szP]
     split <;> omega
    ·rw [if_neg hj] at h
     cases h
     exact b
  | atom =>
   simp only [rd] at h
   have hm : i < s.length := hm
   by_cases h4 : bt s i = 40
   ·rw [if_pos h4] at h
    have b := ih _ _ _ _ _ (by omega) trivial h
    dsimp only at b ⊢
    omega
   ·rw [if_neg h4] at h
    by_cases h9 : bt s i = 94
    ·rw [if_pos h9] at h
     cases h
     dsimp only [szP]; omega
    ·rw [if_neg h9] at h
     by_cases h3 : bt s i = 36
     ·rw [if_pos h3] at h
      cases h
      dsimp only [szP]; omega
     ·rw [if_neg h3] at h
      cases h1 : setf i with
      | none => rw [h1] at h; cases h
      | some q =>
       obtain ⟨A,j⟩ := q
       rw [h1] at h
       cases h
       have := hset i A j hm h1
       dsimp only [szP]; omega
  | group =>
   simp only [rd] at h
   by_cases hd : 64 ≤ d
   ·rw [if_pos hd] at h; cases h
   ·rw [if_neg hd] at h
    by_cases hq : at2 s i 63 = true ∧ at2 s (i + 1) 58 = true
    ·rw [if_pos hq] at h
     have q1 := at2_lt hq.2
     cases h1 : rd setf s n .ways (d + 1) (i + 2) g with
     | error b => rw [h1] at h; cases h
     | ok q =>
      obtain ⟨p,j,g'⟩ := q
      rw [h1] at h
      dsimp only at h
      have b := ih _ _ _ _ _ (by omega) trivial h1
      by_cases hj : at2 s j 41 = true
      ·rw [if_pos hj] at h
       cases h
       dsimp only [szP] at b ⊢; omega
      ·rw [if_neg hj] at h; cases h
    ·rw [if_neg hq] at h
     cases h1 : rd setf s n .ways (d + 1) i (g + 1) with
     | error b => rw [h1] at h; cases h
     | ok q =>
      obtain ⟨p,j,g'⟩ := q
      rw [h1] at h
      dsimp only at h
      have b := ih _ _ _ _ _ hi trivial h1
      by_cases hj : at2 s j 41 = true
      ·rw [if_pos hj] at h
       cases h
       dsimp only [szP] at b ⊢; omega
      ·rw [if_neg hj] at h; cases h
def gl (G : Nat) : Pc → Prop
 | .inst _ _ => True
 | .nil => True
 | .cons a r => gl G a ∧ gl G r
 | .alt a r => gl G a ∧ gl G r
 | .grp g k => g ≤ G ∧ gl G k
 | .rep _ _ k => gl G k
def mu : Pc → Nat
 | .inst _ _ => 1
 | .nil => 1
 | .cons a r => mu a + mu r + 1
 | .alt a r => mu a + mu r + 1
 | .grp g k => mu k + 1 + g
 | .rep _ _ k => mu k + 1
theorem sz_mu : ∀ (p : Pc),szP p ≤ mu p := by
 intro p
 induction p <;> simp only [szP,mu] <;> omega
theorem mu_le {G : Nat} : ∀ (p : Pc),gl G p → mu p ≤ szP p * (G + 1)
 | .inst _ _,_ => by simp only [szP,mu]; omega
 | .nil,_ => by simp only [szP,mu]; omega
 | .cons a r,h => by
  have h1 := mu_le a h.1
  have h2 := mu_le r h.2
  simp only [szP,mu,Nat.add_mul]; omega
 | .alt a r,h => by
  have h1 := mu_le a h.1
  have h2 := mu_le r h.2
  simp only [szP,mu,Nat.add_mul]; omega
 | .grp g k,h => by
  have h1 := mu_le k h.2
  have h2 : g ≤ G := h.1
  simp only [szP,mu,Nat.add_mul]; omega
 | .rep _ _ k,h => by
  have h1 := mu_le k h
  simp only [szP,mu,Nat.add_mul]; omega
theorem rd_gl {setf : Nat → Option (List Bool × Nat)} {s : List UInt8} (hset : ∀ i A j,i < s.length → setf i = some (A,j) → i < j ∧ j ≤ s.length) : ∀ (n : Nat) (m : Md) (d i g : Nat) (r : Pc × Nat × Nat),i ≤ s.length → (match m with | .piece => i < s.length | .atom => i < s.length | _ => True) → rd setf s n m d i g = .ok r →
  ∀ G,r.2.2 ≤ G → gl G r.1 := by
 intro n
 induction n with
 | zero => intro m d i g r _ _ h; cases h
 | succ n ih =>
  intro m d i g r hi hm h
  cases m with
  | ways =>
   simp only [rd] at h
   cases h1 : rd setf s n .row d i g with
   | error b => rw [h1] at h; cases h
   | ok q =>
    obtain ⟨p,j,g'⟩ := q
    rw [h1] at h
    dsimp only at h
    have a := rd_ok hset n .row d i g _ hi trivial h1
    have b := ih _ _ _ _ _ hi trivial h1
    have a1 := a.1
    have a2 := a.2.1
    dsimp only at a1 a2 b
    by_cases hj : at2 s j 124 = true
    ·rw [if_pos hj] at h
     have hj := at2_lt hj
     cases h2 : rd setf s n .ways d (j + 1) g' with
     | error b => rw [h2] at h; cases h
     | ok q2 =>
      obtain ⟨q,k,g2⟩ := q2
      rw [h2] at h
      have b2 := ih _ _ _ _ _ (by omega) trivial h2
      have c2 := (rd_ok hset n .ways d (j + 1) g' _ (by omega) trivial h2).2.2.1
      cases h
      dsimp only at b2 c2
      intro G hG
      dsimp only at hG
      exact ⟨b G (by omega),b2 G hG⟩
    ·rw [if_neg hj] at h
     cases h
     exact b
  | row =>
   simp only [rd] at h
   by_cases hc : i < s.length ∧ bt s i ≠ 124 ∧ bt s i ≠ 41
   ·rw [if_pos hc] at h
    cases h1 : rd setf s n .piece d i g with
    | error b => rw [h1] at h; cases h
    | ok q =>
     obtain ⟨p,j,g'⟩ := q
     rw [h1] at h
     dsimp only at h
     have a := rd_ok hset n .piece d i g _ hi hc.1 h1
     have b := ih _ _ _ _ _ hi hc.1 h1
     have a2 := a.2.1
     dsimp only at a2 b
     cases h2 : rd setf s n .row d j g' with
     | error b => rw [h2] at h; cases h
     | ok q2 =>
      obtain ⟨q,k,g2⟩ := q2
      rw [h2] at h
      have b2 := ih _ _ _ _ _ a2 trivial h2
      have c2 := (rd_ok hset n .row d j g' _ a2 trivial h2).2.2.1
      cases h
      dsimp only at b2 c2
      intro G hG
      dsimp only at hG
      exact ⟨b G (by omega),b2 G hG⟩
   ·rw [if_neg hc] at h
    cases h
    exact fun _ _ => trivial
  | piece =>
   simp only [rd] at h
   cases h1 : rd setf s n .atom d i g with
   | error b => rw [h1] at h; cases h
   | ok q =>
    obtain ⟨p,j,g'⟩ := q
    rw [h1] at h
    dsimp only at h
    have b := ih _ _ _ _ _ hi hm h1
    dsimp only at b
    by_cases hj : j < s.length ∧ (bt s j = 42 ∨ bt s j = 43 ∨ bt s j = 63)
    ·rw [if_pos hj] at h
     cases h
     exact b
    ·rw [if_neg hj] at h
     cases h
     exact b
  | atom =>
   simp only [rd] at h
   have hm : i < s.length := hm
   by_cases h4 : bt s i = 40
   ·rw [if_pos h4] at h
    have b := ih _ _ _ _ _ (by omega) trivial h
    exact b
   ·rw [if_neg h4] at h
    by_cases h9 : bt s i = 94
    ·rw [if_pos h9] at h
     cases h
     exact fun _ _ => trivial
    ·rw [if_neg h9] at h
     by_cases h3 : bt s i = 36
     ·rw [if_pos h3] at h
      cases h
      exact fun _ _ => trivial
     ·rw [if_neg h3] at h
      cases h1 : setf i with
      | none => rw [h1] at h; cases h
      | some q =>
       obtain ⟨A,j⟩ := q
       rw [h1] at h
       cases h
       exact fun _ _ => trivial
  | group =>
   simp only [rd] at h
   by_cases hd : 64 ≤ d
   ·rw [if_pos hd] at h; cases h
   ·rw [if_neg hd] at h
    by_cases hq : at2 s i 63 = true ∧ at2 s (i + 1) 58 = true
    ·rw [if_pos hq] at h
     have q1 := at2_lt hq.2
     cases h1 : rd setf s n .ways (d + 1) (i + 2) g with
     | error b => rw [h1] at h; cases h
     | ok q =>
      obtain ⟨p,j,g'⟩ := q
      rw [h1] at h
      dsimp only at h
      have b := ih _ _ _ _ _ (by omega) trivial h1
      by_cases hj : at2 s j 41 = true
      ·rw [if_pos hj] at h
       cases h
       exact fun G hG => ⟨Nat.zero_le _,b G hG⟩
      ·rw [if_neg hj] at h; cases h
    ·rw [if_neg hq] at h
     cases h1 : rd setf s n .ways (d + 1) i (g + 1) with
     | error b => rw [h1] at h; cases h
     | ok q =>
      obtain ⟨p,j,g'⟩ := q
      rw [h1] at h
      dsimp only at h
      have b := ih _ _ _ _ _ hi trivial h1
      by_cases hj : at2 s j 41 = true
      ·rw [if_pos hj] at h
       cases h
       have c2 := (rd_ok hset n .ways (d + 1) i (g + 1) _ hi trivial h1).2.2.1
       dsimp only at c2 b
       exact fun G hG => ⟨by dsimp only at hG; omega,b G hG⟩
      ·rw [if_neg hj] at h; cases h
end Ab
namespace Ab
open Go (IntKind BinOp UnOp)
def WrP (p : Pc) : Prop := ∀ (l : List Ins) (n : Nat),l.length = n → n + lenP p ≤ 1000 →
 resM Γ 2 334 [.bx 0 0,.p (trP p)] [wB n,.row false 4 (inR l)] = some ([],[wB (n + lenP p),.row false 4 (inR (l ++ comp p n))])
theorem single_kid {p : Pc} (_h : fine p) {L : List PV} {i : Nat} {x : PV} {r : List PV} (hd : L.drop i = x :: r) : L[i]? = some x ∧ L.drop (i + 1) = r ∧ i < L.length := by
 have hil : i < L.length := by
  have := congrArg List.length hd
  rw [List.length_drop,List.length_cons] at this
  omega
 have e := List.drop_eq_getElem_cons hil
 rw [hd] at e
 simp only [List.cons.injEq] at e
 exact ⟨by rw [List.getElem?_eq_getElem hil,e.1],e.2.symm,hil⟩
set_option maxRecDepth 10000 in
theorem wr_row_l1 (ks : List PV) (hks : ks.length ≤ 100000) (Q : Out → Prop) : ∀ (r : Pc),isRow r → fine r → (∀ a,fine a → lenP a ≤ lenP r → mu a < mu r → WrP a) → ∀ (i : Nat) (l : List Ins) (n : Nat),l.length = n → n + lenP r ≤ 1000 → ks.drop i = (tri r).2.1 → i ≤ ks.length →
  Q (.nrm,[],[wB (n + lenP r),.row false 4 (inR (l ++ comp r n))]) →
  Wp Γ rex_writer_piece_l1 [(0,.bx 0 0),(33,.p (ksV ks)),(34,.p (.int .i64 ks.length)),(35,.p (.int .i64 i))] [wB n,.row false 4 (inR l)] (InBlk [] 1 Q) := by
 intro r
 induction r with
 | inst o q => intro h; exact h.elim
 | alt a r _ _ => intro h; exact h.elim
 | grp g k _ => intro h; exact h.elim
 | rep c lz k _ => intro h; exact h.elim
 | nil =>
  intro _ _ _ i l n hl hn hd hi hQ
  have : i = ks.length := by
   have := congrArg List.length hd
   rw [List.length_drop] at this
   simp only [tri,List.length_nil] at this
   omega
  subst this
  simp only [comp,List.append_nil,lenP,Nat.add_zero] at hQ
  rw [W_loop (L := rex_writer_piece_l1) rfl]
  simp (disch := first | assumption | omega | decide | (simp only [lens] <;> omega) | fail) only [go_sem]
  exact hQ
 | cons a r _ ihr =>
  intro hr hf hA i l n hl hn hd hi hQ
  simp only [lenP] at hn
  obtain ⟨k1,k2,k3⟩ := single_kid hf hd
  obtain ⟨cs,hcs⟩ := tri_ptr a
  have hA1 := hA a hf.1 (by simp only [lenP]; omega) (by simp only [mu]; omega) l n hl (by omega)
  rw [show trP a = .ptr cs from hcs] at hA1
  rw [hcs] at k1
  have I := ihr hr hf.2.2.2.2.2 (fun a' h1 h2 h3 => hA a' h1 (by simp only [lenP]; omega) (by simp only [mu]; omega)) (i + 1) (l ++ comp a n) (n + lenP a) (by rw [List.length_append,comp_len,hl]) (by omega) k2 (by omega) (by
   simp only [lenP,comp] at hQ
   rw [List.append_assoc,Nat.add_assoc]; exact hQ)
  rw [W_loop (L := rex_writer_piece_l1) rfl]
  simp (disch := first | assumption | omega | decide | (simp only [lens] <;> omega) | fail) only [go_sem,k1,hA1,st334,Option.map_some]
  exact I
set_option maxRecDepth 10000 in
set_option maxHeartbeats 1000000 in
theorem wr_ways_l2 (ks : List PV) (hks : ks.length ≤ 100000) (Q : Out → Prop) : ∀ (r : Pc),isWays r → fine r → (∀ a,fine a → lenP a ≤ lenP r → (mu a < mu r ∨ a = r) → isRow a → WrP a) → ∀ (i : Nat) (l : List Ins) (n : Nat) (js : List Int),l.length = n → n + lenP r ≤ 1000 → ks.drop i = (tri r).2.2 → i ≤ ks.length → js.length ≤ n →
  Q (.nrm,[(0,.bx 0 0),(4,.own 2 (js ++ jumpsOf r n).length)],[wB (n + lenP r),.row false 4 (inR (l ++ compE 0 r n)),.row false 1 (ints .i64 (js ++ jumpsOf r n))]) →
  Wp Γ rex_writer_ways_l2 [(0,.bx 0 0),(1,.p (ksV ks)),(4,.own 2 js.length),(10,.p (ksV ks)),(11,.p (.int .i64 ks.length)),(12,.p (.int .i64 i))] [wB n,.row false 4 (inR l),.row false 1 (ints .i64 js)] (InBlk [0,4] 0 Q) := by
 intro r
 have last : ∀ r,isRow r → fine r → (∀ a,fine a → lenP a ≤ lenP r → (mu a < mu r ∨ a = r) → isRow a → WrP a) → ∀ (i : Nat) (l : List Ins) (n : Nat) (js : List Int),l.length = n → n + lenP r ≤ 1000 → ks.drop i = [trP r] → i ≤ ks.length → js.length ≤ n →
  Q (.nrm,[(0,.bx 0 0),(4,.own 2 js.length)],[wB (n + lenP r),.row false 4 (inR (l ++ comp r n)),.row false 1 (ints .i64 js)]) →
  Wp Γ rex_writer_ways_l2 [(0,.bx 0 0),(1,.p (ksV ks)),(4,.own 2 js.length),(10,.p (ksV ks)),(11,.p (.int .i64 ks.length)),(12,.p (.int .i64 i))] [wB n,.row false 4 (inR l),.row false 1 (ints .i64 js)] (InBlk [0,4] 0 Q) := by
  intro r hr hf hA i l n js hl hn hd hi hj hQ
  obtain ⟨k1,k2,k3⟩ := single_kid hf hd
  obtain ⟨cs,hcs⟩ := tri_ptr r
  have hA1 := hA r hf (Nat.le_refl _) (Or.inr rfl) hr l n hl hn
  rw [show trP r = .ptr cs from hcs] at hA1 k1
  have hi1 : i + 1 = ks.length := by
   have := congrArg List.length k2
   rw [List.length_drop,List.length_nil] at this
   omega
  have hi2 : (i : Int) = (ks.length : Int) - 1 := by omega
  rw [W_loop (L := rex_writer_ways_l2) rfl]
  simp (disch := first | assumption | omega | decide | (simp only [lens] <;> omega) | fail) only [go_sem,k1,hA1,st334,Option.map_some]
  exact hQ
 induction r with
 | inst o q => intro h; exact h.elim
 | grp g k _ => intro h; exact h.elim
 | rep c lz k _ => intro h; exact h.elim
 | nil => 
  intro h hf hA i l n js hl hn hd hi hj hQ
  refine last .nil h hf hA i l n js hl hn hd hi hj ?_
  simpa [jumpsOf,compE] using hQ
 | cons a r _ _ => 
  intro h hf hA i l n js hl hn hd hi hj hQ
  refine last (.cons a r) h hf hA i l n js hl hn hd hi hj ?_
  simpa [jumpsOf,compE] using hQ
 | alt a r _ ihr =>
  intro hr hf hA i l n js hl hn hd hi hj hQ
  simp only [lenP] at hn
  obtain ⟨k1,k2,k3⟩ := single_kid hf hd
  obtain ⟨cs,hcs⟩ := tri_ptr a
  have eL : resM Γ 2 333 [.bx 0 0,.p (.sl .tight 4 [.agg [.int .i64 2,.int .i64 0,.int .i64 0,.str []]])] [wB n,.row false 4 (inR l)] = _ := resM_lays1 l n 2 0 0 [] hl (by omega)
  have hA1 := hA a hf.1 (by simp only [lenP]; omega) (Or.inl (by simp only [mu]; omega)) hf.2.1 (l ++ [(2,0,0,[])]) (n + 1) (by rw [List.length_append,hl]; rfl) (by omega)
  rw [show trP a = .ptr cs from hcs] at hA1
  rw [hcs] at k1
  have hl2 : (l ++ [((2,0,0,[]) : Ins)] ++ comp a (n + 1)).length = n + 1 + lenP a := by rw [List.length_append,List.length_append,hl,comp_len]; rfl
  have eJ : resM Γ 2 333 [.bx 0 0,.p (.sl .tight 4 [.agg [.int .i64 3,.int .i64 0,.int .i64 0,.str []]])] [wB (n + 1 + lenP a),.row false 4 (inR (l ++ [((2,0,0,[]) : Ins)] ++ comp a (n + 1)))] = _ := resM_lays1 _ (n + 1 + lenP a) 3 0 0 [] hl2 (by omega)
  have e1 : l ++ [((2,0,0,[]) : Ins)] ++ comp a (n + 1) ++ [(3,0,0,[])] = l ++ (2,0,0,[]) :: (comp a (n + 1) ++ [(3,0,0,[])]) := by simp
  have e0 : l ++ [((2,0,0,[]) : Ins)] ++ comp a (n + 1) = l ++ (2,0,0,[]) :: comp a (n + 1) := by simp
  rw [e1,e0] at eJ
  have hl3 : (l ++ ((2,0,0,[]) : Ins) :: (comp a (n + 1) ++ [(3,0,0,[])])).length = n + 1 + lenP a + 1 := by rw [← e1,List.length_append,hl2]; rfl
  have eS : resM Γ 2 346 [.bx 0 0,.p (.int .i64 n),.p (.int .i64 ((n : Int) + 1)),.p (.int .i64 (n + 1 + lenP a + 1 : Nat)),.p (.bool false)] [wB (n + 1 + lenP a + 1),.row false 4 (inR (l ++ (2,0,0,[]) :: (comp a (n + 1) ++ [(3,0,0,[])])))] = _ := resM_splits l _ n _ hl hl3 _ _ false
  have hne : (i : Int) ≠ (ks.length : Int) - 1 := by
   have : (tri r).2.2 ≠ [] := by cases r <;> simp [tri]
   have h2 := congrArg List.length k2
   rw [List.length_drop] at h2
   have : (tri r).2.2.length ≠ 0 := by simpa using this
   have h3 : (tri (.alt a r)).2.2.tail = (tri r).2.2 := rfl
   omega
  have I := ihr hr.2 hf.2.2.1 (fun a' h1 h2 h3 h4 => hA a' h1 (by simp only [lenP]; omega) (Or.inl (by rcases h3 with h3 | rfl <;> simp only [mu] <;> omega)) h4) (i + 1) (l ++ spl false ((n : Int) + 1) ((n + 1 + lenP a + 1 : Nat) : Int) :: (comp a (n + 1) ++ [(3,0,0,[])])) (n + 1 + lenP a + 1) (js ++ [((n + 1 + lenP a : Nat) : Int)]) (by simp [comp_len,hl]; omega) (by omega) k2 (by omega) (by simp; omega) (by
   have ea : n + 1 + lenP a + 1 + lenP r = n + lenP (.alt a r) := by simp only [lenP]; omega
   have eb : n + 1 + lenP a + 1 = n + 2 + lenP a := by omega
   have ec : ((n + 1 + lenP a + 1 : Nat) : Int) = (n : Int) + 2 + lenP a := by omega
   have ed : ((n + 1 + lenP a : Nat) : Int) = (n : Int) + 1 + lenP a := by omega
   rw [ea,ec,ed,eb]
   have ee : (l ++ spl false ((n : Int) + 1) ((n : Int) + 2 + lenP a) :: (comp a (n + 1) ++ [(3,0,0,[])])) ++ compE 0 r (n + 2 + lenP a) = l ++ compE 0 (.alt a r) n := by simp [compE,spl]
   have ef : js ++ [(n : Int) + 1 + lenP a] ++ jumpsOf r (n + 2 + lenP a) = js ++ jumpsOf (.alt a r) n := by simp [jumpsOf]
   rw [ee,ef]
   exact hQ)
  rw [W_loop (L := rex_writer_ways_l2) rfl]
  simp (disch := first | assumption | omega | decide | (simp only [lens] <;> omega) | fail) only [go_sem,k1,eL,hA1,eJ,eS,st333,st334,st346,Option.map_some]
  simpa using I
end Ab
namespace Ab
open Go (IntKind BinOp UnOp)
set_option maxRecDepth 10000 in
set_option maxHeartbeats 1000000 in
theorem wr_ways (r : Pc) (hr : isWays r) (hf : fine r) (hne : (tri r).2.2.length ≤ 100000) (hA : ∀ a,fine a → lenP a ≤ lenP r → (mu a < mu r ∨ a = r) → isRow a → WrP a) (l : List Ins) (n : Nat) (hl : l.length = n) (hn : n + lenP r ≤ 1000) :
  resM Γ 2 345 [.bx 0 0,.p (ksV (tri r).2.2)] [wB n,.row false 4 (inR l)] = some ([],[wB (n + lenP r),.row false 4 (inR (l ++ comp r n))]) := by
 have L2 := fun Q => wr_ways_l2 (tri r).2.2 hne Q r hr hf hA 0 l n [] hl hn rfl (Nat.zero_le _) (Nat.zero_le _)
 have hj := jumpsOf_len r n
 have L1 := fun Q => wr_ways_l1 (n + lenP r) (jumpsOf r n) (by omega) (by omega) Q r n 0 l hl rfl rfl (Nat.zero_le _)
 refine resM_code (fn := rex_writer_ways) rfl rfl ?_
 simp (disch := first | assumption | omega | decide | (simp only [lens] <;> omega) | fail) only [go_sem,rex_writer_ways]
 refine L2 _ ?_
 simp (disch := first | assumption | omega | decide | (simp only [lens] <;> omega) | fail) only [go_sem,List.nil_append]
 refine L1 _ ?_
 rw [compE_comp r n _ (by omega)]
 simp (disch := first | assumption | omega | decide | (simp only [lens] <;> omega) | fail) only [go_sem]
theorem tri_kids_len : ∀ (p : Pc),(tri p).2.1.length ≤ szP p ∧ (tri p).2.2.length ≤ szP p := by
 intro p
 induction p with
 | inst o q => simp [tri,szP]
 | nil => simp [tri,szP]
 | cons a r iha ihr => simp only [tri,List.length_cons,List.length_nil,szP]; omega
 | alt a r iha ihr => simp only [tri,List.length_cons,List.length_nil,szP]; omega
 | grp g k ih => simp only [tri,List.length_cons,List.length_nil,szP]; omega
 | rep c lz k ih => simp only [tri,List.length_cons,List.length_nil,szP]; omega
theorem tight_kid {x : PV} : ([x] : List PV)[0]? = some x := rfl
set_option maxRecDepth 10000 in
set_option maxHeartbeats 4000000 in
theorem wr_step (p : Pc) (hs : szP p ≤ 100000) (hf : fine p) (hg : ∀ g k,p = .grp g k → g ≤ 100000) (hA : ∀ a,fine a → lenP a ≤ lenP p → mu a < mu p → WrP a) : WrP p := by
 intro l n hl hn
 obtain ⟨t1,t2⟩ := tri_kids_len p
 have eF := res_full l (by omega)
 rw [decide_eq_false (by omega)] at eF
 cases p with
 | inst o q =>
  have ho : o = 1 ∨ o = 5 ∨ o = 6 := hf
  have eL := resM_lays1 l n (o : Int) 0 0 q hl (by simp only [lenP] at hn; omega)
  show resM Γ 2 334 [.bx 0 0,.p (nodeV o q nilK 0 false)] [wB n,.row false 4 (inR l)] = some ([],[wB (n + 1),.row false 4 (inR (l ++ [((o : Int),0,0,q)]))])
  rcases ho with rfl | rfl | rfl
  all_goals
   refine resM_code (fn := rex_writer_piece) rfl rfl ?_
   simp (disch := first | assumption | omega | decide | (simp only [lens] <;> omega) | fail) only [go_sem,rex_writer_piece,eF,eL,st333]
 | nil =>
  show resM Γ 2 334 [.bx 0 0,.p (nodeV 10 [] nilK 0 false)] [wB n,.row false 4 (inR l)] = some ([],[wB n,.row false 4 (inR (l ++ []))])
  refine resM_code (fn := rex_writer_piece) rfl rfl ?_
  simp (disch := first | assumption | omega | decide | (simp only [lens] <;> omega) | fail) only [go_sem,rex_writer_piece,eF]
  rw [W_loop (L := rex_writer_piece_l1) rfl]
  simp (disch := first | assumption | omega | decide | (simp only [lens] <;> omega) | fail) only [go_sem]
 | cons a r =>
  have L := fun Q => wr_row_l1 (tri (.cons a r)).2.1 (by omega) Q (.cons a r) hf.2.2.2.2.1 hf (fun a' h1 h2 h3 => hA a' h1 h2 h3) 0 l n hl hn rfl (Nat.zero_le _)
  show resM Γ 2 334 [.bx 0 0,.p (nodeV 10 [] (ksV (tri (.cons a r)).2.1) 0 false)] [wB n,.row false 4 (inR l)] = _
  refine resM_code (fn := rex_writer_piece) rfl rfl ?_
  simp (disch := first | assumption | omega | decide | (simp only [lens] <;> omega) | fail) only [go_sem,rex_writer_piece,eF]
  refine L _ ?_
  simp (disch := first | assumption | omega | decide | (simp only [lens] <;> omega) | fail) only [go_sem]
 | alt a r =>
  have eW := wr_ways (.alt a r) ⟨hf.2.1,hf.2.2.2⟩ hf (by omega) (fun a' h1 h2 h3 h4 => by
   rcases h3 with h3 | rfl
   ·exact hA a' h1 h2 h3
   ·exact h4.elim) l n hl hn
  show resM Γ 2 334 [.bx 0 0,.p (nodeV 11 [] (ksV (tri (.alt a r)).2.2) 0 false)] [wB n,.row false 4 (inR l)] = _
  refine resM_code (fn := rex_writer_piece) rfl rfl ?_
  simp (disch := first | assumption | omega | decide | (simp only [lens] <;> omega) | fail) only [go_sem,rex_writer_piece,eF,eW,st345]
 | grp g k =>
  have hg := hg g k rfl
  obtain ⟨cs,hcs⟩ := tri_ptr k
  have hK := hA k hf.1 (by simp only [lenP]; split <;> omega) (by simp only [mu]; omega)
  simp only [lenP,comp] at hn ⊢
  by_cases h0 : g = 0
  ·subst h0
   rw [if_pos rfl] at hn ⊢
   rw [if_pos rfl]
   have hK := hK l n hl hn
   rw [show trP k = .ptr cs from hcs] at hK
   show resM Γ 2 334 [.bx 0 0,.p (nodeV 12 [] (.sl .tight 1 [(tri k).1]) 0 false)] [wB n,.row false 4 (inR l)] = _
   rw [hcs]
   refine resM_code (fn := rex_writer_piece) rfl rfl ?_
   simp (disch := first | assumption | omega | decide | (simp only [lens] <;> omega) | fail) only [go_sem,rex_writer_piece,eF,hK,st334,tight_kid,Option.map_some]
  ·rw [if_neg h0] at hn ⊢
   rw [if_neg h0]
   have e1 : resM Γ 2 333 [.bx 0 0,.p (.sl .tight 4 [.agg [.int .i64 4,.int .i64 (2 * (g : Int)),.int .i64 0,.str []]])] [wB n,.row false 4 (inR l)] = _ := resM_lays1 l n 4 (2 * (g : Int)) 0 [] hl (by omega)
   have hK := hK (l ++ [(4,2 * (g : Int),0,[])]) (n + 1) (by rw [List.length_append,hl]; rfl) (by omega)
   rw [show trP k = .ptr cs from hcs] at hK
   have e0 : l ++ [((4,2 * (g : Int),0,[]) : Ins)] ++ comp k (n + 1) = l ++ (4,2 * (g : Int),0,[]) :: comp k (n + 1) := by simp
   rw [e0] at hK
   have e2 : resM Γ 2 333 [.bx 0 0,.p (.sl .tight 4 [.agg [.int .i64 4,.int .i64 (2 * (g : Int) + 1),.int .i64 0,.str []]])] [wB (n + 1 + lenP k),.row false 4 (inR (l ++ (4,2 * (g : Int),0,[]) :: comp k (n + 1)))] = _ := resM_lays1 _ (n + 1 + lenP k) 4 (2 * (g : Int) + 1) 0 [] (by simp [comp_len,hl]; omega) (by omega)
   show resM Γ 2 334 [.bx 0 0,.p (nodeV 12 [] (.sl .tight 1 [(tri k).1]) (g : Int) false)] [wB n,.row false 4 (inR l)] = _
   rw [hcs]
   refine resM_code (fn := rex_writer_piece) rfl rfl ?_
   simp (disch := first | assumption | omega | decide | (simp only [lens] <;> omega) | fail) only [go_sem,rex_writer_piece,eF,e1,hK,e2,st333,st334,tight_kid,Option.map_some]
   rw [show n + 1 + lenP k + 1 = n + (lenP k + 2) by omega]
 | rep c lz k =>
  obtain ⟨cs,hcs⟩ := tri_ptr k
  have hc : c = 42 ∨ c = 43 ∨ c = 63 := hf.1
  have hK := hA k hf.2.1 (by simp only [lenP]; split <;> omega) (by simp only [mu]; omega)
  show resM Γ 2 334 [.bx 0 0,.p (nodeV c [] (.sl .tight 1 [(tri k).1]) 0 lz)] [wB n,.row false 4 (inR l)] = _
  rw [hcs]
  simp only [lenP,comp] at hn ⊢
  have eL : resM Γ 2 333 [.bx 0 0,.p (.sl .tight 4 [.agg [.int .i64 2,.int .i64 0,.int .i64 0,.str []]])] [wB n,.row false 4 (inR l)] = _ := resM_lays1 l n 2 0 0 [] hl (by omega)
  have e0 : l ++ [((2,0,0,[]) : Ins)] ++ comp k (n + 1) = l ++ (2,0,0,[]) :: comp k (n + 1) := by simp
  have hl2 : (l ++ ((2,0,0,[]) : Ins) :: comp k (n + 1)).length = n + 1 + lenP k := by simp [comp_len,hl]; omega
  by_cases h42 : c = 42
  ·subst h42
   rw [if_pos rfl] at hn ⊢
   rw [if_pos rfl]
   have hK := hK (l ++ [(2,0,0,[])]) (n + 1) (by rw [List.length_append,hl]; rfl) (by omega)
   rw [show trP k = .ptr cs from hcs,e0] at hK
   have eJ : resM Γ 2 333 [.bx 0 0,.p (.sl .tight 4 [.agg [.int .i64 3,.int .i64 n,.int .i64 0,.str []]])] [wB (n + 1 + lenP k),.row false 4 (inR (l ++ (2,0,0,[]) :: comp k (n + 1)))] = _ := resM_lays1 _ (n + 1 + lenP k) 3 n 0 [] hl2 (by omega)
   have e3 : l ++ ((2,0,0,[]) : Ins) :: comp k (n + 1) ++ [(3,(n : Int),0,[])] = l ++ (2,0,0,[]) :: (comp k (n + 1) ++ [(3,(n : Int),0,[])]) := by simp
   rw [e3] at eJ
   have hl3 : (l ++ ((2,0,0,[]) : Ins) :: (comp k (n + 1) ++ [(3,(n : Int),0,[])])).length = n + 1 + lenP k + 1 := by rw [← e3,List.length_append,hl2]; rfl
   have eS : resM Γ 2 346 [.bx 0 0,.p (.int .i64 n),.p (.int .i64 ((n : Int) + 1)),.p (.int .i64 (n + 1 + lenP k + 1 : Nat)),.p (.bool lz)] [wB (n + 1 + lenP k + 1),.row false 4 (inR (l ++ (2,0,0,[]) :: (comp k (n + 1) ++ [(3,(n : Int),0,[])])))] = _ := resM_splits l _ n _ hl hl3 _ _ lz
   refine resM_code (fn := rex_writer_piece) rfl rfl ?_
   simp (disch := first | assumption | omega | decide | (simp only [lens] <;> omega) | fail) only [go_sem,rex_writer_piece,eF,eL,hK,eJ,eS,st333,st334,st346,tight_kid,Option.map_some]
   rw [show n + 1 + lenP k + 1 = n + (lenP k + 2) by omega,show ((n + (lenP k + 2) : Nat) : Int) = (n : Int) + 2 + lenP k by omega]
  ·rw [if_neg h42] at hn ⊢
   rw [if_neg h42]
   by_cases h43 : c = 43
   ·subst h43
    rw [if_pos rfl]
    have hK := hK l n hl (by omega)
    rw [show trP k = .ptr cs from hcs] at hK
    have hl4 : (l ++ comp k n).length = n + lenP k := by rw [List.length_append,comp_len,hl]
    have eL : resM Γ 2 333 [.bx 0 0,.p (.sl .tight 4 [.agg [.int .i64 2,.int .i64 0,.int .i64 0,.str []]])] [wB (n + lenP k),.row false 4 (inR (l ++ comp k n))] = _ := resM_lays1 (l ++ comp k n) (n + lenP k) 2 0 0 [] hl4 (by omega)
    have hl5 : (l ++ comp k n ++ [((2,0,0,[]) : Ins)]).length = n + lenP k + 1 := by rw [List.length_append,hl4]; rfl
    have eS : resM Γ 2 346 [.bx 0 0,.p (.int .i64 (n + lenP k : Nat)),.p (.int .i64 (n : Int)),.p (.int .i64 ((n + lenP k : Nat) + 1 : Int)),.p (.bool lz)] [wB (n + lenP k + 1),.row false 4 (inR (l ++ comp k n ++ [(2,0,0,[])]))] = some ([],[wB (n + lenP k + 1),.row false 4 (inR (l ++ comp k n ++ [spl lz n (n + lenP k + 1)]))]) := resM_splits (l ++ comp k n) [] (n + lenP k) _ hl4 hl5 _ _ lz
    rw [List.append_assoc,List.append_assoc] at eS
    refine resM_code (fn := rex_writer_piece) rfl rfl ?_
    simp (disch := first | assumption | omega | decide | (simp only [lens] <;> omega) | fail) only [go_sem,rex_writer_piece,eF,eL,hK,eS,st333,st334,st346,tight_kid,Option.map_some]
    rfl
   ·rw [if_neg h43]
    have h63 : c = 63 := by omega
    subst h63
    have hK := hK (l ++ [(2,0,0,[])]) (n + 1) (by rw [List.length_append,hl]; rfl) (by omega)
    rw [show trP k = .ptr cs from hcs,e0] at hK
    have eS : resM Γ 2 346 [.bx 0 0,.p (.int .i64 n),.p (.int .i64 ((n : Int) + 1)),.p (.int .i64 (n + 1 + lenP k : Nat)),.p (.bool lz)] [wB (n + 1 + lenP k),.row false 4 (inR (l ++ (2,0,0,[]) :: comp k (n + 1)))] = _ := resM_splits l _ n _ hl hl2 _ _ lz
    refine resM_code (fn := rex_writer_piece) rfl rfl ?_
    simp (disch := first | assumption | omega | decide | (simp only [lens] <;> omega) | fail) only [go_sem,rex_writer_piece,eF,eL,hK,eS,st333,st334,st346,tight_kid,Option.map_some]
    rw [show n + 1 + lenP k = n + (lenP k + 1) by omega,show ((n + (lenP k + 1) : Nat) : Int) = (n : Int) + 1 + lenP k by omega]
theorem wr_all : ∀ (N : Nat) (p : Pc),mu p ≤ N → N ≤ 100000 → fine p → WrP p := by
 intro N
 induction N with
 | zero => intro p h; cases p <;> simp only [mu] at h <;> omega
 | succ N ih =>
  intro p h hN hf
  have := sz_mu p
  refine wr_step p (by omega) hf (fun g k e => by subst e; simp only [mu] at h; omega) (fun a h1 h2 h3 => ih a (by omega) (by omega) h1)
end Ab
namespace Ab
open Go (IntKind BinOp UnOp)
def parseS (s : List UInt8) : PR := rd (setS s) s (need s.length .ways) .ways 0 0 0
def progS (s : List UInt8) : Int ⊕ (Nat × List Ins) :=
 match parseS s with
 | .error true => .inl 12
 | .error false => .inl 8
 | .ok (p,j,g) => if j < s.length then .inl 8 else .inr (g,(4,0,0,[]) :: (comp p 1 ++ [(4,1,0,[]),(7,0,0,[])]))
abbrev noProg : PV := .agg [.int .i64 0,.sl .nil 4 []]
abbrev prog (g : Nat) (l : List Ins) : PV := .agg [.int .i64 g,.sl .any 4 (inR l)]
theorem resM_lays0 (o x y : Int) (p : List UInt8) : resM Γ 1 333 [.bx 0 0,.p (.sl .tight 4 [.agg [.int .i64 o,.int .i64 x,.int .i64 y,.str p]])] [.box [.p (.sl .nil 4 [])]] = some ([.p (.int .i64 0)],[wB 1,.row false 4 (inR [(o,x,y,p)])]) := by
 refine resM_code (fn := rex_writer_lays) rfl rfl ?_
 simp (disch := first | assumption | omega | decide | (simp only [lens] <;> omega) | fail) only [go_sem,rex_writer_lays]
 rfl
theorem st333b : stillF Γ 1 333 = true := by kernel_rfl
theorem mu_small {s : List UInt8} (hs : s.length ≤ 100) {p : Pc} {j g : Nat} (h : parseS s = .ok (p,j,g)) : fine p ∧ isWays p ∧ j ≤ s.length ∧ g ≤ j ∧ lenP p ≤ 2 * j ∧ mu p ≤ 100000 := by
 obtain ⟨a1,a2,a3,a4,a5,a6,a7⟩ := rd_ok (@setS_lt s) _ .ways 0 0 0 _ (Nat.zero_le _) trivial h
 have h1 := rd_sz (@setS_lt s) _ .ways 0 0 0 _ (Nat.zero_le _) trivial h
 have h2 := rd_gl (@setS_lt s) _ .ways 0 0 0 _ (Nat.zero_le _) trivial h 100 (by dsimp only at a2 a4 ⊢; omega)
 have h3 := mu_le p h2
 dsimp only at a1 a2 a3 a4 a5 a6 a7 h1
 exact ⟨a6,a7,a2,by omega,by omega,by omega⟩
set_option maxRecDepth 10000 in
set_option maxHeartbeats 1000000 in
theorem res_rexCompile (s : List UInt8) (hs : s.length ≤ 100) : res Γ 323 [.str s] = some (match progS s with | .inl e => [noProg,.int .i64 e] | .inr (g,l) => [prog g l,.int .i64 0]) := by
 have eR := rx_all s (by omega) (need s.length .ways) .ways 0 0 0 (Nat.zero_le _) trivial (by omega) (Nat.le_refl _) (Nat.le_refl _)
 have eP : rd (setS s) s (need s.length .ways) .ways 0 0 0 = parseS s := rfl
 rw [eP] at eR
 unfold progS
 cases hp : parseS s with
 | error b =>
  rw [hp] at eR
  obtain ⟨v,j,g',d',eR⟩ := eR
  have eR : resM Γ 1 335 [.bx 0 0] [.box [.p (.str s),.p (.int .i64 0),.p (.int .i64 0),.p (.int .i64 0),.p (.bool false),.p (.bool false)]] = some ([.p (.ptr v)],[rdB s j g' d' true b]) := eR
  cases b
  ·refine res_code (fn := rex_Compile) rfl rfl ?_
   simp (disch := first | assumption | omega | decide | (simp only [lens] <;> omega) | fail) only [go_sem,rex_Compile,eR,st335]
  ·refine res_code (fn := rex_Compile) rfl rfl ?_
   simp (disch := first | assumption | omega | decide | (simp only [lens] <;> omega) | fail) only [go_sem,rex_Compile,eR,st335]
 | ok r =>
  obtain ⟨p,j,g⟩ := r
  rw [hp] at eR
  obtain ⟨cs,hcs⟩ := tri_ptr p
  obtain ⟨hf,hw,hj,hg,hl,hm⟩ := mu_small hs hp
  have eR : resM Γ 1 335 [.bx 0 0] [.box [.p (.str s),.p (.int .i64 0),.p (.int .i64 0),.p (.int .i64 0),.p (.bool false),.p (.bool false)]] = some ([.p (trP p)],[rdB s j g 0 false false]) := eR
  rw [show trP p = .ptr cs from hcs] at eR
  dsimp only
  by_cases hjs : j < s.length
  ·rw [if_pos hjs]
   refine res_code (fn := rex_Compile) rfl rfl ?_
   simp (disch := first | assumption | omega | decide | (simp only [lens] <;> omega) | fail) only [go_sem,rex_Compile,eR,st335]
  ·rw [if_neg hjs]
   have e0 := resM_lays0 4 0 0 []
   have eW := wr_all 100000 p hm (Nat.le_refl _) hf [(4,0,0,[])] 1 rfl (by omega)
   rw [show trP p = .ptr cs from hcs] at eW
   have e2 : resM Γ 2 333 [.bx 0 0,.p (.sl .tight 4 [.agg [.int .i64 4,.int .i64 1,.int .i64 0,.str []],.agg [.int .i64 7,.int .i64 0,.int .i64 0,.str []]])] [wB (1 + lenP p),.row false 4 (inR ([(4,0,0,[])] ++ comp p 1))] = _ := resM_lays ([(4,0,0,[])] ++ comp p 1) [(4,1,0,[]),(7,0,0,[])] (1 + lenP p) (by rw [List.length_append,comp_len]; rfl) (by show 1 + lenP p + 2 ≤ _; omega)
   have hlen : ([((4,0,0,[]) : Ins)] ++ comp p 1 ++ [(4,1,0,[]),(7,0,0,[])]).length = 1 + lenP p + 2 := by simp [comp_len]; omega
   have eF := res_full ([(4,0,0,[])] ++ comp p 1 ++ [(4,1,0,[]),(7,0,0,[])]) (by omega)
   rw [decide_eq_false (by omega)] at eF
   have e3 : [((4,0,0,[]) : Ins)] ++ comp p 1 ++ [(4,1,0,[]),(7,0,0,[])] = (4,0,0,[]) :: (comp p 1 ++ [(4,1,0,[]),(7,0,0,[])]) := by simp
   have e4 : [((4,0,0,[]) : Ins)] ++ comp p 1 = (4,0,0,[]) :: comp p 1 := rfl
   rw [e3] at eF e2 hlen
   rw [e4] at eW e2
   have hlen2 : (inR ((4,0,0,[]) :: (comp p 1 ++ [(4,1,0,[]),(7,0,0,[])]))).length = 1 + lenP p + 2 := by rw [inR_len,hlen]
   refine res_code (fn := rex_Compile) rfl rfl ?_
   simp (disch := first | assumption | omega | decide | (simp only [lens] <;> omega) | fail) only [go_sem,rex_Compile,eR,st335,e0,eW,e2,eF,st333,st333b,st334]
end Ab
namespace Ab
open Go (IntKind BinOp UnOp)
abbrev r1I (s : List UInt8) (i d e g : Int) (q n : Nat) : Blk := .box [.p (.str s),.p (.int .i64 i),.p (.int .i64 d),.p (.int .i64 e),.p (.int .i64 g),.own q n]
abbrev Gb := Option (Bool × List PV)
def r1H (c : Gb) (s : List UInt8) (i d e g : Int) (l : List Ins) : Heap :=
 match c with
 | none => [r1I s i d e g 1 l.length,.row false 4 (inR l)]
 | some (f,ys) => [r1I s i d e g 2 l.length,.row f 4 ys,.row false 4 (inR l)]
theorem resM_bad (s : List UInt8) (i d g k : Int) (n : Nat) (xs : List PV) (_hx : xs.length = n) : resM Γ 2 316 [.bx 0 0,.p (.int .i64 k)] [r1I s i d 0 g 1 n,.row false 4 xs] = some ([],[r1I s i d k g 1 n,.row false 4 xs]) := by
 refine resM_code (fn := r11_reader_bad) rfl rfl ?_
 simp (disch := first | assumption | omega | decide | (simp only [lens] <;> omega) | fail) only [go_sem,r11_reader_bad]
theorem resM_lay (s : List UInt8) (i d e g : Int) (n : Nat) (l : List Ins) (hl : l.length = n) (hn : n ≤ 100000) (o x y : Int) (p : List UInt8) : resM Γ 2 315 [.bx 0 0,.p (.agg [.int .i64 o,.int .i64 x,.int .i64 y,.str p])] [r1I s i d e g 1 n,.row false 4 (inR l)] = some ([.p (.int .i64 n)],[r1I s i d e g 1 (n + 1),.row false 4 (inR (l ++ [(o,x,y,p)]))]) := by
 refine resM_code (fn := r11_reader_lay) rfl rfl ?_
 simp (disch := first | assumption | omega | decide | (simp only [lens] <;> omega) | fail) only [go_sem,r11_reader_lay]
 rw [show ((n + 1 : Nat) : Int) - 1 = (n : Int) by omega]
theorem iaddr_ins {H : Heap} {k' k} {l : List Ins} {i : Int} (h0 : 0 ≤ i) (h : i < (l.length : Int)) : iaddrA H 4 (.p (.sl k' 4 (inR l))) (.p (.int k i)) = some (.p (.ptr (insC (l.getD i.toNat (0,0,0,[]))))) := iaddr_sl h0 (inR_get (by omega))
theorem insC_mk {o x y : Int} {p : List UInt8} : insC (o,x,y,p) = [.int .i64 o,.int .i64 x,.int .i64 y,.str p] := rfl
theorem mv_snoc {k : Int} {l : List Ins} {i : Nat} (h : i < l.length) : mv k (l.take i) ++ [mv1 k (l.getD i (0,0,0,[]))] = mv k (l.take (i + 1)) := by
 unfold mv
 rw [List.take_succ_eq_append_getElem h,List.map_append,List.getD_eq_getElem?_getD,List.getElem?_eq_getElem h]; rfl
set_option maxRecDepth 10000 in
set_option maxHeartbeats 1000000 in
theorem moved_l1_ok (l : List Ins) (hl : l.length ≤ 100000) (kk : SK) (k : Int) (hk : -100000 ≤ k ∧ k ≤ 100000) (hx : ∀ x ∈ l,-100000 ≤ x.2.1 ∧ x.2.1 ≤ 100000 ∧ -100000 ≤ x.2.2.1 ∧ x.2.2.1 ≤ 100000) (Q : Out → Prop)
  (hQ : ∀ T',Q (.nrm,[(5,.own 0 l.length)],.row false 4 (inR (mv k l)) :: T')) : ∀ (n i : Nat),i + n = l.length → ∀ T,
  Wp Γ r11_moved_l1 [(0,.p (.sl kk 4 (inR l))),(1,.p (.int .i64 k)),(5,.own 0 i),(6,.p (.int .i64 i))] (.row false 4 (inR (mv k (l.take i))) :: T) (InBlk [5] 0 Q) := by
 intro n
 induction n with
 | zero =>
  intro i hi T
  have : i = l.length := by omega
  subst this
  rw [List.take_length]
  rw [W_loop (L := r11_moved_l1) rfl]
  simp (disch := first | assumption | omega | decide | (simp only [lens] <;> omega) | fail) only [go_sem]
  exact hQ T
 | succ n ih =>
  intro i hi T
  have hil : i < l.length := by omega
  have ht : (mv k (l.take i)).length = i := by rw [mv_len,List.length_take]; omega
  have hm : l.getD i (0,0,0,[]) ∈ l := by
   rw [List.getD_eq_getElem?_getD,List.getElem?_eq_getElem hil]; exact List.getElem_mem hil
  have hb := hx _ hm
  have ih := ih (i + 1) (by omega)
  rw [← mv_snoc hil] at ih
  generalize hg : l.getD i (0,0,0,[]) = z at hb ih
  obtain ⟨o,x,y,p⟩ := z
  dsimp only at hb
  generalize mv k (l.take i) = M at *
  by_cases h2 : o = 2
  ·subst h2
   have ih := ih (T ++ [.box [.p (.int .i64 2),.p (.int .i64 (x + k)),.p (.int .i64 (y + k)),.p (.str p)]])
   have e1 : mv1 k ((2,x,y,p) : Ins) = (2,x + k,y + k,p) := rfl
   rw [e1] at ih
   rw [W_loop (L := r11_moved_l1) rfl]
   simp (disch := first | assumption | omega | decide | (simp only [lens] <;> omega) | fail) only [go_sem,iaddr_ins,hg,insC_mk,at_last,set_last]
   exact ih
  ·by_cases h3 : o = 3
   ·subst h3
    have ih := ih (T ++ [.box [.p (.int .i64 3),.p (.int .i64 (x + k)),.p (.int .i64 y),.p (.str p)]])
    have e1 : mv1 k ((3,x,y,p) : Ins) = (3,x + k,y,p) := rfl
    rw [e1] at ih
    rw [W_loop (L := r11_moved_l1) rfl]
    simp (disch := first | assumption | omega | decide | (simp only [lens] <;> omega) | fail) only [go_sem,iaddr_ins,hg,insC_mk,at_last,set_last]
    exact ih
   ·have ih := ih (T ++ [.box [.p (.int .i64 o),.p (.int .i64 x),.p (.int .i64 y),.p (.str p)]])
    have e1 : mv1 k (o,x,y,p) = (o,x,y,p) := by
     unfold mv1
     dsimp only
     rw [if_neg (by omega),if_neg h2]
    rw [e1] at ih
    rw [W_loop (L := r11_moved_l1) rfl]
    simp (disch := first | assumption | omega | decide | (simp only [lens] <;> omega) | fail) only [go_sem,iaddr_ins,hg,insC_mk,at_last,set_last]
    exact ih
theorem res_moved (l : List Ins) (hl : l.length ≤ 100000) (kk : SK) (k : Int) (hk : -100000 ≤ k ∧ k ≤ 100000) (hx : ∀ x ∈ l,-100000 ≤ x.2.1 ∧ x.2.1 ≤ 100000 ∧ -100000 ≤ x.2.2.1 ∧ x.2.2.1 ≤ 100000) : res Γ 340 [.sl kk 4 (inR l),.int .i64 k] = some [.sl .any 4 (inR (mv k l))] := by
 have L := fun Q hQ => moved_l1_ok l hl kk k hk hx Q hQ l.length 0 (by omega) []
 have hm : (mv k l).length = l.length := mv_len
 refine res_code (fn := r11_moved) rfl rfl ?_
 simp (disch := first | assumption | omega | decide | (simp only [lens] <;> omega) | fail) only [go_sem,r11_moved]
 refine L _ (fun T' => ?_)
 simp (disch := first | assumption | omega | decide | (simp only [lens] <;> omega) | fail) only [go_sem]
def okI (x : Ins) : Prop := -50000 ≤ x.2.1 ∧ x.2.1 ≤ 50000 ∧ -50000 ≤ x.2.2.1 ∧ x.2.2.1 ≤ 50000
theorem resM_put (s : List UInt8) (i d e g : Int) (n : Nat) (l m : List Ins) (kk : SK) (hl : l.length = n) (hn : n ≤ 10000) (hm : m.length ≤ 10000) (hx : ∀ x ∈ m,okI x) :
  resM Γ 2 325 [.bx 0 0,.p (.sl kk 4 (inR m))] [r1I s i d e g 1 n,.row false 4 (inR l)] = some ([],[r1I s i d e g 1 (n + m.length),.row false 4 (inR (l ++ mv n m))]) := by
 have eM := res_moved m (by omega) kk n (by omega) (fun x h => by have := hx x h; unfold okI at this; omega)
 have hml : (mv (n : Int) m).length = m.length := mv_len
 refine resM_code (fn := r11_reader_put) rfl rfl ?_
 simp (disch := first | assumption | omega | decide | (simp only [lens] <;> omega) | fail) only [go_sem,r11_reader_put,eM]
 rw [hml]
theorem resM_cut (s : List UInt8) (i d e g : Int) (n b : Nat) (l m : List Ins) (hl : l.length = b) (hn : (l ++ m).length = n) (hm : n ≤ 10000) (hx : ∀ x ∈ m,okI x) :
  resM Γ 2 326 [.bx 0 0,.p (.int .i64 b)] [r1I s i d e g 1 n,.row false 4 (inR (l ++ m))] = some ([.p (.sl .any 4 (inR (mv (-(b : Int)) m)))],r1H (some (true,inR (l ++ m))) s i d e g l) := by
 rw [List.length_append,hl] at hn
 have e0 : (0 : Int) - (b : Int) = -(b : Int) := by omega
 rw [← e0]
 have eM := fun kk => res_moved m (by omega) kk (0 - (b : Int)) (by omega) (fun x h => by have := hx x h; unfold okI at this; omega)
 have e1 : (l ++ m).drop b = m := by rw [← hl,List.drop_left]
 have e2 : (l ++ m).take b = l := by rw [← hl,List.take_left]
 have hlm : (l ++ m).length = n := by rw [List.length_append]; omega
 have hin : (inR (l ++ m)).length = n := by rw [inR_len]; exact hlm
 have e3 : (inR (l ++ m)).drop b = inR m := by rw [inR_drop,e1]
 have e4 : (inR (l ++ m)).take b = inR l := by rw [inR_take,e2]
 have hil : (inR l).length ≤ 1073741824 := by rw [inR_len]; omega
 unfold r1H
 dsimp only
 rw [hl]
 generalize l ++ m = L at *
 refine resM_code (fn := r11_reader_cut) rfl rfl ?_
 simp (disch := first | assumption | omega | decide | (simp only [lens] <;> omega) | fail) only [go_sem,r11_reader_cut,eM,e3,e4,app_tight0,hl]
end Ab
