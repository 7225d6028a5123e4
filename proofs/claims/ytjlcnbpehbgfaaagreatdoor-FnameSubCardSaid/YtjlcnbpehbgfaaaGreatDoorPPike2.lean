import Derived.Test.YtjlcnbpehbgfaaaGreatDoorPRex2
namespace Ab
abbrev Wy := Int × List Int
def insAt (l : List Ins) (pc : Int) : Ins := l.getD pc.toNat (0,0,0,[])
def hasS : List UInt8 → Nat → Bool
 | a :: b :: r,c => (decide (a.toNat ≤ c) && decide (c ≤ b.toNat)) || hasS r c
 | _,_ => false
def setAt (sv : List Int) (x : Int) (v : Int) : List Int := if 0 ≤ x ∧ x < (sv.length : Int) then sv.set x.toNat v else sv
theorem setAt_len {sv x v} : (setAt sv x v).length = sv.length := by
 unfold setAt; split <;> simp
def eps (l : List Ins) (L k : Nat) (w : Wy) : List Wy :=
 if (insAt l w.1).1 = 2 then [((insAt l w.1).2.1,w.2),((insAt l w.1).2.2.1,w.2)]
 else if (insAt l w.1).1 = 3 then [((insAt l w.1).2.1,w.2)]
 else if (insAt l w.1).1 = 4 then [(w.1 + 1,setAt w.2 (insAt l w.1).2.1 k)]
 else if (insAt l w.1).1 = 5 then (if k = 0 then [(w.1 + 1,w.2)] else [])
 else if (insAt l w.1).1 = 6 then (if k = L then [(w.1 + 1,w.2)] else [])
 else []
def isLf (l : List Ins) (w : Wy) : Prop := (insAt l w.1).1 = 1 ∨ (insAt l w.1).1 = 7
def okB (l : List Ins) (t : List UInt8) (k : Nat) (w : Wy) : Prop := k < t.length ∧ hasS (insAt l w.1).2.2.2 (bt t k) = true
def dn (l : List Ins) (s : List Int) (pc : Int) : Prop := pc < 0 ∨ (l.length : Int) ≤ pc ∨ pc ∈ s
theorem dn_mono {l s s' pc} (h : ∀ x ∈ s,x ∈ s') (hd : dn l s pc) : dn l s' pc := by
 rcases hd with h1 | h1 | h1
 ·exact .inl h1
 ·exact .inr (.inl h1)
 ·exact .inr (.inr (h _ h1))
instance {l s pc} : Decidable (dn l s pc) := by unfold dn; infer_instance
instance {l w} : Decidable (isLf l w) := by unfold isLf; infer_instance
instance {l t k w} : Decidable (okB l t k w) := by unfold okB; infer_instance
inductive Cl (l : List Ins) (L k : Nat) : List Wy → List Int → List Wy → List Int → Prop
 | nil {s} : Cl l L k [] s [] s
 | skip {w st s lv s'} : dn l s w.1 → Cl l L k st s lv s' → Cl l L k (w :: st) s lv s'
 | leaf {w st s lv s'} : ¬dn l s w.1 → isLf l w → Cl l L k st (s ++ [w.1]) lv s' → Cl l L k (w :: st) s (w :: lv) s'
 | go {w st s lv s'} : ¬dn l s w.1 → ¬isLf l w → Cl l L k (eps l L k w ++ st) (s ++ [w.1]) lv s' → Cl l L k (w :: st) s lv s'
def left (l : List Ins) (s : List Int) : Nat := ((List.range l.length).filter fun (i : Nat) => !decide ((i : Int) ∈ s)).length
theorem filt_lt {p q : Nat → Bool} {x : Nat} : ∀ {m : List Nat},(∀ y,q y = true → p y = true) → x ∈ m → p x = true → q x = false → (m.filter q).length < (m.filter p).length
 | [],_,h,_,_ => by cases h
 | a :: m,hpq,h,hp,hq => by
  have hle : (m.filter q).length ≤ (m.filter p).length := by
   clear h
   induction m with
   | nil => exact Nat.le_refl _
   | cons b m ih =>
    simp only [List.filter_cons]
    cases h1 : q b
    ·cases p b <;> simp <;> omega
    ·rw [hpq b h1]; simpa using ih
  simp only [List.filter_cons]
  by_cases e : x = a
  ·subst e
   rw [hp,hq]
   simp; omega
  ·have ih := filt_lt hpq (by
    rcases List.mem_cons.1 h with h | h
    ·exact absurd h e
    ·exact h) hp hq
   cases h1 : q a
   ·cases p a <;> simp <;> omega
   ·rw [hpq a h1]; simpa using ih
theorem left_lt {l s pc} (h : ¬dn l s pc) : left l (s ++ [pc]) < left l s := by
 unfold dn at h
 have h0 : 0 ≤ pc := by omega
 have h1 : pc < (l.length : Int) := by omega
 have h2 : pc ∉ s := fun x => h (.inr (.inr x))
 have e : ((pc.toNat : Nat) : Int) = pc := by omega
 refine filt_lt (x := pc.toNat) ?_ ?_ ?_ ?_
 ·intro y hy
  simp only [Bool.not_eq_true',decide_eq_false_iff_not,List.mem_append,not_or] at hy ⊢
  exact hy.1
 ·rw [List.mem_range]; omega
 ·simp only [e,Bool.not_eq_true',decide_eq_false_iff_not]; exact h2
 ·simp only [e,Bool.not_eq_false',decide_eq_true_eq,List.mem_append,List.mem_singleton,or_true]
theorem eps_len {l L k w} : (eps l L k w).length ≤ 2 := by
 unfold eps
 repeat' split
 all_goals simp
theorem cl_total {l : List Ins} {L k : Nat} : ∀ (n : Nat) (st : List Wy) (s : List Int),3 * left l s + st.length ≤ n → ∃ lv s',Cl l L k st s lv s' := by
 intro n
 induction n with
 | zero =>
  intro st s h
  cases st with
  | nil => exact ⟨_,_,.nil⟩
  | cons w st => simp at h
 | succ n ih =>
  intro st s h
  cases st with
  | nil => exact ⟨_,_,.nil⟩
  | cons w st =>
   simp only [List.length_cons] at h
   by_cases hd : dn l s w.1
   ·obtain ⟨lv,s',h1⟩ := ih st s (by omega)
    exact ⟨_,_,.skip hd h1⟩
   ·have hl := left_lt hd
    by_cases hf : isLf l w
    ·obtain ⟨lv,s',h1⟩ := ih st (s ++ [w.1]) (by omega)
     exact ⟨_,_,.leaf hd hf h1⟩
    ·have he := @eps_len l L k w
     obtain ⟨lv,s',h1⟩ := ih (eps l L k w ++ st) (s ++ [w.1]) (by rw [List.length_append]; omega)
     exact ⟨_,_,.go hd hf h1⟩
theorem cl_ex (l : List Ins) (L k : Nat) (st : List Wy) (s : List Int) : ∃ lv s',Cl l L k st s lv s' := cl_total _ st s (Nat.le_refl _)
theorem cl_det {l L k st s lv s'} (h : Cl l L k st s lv s') : ∀ {lv2 s2},Cl l L k st s lv2 s2 → lv2 = lv ∧ s2 = s' := by
 induction h with
 | nil => intro lv2 s2 h2; cases h2; exact ⟨rfl,rfl⟩
 | skip hd _ ih =>
  intro lv2 s2 h2
  cases h2 with
  | skip _ h => exact ih h
  | leaf hn _ _ => exact absurd hd hn
  | go hn _ _ => exact absurd hd hn
 | leaf hd hf _ ih =>
  intro lv2 s2 h2
  cases h2 with
  | skip hn h => exact absurd hn hd
  | leaf _ _ h => obtain ⟨rfl,rfl⟩ := ih h; exact ⟨rfl,rfl⟩
  | go _ hn _ => exact absurd hf hn
 | go hd hf _ ih =>
  intro lv2 s2 h2
  cases h2 with
  | skip hn h => exact absurd hn hd
  | leaf _ hn _ => exact absurd hn hf
  | go _ _ h => exact ih h
theorem cl_app {l L k a s lv1 s1} (h : Cl l L k a s lv1 s1) : ∀ {b lv2 s2},Cl l L k b s1 lv2 s2 → Cl l L k (a ++ b) s (lv1 ++ lv2) s2 := by
 induction h with
 | nil => intro b lv2 s2 h2; exact h2
 | skip hd _ ih => intro b lv2 s2 h2; exact .skip hd (ih h2)
 | leaf hd hf _ ih => intro b lv2 s2 h2; exact .leaf hd hf (ih h2)
 | go hd hf _ ih =>
  intro b lv2 s2 h2
  have := ih h2
  rw [List.append_assoc] at this
  exact .go hd hf this
theorem cl_split {l L k a b s lv s'} (h : Cl l L k (a ++ b) s lv s') : ∃ lv1 s1 lv2,Cl l L k a s lv1 s1 ∧ Cl l L k b s1 lv2 s' ∧ lv = lv1 ++ lv2 := by
 obtain ⟨lv1,s1,h1⟩ := cl_ex l L k a s
 obtain ⟨lv2,s2,h2⟩ := cl_ex l L k b s1
 obtain ⟨e1,e2⟩ := cl_det (cl_app h1 h2) h
 subst e2
 exact ⟨_,_,_,h1,h2,e1⟩
theorem cl_leaf {l L k st s lv s'} (h : Cl l L k st s lv s') : ∀ w ∈ lv,isLf l w ∧ 0 ≤ w.1 ∧ w.1 < (l.length : Int) := by
 induction h with
 | nil => intro w h; cases h
 | skip _ _ ih => exact ih
 | leaf hd hf _ ih =>
  intro w h
  rcases List.mem_cons.1 h with rfl | h
  ·unfold dn at hd
   exact ⟨hf,by omega,by omega⟩
  ·exact ih w h
 | go _ _ _ ih => exact ih
inductive Dl (l : List Ins) (t : List UInt8) : Nat → List Wy → List (List Int) → List (List Int) → Option (List Int) → Prop
 | nil {k SL} : Dl l t k [] SL SL none
 | hit {k w r SL} : (insAt l w.1).1 = 7 → Dl l t k (w :: r) SL SL (some w.2)
 | stay {k w r SL SL' x} : (insAt l w.1).1 ≠ 7 → ¬okB l t k w → Dl l t k r SL SL' x → Dl l t k (w :: r) SL SL' x
 | found {k w r s lv s' SL SL' x} : (insAt l w.1).1 ≠ 7 → okB l t k w → Cl l t.length (k + 1) [(w.1 + 1,w.2)] s lv s' → Dl l t (k + 1) lv SL SL' (some x) → Dl l t k (w :: r) (s :: SL) (s' :: SL') (some x)
 | pass {k w r s lv s' SL SL1 SL' y} : (insAt l w.1).1 ≠ 7 → okB l t k w → Cl l t.length (k + 1) [(w.1 + 1,w.2)] s lv s' → Dl l t (k + 1) lv SL SL1 none → Dl l t k r (s' :: SL1) SL' y → Dl l t k (w :: r) (s :: SL) SL' y
theorem dl_len {l t k lv SL SL' r} (h : Dl l t k lv SL SL' r) : SL'.length = SL.length := by
 induction h with
 | nil => rfl
 | hit _ => rfl
 | stay _ _ _ ih => exact ih
 | found _ _ _ _ ih => simp [ih]
 | pass _ _ _ _ _ ih1 ih2 => rw [ih2]; simp [ih1]
theorem dl_total (l : List Ins) (t : List UInt8) : ∀ (n k : Nat),k + n = t.length → ∀ (lv : List Wy) (SL : List (List Int)),SL.length = n → ∃ SL' r,Dl l t k lv SL SL' r := by
 intro n
 induction n with
 | zero =>
  intro k hk lv
  induction lv with
  | nil => intro SL _; exact ⟨_,_,.nil⟩
  | cons w r ih =>
   intro SL hSL
   by_cases h7 : (insAt l w.1).1 = 7
   ·exact ⟨_,_,.hit h7⟩
   ·obtain ⟨SL',x,h⟩ := ih SL hSL
    exact ⟨_,_,.stay h7 (fun h => by have := h.1; omega) h⟩
 | succ n ihn =>
  intro k hk lv
  induction lv with
  | nil => intro SL _; exact ⟨_,_,.nil⟩
  | cons w r ih =>
   intro SL hSL
   by_cases h7 : (insAt l w.1).1 = 7
   ·exact ⟨_,_,.hit h7⟩
   ·by_cases ho : okB l t k w
    ·cases SL with
     | nil => cases hSL
     | cons s SL =>
      obtain ⟨lv,s',hc⟩ := cl_ex l t.length (k + 1) [(w.1 + 1,w.2)] s
      obtain ⟨SL1,x,hd⟩ := ihn (k + 1) (by omega) lv SL (by simpa using hSL)
      cases x with
      | some x => exact ⟨_,_,.found h7 ho hc hd⟩
      | none =>
       obtain ⟨SL',y,h2⟩ := ih (s' :: SL1) (by simp only [List.length_cons,dl_len hd]; simpa using hSL)
       exact ⟨_,_,.pass h7 ho hc hd h2⟩
    ·obtain ⟨SL',x,h⟩ := ih SL hSL
     exact ⟨_,_,.stay h7 ho h⟩
theorem dl_det {l t k lv SL SL' r} (h : Dl l t k lv SL SL' r) : ∀ {SL2 r2},Dl l t k lv SL SL2 r2 → SL2 = SL' ∧ r2 = r := by
 induction h with
 | nil => intro SL2 r2 h2; cases h2; exact ⟨rfl,rfl⟩
 | hit h7 =>
  intro SL2 r2 h2
  cases h2 with
  | hit _ => exact ⟨rfl,rfl⟩
  | stay hn _ _ => exact absurd h7 hn
  | found hn _ _ _ => exact absurd h7 hn
  | pass hn _ _ _ _ => exact absurd h7 hn
 | stay h7 ho _ ih =>
  intro SL2 r2 h2
  cases h2 with
  | hit h => exact absurd h h7
  | stay _ _ h => exact ih h
  | found _ hn _ _ => exact absurd hn ho
  | pass _ hn _ _ _ => exact absurd hn ho
 | found h7 ho hc _ ih =>
  intro SL2 r2 h2
  cases h2 with
  | hit h => exact absurd h h7
  | stay _ hn _ => exact absurd ho hn
  | found _ _ hc2 h =>
   obtain ⟨rfl,rfl⟩ := cl_det hc hc2
   obtain ⟨rfl,e⟩ := ih h
   exact ⟨rfl,e⟩
  | pass _ _ hc2 h _ =>
   obtain ⟨rfl,rfl⟩ := cl_det hc hc2
   exact by cases (ih h).2
 | pass h7 ho hc _ _ ih1 ih2 =>
  intro SL2 r2 h2
  cases h2 with
  | hit h => exact absurd h h7
  | stay _ hn _ => exact absurd ho hn
  | found _ _ hc2 h =>
   obtain ⟨rfl,rfl⟩ := cl_det hc hc2
   exact by cases (ih1 h).2
  | pass _ _ hc2 h h' =>
   obtain ⟨rfl,rfl⟩ := cl_det hc hc2
   obtain ⟨rfl,_⟩ := ih1 h
   exact ih2 h'
theorem dl_app1 {l t k a SL SL1 x} {b : List Wy} (h : Dl l t k a SL SL1 x) : ∀ y,x = some y → Dl l t k (a ++ b) SL SL1 (some y) := by
 induction h with
 | nil => intro y e; cases e
 | hit h7 => intro y e; cases e; exact .hit h7
 | stay h7 ho _ ih => intro y e; exact .stay h7 ho (ih y e)
 | found h7 ho hc hd _ => intro y e; cases e; exact .found h7 ho hc hd
 | pass h7 ho hc hd _ _ ih2 => intro y e; exact .pass h7 ho hc hd (ih2 y e)
theorem dl_app2 {l t k a SL SL1 x} {b : List Wy} (h : Dl l t k a SL SL1 x) : x = none → ∀ {SL2 y},Dl l t k b SL1 SL2 y → Dl l t k (a ++ b) SL SL2 y := by
 induction h with
 | nil => intro _ SL2 y h2; exact h2
 | hit h7 => intro e; cases e
 | stay h7 ho _ ih => intro e SL2 y h2; exact .stay h7 ho (ih e h2)
 | found h7 ho hc hd _ => intro e; cases e
 | pass h7 ho hc hd _ _ ih2 => intro e SL2 y h2; exact .pass h7 ho hc hd (ih2 e h2)
def spl1 (l : List Ins) (t : List UInt8) (k : Nat) : List Wy → List Wy × Option (List Int)
 | [] => ([],none)
 | w :: r => if (insAt l w.1).1 = 7 then ([],some w.2) else if okB l t k w then ((w.1 + 1,w.2) :: (spl1 l t k r).1,(spl1 l t k r).2) else spl1 l t k r
theorem dl_split {l t k} {lw b : List Wy} {SL SL' r} (h : Dl l t k lw SL SL' r) : ∀ (a : List Wy),lw = a ++ b → (¬∃ SL3 x,Dl l t k a SL SL3 (some x)) → ∃ SL3,Dl l t k a SL SL3 none ∧ Dl l t k b SL3 SL' r := by
 induction h with
 | nil =>
  intro a hl hx
  obtain ⟨rfl,rfl⟩ := List.append_eq_nil_iff.1 hl.symm
  exact ⟨_,.nil,.nil⟩
 | hit h7' =>
  intro a hl hx
  cases a with
  | nil => cases hl; exact ⟨_,.nil,.hit h7'⟩
  | cons a lv1 => cases hl; exact absurd ⟨_,_,.hit h7'⟩ hx
 | stay h7' ho' hd' ih =>
  intro a hl hx
  cases a with
  | nil => cases hl; exact ⟨_,.nil,.stay h7' ho' hd'⟩
  | cons a lv1 =>
   cases hl
   obtain ⟨SL3,e1,e2⟩ := ih lv1 rfl (by rintro ⟨SL3,x,h⟩; exact hx ⟨_,_,.stay h7' ho' h⟩)
   exact ⟨_,.stay h7' ho' e1,e2⟩
 | found h7' ho' hc' hd' ih =>
  intro a hl hx
  cases a with
  | nil => cases hl; exact ⟨_,.nil,.found h7' ho' hc' hd'⟩
  | cons a lv1 => cases hl; exact absurd ⟨_,_,.found h7' ho' hc' hd'⟩ hx
 | pass h7' ho' hc' hd1 hd2 ih1 ih2 =>
  intro a hl hx
  cases a with
  | nil => cases hl; exact ⟨_,.nil,.pass h7' ho' hc' hd1 hd2⟩
  | cons a lv1 =>
   cases hl
   obtain ⟨SL3,e1,e2⟩ := ih2 lv1 rfl (by rintro ⟨SL3,x,h⟩; exact hx ⟨_,_,.pass h7' ho' hc' hd1 h⟩)
   exact ⟨_,.pass h7' ho' hc' hd1 e1,e2⟩
theorem dl_level {l t k} : ∀ {lv : List Wy} {s : List Int} {SL : List (List Int)} {lv' s' SL1 y},Cl l t.length (k + 1) (spl1 l t k lv).1 s lv' s' → Dl l t (k + 1) lv' SL SL1 y →
  ∃ SL2,Dl l t k lv (s :: SL) SL2 (y.or (spl1 l t k lv).2) ∧ (y.or (spl1 l t k lv).2 = none → SL2 = s' :: SL1)
 | [],s,SL,lv',s',SL1,y,hc,hd => by
  simp only [spl1] at hc ⊢
  cases hc
  cases hd
  exact ⟨_,.nil,fun _ => rfl⟩
 | w :: r,s,SL,lv',s',SL1,y,hc,hd => by
  unfold spl1 at hc ⊢
  by_cases h7 : (insAt l w.1).1 = 7
  ·rw [if_pos h7] at hc ⊢
   dsimp only at hc ⊢
   cases hc
   cases hd
   exact ⟨_,.hit h7,fun e => by cases e⟩
  ·rw [if_neg h7] at hc ⊢
   by_cases ho : okB l t k w
   ·rw [if_pos ho] at hc ⊢
    dsimp only at hc ⊢
    obtain ⟨lv1,s1,lv2,c1,c2,rfl⟩ := cl_split (a := [(w.1 + 1,w.2)]) hc
    -- the first way's own search
    by_cases hx : ∃ SL3 x,Dl l t (k + 1) lv1 SL SL3 (some x)
    ·obtain ⟨SL3,x,hx⟩ := hx
     obtain ⟨rfl,rfl⟩ := dl_det (dl_app1 (b := lv2) hx x rfl) hd
     exact ⟨_,.found h7 ho c1 hx,fun e => by simp at e⟩
    ·have key := dl_split hd lv1 rfl hx
     obtain ⟨SL3,e1,e2⟩ := key
     obtain ⟨SL2,i1,i2⟩ := dl_level c2 e2
     exact ⟨_,.pass h7 ho c1 e1 i1,i2⟩
   ·rw [if_neg ho] at hc ⊢
    obtain ⟨SL2,i1,i2⟩ := dl_level hc hd
    exact ⟨_,.stay h7 ho i1,i2⟩
theorem dl_last {l t k} (h : t.length ≤ k) : ∀ {lv : List Wy} {SL},Dl l t k lv SL SL (spl1 l t k lv).2
 | [],SL => .nil
 | w :: r,SL => by
  unfold spl1
  by_cases h7 : (insAt l w.1).1 = 7
  ·rw [if_pos h7]; exact .hit h7
  ·have ho : ¬okB l t k w := fun ho => by have := ho.1; omega
   rw [if_neg h7,if_neg ho]
   exact .stay h7 ho (dl_last h)
end Ab
namespace Ab
def sucR (l : List Ins) (t : List UInt8) (q : Nat × Wy) : List (Nat × Wy) :=
 if (insAt l q.2.1).1 = 1 then (if okB l t q.1 q.2 then [(q.1 + 1,(q.2.1 + 1,q.2.2))] else [])
 else (eps l t.length q.1 q.2).map fun w => (q.1,w)
abbrev Sn := Nat → List Int
def addS (S : Sn) (k : Nat) (pc : Int) : Sn := fun j => if j = k then S j ++ [pc] else S j
inductive RunQ (l : List Ins) (t : List UInt8) : List (Nat × Wy) → Sn → Option (List Int) → Sn → Prop
 | nil {S} : RunQ l t [] S none S
 | skip {q st S r S'} : dn l (S q.1) q.2.1 → RunQ l t st S r S' → RunQ l t (q :: st) S r S'
 | hit {q st S} : ¬dn l (S q.1) q.2.1 → (insAt l q.2.1).1 = 7 → RunQ l t (q :: st) S (some q.2.2) (addS S q.1 q.2.1)
 | go {q st S r S'} : ¬dn l (S q.1) q.2.1 → (insAt l q.2.1).1 ≠ 7 → RunQ l t (sucR l t q ++ st) (addS S q.1 q.2.1) r S' → RunQ l t (q :: st) S r S'
theorem run_det {l t st S r S'} (h : RunQ l t st S r S') : ∀ {r2 S2},RunQ l t st S r2 S2 → r2 = r ∧ S2 = S' := by
 induction h with
 | nil => intro r2 S2 h2; cases h2; exact ⟨rfl,rfl⟩
 | skip hd _ ih =>
  intro r2 S2 h2
  cases h2 with
  | skip _ h => exact ih h
  | hit hn _ => exact absurd hd hn
  | go hn _ _ => exact absurd hd hn
 | hit hd h7 =>
  intro r2 S2 h2
  cases h2 with
  | skip hn h => exact absurd hn hd
  | hit _ _ => exact ⟨rfl,rfl⟩
  | go _ hn _ => exact absurd h7 hn
 | go hd h7 _ ih =>
  intro r2 S2 h2
  cases h2 with
  | skip hn h => exact absurd hn hd
  | hit _ hn => exact absurd hn h7
  | go _ _ h => exact ih h
def glue (S0 : Sn) (k : Nat) (SL : List (List Int)) : Sn := fun j => if j < k then S0 j else SL.getD (j - k) []
theorem glue_at {S0 k s SL} : glue S0 k (s :: SL) k = s := by
 unfold glue; rw [if_neg (Nat.lt_irrefl _),Nat.sub_self]; rfl
theorem glue_add {S0 k s SL pc} : addS (glue S0 k (s :: SL)) k pc = glue S0 k ((s ++ [pc]) :: SL) := by
 funext j
 unfold addS
 by_cases h : j = k
 ·subst h; rw [if_pos rfl,glue_at,glue_at]
 ·rw [if_neg h]
  unfold glue
  by_cases h2 : j < k
  ·rw [if_pos h2,if_pos h2]
  ·rw [if_neg h2,if_neg h2]
   obtain ⟨m,hm⟩ : ∃ m,j - k = m + 1 := ⟨j - k - 1,by omega⟩
   rw [hm]; rfl
theorem glue_in {S0 k a X Y} : glue (glue S0 k (a :: X)) (k + 1) Y = glue S0 k (a :: Y) := by
 funext j
 unfold glue
 by_cases h : j < k
 ·rw [if_pos (by omega),if_pos h,if_pos h]
 ·rw [if_neg h]
  by_cases h2 : j = k
  ·subst h2
   rw [if_pos (Nat.lt_succ_self _),if_neg h,Nat.sub_self]; rfl
  ·rw [if_neg (by omega),if_neg h]
   obtain ⟨m,hm⟩ : ∃ m,j - k = m + 1 := ⟨j - k - 1,by omega⟩
   rw [hm,show j - (k + 1) = m by omega]; rfl
theorem sucR_eps {l t k} {w : Wy} (h : ¬isLf l w) : sucR l t (k,w) = (eps l t.length k w).map fun w => (k,w) := by
 unfold sucR
 rw [if_neg (fun e => h (.inl e))]
theorem run_of {l t} : ∀ (n k : Nat),k + n = t.length → ∀ {W s lv s'},Cl l t.length k W s lv s' → ∀ {SL SL' r},SL.length = n → Dl l t k lv SL SL' r → ∀ (S0 : Sn) (rest : List (Nat × Wy)),
  (∀ x,r = some x → ∃ S',RunQ l t (W.map (fun w => (k,w)) ++ rest) (glue S0 k (s :: SL)) (some x) S') ∧
  (r = none → ∀ y S',RunQ l t rest (glue S0 k (s' :: SL')) y S' → RunQ l t (W.map (fun w => (k,w)) ++ rest) (glue S0 k (s :: SL)) y S') := by
 intro n
 induction n using Nat.strongRecOn with
 | _ n ihn =>
 intro k hk W s lv s' hc
 induction hc with
 | nil =>
  intro SL SL' r hl hd S0 rest
  cases hd
  exact ⟨fun x e => (by cases e),fun _ y S' h => h⟩
 | @skip w st s lv s' hdn hc ih =>
  intro SL SL' r hl hd S0 rest
  obtain ⟨h1,h2⟩ := ih hl hd S0 rest
  have hdn' : dn l (glue S0 k (s :: SL) k) w.1 := by rw [glue_at]; exact hdn
  refine ⟨fun x e => ?_,fun e y S' h => ?_⟩
  ·obtain ⟨S',h⟩ := h1 x e
   exact ⟨S',.skip hdn' h⟩
  ·exact .skip hdn' (h2 e y S' h)
 | @go w st s lv s' hdn hf hc ih =>
  intro SL SL' r hl hd S0 rest
  obtain ⟨h1,h2⟩ := ih hl hd S0 rest
  have hdn' : ¬dn l (glue S0 k (s :: SL) k) w.1 := by rw [glue_at]; exact hdn
  have h7 : (insAt l w.1).1 ≠ 7 := fun e => hf (.inr e)
  rw [List.map_append,← sucR_eps hf,List.append_assoc] at h1 h2
  refine ⟨fun x e => ?_,fun e y S' h => ?_⟩
  ·obtain ⟨S',h⟩ := h1 x e
   exact ⟨S',.go hdn' h7 (by rw [glue_add]; exact h)⟩
  ·exact .go hdn' h7 (by rw [glue_add]; exact h2 e y S' h)
 | @leaf w st s lv s' hdn hf hc ih =>
  intro SL SL' r hl hd S0 rest
  have hdn' : ¬dn l (glue S0 k (s :: SL) k) w.1 := by rw [glue_at]; exact hdn
  cases hd with
  | hit h7 => exact ⟨fun x e => (by cases e; exact ⟨_,.hit hdn' h7⟩),fun e => (by cases e)⟩
  | stay h7 ho hd =>
   obtain ⟨h1,h2⟩ := ih hl hd S0 rest
   have h11 : (insAt l w.1).1 = 1 := hf.resolve_right h7
   have es : sucR l t (k,w) = [] := by unfold sucR; rw [if_pos h11,if_neg ho]
   refine ⟨fun x e => ?_,fun e y S' h => ?_⟩
   ·obtain ⟨S',h⟩ := h1 x e
    exact ⟨S',.go hdn' h7 (by rw [glue_add,es]; exact h)⟩
   ·exact .go hdn' h7 (by rw [glue_add,es]; exact h2 e y S' h)
  | @found _ _ _ s1 lv1 s1' SLt SLt' x h7 ho hc1 hd1 =>
   have h11 : (insAt l w.1).1 = 1 := hf.resolve_right h7
   have es : sucR l t (k,w) = [(k + 1,(w.1 + 1,w.2))] := by unfold sucR; rw [if_pos h11,if_pos ho]
   have hl : SLt.length + 1 = n := hl
   obtain ⟨h1,_⟩ := ihn (n - 1) (by omega) (k + 1) (by omega) hc1 (by omega) hd1 (glue S0 k ((s ++ [w.1]) :: s1 :: SLt)) (st.map (fun w => (k,w)) ++ rest)
   rw [glue_in] at h1
   refine ⟨fun y e => ?_,fun e => by cases e⟩
   obtain ⟨S',h⟩ := h1 y e
   exact ⟨S',.go hdn' h7 (by rw [glue_add,es]; exact h)⟩
  | @pass _ _ _ s1 lv1 s1' SLt SL1 _ y h7 ho hc1 hd1 hd2 =>
   have h11 : (insAt l w.1).1 = 1 := hf.resolve_right h7
   have es : sucR l t (k,w) = [(k + 1,(w.1 + 1,w.2))] := by unfold sucR; rw [if_pos h11,if_pos ho]
   have hl : SLt.length + 1 = n := hl
   obtain ⟨_,h2⟩ := ihn (n - 1) (by omega) (k + 1) (by omega) hc1 (by omega) hd1 (glue S0 k ((s ++ [w.1]) :: s1 :: SLt)) (st.map (fun w => (k,w)) ++ rest)
   rw [glue_in,glue_in] at h2
   obtain ⟨i1,i2⟩ := ih (by rw [List.length_cons,dl_len hd1]; exact hl) hd2 S0 rest
   refine ⟨fun x e => ?_,fun e y S' h => ?_⟩
   ·obtain ⟨S',h⟩ := i1 x e
    exact ⟨S',.go hdn' h7 (by rw [glue_add,es]; exact h2 rfl _ _ h)⟩
   ·exact .go hdn' h7 (by rw [glue_add,es]; exact h2 rfl _ _ (i2 e y S' h))
abbrev S00 : Sn := fun _ => []
theorem glue_00 {k n} : glue S00 k (List.replicate n []) = S00 := by
 funext j
 unfold glue
 split
 ·rfl
 ·rw [List.getD_eq_getElem?_getD,List.getElem?_replicate]
  split <;> rfl
theorem run_ex (l t) (k : Nat) (hk : k ≤ t.length) (w : Wy) : ∃ r S',RunQ l t [(k,w)] S00 r S' := by
 obtain ⟨lv,s',hc⟩ := cl_ex l t.length k [w] []
 obtain ⟨SL',r,hd⟩ := dl_total l t (t.length - k) k (by omega) lv (List.replicate (t.length - k) []) (by simp)
 obtain ⟨h1,h2⟩ := run_of (t.length - k) k (by omega) hc (by simp) hd S00 []
 have e : glue S00 k ([] :: List.replicate (t.length - k) []) = S00 := @glue_00 k (t.length - k + 1)
 rw [e] at h1 h2
 cases r with
 | none => exact ⟨_,_,h2 rfl _ _ .nil⟩
 | some x => obtain ⟨S',h⟩ := h1 x rfl; exact ⟨_,_,h⟩
def Dead (l : List Ins) (t : List UInt8) (D : Sn) : Prop := ∀ k pc sv,pc ∈ D k → (insAt l pc).1 ≠ 7 ∧ ∀ q ∈ sucR l t (k,(pc,sv)),dn l (D q.1) q.2.1
theorem suc_saves {l t k} {pc : Int} {sv sv' : List Int} {q : Nat × Wy} (h : q ∈ sucR l t (k,(pc,sv))) : ∃ sv2,(q.1,(q.2.1,sv2)) ∈ sucR l t (k,(pc,sv')) := by
 unfold sucR at h ⊢
 dsimp only at h ⊢
 split at h
 ·rename_i h1
  rw [if_pos h1]
  split at h
  ·rename_i h2
   have h2' : okB l t k (pc,sv') := h2
   rw [if_pos h2']
   rw [List.mem_singleton] at h
   subst h
   exact ⟨_,List.mem_singleton.2 rfl⟩
  ·cases h
 ·rename_i h1
  rw [if_neg h1]
  unfold eps at h ⊢
  dsimp only at h ⊢
  simp only [List.mem_map] at h ⊢
  obtain ⟨w,hw,rfl⟩ := h
  dsimp only
  split at hw
  ·rename_i h2
   rw [if_pos h2]
   simp only [List.mem_cons,List.not_mem_nil,or_false] at hw ⊢
   rcases hw with rfl | rfl
   ·exact ⟨_,_,.inl rfl,rfl⟩
   ·exact ⟨_,_,.inr rfl,rfl⟩
  ·rename_i h2
   rw [if_neg h2]
   split at hw
   ·rename_i h3
    rw [if_pos h3]
    rw [List.mem_singleton] at hw
    subst hw
    exact ⟨_,_,List.mem_singleton.2 rfl,rfl⟩
   ·rename_i h3
    rw [if_neg h3]
    split at hw
    ·rename_i h4
     rw [if_pos h4]
     rw [List.mem_singleton] at hw
     subst hw
     exact ⟨_,_,List.mem_singleton.2 rfl,rfl⟩
    ·rename_i h4
     rw [if_neg h4]
     split at hw
     ·rename_i h5
      rw [if_pos h5]
      split at hw
      ·rename_i h6
       rw [if_pos h6]
       rw [List.mem_singleton] at hw
       subst hw
       exact ⟨_,_,List.mem_singleton.2 rfl,rfl⟩
      ·cases hw
     ·rename_i h5
      rw [if_neg h5]
      split at hw
      ·rename_i h6
       rw [if_pos h6]
       split at hw
       ·rename_i h7
        rw [if_pos h7]
        rw [List.mem_singleton] at hw
        subst hw
        exact ⟨_,_,List.mem_singleton.2 rfl,rfl⟩
       ·cases hw
      ·cases hw
theorem addS_mono {S : Sn} {k pc j x} (h : x ∈ S j) : x ∈ addS S k pc j := by
 unfold addS
 split
 ·exact List.mem_append_left _ h
 ·exact h
theorem addS_self {S : Sn} {k pc} : pc ∈ addS S k pc k := by
 unfold addS; rw [if_pos rfl]; simp
theorem addS_inv {S : Sn} {k pc j x} (h : x ∈ addS S k pc j) : x ∈ S j ∨ (j = k ∧ x = pc) := by
 unfold addS at h
 split at h
 ·rename_i e
  rcases List.mem_append.1 h with h | h
  ·exact .inl h
  ·exact .inr ⟨e,List.mem_singleton.1 h⟩
 ·exact .inl h
theorem run_dead {l t st S r S'} (h : RunQ l t st S r S') : r = none → (∀ k pc sv,pc ∈ S k → (insAt l pc).1 ≠ 7 ∧ ∀ q ∈ sucR l t (k,(pc,sv)),dn l (S q.1) q.2.1 ∨ ∃ sv2,(q.1,(q.2.1,sv2)) ∈ st) → Dead l t S' := by
 induction h with
 | nil =>
  intro _ hI k pc sv hp
  obtain ⟨h7,hs⟩ := hI k pc sv hp
  refine ⟨h7,fun q hq => ?_⟩
  rcases hs q hq with h | ⟨_,h⟩
  ·exact h
  ·cases h
 | @skip q st S r S' hd _ ih =>
  intro e hI
  refine ih e (fun k pc sv hp => ?_)
  obtain ⟨h7,hs⟩ := hI k pc sv hp
  refine ⟨h7,fun q' hq => ?_⟩
  rcases hs q' hq with h | ⟨sv2,h⟩
  ·exact .inl h
  ·rcases List.mem_cons.1 h with h | h
   ·subst h; exact .inl hd
   ·exact .inr ⟨_,h⟩
 | hit _ _ => intro e; cases e
 | @go q st S r S' hd h7 _ ih =>
  intro e hI
  refine ih e (fun k pc sv hp => ?_)
  rcases addS_inv hp with hp | ⟨rfl,rfl⟩
  ·obtain ⟨h7,hs⟩ := hI k pc sv hp
   refine ⟨h7,fun q' hq => ?_⟩
   rcases hs q' hq with h | ⟨sv2,h⟩
   ·exact .inl (dn_mono (fun x hx => addS_mono hx) h)
   ·rcases List.mem_cons.1 h with h | h
    ·subst h; exact .inl (.inr (.inr addS_self))
    ·exact .inr ⟨_,List.mem_append_right _ h⟩
  ·refine ⟨h7,fun q' hq => .inr ?_⟩
   obtain ⟨sv2,h2⟩ := suc_saves (sv' := q.2.2) hq
   exact ⟨sv2,List.mem_append_left _ h2⟩
inductive Sub (l : List Ins) (D : Sn) : List (Nat × Wy) → List (Nat × Wy) → Prop
 | nil : Sub l D [] []
 | keep {q a b} : Sub l D a b → Sub l D (q :: a) (q :: b)
 | drop {q a b} : dn l (D q.1) q.2.1 → Sub l D a b → Sub l D (q :: a) b
theorem sub_app {l D a b} : ∀ (c : List (Nat × Wy)),Sub l D a b → Sub l D (c ++ a) (c ++ b)
 | [],h => h
 | _ :: c,h => .keep (sub_app c h)
theorem sub_drop {l D a b} : ∀ (c : List (Nat × Wy)),(∀ q ∈ c,dn l (D q.1) q.2.1) → Sub l D a b → Sub l D (c ++ a) b
 | [],_,h => h
 | q :: c,hc,h => .drop (hc q (List.mem_cons_self ..)) (sub_drop c (fun q hq => hc q (List.mem_cons_of_mem _ hq)) h)
theorem run_sub {l t} {D : Sn} (hD : Dead l t D) {st S r S'} (h : RunQ l t st S r S') : ∀ {st2 S2},Sub l D st st2 → (∀ k pc,pc ∈ S2 k ↔ (pc ∈ S k ∨ pc ∈ D k)) → ∃ S2',RunQ l t st2 S2 r S2' := by
 induction h with
 | nil =>
  intro st2 S2 hs _
  cases hs
  exact ⟨_,.nil⟩
 | @skip q st S r S' hd _ ih =>
  intro st2 S2 hs hS
  cases hs with
  | keep hs =>
   obtain ⟨S2',h⟩ := ih hs hS
   exact ⟨_,.skip (dn_mono (fun x hx => (hS _ _).2 (.inl hx)) hd) h⟩
  | drop _ hs => exact ih hs hS
 | @hit q st S hd h7 =>
  intro st2 S2 hs hS
  have hnD : ¬dn l (D q.1) q.2.1 := by
   rintro (h | h | h)
   ·exact hd (.inl h)
   ·exact hd (.inr (.inl h))
   ·exact (hD _ _ q.2.2 h).1 h7
  cases hs with
  | keep hs =>
   refine ⟨_,.hit ?_ h7⟩
   rintro (h | h | h)
   ·exact hd (.inl h)
   ·exact hd (.inr (.inl h))
   ·rcases (hS _ _).1 h with h | h
    ·exact hd (.inr (.inr h))
    ·exact hnD (.inr (.inr h))
  | drop h _ => exact absurd h hnD
 | @go q st S r S' hd h7 _ ih =>
  intro st2 S2 hs hS
  by_cases hq : q.2.1 ∈ D q.1
  ·have hdrop := (hD q.1 q.2.1 q.2.2 hq).2
   have hS' : ∀ k pc,pc ∈ S2 k ↔ (pc ∈ addS S q.1 q.2.1 k ∨ pc ∈ D k) := by
    intro k pc
    rw [hS]
    constructor
    ·rintro (h | h)
     ·exact .inl (addS_mono h)
     ·exact .inr h
    ·rintro (h | h)
     ·rcases addS_inv h with h | ⟨rfl,rfl⟩
      ·exact .inl h
      ·exact .inr hq
     ·exact .inr h
   cases hs with
   | keep hs =>
    obtain ⟨S2',h⟩ := ih (sub_drop _ hdrop hs) hS'
    exact ⟨_,.skip (.inr (.inr ((hS _ _).2 (.inr hq)))) h⟩
   | drop _ hs => exact ih (sub_drop _ hdrop hs) hS'
  ·have hnD : ¬dn l (D q.1) q.2.1 := by
    rintro (h | h | h)
    ·exact hd (.inl h)
    ·exact hd (.inr (.inl h))
    ·exact hq h
   cases hs with
   | keep hs =>
    have hS' : ∀ k pc,pc ∈ addS S2 q.1 q.2.1 k ↔ (pc ∈ addS S q.1 q.2.1 k ∨ pc ∈ D k) := by
     intro k pc
     constructor
     ·intro h
      rcases addS_inv h with h | ⟨rfl,rfl⟩
      ·rcases (hS _ _).1 h with h | h
       ·exact .inl (addS_mono h)
       ·exact .inr h
      ·exact .inl addS_self
     ·rintro (h | h)
      ·rcases addS_inv h with h | ⟨rfl,rfl⟩
       ·exact addS_mono ((hS _ _).2 (.inl h))
       ·exact addS_self
      ·exact addS_mono ((hS _ _).2 (.inr h))
    obtain ⟨S2',h⟩ := ih (sub_app _ hs) hS'
    refine ⟨_,.go ?_ h7 h⟩
    rintro (h | h | h)
    ·exact hd (.inl h)
    ·exact hd (.inr (.inl h))
    ·rcases (hS _ _).1 h with h | h
     ·exact hd (.inr (.inr h))
     ·exact hq h
   | drop h _ => exact absurd h hnD
inductive Fr (l : List Ins) (t : List UInt8) (nw : List Int) : Nat → Option (List Int) → Prop
 | over {k} : t.length < k → Fr l t nw k none
 | hit {k x S} : k ≤ t.length → RunQ l t [(k,(0,nw))] S00 (some x) S → Fr l t nw k (some x)
 | next {k r S} : k ≤ t.length → RunQ l t [(k,(0,nw))] S00 none S → Fr l t nw (k + 1) r → Fr l t nw k r
inductive Pk (l : List Ins) (t : List UInt8) (nw : List Int) : Nat → List Wy → List Int → Option (List Int) → Option (List Int) → Prop
 | over {k lv s fo} : t.length < k → Pk l t nw k lv s fo fo
 | stop {k s x} : k ≤ t.length → Pk l t nw k [] s (some x) (some x)
 | first {k lv s lv2 s2 lv' s' r} : k ≤ t.length → Cl l t.length k [(0,nw)] s lv2 s2 → Cl l t.length (k + 1) (spl1 l t k (lv ++ lv2)).1 [] lv' s' → Pk l t nw (k + 1) lv' s' (spl1 l t k (lv ++ lv2)).2 r → Pk l t nw k lv s none r
 | later {k lv s x lv' s' r} : k ≤ t.length → lv ≠ [] → Cl l t.length (k + 1) (spl1 l t k lv).1 [] lv' s' → Pk l t nw (k + 1) lv' s' ((spl1 l t k lv).2.or (some x)) r → Pk l t nw k lv s (some x) r
theorem pk_ex (l t nw) : ∀ (n k : Nat),k + n = t.length + 1 → ∀ lv s fo,∃ r,Pk l t nw k lv s fo r := by
 intro n
 induction n with
 | zero => intro k hk lv s fo; exact ⟨_,.over (by omega)⟩
 | succ n ih =>
  intro k hk lv s fo
  cases fo with
  | none =>
   obtain ⟨lv2,s2,h1⟩ := cl_ex l t.length k [(0,nw)] s
   obtain ⟨lv',s',h2⟩ := cl_ex l t.length (k + 1) (spl1 l t k (lv ++ lv2)).1 []
   obtain ⟨r,h3⟩ := ih (k + 1) (by omega) lv' s' (spl1 l t k (lv ++ lv2)).2
   exact ⟨r,.first (by omega) h1 h2 h3⟩
  | some x =>
   by_cases hl : lv = []
   ·subst hl; exact ⟨_,.stop (by omega)⟩
   ·obtain ⟨lv',s',h2⟩ := cl_ex l t.length (k + 1) (spl1 l t k lv).1 []
    obtain ⟨r,h3⟩ := ih (k + 1) (by omega) lv' s' ((spl1 l t k lv).2.or (some x))
    exact ⟨r,.later (by omega) hl h2 h3⟩
theorem pk_over {l t nw k lv s fo r} (h : Pk l t nw k lv s fo r) (hk : t.length < k) : r = fo := by
 cases h with
 | over _ => rfl
 | stop h => omega
 | first h _ _ _ => omega
 | later h _ _ _ => omega
theorem pk_some {l t nw} : ∀ (n k : Nat),k + n = t.length → ∀ {lv s x r},Pk l t nw k lv s (some x) r → ∀ {SL' y},Dl l t k lv (List.replicate n []) SL' y → r = y.or (some x) := by
 intro n
 induction n with
 | zero =>
  intro k hk lv s x r h SL' y hd
  cases h with
  | over h => omega
  | stop _ => cases hd; rfl
  | later _ _ _ hp =>
   have := pk_over hp (by omega)
   obtain ⟨_,rfl⟩ := dl_det (dl_last (by omega)) hd
   exact this
 | succ n ih =>
  intro k hk lv s x r h SL' y hd
  cases h with
  | over h => omega
  | stop _ => cases hd; rfl
  | later _ _ hc hp =>
   rename_i lv' s' _ _
   obtain ⟨SL1,y',hd'⟩ := dl_total l t n (k + 1) (by omega) lv' (List.replicate n []) (by simp)
   obtain ⟨SL2,h1,_⟩ := dl_level hc hd'
   obtain ⟨_,rfl⟩ := dl_det h1 hd
   cases hm : (spl1 l t k lv).2 with
   | none =>
    rw [hm] at hp
    have := ih (k + 1) (by omega) hp hd'
    rw [this]
    cases y' <;> rfl
   | some z =>
    rw [hm] at hp
    have := ih (k + 1) (by omega) hp hd'
    rw [this]
    cases y' <;> rfl
inductive Msd (l : List Ins) (t : List UInt8) (nw : List Int) : Nat → List (List Int) → Option (List Int) → Prop
 | over {k SL} : t.length < k → Msd l t nw k SL none
 | hit {k s lv s' SL SL' x} : k ≤ t.length → Cl l t.length k [(0,nw)] s lv s' → Dl l t k lv SL SL' (some x) → Msd l t nw k (s :: SL) (some x)
 | next {k s lv s' SL SL' r} : k ≤ t.length → Cl l t.length k [(0,nw)] s lv s' → Dl l t k lv SL SL' none → Msd l t nw (k + 1) SL' r → Msd l t nw k (s :: SL) r
theorem pk_none {l t nw} : ∀ (n k : Nat),k + n = t.length → ∀ {lv s r},Pk l t nw k lv s none r → ∀ {SL1 y},Dl l t k lv (List.replicate n []) SL1 y → (∀ x,y = some x → r = some x) ∧ (y = none → Msd l t nw k (s :: SL1) r) := by
 intro n
 induction n with
 | zero =>
  intro k hk lv s r h SL1 y hd
  cases h with
  | over h => omega
  | @first _ _ _ lv2 s2 _ _ _ _ hc2 _ hp =>
   have hr := pk_over hp (by omega)
   subst hr
   have hl := @dl_last l t k (by omega) (lv ++ lv2) (List.replicate 0 [])
   refine ⟨fun x e => ?_,fun e => ?_⟩
   ·subst e
    exact (dl_det hl (dl_app1 (b := lv2) hd x rfl)).2.symm
   ·subst e
    have hS : SL1 = [] := List.length_eq_zero_iff.1 (dl_len hd)
    subst hS
    obtain ⟨SL2,y2,hd2⟩ := dl_total l t 0 k (by omega) lv2 [] rfl
    obtain ⟨_,e2⟩ := dl_det hl (dl_app2 hd rfl hd2)
    rw [← e2]
    cases y2 with
    | none => exact .next (by omega) hc2 hd2 (.over (by omega))
    | some x => exact .hit (by omega) hc2 hd2
 | succ n ih =>
  intro k hk lv s r h SL1 y hd
  cases h with
  | over h => omega
  | @first _ _ _ lv2 s2 lv' s' _ _ hc2 hc hp =>
   obtain ⟨SL3,y3,hd3⟩ := dl_total l t n (k + 1) (by omega) lv' (List.replicate n []) (by simp)
   obtain ⟨SL4,h1,h2⟩ := dl_level hc hd3
   have hrep : ([] : List Int) :: List.replicate n [] = List.replicate (n + 1) [] := rfl
   rw [hrep] at h1
   have hr : ∀ z,y3.or (spl1 l t k (lv ++ lv2)).2 = some z → r = some z := by
    intro z hz
    cases hm : (spl1 l t k (lv ++ lv2)).2 with
    | none =>
     rw [hm] at hp hz
     cases y3 with
     | none => cases hz
     | some w => cases hz; exact (ih (k + 1) (by omega) hp hd3).1 _ rfl
    | some w =>
     rw [hm] at hp hz
     have := pk_some n (k + 1) (by omega) hp hd3
     rw [this]; exact hz
   refine ⟨fun x e => ?_,fun e => ?_⟩
   ·subst e
    exact hr x (dl_det h1 (dl_app1 (b := lv2) hd x rfl)).2.symm
   ·subst e
    obtain ⟨SL2,y2,hd2⟩ := dl_total l t (n + 1) k (by omega) lv2 SL1 (by rw [dl_len hd]; simp)
    obtain ⟨e1,e2⟩ := dl_det h1 (dl_app2 hd rfl hd2)
    cases y2 with
    | some x => rw [hr x e2.symm]; exact .hit (by omega) hc2 hd2
    | none =>
     rw [h2 e2.symm] at e1
     subst e1
     have hm : y3 = none ∧ (spl1 l t k (lv ++ lv2)).2 = none := by
      have e3 := e2.symm
      generalize (spl1 l t k (lv ++ lv2)).2 = m at e3
      cases y3 <;> cases m <;> first | exact ⟨rfl,rfl⟩ | cases e3
     obtain ⟨rfl,hm⟩ := hm
     rw [hm] at hp
     exact .next (by omega) hc2 hd2 ((ih (k + 1) (by omega) hp hd3).2 rfl)
theorem msd_fr {l t nw k SL r} (h : Msd l t nw k SL r) : ∀ S0,SL.length = t.length + 1 - k → Dead l t (glue S0 k SL) → Fr l t nw k r := by
 induction h with
 | over h => intro _ _ _; exact .over h
 | @hit k s lv s' SL SL' x hk hc hd =>
  intro S0 hl hD
  simp only [List.length_cons] at hl
  obtain ⟨h1,_⟩ := run_of (t.length - k) k (by omega) hc (by omega) hd S0 []
  obtain ⟨S',h1⟩ := h1 x rfl
  obtain ⟨r1,S1,hf⟩ := run_ex l t k hk (0,nw)
  obtain ⟨S2,h2⟩ := run_sub hD hf (st2 := [(k,(0,nw))]) (S2 := glue S0 k (s :: SL)) (.keep .nil) (fun j pc => ⟨.inr,fun h => h.elim (fun h => by cases h) id⟩)
  obtain ⟨rfl,_⟩ := run_det h1 h2
  exact .hit hk hf
 | @next k s lv s' SL SL' r hk hc hd hm ih =>
  intro S0 hl hD
  simp only [List.length_cons] at hl
  obtain ⟨_,h1⟩ := run_of (t.length - k) k (by omega) hc (by omega) hd S0 []
  have h1 := h1 rfl _ _ .nil
  have hdead := run_dead h1 rfl (fun k' pc sv hp => ⟨(hD k' pc sv hp).1,fun q hq => .inl ((hD k' pc sv hp).2 q hq)⟩)
  obtain ⟨r1,S1,hf⟩ := run_ex l t k hk (0,nw)
  obtain ⟨S2,h2⟩ := run_sub hD hf (st2 := [(k,(0,nw))]) (S2 := glue S0 k (s :: SL)) (.keep .nil) (fun j pc => ⟨.inr,fun h => h.elim (fun h => by cases h) id⟩)
  obtain ⟨rfl,_⟩ := run_det h1 h2
  refine .next hk hf (ih (glue S0 k (s' :: SL')) (by rw [dl_len hd]; omega) ?_)
  rw [glue_in]
  exact hdead
theorem pk_fr {l t nw} {k : Nat} (hk : k ≤ t.length) {r} (h : Pk l t nw k [] [] none r) : Fr l t nw k r := by
 have h1 := (pk_none (t.length - k) k (by omega) h .nil).2 rfl
 refine msd_fr h1 S00 (by rw [List.length_cons,List.length_replicate]; omega) ?_
 have e : glue S00 k ([] :: List.replicate (t.length - k) []) = S00 := @glue_00 k (t.length - k + 1)
 rw [e]
 intro k pc sv hp
 cases hp
def okS (n L : Nat) (sv : List Int) : Prop := sv.length = n ∧ ∀ v ∈ sv,-1 ≤ v ∧ v ≤ (L : Int)
theorem setAt_ok {n L sv x} {v : Nat} (h : okS n L sv) (hv : v ≤ L) : okS n L (setAt sv x v) := by
 refine ⟨setAt_len.trans h.1,fun u hu => ?_⟩
 unfold setAt at hu
 split at hu
 ·rcases List.mem_or_eq_of_mem_set hu with hu | rfl
  ·exact h.2 u hu
  ·omega
 ·exact h.2 u hu
theorem suc_ok {n : Nat} {l t} {q : Nat × Wy} (hq : q.1 ≤ t.length ∧ okS n t.length q.2.2) : ∀ p ∈ sucR l t q,p.1 ≤ t.length ∧ okS n t.length p.2.2 := by
 intro p hp
 unfold sucR at hp
 split at hp
 ·split at hp
  ·rename_i h
   rw [List.mem_singleton] at hp
   subst hp
   exact ⟨h.1,hq.2⟩
  ·cases hp
 ·simp only [List.mem_map] at hp
  obtain ⟨w,hw,rfl⟩ := hp
  refine ⟨hq.1,?_⟩
  dsimp only
  have hs := fun x => setAt_ok (x := x) hq.2 hq.1
  unfold eps at hw
  repeat' split at hw
  all_goals
   simp only [List.mem_cons,List.not_mem_nil,or_false] at hw
  ·rcases hw with rfl | rfl <;> exact hq.2
  ·subst hw; exact hq.2
  ·subst hw; exact hs _
  ·subst hw; exact hq.2
  ·subst hw; exact hq.2
theorem run_saves {n : Nat} {l t st S r S'} (h : RunQ l t st S r S') : (∀ q ∈ st,q.1 ≤ t.length ∧ okS n t.length q.2.2) → ∀ x,r = some x → okS n t.length x := by
 induction h with
 | nil => intro _ x e; cases e
 | skip _ _ ih => intro hq x e; exact ih (fun q h => hq q (List.mem_cons_of_mem _ h)) x e
 | @hit q st S _ _ => intro hq x e; cases e; exact (hq q (List.mem_cons_self ..)).2
 | @go q st S r S' _ _ _ ih =>
  intro hq x e
  refine ih (fun p hp => ?_) x e
  rcases List.mem_append.1 hp with hp | hp
  ·exact suc_ok (hq q (List.mem_cons_self ..)) p hp
  ·exact hq p (List.mem_cons_of_mem _ hp)
theorem fr_saves {n : Nat} {l t nw k r} (h : Fr l t nw k r) (hn : okS n t.length nw) : ∀ x,r = some x → okS n t.length x := by
 induction h with
 | over _ => intro x e; cases e
 | hit hk hr => exact run_saves hr (fun q hq => by rw [List.mem_singleton] at hq; subst hq; exact ⟨hk,hn⟩)
 | next _ _ _ ih => exact ih
end Ab
