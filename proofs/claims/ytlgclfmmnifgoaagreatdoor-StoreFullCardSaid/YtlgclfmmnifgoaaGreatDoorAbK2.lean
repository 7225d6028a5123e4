import Derived.Test.YtlgclfmmnifgoaaGreatDoorAbY3
namespace Ab
open Go (IntKind BinOp UnOp World Value Addr Obj undef maxLen Program TypeId Oper Op Operand Act Sem Next Result execOp Builtin Calls Ending Exit)
theorem cI : ∀ {L : List Nat} {id i : Nat},place L id = some i → L[i]? = some id
 | x :: r,id,i,h => by
  simp only [place] at h
  split at h
  ·rename_i e; simp only [Option.some.injEq] at h; subst h; subst e; rfl
  ·obtain ⟨j,hj,rfl⟩ := Option.map_eq_some_iff.1 h
   simpa using cI hj
 | [],_,_,h => by cases h
theorem dM {H : Heap} : ∀ (n : Nat) (todo acc : List Nat),acc.Nodup → (ct H n todo acc).Nodup
 | 0,_,acc,h => by simpa [ct] using h
 | _ + 1,[],acc,h => by simpa [ct] using h
 | n + 1,id :: r,acc,h => by
  unfold ct
  split
  ·exact dM n r acc h
  ·rename_i hc
   refine dM n _ _ (List.nodup_append.2 ⟨h,by simp,fun a ha b hb e => ?_⟩)
   simp only [List.mem_singleton] at hb
   subst hb; subst e
   exact hc (by simpa using ha)
section
variable {N : Names} {w : World} {S : Nat → Prop} {μ : Nat → Value} {H H' : Heap} {L : List Nat}
def picked (μ : Nat → Value) (L : List Nat) : Nat → Value := fun i => match L[i]? with | some id => μ id | none => undef
theorem fb (hp : Heap.pick H L = some H') {i : Nat} {b' : Blk} (hb : H'[i]? = some b') : ∃ id b,L[i]? = some id ∧ H[id]? = some b ∧ Blk.ren (place L) b = some b' := by
 obtain ⟨_,h⟩ := aV hp
 obtain ⟨id,h1,h2⟩ := h i b' hb
 obtain ⟨b,h3,h4⟩ := Option.bind_eq_some_iff.1 h2
 exact ⟨id,b,h1,h3,h4⟩
theorem ut {r : Nat → Option Nat} {d : Nat} {v v' : AV} (h : AV.ren r d v = some v') (h1 : v.one = true) : v'.one = true := by
 cases v <;> simp only [AV.one,Bool.false_eq_true] at h1
 case p v => cases d <;> (simp only [AV.ren,Option.some.injEq] at h; subst h; exact h1)
 case own => cases d <;> (simp only [AV.ren,Option.map_eq_some_iff] at h; obtain ⟨_,_,rfl⟩ := h; rfl)
 case bx => cases d <;> (simp only [AV.ren,Option.map_eq_some_iff] at h; obtain ⟨_,_,rfl⟩ := h; rfl)
 case el => cases d <;> (simp only [AV.ren,Option.map_eq_some_iff] at h; obtain ⟨_,_,rfl⟩ := h; rfl)
 case mp => cases d <;> (simp only [AV.ren,Option.map_eq_some_iff] at h; obtain ⟨_,_,rfl⟩ := h; rfl)
 case clo f cs =>
  cases d with
  | zero => simp [AV.ren] at h
  | succ d =>
   rw [show AV.ren r (d + 1) (.clo f cs) = (mapO (AV.ren r d) cs).map (.clo f) from rfl,Option.map_eq_some_iff] at h
   obtain ⟨_,_,rfl⟩ := h; rfl
theorem j4 {r : Nat → Option Nat} {d : Nat} {μ' : Nat → Value} {cs cs' : List AV} {us : Array Value} (hm : mapO (AV.ren r d) cs = some cs') (h1 : us.size = cs.length) (h3 : ∀ j c,cs[j]? = some c → RelV N.fn w S μ H c (us.getD j undef))
  (ih : ∀ {v v' u},RelV N.fn w S μ H v u → AV.ren r d v = some v' → RelV N.fn w S μ' H' v' u) :
  us.size = cs'.length ∧ ((∀ c ∈ cs,c.one = true) → ∀ c ∈ cs',c.one = true) ∧ ∀ (j : Nat) c,cs'[j]? = some c → RelV N.fn w S μ' H' c (us.getD j undef) := by
 obtain ⟨hl,hg⟩ := aV hm
 refine ⟨by rw [h1,hl],fun ho c hc => ?_,fun j c hc => ?_⟩
 ·obtain ⟨j,hj⟩ := List.getElem?_of_mem hc
  obtain ⟨x,hx,hx'⟩ := hg j c hj
  exact ut hx' (ho x (List.mem_of_getElem? hx))
 ·obtain ⟨x,hx,hx'⟩ := hg j c hc
  exact ih (h3 j x hx) hx'
def Emb (r : Nat → Option Nat) (μ : Nat → Value) (H : Heap) (μ' : Nat → Value) (H' : Heap) : Prop :=
 ∀ id i,id < H.length → r id = some i → i < H'.length ∧ μ' i = μ id ∧ ∀ b',H'[i]? = some b' → ∃ b,H[id]? = some b ∧ Blk.ren r b = some b'
theorem Blk.ren_row_inv {r : Nat → Option Nat} {b : Blk} {f sz xs} (h : Blk.ren r b = some (.row f sz xs)) : b = .row f sz xs := by
 cases b with
 | box cs => simp only [Blk.ren,Option.map_eq_some_iff] at h; obtain ⟨_,_,h⟩ := h; cases h
 | row f' sz' xs' => simp only [Blk.ren,Option.some.injEq] at h; exact h
 | dead => simp [Blk.ren] at h
theorem Blk.ren_box_inv {r : Nat → Option Nat} {b : Blk} {cs'} (h : Blk.ren r b = some (.box cs')) : ∃ cs,b = .box cs ∧ mapO (AV.ren r 3) cs = some cs' := by
 cases b with
 | box cs => simp only [Blk.ren,Option.map_eq_some_iff] at h; obtain ⟨cs2,h2,h⟩ := h; cases h; exact ⟨cs,rfl,h2⟩
 | row f' sz' xs' => simp [Blk.ren] at h
 | dead => simp [Blk.ren] at h
theorem kr (hp : Heap.pick H L = some H') : Emb (place L) μ H (picked μ L) H' := by
 have hlen : H'.length = L.length := (aV hp).1
 intro id i _ h
 have hi := cI h
 refine ⟨by rw [hlen]; exact (List.getElem?_eq_some_iff.1 hi).1,by simp [picked,hi],fun b' hb => ?_⟩
 obtain ⟨id',b,h1,h2,h3⟩ := fb hp hb
 rw [hi] at h1; cases h1
 exact ⟨b,h2,h3⟩
theorem qR {r : Nat → Option Nat} {μ' : Nat → Value} (at0 : Emb r μ H μ' H') : ∀ (d : Nat) {v v' : AV} {u : Value},RelV N.fn w S μ H v u → AV.ren r d v = some v' → RelV N.fn w S μ' H' v' u := by
 have at_ : ∀ {id i : Nat},id < H.length → r id = some i → i < H'.length ∧ μ' i = μ id ∧ ∀ b',H'[i]? = some b' → ∃ b,H[id]? = some b ∧ Blk.ren r b = some b' := fun {id i} => at0 id i
 have leaf : ∀ (d : Nat) {v v' : AV} {u : Value},RelV N.fn w S μ H v u → AV.ren r d v = some v' → (∀ cs,v ≠ .agg cs) → (∀ cs,v ≠ .tup cs) → (∀ f cs,v ≠ .clo f cs) → RelV N.fn w S μ' H' v' u := by
  intro d v v' u h hr h1 h2 h3
  cases h with
  | p v u h => cases d <;> (simp only [AV.ren,Option.some.injEq] at hr; subst hr; exact .p _ _ h)
  | own id n u hl h h1 =>
   have hr : (r id).map (AV.own · n) = some v' := by cases d <;> simpa only [AV.ren] using hr
   obtain ⟨i,hi,rfl⟩ := Option.map_eq_some_iff.1 hr
   obtain ⟨a1,a2,a3⟩ := at_ hl hi
   refine .own i n u a1 (fun f sz xs e => ?_) h1
   obtain ⟨b,hb,hb'⟩ := a3 _ e
   rw [Blk.ren_row_inv hb'] at hb
   rw [a2]; exact h f sz xs hb
  | bx id off g u hl h h1 =>
   have hr : (r id).map (AV.bx · off) = some v' := by cases d <;> simpa only [AV.ren] using hr
   obtain ⟨i,hi,rfl⟩ := Option.map_eq_some_iff.1 hr
   obtain ⟨a1,a2,a3⟩ := at_ hl hi
   refine .bx i off g u a1 (fun cs e => ?_) h1
   obtain ⟨b,hb,hb'⟩ := a3 _ e
   obtain ⟨cs',rfl,_⟩ := Blk.ren_box_inv hb'
   rw [a2]; exact h cs' hb
  | el id n i' off u hl h h1 =>
   have hr : (r id).map (AV.el · n i' off) = some v' := by cases d <;> simpa only [AV.ren] using hr
   obtain ⟨i,hi,rfl⟩ := Option.map_eq_some_iff.1 hr
   obtain ⟨a1,a2,a3⟩ := at_ hl hi
   refine .el i n i' off u a1 (fun f sz xs e => ?_) h1
   obtain ⟨b,hb,hb'⟩ := a3 _ e
   rw [Blk.ren_row_inv hb'] at hb
   rw [a2]; exact h f sz xs hb
  | mp id g u hl h h1 =>
   have hr : (r id).map AV.mp = some v' := by cases d <;> simpa only [AV.ren] using hr
   obtain ⟨i,hi,rfl⟩ := Option.map_eq_some_iff.1 hr
   obtain ⟨a1,a2,a3⟩ := at_ hl hi
   refine .mp i g u a1 (fun cs e => ?_) h1
   obtain ⟨b,hb,hb'⟩ := a3 _ e
   obtain ⟨cs',rfl,_⟩ := Blk.ren_box_inv hb'
   rw [a2]; exact h cs' hb
  | nov => cases d <;> (simp only [AV.ren,Option.some.injEq] at hr; subst hr; exact .nov)
  | any u => cases d <;> (simp only [AV.ren,Option.some.injEq] at hr; subst hr; exact .any _)
  | agg cs => exact absurd rfl (h1 cs)
  | tup cs => exact absurd rfl (h2 cs)
  | clo f cs => exact absurd rfl (h3 f cs)
 intro d
 induction d with
 | zero =>
  intro v v' u h hr
  refine leaf 0 h hr ?_ ?_ ?_
  ·rintro cs rfl; simp [AV.ren] at hr
  ·rintro cs rfl; simp [AV.ren] at hr
  ·rintro f cs rfl; simp [AV.ren] at hr
 | succ d ih =>
  intro v v' u h hr
  by_cases ha : ∃ cs,v = .agg cs
  ·obtain ⟨cs,rfl⟩ := ha
   rw [show AV.ren r (d + 1) (.agg cs) = (mapO (AV.ren r d) cs).map .agg from rfl,Option.map_eq_some_iff] at hr
   obtain ⟨cs',hm,rfl⟩ := hr
   cases h with
   | agg _ us h1 h2 h3 =>
    obtain ⟨g1,g2,g3⟩ := j4 hm h1 h3 ih
    exact .agg cs' us g1 (g2 h2) g3
  ·by_cases ht : ∃ cs,v = .tup cs
   ·obtain ⟨cs,rfl⟩ := ht
    rw [show AV.ren r (d + 1) (.tup cs) = (mapO (AV.ren r d) cs).map .tup from rfl,Option.map_eq_some_iff] at hr
    obtain ⟨cs',hm,rfl⟩ := hr
    cases h with
    | tup _ us h1 h3 =>
     obtain ⟨g1,g2,g3⟩ := j4 hm h1 h3 ih
     exact .tup cs' us g1 g3
   ·by_cases hc : ∃ f cs,v = .clo f cs
    ·obtain ⟨f,cs,rfl⟩ := hc
     rw [show AV.ren r (d + 1) (.clo f cs) = (mapO (AV.ren r d) cs).map (.clo f) from rfl,Option.map_eq_some_iff] at hr
     obtain ⟨cs',hm,rfl⟩ := hr
     cases h with
     | clo _ _ us h1 h2 h3 =>
      obtain ⟨g1,g2,g3⟩ := j4 hm h1 h3 ih
      exact .clo f cs' us g1 (g2 h2) g3
    ·exact leaf (d + 1) h hr (fun cs e => ha ⟨cs,e⟩) (fun cs e => ht ⟨cs,e⟩) (fun f cs e => hc ⟨f,cs,e⟩)
theorem ren_ok {r : Nat → Option Nat} {d : Nat} {v v' : AV} (h : AV.ren r d v = some v') (hv : v.ok = true) : v'.ok = true := by
 cases v with
 | p v => cases d <;> simp [AV.ren] at h <;> subst h <;> rfl
 | own id n => cases d <;> simp only [AV.ren,Option.map_eq_some_iff] at h <;> obtain ⟨_,_,rfl⟩ := h <;> rfl
 | bx id n => cases d <;> simp only [AV.ren,Option.map_eq_some_iff] at h <;> obtain ⟨_,_,rfl⟩ := h <;> rfl
 | el id n i o => cases d <;> simp only [AV.ren,Option.map_eq_some_iff] at h <;> obtain ⟨_,_,rfl⟩ := h <;> rfl
 | mp id => cases d <;> simp only [AV.ren,Option.map_eq_some_iff] at h <;> obtain ⟨_,_,rfl⟩ := h <;> rfl
 | agg cs =>
  cases d with
  | zero => simp [AV.ren] at h
  | succ d => simp only [AV.ren,Option.map_eq_some_iff] at h; obtain ⟨_,_,rfl⟩ := h; rfl
 | clo f cs =>
  cases d with
  | zero => simp [AV.ren] at h
  | succ d => simp only [AV.ren,Option.map_eq_some_iff] at h; obtain ⟨_,_,rfl⟩ := h; rfl
 | tup cs => cases hv
 | nov => cases hv
 | any => cases hv
theorem u7 {r : Nat → Option Nat} : ∀ {es : List (PV × AV)} {cs' : List AV},mapO (AV.ren r 3) (ef es) = some cs' →
  ∃ es',cs' = ef es' ∧ es'.length = es.length ∧ ∀ (j : Nat) k v,es'[j]? = some (k,v) → ∃ v0,es[j]? = some (k,v0) ∧ AV.ren r 3 v0 = some v
 | [],cs',h => by
  simp only [ef,mapO,Option.some.injEq] at h
  subst h
  exact ⟨[],rfl,rfl,fun j k v hj => by simp at hj⟩
 | (k,v) :: es,cs',h => by
  simp only [ef,mapO,AV.ren] at h
  split at h
  ·rename_i xs hxs
   simp only [Option.some.injEq] at h
   subst h
   split at hxs
   ·rename_i v' hv
    split at hxs
    ·rename_i ys hys
     simp only [Option.some.injEq] at hxs
     subst hxs
     obtain ⟨es',rfl,g1,g2⟩ := u7 hys
     refine ⟨(k,v') :: es',rfl,by simp [g1],fun j k1 v1 hj => ?_⟩
     cases j with
     | zero =>
      simp only [List.getElem?_cons_zero,Option.some.injEq,Prod.mk.injEq] at hj
      obtain ⟨rfl,rfl⟩ := hj
      exact ⟨v,rfl,hv⟩
     | succ j => simpa using g2 j k1 v1 (by simpa using hj)
    ·cases hxs
   ·cases hxs
  ·cases h
theorem renMapC {r : Nat → Option Nat} {es : List (PV × AV)} {cs' : List AV} (h : mapO (AV.ren r 3) (ah es) = some cs') :
  ∃ es',cs' = ah es' ∧ es'.length = es.length ∧ ∀ (j : Nat) k v,es'[j]? = some (k,v) → ∃ v0,es[j]? = some (k,v0) ∧ AV.ren r 3 v0 = some v := by
 unfold ah at h
 simp only [mapO,AV.ren] at h
 split at h
 ·rename_i xs hxs
  simp only [Option.some.injEq] at h
  subst h
  split at hxs
  ·rename_i ys hys
   simp only [Option.some.injEq] at hxs
   subst hxs
   obtain ⟨es',rfl,g1,g2⟩ := u7 hys
   exact ⟨es',rfl,g1,g2⟩
  ·cases hxs
 ·cases h
theorem B2 {r : Nat → Option Nat} {μ' : Nat → Value} (hE : Emb r μ H μ' H') {id i : Nat} {b b' : Blk} (hb : BlkRel N.fn w S μ H id b) (h : Blk.ren r b = some b') (hμ : μ' i = μ id) : BlkRel N.fn w S μ' H' i b' := by
 cases b with
 | box cs =>
  simp only [Blk.ren,Option.map_eq_some_iff] at h
  obtain ⟨cs',hm,rfl⟩ := h
  obtain ⟨g,e1,⟨us,t,e2,e3,e4,e5⟩ | ⟨s,pos,rfl,e2⟩ | ⟨es,arr,clock,rfl,e2,est,e3,e4⟩⟩ := hb
  ·obtain ⟨g1,g2,g3⟩ := j4 hm e3 e5 (qR hE 3)
   exact ⟨g,by rw [hμ]; exact e1,.inl ⟨us,t,e2,g1,g2 e4,g3⟩⟩
  ·simp only [cv,mapO,AV.ren,Option.some.injEq] at hm
   subst hm
   exact ⟨g,by rw [hμ]; exact e1,.inr (.inl ⟨s,pos,rfl,e2⟩)⟩
  ·obtain ⟨es',rfl,g1,g2⟩ := renMapC hm
   refine ⟨g,by rw [hμ]; exact e1,.inr (.inr ⟨es',arr,clock,rfl,e2,est,by rw [e3,g1],fun j k v hj => ?_⟩)⟩
   obtain ⟨v0,hv0,hr⟩ := g2 j k v hj
   obtain ⟨e,f1,f2,f3,f4⟩ := e4 j k v0 hv0
   exact ⟨e,f1,f2,ren_ok hr f3,qR hE 3 f4 hr⟩
 | row f sz xs =>
  simp only [Blk.ren,Option.some.injEq] at h; subst h
  simp only [BlkRel,hμ]
  exact hb
 | dead =>
  simp only [Blk.ren,Option.some.injEq] at h; subst h
  simp only [BlkRel,hμ]
  exact hb
theorem eR {r : Nat → Option Nat} {b b' : Blk} (h : Blk.ren r b = some b') (ha : bj b') : bj b := by
 rcases ha with ⟨cs,rfl⟩ | ⟨sz,xs,rfl⟩
 ·obtain ⟨cs',rfl,_⟩ := Blk.ren_box_inv h; exact .inl ⟨_,rfl⟩
 ·rw [Blk.ren_row_inv h]; exact .inr ⟨_,_,rfl⟩
theorem nJ {r : Nat → Option Nat} {μ' : Nat → Value} (hE : Emb r μ H μ' H') {d : Nat} : ∀ {us : List Value} {vs vs' : List AV},All2 (fun u x => RelV N.fn w S μ H x u) us vs → mapO (AV.ren r d) vs = some vs' → All2 (fun u x => RelV N.fn w S μ' H' x u) us vs'
 | [],[],vs',_,h => by simp only [mapO,Option.some.injEq] at h; subst h; trivial
 | u :: us,v :: vs,vs',ha,h => by
  simp only [mapO] at h
  split at h
  ·rename_i x hx
   split at h
   ·rename_i xs hxs
    simp only [Option.some.injEq] at h; subst h
    exact ⟨qR hE d ha.1 hx,nJ hE ha.2 hxs⟩
   ·cases h
  ·cases h
 | [],_ :: _,_,h,_ => by cases h
 | _ :: _,[],_,h,_ => by cases h
theorem eb (hp : Heap.pick H L = some H') {i : Nat} {b' : Blk} (hb : H'[i]? = some b') (ha : bj b') : ∃ id b,L[i]? = some id ∧ H[id]? = some b ∧ bj b ∧ picked μ L i = μ id := by
 obtain ⟨id,b,h1,h2,h3⟩ := fb hp hb
 exact ⟨id,b,h1,h2,eR h3 ha,by simp [picked,h1]⟩
theorem za {L : List Nat} (hL : L.Nodup) {i j x : Nat} (h1 : L[i]? = some x) (h2 : L[j]? = some x) : i = j := by
 obtain ⟨x1,y1⟩ := List.getElem?_eq_some_iff.1 h1
 obtain ⟨x2,y2⟩ := List.getElem?_eq_some_iff.1 h2
 have pw := List.pairwise_iff_getElem.1 hL
 rcases Nat.lt_trichotomy i j with h | h | h
 ·exact absurd (y1.trans y2.symm) (pw i j x1 x2 h)
 ·exact h
 ·exact absurd (y2.trans y1.symm) (pw j i x2 x1 h)
theorem lj {H : Heap} {i : Nat} (h : (∃ cs,H[i]? = some (Blk.box cs)) ∨ ∃ sz xs,H[i]? = some (Blk.row false sz xs)) : ∃ b,H[i]? = some b ∧ bj b := by
 rcases h with ⟨cs,h⟩ | ⟨sz,xs,h⟩
 ·exact ⟨_,h,.inl ⟨cs,rfl⟩⟩
 ·exact ⟨_,h,.inr ⟨sz,xs,rfl⟩⟩
theorem kx (hr : Rel N.fn w S μ H) (hL : L.Nodup) (hp : Heap.pick H L = some H') : Run N.fn w S μ H w S (picked μ L) H' := by
 have hal : ∀ g,alive (picked μ L) H' g → alive μ H g := fun g h => by
  obtain ⟨i,b',h1,h2,h3⟩ := alive_iff.1 h
  obtain ⟨id,b,_,h5,h6,h7⟩ := eb (μ := μ) hp h1 h2
  exact alive_iff.2 ⟨id,b,h5,h6,by rw [← h7]; exact h3⟩
 refine ⟨⟨hr.lt,fun i b' hb => ?_,fun g h => hr.apart g (hal g h),fun i j g hi hj ai aj => ?_⟩,⟨rfl,rfl,rfl,Nat.le_refl _,fun _ _ _ => rfl,fun _ h => h,fun g h _ => .inl h,fun g h _ => hal g h⟩⟩
 ·obtain ⟨id,b,h1,h2,h3⟩ := fb hp hb
  exact B2 (kr hp) (hr.blk id b h2) h3 (by simp [picked,h1])
 ·obtain ⟨b1,h1,a1⟩ := lj ai
  obtain ⟨b2,h2,a2⟩ := lj aj
  obtain ⟨id1,c1,l1,k1,al1,m1⟩ := eb (μ := μ) hp h1 a1
  obtain ⟨id2,c2,l2,k2,al2,m2⟩ := eb (μ := μ) hp h2 a2
  have := hr.inj' k1 k2 al1 al2 (by rw [← m1]; exact hi) (by rw [← m2]; exact hj)
  subst this
  exact za hL l1 l2
theorem xZ (hr : Rel N.fn w S μ H) {id : Nat} {b0 : Blk} (hb : H[id]? = some b0) : Step N.fn w S μ H w (fun g => S g ∨ au (μ id) = some g) μ (H.set id (jd b0)) := by
 have hlt := (List.getElem?_eq_some_iff.1 hb).1
 have get : ∀ (i : Nat) b,(H.set id (jd b0))[i]? = some b → (i = id ∧ b = jd b0) ∨ (i ≠ id ∧ H[i]? = some b) := by
  intro i b h
  simp only [List.getElem?_set,hlt,if_true] at h
  split at h
  ·rename_i e; subst e; simp only [Option.some.injEq] at h; exact .inl ⟨rfl,h.symm⟩
  ·rename_i e; exact .inr ⟨Ne.symm e,h⟩
 have hm : Moves μ H μ (H.set id (jd b0)) := by
  refine ⟨by simp,fun i f' sz' ys hl h => ?_,fun i cs hl h => ?_⟩
  ·rcases get i _ h with ⟨rfl,e⟩ | ⟨_,h⟩
   ·cases b0 with
    | row f sz xs => simp only [jd,Blk.row.injEq] at e; obtain ⟨_,rfl,rfl⟩ := e; exact ⟨f,_,hb,Nat.le_refl _,fun _ => rfl⟩
    | box => cases e
    | dead => cases e
   ·exact ⟨f',ys,h,Nat.le_refl _,fun _ => rfl⟩
  ·rcases get i _ h with ⟨rfl,e⟩ | ⟨_,h⟩
   ·cases b0 <;> cases e
   ·exact ⟨cs,h,rfl⟩
 have nal : ¬ bj (jd b0) := by
  rintro (⟨cs,e⟩ | ⟨a,b,e⟩) <;> (cases b0 <;> cases e)
 have al : ∀ (i : Nat) b,(H.set id (jd b0))[i]? = some b → bj b → i ≠ id ∧ H[i]? = some b := by
  intro i b h ha
  rcases get i b h with ⟨rfl,rfl⟩ | h
  ·exact absurd ha nal
  ·exact h
 have alg : ∀ g,alive μ (H.set id (jd b0)) g → alive μ H g := by
  intro g ha
  obtain ⟨i,b,h1,h2,h3⟩ := alive_iff.1 ha
  exact alive_iff.2 ⟨i,b,(al i b h1 h2).2,h2,h3⟩
 -- a block that is not alive is stable already
 have cold : ¬ bj b0 → ∀ g,au (μ id) = some g → S g := by
  intro hn g hg
  have h := hr.blk id _ hb
  cases b0 with
  | box cs => exact absurd (.inl ⟨cs,rfl⟩) hn
  | dead => exact h g hg
  | row f sz xs =>
   cases f with
   | false => exact absurd (.inr ⟨sz,xs,rfl⟩) hn
   | true => obtain ⟨_,_,us,_,_,_,h5⟩ := h; exact h5 rfl g hg
 refine ⟨⟨fun g h => ?_,fun i b h => ?_,fun g ha hs => ?_,fun i j g hi hj ai aj => ?_⟩,⟨rfl,rfl,rfl,Nat.le_refl _,fun _ _ _ => rfl,fun g h => .inl h,fun g h _ => ?_,fun g h _ => alg g h⟩,hm⟩
 ·rcases h with h | h
  ·exact hr.lt g h
  ·exact hr.blk_lt hb h
 ·have old : ∀ b',H[i]? = some b' → BlkRel N.fn w (fun g => S g ∨ au (μ id) = some g) μ (H.set id (jd b0)) i b' := fun b' hb' => (hr.blk i b' hb').keep (fun _ h => .inl h) (fun _ _ => rfl) hm rfl (fun _ _ => rfl)
  rcases get i b h with ⟨rfl,rfl⟩ | ⟨_,h⟩
  ·have := old _ hb
   cases b0 with
   | row f sz xs =>
    obtain ⟨h0,hl,us,h1,h2,h3,_⟩ := this
    exact ⟨h0,hl,us,h1,h2,h3,fun _ g hg => .inr hg⟩
   | box => exact fun g hg => .inr hg
   | dead => exact fun g hg => .inr hg
  ·exact old b h
 ·rcases hs with hs | hs
  ·exact hr.apart g (alg g ha) hs
  ·obtain ⟨i,b,h1,h2,h3⟩ := alive_iff.1 ha
   obtain ⟨hne,h4⟩ := al i b h1 h2
   by_cases h0 : bj b0
   ·exact hne (hr.inj' h4 hb h2 h0 h3 hs)
   ·exact hr.apart g (alg g ha) (cold h0 g hs)
 ·obtain ⟨b1,h1,a1⟩ := lj ai
  obtain ⟨b2,h2,a2⟩ := lj aj
  exact hr.inj' (al i b1 h1 a1).2 (al j b2 h2 a2).2 a1 a2 hi hj
 ·rcases h with h | h
  ·exact .inl h
  ·by_cases h0 : bj b0
   ·exact .inr (alive_iff.2 ⟨id,_,hb,h0,h⟩)
   ·exact .inl (cold h0 g h)
theorem oD : ∀ (L : List Nat) {S : Nat → Prop} {H : Heap},Rel N.fn w S μ H → ∃ S',Step N.fn w S μ H w S' μ (kill H L) ∧ ∀ id ∈ L,∀ b g,H[id]? = some b → au (μ id) = some g → S' g
 | [],S,H,hr => ⟨S,.refl hr,by simp⟩
 | id :: L,S,H,hr => by
  simp only [kill]
  cases hb : H[id]? with
  | none =>
   obtain ⟨S',h1,h2⟩ := oD L hr
   refine ⟨S',h1,fun i hi b g hb' hg => ?_⟩
   rcases List.mem_cons.1 hi with rfl | hi
   ·rw [hb] at hb'; cases hb'
   ·exact h2 i hi b g hb' hg
  | some b0 =>
   have hs := xZ hr hb
   obtain ⟨S',h1,h2⟩ := oD L hs.rel
   refine ⟨S',hs.trans h1,fun i hi b g hb' hg => ?_⟩
   by_cases he : i = id
   ·subst he; exact h1.ext.more g (.inr hg)
   ·rcases List.mem_cons.1 hi with rfl | hi
    ·exact absurd rfl he
    ·exact h2 i hi b g (by rw [List.getElem?_set_ne (Ne.symm he)]; exact hb') hg
theorem eM (hr : Rel N.fn w S μ H) {vs : List AV} {us : List Value} {ps : List PV} (hq : cl H vs = some (ps,H')) (ha : All2 (fun u x => RelV N.fn w S μ H x u) us vs) :
  ∃ S',Step N.fn w S μ H w S' μ H' ∧ All2 (fun u p => RelP N.fn w S' p u) us ps := by
 unfold cl at hq
 obtain ⟨vs',h1,hq⟩ := Option.bind_eq_some_iff.1 hq
 obtain ⟨HL,h2,hq⟩ := Option.bind_eq_some_iff.1 hq
 obtain ⟨ps',h3,hq⟩ := Option.map_eq_some_iff.1 hq
 simp only [Prod.mk.injEq] at hq
 obtain ⟨rfl,rfl⟩ := hq
 have hL := dM (H := H) 64 (vs.flatMap AV.refs) [] (by simp)
 obtain ⟨S',g1,g2⟩ := oD (ct H 64 (vs.flatMap AV.refs) []) hr
 have hrun := kx hr hL h2
 refine ⟨S',g1,d5 (nJ (kr h2) ha h1) h3 fun v _ u p hvu hp => ku hrun.rel g1.ext.more (fun i b g hb hg => ?_) 4 hvu hp⟩
 obtain ⟨id,b0,k1,k2,k3⟩ := fb h2 hb
 exact g2 id (List.mem_of_getElem? k1) b0 g k2 (by simpa [picked,k1] using hg)
end
end Ab
namespace Ab
open Go (IntKind BinOp UnOp World Value Addr Obj undef maxLen Program TypeId Oper Op Operand Act Sem Next Result execOp Builtin Calls Ending Exit)
theorem vB : ∀ {L : List Nat} {i x : Nat},L.Nodup → L[i]? = some x → place L x = some i
 | [],i,x,_,h => by simp at h
 | y :: L,i,x,hn,h => by
  obtain ⟨h1,h2⟩ := List.nodup_cons.1 hn
  simp only [place]
  cases i with
  | zero => simp only [List.getElem?_cons_zero,Option.some.injEq] at h; simp [h]
  | succ i =>
   have h : L[i]? = some x := by simpa using h
   have : y ≠ x := by rintro rfl; exact h1 (List.mem_of_getElem? h)
   rw [if_neg this,vB h2 h]; rfl
theorem xO {L : List Nat} {x : Nat} (h : place L x = none) : x ∉ L := by
 induction L with
 | nil => simp
 | cons y L ih =>
  simp only [place] at h
  split at h
  ·cases h
  ·rename_i hne
   simp only [Option.map_eq_none_iff] at h
   simp only [List.mem_cons,not_or]
   exact ⟨fun e => hne e.symm,ih h⟩
theorem fa {H : Heap} : ∀ (n : Nat) (todo acc : List Nat),∃ X,ct H n todo acc = acc ++ X
 | 0,_,acc => ⟨[],by simp [ct]⟩
 | _ + 1,[],acc => ⟨[],by simp [ct]⟩
 | n + 1,id :: r,acc => by
  unfold ct
  split
  ·exact fa n r acc
  ·obtain ⟨X,hX⟩ := fa (H := H) n (r ++ (match H[id]? with | some b => b.refs | none => [])) (acc ++ [id])
   exact ⟨id :: X,hX.trans (by simp)⟩
theorem da : ∀ {L : List Nat} {bs : List Blk} {H : Heap},(bC H L bs).length = H.length
 | [],bs,H => by cases bs <;> rfl
 | id :: L,[],H => rfl
 | id :: L,b :: bs,H => by simp only [bC]; rw [da]; simp
theorem jT : ∀ {L : List Nat} {bs : List Blk} {H : Heap} {id : Nat},L.Nodup → (∀ x ∈ L,x < H.length) → L.length ≤ bs.length →
  (bC H L bs)[id]? = match place L id with | some i => bs[i]? | none => H[id]?
 | [],bs,H,id,_,_,_ => by cases bs <;> rfl
 | x :: L,[],H,id,_,_,h => by simp at h
 | x :: L,b :: bs,H,id,hn,hl,h => by
  obtain ⟨h1,h2⟩ := List.nodup_cons.1 hn
  simp only [bC]
  rw [jT h2 (fun y hy => by simpa using hl y (by simp [hy])) (by simpa using h)]
  simp only [place]
  by_cases he : x = id
  ·subst he
   have : place L x = none := by
    cases hp : place L x with
    | none => rfl
    | some i => exact absurd (List.mem_of_getElem? (cI hp)) h1
   have hlt := hl x (by simp)
   rw [this,if_pos rfl]; simp [hlt]
  ·rw [if_neg he]
   cases hp : place L id with
   | none => simp [List.getElem?_set_ne he]
   | some i => simp
section
variable {Γ : Ctx} {cal : Nat → List AV → Heap → Option (List AV × Heap)}
theorem dA {H E : Heap} {id n : Nat} {r : Nat × List PV} (h : rowOf H id n = some r) : rowOf (H ++ E) id n = some r := by
 unfold rowOf at *
 cases hb : H[id]? with
 | none => simp [hb] at h
 | some b => rw [List.getElem?_append_left (List.getElem?_eq_some_iff.1 hb).1,hb]; rw [hb] at h; exact h
theorem mD {H E : Heap} {id : Nat} {cs : List AV} (h : bN H id = some cs) : bN (H ++ E) id = some cs := by
 unfold bN at *
 cases hb : H[id]? with
 | none => simp [hb] at h
 | some b => rw [List.getElem?_append_left (List.getElem?_eq_some_iff.1 hb).1,hb]; rw [hb] at h; exact h
theorem vq {H E : Heap} {id : Nat} {es : List (PV × AV)} (h : mapOf H id = some es) : mapOf (H ++ E) id = some es := by
 unfold mapOf at *
 cases hb : H[id]? with
 | none => simp [hb] at h
 | some b => rw [List.getElem?_append_left (List.getElem?_eq_some_iff.1 hb).1,hb]; rw [hb] at h; exact h
theorem kR {α β : Type} {f g : α → Option β} (hfg : ∀ a b,f a = some b → g a = some b) : ∀ {l : List α} {r : List β},mapO f l = some r → mapO g l = some r
 | [],_,h => h
 | a :: l,r,h => by
  simp only [mapO] at h ⊢
  cases ha : f a with
  | none => simp [ha] at h
  | some b =>
   rw [ha] at h
   cases hl : mapO f l with
   | none => simp [hl] at h
   | some bs => rw [hfg a b ha,kR hfg hl]; rw [hl] at h; exact h
theorem qf {H E : Heap} : ∀ (d : Nat) (v : AV) (p : PV),aq H d v = some p → aq (H ++ E) d v = some p
 | 0,v,p,h => by cases v <;> first | exact h | cases h
 | d + 1,v,p,h => by
  have ih := qf (H := H) (E := E) d
  cases v with
  | p v => exact h
  | own id n =>
   rw [show aq H (d + 1) (.own id n) = (rowOf H id n).map fun r => .sl .any r.1 r.2 from rfl,Option.map_eq_some_iff] at h
   obtain ⟨r,h1,h2⟩ := h
   rw [show aq (H ++ E) (d + 1) (.own id n) = (rowOf (H ++ E) id n).map fun r => .sl .any r.1 r.2 from rfl,dA h1,Option.map_some,h2]
  | bx id off =>
   rw [show aq H (d + 1) (.bx id off) = (bN H id).bind fun cs => if off < cs.length then (mapO (aq H d) (cs.drop off)).map .ptr else none from rfl,Option.bind_eq_some_iff] at h
   obtain ⟨cs,h1,h2⟩ := h
   rw [show aq (H ++ E) (d + 1) (.bx id off) = (bN (H ++ E) id).bind fun cs => if off < cs.length then (mapO (aq (H ++ E) d) (cs.drop off)).map .ptr else none from rfl,mD h1,Option.bind_some]
   split at h2
   ·rename_i hl
    rw [if_pos hl]
    obtain ⟨xs,h3,h4⟩ := Option.map_eq_some_iff.1 h2
    rw [kR ih h3,Option.map_some,h4]
   ·cases h2
  | el id n i off =>
   simp only [aq] at h ⊢
   split at h
   ·rename_i hni
    rw [if_pos hni]
    obtain ⟨r,h1,h2⟩ := Option.bind_eq_some_iff.1 h
    rw [dA h1]; exact h2
   ·rename_i hni
    rw [if_neg hni]
    obtain ⟨r,h1,h2⟩ := Option.bind_eq_some_iff.1 h
    rw [dA h1]; exact h2
  | mp id => simp [aq] at h
  | agg cs =>
   rw [show aq H (d + 1) (.agg cs) = (mapO (aq H d) cs).map .agg from rfl,Option.map_eq_some_iff] at h
   obtain ⟨xs,h1,h2⟩ := h
   rw [show aq (H ++ E) (d + 1) (.agg cs) = (mapO (aq (H ++ E) d) cs).map .agg from rfl,kR ih h1,Option.map_some,h2]
  | clo f cs =>
   rw [show aq H (d + 1) (.clo f cs) = (mapO (aq H d) cs).map (.clo f) from rfl,Option.map_eq_some_iff] at h
   obtain ⟨xs,h1,h2⟩ := h
   rw [show aq (H ++ E) (d + 1) (.clo f cs) = (mapO (aq (H ++ E) d) cs).map (.clo f) from rfl,kR ih h1,Option.map_some,h2]
  | tup cs => cases h
  | nov => cases h
  | any => cases h
theorem BM {H E : Heap} {id n i : Nat} (h : elOk H id n i = true) : elOk (H ++ E) id n i = true := by
 unfold elOk at *
 cases hr : rowOf H id n with
 | none => simp [hr] at h
 | some r => rw [dA hr]; rw [hr] at h; exact h
theorem evQ_up {σ : Nat → AV} {H E : Heap} {q : QOp} {v : AV} (h : evQ Γ cal σ H q = some v) : evQ Γ cal σ (H ++ E) q = some v := by
 cases q
 case nilchk x =>
  simp only [evQ] at h ⊢
  generalize x.ev Γ σ = y at h ⊢
  unfold eS at h ⊢
  split at h
  all_goals first
   | exact h
   | (simp only [ifB_some] at h ⊢; exact ⟨BM h.1,h.2⟩)
   | cases h
 case strOf x =>
  simp only [evQ] at h ⊢
  generalize x.ev Γ σ = y at h ⊢
  unfold kJ at h ⊢
  split at h
  ·exact h
  ·obtain ⟨r,h1,h2⟩ := Option.bind_eq_some_iff.1 h
   simp only [dA h1]
   exact h2
  ·cases h
 case len s x =>
  simp only [evQ] at h ⊢
  generalize x.ev Γ σ = y at h ⊢
  obtain ⟨n,h1,h2⟩ := Option.map_eq_some_iff.1 h
  have : asLen (H ++ E) s y = some n := by
   unfold asLen at h1 ⊢
   split at h1
   ·exact h1
   ·exact h1
   ·obtain ⟨r,h3,h4⟩ := Option.map_eq_some_iff.1 h1
    subst h4
    rw [dA h3]; rfl
   ·cases h1
  rw [this,Option.map_some,h2]
 case faddr off x =>
  simp only [evQ] at h ⊢
  generalize x.ev Γ σ = y at h ⊢
  unfold ju at h ⊢
  split at h
  all_goals first
   | exact h
   | (simp only [ifB_some] at h ⊢; exact ⟨BM h.1,h.2⟩)
   | cases h
 case iaddr sz x i =>
  simp only [evQ] at h ⊢
  generalize x.ev Γ σ = y at h ⊢
  generalize i.ev Γ σ = z at h ⊢
  unfold iaddrA at h ⊢
  split at h
  ·exact h
  ·obtain ⟨r,h1,h2⟩ := Option.bind_eq_some_iff.1 h
   simp only [dA h1]
   exact h2
  ·cases h
 case load sz ag x =>
  simp only [evQ] at h ⊢
  generalize x.ev Γ σ = y at h ⊢
  unfold eH at h ⊢
  split at h
  ·exact h
  ·obtain ⟨r,h1,h2⟩ := Option.bind_eq_some_iff.1 h
   simp only [mD h1]
   exact h2
  ·obtain ⟨r,h1,h2⟩ := Option.bind_eq_some_iff.1 h
   simp only [dA h1]
   exact h2
  ·cases h
 case wslice sz x lo hi =>
  simp only [evQ] at h ⊢
  generalize x.ev Γ σ = y at h ⊢
  unfold gF at h ⊢
  split at h
  ·obtain ⟨r,h1,h2⟩ := Option.bind_eq_some_iff.1 h
   simp only [dA h1]
   exact h2
  ·cases h
 case lenk x k =>
  simp only [evQ] at h ⊢
  generalize x.ev Γ σ = y at h ⊢
  generalize k.ev Γ σ = z at h ⊢
  unfold yp at h ⊢
  split at h
  ·obtain ⟨cs,h1,h2⟩ := Option.bind_eq_some_iff.1 h
   rw [ifB_some] at h2
   obtain ⟨h2,h3⟩ := h2
   obtain ⟨n,h4,h5⟩ := Option.map_eq_some_iff.1 h3
   have : asLen (H ++ E) false y = some n := by
    unfold asLen at h4 ⊢
    split at h4
    ·exact h4
    ·exact h4
    ·obtain ⟨r,h6,h7⟩ := Option.map_eq_some_iff.1 h4
     simp only [dA h6]
     exact congrArg some h7
    ·exact h4
   simp only [mD h1,Option.bind_some,h2,this,Option.map_some,h5,ifB]
  ·cases h
 case loadk sz ag x k =>
  simp only [evQ] at h ⊢
  generalize x.ev Γ σ = y at h ⊢
  generalize k.ev Γ σ = z at h ⊢
  unfold oA at h ⊢
  split at h
  ·split at h
   ·rename_i e
    rw [if_pos e]
    unfold eH at h ⊢
    obtain ⟨r,h1,h2⟩ := Option.bind_eq_some_iff.1 h
    simp only [mD h1]
    exact h2
   ·cases h
  ·cases h
 case mget kd zero comma x k =>
  simp only [evQ] at h ⊢
  generalize x.ev Γ σ = y at h ⊢
  generalize k.ev Γ σ = z at h ⊢
  unfold w6 at h ⊢
  split at h
  ·exact h
  ·simp only [ifB_some,Option.bind_eq_some_iff] at h ⊢
   obtain ⟨h1,es,h2,h3⟩ := h
   exact ⟨h1,es,vq h2,h3⟩
  ·cases h
 case mlen x =>
  simp only [evQ] at h ⊢
  generalize x.ev Γ σ = y at h ⊢
  unfold BT at h ⊢
  split at h
  ·exact h
  ·obtain ⟨es,h1,h2⟩ := Option.map_eq_some_iff.1 h
   simp only [vq h1,Option.map_some,h2]
  ·cases h
 case isnil neg x k =>
  simp only [evQ] at h ⊢
  generalize x.ev Γ σ = y at h ⊢
  generalize k.ev Γ σ = z at h ⊢
  unfold kn at h ⊢
  split at h
  ·obtain ⟨r,h1,h2⟩ := Option.bind_eq_some_iff.1 h
   simp only [dA h1]
   exact h2
  ·exact h
 case call f args =>
  simp only [evQ,Option.bind_eq_some_iff] at h ⊢
  obtain ⟨rs,h1,h2⟩ := h
  refine ⟨rs,?_,h2⟩
  unfold mi at *
  simp only [Option.bind_eq_some_iff] at *
  obtain ⟨fc,h3,ps,h4,r,h5,h6⟩ := h1
  exact ⟨fc,h3,ps,kR (qf 4) h4,r,h5,h6⟩
 case callr f args =>
  simp only [evQ,ma,Option.map_eq_some_iff,Option.bind_eq_some_iff] at h ⊢
  obtain ⟨rs,⟨fc,h3,ps,h4,r,h5,h6⟩,h2⟩ := h
  exact ⟨rs,⟨fc,h3,ps,kR (qf 4) h4,r,h5,h6⟩,h2⟩
 all_goals exact h
end
section
variable {Γ : Ctx} {N : Names} {P : Program} {w w' : World} {S S' : Nat → Prop} {μ μ' : Nat → Value} {H HL B B' : Heap} {L L2 : List Nat} {σ : Nat → AV} {a : Act}
 {cal : Nat → List AV → Heap → Option (List AV × Heap)}
theorem Rel.cold (hr : Rel N.fn w S μ H) {id : Nat} {b : Blk} (hb : H[id]? = some b) (hn : ¬ bj b) {g : Nat} (hg : au (μ id) = some g) : S g := by
 have h := hr.blk id _ hb
 cases b with
 | box cs => exact absurd (.inl ⟨cs,rfl⟩) hn
 | dead => exact h g hg
 | row f sz xs =>
  cases f with
  | false => exact absurd (.inr ⟨sz,xs,rfl⟩) hn
  | true => obtain ⟨_,_,us,_,_,_,h5⟩ := h; exact h5 rfl g hg
theorem xp (hr : Rel N.fn w S μ H) (hL : L.Nodup) (hp : Heap.pick H L = some HL) (hrun : Run N.fn w S (picked μ L) HL w' S' μ' B) (hmv : L ≠ [] → Moves (picked μ L) HL μ' B)
  (hL2 : L2.Nodup) (hpre : ∃ X,L2 = List.range L.length ++ X) (hp2 : Heap.pick B L2 = some B') {bs : List Blk} (hbs : mapO (Blk.ren (backTo H L)) B' = some bs) :
  ∃ μF,Step N.fn w S μ H w' S' μF (bC H L bs ++ bs.drop L.length) ∧ Emb (backTo H L) (picked μ' L2) B' μF (bC H L bs ++ bs.drop L.length) := by
 obtain ⟨X,hX⟩ := hpre
 have hkL : HL.length = L.length := (aV hp).1
 have hB'len : B'.length = L2.length := (aV hp2).1
 have hbl : bs.length = B'.length := (aV hbs).1
 have hk : L.length ≤ bs.length := by rw [hbl,hB'len,hX]; simp
 have hlt : ∀ x ∈ L,x < H.length := fun x hx => by
  obtain ⟨i,hi⟩ := List.getElem?_of_mem hx
  obtain ⟨_,h⟩ := aV hp
  have hlt' : i < HL.length := by rw [hkL]; exact (List.getElem?_eq_some_iff.1 hi).1
  obtain ⟨id,h1,h2⟩ := h i _ (List.getElem?_eq_getElem hlt')
  rw [hi] at h1; cases h1
  obtain ⟨b,h3,_⟩ := Option.bind_eq_some_iff.1 h2
  exact (List.getElem?_eq_some_iff.1 h3).1
 have hpick := kx hr hL hp
 have hrun2 : Run N.fn w S (picked μ L) HL w' S' (picked μ' L2) B' := hrun.trans (kx hrun.rel hL2 hp2)
 have hfirst : ∀ i,i < L.length → L2[i]? = some i := fun i hi => by
  rw [hX,List.getElem?_append_left (by simpa using hi)]; simp [hi]
 let μF : Nat → Value := fun id => match place L id with
  | some i => picked μ' L2 i
  | none => if id < H.length then μ id else picked μ' L2 (L.length + (id - H.length))
 have hFlen : (bC H L bs ++ bs.drop L.length).length = H.length + (bs.length - L.length) := by simp [da]
 have hF1 : ∀ id i,place L id = some i → (bC H L bs ++ bs.drop L.length)[id]? = bs[i]? ∧ μF id = picked μ' L2 i := fun id i h => by
  have hid := hlt id (List.mem_of_getElem? (cI h))
  refine ⟨?_,by simp [μF,h]⟩
  rw [List.getElem?_append_left (by rw [da]; exact hid),jT hL hlt hk,h]
 have hF2 : ∀ id,id < H.length → place L id = none → (bC H L bs ++ bs.drop L.length)[id]? = H[id]? ∧ μF id = μ id := fun id hid h => by
  refine ⟨?_,by simp [μF,h,hid]⟩
  rw [List.getElem?_append_left (by rw [da]; exact hid),jT hL hlt hk,h]
 have hnone : ∀ id,H.length ≤ id → place L id = none := fun id hid => by
  cases h : place L id with
  | none => rfl
  | some i => have := hlt id (List.mem_of_getElem? (cI h)); omega
 have hF3 : ∀ id,H.length ≤ id → (bC H L bs ++ bs.drop L.length)[id]? = bs[L.length + (id - H.length)]? ∧ μF id = picked μ' L2 (L.length + (id - H.length)) := fun id hid => by
  refine ⟨?_,?_⟩
  ·rw [List.getElem?_append_right (by rw [da]; exact hid),da,List.getElem?_drop]
  ·simp only [μF,hnone id hid]; rw [if_neg (by omega)]
 have hren : ∀ (i : Nat) b,bs[i]? = some b → ∃ b0,B'[i]? = some b0 ∧ Blk.ren (backTo H L) b0 = some b := (aV hbs).2
 have hE : Emb (backTo H L) (picked μ' L2) B' μF (bC H L bs ++ bs.drop L.length) := by
  intro i j hi hj
  unfold backTo at hj
  split at hj
  ·rename_i hik
   have hpl := vB hL hj
   obtain ⟨e1,e2⟩ := hF1 j i hpl
   refine ⟨?_,e2,fun b' hb => ?_⟩
   ·rw [hFlen]; have := hlt j (List.mem_of_getElem? hj); omega
   ·rw [e1] at hb; exact hren i b' hb
  ·rename_i hik
   simp only [Option.some.injEq] at hj
   subst hj
   obtain ⟨e1,e2⟩ := hF3 (H.length + (i - L.length)) (by omega)
   have ei : L.length + (H.length + (i - L.length) - H.length) = i := by omega
   rw [ei] at e1 e2
   refine ⟨by rw [hFlen,hbl]; omega,e2,fun b' hb => ?_⟩
   rw [e1] at hb; exact hren i b' hb
 -- where a block comes from
 have src : ∀ (id : Nat) b,(bC H L bs ++ bs.drop L.length)[id]? = some b →
   (∃ i b0,B'[i]? = some b0 ∧ Blk.ren (backTo H L) b0 = some b ∧ μF id = picked μ' L2 i ∧ backTo H L i = some id) ∨ (id < H.length ∧ place L id = none ∧ H[id]? = some b ∧ μF id = μ id) := fun id b hb => by
  rcases Nat.lt_or_ge id H.length with hid | hid
  ·cases hpl : place L id with
   | some i =>
    obtain ⟨e1,e2⟩ := hF1 id i hpl
    rw [e1] at hb
    obtain ⟨b0,k1,k2⟩ := hren i b hb
    have hi := cI hpl
    refine .inl ⟨i,b0,k1,k2,e2,?_⟩
    unfold backTo
    rw [if_pos (List.getElem?_eq_some_iff.1 hi).1,hi]
   | none =>
    obtain ⟨e1,e2⟩ := hF2 id hid hpl
    rw [e1] at hb
    exact .inr ⟨hid,rfl,hb,e2⟩
  ·obtain ⟨e1,e2⟩ := hF3 id hid
   rw [e1] at hb
   obtain ⟨b0,k1,k2⟩ := hren _ b hb
   refine .inl ⟨_,b0,k1,k2,e2,?_⟩
   unfold backTo
   rw [if_neg (by omega)]
   congr 1; omega
 -- what the call got is alive no where else
 have notHL : ∀ {id b g},H[id]? = some b → place L id = none → au (μ id) = some g → ¬ alive (picked μ L) HL g := fun {id b g} hb hpl hg ha => by
  by_cases hal : bj b
  ·obtain ⟨i,b1,k1,k2,k3⟩ := alive_iff.1 ha
   obtain ⟨id',c,k4,k5,k6,k7⟩ := eb (μ := μ) hp k1 k2
   have := hr.inj' hb k5 hal k6 hg (by rw [← k7]; exact k3)
   subst this
   exact xO hpl (List.mem_of_getElem? k4)
  ·exact hpick.rel.apart g ha (hr.cold hb hal hg)
 have hLH : ∀ g,alive (picked μ L) HL g → alive μ H g := fun g h => by
  obtain ⟨i,b',h1,h2,h3⟩ := alive_iff.1 h
  obtain ⟨id,b,_,h5,h6,h7⟩ := eb (μ := μ) hp h1 h2
  exact alive_iff.2 ⟨id,b,h5,h6,by rw [← h7]; exact h3⟩
 have hm : Moves μ H μF (bC H L bs ++ bs.drop L.length) := by
  have key : ∀ id i b,id < H.length → place L id = some i → (bC H L bs ++ bs.drop L.length)[id]? = some b → ∃ b1,B[i]? = some b1 ∧ Moves (picked μ L) HL μ' B ∧ μF id = μ' i ∧ picked μ L i = μ id ∧ i < HL.length ∧
    (∃ b2,Blk.ren (place L2) b1 = some b2 ∧ Blk.ren (backTo H L) b2 = some b) := fun id i b hid hpl hb => by
   obtain ⟨e1,e2⟩ := hF1 id i hpl
   have hi := cI hpl
   have hik := (List.getElem?_eq_some_iff.1 hi).1
   rw [e1] at hb
   obtain ⟨b0,k1,k2⟩ := hren i b hb
   obtain ⟨i2,b1,k3,k4,k5⟩ := fb hp2 k1
   rw [hfirst i hik] at k3; cases k3
   refine ⟨b1,k4,hmv (by rintro rfl; simp at hi),?_,by simp [picked,hi],by rw [hkL]; exact hik,b0,k5,k2⟩
   rw [e2]; simp [picked,hfirst i hik]
  have orig : ∀ i id b0,L[i]? = some id → HL[i]? = some b0 → ∃ b,H[id]? = some b ∧ Blk.ren (place L) b = some b0 := fun i id b0 hi hb => by
   obtain ⟨id',b,k1,k2,k3⟩ := fb hp hb
   rw [hi] at k1; cases k1
   exact ⟨b,k2,k3⟩
  refine ⟨by rw [hFlen]; omega,fun id f sz xs hid h => ?_,fun id cs hid h => ?_⟩
  ·cases hpl : place L id with
   | some i =>
    obtain ⟨b1,k1,k2,k3,k4,k5,b2,k6,k7⟩ := key id i _ hid hpl h
    have := Blk.ren_row_inv k7; subst this
    have := Blk.ren_row_inv k6; subst this
    obtain ⟨f0,xs0,m1,m2,m3⟩ := k2.row i f sz xs k5 k1
    obtain ⟨b3,m4,m5⟩ := orig i id _ (cI hpl) m1
    have := Blk.ren_row_inv m5; subst this
    exact ⟨f0,xs0,m4,m2,fun e => by rw [k3,m3 e,k4]⟩
   | none =>
    obtain ⟨e1,e2⟩ := hF2 id hid hpl
    rw [e1] at h
    exact ⟨f,xs,h,Nat.le_refl _,fun _ => e2⟩
  ·cases hpl : place L id with
   | some i =>
    obtain ⟨b1,k1,k2,k3,k4,k5,b2,k6,k7⟩ := key id i _ hid hpl h
    obtain ⟨c1,rfl,_⟩ := Blk.ren_box_inv k7
    obtain ⟨c2,rfl,_⟩ := Blk.ren_box_inv k6
    obtain ⟨cs0,m1,m2⟩ := k2.box i c2 k5 k1
    obtain ⟨b3,m4,m5⟩ := orig i id _ (cI hpl) m1
    obtain ⟨c3,rfl,_⟩ := Blk.ren_box_inv m5
    exact ⟨c3,m4,by rw [k3,m2,k4]⟩
   | none =>
    obtain ⟨e1,e2⟩ := hF2 id hid hpl
    rw [e1] at h
    exact ⟨cs,h,e2⟩
 have keepS : ∀ g,S g → w'.heap[g]? = w.heap[g]? := fun g hg => hrun2.ext.keep g (hr.lt g hg) fun ha => hpick.rel.apart g ha hg
 refine ⟨μF,⟨⟨hrun2.rel.lt,fun id b hb => ?_,fun g ha hs => ?_,fun i j g hi hj ai aj => ?_⟩,⟨hrun2.ext.os,hrun2.ext.tape,hrun2.ext.output,hrun2.ext.size,fun g h hna => ?_,hrun2.ext.more,fun g h hl => ?_,fun g ha hl => ?_⟩,hm⟩,hE⟩
 ·rcases src id b hb with ⟨i,b0,k1,k2,k3,_⟩ | ⟨hid,hpl,k1,k2⟩
  ·exact B2 hE (hrun2.rel.blk i b0 k1) k2 k3
  ·exact (hr.blk id b k1).keep hrun2.ext.more keepS hm k2 fun g hg => hrun2.ext.keep g (hr.blk_lt k1 hg) (notHL k1 hpl hg)
 ·obtain ⟨id,b,h1,h2,h3⟩ := alive_iff.1 ha
  rcases src id b h1 with ⟨i,b0,k1,k2,k3,_⟩ | ⟨hid,hpl,k1,k2⟩
  ·exact hrun2.rel.apart g (alive_iff.2 ⟨i,b0,k1,eR k2 h2,by rw [← k3]; exact h3⟩) hs
  ·rw [k2] at h3
   rcases hrun2.ext.new g hs (hr.blk_lt k1 h3) with h | h
   ·exact hr.apart g (alive_iff.2 ⟨id,b,k1,h2,h3⟩) h
   ·exact notHL k1 hpl h3 h
 ·obtain ⟨b1,h1,a1⟩ := lj ai
  obtain ⟨b2,h2,a2⟩ := lj aj
  have mixed : ∀ {i1 : Nat} {b0 : Blk} {id : Nat} {b : Blk},B'[i1]? = some b0 → bj b0 → au (picked μ' L2 i1) = some g → H[id]? = some b → place L id = none → au (μ id) = some g → False := fun {i1 b0 id b} q1 q2 q3 q4 q5 q6 =>
   notHL q4 q5 q6 (hrun2.ext.own g (alive_iff.2 ⟨_,b0,q1,q2,q3⟩) (hr.blk_lt q4 q6))
  rcases src i b1 h1 with ⟨i1,c1,k1,k2,k3,k4⟩ | ⟨hid1,hpl1,k1,k2⟩ <;> rcases src j b2 h2 with ⟨i2,c2,l1,l2,l3,l4⟩ | ⟨hid2,hpl2,l1,l2⟩
  ·have := hrun2.rel.inj' k1 l1 (eR k2 a1) (eR l2 a2) (by rw [← k3]; exact hi) (by rw [← l3]; exact hj)
   subst this
   rw [k4] at l4; cases l4; rfl
  ·exact (mixed k1 (eR k2 a1) (by rw [← k3]; exact hi) l1 hpl2 (by rw [← l2]; exact hj)).elim
  ·exact (mixed l1 (eR l2 a2) (by rw [← l3]; exact hj) k1 hpl1 (by rw [← k2]; exact hi)).elim
  ·exact hr.inj' k1 l1 a1 a2 (by rw [← k2]; exact hi) (by rw [← l2]; exact hj)
 ·exact hrun2.ext.keep g h fun ha => hna (hLH g ha)
 ·rcases hrun2.ext.new g h hl with h | h
  ·exact .inl h
  ·exact .inr (hLH g h)
 ·obtain ⟨id,b,h1,h2,h3⟩ := alive_iff.1 ha
  rcases src id b h1 with ⟨i,b0,k1,k2,k3,_⟩ | ⟨hid,hpl,k1,k2⟩
  ·exact hLH g (hrun2.ext.own g (alive_iff.2 ⟨i,b0,k1,eR k2 h2,by rw [← k3]; exact h3⟩) hl)
  ·exact alive_iff.2 ⟨id,b,k1,h2,by rw [← k2]; exact h3⟩
theorem nO (hcal : dq Γ N P cal) {o : Oper} {f : Arg} {args : List Arg} {v : AV} {H' : Heap} (hc : chkX P N o (.calls f args) = true) (he : Env.Rel Γ N w S μ H σ a) (hr : Rel N.fn w S μ H)
  (hv : evX Γ cal σ H (.calls f args) = some (v,H')) : ux N P w S μ H o a v H' := by
 simp only [chkX] at hc
 split at hc
 rotate_left
 ·cases hc
 rename_i f' xs' Ts hy
 simp only [Bool.and_eq_true] at hc
 have hf := he.arg hc.1
 have ha := he.args hc.2
 simp only [evX,oO,Option.map_eq_some_iff,Option.bind_eq_some_iff,Prod.mk.injEq,ifB_some] at hv
 obtain ⟨rr,⟨fc,hfc,hst,as',has,HL,hp,r,hcr,r',htd,hj⟩,rfl,rfl⟩ := hv
 obtain ⟨caps,hcl,hcaps⟩ := eC hf hfc
 have hall := ha.append hcaps
 have hL := dM (H := H) 64 ((args.map (Arg.ev Γ σ) ++ fc.2).flatMap AV.refs) [] (by simp)
 generalize ct H 64 ((args.map (Arg.ev Γ σ) ++ fc.2).flatMap AV.refs) [] = L at *
 have hpick := kx hr hL hp
 have hall' := nJ (kr hp) hall has
 refine ⟨_,_,eW hy hcl,(hcal fc.1 as' HL r.1 r.2 hcr w S (picked μ L) _ hpick.rel he.glrel hall').mono ?_⟩
 rintro e w' ⟨vs,S',μ',rfl,hrun,hmv,hvs⟩
 simp only [tidy,Option.bind_eq_some_iff,Option.map_eq_some_iff] at htd
 obtain ⟨rs,hrs,B',hp2,rfl⟩ := htd
 simp only [mG,Option.bind_eq_some_iff,Option.map_eq_some_iff] at hj
 obtain ⟨rs2,hrs2,bs,hbs,rfl⟩ := hj
 have hL2 := dM (H := r.2) 64 (r.1.flatMap AV.refs ++ (r.2.take L.length).flatMap Blk.refs) (List.range L.length) List.nodup_range
 obtain ⟨X,hX⟩ := fa (H := r.2) 64 (r.1.flatMap AV.refs ++ (r.2.take L.length).flatMap Blk.refs) (List.range L.length)
 obtain ⟨μF,g1,g2⟩ := xp hr hL hp hrun (fun hne => hmv (by
  rcases Bool.or_eq_true_iff.1 hst with h | h
  ·exact absurd (List.isEmpty_iff.1 h) hne
  ·rw [(aV hp).1]; exact h)) hL2 ⟨X,hX⟩ hp2 hbs
 exact ⟨S',μF,g1,cY (nJ g2 (nJ (kr hp2) hvs hrs) hrs2)⟩
theorem jP (hcal : dq Γ N P cal) {o : Oper} {f : Arg} {args : List Arg} {v : AV} {H' : Heap} (hc : chkX P N o (.callw f args) = true) (he : Env.Rel Γ N w S μ H σ a) (hr : Rel N.fn w S μ H)
  (hv : evX Γ cal σ H (.callw f args) = some (v,H')) : ux N P w S μ H o a v H' := by
 simp only [chkX] at hc
 split at hc
 rotate_left
 ·cases hc
 rename_i f' xs' Ts hy
 simp only [Bool.and_eq_true] at hc
 have hf := he.arg hc.1
 have ha := he.args hc.2
 simp only [evX,kZ,Option.map_eq_some_iff,Option.bind_eq_some_iff,Prod.mk.injEq,ifB_some] at hv
 obtain ⟨rr,⟨fc,hfc,hst,hcr⟩,rfl,rfl⟩ := hv
 obtain ⟨caps,hcl,hcaps⟩ := eC hf hfc
 refine ⟨_,_,eW hy hcl,(hcal fc.1 _ H rr.1 rr.2 hcr w S μ _ hr he.glrel (ha.append hcaps)).mono ?_⟩
 rintro e w' ⟨vs,S',μ',rfl,hrun,hmv,hvs⟩
 exact ⟨S',μ',⟨hrun.rel,hrun.ext,hmv (v8 hst)⟩,cY hvs⟩
theorem tK (hcal : dq Γ N P cal) {o : Oper} {f : Arg} {args : List Arg} {v : AV} {H' : Heap} (hc : chkX P N o (.callz f args) = true) (he : Env.Rel Γ N w S μ H σ a) (hr : Rel N.fn w S μ H)
  (hv : evX Γ cal σ H (.callz f args) = some (v,H')) : ux N P w S μ H o a v H' := by
 simp only [chkX] at hc
 split at hc
 rotate_left
 ·cases hc
 rename_i f' xs' Ts hy
 simp only [Bool.and_eq_true] at hc
 have hf := he.arg hc.1
 have ha := he.args hc.2
 simp only [evX,AL,Option.map_eq_some_iff,Option.bind_eq_some_iff,Prod.mk.injEq] at hv
 obtain ⟨rr,⟨fc,hfc,q,hq,r,hcr,rs,hrs,rfl⟩,rfl,rfl⟩ := hv
 obtain ⟨caps,hcl,hcaps⟩ := eC hf hfc
 obtain ⟨S',hs,hall⟩ := eM hr (ps := q.1) (H' := q.2) hq (ha.append hcaps)
 have h2 := fT hcal hs.rel.lt (he.glrel.more hs.ext.more) hall hcr hrs
 refine ⟨_,_,eW hy hcl,h2.mono ?_⟩
 rintro e w' ⟨vs,rfl,hg,hvs⟩
 refine ⟨_,μ,hs.trans (.grow hs.rel hg (fun g h => .inl h) (fun g h => ?_) (fun g h => ?_)),cY (All2.map_right (hvs.imp fun u p h => .p _ _ h))⟩
 ·rcases h with h | h
  ·exact Nat.lt_of_lt_of_le (hs.rel.lt g h) hg.size
  ·exact h.2
 ·rcases h with h | h
  ·exact .inl h
  ·exact .inr h.1
theorem j1 {o : Oper} {sz n : Nat} {ag : Bool} {zero : List PV} {parts : List Parts} {v : AV} {H' : Heap} (hc : chkX P N o (.bslicef sz ag n zero parts) = true) (he : Env.Rel Γ N w S μ H σ a) (hr : Rel N.fn w S μ H)
  (hv : evX Γ cal σ H (.bslicef sz ag n zero parts) = some (v,H')) : XDone N P w S μ H o a v H' := by
 simp only [chkX] at hc
 split at hc
 rotate_left
 ·cases hc
 rename_i T n' ps hy
 simp only [Bool.and_eq_true,decide_eq_true_eq,beq_iff_eq,Bool.or_eq_true] at hc
 obtain ⟨⟨⟨⟨⟨h1,rfl⟩,h0⟩,hag⟩,hn⟩,h3⟩ := hc
 split at h1
 rotate_left
 ·cases h1
 rename_i e hT
 simp only [Bool.and_eq_true] at h1
 obtain ⟨hs,hz⟩ := h1
 have hag' : ag = false → sz = 1 := fun e => by
  rcases hag with h | h
  ·rw [h] at e; cases e
  ·exact h
 have hparts := he.parts h3
 simp only [evX,i6,Option.bind_eq_some_iff,ifB_some,Option.some.injEq,Prod.mk.injEq,beq_iff_eq] at hv
 obtain ⟨cs,hf,q,hq,hlen,rfl,rfl⟩ := hv
 unfold lY at hz
 split at hz
 rotate_left
 ·cases hz
 rename_i z hzz
 obtain ⟨i,hi,hzi⟩ := Option.bind_eq_some_iff.1 hzz
 have hzc := fd (N := N) (w := w) (S := S) (μ := μ) (H := H) hz
 rw [Array.toArray_toList] at hzc
 obtain ⟨us,f1,f2⟩ := fF (fun k => some (k * sz,sz)) (ps.toList.map fun x => (x.1,a.eval x.2)) _ _ cs _ hzc (hparts.imp fun x y hxy => by
  refine ⟨?_,hxy.2⟩
  simpa using hxy.1) hf
 obtain ⟨S',hst,hall⟩ := eM hr (ps := q.1) (H' := q.2) hq (us := us.toList) (.of_get (by simpa using f2.size) fun j x y hx hy => by
  have := f2.rel j y hy
  rwa [dQ,List.getD_eq_getElem?_getD,hx] at this)
 have hget := hall.get
 have hps1 : ∀ c ∈ q.1,c.one = true := fun c hc => by
  unfold cl at hq
  obtain ⟨vs',k1,hq⟩ := Option.bind_eq_some_iff.1 hq
  obtain ⟨HL,k2,hq⟩ := Option.bind_eq_some_iff.1 hq
  obtain ⟨ps',k3,hq⟩ := Option.map_eq_some_iff.1 hq
  rw [← hq] at hc
  obtain ⟨j,hj⟩ := List.getElem?_of_mem hc
  obtain ⟨x,hx,hx'⟩ := (aV k3).2 j c hj
  obtain ⟨y,hy',hy2⟩ := (aV k1).2 j x hx
  exact fE hx' (ut hy2 (f2.one y (List.mem_of_getElem? hy')))
 have hrelP : ∀ (j : Nat) c,q.1[j]? = some c → RelP N.fn w S' c (us.getD j undef) := fun j c hc => by
  have hl : j < us.toList.length := by rw [hget.1]; exact (List.getElem?_eq_some_iff.1 hc).1
  have := hget.2 j _ c (List.getElem?_eq_getElem hl) hc
  rw [dQ,List.getD_eq_getElem?_getD,List.getElem?_eq_getElem hl]
  exact this
 have husz : us.size = q.1.length := by have := hget.1; simpa using this
 refine ⟨.slice (some ⟨w.heap.size,0,none⟩) n' n',w.alloc (.cells us e),fun g => S' g ∨ g = w.heap.size,μ,.inl ?_,hst.trans (.grow hst.rel (Grows.alloc w _) (fun g h => .inl h) (fun g h => ?_) (fun g h => ?_)),
  .p _ _ (RelP.ofBlock hag' hlen (by simp) (Nat.le_refl _) ?_ (fun _ => rfl) (.inr rfl) (Go.heap_alloc_new w _) (by omega) hps1 (fun j c hc => (hrelP j c hc).keep (fun _ h => .inl h) (fun g hg => Go.RowKit.Below.heap_alloc w _ g (hst.rel.lt g hg))))⟩
 ·have e1 : (ps.toList.map fun x => (x.1,a.eval x.2)).toArray = ps.map fun x => (x.1,a.eval x.2) := by rw [← Array.toList_map]
  have hn' : ¬ (n' * sz > 2 ^ 24) := by omega
  have h4 : (Go.Instr.buildSlice T n' (ps.toList.map fun x => (x.1,a.eval x.2)).toArray).run P w = .ok (.slice (some ⟨w.heap.size,0,none⟩) n' n') (w.alloc (.cells us e)) := by
   simp only [Go.Instr.buildSlice,Go.Sem.run_bind,Go.run_underlying (bn hT),Go.Result.andThen_ok,run_sizeOf (aM hs),if_neg hn']
   by_cases h0 : n' * sz = 0
   ·rw [if_pos h0] at f1
    simp only [h0,if_true]
    rw [Go.Sem.run_bind]
    simp only [Go.Sem.run_pure,Go.Result.andThen_ok]
    have e0 : (Array.range 0).map (fun x => (#[] : Array Value)[x % (#[] : Array Value).size]!) = #[] := by simp
    rw [e0,f1]
    simp [Go.newRow]
   ·rw [if_neg h0] at f1
    simp only [h0,if_false,Go.Sem.run_bind,Go.zeroValue,Go.typeInfo,hi,Go.Sem.run_pure,Go.Result.andThen_ok,hzi,Go.run_program]
    rw [f1]
    simp [Go.newRow]
  rw [e1] at h4
  simp only [execOp,hy]
  simp [h4]
 ·rcases h with h | h
  ·exact Nat.lt_of_lt_of_le (hst.rel.lt g h) (Grows.alloc w _).size
  ·subst h; simp
 ·rcases h with h | h
  ·exact .inl h
  ·exact .inr (by omega)
 ·have : n' * 1 ≤ n' * sz := Nat.mul_le_mul_left _ h0
  simp only [maxLen]
  omega
theorem t6 {o : Oper} {q : QOp} {v : AV} {H' : Heap} (hc : chkX P N o (.treeq q) = true) (he : Env.Rel Γ N w S μ H σ a) (hr : Rel N.fn w S μ H)
  (hv : evX Γ cal σ H (.treeq q) = some (v,H')) : XDone N P w S μ H o a v H' := by
 simp only [chkX,Bool.and_eq_true] at hc
 simp only [evX,Option.bind_eq_some_iff] at hv
 obtain ⟨v0,h1,h2⟩ := hv
 obtain ⟨u,w',S',g1,g2,g3⟩ := uH hc.1 hc.2 he hr h1
 simp only [kY,Option.bind_eq_some_iff,Option.map_eq_some_iff,Prod.mk.injEq] at h2
 obtain ⟨r,hq,p,hp,rfl,rfl⟩ := h2
 obtain ⟨S2,hst,hall⟩ := eM g2.rel (ps := r.1) (H' := r.2) hq (us := [u]) ⟨g3,trivial⟩
 match r,hp,hall,hst with
 | (p' :: ps,H2),hp,hall,hst =>
  simp only [List.head?_cons,Option.some.injEq] at hp
  subst hp
  exact ⟨u,w',S2,μ,.inl g1,g2.trans hst,.p _ _ hall.1⟩
theorem xn {o : Oper} {x : Arg} {v : AV} {H' : Heap} (hc : chkX P N o (.fbox x) = true) (he : Env.Rel Γ N w S μ H σ a) (hr : Rel N.fn w S μ H)
  (hv : evX Γ cal σ H (.fbox x) = some (v,H')) : XDone N P w S μ H o a v H' := by
 simp only [chkX] at hc
 split at hc
 rotate_left
 ·cases hc
 rename_i T x' hy
 have hx := he.arg hc
 simp only [evX,fboxA,Option.bind_eq_some_iff,ifB_some,Option.some.injEq,Prod.mk.injEq,Bool.and_eq_true,Bool.not_eq_true',List.isEmpty_eq_false_iff] at hv
 obtain ⟨q,hq,⟨hok,hne⟩,rfl,rfl⟩ := hv
 generalize hX : Arg.ev Γ σ x = X at hx hq hok
 obtain ⟨c1,c2,c3⟩ := hx.cells hok
 obtain ⟨S',hst,hall⟩ := eM hr (ps := q.1) (H' := q.2) hq (us := (a.eval x').cells.toList) (.of_get (by simpa using c1) fun j x y hx hy => by
  have := c3 j y hy
  rwa [dQ,List.getD_eq_getElem?_getD,hx] at this)
 have hget := hall.get
 have hps1 : ∀ c ∈ q.1,c.one = true := fun c hc => by
  unfold cl at hq
  obtain ⟨vs',k1,hq⟩ := Option.bind_eq_some_iff.1 hq
  obtain ⟨HL,k2,hq⟩ := Option.bind_eq_some_iff.1 hq
  obtain ⟨ps',k3,hq⟩ := Option.map_eq_some_iff.1 hq
  rw [← hq] at hc
  obtain ⟨j,hj⟩ := List.getElem?_of_mem hc
  obtain ⟨x,hx,hx'⟩ := (aV k3).2 j c hj
  obtain ⟨y,hy',hy2⟩ := (aV k1).2 j x hx
  exact fE hx' (ut hy2 (c2 y (List.mem_of_getElem? hy')))
 have hrelP : ∀ (j : Nat) c,q.1[j]? = some c → RelP N.fn w S' c ((a.eval x').cells.getD j undef) := fun j c hc => by
  have hl : j < (a.eval x').cells.toList.length := by rw [hget.1]; exact (List.getElem?_eq_some_iff.1 hc).1
  have := hget.2 j _ c (List.getElem?_eq_getElem hl) hc
  rw [dQ,List.getD_eq_getElem?_getD,List.getElem?_eq_getElem hl]
  exact this
 have husz : (a.eval x').cells.size = q.1.length := by have := hget.1; simpa using this
 have hrun : (Go.Instr.box T (a.eval x')).run P w = .ok (.pointer (some ⟨w.heap.size,0,none⟩)) (w.alloc (.cells (a.eval x').cells T)) := by simp [Go.Instr.box,Go.newVar,Go.newRow]
 refine ⟨.pointer (some ⟨w.heap.size,0,none⟩),w.alloc (.cells (a.eval x').cells T),fun g => S' g ∨ g = w.heap.size,μ,.inl (by simp only [execOp,hy]; simp [hrun]),hst.trans (.grow hst.rel (Grows.alloc w _) (fun g h => .inl h) (fun g h => ?_) (fun g h => ?_)),
  .p _ _ (.ptr _ _ (fun j => (a.eval x').cells.getD j undef) hne (.inr rfl) hps1 (fun j c hc => ?_) (fun j c hc => (hrelP j c hc).keep (fun _ h => .inl h) (fun g hg => Go.RowKit.Below.heap_alloc w _ g (hst.rel.lt g hg))))⟩
 ·rcases h with h | h
  ·exact Nat.lt_of_lt_of_le (hst.rel.lt g h) (Grows.alloc w _).size
  ·subst h; simp
 ·rcases h with h | h
  ·exact .inl h
  ·exact .inr (by omega)
 ·have hj : j < (a.eval x').cells.size := by rw [husz]; exact (List.getElem?_eq_some_iff.1 hc).1
  have e1 : (w.alloc (.cells (a.eval x').cells T)).heap[w.heap.size]? = _ := Go.heap_alloc_new w _
  have e2 : (⟨w.heap.size,0,none⟩ : Addr).add j = ⟨w.heap.size,j,none⟩ := by unfold Addr.add; split <;> simp_all
  rw [e2]
  unfold World.cell?
  simp only [e1]
  simp [hj]
end
end Ab
