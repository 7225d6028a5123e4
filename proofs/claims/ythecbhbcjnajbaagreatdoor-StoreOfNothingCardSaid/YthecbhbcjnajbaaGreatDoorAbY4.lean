import Derived.Test.YthecbhbcjnajbaaGreatDoorAbK1
import Derived.Orders
namespace Ab
open Go (IntKind BinOp UnOp World Value Addr Obj undef maxLen Program TypeId Oper Op Operand Act Sem Next Result execOp Builtin Calls Ending Exit)
theorem place_of : ∀ {L : List Nat} {i x : Nat},L.Nodup → L[i]? = some x → place L x = some i
 | [],i,x,_,h => by simp at h
 | y :: L,i,x,hn,h => by
  obtain ⟨h1,h2⟩ := List.nodup_cons.1 hn
  simp only [place]
  cases i with
  | zero => simp only [List.getElem?_cons_zero,Option.some.injEq] at h; simp [h]
  | succ i =>
   have h : L[i]? = some x := by simpa using h
   have : y ≠ x := by rintro rfl; exact h1 (List.mem_of_getElem? h)
   rw [if_neg this,place_of h2 h]; rfl
theorem place_none {L : List Nat} {x : Nat} (h : place L x = none) : x ∉ L := by
 induction L with
 | nil => simp
 | cons y L ih =>
  simp only [place] at h
  split at h
  ·cases h
  ·rename_i hne
   simp only [Option.map_eq_none_iff] at h
   simp only [List.mem_cons,not_or]
   exact ⟨fun e => hne e.symm,ih h⟩
theorem reach_prefix {H : Heap} : ∀ (n : Nat) (todo acc : List Nat),∃ X,reach H n todo acc = acc ++ X
 | 0,_,acc => ⟨[],by simp [reach]⟩
 | _ + 1,[],acc => ⟨[],by simp [reach]⟩
 | n + 1,id :: r,acc => by
  unfold reach
  split
  ·exact reach_prefix n r acc
  ·obtain ⟨X,hX⟩ := reach_prefix (H := H) n (r ++ (match H[id]? with | some b => b.refs | none => [])) (acc ++ [id])
   exact ⟨id :: X,hX.trans (by simp)⟩
theorem putBack_len : ∀ {L : List Nat} {bs : List Blk} {H : Heap},(putBack H L bs).length = H.length
 | [],bs,H => by cases bs <;> rfl
 | id :: L,[],H => rfl
 | id :: L,b :: bs,H => by simp only [putBack]; rw [putBack_len]; simp
theorem putBack_get : ∀ {L : List Nat} {bs : List Blk} {H : Heap} {id : Nat},L.Nodup → (∀ x ∈ L,x < H.length) → L.length ≤ bs.length →
  (putBack H L bs)[id]? = match place L id with | some i => bs[i]? | none => H[id]?
 | [],bs,H,id,_,_,_ => by cases bs <;> rfl
 | x :: L,[],H,id,_,_,h => by simp at h
 | x :: L,b :: bs,H,id,hn,hl,h => by
  obtain ⟨h1,h2⟩ := List.nodup_cons.1 hn
  simp only [putBack]
  rw [putBack_get h2 (fun y hy => by simpa using hl y (by simp [hy])) (by simpa using h)]
  simp only [place]
  by_cases he : x = id
  ·subst he
   have : place L x = none := by
    cases hp : place L x with
    | none => rfl
    | some i => exact absurd (List.mem_of_getElem? (place_spec hp)) h1
   have hlt := hl x (by simp)
   rw [this,if_pos rfl]; simp [hlt]
  ·rw [if_neg he]
   cases hp : place L id with
   | none => simp [List.getElem?_set_ne he]
   | some i => simp
section
variable {Γ : Ctx} {cal : Nat → List AV → Heap → Option (List AV × Heap)}
theorem rowOf_up {H E : Heap} {id n : Nat} {r : Nat × List PV} (h : rowOf H id n = some r) : rowOf (H ++ E) id n = some r := by
 unfold rowOf at *
 cases hb : H[id]? with
 | none => simp [hb] at h
 | some b => rw [List.getElem?_append_left (List.getElem?_eq_some_iff.1 hb).1,hb]; rw [hb] at h; exact h
theorem boxOf_up {H E : Heap} {id : Nat} {cs : List AV} (h : boxOf H id = some cs) : boxOf (H ++ E) id = some cs := by
 unfold boxOf at *
 cases hb : H[id]? with
 | none => simp [hb] at h
 | some b => rw [List.getElem?_append_left (List.getElem?_eq_some_iff.1 hb).1,hb]; rw [hb] at h; exact h
theorem mapOf_up {H E : Heap} {id : Nat} {es : List (PV × AV)} (h : mapOf H id = some es) : mapOf (H ++ E) id = some es := by
 unfold mapOf at *
 cases hb : H[id]? with
 | none => simp [hb] at h
 | some b => rw [List.getElem?_append_left (List.getElem?_eq_some_iff.1 hb).1,hb]; rw [hb] at h; exact h
theorem mapO_up {α β : Type} {f g : α → Option β} (hfg : ∀ a b,f a = some b → g a = some b) : ∀ {l : List α} {r : List β},mapO f l = some r → mapO g l = some r
 | [],_,h => h
 | a :: l,r,h => by
  simp only [mapO] at h ⊢
  cases ha : f a with
  | none => simp [ha] at h
  | some b =>
   rw [ha] at h
   cases hl : mapO f l with
   | none => simp [hl] at h
   | some bs => rw [hfg a b ha,mapO_up hfg hl]; rw [hl] at h; exact h
theorem reify_up {H E : Heap} : ∀ (d : Nat) (v : AV) (p : PV),reify H d v = some p → reify (H ++ E) d v = some p
 | 0,v,p,h => by cases v <;> first | exact h | cases h
 | d + 1,v,p,h => by
  have ih := reify_up (H := H) (E := E) d
  cases v with
  | p v => exact h
  | own id n =>
   rw [show reify H (d + 1) (.own id n) = (rowOf H id n).map fun r => .sl .any r.1 r.2 from rfl,Option.map_eq_some_iff] at h
   obtain ⟨r,h1,h2⟩ := h
   rw [show reify (H ++ E) (d + 1) (.own id n) = (rowOf (H ++ E) id n).map fun r => .sl .any r.1 r.2 from rfl,rowOf_up h1,Option.map_some,h2]
  | bx id off =>
   rw [show reify H (d + 1) (.bx id off) = (boxOf H id).bind fun cs => if off < cs.length then (mapO (reify H d) (cs.drop off)).map .ptr else none from rfl,Option.bind_eq_some_iff] at h
   obtain ⟨cs,h1,h2⟩ := h
   rw [show reify (H ++ E) (d + 1) (.bx id off) = (boxOf (H ++ E) id).bind fun cs => if off < cs.length then (mapO (reify (H ++ E) d) (cs.drop off)).map .ptr else none from rfl,boxOf_up h1,Option.bind_some]
   split at h2
   ·rename_i hl
    rw [if_pos hl]
    obtain ⟨xs,h3,h4⟩ := Option.map_eq_some_iff.1 h2
    rw [mapO_up ih h3,Option.map_some,h4]
   ·cases h2
  | el id n i off =>
   simp only [reify] at h ⊢
   split at h
   ·rename_i hni
    rw [if_pos hni]
    obtain ⟨r,h1,h2⟩ := Option.bind_eq_some_iff.1 h
    rw [rowOf_up h1]; exact h2
   ·rename_i hni
    rw [if_neg hni]
    obtain ⟨r,h1,h2⟩ := Option.bind_eq_some_iff.1 h
    rw [rowOf_up h1]; exact h2
  | mp id => simp [reify] at h
  | agg cs =>
   rw [show reify H (d + 1) (.agg cs) = (mapO (reify H d) cs).map .agg from rfl,Option.map_eq_some_iff] at h
   obtain ⟨xs,h1,h2⟩ := h
   rw [show reify (H ++ E) (d + 1) (.agg cs) = (mapO (reify (H ++ E) d) cs).map .agg from rfl,mapO_up ih h1,Option.map_some,h2]
  | clo f cs =>
   rw [show reify H (d + 1) (.clo f cs) = (mapO (reify H d) cs).map (.clo f) from rfl,Option.map_eq_some_iff] at h
   obtain ⟨xs,h1,h2⟩ := h
   rw [show reify (H ++ E) (d + 1) (.clo f cs) = (mapO (reify (H ++ E) d) cs).map (.clo f) from rfl,mapO_up ih h1,Option.map_some,h2]
  | tup cs => cases h
  | nov => cases h
  | any => cases h
theorem elOk_up {H E : Heap} {id n i : Nat} (h : elOk H id n i = true) : elOk (H ++ E) id n i = true := by
 unfold elOk at *
 cases hr : rowOf H id n with
 | none => simp [hr] at h
 | some r => rw [rowOf_up hr]; rw [hr] at h; exact h
theorem evQ_up {σ : Nat → AV} {H E : Heap} {q : QOp} {v : AV} (h : evQ Γ cal σ H q = some v) : evQ Γ cal σ (H ++ E) q = some v := by
 cases q
 case nilchk x =>
  simp only [evQ] at h ⊢
  generalize x.ev Γ σ = y at h ⊢
  unfold nilchkA at h ⊢
  split at h
  all_goals first
   | exact h
   | (simp only [ifB_some] at h ⊢; exact ⟨elOk_up h.1,h.2⟩)
   | cases h
 case strOf x =>
  simp only [evQ] at h ⊢
  generalize x.ev Γ σ = y at h ⊢
  unfold strOfA at h ⊢
  split at h
  ·exact h
  ·obtain ⟨r,h1,h2⟩ := Option.bind_eq_some_iff.1 h
   simp only [rowOf_up h1]
   exact h2
  ·cases h
 case len s x =>
  simp only [evQ] at h ⊢
  generalize x.ev Γ σ = y at h ⊢
  obtain ⟨n,h1,h2⟩ := Option.map_eq_some_iff.1 h
  have : asLen (H ++ E) s y = some n := by
   unfold asLen at h1 ⊢
   split at h1
   ·exact h1
   ·exact h1
   ·obtain ⟨r,h3,h4⟩ := Option.map_eq_some_iff.1 h1
    subst h4
    rw [rowOf_up h3]; rfl
   ·cases h1
  rw [this,Option.map_some,h2]
 case faddr off x =>
  simp only [evQ] at h ⊢
  generalize x.ev Γ σ = y at h ⊢
  unfold faddrA at h ⊢
  split at h
  all_goals first
   | exact h
   | (simp only [ifB_some] at h ⊢; exact ⟨elOk_up h.1,h.2⟩)
   | cases h
 case iaddr sz x i =>
  simp only [evQ] at h ⊢
  generalize x.ev Γ σ = y at h ⊢
  generalize i.ev Γ σ = z at h ⊢
  unfold iaddrA at h ⊢
  split at h
  ·exact h
  ·obtain ⟨r,h1,h2⟩ := Option.bind_eq_some_iff.1 h
   simp only [rowOf_up h1]
   exact h2
  ·cases h
 case load sz ag x =>
  simp only [evQ] at h ⊢
  generalize x.ev Γ σ = y at h ⊢
  unfold loadA at h ⊢
  split at h
  ·exact h
  ·obtain ⟨r,h1,h2⟩ := Option.bind_eq_some_iff.1 h
   simp only [boxOf_up h1]
   exact h2
  ·obtain ⟨r,h1,h2⟩ := Option.bind_eq_some_iff.1 h
   simp only [rowOf_up h1]
   exact h2
  ·cases h
 case wslice sz x lo hi =>
  simp only [evQ] at h ⊢
  generalize x.ev Γ σ = y at h ⊢
  unfold wsliceA at h ⊢
  split at h
  ·obtain ⟨r,h1,h2⟩ := Option.bind_eq_some_iff.1 h
   simp only [rowOf_up h1]
   exact h2
  ·cases h
 case lenk x k =>
  simp only [evQ] at h ⊢
  generalize x.ev Γ σ = y at h ⊢
  generalize k.ev Γ σ = z at h ⊢
  unfold lenkA at h ⊢
  split at h
  ·obtain ⟨cs,h1,h2⟩ := Option.bind_eq_some_iff.1 h
   rw [ifB_some] at h2
   obtain ⟨h2,h3⟩ := h2
   obtain ⟨n,h4,h5⟩ := Option.map_eq_some_iff.1 h3
   have : asLen (H ++ E) false y = some n := by
    unfold asLen at h4 ⊢
    split at h4
    ·exact h4
    ·exact h4
    ·obtain ⟨r,h6,h7⟩ := Option.map_eq_some_iff.1 h4
     simp only [rowOf_up h6]
     exact congrArg some h7
    ·exact h4
   simp only [boxOf_up h1,Option.bind_some,h2,this,Option.map_some,h5,ifB]
  ·cases h
 case loadk sz ag x k =>
  simp only [evQ] at h ⊢
  generalize x.ev Γ σ = y at h ⊢
  generalize k.ev Γ σ = z at h ⊢
  unfold loadkA at h ⊢
  split at h
  ·split at h
   ·rename_i e
    rw [if_pos e]
    unfold loadA at h ⊢
    obtain ⟨r,h1,h2⟩ := Option.bind_eq_some_iff.1 h
    simp only [boxOf_up h1]
    exact h2
   ·cases h
  ·cases h
 case mget kd zero comma x k =>
  simp only [evQ] at h ⊢
  generalize x.ev Γ σ = y at h ⊢
  generalize k.ev Γ σ = z at h ⊢
  unfold mgetA at h ⊢
  split at h
  ·exact h
  ·simp only [ifB_some,Option.bind_eq_some_iff] at h ⊢
   obtain ⟨h1,es,h2,h3⟩ := h
   exact ⟨h1,es,mapOf_up h2,h3⟩
  ·cases h
 case mlen x =>
  simp only [evQ] at h ⊢
  generalize x.ev Γ σ = y at h ⊢
  unfold mlenA at h ⊢
  split at h
  ·exact h
  ·obtain ⟨es,h1,h2⟩ := Option.map_eq_some_iff.1 h
   simp only [mapOf_up h1,Option.map_some,h2]
  ·cases h
 case isnil neg x k =>
  simp only [evQ] at h ⊢
  generalize x.ev Γ σ = y at h ⊢
  generalize k.ev Γ σ = z at h ⊢
  unfold isnilA at h ⊢
  split at h
  ·obtain ⟨r,h1,h2⟩ := Option.bind_eq_some_iff.1 h
   simp only [rowOf_up h1]
   exact h2
  ·exact h
 case call f args =>
  simp only [evQ,Option.bind_eq_some_iff] at h ⊢
  obtain ⟨rs,h1,h2⟩ := h
  refine ⟨rs,?_,h2⟩
  unfold callP at *
  simp only [Option.bind_eq_some_iff] at *
  obtain ⟨fc,h3,ps,h4,r,h5,h6⟩ := h1
  exact ⟨fc,h3,ps,mapO_up (reify_up 4) h4,r,h5,h6⟩
 case callr f args =>
  simp only [evQ,callRA,Option.map_eq_some_iff,Option.bind_eq_some_iff] at h ⊢
  obtain ⟨rs,⟨fc,h3,ps,h4,r,h5,h6⟩,h2⟩ := h
  exact ⟨rs,⟨fc,h3,ps,mapO_up (reify_up 4) h4,r,h5,h6⟩,h2⟩
 all_goals exact h
end
section
variable {Γ : Ctx} {N : Names} {P : Program} {w w' : World} {S S' : Nat → Prop} {μ μ' : Nat → Value} {H HL B B' : Heap} {L L2 : List Nat} {σ : Nat → AV} {a : Act}
 {cal : Nat → List AV → Heap → Option (List AV × Heap)}
theorem Rel.cold (hr : Rel N.fn w S μ H) {id : Nat} {b : Blk} (hb : H[id]? = some b) (hn : ¬ isAlive b) {g : Nat} (hg : blkOf (μ id) = some g) : S g := by
 have h := hr.blk id _ hb
 cases b with
 | box cs => exact absurd (.inl ⟨cs,rfl⟩) hn
 | dead => exact h g hg
 | row f sz xs =>
  cases f with
  | false => exact absurd (.inr ⟨sz,xs,rfl⟩) hn
  | true => obtain ⟨_,_,us,_,_,_,h5⟩ := h; exact h5 rfl g hg
theorem join_sound (hr : Rel N.fn w S μ H) (hL : L.Nodup) (hp : Heap.pick H L = some HL) (hrun : Run N.fn w S (picked μ L) HL w' S' μ' B) (hmv : L ≠ [] → Moves (picked μ L) HL μ' B)
  (hL2 : L2.Nodup) (hpre : ∃ X,L2 = List.range L.length ++ X) (hp2 : Heap.pick B L2 = some B') {bs : List Blk} (hbs : mapO (Blk.ren (backTo H L)) B' = some bs) :
  ∃ μF,Step N.fn w S μ H w' S' μF (putBack H L bs ++ bs.drop L.length) ∧ Emb (backTo H L) (picked μ' L2) B' μF (putBack H L bs ++ bs.drop L.length) := by
 obtain ⟨X,hX⟩ := hpre
 have hkL : HL.length = L.length := (mapO_spec hp).1
 have hB'len : B'.length = L2.length := (mapO_spec hp2).1
 have hbl : bs.length = B'.length := (mapO_spec hbs).1
 have hk : L.length ≤ bs.length := by rw [hbl,hB'len,hX]; simp
 have hlt : ∀ x ∈ L,x < H.length := fun x hx => by
  obtain ⟨i,hi⟩ := List.getElem?_of_mem hx
  obtain ⟨_,h⟩ := mapO_spec hp
  have hlt' : i < HL.length := by rw [hkL]; exact (List.getElem?_eq_some_iff.1 hi).1
  obtain ⟨id,h1,h2⟩ := h i _ (List.getElem?_eq_getElem hlt')
  rw [hi] at h1; cases h1
  obtain ⟨b,h3,_⟩ := Option.bind_eq_some_iff.1 h2
  exact (List.getElem?_eq_some_iff.1 h3).1
 have hpick := run_pick hr hL hp
 have hrun2 : Run N.fn w S (picked μ L) HL w' S' (picked μ' L2) B' := hrun.trans (run_pick hrun.rel hL2 hp2)
 have hfirst : ∀ i,i < L.length → L2[i]? = some i := fun i hi => by
  rw [hX,List.getElem?_append_left (by simpa using hi)]; simp [hi]
 let μF : Nat → Value := fun id => match place L id with
  | some i => picked μ' L2 i
  | none => if id < H.length then μ id else picked μ' L2 (L.length + (id - H.length))
 have hFlen : (putBack H L bs ++ bs.drop L.length).length = H.length + (bs.length - L.length) := by simp [putBack_len]
 have hF1 : ∀ id i,place L id = some i → (putBack H L bs ++ bs.drop L.length)[id]? = bs[i]? ∧ μF id = picked μ' L2 i := fun id i h => by
  have hid := hlt id (List.mem_of_getElem? (place_spec h))
  refine ⟨?_,by simp [μF,h]⟩
  rw [List.getElem?_append_left (by rw [putBack_len]; exact hid),putBack_get hL hlt hk,h]
 have hF2 : ∀ id,id < H.length → place L id = none → (putBack H L bs ++ bs.drop L.length)[id]? = H[id]? ∧ μF id = μ id := fun id hid h => by
  refine ⟨?_,by simp [μF,h,hid]⟩
  rw [List.getElem?_append_left (by rw [putBack_len]; exact hid),putBack_get hL hlt hk,h]
 have hnone : ∀ id,H.length ≤ id → place L id = none := fun id hid => by
  cases h : place L id with
  | none => rfl
  | some i => have := hlt id (List.mem_of_getElem? (place_spec h)); omega
 have hF3 : ∀ id,H.length ≤ id → (putBack H L bs ++ bs.drop L.length)[id]? = bs[L.length + (id - H.length)]? ∧ μF id = picked μ' L2 (L.length + (id - H.length)) := fun id hid => by
  refine ⟨?_,?_⟩
  ·rw [List.getElem?_append_right (by rw [putBack_len]; exact hid),putBack_len,List.getElem?_drop]
  ·simp only [μF,hnone id hid]; rw [if_neg (by omega)]
 have hren : ∀ (i : Nat) b,bs[i]? = some b → ∃ b0,B'[i]? = some b0 ∧ Blk.ren (backTo H L) b0 = some b := (mapO_spec hbs).2
 have hE : Emb (backTo H L) (picked μ' L2) B' μF (putBack H L bs ++ bs.drop L.length) := by
  intro i j hi hj
  unfold backTo at hj
  split at hj
  ·rename_i hik
   have hpl := place_of hL hj
   obtain ⟨e1,e2⟩ := hF1 j i hpl
   refine ⟨?_,e2,fun b' hb => ?_⟩
   ·rw [hFlen]; have := hlt j (List.mem_of_getElem? hj); omega
   ·rw [e1] at hb; exact hren i b' hb
  ·rename_i hik
   simp only [Option.some.injEq] at hj
   subst hj
   obtain ⟨e1,e2⟩ := hF3 (H.length + (i - L.length)) (by omega)
   have ei : L.length + (H.length + (i - L.length) - H.length) = i := by omega
   rw [ei] at e1 e2
   refine ⟨by rw [hFlen,hbl]; omega,e2,fun b' hb => ?_⟩
   rw [e1] at hb; exact hren i b' hb
 -- where a block comes from
 have src : ∀ (id : Nat) b,(putBack H L bs ++ bs.drop L.length)[id]? = some b →
   (∃ i b0,B'[i]? = some b0 ∧ Blk.ren (backTo H L) b0 = some b ∧ μF id = picked μ' L2 i ∧ backTo H L i = some id) ∨ (id < H.length ∧ place L id = none ∧ H[id]? = some b ∧ μF id = μ id) := fun id b hb => by
  rcases Nat.lt_or_ge id H.length with hid | hid
  ·cases hpl : place L id with
   | some i =>
    obtain ⟨e1,e2⟩ := hF1 id i hpl
    rw [e1] at hb
    obtain ⟨b0,k1,k2⟩ := hren i b hb
    have hi := place_spec hpl
    refine .inl ⟨i,b0,k1,k2,e2,?_⟩
    unfold backTo
    rw [if_pos (List.getElem?_eq_some_iff.1 hi).1,hi]
   | none =>
    obtain ⟨e1,e2⟩ := hF2 id hid hpl
    rw [e1] at hb
    exact .inr ⟨hid,rfl,hb,e2⟩
  ·obtain ⟨e1,e2⟩ := hF3 id hid
   rw [e1] at hb
   obtain ⟨b0,k1,k2⟩ := hren _ b hb
   refine .inl ⟨_,b0,k1,k2,e2,?_⟩
   unfold backTo
   rw [if_neg (by omega)]
   congr 1; omega
 -- what the call got is alive no where else
 have notHL : ∀ {id b g},H[id]? = some b → place L id = none → blkOf (μ id) = some g → ¬ alive (picked μ L) HL g := fun {id b g} hb hpl hg ha => by
  by_cases hal : isAlive b
  ·obtain ⟨i,b1,k1,k2,k3⟩ := alive_iff.1 ha
   obtain ⟨id',c,k4,k5,k6,k7⟩ := alive_picked (μ := μ) hp k1 k2
   have := hr.inj' hb k5 hal k6 hg (by rw [← k7]; exact k3)
   subst this
   exact place_none hpl (List.mem_of_getElem? k4)
  ·exact hpick.rel.apart g ha (hr.cold hb hal hg)
 have hLH : ∀ g,alive (picked μ L) HL g → alive μ H g := fun g h => by
  obtain ⟨i,b',h1,h2,h3⟩ := alive_iff.1 h
  obtain ⟨id,b,_,h5,h6,h7⟩ := alive_picked (μ := μ) hp h1 h2
  exact alive_iff.2 ⟨id,b,h5,h6,by rw [← h7]; exact h3⟩
 have hm : Moves μ H μF (putBack H L bs ++ bs.drop L.length) := by
  have key : ∀ id i b,id < H.length → place L id = some i → (putBack H L bs ++ bs.drop L.length)[id]? = some b → ∃ b1,B[i]? = some b1 ∧ Moves (picked μ L) HL μ' B ∧ μF id = μ' i ∧ picked μ L i = μ id ∧ i < HL.length ∧
    (∃ b2,Blk.ren (place L2) b1 = some b2 ∧ Blk.ren (backTo H L) b2 = some b) := fun id i b hid hpl hb => by
   obtain ⟨e1,e2⟩ := hF1 id i hpl
   have hi := place_spec hpl
   have hik := (List.getElem?_eq_some_iff.1 hi).1
   rw [e1] at hb
   obtain ⟨b0,k1,k2⟩ := hren i b hb
   obtain ⟨i2,b1,k3,k4,k5⟩ := pick_get hp2 k1
   rw [hfirst i hik] at k3; cases k3
   refine ⟨b1,k4,hmv (by rintro rfl; simp at hi),?_,by simp [picked,hi],by rw [hkL]; exact hik,b0,k5,k2⟩
   rw [e2]; simp [picked,hfirst i hik]
  have orig : ∀ i id b0,L[i]? = some id → HL[i]? = some b0 → ∃ b,H[id]? = some b ∧ Blk.ren (place L) b = some b0 := fun i id b0 hi hb => by
   obtain ⟨id',b,k1,k2,k3⟩ := pick_get hp hb
   rw [hi] at k1; cases k1
   exact ⟨b,k2,k3⟩
  refine ⟨by rw [hFlen]; omega,fun id f sz xs hid h => ?_,fun id cs hid h => ?_⟩
  ·cases hpl : place L id with
   | some i =>
    obtain ⟨b1,k1,k2,k3,k4,k5,b2,k6,k7⟩ := key id i _ hid hpl h
    have := Blk.ren_row_inv k7; subst this
    have := Blk.ren_row_inv k6; subst this
    obtain ⟨f0,xs0,m1,m2,m3⟩ := k2.row i f sz xs k5 k1
    obtain ⟨b3,m4,m5⟩ := orig i id _ (place_spec hpl) m1
    have := Blk.ren_row_inv m5; subst this
    exact ⟨f0,xs0,m4,m2,fun e => by rw [k3,m3 e,k4]⟩
   | none =>
    obtain ⟨e1,e2⟩ := hF2 id hid hpl
    rw [e1] at h
    exact ⟨f,xs,h,Nat.le_refl _,fun _ => e2⟩
  ·cases hpl : place L id with
   | some i =>
    obtain ⟨b1,k1,k2,k3,k4,k5,b2,k6,k7⟩ := key id i _ hid hpl h
    obtain ⟨c1,rfl,_⟩ := Blk.ren_box_inv k7
    obtain ⟨c2,rfl,_⟩ := Blk.ren_box_inv k6
    obtain ⟨cs0,m1,m2⟩ := k2.box i c2 k5 k1
    obtain ⟨b3,m4,m5⟩ := orig i id _ (place_spec hpl) m1
    obtain ⟨c3,rfl,_⟩ := Blk.ren_box_inv m5
    exact ⟨c3,m4,by rw [k3,m2,k4]⟩
   | none =>
    obtain ⟨e1,e2⟩ := hF2 id hid hpl
    rw [e1] at h
    exact ⟨cs,h,e2⟩
 have keepS : ∀ g,S g → w'.heap[g]? = w.heap[g]? := fun g hg => hrun2.ext.keep g (hr.lt g hg) fun ha => hpick.rel.apart g ha hg
 refine ⟨μF,⟨⟨hrun2.rel.lt,fun id b hb => ?_,fun g ha hs => ?_,fun i j g hi hj ai aj => ?_⟩,⟨hrun2.ext.os,hrun2.ext.tape,hrun2.ext.output,hrun2.ext.size,fun g h hna => ?_,hrun2.ext.more,fun g h hl => ?_,fun g ha hl => ?_⟩,hm⟩,hE⟩
 ·rcases src id b hb with ⟨i,b0,k1,k2,k3,_⟩ | ⟨hid,hpl,k1,k2⟩
  ·exact blk_ren hE (hrun2.rel.blk i b0 k1) k2 k3
  ·exact (hr.blk id b k1).keep hrun2.ext.more keepS hm k2 fun g hg => hrun2.ext.keep g (hr.blk_lt k1 hg) (notHL k1 hpl hg)
 ·obtain ⟨id,b,h1,h2,h3⟩ := alive_iff.1 ha
  rcases src id b h1 with ⟨i,b0,k1,k2,k3,_⟩ | ⟨hid,hpl,k1,k2⟩
  ·exact hrun2.rel.apart g (alive_iff.2 ⟨i,b0,k1,ren_alive k2 h2,by rw [← k3]; exact h3⟩) hs
  ·rw [k2] at h3
   rcases hrun2.ext.new g hs (hr.blk_lt k1 h3) with h | h
   ·exact hr.apart g (alive_iff.2 ⟨id,b,k1,h2,h3⟩) h
   ·exact notHL k1 hpl h3 h
 ·obtain ⟨b1,h1,a1⟩ := aliveOf ai
  obtain ⟨b2,h2,a2⟩ := aliveOf aj
  have mixed : ∀ {i1 : Nat} {b0 : Blk} {id : Nat} {b : Blk},B'[i1]? = some b0 → isAlive b0 → blkOf (picked μ' L2 i1) = some g → H[id]? = some b → place L id = none → blkOf (μ id) = some g → False := fun {i1 b0 id b} q1 q2 q3 q4 q5 q6 =>
   notHL q4 q5 q6 (hrun2.ext.own g (alive_iff.2 ⟨_,b0,q1,q2,q3⟩) (hr.blk_lt q4 q6))
  rcases src i b1 h1 with ⟨i1,c1,k1,k2,k3,k4⟩ | ⟨hid1,hpl1,k1,k2⟩ <;> rcases src j b2 h2 with ⟨i2,c2,l1,l2,l3,l4⟩ | ⟨hid2,hpl2,l1,l2⟩
  ·have := hrun2.rel.inj' k1 l1 (ren_alive k2 a1) (ren_alive l2 a2) (by rw [← k3]; exact hi) (by rw [← l3]; exact hj)
   subst this
   rw [k4] at l4; cases l4; rfl
  ·exact (mixed k1 (ren_alive k2 a1) (by rw [← k3]; exact hi) l1 hpl2 (by rw [← l2]; exact hj)).elim
  ·exact (mixed l1 (ren_alive l2 a2) (by rw [← l3]; exact hj) k1 hpl1 (by rw [← k2]; exact hi)).elim
  ·exact hr.inj' k1 l1 a1 a2 (by rw [← k2]; exact hi) (by rw [← l2]; exact hj)
 ·exact hrun2.ext.keep g h fun ha => hna (hLH g ha)
 ·rcases hrun2.ext.new g h hl with h | h
  ·exact .inl h
  ·exact .inr (hLH g h)
 ·obtain ⟨id,b,h1,h2,h3⟩ := alive_iff.1 ha
  rcases src id b h1 with ⟨i,b0,k1,k2,k3,_⟩ | ⟨hid,hpl,k1,k2⟩
  ·exact hLH g (hrun2.ext.own g (alive_iff.2 ⟨i,b0,k1,ren_alive k2 h2,by rw [← k3]; exact h3⟩) hl)
  ·exact alive_iff.2 ⟨id,b,k1,h2,by rw [← k2]; exact h3⟩
theorem calls_sound (hcal : CallOk Γ N P cal) {o : Oper} {f : Arg} {args : List Arg} {v : AV} {H' : Heap} (hc : chkX P N o (.calls f args) = true) (he : Env.Rel Γ N w S μ H σ a) (hr : Rel N.fn w S μ H)
  (hv : evX Γ cal σ H (.calls f args) = some (v,H')) : CDone N P w S μ H o a v H' := by
 simp only [chkX] at hc
 split at hc
 rotate_left
 ·cases hc
 rename_i f' xs' Ts hy
 simp only [Bool.and_eq_true] at hc
 have hf := he.arg hc.1
 have ha := he.args hc.2
 simp only [evX,callS,Option.map_eq_some_iff,Option.bind_eq_some_iff,Prod.mk.injEq,ifB_some] at hv
 obtain ⟨rr,⟨fc,hfc,hst,asX',has,HL,hp,r,hcr,r',htd,hj⟩,rfl,rfl⟩ := hv
 obtain ⟨caps,hcl,hcaps⟩ := callee_rel hf hfc
 have hall := ha.append hcaps
 have hL := reach_nodup (H := H) 64 ((args.map (Arg.ev Γ σ) ++ fc.2).flatMap AV.refs) [] (by simp)
 generalize reach H 64 ((args.map (Arg.ev Γ σ) ++ fc.2).flatMap AV.refs) [] = L at *
 have hpick := run_pick hr hL hp
 have hall' := ren_all (pick_emb hp) hall has
 refine ⟨_,_,exec_call hy hcl,(hcal fc.1 asX' HL r.1 r.2 hcr w S (picked μ L) _ hpick.rel he.glrel hall').mono ?_⟩
 rintro e w' ⟨vs,S',μ',rfl,hrun,hmv,hvs⟩
 simp only [tidy,Option.bind_eq_some_iff,Option.map_eq_some_iff] at htd
 obtain ⟨rs,hrs,B',hp2,rfl⟩ := htd
 simp only [joinBack,Option.bind_eq_some_iff,Option.map_eq_some_iff] at hj
 obtain ⟨rs2,hrs2,bs,hbs,rfl⟩ := hj
 have hL2 := reach_nodup (H := r.2) 64 (r.1.flatMap AV.refs ++ (r.2.take L.length).flatMap Blk.refs) (List.range L.length) List.nodup_range
 obtain ⟨X,hX⟩ := reach_prefix (H := r.2) 64 (r.1.flatMap AV.refs ++ (r.2.take L.length).flatMap Blk.refs) (List.range L.length)
 obtain ⟨μF,g1,g2⟩ := join_sound hr hL hp hrun (fun hne => hmv (by
  rcases Bool.or_eq_true_iff.1 hst with h | h
  ·exact absurd (List.isEmpty_iff.1 h) hne
  ·rw [(mapO_spec hp).1]; exact h)) hL2 ⟨X,hX⟩ hp2 hbs
 exact ⟨S',μF,g1,results_rel (ren_all g2 (ren_all (pick_emb hp2) hvs hrs) hrs2)⟩
theorem callw_sound (hcal : CallOk Γ N P cal) {o : Oper} {f : Arg} {args : List Arg} {v : AV} {H' : Heap} (hc : chkX P N o (.callw f args) = true) (he : Env.Rel Γ N w S μ H σ a) (hr : Rel N.fn w S μ H)
  (hv : evX Γ cal σ H (.callw f args) = some (v,H')) : CDone N P w S μ H o a v H' := by
 simp only [chkX] at hc
 split at hc
 rotate_left
 ·cases hc
 rename_i f' xs' Ts hy
 simp only [Bool.and_eq_true] at hc
 have hf := he.arg hc.1
 have ha := he.args hc.2
 simp only [evX,callW,Option.map_eq_some_iff,Option.bind_eq_some_iff,Prod.mk.injEq,ifB_some] at hv
 obtain ⟨rr,⟨fc,hfc,hst,hcr⟩,rfl,rfl⟩ := hv
 obtain ⟨caps,hcl,hcaps⟩ := callee_rel hf hfc
 refine ⟨_,_,exec_call hy hcl,(hcal fc.1 _ H rr.1 rr.2 hcr w S μ _ hr he.glrel (ha.append hcaps)).mono ?_⟩
 rintro e w' ⟨vs,S',μ',rfl,hrun,hmv,hvs⟩
 exact ⟨S',μ',⟨hrun.rel,hrun.ext,hmv (stillW_F hst)⟩,results_rel hvs⟩
theorem callz_sound (hcal : CallOk Γ N P cal) {o : Oper} {f : Arg} {args : List Arg} {v : AV} {H' : Heap} (hc : chkX P N o (.callz f args) = true) (he : Env.Rel Γ N w S μ H σ a) (hr : Rel N.fn w S μ H)
  (hv : evX Γ cal σ H (.callz f args) = some (v,H')) : CDone N P w S μ H o a v H' := by
 simp only [chkX] at hc
 split at hc
 rotate_left
 ·cases hc
 rename_i f' xs' Ts hy
 simp only [Bool.and_eq_true] at hc
 have hf := he.arg hc.1
 have ha := he.args hc.2
 simp only [evX,callZ,Option.map_eq_some_iff,Option.bind_eq_some_iff,Prod.mk.injEq] at hv
 obtain ⟨rr,⟨fc,hfc,q,hq,r,hcr,rs,hrs,rfl⟩,rfl,rfl⟩ := hv
 obtain ⟨caps,hcl,hcaps⟩ := callee_rel hf hfc
 obtain ⟨S',hs,hall⟩ := trees_sound hr (ps := q.1) (H' := q.2) hq (ha.append hcaps)
 have h2 := pure_call hcal hs.rel.lt (he.glrel.more hs.ext.more) hall hcr hrs
 refine ⟨_,_,exec_call hy hcl,h2.mono ?_⟩
 rintro e w' ⟨vs,rfl,hg,hvs⟩
 refine ⟨_,μ,hs.trans (.grow hs.rel hg (fun g h => .inl h) (fun g h => ?_) (fun g h => ?_)),results_rel (All2.map_right (hvs.imp fun u p h => .p _ _ h))⟩
 ·rcases h with h | h
  ·exact Nat.lt_of_lt_of_le (hs.rel.lt g h) hg.size
  ·exact h.2
 ·rcases h with h | h
  ·exact .inl h
  ·exact .inr h.1
theorem bslicef_sound {o : Oper} {sz n : Nat} {ag : Bool} {zero : List PV} {parts : List Parts} {v : AV} {H' : Heap} (hc : chkX P N o (.bslicef sz ag n zero parts) = true) (he : Env.Rel Γ N w S μ H σ a) (hr : Rel N.fn w S μ H)
  (hv : evX Γ cal σ H (.bslicef sz ag n zero parts) = some (v,H')) : XDone N P w S μ H o a v H' := by
 simp only [chkX] at hc
 split at hc
 rotate_left
 ·cases hc
 rename_i T n' ps hy
 simp only [Bool.and_eq_true,decide_eq_true_eq,beq_iff_eq,Bool.or_eq_true] at hc
 obtain ⟨⟨⟨⟨⟨h1,rfl⟩,h0⟩,hag⟩,hn⟩,h3⟩ := hc
 split at h1
 rotate_left
 ·cases h1
 rename_i e hT
 simp only [Bool.and_eq_true] at h1
 obtain ⟨hs,hz⟩ := h1
 have hag' : ag = false → sz = 1 := fun e => by
  rcases hag with h | h
  ·rw [h] at e; cases e
  ·exact h
 have hparts := he.parts h3
 simp only [evX,bslicefA,Option.bind_eq_some_iff,ifB_some,Option.some.injEq,Prod.mk.injEq,beq_iff_eq] at hv
 obtain ⟨cs,hf,q,hq,hlen,rfl,rfl⟩ := hv
 unfold bsZero at hz
 split at hz
 rotate_left
 ·cases hz
 rename_i z hzz
 obtain ⟨i,hi,hzi⟩ := Option.bind_eq_some_iff.1 hzz
 have hzc := consts_cells (N := N) (w := w) (S := S) (μ := μ) (H := H) hz
 rw [Array.toArray_toList] at hzc
 obtain ⟨us,f1,f2⟩ := fillA_rel (fun k => some (k * sz,sz)) (ps.toList.map fun x => (x.1,a.eval x.2)) _ _ cs _ hzc (hparts.imp fun x y hxy => by
  refine ⟨?_,hxy.2⟩
  simpa using hxy.1) hf
 obtain ⟨S',hst,hall⟩ := trees_sound hr (ps := q.1) (H' := q.2) hq (us := us.toList) (.of_get (by simpa using f2.size) fun j x y hx hy => by
  have := f2.rel j y hy
  rwa [getD_array,List.getD_eq_getElem?_getD,hx] at this)
 have hget := hall.get
 have hps1 : ∀ c ∈ q.1,c.one = true := fun c hc => by
  unfold treesOf at hq
  obtain ⟨vs',k1,hq⟩ := Option.bind_eq_some_iff.1 hq
  obtain ⟨HL,k2,hq⟩ := Option.bind_eq_some_iff.1 hq
  obtain ⟨ps',k3,hq⟩ := Option.map_eq_some_iff.1 hq
  rw [← hq] at hc
  obtain ⟨j,hj⟩ := List.getElem?_of_mem hc
  obtain ⟨x,hx,hx'⟩ := (mapO_spec k3).2 j c hj
  obtain ⟨y,hy',hy2⟩ := (mapO_spec k1).2 j x hx
  exact reify_one hx' (ren_one hy2 (f2.one y (List.mem_of_getElem? hy')))
 have hrelP : ∀ (j : Nat) c,q.1[j]? = some c → RelP N.fn w S' c (us.getD j undef) := fun j c hc => by
  have hl : j < us.toList.length := by rw [hget.1]; exact (List.getElem?_eq_some_iff.1 hc).1
  have := hget.2 j _ c (List.getElem?_eq_getElem hl) hc
  rw [getD_array,List.getD_eq_getElem?_getD,List.getElem?_eq_getElem hl]
  exact this
 have husz : us.size = q.1.length := by have := hget.1; simpa using this
 refine ⟨.slice (some ⟨w.heap.size,0,none⟩) n' n',w.alloc (.cells us e),fun g => S' g ∨ g = w.heap.size,μ,.inl ?_,hst.trans (.grow hst.rel (Grows.alloc w _) (fun g h => .inl h) (fun g h => ?_) (fun g h => ?_)),
  .p _ _ (RelP.ofBlock hag' hlen (by simp) (Nat.le_refl _) ?_ (fun _ => rfl) (.inr rfl) (Go.heap_alloc_new w _) (by omega) hps1 (fun j c hc => (hrelP j c hc).keep (fun _ h => .inl h) (fun g hg => Go.RowKit.Below.heap_alloc w _ g (hst.rel.lt g hg))))⟩
 ·have e1 : (ps.toList.map fun x => (x.1,a.eval x.2)).toArray = ps.map fun x => (x.1,a.eval x.2) := by rw [← Array.toList_map]
  have hn' : ¬ (n' * sz > 2 ^ 24) := by omega
  have h4 : (Go.Instr.buildSlice T n' (ps.toList.map fun x => (x.1,a.eval x.2)).toArray).run P w = .ok (.slice (some ⟨w.heap.size,0,none⟩) n' n') (w.alloc (.cells us e)) := by
   simp only [Go.Instr.buildSlice,Go.Sem.run_bind,Go.run_underlying (slT_spec hT),Go.Result.andThen_ok,run_sizeOf (sizeT_spec hs),if_neg hn']
   by_cases h0 : n' * sz = 0
   ·rw [if_pos h0] at f1
    simp only [h0,if_true]
    rw [Go.Sem.run_bind]
    simp only [Go.Sem.run_pure,Go.Result.andThen_ok]
    have e0 : (Array.range 0).map (fun x => (#[] : Array Value)[x % (#[] : Array Value).size]!) = #[] := by simp
    rw [e0,f1]
    simp [Go.newRow]
   ·rw [if_neg h0] at f1
    simp only [h0,if_false,Go.Sem.run_bind,Go.zeroValue,Go.typeInfo,hi,Go.Sem.run_pure,Go.Result.andThen_ok,hzi,Go.run_program]
    rw [f1]
    simp [Go.newRow]
  rw [e1] at h4
  simp only [execOp,hy]
  simp [h4]
 ·rcases h with h | h
  ·exact Nat.lt_of_lt_of_le (hst.rel.lt g h) (Grows.alloc w _).size
  ·subst h; simp
 ·rcases h with h | h
  ·exact .inl h
  ·exact .inr (by omega)
 ·have : n' * 1 ≤ n' * sz := Nat.mul_le_mul_left _ h0
  simp only [maxLen]
  omega
theorem treeq_sound {o : Oper} {q : QOp} {v : AV} {H' : Heap} (hc : chkX P N o (.treeq q) = true) (he : Env.Rel Γ N w S μ H σ a) (hr : Rel N.fn w S μ H)
  (hv : evX Γ cal σ H (.treeq q) = some (v,H')) : XDone N P w S μ H o a v H' := by
 simp only [chkX,Bool.and_eq_true] at hc
 simp only [evX,Option.bind_eq_some_iff] at hv
 obtain ⟨v0,h1,h2⟩ := hv
 obtain ⟨u,w',S',g1,g2,g3⟩ := q_sound hc.1 hc.2 he hr h1
 simp only [treeA,Option.bind_eq_some_iff,Option.map_eq_some_iff,Prod.mk.injEq] at h2
 obtain ⟨r,hq,p,hp,rfl,rfl⟩ := h2
 obtain ⟨S2,hst,hall⟩ := trees_sound g2.rel (ps := r.1) (H' := r.2) hq (us := [u]) ⟨g3,trivial⟩
 match r,hp,hall,hst with
 | (p' :: ps,H2),hp,hall,hst =>
  simp only [List.head?_cons,Option.some.injEq] at hp
  subst hp
  exact ⟨u,w',S2,μ,.inl g1,g2.trans hst,.p _ _ hall.1⟩
theorem fbox_sound {o : Oper} {x : Arg} {v : AV} {H' : Heap} (hc : chkX P N o (.fbox x) = true) (he : Env.Rel Γ N w S μ H σ a) (hr : Rel N.fn w S μ H)
  (hv : evX Γ cal σ H (.fbox x) = some (v,H')) : XDone N P w S μ H o a v H' := by
 simp only [chkX] at hc
 split at hc
 rotate_left
 ·cases hc
 rename_i T x' hy
 have hx := he.arg hc
 simp only [evX,fboxA,Option.bind_eq_some_iff,ifB_some,Option.some.injEq,Prod.mk.injEq,Bool.and_eq_true,Bool.not_eq_true',List.isEmpty_eq_false_iff] at hv
 obtain ⟨q,hq,⟨hok,hne⟩,rfl,rfl⟩ := hv
 generalize hX : Arg.ev Γ σ x = X at hx hq hok
 obtain ⟨c1,c2,c3⟩ := hx.cells hok
 obtain ⟨S',hst,hall⟩ := trees_sound hr (ps := q.1) (H' := q.2) hq (us := (a.eval x').cells.toList) (.of_get (by simpa using c1) fun j x y hx hy => by
  have := c3 j y hy
  rwa [getD_array,List.getD_eq_getElem?_getD,hx] at this)
 have hget := hall.get
 have hps1 : ∀ c ∈ q.1,c.one = true := fun c hc => by
  unfold treesOf at hq
  obtain ⟨vs',k1,hq⟩ := Option.bind_eq_some_iff.1 hq
  obtain ⟨HL,k2,hq⟩ := Option.bind_eq_some_iff.1 hq
  obtain ⟨ps',k3,hq⟩ := Option.map_eq_some_iff.1 hq
  rw [← hq] at hc
  obtain ⟨j,hj⟩ := List.getElem?_of_mem hc
  obtain ⟨x,hx,hx'⟩ := (mapO_spec k3).2 j c hj
  obtain ⟨y,hy',hy2⟩ := (mapO_spec k1).2 j x hx
  exact reify_one hx' (ren_one hy2 (c2 y (List.mem_of_getElem? hy')))
 have hrelP : ∀ (j : Nat) c,q.1[j]? = some c → RelP N.fn w S' c ((a.eval x').cells.getD j undef) := fun j c hc => by
  have hl : j < (a.eval x').cells.toList.length := by rw [hget.1]; exact (List.getElem?_eq_some_iff.1 hc).1
  have := hget.2 j _ c (List.getElem?_eq_getElem hl) hc
  rw [getD_array,List.getD_eq_getElem?_getD,List.getElem?_eq_getElem hl]
  exact this
 have husz : (a.eval x').cells.size = q.1.length := by have := hget.1; simpa using this
 have hrun : (Go.Instr.box T (a.eval x')).run P w = .ok (.pointer (some ⟨w.heap.size,0,none⟩)) (w.alloc (.cells (a.eval x').cells T)) := by simp [Go.Instr.box,Go.newVar,Go.newRow]
 refine ⟨.pointer (some ⟨w.heap.size,0,none⟩),w.alloc (.cells (a.eval x').cells T),fun g => S' g ∨ g = w.heap.size,μ,.inl (by simp only [execOp,hy]; simp [hrun]),hst.trans (.grow hst.rel (Grows.alloc w _) (fun g h => .inl h) (fun g h => ?_) (fun g h => ?_)),
  .p _ _ (.ptr _ _ (fun j => (a.eval x').cells.getD j undef) hne (.inr rfl) hps1 (fun j c hc => ?_) (fun j c hc => (hrelP j c hc).keep (fun _ h => .inl h) (fun g hg => Go.RowKit.Below.heap_alloc w _ g (hst.rel.lt g hg))))⟩
 ·rcases h with h | h
  ·exact Nat.lt_of_lt_of_le (hst.rel.lt g h) (Grows.alloc w _).size
  ·subst h; simp
 ·rcases h with h | h
  ·exact .inl h
  ·exact .inr (by omega)
 ·have hj : j < (a.eval x').cells.size := by rw [husz]; exact (List.getElem?_eq_some_iff.1 hc).1
  have e1 : (w.alloc (.cells (a.eval x').cells T)).heap[w.heap.size]? = _ := Go.heap_alloc_new w _
  have e2 : (⟨w.heap.size,0,none⟩ : Addr).add j = ⟨w.heap.size,j,none⟩ := by unfold Addr.add; split <;> simp_all
  rw [e2]
  unfold World.cell?
  simp only [e1]
  simp [hj]
end
end Ab
namespace Ab
open Go (IntKind BinOp UnOp World Value Addr Obj undef maxLen Program TypeId Oper Op Operand Act Sem Next Result execOp Builtin Calls Ending Exit)
def Arg.tmps : Arg → List Nat
 | .v t => [t]
 | _ => []
def QOp.args : QOp → List Arg
 | .bad => []
 | .mlen x | .mov x | .nilchk x | .un _ x | .conv _ x | .same x | .strOf x | .runeStr x | .len _ x | .fld _ _ _ x | .faddr _ x | .load _ _ x | .ext x _ => [x]
 | .pick c a b => [c,a,b]
 | .lenk x y | .loadk _ _ x y | .mget _ _ _ x y | .isnil _ x y | .appq _ x y | .bin _ x y | .eqs _ _ x y | .eqk _ _ x y | .idx x y | .aidx _ _ _ x y | .iaddr _ x y | .iaddrA _ _ x y => [x,y]
 | .sliceS x lo hi | .slice _ x lo hi | .wslice _ x lo hi => x :: (lo.toList ++ hi.toList)
 | .build _ ps | .bslice _ _ _ _ ps => ps.map (·.arg)
 | .minmax _ xs | .clos _ xs => xs
 | .call f xs | .callr f xs => f :: xs
 | .mkt _ _ _ n c => [n,c]
def XOp.args : XOp → List Arg
 | .alloc _ | .newrow _ | .mkmap => []
 | .box x | .fbox x | .bytesOf x | .range x | .next x => [x]
 | .mset _ x k v => [x,k,v]
 | .msets _ x k v => [x,k,v]
 | .mdel _ x k => [x,k]
 | .store _ x v | .append _ x v | .appt _ x v | .appendS x v | .copy _ x v => [x,v]
 | .mkslice _ _ _ n c => [n,c]
 | .slicef _ x lo hi => x :: (lo.toList ++ hi.toList)
 | .popf _ x hi => [x,hi]
 | .storek _ x v ks | .appk _ x v ks => x :: v :: ks
 | .callk f xs ks | .callwk f xs ks => f :: (xs ++ ks)
 | .callf f xs | .calls f xs | .callz f xs | .callw f xs => f :: xs
 | .bslicef _ _ _ _ ps | .brow _ _ _ _ ps => ps.map (·.arg)
 | .bslk _ _ _ _ ps ks => ks ++ ps.map (·.arg)
 | .pureq q | .treeq q => q.args
def opArgs : QOp ⊕ XOp → List Arg
 | .inl q => q.args
 | .inr x => x.args
def St.reads (s : St) : List Nat := (match s.g with | some (t,_) => [t] | none => []) ++ (opArgs s.op).flatMap Arg.tmps
def evOne (Γ : Ctx) (cal : Nat → List AV → Heap → Option (List AV × Heap)) (s : St) (σ : Nat → AV) (H : Heap) : Option (AV × Heap) :=
 match wanted σ s.g with
 | none => none
 | some false => some (.nov,H)
 | some true => match s.op with
  | .inl q => (evQ Γ cal σ H q).map fun v => (v,H)
  | .inr x => evX Γ cal σ H x
section
variable {Γ : Ctx} {cal : Nat → List AV → Heap → Option (List AV × Heap)}
theorem evSts_cons {s : St} {r : List St} {env : Env} {H : Heap} :
  evSts Γ cal (s :: r) env H = (evOne Γ cal s (look env) H).bind fun x => evSts Γ cal r (put env s.dst x.1) x.2 := by
 simp only [evSts,evOne]
 cases wanted (look env) s.g with
 | none => rfl
 | some b =>
  cases b with
  | false => rfl
  | true =>
   cases s.op with
   | inl q => simp only []; cases evQ Γ cal (look env) H q <;> rfl
   | inr x => simp only []; cases evX Γ cal (look env) H x <;> rfl
theorem Arg.ev_congr {σ σ' : Nat → AV} {x : Arg} (h : ∀ t ∈ x.tmps,σ t = σ' t) : x.ev Γ σ = x.ev Γ σ' := by
 cases x <;> try rfl
 exact h _ (by simp [Arg.tmps])
theorem map_congr {α β : Type} {f g : α → β} {l : List α} (h : ∀ x ∈ l,f x = g x) : l.map f = l.map g := List.map_congr_left h
theorem evQ_congr {σ σ' : Nat → AV} {H : Heap} {q : QOp} (h : ∀ x ∈ q.args,x.ev Γ σ = x.ev Γ σ') : evQ Γ cal σ H q = evQ Γ cal σ' H q := by
 have om : ∀ o : Option Arg,(∀ x ∈ o.toList,x.ev Γ σ = x.ev Γ σ') → o.map (Arg.ev Γ σ) = o.map (Arg.ev Γ σ') := fun o ho => by
  cases o with
  | none => rfl
  | some x => simp only [Option.map_some,ho x (by simp)]
 cases q <;> simp only [QOp.args,List.mem_cons,List.not_mem_nil,or_false,forall_eq,forall_eq_or_imp,List.mem_append,List.mem_map,forall_exists_index,and_imp,forall_apply_eq_imp_iff₂] at h <;> simp only [evQ]
 case sliceS x lo hi => rw [h.1,om lo fun x hx => h.2 x (.inl hx),om hi fun x hx => h.2 x (.inr hx)]
 case slice x lo hi => rw [h.1,om lo fun x hx => h.2 x (.inl hx),om hi fun x hx => h.2 x (.inr hx)]
 case wslice x lo hi => rw [h.1,om lo fun x hx => h.2 x (.inl hx),om hi fun x hx => h.2 x (.inr hx)]
 case build zero parts => rw [map_congr (f := fun q : Parts => (q.off,q.sz,Arg.ev Γ σ q.arg)) (g := fun q : Parts => (q.off,q.sz,Arg.ev Γ σ' q.arg)) fun x hx => by rw [h x hx]]
 case bslice sz ag n zero parts => rw [map_congr (f := fun q : Parts => (q.off,q.sz,Arg.ev Γ σ q.arg)) (g := fun q : Parts => (q.off,q.sz,Arg.ev Γ σ' q.arg)) fun x hx => by rw [h x hx]]
 case minmax mx xs => rw [map_congr h]
 case clos f xs => rw [map_congr h]
 case call f xs => rw [h.1,map_congr h.2]
 case callr f xs => rw [h.1,map_congr h.2]
 all_goals (first | rfl | rw [h] | rw [h.1,h.2] | rw [h.1,h.2.1,h.2.2])
theorem evX_congr {σ σ' : Nat → AV} {H : Heap} {q : XOp} (h : ∀ x ∈ q.args,x.ev Γ σ = x.ev Γ σ') : evX Γ cal σ H q = evX Γ cal σ' H q := by
 have hp : ∀ q',q = .pureq q' → evX Γ cal σ H q = evX Γ cal σ' H q := fun q' e => by subst e; simp only [evX,evQ_congr (q := q') h]
 have om : ∀ o : Option Arg,(∀ x ∈ o.toList,x.ev Γ σ = x.ev Γ σ') → o.map (Arg.ev Γ σ) = o.map (Arg.ev Γ σ') := fun o ho => by
  cases o with
  | none => rfl
  | some x => simp only [Option.map_some,ho x (by simp)]
 cases q <;> simp only [XOp.args,List.mem_cons,List.not_mem_nil,or_false,forall_eq,forall_eq_or_imp,List.mem_append,List.mem_map,forall_exists_index,and_imp,forall_apply_eq_imp_iff₂] at h <;> simp only [evX]
 case slicef sz x lo hi => rw [h.1,om lo fun x hx => h.2 x (.inl hx),om hi fun x hx => h.2 x (.inr hx)]
 case callf f xs => rw [h.1,map_congr h.2]
 case calls f xs => rw [h.1,map_congr h.2]
 case callz f xs => rw [h.1,map_congr h.2]
 case callw f xs => rw [h.1,map_congr h.2]
 case callwk f xs ks => rw [h.1,map_congr fun x hx => h.2 x (.inl hx),map_congr fun x hx => h.2 x (.inr hx)]
 case callk f xs ks => rw [h.1,map_congr fun x hx => h.2 x (.inl hx),map_congr fun x hx => h.2 x (.inr hx)]
 case storek sz x v ks => rw [h.1,h.2.1,map_congr h.2.2]
 case appk sz x v ks => rw [h.1,h.2.1,map_congr h.2.2]
 case bslk sz ag n zero parts ks => rw [map_congr (f := Arg.ev Γ σ) (g := Arg.ev Γ σ') (l := ks) fun x hx => h x (.inl hx),map_congr (f := fun q : Parts => (q.off,q.sz,Arg.ev Γ σ q.arg)) (g := fun q : Parts => (q.off,q.sz,Arg.ev Γ σ' q.arg)) fun x hx => by rw [h x.arg (.inr ⟨x,hx,rfl⟩)]]
 case pureq q => exact hp q rfl
 case treeq q => simp only [evQ_congr (q := q) h]
 case brow sz ag n zero parts => rw [map_congr (f := fun q : Parts => (q.off,q.sz,Arg.ev Γ σ q.arg)) (g := fun q : Parts => (q.off,q.sz,Arg.ev Γ σ' q.arg)) fun x hx => by rw [h x hx]]
 case bslicef sz ag n zero parts => rw [map_congr (f := fun q : Parts => (q.off,q.sz,Arg.ev Γ σ q.arg)) (g := fun q : Parts => (q.off,q.sz,Arg.ev Γ σ' q.arg)) fun x hx => by rw [h x hx]]
 all_goals (first | rfl | rw [h] | rw [h.1,h.2] | rw [h.1,h.2.1,h.2.2])
theorem evOne_congr {σ σ' : Nat → AV} {H : Heap} {s : St} (h : ∀ t ∈ s.reads,σ t = σ' t) : evOne Γ cal s σ H = evOne Γ cal s σ' H := by
 have hg : wanted σ s.g = wanted σ' s.g := by
  cases hs : s.g with
  | none => rfl
  | some g => obtain ⟨t,b⟩ := g; simp only [wanted]; rw [h t (by simp [St.reads,hs])]
 have ha : ∀ x ∈ opArgs s.op,x.ev Γ σ = x.ev Γ σ' := fun x hx => Arg.ev_congr fun t ht => h t (by
  simp only [St.reads,List.mem_append,List.mem_flatMap]; exact .inr ⟨x,hx,ht⟩)
 unfold evOne
 rw [hg]
 cases hs : s.op with
 | inl q => rw [hs] at ha; simp only [evQ_congr ha]
 | inr x => rw [hs] at ha; simp only [evX_congr ha]
end
def guardOk (ops : Array Oper) : Option (Nat × Bool) → Option (Nat × Bool) → Bool
 | none,none => true
 | some (j,b),some (t,b') => (match ops[j]? with | some oj => oj.dst == some t | none => false) && b == b'
 | _,_ => false
def chkSt (P : Program) (N : Names) (ops : Array Oper) (nt : Nat) (o : Oper) (s : St) : Bool :=
 o.dst == s.dst && (match s.dst with | some d => decide (d < nt) | none => true) && guardOk ops o.guard s.g && chkOp P N o s.op
section
variable {Γ : Ctx} {N : Names} {P : Program} {w : World} {S : Nat → Prop} {μ : Nat → Value} {H H' : Heap} {σ : Nat → AV} {a : Act}
 {cal : Nat → List AV → Heap → Option (List AV × Heap)} {ops : Array Oper}
theorem get_of_getD {xs : Array Value} {t : Nat} {v : Value} (h : xs.getD t undef = v) (hv : v ≠ undef) : xs[t]? = some v := by
 cases hx : xs[t]? with
 | none => simp [Array.getD_eq_getD_getElem?,hx] at h; exact absurd h.symm hv
 | some x => simp [Array.getD_eq_getD_getElem?,hx] at h; rw [h]
theorem RelV.nov_inv {u : Value} (h : RelV N.fn w S μ H .nov u) : u = undef := by cases h; rfl
theorem wanted_spec (he : Env.Rel Γ N w S μ H σ a) {o : Oper} {g : Option (Nat × Bool)} {b : Bool} (hg : guardOk ops o.guard g = true) (hw : wanted σ g = some b) : Go.Region.wanted o (Go.yielded ops a.tmps) = b := by
 unfold guardOk at hg
 split at hg
 ·rename_i h1
  simp only [wanted,Option.some.injEq] at hw; subst hw
  simp [Go.Region.wanted,h1]
 ·rename_i j c t c' h1
  simp only [Bool.and_eq_true,beq_iff_eq] at hg
  obtain ⟨h2,rfl⟩ := hg
  split at h2
  ·rename_i oj hj
   simp only [beq_iff_eq] at h2
   have hv := he.env t
   simp only [wanted] at hw
   split at hw
   ·rename_i c' hc'
    rw [hc'] at hv
    have hv := hv.bool_inv
    simp only [Option.some.injEq] at hw; subst hw
    have hv := get_of_getD hv (by simp [undef])
    simp only [Go.Region.wanted,h1,Go.yielded,hj,h2,hv,Option.bind_some]
    rfl
   ·rename_i hc'
    rw [hc'] at hv
    simp only [Option.some.injEq] at hw; subst hw
    have hv := hv.nov_inv
    simp only [Go.Region.wanted,h1,Go.yielded,hj,h2,Option.bind_some]
    cases hx : a.tmps[t]? with
    | none => rfl
    | some x =>
     simp only [Array.getD_eq_getD_getElem?,hx,Option.getD_some] at hv
     subst hv; rfl
   ·cases hw
  ·cases h2
 ·cases hg
theorem one_sound (hcal : CallOk Γ N P cal) {nt : Nat} {i : Nat} {o : Oper} {s : St} {v : AV} (hi : ops[i]? = some o) (hc : chkSt P N ops nt o s = true) (he : Env.Rel Γ N w S μ H σ a) (hr : Rel N.fn w S μ H)
  (hv : evOne Γ cal s σ H = some (v,H')) {K : Act → World → Prop} {Q : Exit → Act → World → Prop}
  (hK : ∀ u w' S' μ',Step N.fn w S μ H w' S' μ' H' → RelV N.fn w' S' μ' H' v u → K (a.put s.dst u) w') : Go.wpOp P ops Q i K a w := by
 simp only [chkSt,Bool.and_eq_true,beq_iff_eq] at hc
 obtain ⟨⟨⟨hd,_⟩,hg⟩,hop⟩ := hc
 unfold Go.wpOp
 simp only [hi]
 rw [← hd] at hK
 simp only [evOne] at hv
 split at hv
 ·cases hv
 ·rename_i hw
  simp only [Option.some.injEq,Prod.mk.injEq] at hv
  obtain ⟨rfl,rfl⟩ := hv
  simp only [wanted_spec he hg hw,Bool.false_eq_true,if_false]
  exact hK undef w S μ (.refl hr) .nov
 ·rename_i hw
  simp only [wanted_spec he hg hw,if_true]
  refine .inl ?_
  have fin : CDone N P w S μ H o a v H' → o.wp P a w K Q := by
   rintro ⟨f,us,h1,⟨h2,h3⟩ | ⟨u,w',h2,S',μ',h3,h4⟩⟩
   ·simp only [Go.Oper.wp,h1,h2,Go.Oper.upon]
    refine h3.mono ?_
    rintro e w' ⟨u,rfl,S',μ',h3,h4⟩
    exact hK u w' S' μ' h3 h4
   ·simp only [Go.Oper.wp,h1,h2,Go.Oper.upon]
    exact hK u w' S' μ' h3 h4
  split at hv
  ·rename_i q hq
   rw [hq] at hop
   simp only [Option.map_eq_some_iff,Prod.mk.injEq] at hv
   obtain ⟨v',hv,rfl,rfl⟩ := hv
   by_cases hcl : q.plain = false
   ·cases q <;> first | exact fin (call_sound hcal hop he hr hv) | exact fin (callr_sound hcal hop he hr hv) | cases hcl
   ·obtain ⟨u,w',S',h1,h2,h3⟩ := q_sound (by simpa using hcl) hop he hr hv
    simp only [Go.Oper.wp,h1,Go.Oper.upon]
    exact hK u w' S' μ h2 h3
  ·rename_i x hx
   rw [hx] at hop
   by_cases hk : x.known = true
   ·obtain ⟨u,w',S',μ',h1,h2,h3⟩ := x_sound hk hop he hr hv
    rcases h1 with h1 | ⟨h1,rfl⟩
    ·simp only [Go.Oper.wp,h1,Go.Oper.upon]; exact hK u w' S' μ' h2 h3
    ·simp only [Go.Oper.wp,h1,Go.Oper.upon]; exact hK undef w' S' μ' h2 h3
   ·cases x <;> simp only [XOp.known,not_true_eq_false] at hk
    ·obtain ⟨u,w',S',μ',h1,h2,h3⟩ := bslicef_sound hop he hr hv
     rcases h1 with h1 | ⟨h1,rfl⟩
     ·simp only [Go.Oper.wp,h1,Go.Oper.upon]; exact hK u w' S' μ' h2 h3
     ·simp only [Go.Oper.wp,h1,Go.Oper.upon]; exact hK undef w' S' μ' h2 h3
    ·obtain ⟨u,w',S',μ',h1,h2,h3⟩ := fbox_sound (P := P) hop he hr hv
     rcases h1 with h1 | ⟨h1,rfl⟩
     ·simp only [Go.Oper.wp,h1,Go.Oper.upon]; exact hK u w' S' μ' h2 h3
     ·simp only [Go.Oper.wp,h1,Go.Oper.upon]; exact hK undef w' S' μ' h2 h3
    ·exact fin (callz_sound hcal hop he hr hv)
    ·rename_i q
     simp only [evX,Option.map_eq_some_iff,Prod.mk.injEq] at hv
     obtain ⟨v',hv,rfl,rfl⟩ := hv
     have hv : evQ Γ cal σ H q = some v' := by simpa using evQ_up (E := H) hv
     by_cases hcl : q.plain = false
     ·cases q <;> first | exact fin (call_sound hcal hop he hr hv) | exact fin (callr_sound hcal hop he hr hv) | cases hcl
     ·obtain ⟨u,w',S',h1,h2,h3⟩ := q_sound (by simpa using hcl) hop he hr hv
      simp only [Go.Oper.wp,h1,Go.Oper.upon]
      exact hK u w' S' μ h2 h3
    ·exact fin (callf_sound hcal hop he hr hv)
    ·exact fin (calls_sound hcal hop he hr hv)
    ·obtain ⟨u,w',S',μ',h1,h2,h3⟩ := treeq_sound (P := P) hop he hr hv
     rcases h1 with h1 | ⟨h1,rfl⟩
     ·simp only [Go.Oper.wp,h1,Go.Oper.upon]; exact hK u w' S' μ' h2 h3
     ·simp only [Go.Oper.wp,h1,Go.Oper.upon]; exact hK undef w' S' μ' h2 h3
    ·rename_i f args ks
     have hv' : evX Γ cal σ H (.calls f args) = some (v,H') := by
      simp only [evX,callkA,Option.map_eq_some_iff,Option.bind_eq_some_iff,ifB_some] at hv ⊢
      obtain ⟨r,⟨fc,_,_,h1⟩,h2⟩ := hv
      exact ⟨r,h1,h2⟩
     exact fin (calls_sound hcal (o := o) (f := f) (args := args) hop he hr hv')
    ·exact fin (callw_sound hcal hop he hr hv)
    ·rename_i f args ks
     have hv' : evX Γ cal σ H (.callw f args) = some (v,H') := by
      simp only [evX,callwkA,Option.map_eq_some_iff,Option.bind_eq_some_iff,ifB_some] at hv ⊢
      obtain ⟨r,⟨r',h1,_,h2⟩,h3⟩ := hv
      cases h2
      exact ⟨r,h1,h3⟩
     exact fin (callw_sound hcal (o := o) (f := f) (args := args) hop he hr hv')
    ·rename_i sz x y
     have hc : chkX P N o (.append sz x y) = true := hop
     simp only [evX] at hv
     obtain ⟨r,hv,h2⟩ := Option.bind_eq_some_iff.1 hv
     obtain ⟨u,w',S',μ',h1,g2,g3⟩ := x_sound (o := o) (x := .append sz x y) (cal := cal) (v := r.1) (H' := r.2) rfl hc he hr (by simp only [evX]; exact hv)
     simp only [treeA,Option.bind_eq_some_iff,Option.map_eq_some_iff,Prod.mk.injEq] at h2
     obtain ⟨q,hq,p,hp,rfl,rfl⟩ := h2
     obtain ⟨S2,hst,hall⟩ := trees_sound g2.rel (ps := q.1) (H' := q.2) hq (us := [u]) ⟨g3,trivial⟩
     match q,hp,hall,hst with
     | (p' :: ps,H2),hp,hall,hst =>
      simp only [List.head?_cons,Option.some.injEq] at hp
      subst hp
      rcases h1 with h1 | ⟨h1,rfl⟩
      ·simp only [Go.Oper.wp,h1,Go.Oper.upon]; exact hK u w' S2 μ' (g2.trans hst) (.p _ _ hall.1)
      ·simp only [Go.Oper.wp,h1,Go.Oper.upon]; exact hK undef w' S2 μ' (g2.trans hst) (.p _ _ hall.1)
    ·rename_i sz x y ks
     have hc : chkX P N o (.append sz x y) = true := hop
     simp only [evX,ifB_some] at hv
     obtain ⟨u,w',S',μ',h1,h2,h3⟩ := x_sound (o := o) (x := .append sz x y) (cal := cal) (v := v) (H' := H') rfl hc he hr (by simp only [evX]; exact hv.2)
     rcases h1 with h1 | ⟨h1,rfl⟩
     ·simp only [Go.Oper.wp,h1,Go.Oper.upon]; exact hK u w' S' μ' h2 h3
     ·simp only [Go.Oper.wp,h1,Go.Oper.upon]; exact hK undef w' S' μ' h2 h3
    ·rename_i sz ag n zero parts ks
     have hv' : evX Γ cal σ H (.bslicef sz ag n zero parts) = some (v,H') := by
      simp only [evX,bslkA,Option.bind_eq_some_iff,ifB_some] at hv ⊢
      obtain ⟨l,h1,_,h2⟩ := hv
      rw [h1]; exact h2
     obtain ⟨u,w',S',μ',h1,h2,h3⟩ := bslicef_sound (o := o) hop he hr hv'
     rcases h1 with h1 | ⟨h1,rfl⟩
     ·simp only [Go.Oper.wp,h1,Go.Oper.upon]; exact hK u w' S' μ' h2 h3
     ·simp only [Go.Oper.wp,h1,Go.Oper.upon]; exact hK undef w' S' μ' h2 h3
theorem RelV.step {w' : World} {S' : Nat → Prop} {μ' : Nat → Value} (hr : Rel N.fn w S μ H) (hs : Step N.fn w S μ H w' S' μ' H') {v : AV} {u : Value} (h : RelV N.fn w S μ H v u) : RelV N.fn w' S' μ' H' v u :=
 h.keep hs.ext.more (fun g hg => hs.ext.keep g (hr.lt g hg) (hr.stable hg).2) hs.moves
theorem GlRel.step {w' : World} {S' : Nat → Prop} {μ' : Nat → Value} (hr : Rel N.fn w S μ H) (hs : Step N.fn w S μ H w' S' μ' H') (h : GlRel Γ N w S) : GlRel Γ N w' S' :=
 ⟨fun n cs hn => (h.rel n cs hn).keep hs.ext.more (fun g hg => hs.ext.keep g (hr.lt g hg) (hr.stable hg).2),fun n cs hn => by
  obtain ⟨us,e,fr,h1,h2⟩ := h.whole n cs hn
  have hS : S (N.gl n) := by
   have := h.rel n cs hn
   cases this with
   | ptr _ _ _ _ hs => exact hs
  exact ⟨us,e,fr,by rw [hs.ext.keep _ (hr.lt _ hS) (hr.stable hS).2]; exact h1,h2⟩,fun n hn => by
  obtain ⟨hS,m,hm⟩ := h.ints n hn
  exact ⟨hs.ext.more _ hS,m,(cell?_of_heap (hs.ext.keep _ (hr.lt _ hS) (hr.stable hS).2)).trans hm⟩⟩
theorem put_getD_ne {dst : Option Nat} {u : Value} {t : Nat} (h : dst ≠ some t) : (a.put dst u).tmps.getD t undef = a.tmps.getD t undef := by
 cases dst with
 | none => rfl
 | some d =>
  have : d ≠ t := fun e => h (by rw [e])
  simp [Go.Act.put,Array.getElem?_setIfInBounds_ne this]
theorem put_getD_eq {d : Nat} {u : Value} (h : d < a.tmps.size) : (a.put (some d) u).tmps.getD d undef = u := by
 simp [Go.Act.put,h]
theorem put_size {dst : Option Nat} {u : Value} : (a.put dst u).tmps.size = a.tmps.size := by cases dst <;> simp [Go.Act.put]
theorem put_defers {dst : Option Nat} {u : Value} : (a.put dst u).defers = a.defers := by cases dst <;> rfl
theorem look_put {env : Env} {dst : Option Nat} {v : AV} {t : Nat} : look (put env dst v) t = if dst = some t then v else look env t := by
 cases dst with
 | none => simp [put]
 | some d => by_cases h : d = t <;> simp [put,look,h]
theorem Env.Rel.put {env : Env} {w' : World} {S' : Nat → Prop} {μ' : Nat → Value} {v : AV} {u : Value} {dst : Option Nat} (hr : Ab.Rel N.fn w S μ H) (he : Env.Rel Γ N w S μ H (look env) a) (hs : Step N.fn w S μ H w' S' μ' H')
  (hv : RelV N.fn w' S' μ' H' v u) (hd : ∀ d,dst = some d → d < a.tmps.size) : Env.Rel Γ N w' S' μ' H' (look (Ab.put env dst v)) (a.put dst u) where
 env t := by
  rw [look_put]
  split
  ·rename_i h; subst h; rw [put_getD_eq (hd t rfl)]; exact hv
  ·rename_i h; rw [put_getD_ne h]; exact (he.env t).step hr hs
 gl := GlRel.step hr hs he.gl
theorem sts_sound (hcal : CallOk Γ N P cal) {nt : Nat} {Q : Exit → Act → World → Prop} : ∀ (sts : List St) (k : Nat) {env env' : Env} {w : World} {S : Nat → Prop} {μ : Nat → Value} {H H' : Heap} {a : Act},
  (∀ j s,sts[j]? = some s → ∃ o,ops[k + j]? = some o ∧ chkSt P N ops nt o s = true) → evSts Γ cal sts env H = some (env',H') → Rel N.fn w S μ H → Env.Rel Γ N w S μ H (look env) a → nt ≤ a.tmps.size →
  (∀ a' w' S' μ',Step N.fn w S μ H w' S' μ' H' → Env.Rel Γ N w' S' μ' H' (look env') a' → a'.tmps.size = a.tmps.size → a'.defers = a.defers → Q .normal a' w') →
  Go.wpOps P ops Q (List.range' k sts.length) a w
 | [],k,env,env',w,S,μ,H,H',a,_,hv,hr,he,hn,hQ => by
  simp only [evSts,Option.some.injEq,Prod.mk.injEq] at hv
  obtain ⟨rfl,rfl⟩ := hv
  exact hQ a w S μ (.refl hr) he rfl rfl
 | s :: sts,k,env,env',w,S,μ,H,H',a,hc,hv,hr,he,hn,hQ => by
  rw [evSts_cons,Option.bind_eq_some_iff] at hv
  obtain ⟨⟨v,H1⟩,h1,h2⟩ := hv
  obtain ⟨o,ho,hso⟩ := hc 0 s rfl
  simp only [List.length_cons,List.range'_succ,Go.wpOps_cons]
  refine one_sound hcal ho hso he hr h1 fun u w1 S1 μ1 hs hu => ?_
  have hd : ∀ d,s.dst = some d → d < a.tmps.size := fun d hd => by
   simp only [chkSt,hd,Bool.and_eq_true,decide_eq_true_eq] at hso
   omega
  refine sts_sound hcal sts (k + 1) (fun j s' hj => ?_) h2 hs.rel (he.put hr hs hu hd) (by rw [put_size]; exact hn) fun a' w' S' μ' hs' he' hsz hdf => ?_
  ·obtain ⟨o',h3,h4⟩ := hc (j + 1) s' (by simpa using hj)
   exact ⟨o',by rw [← h3]; congr 1; omega,h4⟩
  ·exact hQ a' w' S' μ' (hs.trans hs') he' (by rw [hsz,put_size]) (by rw [hdf,put_defers])
end
end Ab
