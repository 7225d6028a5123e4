import Derived.Test.YthecbhbcjnajbaaGreatDoorAbX3
import Derived.Laws.MakeOwn
import Derived.Test.YthecbhbcjnajbaaGreatDoorAbPrim
import Derived.Deep.AppendSrc
namespace Ab
open Go (IntKind BinOp UnOp World Value Addr Obj undef maxLen Program TypeId Oper Op Operand Act Sem Next Result execOp Builtin)
section
variable {Γ : Ctx} {N : Names} {P : Program} {w : World} {S T : Nat → Prop} {μ : Nat → Value} {H : Heap}
theorem RelP.more {ν : Nat → Nat} {v u} (h : RelP ν w S v u) (hS : ∀ g,S g → T g) : RelP ν w T v u := h.keep hS (fun _ _ => rfl)
theorem row_relP (hr : Rel N.fn w S μ H) {id : Nat} {f : Bool} {sz : Nat} {xs : List PV} (hb : H[id]? = some (.row f sz xs)) (hS : ∀ g,S g → T g) (hT : ∀ g,blkOf (μ id) = some g → T g) : RelP N.fn w T (.sl .any sz xs) (μ id) := by
 obtain ⟨h0,_,us,h1,h2,h3,_⟩ := hr.blk id _ hb
 have h1' := h1
 obtain ⟨hl,h1⟩ := h1
 rcases h1 with ⟨e0,a,ha⟩ | ⟨g,cap,cur,e,hv,hc,hg,hn,hm,hcs,ht⟩
 ·have : xs = [] := List.eq_nil_of_length_eq_zero e0
  subst this
  rw [ha]
  exact .sl .any sz [] a 0 (fun _ _ => undef) (Nat.le_refl _) (Nat.zero_le _) (by simp) (by simp) (by simp) (by simp) (by simp) (by simp)
 ·have hTg : T g := hT g (by rw [hv]; simp only [blkOf]; rw [if_neg (by omega)])
  rw [hv]
  refine .sl .any sz xs _ cap (fun i j => us.getD (i * sz + j) undef) hn hm h2 (by simp) (by simp) (fun _ => ⟨_,rfl,hTg⟩) (fun ad had i x j c hx hc => ?_) (fun i x j c hx hc => (h3 i x j c hx hc).more hS)
  cases had
  have hj : j < sz := by rw [← (h2 x (List.mem_of_getElem? hx)).1]; exact (List.getElem?_eq_some_iff.1 hc).1
  have hi : i < xs.length := (List.getElem?_eq_some_iff.1 hx).1
  rw [Go.Addr.add_lit,Nat.zero_add]
  refine row_cell h1' hv ?_
  calc i * sz + j < i * sz + sz := by omega
   _ = (i + 1) * sz := by rw [Nat.add_mul,Nat.one_mul]
   _ ≤ xs.length * sz := Nat.mul_le_mul_right _ hi
theorem mapO_spec {α β : Type} {f : α → Option β} : ∀ {l : List α} {r : List β},mapO f l = some r → r.length = l.length ∧ ∀ (j : Nat) x,r[j]? = some x → ∃ a,l[j]? = some a ∧ f a = some x
 | [],r,h => by simp only [mapO,Option.some.injEq] at h; subst h; simp
 | a :: l,r,h => by
  simp only [mapO] at h
  cases hf : f a with
  | none => simp [hf] at h
  | some x =>
   simp only [hf] at h
   cases hm : mapO f l with
   | none => simp [hm] at h
   | some xs =>
    simp only [hm,Option.some.injEq] at h
    subst h
    obtain ⟨h1,h2⟩ := mapO_spec hm
    refine ⟨by simp [h1],fun j y hy => ?_⟩
    cases j with
    | zero => simp only [List.getElem?_cons_zero,Option.some.injEq] at hy; subst hy; exact ⟨a,rfl,hf⟩
    | succ j => simpa using h2 j y (by simpa using hy)
theorem reify_one {d : Nat} {v : AV} {p : PV} (h : reify H d v = some p) (h1 : v.one = true) : p.one = true := by
 cases d with
 | zero =>
  cases v <;> simp only [reify,Option.some.injEq,reduceCtorEq] at h
  subst h; exact h1
 | succ d =>
  cases v with
  | p v => simp only [reify,Option.some.injEq] at h; subst h; exact h1
  | own id n => simp only [reify,Option.map_eq_some_iff] at h; obtain ⟨_,_,rfl⟩ := h; rfl
  | bx id off =>
   simp only [reify,Option.bind_eq_some_iff,Option.ite_none_right_eq_some,Option.map_eq_some_iff] at h
   obtain ⟨_,_,_,_,_,rfl⟩ := h; rfl
  | el id n i off =>
   simp only [reify] at h
   split at h
   ·simp only [Option.bind_eq_some_iff,Option.ite_none_right_eq_some,Option.some.injEq] at h
    obtain ⟨_,_,_,rfl⟩ := h; rfl
   ·simp only [Option.bind_eq_some_iff,Option.ite_none_right_eq_some,Option.some.injEq] at h
    obtain ⟨_,_,_,_,_,rfl⟩ := h; rfl
  | mp id => simp [reify] at h
  | clo f cs => simp only [reify,Option.map_eq_some_iff] at h; obtain ⟨_,_,rfl⟩ := h; rfl
  | agg => cases h1
  | tup => cases h1
  | nov => cases h1
  | any => cases h1
theorem piece_relP (hr : Rel N.fn w S μ H) {id n i off sz : Nat} {xs : List PV} {u : Value} (hb : rowOf H id n = some (sz,xs)) (h : RelV N.fn w S μ H (.el id n i off) u) (hS : ∀ g,S g → T g)
  (hT : ∀ f,H[id]? = some (.row f sz xs) → ∀ g,blkOf (μ id) = some g → T g) (hni : n ≤ i) (h1 : i - n < n) (h2 : i - n ≤ off) (h3 : off ≤ n) : RelP N.fn w T (.sl .mem sz ((xs.take off).drop (i - n))) u := by
 obtain ⟨f,hrow,hn⟩ := rowOf_spec hb
 simp only at hn hrow
 cases h with
 | el _ _ _ _ _ hl he hone =>
 obtain ⟨g,cap,k4,rfl⟩ := ((he f sz xs hrow).2 hn.symm).2 hni h1 h2 h3
 obtain ⟨h0,hlim,us,r1,r2,r3,_⟩ := hr.blk id _ hrow
 have hcap : n ≤ cap ∧ cap ≤ maxLen := by
  obtain ⟨_,r1⟩ := r1
  rcases r1 with ⟨e0,_⟩ | ⟨g',cap',cur,e,hv,hc,hg,hcn,hm,_⟩
  ·omega
  ·rw [k4] at hv; cases hv; exact ⟨by omega,hm⟩
 have hTg : T g := hT f hrow g (by rw [k4]; simp only [blkOf]; rw [if_neg (by omega)])
 have hlen : ((xs.take off).drop (i - n)).length = off - (i - n) := by simp; omega
 have get : ∀ (j : Nat) x,((xs.take off).drop (i - n))[j]? = some x → xs[i - n + j]? = some x ∧ i - n + j < off := by
  intro j x hx
  rw [List.getElem?_drop,List.getElem?_take] at hx
  split at hx
  ·rename_i hlt; exact ⟨hx,hlt⟩
  ·cases hx
 have fin := RelP.sl (ν := N.fn) (w := w) (S := T) .mem sz ((xs.take off).drop (i - n)) (some ⟨g,(i - n) * sz,none⟩) (cap - (i - n)) (fun a b => us.getD ((i - n + a) * sz + b) undef) (by omega) (by omega)
  (fun x hx => by
   obtain ⟨j,hj⟩ := List.getElem?_of_mem hx
   exact r2 x (List.mem_of_getElem? (get j x hj).1)) (by simp) (by simp) (fun _ => ⟨_,rfl,hTg⟩)
  (fun ad had a x b c hx hc => by
   cases had
   obtain ⟨hx,hlt⟩ := get a x hx
   have hb' : b < sz := by rw [← (r2 x (List.mem_of_getElem? hx)).1]; exact (List.getElem?_eq_some_iff.1 hc).1
   rw [Go.Addr.add_lit,← Nat.add_assoc,← Nat.add_mul]
   refine row_cell r1 (by rw [hn]; exact k4) ?_
   calc (i - n + a) * sz + b < (i - n + a) * sz + sz := by omega
    _ = (i - n + a + 1) * sz := by rw [Nat.add_mul (i - n + a),Nat.one_mul]
    _ ≤ xs.length * sz := Nat.mul_le_mul_right _ (by omega))
  (fun a x b c hx hc => (r3 _ x _ c (get a x hx).1 hc).more hS)
 rw [hlen] at fin
 exact fin
theorem getD_array {us : Array Value} {j : Nat} : us.getD j undef = us.toList.getD j undef := getD_toList.symm
theorem reify_rel (hr : Rel N.fn w S μ H) (hS : ∀ g,S g → T g) (hT : ∀ (id : Nat) b g,H[id]? = some b → blkOf (μ id) = some g → T g) : ∀ (d : Nat) {v : AV} {u : Value} {p : PV},RelV N.fn w S μ H v u → reify H d v = some p → RelP N.fn w T p u := by
 intro d
 induction d with
 | zero =>
  intro v u p h hp
  cases v <;> simp only [reify,Option.some.injEq,reduceCtorEq] at hp
  subst hp
  exact h.p_inv.more hS
 | succ d ih =>
  intro v u p h hp
  have cells : ∀ {cs : List AV} {us : Array Value} {ps : List PV},mapO (reify H d) cs = some ps → us.size = cs.length → (∀ c ∈ cs,c.one = true) → (∀ j c,cs[j]? = some c → RelV N.fn w S μ H c (us.getD j undef)) →
    us.size = ps.length ∧ (∀ c ∈ ps,c.one = true) ∧ ∀ (j : Nat) c,ps[j]? = some c → RelP N.fn w T c (us.getD j undef) := by
   intro cs us ps hm h1 h2 h3
   obtain ⟨m1,m2⟩ := mapO_spec hm
   refine ⟨by rw [m1,h1],fun c hc => ?_,fun j c hc => ?_⟩
   ·obtain ⟨j,hj⟩ := List.getElem?_of_mem hc
    obtain ⟨a,ha,hf⟩ := m2 j c hj
    exact reify_one hf (h2 a (List.mem_of_getElem? ha))
   ·obtain ⟨a,ha,hf⟩ := m2 j c hc
    exact ih (h3 j a ha) hf
  cases v with
  | p v => simp only [reify,Option.some.injEq] at hp; subst hp; exact h.p_inv.more hS
  | own id n =>
   simp only [reify,Option.map_eq_some_iff] at hp
   obtain ⟨⟨sz,xs⟩,hb,rfl⟩ := hp
   rw [h.own_inv hb]
   obtain ⟨f,h1,_⟩ := rowOf_spec hb
   exact row_relP hr h1 hS (fun g hg => hT id _ g h1 hg)
  | bx id off =>
   simp only [reify,Option.bind_eq_some_iff,Option.ite_none_right_eq_some,Option.map_eq_some_iff] at hp
   obtain ⟨cs,hb,hlt,ps,hm,rfl⟩ := hp
   have hb0 := hb
   have hb := boxOf_spec hb
   obtain ⟨g,rfl,hl,hg⟩ := h.bx_inv
   obtain ⟨g',arr,t,e1,e2,e3,e4,e5⟩ := hr.box_of hb0
   rw [hg cs hb] at e1
   cases e1
   obtain ⟨m1,m2⟩ := mapO_spec hm
   have get : ∀ (j : Nat) c,ps[j]? = some c → ∃ a,cs[off + j]? = some a ∧ reify H d a = some c := by
    intro j c hc
    obtain ⟨a,ha,hf⟩ := m2 j c hc
    rw [List.getElem?_drop] at ha
    exact ⟨a,ha,hf⟩
   refine .ptr ps _ (fun j => arr.getD (off + j) undef) (fun e => ?_) (hT id _ g hb (by rw [hg cs hb]; rfl)) (fun c hc => ?_) (fun j c hc => ?_) (fun j c hc => ?_)
   ·rw [e] at m1; simp at m1; omega
   ·obtain ⟨j,hj⟩ := List.getElem?_of_mem hc
    obtain ⟨a,ha,hf⟩ := get j c hj
    exact reify_one hf (e4 a (List.mem_of_getElem? ha))
   ·obtain ⟨a,ha,_⟩ := get j c hc
    have hlt : off + j < arr.size := by rw [e3]; exact (List.getElem?_eq_some_iff.1 ha).1
    rw [Go.Addr.add_lit,Go.cell_of_row w g _ arr t _ e2]
    simp [hlt]
   ·obtain ⟨a,ha,hf⟩ := get j c hc
    exact ih (e5 _ a ha) hf
  | mp id => simp [reify] at hp
  | el id n i off =>
   simp only [reify] at hp
   split at hp
   ·rename_i hni
    simp only [Option.bind_eq_some_iff,Option.ite_none_right_eq_some,Option.some.injEq] at hp
    obtain ⟨⟨sz,xs⟩,hb,⟨hl1,hl2,hl3⟩,rfl⟩ := hp
    exact piece_relP hr hb h hS (fun f hf g hg => hT id _ g hf hg) hni hl1 hl2 hl3
   simp only [Option.bind_eq_some_iff,Option.ite_none_right_eq_some,Option.some.injEq] at hp
   obtain ⟨⟨sz,xs⟩,hb,x,hx,hlt,rfl⟩ := hp
   obtain ⟨f,h1,h2⟩ := rowOf_spec hb
   simp only at h2 hx
   have hi : i < n := by rw [← h2]; exact (List.getElem?_eq_some_iff.1 hx).1
   obtain ⟨f',sz',xs',g,cap,k1,k2,k3,k4,rfl⟩ := h.el_inv (by simp [elOk,hb,hi])
   rw [h1] at k1
   cases k1
   have hb' := hr.blk id _ h1
   obtain ⟨_,_,us,r1,r2,r3,_⟩ := hb'
   rw [h2] at r1
   have hxm := r2 x (List.mem_of_getElem? hx)
   refine .ptr _ _ (fun j => us.getD (i * sz + (off + j)) undef) (fun e => ?_) ?_ (fun c hc => hxm.2 c (List.mem_of_mem_drop hc)) (fun j c hc => ?_) (fun j c hc => ?_)
   ·rw [List.drop_eq_nil_iff] at e; omega
   ·refine hT id _ g h1 ?_
    rw [k4]
    simp only [blkOf]
    obtain ⟨_,r1⟩ := r1
    rcases r1 with ⟨h0,_⟩ | ⟨g',cap',_,_,hv,hc,_⟩
    ·omega
    ·rw [k4] at hv; cases hv; rw [if_neg (by omega)]
   ·rw [List.getElem?_drop] at hc
    have hlt2 : off + j < sz := by rw [← show x.cells.length = sz from hxm.1]; exact (List.getElem?_eq_some_iff.1 hc).1
    rw [Go.Addr.add_lit,Nat.add_assoc]
    refine row_cell r1 k4 ?_
    calc i * sz + (off + j) < i * sz + sz := by omega
     _ = (i + 1) * sz := by rw [Nat.add_mul,Nat.one_mul]
     _ ≤ n * sz := Nat.mul_le_mul_right _ hi
   ·rw [List.getElem?_drop] at hc
    exact (r3 i x _ c hx hc).more hS
  | agg cs =>
   simp only [reify,Option.map_eq_some_iff] at hp
   obtain ⟨ps,hm,rfl⟩ := hp
   cases h with
   | agg _ us h1 h2 h3 =>
   obtain ⟨k1,k2,k3⟩ := cells hm h1 h2 h3
   exact .agg ps us k1 k2 k3
  | clo f cs =>
   simp only [reify,Option.map_eq_some_iff] at hp
   obtain ⟨ps,hm,rfl⟩ := hp
   cases h with
   | clo _ _ us h1 h2 h3 =>
   obtain ⟨k1,k2,k3⟩ := cells hm h1 h2 h3
   exact .clo f ps us k1 k2 k3
  | tup => simp [reify] at hp
  | nov => simp [reify] at hp
  | any => simp [reify] at hp
theorem flat1_rel {ν : Nat → Nat} {w' : World} {S' : Nat → Prop} {p : PV} {u : Value} (hf : flat1 p = true) (h : RelP ν w S p u) : RelP ν w' S' p u := by
 cases h with
 | int => exact .int _ _
 | bool => exact .bool _
 | str => exact .str _
 | nilp => exact .nilp
 | nilfn => exact .nilfn
 | nilmap => exact .nilmap
 | sl k sz xs a cap us h1 h2 h3 h4 h5 h6 h7 h8 =>
  cases k with
  | nil =>
   obtain ⟨rfl,rfl,rfl⟩ := h4 (.inl rfl)
   exact .sl .nil sz [] none 0 us (Nat.le_refl _) (Nat.zero_le _) (by simp) (by simp) (by simp) (by simp) (by simp) (by simp)
  | tight => cases hf
  | any => cases hf
  | mem => cases hf
 | clo => cases hf
 | ptr => cases hf
 | agg => cases hf
theorem flat_rel {ν : Nat → Nat} {w' : World} {S' : Nat → Prop} {p : PV} {u : Value} (hf : flat p = true) (h : RelP ν w S p u) : RelP ν w' S' p u := by
 cases p with
 | agg cs =>
  cases h with
  | agg _ us h1 h2 h3 =>
  simp only [flat,List.all_eq_true] at hf
  exact .agg cs us h1 h2 (fun j c hc => flat1_rel (hf c (List.mem_of_getElem? hc)) (h3 j c hc))
 | _ => exact flat1_rel hf h
theorem frC_rel (hr : Rel N.fn w S μ H) (hT : ∀ (id : Nat) sz xs g,H[id]? = some (.row false sz xs) → blkOf (μ id) = some g → T g) {d : Nat} {v : AV} {u : Value} {p : PV} (hf : frC H v = true)
  (h : RelV N.fn w S μ H v u) (hp : reify H d v = some p) : RelP N.fn w T p u := by
 cases v with
 | p v =>
  have e : p = v := by cases d <;> simp only [reify,Option.some.injEq] at hp <;> exact hp.symm
  subst e
  exact flat1_rel hf h.p_inv
 | own id n =>
  cases d with
  | zero => simp [reify] at hp
  | succ d =>
   simp only [reify,Option.map_eq_some_iff] at hp
   obtain ⟨⟨sz,xs⟩,hb,rfl⟩ := hp
   obtain ⟨f,h1,_⟩ := rowOf_spec hb
   simp only at h1
   have hf : f = false ∧ xs.all flat = true := by
    simp only [frC,h1] at hf
    cases f with
    | true => cases hf
    | false => simp only [Bool.and_eq_true] at hf; exact ⟨rfl,hf.2⟩
   obtain ⟨rfl,hf⟩ := hf
   rw [h.own_inv hb]
   have hall := row_relP hr h1 (T := fun g => S g ∨ blkOf (μ id) = some g) (fun _ h => .inl h) (fun _ h => .inr h)
   generalize hμ : μ id = u at hall ⊢
   cases hall with
   | sl k sz xs a cap us q1 q2 q3 q4 q5 q6 q7 q8 =>
    refine .sl .any sz xs a cap us q1 q2 q3 q4 q5 (fun hx => ?_) q7 (fun i x j c hx hc => ?_)
    ·obtain ⟨ad,e,_⟩ := q6 hx
     refine ⟨ad,e,hT id sz xs _ h1 ?_⟩
     subst e
     rw [hμ]
     simp only [blkOf]
     have : 0 < xs.length := List.length_pos_iff.2 hx
     rw [if_neg (by omega)]
    ·have hfx := List.all_eq_true.1 hf x (List.mem_of_getElem? hx)
     refine flat1_rel ?_ (q8 i x j c hx hc)
     cases x with
     | agg cs => exact List.all_eq_true.1 hfx c (List.mem_of_getElem? hc)
     | _ =>
      cases j with
      | zero => simp only [PV.cells,List.getElem?_cons_zero,Option.some.injEq] at hc; subst hc; exact hfx
      | succ j => simp [PV.cells] at hc
 | _ => cases hf
theorem frR_rel (hr : Rel N.fn w S μ H) (hT : ∀ (id : Nat) sz xs g,H[id]? = some (.row false sz xs) → blkOf (μ id) = some g → T g) {d : Nat} {v : AV} {u : Value} {p : PV} (hf : frR H v = true)
  (h : RelV N.fn w S μ H v u) (hp : reify H d v = some p) : RelP N.fn w T p u := by
 cases v with
 | p v =>
  have e : p = v := by cases d <;> simp only [reify,Option.some.injEq] at hp <;> exact hp.symm
  subst e
  exact flat_rel hf h.p_inv
 | agg cs =>
  cases d with
  | zero => simp [reify] at hp
  | succ d =>
   simp only [reify,Option.map_eq_some_iff] at hp
   obtain ⟨ps,hm,rfl⟩ := hp
   obtain ⟨m1,m2⟩ := mapO_spec hm
   cases h with
   | agg _ us h1 h2 h3 =>
   refine .agg ps us (by omega) (fun c hc => ?_) (fun j c hc => ?_)
   ·obtain ⟨j,hj⟩ := List.getElem?_of_mem hc
    obtain ⟨a,ha,hfa⟩ := m2 j c hj
    exact reify_one hfa (h2 a (List.mem_of_getElem? ha))
   ·obtain ⟨a,ha,hfa⟩ := m2 j c hc
    exact frC_rel hr hT (List.all_eq_true.1 hf a (List.mem_of_getElem? ha)) (h3 j a ha) hfa
 | own id n => exact frC_rel hr hT (show frC H (.own id n) = true from hf) h hp
 | _ => cases hf
theorem step_freeze1 (hr : Rel N.fn w S μ H) {id : Nat} {f : Bool} {sz : Nat} {xs : List PV} (hb : H[id]? = some (.row f sz xs)) :
  Step N.fn w S μ H w (fun g => S g ∨ blkOf (μ id) = some g) μ (H.set id (.row true sz xs)) := by
 have hlt := (List.getElem?_eq_some_iff.1 hb).1
 have get : ∀ (i : Nat) b,(H.set id (.row true sz xs))[i]? = some b → (i = id ∧ b = .row true sz xs) ∨ (i ≠ id ∧ H[i]? = some b) := by
  intro i b h
  simp only [List.getElem?_set,hlt,if_true] at h
  split at h
  ·rename_i e; subst e; simp only [Option.some.injEq] at h; exact .inl ⟨rfl,h.symm⟩
  ·rename_i e; exact .inr ⟨Ne.symm e,h⟩
 have hm : Moves μ H μ (H.set id (.row true sz xs)) := by
  refine ⟨by simp,fun i f' sz' ys hl h => ?_,fun i cs hl h => ?_⟩
  ·rcases get i _ h with ⟨rfl,e⟩ | ⟨_,h⟩
   ·cases e; exact ⟨f,xs,hb,Nat.le_refl _,fun _ => rfl⟩
   ·exact ⟨f',ys,h,Nat.le_refl _,fun _ => rfl⟩
  ·rcases get i _ h with ⟨rfl,e⟩ | ⟨_,h⟩
   ·cases e
   ·exact ⟨cs,h,rfl⟩
 have al : ∀ (i : Nat) b,(H.set id (.row true sz xs))[i]? = some b → isAlive b → i ≠ id ∧ H[i]? = some b := by
  intro i b h ha
  rcases get i b h with ⟨rfl,rfl⟩ | h
  ·rcases ha with ⟨cs,e⟩ | ⟨a,b,e⟩ <;> cases e
  ·exact h
 have alg : ∀ g,alive μ (H.set id (.row true sz xs)) g → alive μ H g := by
  intro g ha
  obtain ⟨i,b,h1,h2,h3⟩ := alive_iff.1 ha
  exact alive_iff.2 ⟨i,b,(al i b h1 h2).2,h2,h3⟩
 refine ⟨⟨fun g h => ?_,fun i b h => ?_,fun g ha hs => ?_,fun i j g hi hj ai aj => ?_⟩,⟨rfl,rfl,rfl,Nat.le_refl _,fun _ _ _ => rfl,fun g h => .inl h,fun g h _ => ?_,fun g h _ => alg g h⟩,hm⟩
 ·rcases h with h | h
  ·exact hr.lt g h
  ·exact hr.blk_lt hb h
 ·have old : ∀ b',H[i]? = some b' → BlkRel N.fn w (fun g => S g ∨ blkOf (μ id) = some g) μ (H.set id (.row true sz xs)) i b' := fun b' hb' => (hr.blk i b' hb').keep (fun _ h => .inl h) (fun _ _ => rfl) hm rfl (fun _ _ => rfl)
  rcases get i b h with ⟨rfl,rfl⟩ | ⟨_,h⟩
  ·obtain ⟨h0,hl,us,h1,h2,h3,_⟩ := old _ hb
   exact ⟨h0,hl,us,h1,h2,h3,fun _ g hg => .inr hg⟩
  ·exact old b h
 ·rcases hs with hs | hs
  ·exact hr.apart g (alg g ha) hs
  ·obtain ⟨i,b,h1,h2,h3⟩ := alive_iff.1 ha
   obtain ⟨hne,h4⟩ := al i b h1 h2
   cases f with
   | false => exact hne (hr.inj' h4 hb h2 (.inr ⟨sz,xs,rfl⟩) h3 hs)
   | true =>
    obtain ⟨_,_,us,_,_,_,h5⟩ := hr.blk id _ hb
    exact hr.apart g (alg g ha) (h5 rfl g hs)
 ·have conv : ∀ k : Nat,((∃ cs,(H.set id (.row true sz xs))[k]? = some (Blk.box cs)) ∨ ∃ sz' ys,(H.set id (.row true sz xs))[k]? = some (Blk.row false sz' ys)) → (∃ cs,H[k]? = some (Blk.box cs)) ∨ ∃ sz' ys,H[k]? = some (Blk.row false sz' ys) := by
   rintro k (⟨cs,h⟩ | ⟨sz',ys,h⟩)
   ·exact .inl ⟨cs,(al k _ h (.inl ⟨cs,rfl⟩)).2⟩
   ·exact .inr ⟨sz',ys,(al k _ h (.inr ⟨sz',ys,rfl⟩)).2⟩
  exact hr.inj i j g hi hj (conv i ai) (conv j aj)
 ·rcases h with h | h
  ·exact .inl h
  ·cases f with
   | false => exact .inr (alive_iff.2 ⟨id,_,hb,.inr ⟨sz,xs,rfl⟩,h⟩)
   | true =>
    obtain ⟨_,_,us,_,_,_,h5⟩ := hr.blk id _ hb
    exact .inl (h5 rfl g h)
theorem Moves.trans {μ1 μ2 H1 H2} (a : Moves μ H μ1 H1) (b : Moves μ1 H1 μ2 H2) : Moves μ H μ2 H2 where
 len := Nat.le_trans a.len b.len
 row id f sz xs hl h := by
  obtain ⟨f1,xs1,h1,l1,e1⟩ := b.row id f sz xs (Nat.lt_of_lt_of_le hl a.len) h
  obtain ⟨f2,xs2,h2,l2,e2⟩ := a.row id f1 sz xs1 hl h1
  exact ⟨f2,xs2,h2,Nat.le_trans l2 l1,fun h => (e1 (by omega)).trans (e2 (by omega))⟩
 box id cs hl h := by
  obtain ⟨cs1,h1,e1⟩ := b.box id cs (Nat.lt_of_lt_of_le hl a.len) h
  obtain ⟨cs2,h2,e2⟩ := a.box id cs1 hl h1
  exact ⟨cs2,h2,e1.trans e2⟩
theorem Step.trans {w1 S1 μ1 H1 w2 S2 μ2 H2} (a : Step N.fn w S μ H w1 S1 μ1 H1) (b : Step N.fn w1 S1 μ1 H1 w2 S2 μ2 H2) : Step N.fn w S μ H w2 S2 μ2 H2 := ⟨b.rel,a.ext.trans b.ext,a.moves.trans b.moves⟩
theorem Step.refl (hr : Rel N.fn w S μ H) : Step N.fn w S μ H w S μ H := ⟨hr,Ext.refl,.refl⟩
theorem step_freeze : ∀ (cs : List AV) {S : Nat → Prop} {H : Heap},Rel N.fn w S μ H → ∃ S',Step N.fn w S μ H w S' μ (freeze H cs) ∧
  (∀ (id : Nat) f sz xs,H[id]? = some (.row f sz xs) → ∃ f',(freeze H cs)[id]? = some (.row f' sz xs) ∧ ((∃ n,AV.own id n ∈ cs) ∨ f = true → f' = true))
 | [],S,H,hr => ⟨S,.refl hr,fun id f sz xs h => ⟨f,h,fun e => by simpa using e⟩⟩
 | c :: cs,S,H,hr => by
  by_cases hc : ∃ id n f sz xs,c = .own id n ∧ H[id]? = some (.row f sz xs)
  ·obtain ⟨id,n,f,sz,xs,rfl,hb⟩ := hc
   have hs := step_freeze1 hr hb
   obtain ⟨S',h1,h2⟩ := step_freeze cs hs.rel
   have e : freeze H (.own id n :: cs) = freeze (H.set id (.row true sz xs)) cs := by simp [freeze,hb]
   rw [e]
   refine ⟨S',hs.trans h1,fun i f' sz' ys h => ?_⟩
   have hlt := (List.getElem?_eq_some_iff.1 hb).1
   by_cases he : i = id
   ·subst he
    rw [hb] at h; cases h
    obtain ⟨f2,h3,h4⟩ := h2 i true sz xs (by simp [hlt])
    exact ⟨f2,h3,fun _ => h4 (.inr rfl)⟩
   ·obtain ⟨f2,h3,h4⟩ := h2 i f' sz' ys (by rw [List.getElem?_set_ne (Ne.symm he)]; exact h)
    refine ⟨f2,h3,fun hh => h4 ?_⟩
    rcases hh with ⟨m,hm⟩ | hh
    ·simp only [List.mem_cons,AV.own.injEq] at hm
     rcases hm with ⟨rfl,_⟩ | hm
     ·exact absurd rfl he
     ·exact .inl ⟨m,hm⟩
    ·exact .inr hh
  ·have e : freeze H (c :: cs) = freeze H cs := by
    cases c <;> try rfl
    rename_i id n
    simp only [freeze]
    cases hb : H[id]? with
    | none => rfl
    | some b =>
     cases b with
     | box => rfl
     | dead => rfl
     | row f sz xs => exact absurd ⟨id,n,f,sz,xs,rfl,hb⟩ hc
   rw [e]
   obtain ⟨S',h1,h2⟩ := step_freeze cs hr
   refine ⟨S',h1,fun i f sz xs h => ?_⟩
   obtain ⟨f',h3,h4⟩ := h2 i f sz xs h
   refine ⟨f',h3,fun hh => h4 ?_⟩
   rcases hh with ⟨m,hm⟩ | hh
   ·rcases List.mem_cons.1 hm with hm | hm
    ·exact absurd ⟨i,m,f,sz,xs,hm.symm,h⟩ hc
    ·exact .inl ⟨m,hm⟩
   ·exact .inr hh
end
end Ab
namespace Ab
open Go (IntKind BinOp UnOp World Value Addr Obj undef maxLen Program TypeId Oper Op Operand Act Sem Next Result execOp Builtin)
section
variable {Γ : Ctx} {N : Names} {P : Program} {w : World} {S T : Nat → Prop} {μ : Nat → Value} {H : Heap}
theorem run_askRoom (b : Nat) : (Go.askRoom b).run P w = .ok () w := by
 unfold Go.askRoom
 split
 ·simp [Go.mark,Sem.run]
 ·simp
theorem replicate_flat {ν : Nat → Nat} {x : PV} {cells : Array Value} {n sz : Nat} (hx : x.cells.length = sz) (h1 : ∀ c ∈ x.cells,c.one = true) (hc : cells.size = sz) (_h0 : 0 < sz)
  (hr : ∀ (j : Nat) c,x.cells[j]? = some c → RelP ν w S c (cells.getD j undef)) {us : List Value} (hu : ∀ t,t < n * sz → us.getD t undef = cells.getD (t % sz) undef) :
  FlatRel ν w S sz (List.replicate n x) us := by
 refine ⟨fun y hy => ?_,fun i y j c hy hc' => ?_⟩
 ·rw [List.eq_of_mem_replicate hy]; exact ⟨hx,h1⟩
 ·obtain ⟨hi,e⟩ := List.getElem?_eq_some_iff.1 hy
  simp only [List.length_replicate] at hi
  simp only [List.getElem_replicate] at e
  subst e
  have hj : j < sz := by rw [← hx]; exact (List.getElem?_eq_some_iff.1 hc').1
  have hlt : i * sz + j < n * sz := by
   calc i * sz + j < i * sz + sz := by omega
    _ = (i + 1) * sz := by rw [Nat.add_mul,Nat.one_mul]
    _ ≤ n * sz := Nat.mul_le_mul_right _ hi
  rw [hu _ hlt,Nat.add_comm,Nat.add_mul_mod_self_right,Nat.mod_eq_of_lt hj]
  exact hr j c hc'
theorem x_mkslice (hr : Rel N.fn w S μ H) {t e : TypeId} {i : Go.TypeInfo} {sz : Nat} {ag : Bool} {zero : List PV} {n c : Value} {n' c' : AV} {r : AV × Heap} (hT : slT P t = some e) (hi : P.info? e = some i) (hsz : i.size = sz) (hz : zeroT P e zero = true)
  (hzl : zero.length = sz) (h0 : 0 < sz) (hag : ag = false → sz = 1) (hb : i.bytes ≤ 65536) (hn : RelV N.fn w S μ H n' n) (hc : RelV N.fn w S μ H c' c) (hv : mksliceA H sz ag zero n' c' = some r) :
  ∃ u w' μ',(Go.Instr.makeSlice t n c).run P w = .ok u w' ∧ Step N.fn w S μ H w' S μ' r.2 ∧ RelV N.fn w' S μ' r.2 r.1 u ∧ ∃ o m cp,w' = w.alloc o ∧ u = .slice (some ⟨w.heap.size,0,none⟩) m cp := by
 have lim_eq : lim = 1073741824 := rfl
 unfold zeroT at hz
 split at hz
 rotate_left
 ·cases hz
 rename_i z hzz
 obtain ⟨i',hi',hzi⟩ := Option.bind_eq_some_iff.1 hzz
 rw [hi] at hi'; cases hi'
 obtain ⟨z1,z2,z3⟩ := consts_rel (ν := N.fn) (w := w) (S := S) hz
 have hzs : z.cells.size = sz := by rw [← hzl,← z1]; simp
 unfold mksliceA at hv
 split at hv
 rotate_left
 ·cases hv
 rename_i k1 n k2 c
 rw [hn.int_inv,hc.int_inv]
 -- the run
 have run : ∀ m cp : Nat,m ≤ cp → cp ≤ lim → n = m → c = cp → (Go.Instr.makeSlice t (.int k1 n) (.int k2 c)).run P w =
   .ok (.slice (some ⟨w.heap.size,0,none⟩) m cp) (w.alloc (.cells ((Array.range (cp * sz)).map (z.cells[· % z.cells.size]!)) e)) := by
  intro m cp h1 h2 e1 e2
  subst e1 e2
  have w1 : IntKind.i64.wrap (m : Int) = m := wrap_i64 (by omega) (by omega)
  have w2 : IntKind.i64.wrap (cp : Int) = cp := wrap_i64 (by omega) (by omega)
  have big : ¬ ((i.bytes : Int) * (cp : Int) > 2 ^ 48) := by
   have : i.bytes * cp ≤ 65536 * 1073741824 := Nat.mul_le_mul hb (by omega)
   have h3 : ((i.bytes * cp : Nat) : Int) ≤ (65536 * 1073741824 : Nat) := by exact_mod_cast this
   rw [Int.natCast_mul] at h3
   have h4 : ((65536 * 1073741824 : Nat) : Int) ≤ 2 ^ 48 := by decide
   omega
  have n1 : ¬ ((cp : Int) < 0) := by omega
  have n2 : ¬ ((m : Int) < 0) := by omega
  have n3 : ¬ ((m : Int) > cp) := by omega
  have cnd : (decide ((cp : Int) < 0) || decide ((i.bytes : Int) * (cp : Int) > 2 ^ 48) || decide ((m : Int) < 0) || decide ((m : Int) > cp)) = false := by
   simp only [Bool.or_eq_false_iff]
   exact ⟨⟨⟨decide_eq_false n1,decide_eq_false big⟩,decide_eq_false n2⟩,decide_eq_false n3⟩
  simp only [Go.Instr.makeSlice,Go.Sem.run_bind,Go.run_underlying (slT_spec hT),Go.Result.andThen_ok,Go.asInt,Go.asIntOf,Go.Sem.run_pure,Go.typeInfo,hi,Go.run_program,w1,w2]
  simp only [cnd,Bool.false_eq_true,if_false,Go.Sem.run_bind,run_askRoom,Go.Result.andThen_ok,Go.sizeOf,Go.typeInfo,Go.run_program,hi,Go.Sem.run_pure,hsz,Int.toNat_natCast]
  by_cases h5 : cp * sz = 0
  ·have e0 : ∀ f : Nat → Value,(Array.range 0).map f = #[] := fun f => by simp
   simp only [h5,if_true,e0]
   simp [Go.newRow]
  ·simp only [h5,if_false,Go.Sem.run_bind,Go.zeroValue,Go.typeInfo,Go.run_program,hi,Go.Sem.run_pure,Go.Result.andThen_ok,hzi]
   simp [Go.newRow]
 have get : ∀ cp t' : Nat,t' < cp * sz → ((Array.range (cp * sz)).map (z.cells[· % z.cells.size]!)).getD t' undef = z.cells.getD (t' % sz) undef := by
  intro cp t' ht
  have hm : t' % sz < z.cells.size := by rw [hzs]; exact Nat.mod_lt _ h0
  rw [Array.getD_eq_getD_getElem?,Array.getD_eq_getD_getElem?,Array.getElem?_map,Array.getElem?_range,if_pos ht,hzs]
  simp only [Option.map_some,Option.getD_some]
  rw [getElem!_pos z.cells _ hm,Array.getElem?_eq_getElem hm,Option.getD_some]
 have xc : (if ag = true then PV.agg zero else zero.headD .nilp).cells = zero := by
  cases ag with
  | true => rfl
  | false =>
   have := hag rfl
   match zero,hzl with
   | [q],_ => exact PV.cells_one (z2 q (by simp))
   | [],h => simp at h; omega
   | _ :: _ :: _,h => simp at h; omega
 have mk : ∀ m cp : Nat,m ≤ cp → cp ≤ lim → n = m → c = cp → ∀ xs,xs = List.replicate m (if ag = true then PV.agg zero else zero.headD .nilp) →
   ∃ u w' μ',(Go.Instr.makeSlice t (.int k1 n) (.int k2 c)).run P w = .ok u w' ∧ Step N.fn w S μ H w' S μ' (H ++ [.row false sz xs]) ∧ RelV N.fn w' S μ' (H ++ [.row false sz xs]) (.own H.length m) u ∧ ∃ o m cp,w' = w.alloc o ∧ u = .slice (some ⟨w.heap.size,0,none⟩) m cp := by
  intro m cp h1 h2 e1 e2 xs hxs
  have hxl : xs.length = m := by rw [hxs]; simp
  have hg := Grows.alloc w (.cells ((Array.range (cp * sz)).map (z.cells[· % z.cells.size]!)) e)
  have hle : m * sz ≤ cp * sz := Nat.mul_le_mul_right _ h1
  have hrow : RowAt (w.alloc (.cells ((Array.range (cp * sz)).map (z.cells[· % z.cells.size]!)) e)) (.slice (some ⟨w.heap.size,0,none⟩) m cp) sz m (((Array.range (cp * sz)).map (z.cells[· % z.cells.size]!)).toList.take (m * sz)) := by
   refine ⟨by simp only [List.length_take,Array.length_toList,Array.size_map,Array.size_range]; omega,?_⟩
   by_cases hcp : cp = 0
   ·exact .inl ⟨by omega,_,by subst hcp; rw [show m = 0 by omega]⟩
   ·exact .inr ⟨w.heap.size,cp,_,e,rfl,by omega,Go.heap_alloc_new w _,h1,by simp only [maxLen]; omega,by simp,rfl⟩
  have hflat : FlatRel N.fn (w.alloc (.cells ((Array.range (cp * sz)).map (z.cells[· % z.cells.size]!)) e)) S sz xs (((Array.range (cp * sz)).map (z.cells[· % z.cells.size]!)).toList.take (m * sz)) := by
   rw [hxs]
   refine (replicate_flat (by rw [xc,hzl]) (fun c hc => z2 c (by rw [xc] at hc; exact hc)) hzs h0 (fun j c hc => ?_) (fun t' ht => ?_)).keep (hr.keepS hg)
   ·rw [xc] at hc
    have := z3 j c hc
    rwa [getD_toList] at this
   ·rw [List.getD_eq_getElem?_getD,List.getElem?_take,if_pos ht,← List.getD_eq_getElem?_getD,getD_toList]
    exact get cp t' (by omega)
  rw [← hxl] at hrow
  obtain ⟨μ',s1,s2⟩ := step_newrow hr hg h0 (by omega) hrow (by rw [hxl]; exact hflat) (fun g hg => by
   simp only [blkOf] at hg
   split at hg
   ·cases hg
   ·simp only [Option.some.injEq] at hg; omega)
  rw [hxl] at s2
  exact ⟨_,_,μ',run m cp h1 h2 e1 e2,s1,s2,_,_,_,rfl,rfl⟩
 split at hv
 ·rename_i hc1
  obtain ⟨g1,g2,g3⟩ := hc1
  simp only [Option.some.injEq] at hv
  subst hv
  have e1 : n = (n.toNat : Int) := by omega
  exact mk n.toNat n.toNat (Nat.le_refl _) (by omega) e1 (by omega) _ rfl
 ·simp only [Option.ite_none_right_eq_some,Option.some.injEq] at hv
  obtain ⟨⟨g1,g2,g3⟩,rfl⟩ := hv
  exact mk 0 c.toNat (Nat.zero_le _) (by omega) (by simpa using g1) (by omega) _ (by simp)
end
end Ab
namespace Ab
open Go (IntKind BinOp UnOp World Value Addr Obj undef maxLen Program TypeId Oper Op Operand Act Sem Next Result execOp Builtin)
section
variable {Γ : Ctx} {N : Names} {P : Program} {w : World} {S : Nat → Prop} {μ : Nat → Value} {H : Heap}
theorem x_range (hr : Rel N.fn w S μ H) {T : TypeId} {x : Value} {x' : AV} {r : AV × Heap} (hT : strT P T = true) (hx : RelV N.fn w S μ H x' x) (hv : rangeA H x' = some r) :
  ∃ u w' μ',(Go.Instr.range T x).run P w = .ok u w' ∧ Step N.fn w S μ H w' S μ' r.2 ∧ RelV N.fn w' S μ' r.2 r.1 u := by
 unfold rangeA at hv
 split at hv
 rotate_left
 ·cases hv
 rename_i s
 simp only [Option.some.injEq] at hv
 subst hv
 rw [hx.str_inv]
 refine ⟨.pointer (some ⟨w.heap.size,0,none⟩),w.alloc (.stringIter ⟨s.toArray⟩ 0),upd μ H.length (.pointer (some ⟨w.heap.size,0,none⟩)),?_,Step.push hr (Grows.alloc w _) ?_ ?_,?_⟩
 ·simp [Go.Instr.range,Go.run_underlying (strT_spec hT),Go.newObj,Go.Sem.run]
 ·exact ⟨w.heap.size,upd_same,.inr (.inl ⟨s,0,rfl,Go.heap_alloc_new w _⟩)⟩
 ·intro g hg
  simp only [blkOf,Option.some.injEq] at hg
  omega
 ·exact .bx _ _ w.heap.size _ (by simp) (fun _ _ => upd_same) rfl
theorem x_next (hr : Rel N.fn w S μ H) {ty : TypeId} {x : Value} {x' : AV} {r : AV × Heap} (hx : RelV N.fn w S μ H x' x) (hv : nextA H x' = some r) :
  ∃ u w' μ',(Go.Instr.next x true ty).run P w = .ok u w' ∧ Step N.fn w S μ H w' S μ' r.2 ∧ RelV N.fn w' S μ' r.2 r.1 u := by
 unfold nextA at hv
 split at hv
 rotate_left
 ·cases hv
 rename_i id
 split at hv
 rotate_left
 ·cases hv
 rename_i s pos hb
 obtain ⟨g,rfl,hl,hg⟩ := hx.bx_inv
 obtain ⟨g',h1,⟨arr,t,h2,h3,h4,h5⟩ | ⟨s',pos',h2,h3⟩ | ⟨es,arr,clock,h2,_⟩⟩ := hr.blk id _ hb
 ·exact absurd (h4 .nov (by simp)) (by simp [AV.one])
 rotate_left
 ·simp [mapCells] at h2
 simp only [iterCells,List.cons.injEq,AV.p.injEq,PV.str.injEq,PV.int.injEq,and_true,true_and] at h2
 obtain ⟨rfl,rfl⟩ := h2
 rw [hg _ hb] at h1
 cases h1
 by_cases hlt : (pos' : Int) < s.length
 ·have hlt' : pos' < s.length := by omega
  rw [if_pos hlt] at hv
  simp only [Option.some.injEq,Int.toNat_natCast] at hv
  subst hv
  have hm : Moves μ H (upd μ id (.pointer (some ⟨g,0,none⟩))) (H.set id (.box (iterCells s (pos' + (runeAt s pos').2)))) := moves_set_box hb (hg _ hb).symm
  have hk : ∀ k,k < w.heap.size → blkOf (μ id) ≠ some k → ({ w with heap := w.heap.setIfInBounds g (.stringIter ⟨s.toArray⟩ (pos' + (runeAt s pos').2)) } : World).heap[k]? = w.heap[k]? := by
   intro k _ hne
   rw [hg _ hb] at hne
   have : g ≠ k := fun e => hne (by rw [e]; rfl)
   simp [Array.getElem?_setIfInBounds_ne this]
  have hgl : g < w.heap.size := (Array.getElem?_eq_some_iff.1 h3).1
  refine ⟨.tuple #[.bool true,.int .i64 pos',.int .i32 (runeAt s pos').1],{ w with heap := w.heap.setIfInBounds g (.stringIter ⟨s.toArray⟩ (pos' + (runeAt s pos').2)) },upd μ id (.pointer (some ⟨g,0,none⟩)),?_,?_,?_⟩
  ·have hsz : (ByteArray.mk s.toArray).size = s.length := size_mk s
   simp [Go.Instr.next,Go.getObj,Go.setObj,Go.Sem.run,h3,hsz,hlt',runeAt,Go.goInt]
  ·refine Step.set hr hb (.inl ⟨_,rfl⟩) rfl rfl rfl (by simp) hk hm ?_ (fun k h => .inl (by rw [hg _ hb]; exact h))
   exact ⟨g,upd_same,.inr (.inl ⟨s,_,rfl,by simp [hgl]⟩)⟩
  ·refine .tup _ _ (by simp) fun j c hc => ?_
   match j with
   | 0 => simp only [List.getElem?_cons_zero,Option.some.injEq] at hc; subst hc; exact .p _ _ (.bool _)
   | 1 => simp only [List.getElem?_cons_succ,List.getElem?_cons_zero,Option.some.injEq] at hc; subst hc; exact .p _ _ (.int _ _)
   | 2 => simp only [List.getElem?_cons_succ,List.getElem?_cons_zero,Option.some.injEq] at hc; subst hc; exact .p _ _ (.int _ _)
   | j + 3 => simp at hc
 ·have hlt' : ¬ pos' < s.length := by omega
  rw [if_neg hlt] at hv
  simp only [Option.some.injEq] at hv
  subst hv
  refine ⟨.tuple #[.bool false],w,μ,?_,.refl hr,?_⟩
  ·have hsz : (ByteArray.mk s.toArray).size = s.length := size_mk s
   simp [Go.Instr.next,Go.getObj,Go.Sem.run,h3,hsz,hlt']
  ·refine .tup _ _ (by simp) fun j c hc => ?_
   match j with
   | 0 => simp only [List.getElem?_cons_zero,Option.some.injEq] at hc; subst hc; exact .p _ _ (.bool _)
   | j + 1 => simp at hc
theorem RelO.step {w' : World} {S' : Nat → Prop} {μ' : Nat → Value} {H' : Heap} (hr : Rel N.fn w S μ H) (hs : Step N.fn w S μ H w' S' μ' H') : ∀ {o : Option AV} {u : Option Value},RelO N.fn w S μ H o u → RelO N.fn w' S' μ' H' o u := by
 intro o u h
 unfold RelO at *
 split at h
 ·exact h
 ·exact RelV.keep hs.ext.more (fun g hg => hs.ext.keep g (hr.lt g hg) (hr.stable hg).2) hs.moves h
 ·exact h
theorem x_slicef {T e : TypeId} {sz : Nat} {x : Value} {x' : AV} {r : AV × Heap} {lo hi : Option AV} {lo' hi' : Option Value} (hr : Rel N.fn w S μ H) (hT : slT P T = some e) (hs : (P.info? e).map (·.size) = some sz)
  (hx : RelV N.fn w S μ H x' x) (hlo : RelO N.fn w S μ H lo lo') (hhi : RelO N.fn w S μ H hi hi') (hv : slicefA H sz x' lo hi = some r) :
  ∃ u w' S' μ',(Go.Instr.sliceAt T x lo' hi' none).run P w = .ok u w' ∧ Step N.fn w S μ H w' S' μ' r.2 ∧ RelV N.fn w' S' μ' r.2 r.1 u := by
 unfold slicefA at hv
 split at hv
 ·rename_i id n
  obtain ⟨rr,hrr,hv⟩ := Option.bind_eq_some_iff.1 hv
  obtain ⟨v,hv',rfl⟩ := Option.map_eq_some_iff.1 hv
  obtain ⟨S',hst,hrow⟩ := step_freeze [.own id n] hr
  obtain ⟨fz,hb,hn⟩ := rowOf_spec hrr
  obtain ⟨f1,hb1,hf1⟩ := hrow id fz rr.1 rr.2 hb
  have := hf1 (.inl ⟨n,by simp⟩)
  subst this
  have hp : RelP N.fn w S' (.sl .any rr.1 rr.2) (μ id) := by
   refine row_relP hr hb hst.ext.more fun g hg => ?_
   obtain ⟨_,_,us,_,_,_,h4⟩ := hst.rel.blk id _ hb1
   exact h4 rfl g hg
  have hx1 : x = μ id := hx.own_inv hrr
  rw [hx1]
  obtain ⟨u,h1,h2⟩ := q_slice hT hs (RelV.p (μ := μ) (H := freeze H [.own id n]) _ _ hp) (RelO.step hr hst hlo) (RelO.step hr hst hhi) hv'
  exact ⟨u,w,S',μ,h1,hst,h2⟩
 ·obtain ⟨v,hv',rfl⟩ := Option.map_eq_some_iff.1 hv
  obtain ⟨u,h1,h2⟩ := q_slice hT hs hx hlo hhi hv'
  exact ⟨u,w,S,μ,h1,.refl hr,h2⟩
end
end Ab
namespace Ab
open Go (IntKind BinOp UnOp World Value Addr Obj undef maxLen Program TypeId Oper Op Operand Act Sem Next Result execOp Builtin)
section
variable {ν : Nat → Nat} {w : World} {S : Nat → Prop} {μ : Nat → Value} {H : Heap}
theorem Step.pop (hr : Rel ν w S μ H) {id sz : Nat} {xs ys : List PV} {v : Value} (h0 : H[id]? = some (.row false sz xs)) (hn : ∀ g,blkOf v = some g → blkOf (μ id) = some g)
    (hb : ∀ μ' H',μ' H.length = v → BlkRel ν w S μ' H' H.length (.row false sz ys)) :
    Step ν w S μ H w S (upd (upd μ id undef) H.length v) (H.set id .dead ++ [.row false sz ys]) := by
  have hlt : id < H.length := (List.getElem?_eq_some_iff.1 h0).1
  have hal : isAlive (.row false sz xs) := .inr ⟨sz,xs,rfl⟩
  have old : ∀ (i : Nat) c,(H.set id .dead ++ [.row false sz ys])[i]? = some c → (i ≠ id ∧ i < H.length ∧ H[i]? = some c) ∨ (i = id ∧ c = .dead) ∨ (i = H.length ∧ c = .row false sz ys) := by
    intro i c h
    rcases Nat.lt_trichotomy i H.length with hl | hl | hl
    · rw [List.getElem?_append_left (by simpa using hl)] at h
      simp only [List.getElem?_set,hlt,if_true] at h
      split at h
      · rename_i e; subst e; simp only [Option.some.injEq] at h; exact .inr (.inl ⟨rfl,h.symm⟩)
      · rename_i e; exact .inl ⟨Ne.symm e,hl,h⟩
    · subst hl
      rw [List.getElem?_append_right (by simp)] at h
      simp at h
      exact .inr (.inr ⟨rfl,h.symm⟩)
    · rw [List.getElem?_append_right (by simp; omega)] at h
      have := (List.getElem?_eq_some_iff.1 h).1
      simp at this; omega
  have mu : ∀ i,i ≠ id → i < H.length → upd (upd μ id undef) H.length v i = μ i := fun i h1 h2 => by rw [upd_ne (by omega),upd_ne h1]
  have al : ∀ g,alive (upd (upd μ id undef) H.length v) (H.set id .dead ++ [.row false sz ys]) g → alive μ H g := by
    intro g ha
    obtain ⟨i,c,h1,h2,h3⟩ := alive_iff.1 ha
    rcases old i c h1 with ⟨hne,hl,h⟩ | ⟨rfl,rfl⟩ | ⟨rfl,rfl⟩
    · rw [mu i hne hl] at h3; exact alive_iff.2 ⟨i,c,h,h2,h3⟩
    · rcases h2 with ⟨cs,h2⟩ | ⟨_,_,h2⟩ <;> cases h2
    · rw [upd_same] at h3; exact alive_iff.2 ⟨id,_,h0,hal,hn g h3⟩
  have hm : Moves μ H (upd (upd μ id undef) H.length v) (H.set id .dead ++ [.row false sz ys]) := by
    refine ⟨by simp,fun i f s zs hl h => ?_,fun i cs hl h => ?_⟩
    · rcases old i _ h with ⟨hne,_,h⟩ | ⟨_,h⟩ | ⟨h,_⟩
      · exact ⟨f,zs,h,Nat.le_refl _,fun _ => mu i hne hl⟩
      · cases h
      · omega
    · rcases old i _ h with ⟨hne,_,h⟩ | ⟨_,h⟩ | ⟨h,_⟩
      · exact ⟨cs,h,mu i hne hl⟩
      · cases h
      · omega
  refine ⟨⟨hr.lt,fun i c hc => ?_,fun g ha hs => hr.apart g (al g ha) hs,fun i j g hi hj ai aj => ?_⟩,⟨rfl,rfl,rfl,Nat.le_refl _,fun _ _ _ => rfl,fun _ h => h,fun _ h _ => .inl h,fun g h _ => al g h⟩,hm⟩
  · rcases old i c hc with ⟨hne,hl,h⟩ | ⟨rfl,rfl⟩ | ⟨rfl,rfl⟩
    · exact (hr.blk i c h).keep (fun _ h => h) (fun _ _ => rfl) hm (mu i hne hl) (fun _ _ => rfl)
    · intro g hg
      rw [upd_ne (by omega),upd_same] at hg
      simp [blkOf,undef] at hg
    · exact hb _ _ upd_same
  · have get : ∀ k : Nat,((∃ cs,(H.set id .dead ++ [.row false sz ys])[k]? = some (Blk.box cs)) ∨ ∃ s zs,(H.set id .dead ++ [.row false sz ys])[k]? = some (Blk.row false s zs)) →
        ∀ g,blkOf (upd (upd μ id undef) H.length v k) = some g → ∃ i c,H[i]? = some c ∧ isAlive c ∧ blkOf (μ i) = some g ∧ ((k = i ∧ i ≠ id ∧ i < H.length) ∨ (k = H.length ∧ i = id)) := by
      rintro k hk g hg
      have : ∃ c,(H.set id .dead ++ [.row false sz ys])[k]? = some c ∧ isAlive c := by
        rcases hk with ⟨cs,h⟩ | ⟨s,zs,h⟩
        · exact ⟨_,h,.inl ⟨cs,rfl⟩⟩
        · exact ⟨_,h,.inr ⟨s,zs,rfl⟩⟩
      obtain ⟨c,hc,ac⟩ := this
      rcases old k c hc with ⟨hne,hl,h⟩ | ⟨rfl,rfl⟩ | ⟨rfl,rfl⟩
      · rw [mu k hne hl] at hg; exact ⟨k,c,h,ac,hg,.inl ⟨rfl,hne,hl⟩⟩
      · rcases ac with ⟨cs,h2⟩ | ⟨_,_,h2⟩ <;> cases h2
      · rw [upd_same] at hg; exact ⟨id,_,h0,hal,hn g hg,.inr ⟨rfl,rfl⟩⟩
    obtain ⟨i',c,hc,ac,gi,hi'⟩ := get i ai g hi
    obtain ⟨j',d,hd,ad,gj,hj'⟩ := get j aj g hj
    have := hr.inj' hc hd ac ad gi gj
    subst this
    rcases hi' with ⟨rfl,h1,h2⟩ | ⟨rfl,h1⟩ <;> rcases hj' with ⟨rfl,h3,h4⟩ | ⟨rfl,h3⟩
    · rfl
    · exact absurd h3 h1
    · exact absurd h1 h3
    · rfl
end
section
variable {Γ : Ctx} {N : Names} {P : Program} {w : World} {S : Nat → Prop} {μ : Nat → Value} {H : Heap}
theorem x_pop {T e : TypeId} {sz : Nat} {x hi : Value} {x' hi' : AV} {r : AV × Heap} (hr : Rel N.fn w S μ H) (hT : slT P T = some e) (hs : (P.info? e).map (·.size) = some sz)
  (hx : RelV N.fn w S μ H x' x) (hhi : RelV N.fn w S μ H hi' hi) (hv : popA H sz x' hi' = some r) :
  ∃ u w' S' μ',(Go.Instr.sliceAt T x none (some hi) none).run P w = .ok u w' ∧ Step N.fn w S μ H w' S' μ' r.2 ∧ RelV N.fn w' S' μ' r.2 r.1 u := by
 unfold popA at hv
 split at hv
 rotate_left
 ·cases hv
 rename_i id n k h
 split at hv
 rotate_left
 ·cases hv
 rename_i sz' xs hb
 simp only [Option.ite_none_right_eq_some,Option.some.injEq] at hv
 obtain ⟨⟨rfl,rfl,h1,h2⟩,rfl⟩ := hv
 have hrr : rowOf H id xs.length = some (sz',xs) := by simp [rowOf,hb]
 have hx1 : x = μ id := hx.own_inv hrr
 obtain ⟨p0,p1,us,p2,p3,p4,p5⟩ := hr.blk id _ hb
 have hlen : h.toNat ≤ xs.length := by omega
 have hbd : bound xs.length xs.length (some (.p (.int k h))) = some h.toNat := by simp only [bound]; rw [if_pos ⟨h1,h2⟩]
 have hblk : ∀ (v : Value),RowAt w v sz' h.toNat (us.take (h.toNat * sz')) → ∀ μ' H',μ' H.length = v → BlkRel N.fn w S μ' H' H.length (.row false sz' (xs.take h.toNat)) := by
  intro v hv μ' H' hμ
  refine ⟨p0,by rw [List.length_take]; omega,us.take (h.toNat * sz'),?_,fun x hx => p3 x (List.mem_of_mem_take hx),fun i x j c hi hj => ?_,fun hf => by cases hf⟩
  ·rw [hμ,List.length_take,Nat.min_eq_left hlen]; exact hv
  ·obtain ⟨hi1,hi2⟩ := take_get hi
   have hj1 : j < sz' := by
    have := (List.getElem?_eq_some_iff.1 hj).1
    rw [(p3 x (List.mem_of_getElem? hi2)).1] at this; exact this
   have : i * sz' + j < h.toNat * sz' := by
    have : (i + 1) * sz' ≤ h.toNat * sz' := Nat.mul_le_mul_right _ hi1
    rw [Nat.add_mul,Nat.one_mul] at this; omega
   have e : (us.take (h.toNat * sz')).getD (i * sz' + j) undef = us.getD (i * sz' + j) undef := by
    simp only [List.getD_eq_getElem?_getD,List.getElem?_take,this,if_true]
   rw [e]
   exact p4 i x j c hi2 hj
 obtain ⟨q1,q2⟩ := p2
 have htl : (us.take (h.toNat * sz')).length = h.toNat * sz' := by
  rw [List.length_take,q1]; exact Nat.min_eq_left (Nat.mul_le_mul_right _ hlen)
 rcases q2 with ⟨q2,ad,q3⟩ | ⟨g,cap,cur,t,q3,q4,q5,q6,q7,q8,q9⟩
 ·have e0 : h.toNat = 0 := by omega
  have hsl := run_sliceBounds (P := P) (N := N) (S := S) (μ := μ) (H := H) (w := w) (sl := true) (cap := 0) (lo := none) (lo' := none) (hi := some (.p (.int k h))) (hi' := some hi) trivial hhi (show xs.length ≤ 0 by omega) hbd (by rfl)
  rw [hx1,q3]
  have hrow : RowAt w (.slice ad 0 0) sz' h.toNat (us.take (h.toNat * sz')) := ⟨htl,.inl ⟨e0,ad,rfl⟩⟩
  refine ⟨.slice ad 0 0,w,S,_,?_,Step.pop hr hb (v := .slice ad 0 0) (by intro g hg; cases ad <;> simp [blkOf] at hg) (hblk _ hrow),?_⟩
  ·rw [q2,e0] at hsl
   simp [Go.Instr.sliceAt,Go.Instr.slice,Go.run_underlying (slT_spec hT),hsl.1,run_sizeOf hs]
  ·refine .own _ _ _ (by simp) (fun f s zs hz => ?_) rfl
   rw [List.getElem?_append_right (by simp)] at hz
   simp at hz
   obtain ⟨_,_,rfl⟩ := hz
   rw [List.length_take]
   exact ⟨by omega,fun _ => upd_same.symm⟩
 ·have hsl := run_sliceBounds (P := P) (N := N) (S := S) (μ := μ) (H := H) (w := w) (sl := true) (cap := cap) (lo := none) (lo' := none) (hi := some (.p (.int k h))) (hi' := some hi) trivial hhi q6 hbd (by rfl)
  rw [hx1,q3]
  have hrow : RowAt w (.slice (some ⟨g,0,none⟩) h.toNat cap) sz' h.toNat (us.take (h.toNat * sz')) :=
   ⟨htl,.inr ⟨g,cap,cur,t,rfl,q4,q5,by omega,q7,q8,by rw [← q9,List.take_take,Nat.min_eq_left (Nat.mul_le_mul_right _ hlen)]⟩⟩
  refine ⟨.slice (some ⟨g,0,none⟩) h.toNat cap,w,S,_,?_,Step.pop hr hb (v := .slice (some ⟨g,0,none⟩) h.toNat cap) (by rw [q3]; intro k hk; simpa [blkOf] using hk) (hblk _ hrow),?_⟩
  ·have hne : ¬ cap = 0 := by omega
   simp [Go.Instr.sliceAt,Go.Instr.slice,Go.run_underlying (slT_spec hT),hsl.1,run_sizeOf hs,hne,Addr.add]
  ·refine .own _ _ _ (by simp) (fun f s zs hz => ?_) rfl
   rw [List.getElem?_append_right (by simp)] at hz
   simp at hz
   obtain ⟨_,_,rfl⟩ := hz
   rw [List.length_take]
   exact ⟨by omega,fun _ => upd_same.symm⟩
end
end Ab
namespace Ab
open Go (IntKind BinOp UnOp World Value Addr Obj undef maxLen Program TypeId Oper Op Operand Act Sem Next Result execOp Builtin)
section
variable {Γ : Ctx} {N : Names} {P : Program} {w : World} {S : Nat → Prop} {μ : Nat → Value} {H : Heap}
def bytesV (s : List UInt8) : List Value := s.map fun b => .int .u8 b.toNat
theorem bytesV_len {s : List UInt8} : (bytesV s).length = s.length := by simp [bytesV]
theorem byteCells_mk (s : List UInt8) : Go.byteCells ⟨s.toArray⟩ = bytesV s := rfl
theorem bytesV_one {s : List UInt8} : ∀ u ∈ bytesV s,u.oneCell' = true := by
 intro u hu
 obtain ⟨_,_,rfl⟩ := List.mem_map.1 hu
 rfl
theorem src_str {tx : TypeId} (hu : P.underlying tx = some .string) (s : List UInt8) : Go.Src P 1 tx (.string ⟨s.toArray⟩) s.length (bytesV s) w := by
 have h := Go.Src.ofString (P := P) w hu ⟨s.toArray⟩
 rwa [byteCells_mk,size_mk] at h
theorem run_append_roomS (t tx ty e e' : TypeId) (i : Go.TypeInfo) (ht : P.underlying t = some (.slice e)) (hu : P.underlying tx = some .string) (hi : P.info? e = some i) (hsz : i.size = 1)
  (g sLen sCap : Nat) (cur : Array Value) (hg : w.heap[g]? = some (.cells cur e' (0,0))) (s : List UInt8) (hroom : sLen + s.length ≤ sCap) (hfit : sLen + s.length ≤ cur.size) :
  (Builtin.append_ #[t,tx] ty #[.slice (some ⟨g,0,none⟩) sLen sCap,.string ⟨s.toArray⟩]).run P w =
   .ok (.slice (some ⟨g,0,none⟩) (sLen + s.length) sCap) (w.setRow g (cur.toList.take sLen ++ bytesV s ++ cur.toList.drop (sLen + s.length)).toArray) := by
 have hs := src_str (P := P) (w := w) hu s
 have hst := Go.run_storeCells_at P g sLen e' (bytesV s) 0 cur w hg (by rw [bytesV_len]; simpa using hfit) bytesV_one
 simp only [Nat.add_zero,bytesV_len] at hst
 simp [Builtin.append_,Go.run_underlying ht,Go.run_underlying hu,Go.sizeOf,Go.typeInfo,hi,hsz,hs.len,hroom,hs.cells,Go.Addr.add_lit,hst]
theorem run_append_rowS {t tx ty e : TypeId} {i : Go.TypeInfo} {z : Value} {n : Nat} {v : Value} {us : List Value} {s : List UInt8} (ht : P.underlying t = some (.slice e)) (hu : P.underlying tx = some .string) (hi : P.info? e = some i) (hz : i.zero = some z)
  (hsz : i.size = 1) (hzs : z.cells.size = 1) (hv : RowAt w v 1 n us) (hlim : n + s.length ≤ lim) (hb : i.bytes ≤ 65536) :
  ∃ v' w',(Builtin.append_ #[t,tx] ty #[v,.string ⟨s.toArray⟩]).run P w = .ok v' w' ∧ RowAt w' v' 1 (n + s.length) (us ++ bytesV s) ∧ w'.os = w.os ∧ w'.tape = w.tape ∧ w'.output = w.output ∧ w.heap.size ≤ w'.heap.size ∧
   (∀ g,g < w.heap.size → blkOf v ≠ some g → w'.heap[g]? = w.heap[g]?) ∧ (∀ g,blkOf v' = some g → blkOf v = some g ∨ w.heap.size ≤ g) ∧ (s.length = 0 → v' = v) := by
 have lim_eq : lim = 1073741824 := rfl
 have hs := src_str (P := P) (w := w) hu s
 have hs' : Go.Src P i.size tx (.string ⟨s.toArray⟩) s.length (bytesV s) w := by rw [hsz]; exact hs
 have hl := @bytesV_len s
 have hbytes : (n + s.length) * i.bytes ≤ 140737488355328 := by
  calc (n + s.length) * i.bytes ≤ 1073741824 * 65536 := Nat.mul_le_mul (by omega) hb
   _ ≤ 140737488355328 := by decide
 obtain ⟨hul,hv⟩ := hv
 have hul' : us.length = n := by omega
 by_cases hm : s.length = 0
 ·have hs0 : s = [] := List.eq_nil_of_length_eq_zero hm
  subst hs0
  obtain ⟨a,cap,rfl,hcap⟩ : ∃ a cap,v = .slice a n cap ∧ n ≤ cap := by
   rcases hv with ⟨rfl,a,h⟩ | ⟨g,cap,cur,e',h,_,_,hc,_⟩
   ·exact ⟨a,0,h,Nat.le_refl _⟩
   ·exact ⟨_,cap,h,hc⟩
  have hr : (Builtin.append_ #[t,tx] ty #[.slice a n cap,.string ⟨([] : List UInt8).toArray⟩]).run P w = .ok (.slice a n cap) w := by
   have hc := hs'.cells
   have hle := hs'.len
   cases a <;> simp [Builtin.append_,Go.run_underlying ht,Go.run_underlying hu,Go.sizeOf,Go.typeInfo,hi,hle,hcap,Go.storeCells,bytesV] at hc ⊢ <;> simp [hc,Go.storeCells]
  exact ⟨_,w,hr,⟨by simpa [bytesV] using hul,by simpa [bytesV] using hv⟩,rfl,rfl,rfl,Nat.le_refl _,fun _ _ _ => rfl,fun g hg => .inl hg,fun _ => rfl⟩
 ·have hlen : (us ++ bytesV s).length = (n + s.length) * 1 := by rw [List.length_append,hul,hl]; omega
  have grown : ∀ (old : Nat),old < n + s.length →
    RowAt (w.drew.alloc (.cells ((us ++ bytesV s).toArray ++ Builtin.zeroCells z.cells (Go.grownCap w (n + s.length) old e - (n + s.length))) e)) (.slice (some ⟨w.heap.size,0,none⟩) (n + s.length) (Go.grownCap w (n + s.length) old e)) 1 (n + s.length) (us ++ bytesV s) := by
   intro old ho
   have hge := Go.grownCap_ge w (n + s.length) old e
   have hcm : Go.grownCap w (n + s.length) old e ≤ maxLen := Go.grownCap_le_maxLen w (n + s.length) old e (by simp only [maxLen]; omega)
   refine ⟨hlen,.inr ⟨w.heap.size,_,_,e,rfl,by omega,Go.heap_alloc_new w.drew _,hge,hcm,?_,?_⟩⟩
   ·simp only [Array.size_append,List.size_toArray,Go.size_zeroCells,hzs,hlen]
    omega
   ·simp only [Array.toList_append]
    rw [← hlen]
    exact List.take_left
  have rest : ∀ (o : Obj),(w.drew.alloc o).os = w.os ∧ (w.drew.alloc o).tape = w.tape ∧ (w.drew.alloc o).output = w.output ∧ w.heap.size ≤ (w.drew.alloc o).heap.size ∧
    (∀ g,g < w.heap.size → blkOf v ≠ some g → (w.drew.alloc o).heap[g]? = w.heap[g]?) ∧ ∀ n c g,blkOf (.slice (some ⟨w.heap.size,0,none⟩) n c) = some g → blkOf v = some g ∨ w.heap.size ≤ g := by
   intro o
   refine ⟨rfl,rfl,rfl,by simp,fun g hg _ => (Grows.alloc w.drew o).keep g hg,fun n c g hg => ?_⟩
   simp only [blkOf] at hg
   split at hg
   ·cases hg
   ·simp only [Option.some.injEq] at hg; omega
  rcases hv with ⟨rfl,a,rfl⟩ | ⟨g,cap,cur,e',rfl,hc0,hg,hnc,hcm,hcs,htake⟩
  ·have hus : us = [] := List.eq_nil_of_length_eq_zero hul'
   subst hus
   have hold : (Builtin.firstCells i.size 0 (.slice a 0 0)).run P w.drew = .ok ([] : List Value).toArray w.drew := by
    cases a with
    | none => exact Go.run_firstCells_none w.drew i.size 0 0 0
    | some b => exact Go.run_firstCells_some w.drew i.size 0 b 0 0 [] (by simp) (by simp)
   have hr := Go.run_append_grow_src (P := P) w t tx ty e i z ht hi hz a 0 0 [] hold (.string ⟨s.toArray⟩) s.length (bytesV s) hs' (by omega) (by omega) (Go.growslice_fits (by omega) hbytes)
   obtain ⟨r1,r2,r3,r4,r5,r6⟩ := rest (.cells (([] ++ bytesV s).toArray ++ Builtin.zeroCells z.cells (Go.grownCap w (0 + s.length) 0 e - (0 + s.length))) e)
   exact ⟨_,_,hr,grown 0 (by omega),r1,r2,r3,r4,r5,r6 _ _,fun h => absurd h hm⟩
  ·have hbl : ∀ k,blkOf (.slice (some ⟨g,0,none⟩) k cap) = some g := by intro k; simp only [blkOf]; rw [if_neg (by omega)]
   by_cases hroom : n + s.length ≤ cap
   ·have hr := run_append_roomS (ty := ty) t tx e e' i ht hu hi hsz g n cap cur hg s hroom (by omega)
    refine ⟨_,_,hr,⟨hlen,.inr ⟨g,cap,_,e',rfl,hc0,Go.setRow_heap w g cur _ e' _ hg,hroom,hcm,?_,?_⟩⟩,rfl,rfl,rfl,Nat.le_of_eq setRow_size.symm,fun k _ hne => setRow_keep (fun e => hne (by rw [e]; exact hbl _)),fun k hk => .inl ?_,fun h => absurd h hm⟩
    ·simp only [List.size_toArray,List.length_append,List.length_take,List.length_drop,Array.length_toList,hl]
     omega
    ·have : cur.toList.take n = us := by rw [← htake,Nat.mul_one]
     rw [this,← hlen]
     exact List.take_left
    ·rw [hbl _] at hk ⊢; exact hk
   ·have hcell : ∀ (j : Nat) u,us[j]? = some u → w.drew.cell? ((⟨g,0,none⟩ : Addr).add j) = some u := by
     intro j u hj
     have : w.cell? ((⟨g,0,none⟩ : Addr).add j) = some u := by
      rw [Go.Addr.add_lit,Nat.zero_add,Go.cell_of_row w g j cur e' _ hg]
      rw [← htake,List.getElem?_take] at hj
      split at hj
      ·simpa using hj
      ·cases hj
     simpa using this
    have hold : (Builtin.firstCells i.size n (.slice (some ⟨g,0,none⟩) n cap)).run P w.drew = .ok us.toArray w.drew := Go.run_firstCells_some w.drew i.size n ⟨g,0,none⟩ n cap us (by rw [hsz]; exact hul) hcell
    have hr := Go.run_append_grow_src (P := P) w t tx ty e i z ht hi hz (some ⟨g,0,none⟩) n cap us hold (.string ⟨s.toArray⟩) s.length (bytesV s) hs' (by omega) (by omega) (Go.growslice_fits (by omega) hbytes)
    obtain ⟨r1,r2,r3,r4,r5,r6⟩ := rest (.cells ((us ++ bytesV s).toArray ++ Builtin.zeroCells z.cells (Go.grownCap w (n + s.length) cap e - (n + s.length))) e)
    exact ⟨_,_,hr,grown cap (by omega),r1,r2,r3,r4,r5,r6 _ _,fun h => absurd h hm⟩
def bytesP (s : List UInt8) : List PV := s.map fun b => .int .u8 b.toNat
theorem flat_bytes {s : List UInt8} : FlatRel N.fn w S 1 (bytesP s) (bytesV s) := by
 refine ⟨fun x hx => ?_,fun i x j c hx hc => ?_⟩
 ·obtain ⟨b,_,rfl⟩ := List.mem_map.1 hx
  exact ⟨rfl,fun c hc => by simp only [PV.cells,List.mem_singleton] at hc; subst hc; rfl⟩
 ·simp only [bytesP,List.getElem?_map,Option.map_eq_some_iff] at hx
  obtain ⟨b,hb,rfl⟩ := hx
  cases j with
  | succ j => simp [PV.cells] at hc
  | zero =>
   simp only [PV.cells,List.getElem?_cons_zero,Option.some.injEq] at hc
   subst hc
   have e : (bytesV s).getD (i * 1 + 0) undef = .int .u8 b.toNat := by
    simp [bytesV,List.getD_eq_getElem?_getD,hb]
   rw [e]
   exact .int _ _
theorem x_appendS (hr : Rel N.fn w S μ H) {t tx ty e : TypeId} {i : Go.TypeInfo} {z : Value} {x y : Value} {x' y' : AV} {r : AV × Heap} (ht : P.underlying t = some (.slice e)) (hu : P.underlying tx = some .string) (hi : P.info? e = some i) (hz : i.zero = some z)
  (hsz : i.size = 1) (hzs : z.cells.size = 1) (hb : i.bytes ≤ 65536) (hx : RelV N.fn w S μ H x' x) (hy : RelV N.fn w S μ H y' y) (hv : appendSA H x' y' = some r) :
  ∃ v' w' μ',(Builtin.append_ #[t,tx] ty #[x,y]).run P w = .ok v' w' ∧ Step N.fn w S μ H w' S μ' r.2 ∧ RelV N.fn w' S μ' r.2 r.1 v' := by
 unfold appendSA at hv
 split at hv
 rotate_left
 ·cases hv
 rename_i s
 rw [hy.str_inv]
 have hbl : (bytesP s).length = s.length := by simp [bytesP]
 split at hv
 ·rename_i id n
  simp only [appendA] at hv
  split at hv
  rotate_left
  ·cases hv
  rename_i sz' xs hb'
  simp only [Option.ite_none_right_eq_some,Option.some.injEq] at hv
  obtain ⟨⟨rfl,rfl,hlim⟩,rfl⟩ := hv
  have hrow : rowOf H id xs.length = some (1,xs) := by simp [rowOf,hb']
  rw [hx.own_inv hrow]
  obtain ⟨_,_,us,h3,h4,h5,_⟩ := hr.blk id _ hb'
  rw [List.length_append] at hlim
  have hlim : xs.length + (bytesP s).length ≤ lim := hlim
  rw [hbl] at hlim
  obtain ⟨v',w',r1,r2,r3,r4,r5,r6,r7,r8,r9⟩ := run_append_rowS (ty := ty) ht hu hi hz hsz hzs h3 hlim hb
  show ∃ v' w' μ',(Builtin.append_ #[t,tx] ty #[μ id,.string ⟨s.toArray⟩]).run P w = .ok v' w' ∧ Step N.fn w S μ H w' S μ' (H.set id (.row false 1 (xs ++ bytesP s))) ∧ RelV N.fn w' S μ' (H.set id (.row false 1 (xs ++ bytesP s))) (.own id (xs ++ bytesP s).length) v'
  have hm : Moves μ H (upd μ id v') (H.set id (.row false 1 (xs ++ bytesP s))) := moves_set_row hb' (by simp) (fun h => r9 (by
   have h : (xs ++ bytesP s).length = xs.length := by simpa using h
   rw [List.length_append,hbl] at h; omega))
  have keepS : ∀ g,S g → w'.heap[g]? = w.heap[g]? := fun g hg => r7 g (hr.lt g hg) (fun e => hr.apart g (alive_iff.2 ⟨id,_,hb',.inr ⟨1,xs,rfl⟩,e⟩) hg)
  have hfl : FlatRel N.fn w' S 1 (xs ++ bytesP s) (us ++ bytesV s) := (FlatRel.append ⟨h4,h5⟩ flat_bytes h3.1).keep keepS
  have hlt := (List.getElem?_eq_some_iff.1 hb').1
  refine ⟨v',w',upd μ id v',r1,Step.set hr hb' (.inr ⟨1,xs,rfl⟩) r3 r4 r5 r6 r7 hm ⟨by decide,by rw [List.length_append,hbl]; exact hlim,us ++ bytesV s,by rw [upd_same,List.length_append,hbl]; exact r2,hfl.1,hfl.2,fun h => by cases h⟩ r8,?_⟩
  refine .own _ _ _ (by simpa using hlt) (fun f sz2 xs2 h => ?_) ?_
  ·simp only [List.getElem?_set,hlt,if_true,Option.some.injEq,Blk.row.injEq] at h
   obtain ⟨_,_,rfl⟩ := h
   exact ⟨Nat.le_refl _,fun _ => upd_same.symm⟩
  ·obtain ⟨_,h⟩ := r2
   rcases h with ⟨_,a,h⟩ | ⟨g,cap,cur,e,h,_⟩ <;> rw [h] <;> rfl
 ·rename_i k0
  simp only [appendA,List.nil_append,Option.ite_none_right_eq_some,Option.some.injEq] at hv
  obtain ⟨⟨_,hlim⟩,rfl⟩ := hv
  have hlim : (bytesP s).length ≤ lim := hlim
  have hx := hx.p_inv
  cases hx with
  | sl _ _ _ a cap us h1 h2 h3 h4 h5 h6 h7 h8 =>
  obtain ⟨_,rfl,rfl⟩ := h4 (.inl rfl)
  have hrow : RowAt w (.slice none 0 0) 1 0 [] := ⟨by simp,.inl ⟨rfl,none,rfl⟩⟩
  obtain ⟨v',w',r1,r2,r3,r4,r5,r6,r7,r8,r9⟩ := run_append_rowS (ty := ty) (s := s) ht hu hi hz hsz hzs hrow (by rw [hbl] at hlim; omega) hb
  have hg : Grows w w' := ⟨r3,r4,r5,r6,fun g hg => r7 g hg (by simp [blkOf])⟩
  rw [Nat.zero_add,List.nil_append] at r2
  rw [← hbl] at r2
  obtain ⟨μ',s1,s2⟩ := step_newrow hr hg (by decide) hlim r2 (flat_bytes.keep (hr.keepS hg)) (fun g hg => by
   rcases r8 g hg with h | h
   ·simp [blkOf] at h
   ·exact h)
  exact ⟨v',w',μ',r1,s1,s2⟩
 ·cases hv
end
end Ab
