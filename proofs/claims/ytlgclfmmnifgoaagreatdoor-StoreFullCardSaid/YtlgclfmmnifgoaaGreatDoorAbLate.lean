import Derived.Test.YtlgclfmmnifgoaaGreatDoorAbK2
import Derived.Orders
namespace Ab
open Go (IntKind BinOp UnOp World Value Addr Obj undef maxLen Program TypeId Oper Op Operand Act Sem Next Result execOp Builtin Calls Ending Exit)
def Arg.tmps : Arg → List Nat
 | .v t => [t]
 | _ => []
def QOp.args : QOp → List Arg
 | .bad => []
 | .mlen x | .mov x | .nilchk x | .un _ x | .conv _ x | .same x | .strOf x | .runeStr x | .len _ x | .fld _ _ _ x | .faddr _ x | .load _ _ x | .ext x _ => [x]
 | .pick c a b => [c,a,b]
 | .lenk x y | .loadk _ _ x y | .mget _ _ _ x y | .isnil _ x y | .appq _ x y | .bin _ x y | .eqs _ _ x y | .eqk _ _ x y | .idx x y | .aidx _ _ _ x y | .iaddr _ x y | .iaddrA _ _ x y => [x,y]
 | .sliceS x lo hi | .slice _ x lo hi | .wslice _ x lo hi => x :: (lo.toList ++ hi.toList)
 | .build _ ps | .bslice _ _ _ _ ps => ps.map (·.arg)
 | .minmax _ xs | .clos _ xs => xs
 | .call f xs | .callr f xs => f :: xs
 | .mkt _ _ _ n c => [n,c]
def XOp.args : XOp → List Arg
 | .alloc _ | .newrow _ | .mkmap => []
 | .box x | .fbox x | .bytesOf x | .range x | .next x => [x]
 | .mset _ x k v => [x,k,v]
 | .msets _ x k v => [x,k,v]
 | .mdel _ x k => [x,k]
 | .store _ x v | .append _ x v | .appt _ x v | .appendS x v | .copy _ x v => [x,v]
 | .mkslice _ _ _ n c => [n,c]
 | .slicef _ x lo hi => x :: (lo.toList ++ hi.toList)
 | .popf _ x hi => [x,hi]
 | .storek _ x v ks | .appk _ x v ks => x :: v :: ks
 | .callk f xs ks | .callwk f xs ks => f :: (xs ++ ks)
 | .callf f xs | .calls f xs | .callz f xs | .callw f xs | .callwr f xs => f :: xs
 | .bslicef _ _ _ _ ps | .brow _ _ _ _ ps => ps.map (·.arg)
 | .bslk _ _ _ _ ps ks => ks ++ ps.map (·.arg)
 | .pureq q | .treeq q => q.args
def kw : QOp ⊕ XOp → List Arg
 | .inl q => q.args
 | .inr x => x.args
def St.reads (s : St) : List Nat := (match s.g with | some (t,_) => [t] | none => []) ++ (kw s.op).flatMap Arg.tmps
def cu (Γ : Ctx) (cal : Nat → List AV → Heap → Option (List AV × Heap)) (s : St) (σ : Nat → AV) (H : Heap) : Option (AV × Heap) :=
 match wanted σ s.g with
 | none => none
 | some false => some (.nov,H)
 | some true => match s.op with
  | .inl q => (evQ Γ cal σ H q).map fun v => (v,H)
  | .inr x => evX Γ cal σ H x
section
variable {Γ : Ctx} {cal : Nat → List AV → Heap → Option (List AV × Heap)}
theorem px {s : St} {r : List St} {env : Env} {H : Heap} :
  dp Γ cal (s :: r) env H = (cu Γ cal s (look env) H).bind fun x => dp Γ cal r (put env s.dst x.1) x.2 := by
 simp only [dp,cu]
 cases wanted (look env) s.g with
 | none => rfl
 | some b =>
  cases b with
  | false => rfl
  | true =>
   cases s.op with
   | inl q => simp only []; cases evQ Γ cal (look env) H q <;> rfl
   | inr x => simp only []; cases evX Γ cal (look env) H x <;> rfl
theorem Arg.ev_congr {σ σ' : Nat → AV} {x : Arg} (h : ∀ t ∈ x.tmps,σ t = σ' t) : x.ev Γ σ = x.ev Γ σ' := by
 cases x <;> try rfl
 exact h _ (by simp [Arg.tmps])
theorem aK {α β : Type} {f g : α → β} {l : List α} (h : ∀ x ∈ l,f x = g x) : l.map f = l.map g := List.map_congr_left h
theorem nW {σ σ' : Nat → AV} {H : Heap} {q : QOp} (h : ∀ x ∈ q.args,x.ev Γ σ = x.ev Γ σ') : evQ Γ cal σ H q = evQ Γ cal σ' H q := by
 have om : ∀ o : Option Arg,(∀ x ∈ o.toList,x.ev Γ σ = x.ev Γ σ') → o.map (Arg.ev Γ σ) = o.map (Arg.ev Γ σ') := fun o ho => by
  cases o with
  | none => rfl
  | some x => simp only [Option.map_some,ho x (by simp)]
 cases q <;> simp only [QOp.args,List.mem_cons,List.not_mem_nil,or_false,forall_eq,forall_eq_or_imp,List.mem_append,List.mem_map,forall_exists_index,and_imp,forall_apply_eq_imp_iff₂] at h <;> simp only [evQ]
 case sliceS x lo hi => rw [h.1,om lo fun x hx => h.2 x (.inl hx),om hi fun x hx => h.2 x (.inr hx)]
 case slice x lo hi => rw [h.1,om lo fun x hx => h.2 x (.inl hx),om hi fun x hx => h.2 x (.inr hx)]
 case wslice x lo hi => rw [h.1,om lo fun x hx => h.2 x (.inl hx),om hi fun x hx => h.2 x (.inr hx)]
 case build zero parts => rw [aK (f := fun q : Parts => (q.off,q.sz,Arg.ev Γ σ q.arg)) (g := fun q : Parts => (q.off,q.sz,Arg.ev Γ σ' q.arg)) fun x hx => by rw [h x hx]]
 case bslice sz ag n zero parts => rw [aK (f := fun q : Parts => (q.off,q.sz,Arg.ev Γ σ q.arg)) (g := fun q : Parts => (q.off,q.sz,Arg.ev Γ σ' q.arg)) fun x hx => by rw [h x hx]]
 case minmax mx xs => rw [aK h]
 case clos f xs => rw [aK h]
 case call f xs => rw [h.1,aK h.2]
 case callr f xs => rw [h.1,aK h.2]
 all_goals (first | rfl | rw [h] | rw [h.1,h.2] | rw [h.1,h.2.1,h.2.2])
theorem BN {σ σ' : Nat → AV} {H : Heap} {q : XOp} (h : ∀ x ∈ q.args,x.ev Γ σ = x.ev Γ σ') : evX Γ cal σ H q = evX Γ cal σ' H q := by
 have hp : ∀ q',q = .pureq q' → evX Γ cal σ H q = evX Γ cal σ' H q := fun q' e => by subst e; simp only [evX,nW (q := q') h]
 have om : ∀ o : Option Arg,(∀ x ∈ o.toList,x.ev Γ σ = x.ev Γ σ') → o.map (Arg.ev Γ σ) = o.map (Arg.ev Γ σ') := fun o ho => by
  cases o with
  | none => rfl
  | some x => simp only [Option.map_some,ho x (by simp)]
 cases q <;> simp only [XOp.args,List.mem_cons,List.not_mem_nil,or_false,forall_eq,forall_eq_or_imp,List.mem_append,List.mem_map,forall_exists_index,and_imp,forall_apply_eq_imp_iff₂] at h <;> simp only [evX]
 case slicef sz x lo hi => rw [h.1,om lo fun x hx => h.2 x (.inl hx),om hi fun x hx => h.2 x (.inr hx)]
 case callf f xs => rw [h.1,aK h.2]
 case calls f xs => rw [h.1,aK h.2]
 case callz f xs => rw [h.1,aK h.2]
 case callw f xs => rw [h.1,aK h.2]
 case callwr f xs => rw [h.1,aK h.2]
 case callwk f xs ks => rw [h.1,aK fun x hx => h.2 x (.inl hx),aK fun x hx => h.2 x (.inr hx)]
 case callk f xs ks => rw [h.1,aK fun x hx => h.2 x (.inl hx),aK fun x hx => h.2 x (.inr hx)]
 case storek sz x v ks => rw [h.1,h.2.1,aK h.2.2]
 case appk sz x v ks => rw [h.1,h.2.1,aK h.2.2]
 case bslk sz ag n zero parts ks => rw [aK (f := Arg.ev Γ σ) (g := Arg.ev Γ σ') (l := ks) fun x hx => h x (.inl hx),aK (f := fun q : Parts => (q.off,q.sz,Arg.ev Γ σ q.arg)) (g := fun q : Parts => (q.off,q.sz,Arg.ev Γ σ' q.arg)) fun x hx => by rw [h x.arg (.inr ⟨x,hx,rfl⟩)]]
 case pureq q => exact hp q rfl
 case treeq q => simp only [nW (q := q) h]
 case brow sz ag n zero parts => rw [aK (f := fun q : Parts => (q.off,q.sz,Arg.ev Γ σ q.arg)) (g := fun q : Parts => (q.off,q.sz,Arg.ev Γ σ' q.arg)) fun x hx => by rw [h x hx]]
 case bslicef sz ag n zero parts => rw [aK (f := fun q : Parts => (q.off,q.sz,Arg.ev Γ σ q.arg)) (g := fun q : Parts => (q.off,q.sz,Arg.ev Γ σ' q.arg)) fun x hx => by rw [h x hx]]
 all_goals (first | rfl | rw [h] | rw [h.1,h.2] | rw [h.1,h.2.1,h.2.2])
theorem uy {σ σ' : Nat → AV} {H : Heap} {s : St} (h : ∀ t ∈ s.reads,σ t = σ' t) : cu Γ cal s σ H = cu Γ cal s σ' H := by
 have hg : wanted σ s.g = wanted σ' s.g := by
  cases hs : s.g with
  | none => rfl
  | some g => obtain ⟨t,b⟩ := g; simp only [wanted]; rw [h t (by simp [St.reads,hs])]
 have ha : ∀ x ∈ kw s.op,x.ev Γ σ = x.ev Γ σ' := fun x hx => Arg.ev_congr fun t ht => h t (by
  simp only [St.reads,List.mem_append,List.mem_flatMap]; exact .inr ⟨x,hx,ht⟩)
 unfold cu
 rw [hg]
 cases hs : s.op with
 | inl q => rw [hs] at ha; simp only [nW ha]
 | inr x => rw [hs] at ha; simp only [BN ha]
end
def uk (ops : Array Oper) : Option (Nat × Bool) → Option (Nat × Bool) → Bool
 | none,none => true
 | some (j,b),some (t,b') => (match ops[j]? with | some oj => oj.dst == some t | none => false) && b == b'
 | _,_ => false
def mq (P : Program) (N : Names) (ops : Array Oper) (nt : Nat) (o : Oper) (s : St) : Bool :=
 o.dst == s.dst && (match s.dst with | some d => decide (d < nt) | none => true) && uk ops o.guard s.g && chkOp P N o s.op
section
variable {Γ : Ctx} {N : Names} {P : Program} {w : World} {S : Nat → Prop} {μ : Nat → Value} {H H' : Heap} {σ : Nat → AV} {a : Act}
 {cal : Nat → List AV → Heap → Option (List AV × Heap)} {ops : Array Oper}
theorem tk {xs : Array Value} {t : Nat} {v : Value} (h : xs.getD t undef = v) (hv : v ≠ undef) : xs[t]? = some v := by
 cases hx : xs[t]? with
 | none => simp [Array.getD_eq_getD_getElem?,hx] at h; exact absurd h.symm hv
 | some x => simp [Array.getD_eq_getD_getElem?,hx] at h; rw [h]
theorem RelV.nov_inv {u : Value} (h : RelV N.fn w S μ H .nov u) : u = undef := by cases h; rfl
theorem jJ (he : Env.Rel Γ N w S μ H σ a) {o : Oper} {g : Option (Nat × Bool)} {b : Bool} (hg : uk ops o.guard g = true) (hw : wanted σ g = some b) : Go.Region.wanted o (Go.yielded ops a.tmps) = b := by
 unfold uk at hg
 split at hg
 ·rename_i h1
  simp only [wanted,Option.some.injEq] at hw; subst hw
  simp [Go.Region.wanted,h1]
 ·rename_i j c t c' h1
  simp only [Bool.and_eq_true,beq_iff_eq] at hg
  obtain ⟨h2,rfl⟩ := hg
  split at h2
  ·rename_i oj hj
   simp only [beq_iff_eq] at h2
   have hv := he.env t
   simp only [wanted] at hw
   split at hw
   ·rename_i c' hc'
    rw [hc'] at hv
    have hv := hv.bool_inv
    simp only [Option.some.injEq] at hw; subst hw
    have hv := tk hv (by simp [undef])
    simp only [Go.Region.wanted,h1,Go.yielded,hj,h2,hv,Option.bind_some]
    rfl
   ·rename_i hc'
    rw [hc'] at hv
    simp only [Option.some.injEq] at hw; subst hw
    have hv := hv.nov_inv
    simp only [Go.Region.wanted,h1,Go.yielded,hj,h2,Option.bind_some]
    cases hx : a.tmps[t]? with
    | none => rfl
    | some x =>
     simp only [Array.getD_eq_getD_getElem?,hx,Option.getD_some] at hv
     subst hv; rfl
   ·cases hw
  ·cases h2
 ·cases hg
theorem sj (hcal : dq Γ N P cal) {nt : Nat} {i : Nat} {o : Oper} {s : St} {v : AV} (hi : ops[i]? = some o) (hc : mq P N ops nt o s = true) (he : Env.Rel Γ N w S μ H σ a) (hr : Rel N.fn w S μ H)
  (hv : cu Γ cal s σ H = some (v,H')) {K : Act → World → Prop} {Q : Exit → Act → World → Prop}
  (hK : ∀ u w' S' μ',Step N.fn w S μ H w' S' μ' H' → RelV N.fn w' S' μ' H' v u → K (a.put s.dst u) w') : Go.wpOp P ops Q i K a w := by
 simp only [mq,Bool.and_eq_true,beq_iff_eq] at hc
 obtain ⟨⟨⟨hd,_⟩,hg⟩,hop⟩ := hc
 unfold Go.wpOp
 simp only [hi]
 rw [← hd] at hK
 simp only [cu] at hv
 split at hv
 ·cases hv
 ·rename_i hw
  simp only [Option.some.injEq,Prod.mk.injEq] at hv
  obtain ⟨rfl,rfl⟩ := hv
  simp only [jJ he hg hw,Bool.false_eq_true,if_false]
  exact hK undef w S μ (.refl hr) .nov
 ·rename_i hw
  simp only [jJ he hg hw,if_true]
  refine .inl ?_
  have fin : ux N P w S μ H o a v H' → o.wp P a w K Q := by
   rintro ⟨f,us,h1,⟨h2,h3⟩ | ⟨u,w',h2,S',μ',h3,h4⟩⟩
   ·simp only [Go.Oper.wp,h1,h2,Go.Oper.upon]
    refine h3.mono ?_
    rintro e w' ⟨u,rfl,S',μ',h3,h4⟩
    exact hK u w' S' μ' h3 h4
   ·simp only [Go.Oper.wp,h1,h2,Go.Oper.upon]
    exact hK u w' S' μ' h3 h4
  split at hv
  ·rename_i q hq
   rw [hq] at hop
   simp only [Option.map_eq_some_iff,Prod.mk.injEq] at hv
   obtain ⟨v',hv,rfl,rfl⟩ := hv
   by_cases hcl : q.plain = false
   ·cases q <;> first | exact fin (pk hcal hop he hr hv) | exact fin (nM hcal hop he hr hv) | cases hcl
   ·obtain ⟨u,w',S',h1,h2,h3⟩ := uH (by simpa using hcl) hop he hr hv
    simp only [Go.Oper.wp,h1,Go.Oper.upon]
    exact hK u w' S' μ h2 h3
  ·rename_i x hx
   rw [hx] at hop
   by_cases hk : x.known = true
   ·obtain ⟨u,w',S',μ',h1,h2,h3⟩ := ui hk hop he hr hv
    rcases h1 with h1 | ⟨h1,rfl⟩
    ·simp only [Go.Oper.wp,h1,Go.Oper.upon]; exact hK u w' S' μ' h2 h3
    ·simp only [Go.Oper.wp,h1,Go.Oper.upon]; exact hK undef w' S' μ' h2 h3
   ·cases x <;> simp only [XOp.known,not_true_eq_false] at hk
    ·obtain ⟨u,w',S',μ',h1,h2,h3⟩ := j1 hop he hr hv
     rcases h1 with h1 | ⟨h1,rfl⟩
     ·simp only [Go.Oper.wp,h1,Go.Oper.upon]; exact hK u w' S' μ' h2 h3
     ·simp only [Go.Oper.wp,h1,Go.Oper.upon]; exact hK undef w' S' μ' h2 h3
    ·obtain ⟨u,w',S',μ',h1,h2,h3⟩ := xn (P := P) hop he hr hv
     rcases h1 with h1 | ⟨h1,rfl⟩
     ·simp only [Go.Oper.wp,h1,Go.Oper.upon]; exact hK u w' S' μ' h2 h3
     ·simp only [Go.Oper.wp,h1,Go.Oper.upon]; exact hK undef w' S' μ' h2 h3
    ·exact fin (tK hcal hop he hr hv)
    ·rename_i q
     simp only [evX,Option.map_eq_some_iff,Prod.mk.injEq] at hv
     obtain ⟨v',hv,rfl,rfl⟩ := hv
     have hv : evQ Γ cal σ H q = some v' := by simpa using evQ_up (E := H) hv
     by_cases hcl : q.plain = false
     ·cases q <;> first | exact fin (pk hcal hop he hr hv) | exact fin (nM hcal hop he hr hv) | cases hcl
     ·obtain ⟨u,w',S',h1,h2,h3⟩ := uH (by simpa using hcl) hop he hr hv
      simp only [Go.Oper.wp,h1,Go.Oper.upon]
      exact hK u w' S' μ h2 h3
    ·exact fin (tn hcal hop he hr hv)
    ·exact fin (nO hcal hop he hr hv)
    ·obtain ⟨u,w',S',μ',h1,h2,h3⟩ := t6 (P := P) hop he hr hv
     rcases h1 with h1 | ⟨h1,rfl⟩
     ·simp only [Go.Oper.wp,h1,Go.Oper.upon]; exact hK u w' S' μ' h2 h3
     ·simp only [Go.Oper.wp,h1,Go.Oper.upon]; exact hK undef w' S' μ' h2 h3
    ·rename_i f args ks
     have hv' : evX Γ cal σ H (.calls f args) = some (v,H') := by
      simp only [evX,sI,Option.map_eq_some_iff,Option.bind_eq_some_iff,ifB_some] at hv ⊢
      obtain ⟨r,⟨fc,_,_,h1⟩,h2⟩ := hv
      exact ⟨r,h1,h2⟩
     exact fin (nO hcal (o := o) (f := f) (args := args) hop he hr hv')
    ·exact fin (jP hcal hop he hr hv)
    ·rename_i f args ks
     have hv' : evX Γ cal σ H (.callw f args) = some (v,H') := by
      simp only [evX,jF,Option.map_eq_some_iff,Option.bind_eq_some_iff,ifB_some] at hv ⊢
      obtain ⟨r,⟨r',h1,_,h2⟩,h3⟩ := hv
      cases h2
      exact ⟨r,h1,h3⟩
     exact fin (jP hcal (o := o) (f := f) (args := args) hop he hr hv')
    ·rename_i sz x y
     have hc : chkX P N o (.append sz x y) = true := hop
     simp only [evX] at hv
     obtain ⟨r,hv,h2⟩ := Option.bind_eq_some_iff.1 hv
     obtain ⟨u,w',S',μ',h1,g2,g3⟩ := ui (o := o) (x := .append sz x y) (cal := cal) (v := r.1) (H' := r.2) rfl hc he hr (by simp only [evX]; exact hv)
     simp only [kY,Option.bind_eq_some_iff,Option.map_eq_some_iff,Prod.mk.injEq] at h2
     obtain ⟨q,hq,p,hp,rfl,rfl⟩ := h2
     obtain ⟨S2,hst,hall⟩ := eM g2.rel (ps := q.1) (H' := q.2) hq (us := [u]) ⟨g3,trivial⟩
     match q,hp,hall,hst with
     | (p' :: ps,H2),hp,hall,hst =>
      simp only [List.head?_cons,Option.some.injEq] at hp
      subst hp
      rcases h1 with h1 | ⟨h1,rfl⟩
      ·simp only [Go.Oper.wp,h1,Go.Oper.upon]; exact hK u w' S2 μ' (g2.trans hst) (.p _ _ hall.1)
      ·simp only [Go.Oper.wp,h1,Go.Oper.upon]; exact hK undef w' S2 μ' (g2.trans hst) (.p _ _ hall.1)
    ·rename_i sz x y ks
     have hc : chkX P N o (.append sz x y) = true := hop
     simp only [evX,ifB_some] at hv
     obtain ⟨u,w',S',μ',h1,h2,h3⟩ := ui (o := o) (x := .append sz x y) (cal := cal) (v := v) (H' := H') rfl hc he hr (by simp only [evX]; exact hv.2)
     rcases h1 with h1 | ⟨h1,rfl⟩
     ·simp only [Go.Oper.wp,h1,Go.Oper.upon]; exact hK u w' S' μ' h2 h3
     ·simp only [Go.Oper.wp,h1,Go.Oper.upon]; exact hK undef w' S' μ' h2 h3
    ·rename_i sz ag n zero parts ks
     have hv' : evX Γ cal σ H (.bslicef sz ag n zero parts) = some (v,H') := by
      simp only [evX,bslkA,Option.bind_eq_some_iff,ifB_some] at hv ⊢
      obtain ⟨l,h1,_,h2⟩ := hv
      rw [h1]; exact h2
     obtain ⟨u,w',S',μ',h1,h2,h3⟩ := j1 (o := o) hop he hr hv'
     rcases h1 with h1 | ⟨h1,rfl⟩
     ·simp only [Go.Oper.wp,h1,Go.Oper.upon]; exact hK u w' S' μ' h2 h3
     ·simp only [Go.Oper.wp,h1,Go.Oper.upon]; exact hK undef w' S' μ' h2 h3
    ·rename_i f args
     have hv' : evX Γ cal σ H (.callw f args) = some (v,H') := by
      simp only [evX,lp,Option.map_eq_some_iff,Option.bind_eq_some_iff,ifB_some] at hv ⊢
      obtain ⟨r,⟨r',h1,_,h2⟩,h3⟩ := hv
      cases h2
      exact ⟨r,h1,h3⟩
     exact fin (jP hcal (o := o) (f := f) (args := args) hop he hr hv')
theorem RelV.step {w' : World} {S' : Nat → Prop} {μ' : Nat → Value} (hr : Rel N.fn w S μ H) (hs : Step N.fn w S μ H w' S' μ' H') {v : AV} {u : Value} (h : RelV N.fn w S μ H v u) : RelV N.fn w' S' μ' H' v u :=
 h.keep hs.ext.more (fun g hg => hs.ext.keep g (hr.lt g hg) (hr.stable hg).2) hs.moves
theorem GlRel.step {w' : World} {S' : Nat → Prop} {μ' : Nat → Value} (hr : Rel N.fn w S μ H) (hs : Step N.fn w S μ H w' S' μ' H') (h : GlRel Γ N w S) : GlRel Γ N w' S' :=
 ⟨fun n cs hn => (h.rel n cs hn).keep hs.ext.more (fun g hg => hs.ext.keep g (hr.lt g hg) (hr.stable hg).2),fun n cs hn => by
  obtain ⟨us,e,fr,h1,h2⟩ := h.whole n cs hn
  have hS : S (N.gl n) := by
   have := h.rel n cs hn
   cases this with
   | ptr _ _ _ _ hs => exact hs
  exact ⟨us,e,fr,by rw [hs.ext.keep _ (hr.lt _ hS) (hr.stable hS).2]; exact h1,h2⟩,fun n hn => by
  obtain ⟨hS,m,hm⟩ := h.ints n hn
  exact ⟨hs.ext.more _ hS,m,(cC (hs.ext.keep _ (hr.lt _ hS) (hr.stable hS).2)).trans hm⟩⟩
theorem dN {dst : Option Nat} {u : Value} {t : Nat} (h : dst ≠ some t) : (a.put dst u).tmps.getD t undef = a.tmps.getD t undef := by
 cases dst with
 | none => rfl
 | some d =>
  have : d ≠ t := fun e => h (by rw [e])
  simp [Go.Act.put,Array.getElem?_setIfInBounds_ne this]
theorem jE {d : Nat} {u : Value} (h : d < a.tmps.size) : (a.put (some d) u).tmps.getD d undef = u := by
 simp [Go.Act.put,h]
theorem qP {dst : Option Nat} {u : Value} : (a.put dst u).tmps.size = a.tmps.size := by cases dst <;> simp [Go.Act.put]
theorem put_defers {dst : Option Nat} {u : Value} : (a.put dst u).defers = a.defers := by cases dst <;> rfl
theorem kM {env : Env} {dst : Option Nat} {v : AV} {t : Nat} : look (put env dst v) t = if dst = some t then v else look env t := by
 cases dst with
 | none => simp [put]
 | some d => by_cases h : d = t <;> simp [put,look,h]
theorem Env.Rel.put {env : Env} {w' : World} {S' : Nat → Prop} {μ' : Nat → Value} {v : AV} {u : Value} {dst : Option Nat} (hr : Ab.Rel N.fn w S μ H) (he : Env.Rel Γ N w S μ H (look env) a) (hs : Step N.fn w S μ H w' S' μ' H')
  (hv : RelV N.fn w' S' μ' H' v u) (hd : ∀ d,dst = some d → d < a.tmps.size) : Env.Rel Γ N w' S' μ' H' (look (Ab.put env dst v)) (a.put dst u) where
 env t := by
  rw [kM]
  split
  ·rename_i h; subst h; rw [jE (hd t rfl)]; exact hv
  ·rename_i h; rw [dN h]; exact (he.env t).step hr hs
 gl := GlRel.step hr hs he.gl
theorem sg (hcal : dq Γ N P cal) {nt : Nat} {Q : Exit → Act → World → Prop} : ∀ (sts : List St) (k : Nat) {env env' : Env} {w : World} {S : Nat → Prop} {μ : Nat → Value} {H H' : Heap} {a : Act},
  (∀ j s,sts[j]? = some s → ∃ o,ops[k + j]? = some o ∧ mq P N ops nt o s = true) → dp Γ cal sts env H = some (env',H') → Rel N.fn w S μ H → Env.Rel Γ N w S μ H (look env) a → nt ≤ a.tmps.size →
  (∀ a' w' S' μ',Step N.fn w S μ H w' S' μ' H' → Env.Rel Γ N w' S' μ' H' (look env') a' → a'.tmps.size = a.tmps.size → a'.defers = a.defers → Q .normal a' w') →
  Go.wpOps P ops Q (List.range' k sts.length) a w
 | [],k,env,env',w,S,μ,H,H',a,_,hv,hr,he,hn,hQ => by
  simp only [dp,Option.some.injEq,Prod.mk.injEq] at hv
  obtain ⟨rfl,rfl⟩ := hv
  exact hQ a w S μ (.refl hr) he rfl rfl
 | s :: sts,k,env,env',w,S,μ,H,H',a,hc,hv,hr,he,hn,hQ => by
  rw [px,Option.bind_eq_some_iff] at hv
  obtain ⟨⟨v,H1⟩,h1,h2⟩ := hv
  obtain ⟨o,ho,hso⟩ := hc 0 s rfl
  simp only [List.length_cons,List.range'_succ,Go.wpOps_cons]
  refine sj hcal ho hso he hr h1 fun u w1 S1 μ1 hs hu => ?_
  have hd : ∀ d,s.dst = some d → d < a.tmps.size := fun d hd => by
   simp only [mq,hd,Bool.and_eq_true,decide_eq_true_eq] at hso
   omega
  refine sg hcal sts (k + 1) (fun j s' hj => ?_) h2 hs.rel (he.put hr hs hu hd) (by rw [qP]; exact hn) fun a' w' S' μ' hs' he' hsz hdf => ?_
  ·obtain ⟨o',h3,h4⟩ := hc (j + 1) s' (by simpa using hj)
   exact ⟨o',by rw [← h3]; congr 1; omega,h4⟩
  ·exact hQ a' w' S' μ' (hs.trans hs') he' (by rw [hsz,qP]) (by rw [hdf,put_defers])
end
end Ab
namespace Ab
open Go (IntKind BinOp UnOp World Value Addr Obj undef maxLen Program TypeId Oper Op Operand Act Sem Next Result execOp Builtin Calls Ending Exit)
inductive Waits (ops : Array Oper) : Nat → Nat → Prop
 | one (j : Nat) (o : Oper) (e : Go.Edge) : ops[j]? = some o → e ∈ o.after → Go.Region.binds .any e = true → Waits ops j e.on
 | more (j : Nat) (o : Oper) (e : Go.Edge) (i : Nat) : ops[j]? = some o → e ∈ o.after → Go.Region.binds .any e = true → Waits ops e.on i → Waits ops j i
def ze (acc : List Nat) : List Go.Edge → Nat → Nat
 | [],m => m
 | e :: es,m => ze acc es (match Go.Region.binds .any e with | true => m ||| 2 ^ e.on ||| acc.getD e.on 0 | false => m)
def masks : List Oper → List Nat → List Nat
 | [],acc => acc
 | o :: os,acc => masks os (acc ++ [ze acc o.after.toList 0])
theorem nF {ops : Array Oper} {j : Nat} {o : Oper} {acc : List Nat} (ho : ops[j]? = some o) (hacc : ∀ (k m i : Nat),acc[k]? = some m → m.testBit i = true → Waits ops k i) :
  ∀ (es : List Go.Edge) (m : Nat),(∀ e ∈ es,e ∈ o.after) → (∀ i,m.testBit i = true → Waits ops j i) → ∀ i,(ze acc es m).testBit i = true → Waits ops j i
 | [],m,_,hm,i,h => hm i h
 | e :: es,m,he,hm,i,h => by
  refine nF ho hacc es _ (fun e' h' => he e' (by simp [h'])) (fun i hi => ?_) i h
  cases hb : Go.Region.binds .any e with
  | false => rw [hb] at hi; exact hm i hi
  | true =>
   rw [hb] at hi
   simp only [Nat.testBit_or,Bool.or_eq_true] at hi
   rcases hi with (hi | hi) | hi
   ·exact hm i hi
   ·rw [Nat.testBit_two_pow] at hi
    have : e.on = i := by simpa using hi
    subst this
    exact .one j o e ho (he e (by simp)) hb
   ·cases hg : acc[e.on]? with
    | none => simp [List.getD_eq_getElem?_getD,hg] at hi
    | some x =>
     simp only [List.getD_eq_getElem?_getD,hg,Option.getD_some] at hi
     exact .more j o e i ho (he e (by simp)) hb (hacc _ _ _ hg hi)
theorem pz {ops : Array Oper} : ∀ (os : List Oper) (acc : List Nat),(∀ j,os[j]? = ops[acc.length + j]?) → (∀ (k m i : Nat),acc[k]? = some m → m.testBit i = true → Waits ops k i) →
  ∀ (k m i : Nat),(masks os acc)[k]? = some m → m.testBit i = true → Waits ops k i
 | [],acc,_,hacc => hacc
 | o :: os,acc,hos,hacc => by
  have ho : ops[acc.length]? = some o := by simpa using (hos 0).symm
  refine pz os _ (fun j => ?_) (fun k m i hk hi => ?_)
  ·have := hos (j + 1)
   simp only [List.getElem?_cons_succ] at this
   rw [this]; congr 1; simp; omega
  ·by_cases hlt : k < acc.length
   ·rw [List.getElem?_append_left hlt] at hk; exact hacc k m i hk hi
   ·rw [List.getElem?_append_right (by omega)] at hk
    have hk0 : k - acc.length = 0 := by
     cases h : k - acc.length with
     | zero => rfl
     | succ n => rw [h] at hk; simp at hk
    rw [hk0] at hk
    simp only [List.getElem?_cons_zero,Option.some.injEq] at hk
    have : k = acc.length := by omega
    subst this
    subst hk
    exact nF ho hacc o.after.toList 0 (fun e he => by simpa using he) (by simp) i hi
def isX : QOp ⊕ XOp → Bool
 | .inl _ => false
 | .inr (.pureq _) => false
 | .inr _ => true
def jj : QOp ⊕ XOp → Bool
 | .inl (.mov _) | .inl (.pick _ _ _) | .inl (.bin _ _ _) | .inl (.eqs _ _ _ _) | .inl (.eqk _ _ _ _) | .inl (.un _ _) | .inl (.conv _ _) | .inl (.same _) | .inl (.idx _ _) | .inl (.aidx _ _ _ _ _)
 | .inl (.fld _ _ _ _) | .inl (.sliceS _ _ _) | .inl (.slice _ _ _ _) | .inl (.build _ _) | .inl (.bslice _ _ _ _ _) | .inl (.ext _ _) | .inl (.minmax _ _) | .inl (.clos _ _) | .inl (.appq _ _ _) | .inl (.mkt _ _ _ _ _) | .inr (.pureq _) => true
 | _ => false
def k9 : QOp ⊕ XOp → Bool
 | .inr (.alloc _) | .inr (.newrow _) | .inr (.brow _ _ _ _ _) | .inr .mkmap | .inr (.callwr _ _) => true
 | _ => false
def gx : QOp ⊕ XOp → Bool
 | .inl (.load _ _ (.v _)) | .inl (.len _ (.v _)) | .inl (.iaddr _ (.v _) _) | .inl (.nilchk (.v _)) | .inl (.faddr _ (.v _)) => true
 | _ => false
theorem vp {x : QOp ⊕ XOp} (h : gx x = true) : isX x = false := by
 unfold gx at h
 split at h <;> first | rfl | cases h
def fy : QOp ⊕ XOp → List Arg
 | .inr (.callk _ _ ks) | .inr (.callwk _ _ ks) | .inr (.storek _ _ _ ks) | .inr (.appk _ _ _ ks) | .inr (.bslk _ _ _ _ _ ks) => ks
 | _ => []
def ji : QOp ⊕ XOp → Option Nat
 | .inl (.loadk _ _ _ (.v t)) => some t
 | _ => none
def sc : QOp ⊕ XOp → List Arg
 | .inr (.callwk _ _ ks) => ks
 | _ => []
def lenOf : QOp ⊕ XOp → Option Nat
 | .inl (.lenk _ (.v t)) => some t
 | _ => none
def wx (t : Nat) : Arg → Bool
 | .v s => s == t
 | _ => false
def dW (x q : QOp ⊕ XOp) : Bool := (match ji q with | some t => (fy x).any (wx t) | none => false) || (match lenOf q with | some t => (sc x).any (wx t) | none => false)
def goesBy (x q : QOp ⊕ XOp) : Bool := (k9 x && !isX q) || dW x q
theorem nA {t : Nat} {a : Arg} (h : wx t a = true) : a = .v t := by
 cases a <;> simp [wx] at h
 rw [h]
theorem lC {x q : QOp ⊕ XOp} (h : dW x q = true) : isX q = false := by
 unfold dW at h
 rw [Bool.or_eq_true] at h
 rcases h with h | h
 ·unfold ji at h
  split at h
  ·rename_i e
   split at e
   ·rfl
   ·cases e
  ·cases h
 ·unfold lenOf at h
  split at h
  ·rename_i e
   split at e
   ·rfl
   ·cases e
  ·cases h
theorem vt {x q : QOp ⊕ XOp} (h : goesBy x q = true) : isX q = false := by
 unfold goesBy at h
 rw [Bool.or_eq_true] at h
 rcases h with h | h
 ·simp only [Bool.and_eq_true,Bool.not_eq_true'] at h; exact h.2
 ·exact lC h
def keepsOk (dsts : List (Option Nat)) (s : St) : Bool := (fy s.op).all fun a => match a with
 | .v t => !dsts.contains (some t)
 | _ => true
def St.names (s : St) : List Nat := s.dst.toList ++ s.reads
def Bc (M : List Nat) (dsts : List (Option Nat)) (i : Nat) (s : St) : Bool :=
 s.names.all fun t => (List.range dsts.length).all fun k => match dsts[k]? with
  | some (some d) => if d = t then (if k < i then (M.getD i 0).testBit k else if i < k then (M.getD k 0).testBit i else true) else true
  | _ => true
def su (M : List Nat) (L F : List Bool) (O : List (QOp ⊕ XOp)) : Nat → Bool → List St → Bool
 | _,_,[] => true
 | i,x,s :: r => match x || isX s.op with
  | true => (jj s.op || (gx s.op && (List.range i).all fun k => !isX (O.getD k (.inr .mkmap)) || k9 (O.getD k (.inr .mkmap)) || (M.getD i 0).testBit k) || (List.range i).all (fun k => F.getD k false || (L.getD i false && isX (O.getD k (.inr .mkmap))) || goesBy s.op (O.getD k (.inr .mkmap)) || dW (O.getD k (.inr .mkmap)) s.op || (!isX s.op && !isX (O.getD k (.inr .mkmap))) || (M.getD i 0).testBit k)) && su M L F O (i + 1) true r
  | false => su M L F O (i + 1) false r
def isBoxZ (s : St) : Bool := s.g.isNone && s.dst.isSome && match s.op with
 | .inr (.alloc _) => true
 | _ => false
def AZ (ops : List Oper) (M : List Nat) (O : List (QOp ⊕ XOp)) (i : Nat) (s : St) : Bool :=
 isBoxZ s && (match ops[i]? with | some o => o.after.toList.all (fun e => !Go.Region.binds .any e) | none => false) &&
 (List.range ops.length).all fun j => match ops[j]? with
  | some o => !(o.after.toList.any fun e => Go.Region.binds .any e && e.on == i) || (List.range j).all fun k => k == i || !isX (O.getD k (.inr .mkmap)) || (M.getD j 0).testBit k
  | none => true
def xA (ops : List Oper) (M : List Nat) (O : List (QOp ⊕ XOp)) : Nat → List St → List Bool
 | _,[] => []
 | i,s :: r => AZ ops M O i s :: xA ops M O (i + 1) r
theorem ra {ops : List Oper} {M : List Nat} {O : List (QOp ⊕ XOp)} : ∀ (l : List St) (i j : Nat),(xA ops M O i l).getD j false = true → ∃ s,l[j]? = some s ∧ AZ ops M O (i + j) s = true
 | [],_,_,h => by simp [xA] at h
 | s :: r,i,0,h => ⟨s,rfl,by simpa [xA] using h⟩
 | s :: r,i,j + 1,h => by
  obtain ⟨s',h1,h2⟩ := ra r (i + 1) j (by simpa [xA] using h)
  exact ⟨s',by simpa using h1,by rwa [show i + 1 + j = i + (j + 1) by omega] at h2⟩
def backOk : Nat → List Oper → Bool
 | _,[] => true
 | i,o :: r => o.after.toList.all (fun e => match Go.Region.binds .any e with | true => decide (e.on < i) | false => true) && backOk (i + 1) r
def mL (M : List Nat) (dsts : List (Option Nat)) : Nat → List St → Bool
 | _,[] => true
 | i,s :: r => Bc M dsts i s && mL M dsts (i + 1) r
def rD (ops : List Oper) (sts : List St) : Bool :=
 let M := masks ops []
 backOk 0 ops && su M (xA ops M (sts.map (·.op)) 0 sts) (sts.map fun s => jj s.op) (sts.map (·.op)) 0 false sts && mL M (sts.map (·.dst)) 0 sts && sts.all (keepsOk (sts.map (·.dst)))
theorem getD_bit {M : List Nat} {i k : Nat} (h : (M.getD i 0).testBit k = true) : ∃ m,M[i]? = some m ∧ m.testBit k = true := by
 cases hm : M[i]? with
 | none => simp [List.getD_eq_getElem?_getD,hm] at h
 | some m => simp only [List.getD_eq_getElem?_getD,hm,Option.getD_some] at h; exact ⟨m,rfl,h⟩
theorem nV : ∀ (l : List Oper) (i : Nat),backOk i l = true → ∀ (j : Nat) o,l[j]? = some o → ∀ e ∈ o.after,Go.Region.binds .any e = true → e.on < i + j
 | o :: l,i,h,j,o',hj,e,he,hb => by
  simp only [backOk,Bool.and_eq_true] at h
  cases j with
  | zero =>
   simp only [List.getElem?_cons_zero,Option.some.injEq] at hj; subst hj
   have := List.all_eq_true.1 h.1 e (by simpa using he)
   rw [hb] at this
   simpa using this
  | succ j => have := nV l (i + 1) h.2 j o' (by simpa using hj) e he hb; omega
 | [],_,_,_,_,hj,_,_,_ => by simp at hj
theorem jO {M : List Nat} {L F : List Bool} {O : List (QOp ⊕ XOp)} : ∀ (l : List St) (i : Nat) (x : Bool),su M L F O i x l = true → ∀ (j : Nat) (s : St),l[j]? = some s → jj s.op = false → (x = true ∨ ∃ k s,k ≤ j ∧ l[k]? = some s ∧ isX s.op = true) →
  (gx s.op = true ∧ ∀ k < i + j,(isX (O.getD k (.inr .mkmap)) = false ∨ k9 (O.getD k (.inr .mkmap)) = true) ∨ (M.getD (i + j) 0).testBit k = true) ∨ ∀ k < i + j,(((F.getD k false = true ∨ (L.getD (i + j) false = true ∧ isX (O.getD k (.inr .mkmap)) = true)) ∨ goesBy s.op (O.getD k (.inr .mkmap)) = true) ∨ dW (O.getD k (.inr .mkmap)) s.op = true ∨ (isX s.op = false ∧ isX (O.getD k (.inr .mkmap)) = false)) ∨ (M.getD (i + j) 0).testBit k = true
 | s :: l,i,x,h,j,s0,hj,hf,hx => by
  simp only [su] at h
  split at h
  ·rename_i hb
   simp only [Bool.and_eq_true,Bool.or_eq_true] at h
   cases j with
   | zero =>
    simp only [List.getElem?_cons_zero,Option.some.injEq] at hj; subst hj
    rcases h.1 with (h1 | h1) | h1
    ·rw [hf] at h1; cases h1
    ·refine .inl ⟨h1.1,fun k hk => ?_⟩
     have := List.all_eq_true.1 h1.2 k (by simpa using hk)
     simpa [Bool.or_eq_true,Bool.and_eq_true,or_assoc] using this
    ·refine .inr fun k hk => ?_
     have := List.all_eq_true.1 h1 k (by simpa using hk)
     simpa [Bool.or_eq_true,Bool.and_eq_true,or_assoc] using this
   | succ j =>
    have := jO l (i + 1) true h.2 j s0 (by simpa using hj) hf (.inl rfl)
    rwa [show i + 1 + j = i + (j + 1) by omega] at this
  ·rename_i hb
   simp only [Bool.or_eq_false_iff] at hb
   cases j with
   | zero =>
    rcases hx with hx | ⟨k',s',hk',hs',hx⟩
    ·rw [hb.1] at hx; cases hx
    ·have : k' = 0 := by omega
     subst this
     simp only [List.getElem?_cons_zero,Option.some.injEq] at hs'; subst hs'
     rw [hb.2] at hx; cases hx
   | succ j =>
    have := jO l (i + 1) false h j s0 (by simpa using hj) hf (by
     rcases hx with hx | ⟨k',s',hk',hs',hx⟩
     ·rw [hb.1] at hx; cases hx
     ·cases k' with
      | zero => simp only [List.getElem?_cons_zero,Option.some.injEq] at hs'; subst hs'; rw [hb.2] at hx; cases hx
      | succ k' => exact .inr ⟨k',s',by omega,by simpa using hs',hx⟩)
    rwa [show i + 1 + j = i + (j + 1) by omega] at this
 | [],_,_,_,j,_,hj,_,_ => by simp at hj
theorem kh {M : List Nat} {dsts : List (Option Nat)} : ∀ (l : List St) (i : Nat),mL M dsts i l = true → ∀ (j : Nat) s,l[j]? = some s → Bc M dsts (i + j) s = true
 | s :: l,i,h,j,s',hj => by
  simp only [mL,Bool.and_eq_true] at h
  cases j with
  | zero => simp only [List.getElem?_cons_zero,Option.some.injEq] at hj; subst hj; exact h.1
  | succ j =>
   have := kh l (i + 1) h.2 j s' (by simpa using hj)
   rwa [show i + 1 + j = i + (j + 1) by omega] at this
 | [],_,_,_,_,hj => by simp at hj
structure LateAt (ops : Array Oper) (sts : List St) (i : Nat) : Prop where
 op : ∃ d z,sts[i]? = some ⟨some d,none,.inr (.alloc z)⟩
 free : ∀ o,ops[i]? = some o → ∀ e ∈ o.after,Go.Region.binds .any e = true → False
 all : ∀ (j : Nat) o e,ops[j]? = some o → e ∈ o.after → Go.Region.binds .any e = true → e.on = i → ∀ (k : Nat) s,k < j → k ≠ i → sts[k]? = some s → isX s.op = true → Waits ops j k
structure Draw (ops : Array Oper) (sts : List St) : Prop where
 len : sts.length = ops.size
 back : ∀ (j : Nat) o,ops[j]? = some o → ∀ e ∈ o.after,Go.Region.binds .any e = true → e.on < j
 tail : ∀ (j : Nat) (s : St),sts[j]? = some s → jj s.op = false → (∃ (k : Nat) (s : St),k ≤ j ∧ sts[k]? = some s ∧ isX s.op = true) → (gx s.op = true ∧ ∀ (k : Nat) (s' : St),k < j → sts[k]? = some s' → isX s'.op = true → k9 s'.op = true ∨ Waits ops j k) ∨ ∀ (k : Nat) (s' : St),k < j → sts[k]? = some s' → jj s'.op = false → (goesBy s.op s'.op = true ∨ dW s'.op s.op = true ∨ (isX s.op = false ∧ isX s'.op = false)) ∨ (LateAt ops sts j ∧ isX s'.op = true) ∨ Waits ops j k
 keep : ∀ (i : Nat) s,sts[i]? = some s → ∀ t,.v t ∈ fy s.op → ∀ (k : Nat) s',sts[k]? = some s' → s'.dst ≠ some t
 names : ∀ (i : Nat) s,sts[i]? = some s → ∀ t ∈ s.names,∀ (k : Nat) s',sts[k]? = some s' → s'.dst = some t → (k < i → Waits ops i k) ∧ (i < k → Waits ops k i)
theorem nk {ops : Array Oper} {sts : List St} (hl : sts.length = ops.size) (h : rD ops.toList sts = true) : Draw ops sts := by
 simp only [rD,Bool.and_eq_true] at h
 obtain ⟨⟨⟨h1,h2⟩,h3⟩,h4⟩ := h
 have hm : ∀ i k,((masks ops.toList []).getD i 0).testBit k = true → Waits ops i k := fun i k hb => by
  obtain ⟨m,hm,hk⟩ := getD_bit hb
  exact pz ops.toList [] (by simp) (by simp) i m k hm hk
 refine ⟨hl,fun j o ho e he hb => ?_,fun j s hs hf hx => ?_,fun i s hs t ht k s' hs' hd => ?_,fun i s hs t ht k s' hs' hd => ?_⟩
 ·have := nV ops.toList 0 h1 j o (by simpa using ho) e he hb; omega
 ·have htl := jO sts 0 false h2 j s hs hf (.inr hx)
  rw [Nat.zero_add] at htl
  refine htl.imp (fun hd => ⟨hd.1,fun k s' hk hs' hx' => ?_⟩) fun hall k s' hk hs' hf' => ?_
  ·rcases hd.2 k hk with (h | h) | h
   ·simp [List.getD_eq_getElem?_getD,hs',hx'] at h
   ·exact .inl (by simpa [List.getD_eq_getElem?_getD,hs'] using h)
   ·exact .inr (hm _ _ h)
  have := hall k hk
  rcases this with (((h | h) | h) | h | h) | h
  ·simp [List.getD_eq_getElem?_getD,hs',hf'] at h
  ·refine .inr (.inl ⟨?_,by simpa [List.getD_eq_getElem?_getD,hs'] using h.2⟩)
   obtain ⟨s2,e2,hl⟩ := ra sts 0 j (by simpa using h.1)
   rw [hs] at e2
   simp only [Option.some.injEq] at e2
   subst e2
   rw [Nat.zero_add] at hl
   simp only [AZ,Bool.and_eq_true] at hl
   obtain ⟨⟨l1,l2⟩,l3⟩ := hl
   refine ⟨?_,fun o ho e he hb => ?_,fun q o e ho he hb heq k2 s2 hk2 hne hs2 hx2 => ?_⟩
   ·obtain ⟨d,g,op⟩ := s
    simp only [isBoxZ,Bool.and_eq_true] at l1
    obtain ⟨⟨g1,d1⟩,o1⟩ := l1
    cases d with
    | none => cases d1
    | some d =>
     cases g with
     | some _ => cases g1
     | none =>
      split at o1
      ·rename_i z; subst_vars; exact ⟨d,z,hs⟩
      ·cases o1
   ·rw [Array.getElem?_toList,ho] at l2
    have := List.all_eq_true.1 l2 e (by simpa using he)
    rw [hb] at this; cases this
   ·have h5 := List.all_eq_true.1 l3 q (by simpa using (Array.getElem?_eq_some_iff.1 ho).1)
    rw [Array.getElem?_toList,ho] at h5
    simp only [Bool.or_eq_true,Bool.not_eq_true'] at h5
    rcases h5 with h5 | h5
    ·have : (o.after.toList.any fun e => Go.Region.binds .any e && e.on == j) = true := List.any_eq_true.2 ⟨e,by simpa using he,by simp [hb,heq]⟩
     rw [this] at h5; cases h5
    ·have h6 := List.all_eq_true.1 h5 k2 (by simpa using hk2)
     simp only [Bool.or_eq_true,beq_iff_eq,Bool.not_eq_true',List.getD_eq_getElem?_getD,List.getElem?_map,hs2,Option.map_some,Option.getD_some,hx2,Bool.true_eq_false,or_false] at h6
     rcases h6 with h6 | h6
     ·exact absurd h6 hne
     ·exact hm _ _ (by simpa [List.getD_eq_getElem?_getD] using h6)
  ·exact .inl (.inl (by simpa [List.getD_eq_getElem?_getD,hs'] using h))
  ·exact .inl (.inr (.inl (by simpa [List.getD_eq_getElem?_getD,hs'] using h)))
  ·exact .inl (.inr (.inr (by simpa [List.getD_eq_getElem?_getD,hs'] using h)))
  ·exact .inr (.inr (hm _ _ h))
 ·have := List.all_eq_true.1 h4 s (List.mem_of_getElem? hs)
  have := List.all_eq_true.1 this _ ht
  simp only [Bool.not_eq_true',List.contains_eq_mem,decide_eq_false_iff_not] at this
  exact this (List.mem_map.2 ⟨s',List.mem_of_getElem? hs',hd⟩)
 ·have := kh sts 0 h3 i s hs
  rw [Nat.zero_add] at this
  have := List.all_eq_true.1 this t ht
  have := List.all_eq_true.1 this k (by simpa using (List.getElem?_eq_some_iff.1 hs').1)
  simp only [List.getElem?_map,hs',Option.map_some,hd,if_true] at this
  refine ⟨fun hki => hm _ _ ?_,fun hik => hm _ _ ?_⟩
  ·rw [if_pos hki] at this; exact this
  ·rw [if_neg (by omega),if_pos hik] at this; exact this
end Ab
namespace Ab
open Go (IntKind BinOp UnOp World Value Addr Obj undef maxLen Program TypeId Oper Op Operand Act Sem Next Result execOp Builtin Calls Ending Exit)
section
variable {ν : Nat → Nat} {w0 w w' : World} {S0 S S' : Nat → Prop} {μ0 μ μ' : Nat → Value} {H0 H H' : Heap} {b g : Nat}
def Un (w : World) (S : Nat → Prop) (μ : Nat → Value) (H : Heap) (b : Nat) : Prop := b < w.heap.size ∧ ¬ S b ∧ ¬ alive μ H b
theorem Un.run (h : Un w S μ H b) (hr : Run ν w S μ H w' S' μ' H') : Un w' S' μ' H' b ∧ w'.heap[b]? = w.heap[b]? :=
 ⟨⟨Nat.lt_of_lt_of_le h.1 hr.ext.size,fun hs => (hr.ext.new b hs h.1).elim h.2.1 h.2.2,fun ha => h.2.2 (hr.ext.own b ha h.1)⟩,hr.ext.keep b h.1 h.2.2⟩
theorem Un.fresh (hr : Rel ν w S μ H) (o : Obj) : Un (w.alloc o) S μ H w.heap.size := by
 refine ⟨by simp,fun h => Nat.lt_irrefl _ (hr.lt _ h),fun h => ?_⟩
 obtain ⟨id,b,h1,_,h3⟩ := alive_iff.1 h
 exact Nat.lt_irrefl _ (hr.blk_lt h1 h3)
theorem Un.size (h : Un w S μ H b) (hs : w.heap.size ≤ w'.heap.size) : Un w' S μ H b := ⟨Nat.lt_of_lt_of_le h.1 hs,h.2⟩
theorem CellsRel.keep {cs : List AV} {us : Array Value} (h : CellsRel ν w S μ H cs us) (hS : ∀ g,S g → S' g) (hw : ∀ g,S g → w'.heap[g]? = w.heap[g]?) (hm : Moves μ H μ' H') : CellsRel ν w' S' μ' H' cs us :=
 ⟨h.size,h.one,fun j c hc => (h.rel j c hc).keep hS hw hm⟩
theorem Step.bind (hst : Step ν w0 S0 μ0 H0 w S μ H) (hg : w0.heap.size ≤ g) (hU : Un w S μ H g) {cs : List AV} {us : Array Value} {T : TypeId} (hb : w.heap[g]? = some (.cells us T)) (hc : CellsRel ν w S μ H cs us) :
  ∃ μ',Step ν w0 S0 μ0 H0 w S μ' (H ++ [.box cs]) ∧ Moves μ H μ' (H ++ [.box cs]) ∧ (∀ b,Un w S μ H b → b ≠ g → Un w S μ' (H ++ [.box cs]) b) ∧ RelV ν w S μ' (H ++ [.box cs]) (.bx H.length 0) (.pointer (some ⟨g,0,none⟩)) := by
 have hr := hst.rel
 have old : ∀ (id : Nat) c,(H ++ [.box cs])[id]? = some c → (id < H.length ∧ H[id]? = some c) ∨ (id = H.length ∧ c = .box cs) := by
  intro id c h
  rcases Nat.lt_trichotomy id H.length with hl | hl | hl
  ·rw [getElem?_push_lt hl] at h; exact .inl ⟨hl,h⟩
  ·subst hl; rw [List.getElem?_append_right (Nat.le_refl _)] at h; simp at h; exact .inr ⟨rfl,h.symm⟩
  ·rw [List.getElem?_append_right (by omega)] at h
   have := (List.getElem?_eq_some_iff.1 h).1
   simp at this; omega
 have al : ∀ x,alive (upd μ H.length (.pointer (some ⟨g,0,none⟩))) (H ++ [.box cs]) x → alive μ H x ∨ x = g := by
  intro x ha
  obtain ⟨id,c,h1,h2,h3⟩ := alive_iff.1 ha
  rcases old id c h1 with ⟨hl,h⟩ | ⟨rfl,rfl⟩
  ·rw [upd_ne (by omega)] at h3; exact .inl (alive_iff.2 ⟨id,c,h,h2,h3⟩)
  ·rw [upd_same] at h3
   simp only [au,Option.some.injEq] at h3
   exact .inr h3.symm
 refine ⟨upd μ H.length (.pointer (some ⟨g,0,none⟩)),⟨⟨hr.lt,fun id c h => ?_,fun x ha hs => ?_,fun i j x hi hj ai aj => ?_⟩,⟨hst.ext.os,hst.ext.tape,hst.ext.output,hst.ext.size,hst.ext.keep,hst.ext.more,hst.ext.new,fun x ha hl => ?_⟩,hst.moves.trans db⟩,db,fun x hx hne => ⟨hx.1,hx.2.1,fun ha => ?_⟩,?_⟩
 ·rcases old id c h with ⟨hl,h⟩ | ⟨rfl,rfl⟩
  ·exact (hr.blk id c h).keep (fun _ h => h) (fun _ _ => rfl) db (upd_ne (by omega)) (fun _ _ => rfl)
  ·exact ⟨g,upd_same,.inl ⟨us,T,hb,hc.size,hc.one,fun j c hj => (hc.rel j c hj).keep (fun _ h => h) (fun _ _ => rfl) db⟩⟩
 ·rcases al x ha with h | rfl
  ·exact hr.apart x h hs
  ·exact hU.2.1 hs
 ·have get : ∀ k : Nat,((∃ ds,(H ++ [Blk.box cs])[k]? = some (Blk.box ds)) ∨ ∃ sz xs,(H ++ [Blk.box cs])[k]? = some (Blk.row false sz xs)) → ∃ c,(H ++ [Blk.box cs])[k]? = some c ∧ bj c := by
   rintro k (⟨cs,h⟩ | ⟨sz,xs,h⟩)
   ·exact ⟨_,h,.inl ⟨cs,rfl⟩⟩
   ·exact ⟨_,h,.inr ⟨sz,xs,rfl⟩⟩
  obtain ⟨c,hc',ac⟩ := get i ai
  obtain ⟨d,hd,ad⟩ := get j aj
  rcases old i c hc' with ⟨hl,h⟩ | ⟨rfl,rfl⟩ <;> rcases old j d hd with ⟨hl2,h2⟩ | ⟨rfl,rfl⟩
  ·rw [upd_ne (by omega)] at hi hj; exact hr.inj' h h2 ac ad hi hj
  ·rw [upd_ne (by omega)] at hi; rw [upd_same] at hj
   simp only [au,Option.some.injEq] at hj
   subst hj
   exact absurd (alive_iff.2 ⟨i,c,h,ac,hi⟩) hU.2.2
  ·rw [upd_ne (by omega)] at hj; rw [upd_same] at hi
   simp only [au,Option.some.injEq] at hi
   subst hi
   exact absurd (alive_iff.2 ⟨j,d,h2,ad,hj⟩) hU.2.2
  ·rfl
 ·rcases al x ha with h | rfl
  ·exact hst.ext.own x h hl
  ·omega
 ·rcases al x ha with h | h
  ·exact hx.2.2 h
  ·exact hne h
 ·exact .bx _ _ g _ (by simp) (fun _ _ => upd_same) rfl
end
theorem AG {Γ : Ctx} {N : Names} {P : Program} {w : World} {S : Nat → Prop} {μ : Nat → Value} {H : Heap} {σ : Nat → AV} {a : Act} {ops : Array Oper} {nt i d : Nat} {o : Oper} {z : List PV} (hi : ops[i]? = some o)
  (hc : mq P N ops nt o ⟨some d,none,.inr (.alloc z)⟩ = true) (he : Env.Rel Γ N w S μ H σ a) {K : Act → World → Prop} {Q : Exit → Act → World → Prop}
  (hK : ∀ (us : Array Value) (T : TypeId),CellsRel N.fn w S μ H (z.map .p) us → K (a.put (some d) (.pointer (some ⟨w.heap.size,0,none⟩))) (w.alloc (.cells us T))) : Go.wpOp P ops Q i K a w := by
 simp only [mq,Bool.and_eq_true,beq_iff_eq] at hc
 obtain ⟨⟨⟨hd,_⟩,hg⟩,hop⟩ := hc
 unfold Go.wpOp
 simp only [hi]
 rw [← hd] at hK
 simp only [jJ he hg (b := true) rfl,if_true]
 refine .inl ?_
 simp only [chkOp,chkX] at hop
 split at hop
 ·rename_i T hy
  obtain ⟨zv,z1,z2⟩ := lD (N := N) (w := w) (S := S) (μ := μ) (H := H) hop
  have h1 : (execOp a.eval o).run P w = .ok (.value (.pointer (some ⟨w.heap.size,0,none⟩))) (w.alloc (.cells zv.cells T)) := by
   simp [execOp,hy,Go.Instr.alloc,z1,Go.newVar,Go.newRow]
  simp only [Go.Oper.wp,h1,Go.Oper.upon]
  exact hK _ _ z2
 ·cases hop
end Ab
