import Derived.Test.YtlgclfmmnifgoaaGreatDoorAbDrawn
namespace Ab
open Go (IntKind BinOp UnOp World Value Addr Obj undef maxLen Program TypeId Oper Op Operand Act Sem Next Result execOp Builtin Calls Ending Exit)
section
variable {ν : Nat → Nat} {w0 w w' : World} {S0 S S' : Nat → Prop} {μ0 μ μ' : Nat → Value} {H0 H H' : Heap} {b : Nat}
theorem Rel.blk_or (hr : Rel ν w S μ H) {id g : Nat} {c : Blk} (h : H[id]? = some c) (hg : au (μ id) = some g) : S g ∨ alive μ H g := by
 by_cases ha : bj c
 ·exact .inr (alive_iff.2 ⟨id,c,h,ha,hg⟩)
 ·refine .inl ?_
  have hb := hr.blk id _ h
  cases c with
  | box cs => exact absurd (.inl ⟨cs,rfl⟩) ha
  | dead => exact hb g hg
  | row f sz xs =>
   cases f with
   | false => exact absurd (.inr ⟨sz,xs,rfl⟩) ha
   | true => obtain ⟨_,_,us,_,_,_,h5⟩ := hb; exact h5 rfl g hg
theorem Rel.turn (hr : Rel ν w S μ H) (hsz : w.heap.size ≤ w'.heap.size) (hk : ∀ g,S g ∨ alive μ H g → w'.heap[g]? = w.heap[g]?) : Rel ν w' S μ H where
 lt g h := Nat.lt_of_lt_of_le (hr.lt g h) hsz
 blk id c h := (hr.blk id c h).keep (fun _ h => h) (fun g h => hk g (.inl h)) .refl rfl (fun g hg => hk g (hr.blk_or h hg))
 apart := hr.apart
 inj := hr.inj
theorem Run.turn (h : Run ν w0 S0 μ0 H0 w S μ H) (hsz : w.heap.size ≤ w'.heap.size) (hk : ∀ g,g < w0.heap.size ∨ S g ∨ alive μ H g → w'.heap[g]? = w.heap[g]?) (h1 : w'.os = w.os) (h2 : w'.tape = w.tape) (h3 : w'.output = w.output) : Run ν w0 S0 μ0 H0 w' S μ H where
 rel := h.rel.turn hsz fun g hg => hk g (.inr hg)
 ext := { os := h1.trans h.ext.os,tape := h2.trans h.ext.tape,output := h3.trans h.ext.output,size := Nat.le_trans h.ext.size hsz,keep := fun g hg hn => (hk g (.inl hg)).trans (h.ext.keep g hg hn),more := h.ext.more,new := h.ext.new,own := h.ext.own }
theorem RelV.turn {v : AV} {u : Value} (h : RelV ν w S μ H v u) (hk : ∀ g,S g ∨ alive μ H g → w'.heap[g]? = w.heap[g]?) : RelV ν w' S μ H v u := h.keep (fun _ h => h) (fun g hg => hk g (.inl hg)) .refl
theorem GlRel.turn {Γ : Ctx} {N : Names} (h : GlRel Γ N w S) (hk : ∀ g,S g ∨ alive μ H g → w'.heap[g]? = w.heap[g]?) : GlRel Γ N w' S := by
 refine ⟨fun n cs hn => (h.rel n cs hn).keep (fun _ h => h) (fun g hg => hk g (.inl hg)),fun n cs hn => ?_,fun n hn => ?_⟩
 ·obtain ⟨us,e,fr,h1,h2⟩ := h.whole n cs hn
  have hS : S (N.gl n) := by
   have := h.rel n cs hn
   cases this with
   | ptr _ _ _ _ hs => exact hs
  exact ⟨us,e,fr,by rw [hk _ (.inl hS)]; exact h1,h2⟩
 ·obtain ⟨hs,m,hm⟩ := h.ints n hn
  exact ⟨hs,m,(cC (hk _ (.inl hs))).trans hm⟩
theorem GlRel.run {Γ : Ctx} {N : Names} (h : GlRel Γ N w S) (hr : Rel N.fn w S μ H) (hs : Run N.fn w S μ H w' S' μ' H') : GlRel Γ N w' S' := by
 have keep : ∀ g,S g → w'.heap[g]? = w.heap[g]? := fun g hg => hs.ext.keep g (hr.lt g hg) fun ha => hr.apart g ha hg
 refine ⟨fun n cs hn => (h.rel n cs hn).keep hs.ext.more keep,fun n cs hn => ?_,fun n hn => ?_⟩
 ·obtain ⟨us,e,fr,h1,h2⟩ := h.whole n cs hn
  have hS : S (N.gl n) := by
   have := h.rel n cs hn
   cases this with
   | ptr _ _ _ _ hs => exact hs
  exact ⟨us,e,fr,by rw [keep _ hS]; exact h1,h2⟩
 ·obtain ⟨hS,m,hm⟩ := h.ints n hn
  exact ⟨hs.ext.more _ hS,m,(cC (keep _ hS)).trans hm⟩
structure Far (Γ : Ctx) (N : Names) (w0 : World) (S0 : Nat → Prop) (μ0 : Nat → Value) (H0 : Heap) (bs : List Nat) (id g : Nat) (w : World) (S : Nat → Prop) (μ : Nat → Value) (H : Heap) : Prop where
 run : Run N.fn w0 S0 μ0 H0 w S μ H
 mv : Moves μ0 H0 μ H
 gl : GlRel Γ N w S
 bx : RelV N.fn w S μ H (.bx id 0) (.pointer (some ⟨g,0,none⟩))
 un : ∀ b ∈ bs,w0.heap.size ≤ b ∧ Un w S μ H b
variable {Γ : Ctx} {N : Names} {bs : List Nat} {id g : Nat}
theorem Far.turn (h : Far Γ N w0 S0 μ0 H0 bs id g w S μ H) (hsz : w.heap.size ≤ w'.heap.size) (hk : ∀ x,x ∉ bs → x < w.heap.size → w'.heap[x]? = w.heap[x]?) (h1 : w'.os = w.os) (h2 : w'.tape = w.tape) (h3 : w'.output = w.output) : Far Γ N w0 S0 μ0 H0 bs id g w' S μ H := by
 have hk' : ∀ x,S x ∨ alive μ H x → w'.heap[x]? = w.heap[x]? := fun x hx => hk x (fun hm => by
  obtain ⟨_,_,q1,q2⟩ := h.un x hm
  exact hx.elim q1 q2) (by
   rcases hx with hx | hx
   ·exact h.run.rel.lt x hx
   ·obtain ⟨i,c,k1,_,k3⟩ := alive_iff.1 hx
    exact h.run.rel.blk_lt k1 k3)
 refine ⟨h.run.turn hsz (fun x hx => ?_) h1 h2 h3,h.mv,h.gl.turn hk',h.bx.turn hk',fun b hb => ⟨(h.un b hb).1,(h.un b hb).2.size hsz⟩⟩
 rcases hx with hx | hx
 ·refine hk x (fun hm => ?_) (Nat.lt_of_lt_of_le hx h.run.ext.size)
  have := (h.un x hm).1
  omega
 ·exact hk' x hx
theorem Far.call (h : Far Γ N w0 S0 μ0 H0 bs id g w S μ H) (hr : Run N.fn w S μ H w' S' μ' H') (hm : Moves μ H μ' H') : Far Γ N w0 S0 μ0 H0 bs id g w' S' μ' H' ∧ ∀ b ∈ bs,w'.heap[b]? = w.heap[b]? := by
 have keep : ∀ g,S g → w'.heap[g]? = w.heap[g]? := fun g hg => hr.ext.keep g (h.run.rel.lt g hg) fun ha => h.run.rel.apart g ha hg
 exact ⟨⟨h.run.trans hr,h.mv.trans hm,h.gl.run h.run.rel hr,h.bx.keep hr.ext.more keep hm,fun b hb => ⟨(h.un b hb).1,((h.un b hb).2.run hr).1⟩⟩,fun b hb => ((h.un b hb).2.run hr).2⟩
theorem Far.more (h : Far Γ N w0 S0 μ0 H0 bs id g w S μ H) (o : Obj) : Far Γ N w0 S0 μ0 H0 (w.heap.size :: bs) id g (w.alloc o) S μ H := by
 have hk : ∀ x,x < w.heap.size → (w.alloc o).heap[x]? = w.heap[x]? := fun x hx => (Grows.alloc w o).keep x hx
 have hlt : ∀ x,S x ∨ alive μ H x → x < w.heap.size := fun x hx => by
  rcases hx with hx | hx
  ·exact h.run.rel.lt x hx
  ·obtain ⟨i,c,k1,_,k3⟩ := alive_iff.1 hx
   exact h.run.rel.blk_lt k1 k3
 refine ⟨h.run.turn (Grows.alloc w o).size (fun x hx => hk x ?_) rfl rfl rfl,h.mv,h.gl.turn fun x hx => hk x (hlt x hx),h.bx.turn fun x hx => hk x (hlt x hx),fun b hb => ?_⟩
 ·rcases hx with hx | hx
  ·exact Nat.lt_of_lt_of_le hx h.run.ext.size
  ·exact hlt x hx
 ·rcases List.mem_cons.1 hb with rfl | hb
  ·exact ⟨h.run.ext.size,.fresh h.run.rel o⟩
  ·exact ⟨(h.un b hb).1,(h.un b hb).2.size (Grows.alloc w o).size⟩
end
theorem one_box {ν : Nat → Nat} {w : World} {B : Nat} {u : Value} {t : TypeId} {v : PV} (hb : w.heap[B]? = some (.cells #[u] t (0,0))) (h1 : v.one = true) (hv : RelP ν w (fun _ => False) v u) : Rel ν w (fun _ => False) (fun _ => .pointer (some ⟨B,0,none⟩)) [.box [.p v]] where
 lt _ h := h.elim
 blk id b h := by
  cases id with
  | succ n => simp at h
  | zero =>
   simp only [List.getElem?_cons_zero,Option.some.injEq] at h
   subst h
   refine ⟨B,rfl,.inl ⟨_,t,hb,rfl,fun c hc => ?_,fun j c hc => ?_⟩⟩
   ·simp only [List.mem_singleton] at hc; subst hc; exact h1
   ·cases j with
    | zero => simp only [List.getElem?_cons_zero,Option.some.injEq] at hc; subst hc; exact .p _ _ hv
    | succ j => simp at hc
 apart _ _ h := h
 inj i j g _ _ hi hj := by
  have one : ∀ k : Nat,((∃ cs,[Blk.box [.p v]][k]? = some (.box cs)) ∨ ∃ sz xs,[Blk.box [.p v]][k]? = some (.row false sz xs)) → k = 0 := by
   rintro k (⟨cs,h⟩ | ⟨_,_,h⟩) <;> cases k <;> simp_all
  rw [one i hi,one j hj]
theorem th {ν : Nat → Nat} {w : World} {S : Nat → Prop} {μ : Nat → Value} {v : PV} (hr : Rel ν w S μ [.box [.p v]]) : ∃ B arr t,μ 0 = .pointer (some ⟨B,0,none⟩) ∧ w.heap[B]? = some (.cells arr t (0,0)) ∧ arr.size = 1 ∧ RelV ν w S μ [.box [.p v]] (.p v) (arr.getD 0 undef) := by
 obtain ⟨g,h1,⟨cs,t,h2,h3,h4,h5⟩ | ⟨s,pos,h2,_⟩ | ⟨es,arr,clock,h2,_⟩⟩ := hr.blk 0 _ rfl
 ·exact ⟨g,cs,t,h1,h2,by simpa using h3,h5 0 _ rfl⟩
 ·simp [cv] at h2
 ·simp [ah] at h2
def nU (r : List UInt8) (i : Int) : List UInt8 := if 0 ≤ i then r.take (i.toNat + 1) else r
def jk (r : List UInt8) (i : Int) : List UInt8 := if 0 ≤ i then r.drop (i.toNat + 1) else []
def pΓ : Ctx := ⟨fun _ => none,fun _ => none,[]⟩
def pN : Names := ⟨fun _ => 0,fun _ => 0⟩
def pCal : Nat → List AV → Heap → Option (List AV × Heap) := fun _ _ _ => none
theorem pCal_ok {P : Program} : dq pΓ pN P pCal := fun _ _ _ _ _ h => by cases h
def cutL : List St := [⟨some 12,none,.inl (.load 1 false (.v 1))⟩,⟨some 13,none,.inl (.mov (.v 4))⟩,⟨some 14,none,.inl (.bin .add (.v 13) (.c (.int .i64 1)))⟩,⟨some 15,none,.inl (.sliceS (.v 12) none (some (.v 14)))⟩,
 ⟨some 16,none,.inl (.load 1 false (.v 1))⟩,⟨some 17,none,.inl (.mov (.v 4))⟩,⟨some 18,none,.inl (.bin .add (.v 17) (.c (.int .i64 1)))⟩,⟨some 19,none,.inl (.sliceS (.v 16) (some (.v 18)) none)⟩,
 ⟨some 3,none,.inl (.mov (.v 15))⟩,⟨none,none,.inr (.store 1 (.v 1) (.v 19))⟩]
section
variable {Γ : Ctx} {cal : Nat → List AV → Heap → Option (List AV × Heap)} {dst : Option Nat} {r : List St} {env : Env} {H : Heap}
theorem qt {q : QOp} {v : AV} (h : evQ Γ cal (look env) H q = some v) : dp Γ cal (⟨dst,none,.inl q⟩ :: r) env H = dp Γ cal r (put env dst v) H := by simp [dp,wanted,h]
theorem sts_x {q : XOp} {v : AV} {H' : Heap} (h : evX Γ cal (look env) H q = some (v,H')) : dp Γ cal (⟨dst,none,.inr q⟩ :: r) env H = dp Γ cal r (put env dst v) H' := by simp [dp,wanted,h]
end
theorem cut_run (r : List UInt8) (i : Int) (h0 : 0 ≤ i) (hi : i < r.length) (hr : r.length ≤ 1000000000) :
  ∃ env,dp pΓ pCal cutL [(1,.bx 0 0),(4,.p (.int .i64 i))] [.box [.p (.str r)]] = some (env,[.box [.p (.str (r.drop (i.toNat + 1)))]]) ∧ look env 3 = .p (.str (r.take (i.toNat + 1))) := by
 have hw : IntKind.i64.wrap (i + 1) = i + 1 := wrap_i64 (by omega) (by omega)
 have hb1 : (bound r.length r.length (some (.p (.int .i64 (i + 1))))) = some (i.toNat + 1) := by
  simp only [bound]
  rw [if_pos ⟨by omega,by omega⟩]
  congr 1
  omega
 have hb2 : (bound r.length 0 (some (.p (.int .i64 (i + 1))))) = some (i.toNat + 1) := by
  simp only [bound]
  rw [if_pos ⟨by omega,by omega⟩]
  congr 1
  omega
 have s1 : dv (.p (.str r)) none (some (.p (.int .i64 (i + 1)))) = some (.p (.str (r.take (i.toNat + 1)))) := by
  have e : bound (i.toNat + 1) 0 none = some 0 := rfl
  simp only [dv,hb1,Option.bind_some,e,Option.map_some,List.drop_zero]
 have s2 : dv (.p (.str r)) (some (.p (.int .i64 (i + 1)))) none = some (.p (.str (r.drop (i.toNat + 1)))) := by
  have e : bound r.length r.length none = some r.length := rfl
  simp only [dv,e,Option.bind_some,hb2,Option.map_some,List.take_length]
 have ad : cR .add (.p (.int .i64 i)) (.p (.int .i64 1)) = some (.p (.int .i64 (i + 1))) := by
  show some (AV.p (.int .i64 (IntKind.i64.wrap (i + 1)))) = _
  rw [hw]
 have run : dp pΓ pCal cutL [(1,.bx 0 0),(4,.p (.int .i64 i))] [.box [.p (.str r)]] = some ((3,.p (.str (r.take (i.toNat + 1)))) :: (19,.p (.str (r.drop (i.toNat + 1)))) :: (18,.p (.int .i64 (i + 1))) :: (17,.p (.int .i64 i)) :: (16,.p (.str r)) ::
   (15,.p (.str (r.take (i.toNat + 1)))) :: (14,.p (.int .i64 (i + 1))) :: (13,.p (.int .i64 i)) :: (12,.p (.str r)) :: [(1,.bx 0 0),(4,.p (.int .i64 i))],[.box [.p (.str (r.drop (i.toNat + 1)))]]) := by
  refine (qt (v := .p (.str r)) rfl).trans ?_
  refine (qt (v := .p (.int .i64 i)) rfl).trans ?_
  refine (qt (v := .p (.int .i64 (i + 1))) (by exact ad)).trans ?_
  refine (qt (v := .p (.str (r.take (i.toNat + 1)))) (by exact s1)).trans ?_
  refine (qt (v := .p (.str r)) rfl).trans ?_
  refine (qt (v := .p (.int .i64 i)) rfl).trans ?_
  refine (qt (v := .p (.int .i64 (i + 1))) (by exact ad)).trans ?_
  refine (qt (v := .p (.str (r.drop (i.toNat + 1)))) (by exact s2)).trans ?_
  refine (qt (v := .p (.str (r.take (i.toNat + 1)))) rfl).trans ?_
  refine (sts_x (v := .nov) (H' := [.box [.p (.str (r.drop (i.toNat + 1)))]]) rfl).trans ?_
  rfl
 exact ⟨_,run,rfl⟩
theorem list25 {l : List Value} (h : l.length = 25) : ∃ a0 a1 a2 a3 a4 a5 a6 a7 a8 a9 a10 a11 a12 a13 a14 a15 a16 a17 a18 a19 a20 a21 a22 a23 a24,l = [a0,a1,a2,a3,a4,a5,a6,a7,a8,a9,a10,a11,a12,a13,a14,a15,a16,a17,a18,a19,a20,a21,a22,a23,a24] := by
 match l,h with
 | [a0,a1,a2,a3,a4,a5,a6,a7,a8,a9,a10,a11,a12,a13,a14,a15,a16,a17,a18,a19,a20,a21,a22,a23,a24],_ => exact ⟨_,_,_,_,_,_,_,_,_,_,_,_,_,_,_,_,_,_,_,_,_,_,_,_,_,rfl⟩
def tY (w : World) (B : Nat) : Nat := match w.cell? ⟨B,0,none⟩ with
 | some (.string b) => b.size
 | _ => 0
theorem iO {w : World} {B : Nat} {r : List UInt8} {t : TypeId} (h : w.heap[B]? = some (.cells #[.string ⟨r.toArray⟩] t (0,0))) : tY w B = r.length := by
 have hc : w.cell? ⟨B,0,none⟩ = some (.string ⟨r.toArray⟩) := by simp [World.cell?,h]
 simp [tY,hc,ByteArray.size]
theorem qd {r : List UInt8} {i : Int} (h : r ≠ []) : (jk r i).length < r.length := by
 have := List.length_pos_iff.2 h
 unfold jk
 split
 ·simp; omega
 ·simpa using this
theorem wW {P : Program} {f : Nat} {us : Array Value} {w : World} {R : Value → World → Prop} (he : Enters P f) (h : Does P f us w R) : Calls P f us w fun e w' => ∃ v,e = .returned v ∧ R v w' := by
 rcases h with ⟨_,h⟩ | ⟨v,w',h,_⟩
 ·exact h
 ·rw [he us w] at h; cases h
theorem qu {Γ : Ctx} {N : Names} {P : Program} {cal : jS} (hcal : dq Γ N P cal) {w0 w : World} {S0 S : Nat → Prop} {μ0 μ : Nat → Value} {H0 H H1 : Heap} {bs : List Nat} {id g : Nat} (h : Far Γ N w0 S0 μ0 H0 bs id g w S μ H) {f : Nat} (he : Enters P (N.fn f)) (hst : an Γ f = true)
  {args rs : List AV} {us : List Value} (hc : cal f args H = some (rs,H1)) (ha : All2 (fun u x => RelV N.fn w S μ H x u) us args) :
  Calls P (N.fn f) us.toArray w fun e w' => ∃ vs S' μ',e = .returned (dw vs) ∧ All2 (fun u x => RelV N.fn w' S' μ' H1 x u) vs rs ∧ Far Γ N w0 S0 μ0 H0 bs id g w' S' μ' H1 ∧ ∀ b ∈ bs,w'.heap[b]? = w.heap[b]? := by
 refine (wW he (hcal f args H rs H1 hc w S μ us h.run.rel h.gl ha)).mono ?_
 rintro e w' ⟨v,rfl,vs,S',μ',rfl,hr,hm,hv⟩
 obtain ⟨q1,q2⟩ := h.call hr (hm (v8 hst))
 exact ⟨vs,S',μ',rfl,hv,q1,q2⟩
theorem bK {w : World} {o : Obj} {k : Nat} (h : k < w.heap.size) : (w.alloc o).heap[k]? = w.heap[k]? := (Grows.alloc w o).keep k h
theorem alloc_at {w : World} {o : Obj} {k : Nat} (h : k = w.heap.size) : (w.alloc o).heap[k]? = some o := by subst h; exact Go.heap_alloc_new w o
def Asd (p : Prop) : Prop := p
theorem Asd.out {p : Prop} (h : Asd p) : p := h
end Ab
