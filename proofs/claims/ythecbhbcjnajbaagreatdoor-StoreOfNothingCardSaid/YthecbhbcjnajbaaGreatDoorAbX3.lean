import Derived.Test.YthecbhbcjnajbaaGreatDoorAbQ3
import Derived.Laws.CopyOwn
import Derived.Laws.AppendOwn
namespace Ab
open Go (IntKind BinOp UnOp World Value Addr Obj undef maxLen Program TypeId Oper Op Operand Act Sem Next Result execOp Builtin)
structure Step (ν : Nat → Nat) (w : World) (S : Nat → Prop) (μ : Nat → Value) (H : Heap) (w' : World) (S' : Nat → Prop) (μ' : Nat → Value) (H' : Heap) : Prop where
 rel : Rel ν w' S' μ' H'
 ext : Ext w S μ H w' S' μ' H'
 moves : Moves μ H μ' H'
def upd (μ : Nat → Value) (id : Nat) (v : Value) : Nat → Value := fun i => if i = id then v else μ i
@[simp] theorem upd_same {μ id v} : upd μ id v id = v := by simp [upd]
theorem upd_ne {μ id v i} (h : i ≠ id) : upd μ id v i = μ i := by simp [upd,h]
section
variable {ν : Nat → Nat} {w w' : World} {S S' : Nat → Prop} {μ : Nat → Value} {H : Heap}
def isAlive (b : Blk) : Prop := (∃ cs,b = .box cs) ∨ ∃ sz xs,b = .row false sz xs
theorem alive_iff {g} : alive μ H g ↔ ∃ id b,H[id]? = some b ∧ isAlive b ∧ blkOf (μ id) = some g := by
 constructor
 ·rintro ⟨id,h1,⟨cs,h2⟩ | ⟨sz,xs,h2⟩⟩
  ·exact ⟨id,_,h2,.inl ⟨cs,rfl⟩,h1⟩
  ·exact ⟨id,_,h2,.inr ⟨sz,xs,rfl⟩,h1⟩
 ·rintro ⟨id,b,h1,⟨cs,rfl⟩ | ⟨sz,xs,rfl⟩,h3⟩
  ·exact ⟨id,h3,.inl ⟨cs,h1⟩⟩
  ·exact ⟨id,h3,.inr ⟨sz,xs,h1⟩⟩
theorem Rel.inj' (hr : Rel ν w S μ H) {i j b c g} (hi : H[i]? = some b) (hj : H[j]? = some c) (ai : isAlive b) (aj : isAlive c) (gi : blkOf (μ i) = some g) (gj : blkOf (μ j) = some g) : i = j := by
 refine hr.inj i j g gi gj ?_ ?_
 ·rcases ai with ⟨cs,rfl⟩ | ⟨sz,xs,rfl⟩
  ·exact .inl ⟨cs,hi⟩
  ·exact .inr ⟨sz,xs,hi⟩
 ·rcases aj with ⟨cs,rfl⟩ | ⟨sz,xs,rfl⟩
  ·exact .inl ⟨cs,hj⟩
  ·exact .inr ⟨sz,xs,hj⟩
theorem RowAt.keep {v sz n us} (h : RowAt w v sz n us) (hk : ∀ g,blkOf v = some g → w'.heap[g]? = w.heap[g]?) : RowAt w' v sz n us := by
 obtain ⟨h1,h2⟩ := h
 refine ⟨h1,?_⟩
 rcases h2 with h2 | ⟨g,cap,cur,e,hv,hc,hg,rest⟩
 ·exact .inl h2
 ·refine .inr ⟨g,cap,cur,e,hv,hc,?_,rest⟩
  rw [hk g (by rw [hv]; simp [blkOf]; omega)]
  exact hg
theorem BlkRel.keep {μ' : Nat → Value} {H' : Heap} {id : Nat} {b : Blk} (h : BlkRel ν w S μ H id b) (hS : ∀ g,S g → S' g) (hw : ∀ g,S g → w'.heap[g]? = w.heap[g]?) (hm : Moves μ H μ' H') (hμ : μ' id = μ id)
  (hk : ∀ g,blkOf (μ id) = some g → w'.heap[g]? = w.heap[g]?) : BlkRel ν w' S' μ' H' id b := by
 cases b with
 | box cells =>
  obtain ⟨g,h1,⟨cs,t,h2,h3,h4,h5⟩ | ⟨s,pos,h2,h3⟩ | ⟨es,arr,clock,h2,h3,hst,h4,h5⟩⟩ := h
  ·exact ⟨g,by rw [hμ,h1],.inl ⟨cs,t,by rw [hk g (by rw [h1]; rfl)]; exact h2,h3,h4,fun j c hc => (h5 j c hc).keep hS hw hm⟩⟩
  ·exact ⟨g,by rw [hμ,h1],.inr (.inl ⟨s,pos,h2,by rw [hk g (by rw [h1]; rfl)]; exact h3⟩)⟩
  ·exact ⟨g,by rw [hμ,h1],.inr (.inr ⟨es,arr,clock,h2,by rw [hk g (by rw [h1]; rfl)]; exact h3,hst,h4,fun j k v hj => by
    obtain ⟨e,e1,e2,e3,e4⟩ := h5 j k v hj
    exact ⟨e,e1,e2.keep hS hw,e3,e4.keep hS hw hm⟩⟩)⟩
 | row f sz xs =>
  obtain ⟨h0,hl,us,h1,h2,h3,h4⟩ := h
  exact ⟨h0,hl,us,by rw [hμ]; exact h1.keep hk,h2,fun i x j c hx hc => (h3 i x j c hx hc).keep hS hw,fun hf g hg => hS _ (h4 hf g (by rw [← hμ]; exact hg))⟩
 | dead => exact fun g hg => hS _ (h g (by rw [← hμ]; exact hg))
theorem Rel.stable (hr : Rel ν w S μ H) {g} (h : S g) : g < w.heap.size ∧ ¬ alive μ H g := ⟨hr.lt g h,fun ha => hr.apart g ha h⟩
theorem Rel.blk_lt (hr : Rel ν w S μ H) {id b g} (hb : H[id]? = some b) (hg : blkOf (μ id) = some g) : g < w.heap.size := by
 have h := hr.blk id b hb
 cases b with
 | box cells =>
  obtain ⟨g',h1,⟨cs,t,h2,_⟩ | ⟨s,pos,_,h2⟩ | ⟨es,arr,clock,_,h2,_⟩⟩ := h
  ·rw [h1] at hg; cases hg
   exact (Array.getElem?_eq_some_iff.1 h2).1
  ·rw [h1] at hg; cases hg
   exact (Array.getElem?_eq_some_iff.1 h2).1
  ·rw [h1] at hg; cases hg
   exact (Array.getElem?_eq_some_iff.1 h2).1
 | row f sz xs =>
  obtain ⟨_,_,us,⟨_,h1⟩,_⟩ := h
  rcases h1 with ⟨_,a,ha⟩ | ⟨g',cap,cur,e,hv,hc,h2,_⟩
  ·rw [ha] at hg; cases a <;> simp [blkOf] at hg
  ·rw [hv] at hg
   simp only [blkOf] at hg
   rw [if_neg (by omega)] at hg
   cases hg
   exact (Array.getElem?_eq_some_iff.1 h2).1
 | dead => exact hr.lt g (h g hg)
theorem Step.grow (hr : Rel ν w S μ H) (hg : Grows w w') (hS : ∀ g,S g → S' g) (hlt : ∀ g,S' g → g < w'.heap.size) (hnew : ∀ g,S' g → S g ∨ w.heap.size ≤ g) : Step ν w S μ H w' S' μ H := by
 have keep : ∀ g,S g → w'.heap[g]? = w.heap[g]? := fun g h => hg.keep g (hr.lt g h)
 refine ⟨⟨hlt,fun id b hb => (hr.blk id b hb).keep hS keep .refl rfl (fun g h => hg.keep g (hr.blk_lt hb h)),fun g ha hs => ?_,hr.inj⟩,
  ⟨hg.os,hg.tape,hg.output,hg.size,fun g h _ => hg.keep g h,hS,fun g h hl => ?_,fun g h _ => h⟩,.refl⟩
 ·rcases hnew g hs with h | h
  ·exact hr.apart g ha h
  ·obtain ⟨id,b,hb,_,hb2⟩ := alive_iff.1 ha
   have := hr.blk_lt hb hb2
   omega
 ·rcases hnew g h with h | h
  ·exact .inl h
  ·omega
theorem getElem?_push_lt {α : Type} {l : List α} {x : α} {i : Nat} (h : i < l.length) : (l ++ [x])[i]? = l[i]? := List.getElem?_append_left h
theorem moves_push {v b} : Moves μ H (upd μ H.length v) (H ++ [b]) := by
 refine ⟨by simp,fun id f sz xs hl h => ?_,fun id cs hl h => ?_⟩
 ·rw [getElem?_push_lt hl] at h
  exact ⟨f,xs,h,Nat.le_refl _,fun _ => upd_ne (by omega)⟩
 ·rw [getElem?_push_lt hl] at h
  exact ⟨cs,h,upd_ne (by omega)⟩
theorem Step.push (hr : Rel ν w S μ H) {v : Value} {b : Blk} (hg : Grows w w') (hb : BlkRel ν w' S (upd μ H.length v) (H ++ [b]) H.length b) (hn : ∀ g,blkOf v = some g → w.heap.size ≤ g) :
  Step ν w S μ H w' S (upd μ H.length v) (H ++ [b]) := by
 have keep : ∀ g,S g → w'.heap[g]? = w.heap[g]? := fun g h => hg.keep g (hr.lt g h)
 have old : ∀ (id : Nat) c,(H ++ [b])[id]? = some c → (id < H.length ∧ H[id]? = some c) ∨ (id = H.length ∧ c = b) := by
  intro id c h
  rcases Nat.lt_trichotomy id H.length with hl | hl | hl
  ·rw [getElem?_push_lt hl] at h; exact .inl ⟨hl,h⟩
  ·subst hl; rw [List.getElem?_append_right (Nat.le_refl _)] at h; simp at h; exact .inr ⟨rfl,h.symm⟩
  ·rw [List.getElem?_append_right (by omega)] at h
   have := (List.getElem?_eq_some_iff.1 h).1
   simp at this; omega
 have al : ∀ g,alive (upd μ H.length v) (H ++ [b]) g → alive μ H g ∨ blkOf v = some g := by
  intro g ha
  obtain ⟨id,c,h1,h2,h3⟩ := alive_iff.1 ha
  rcases old id c h1 with ⟨hl,h⟩ | ⟨rfl,rfl⟩
  ·rw [upd_ne (by omega)] at h3; exact .inl (alive_iff.2 ⟨id,c,h,h2,h3⟩)
  ·rw [upd_same] at h3; exact .inr h3
 refine ⟨⟨fun g h => Nat.lt_of_lt_of_le (hr.lt g h) hg.size,fun id c hc => ?_,fun g ha hs => ?_,fun i j g hi hj ai aj => ?_⟩,⟨hg.os,hg.tape,hg.output,hg.size,fun g h _ => hg.keep g h,fun _ h => h,fun g h _ => .inl h,fun g h hl => ?_⟩,moves_push⟩
 ·rcases old id c hc with ⟨hl,h⟩ | ⟨rfl,rfl⟩
  ·exact (hr.blk id c h).keep (fun _ h => h) keep moves_push (upd_ne (by omega)) (fun g hb => hg.keep g (hr.blk_lt h hb))
  ·exact hb
 ·rcases al g ha with h | h
  ·exact hr.apart g h hs
  ·have := hn g h; have := hr.lt g hs; omega
 ·have get : ∀ k : Nat,((∃ cs,(H ++ [b])[k]? = some (Blk.box cs)) ∨ ∃ sz xs,(H ++ [b])[k]? = some (Blk.row false sz xs)) → ∃ c,(H ++ [b])[k]? = some c ∧ isAlive c := by
   rintro k (⟨cs,h⟩ | ⟨sz,xs,h⟩)
   ·exact ⟨_,h,.inl ⟨cs,rfl⟩⟩
   ·exact ⟨_,h,.inr ⟨sz,xs,rfl⟩⟩
  obtain ⟨c,hc,ac⟩ := get i ai
  obtain ⟨d,hd,ad⟩ := get j aj
  rcases old i c hc with ⟨hl,h⟩ | ⟨rfl,rfl⟩ <;> rcases old j d hd with ⟨hl2,h2⟩ | ⟨rfl,rfl⟩
  ·rw [upd_ne (by omega)] at hi hj; exact hr.inj' h h2 ac ad hi hj
  ·rw [upd_ne (by omega)] at hi; rw [upd_same] at hj
   have := hn g hj; have := hr.blk_lt h hi; omega
  ·rw [upd_ne (by omega)] at hj; rw [upd_same] at hi
   have := hn g hi; have := hr.blk_lt h2 hj; omega
  ·rfl
 ·rcases al g h with h | h
  ·exact h
  ·have := hn g h; omega
theorem Step.set (hr : Rel ν w S μ H) {id : Nat} {v : Value} {b b' : Blk} (h0 : H[id]? = some b) (hal : isAlive b) (hos : w'.os = w.os) (htp : w'.tape = w.tape) (hout : w'.output = w.output) (hsz : w.heap.size ≤ w'.heap.size)
  (hk : ∀ g,g < w.heap.size → blkOf (μ id) ≠ some g → w'.heap[g]? = w.heap[g]?)
  (hm : Moves μ H (upd μ id v) (H.set id b')) (hb : BlkRel ν w' S (upd μ id v) (H.set id b') id b') (hn : ∀ g,blkOf v = some g → blkOf (μ id) = some g ∨ w.heap.size ≤ g) :
  Step ν w S μ H w' S (upd μ id v) (H.set id b') := by
 have hlt : id < H.length := (List.getElem?_eq_some_iff.1 h0).1
 have notS : ∀ g,S g → blkOf (μ id) ≠ some g := fun g hs hg => hr.apart g (alive_iff.2 ⟨id,b,h0,hal,hg⟩) hs
 have keep : ∀ g,S g → w'.heap[g]? = w.heap[g]? := fun g h => hk g (hr.lt g h) (notS g h)
 have old : ∀ (i : Nat) c,(H.set id b')[i]? = some c → (i ≠ id ∧ H[i]? = some c) ∨ (i = id ∧ c = b') := by
  intro i c h
  simp only [List.getElem?_set,hlt,if_true] at h
  split at h
  ·rename_i e; subst e; simp only [Option.some.injEq] at h; exact .inr ⟨rfl,h.symm⟩
  ·rename_i e; exact .inl ⟨Ne.symm e,h⟩
 have al : ∀ g,alive (upd μ id v) (H.set id b') g → alive μ H g ∨ blkOf v = some g := by
  intro g ha
  obtain ⟨i,c,h1,h2,h3⟩ := alive_iff.1 ha
  rcases old i c h1 with ⟨hl,h⟩ | ⟨rfl,rfl⟩
  ·rw [upd_ne hl] at h3; exact .inl (alive_iff.2 ⟨i,c,h,h2,h3⟩)
  ·rw [upd_same] at h3; exact .inr h3
 have far : ∀ i c g,i ≠ id → H[i]? = some c → blkOf (μ i) = some g → blkOf (μ id) ≠ some g := by
  intro i c g hne hc hg hid
  by_cases hca : isAlive c
  ·exact hne (hr.inj' hc h0 hca hal hg hid)
  ·cases c with
   | box cs => exact hca (.inl ⟨cs,rfl⟩)
   | row f sz xs =>
    cases f with
    | false => exact hca (.inr ⟨sz,xs,rfl⟩)
    | true =>
     obtain ⟨_,_,us,_,_,_,h4⟩ := hr.blk i _ hc
     exact notS g (h4 rfl g hg) hid
   | dead => exact notS g (hr.blk i _ hc g hg) hid
 refine ⟨⟨fun g h => Nat.lt_of_lt_of_le (hr.lt g h) hsz,fun i c hc => ?_,fun g ha hs => ?_,fun i j g hi hj ai aj => ?_⟩,⟨hos,htp,hout,hsz,fun g h hna => ?_,fun _ h => h,fun g h _ => .inl h,fun g h hl => ?_⟩,hm⟩
 ·rcases old i c hc with ⟨hl,h⟩ | ⟨rfl,rfl⟩
  ·exact (hr.blk i c h).keep (fun _ h => h) keep hm (upd_ne hl) (fun g hg => hk g (hr.blk_lt h hg) (far i c g hl h hg))
  ·exact hb
 ·rcases al g ha with h | h
  ·exact hr.apart g h hs
  ·rcases hn g h with h | h
   ·exact notS g hs h
   ·have := hr.lt g hs; omega
 ·have get : ∀ k : Nat,((∃ cs,(H.set id b')[k]? = some (Blk.box cs)) ∨ ∃ sz xs,(H.set id b')[k]? = some (Blk.row false sz xs)) → ∃ c,(H.set id b')[k]? = some c ∧ isAlive c := by
   rintro k (⟨cs,h⟩ | ⟨sz,xs,h⟩)
   ·exact ⟨_,h,.inl ⟨cs,rfl⟩⟩
   ·exact ⟨_,h,.inr ⟨sz,xs,rfl⟩⟩
  obtain ⟨c,hc,ac⟩ := get i ai
  obtain ⟨d,hd,ad⟩ := get j aj
  have cross : ∀ k c,k ≠ id → H[k]? = some c → blkOf (μ k) = some g → blkOf v = some g → False := by
   intro k c hne hc hg hv
   rcases hn g hv with h | h
   ·exact far k c g hne hc hg h
   ·have := hr.blk_lt hc hg; omega
  rcases old i c hc with ⟨hl,h⟩ | ⟨rfl,rfl⟩ <;> rcases old j d hd with ⟨hl2,h2⟩ | ⟨rfl,rfl⟩
  ·rw [upd_ne hl] at hi; rw [upd_ne hl2] at hj; exact hr.inj' h h2 ac ad hi hj
  ·rw [upd_ne hl] at hi; rw [upd_same] at hj; exact (cross i c hl h hi hj).elim
  ·rw [upd_ne hl2] at hj; rw [upd_same] at hi; exact (cross j d hl2 h2 hj hi).elim
  ·rfl
 ·exact hk g h (fun hg => hna (alive_iff.2 ⟨id,b,h0,hal,hg⟩))
 ·rcases al g h with h | h
  ·exact h
  ·rcases hn g h with h | h
   ·exact alive_iff.2 ⟨id,b,h0,hal,h⟩
   ·omega
end
end Ab
namespace Ab
open Go (IntKind BinOp UnOp World Value Addr Obj undef maxLen Program TypeId Oper Op Operand Act Sem Next Result execOp Builtin)
section
variable {Γ : Ctx} {N : Names} {P : Program} {w : World} {S : Nat → Prop} {μ : Nat → Value} {H : Heap}
theorem Rel.keepS (hr : Rel N.fn w S μ H) {w' : World} (hg : Grows w w') : ∀ g,S g → w'.heap[g]? = w.heap[g]? := fun g h => hg.keep g (hr.lt g h)
theorem step_box (hr : Rel N.fn w S μ H) {cs : List AV} {us : Array Value} (T : TypeId) (h : CellsRel N.fn w S μ H cs us) :
  ∃ μ',Step N.fn w S μ H (w.alloc (.cells us T)) S μ' (H ++ [.box cs]) ∧ RelV N.fn (w.alloc (.cells us T)) S μ' (H ++ [.box cs]) (.bx H.length 0) (.pointer (some ⟨w.heap.size,0,none⟩)) := by
 refine ⟨upd μ H.length (.pointer (some ⟨w.heap.size,0,none⟩)),Step.push hr (Grows.alloc w _) ?_ ?_,?_⟩
 ·refine ⟨w.heap.size,upd_same,.inl ⟨us,T,Go.heap_alloc_new w _,h.size,h.one,fun j c hc => ?_⟩⟩
  exact (h.rel j c hc).keep (fun _ h => h) (hr.keepS (Grows.alloc w _)) moves_push
 ·intro g hg
  simp only [blkOf,Option.some.injEq] at hg
  omega
 ·exact .bx _ _ w.heap.size _ (by simp) (fun _ _ => upd_same) rfl
theorem x_box (hr : Rel N.fn w S μ H) {T : TypeId} {x : Value} {x' : AV} {r : AV × Heap} (hx : RelV N.fn w S μ H x' x) (hv : boxA H x' = some r) :
  ∃ u w' μ',(Go.Instr.box T x).run P w = .ok u w' ∧ Step N.fn w S μ H w' S μ' r.2 ∧ RelV N.fn w' S μ' r.2 r.1 u := by
 unfold boxA at hv
 split at hv
 ·rename_i hok
  simp only [Option.some.injEq] at hv
  subst hv
  obtain ⟨c1,c2,c3⟩ := hx.cells hok
  obtain ⟨μ',h1,h2⟩ := step_box hr T ⟨c1,c2,c3⟩
  exact ⟨_,_,μ',by simp [Go.Instr.box,Go.newVar,Go.newRow],h1,h2⟩
 ·cases hv
theorem x_alloc (hr : Rel N.fn w S μ H) {T : TypeId} {zero : List PV} (hz : zeroT P T zero = true) :
  ∃ u w' μ',(Go.Instr.alloc T true (.tuple #[])).run P w = .ok u w' ∧ Step N.fn w S μ H w' S μ' (H ++ [.box (zero.map .p)]) ∧ RelV N.fn w' S μ' (H ++ [.box (zero.map .p)]) (.bx H.length 0) u := by
 obtain ⟨z,z1,z2⟩ := zeroT_spec (N := N) (w := w) (S := S) (μ := μ) (H := H) hz
 obtain ⟨μ',h1,h2⟩ := step_box hr T z2
 exact ⟨_,_,μ',by simp [Go.Instr.alloc,z1,Go.newVar,Go.newRow],h1,h2⟩
theorem moves_set_box {id : Nat} {cs cs' : List AV} {v : Value} (h0 : H[id]? = some (.box cs)) (hv : v = μ id) : Moves μ H (upd μ id v) (H.set id (.box cs')) := by
 have hlt := (List.getElem?_eq_some_iff.1 h0).1
 refine ⟨by simp,fun i f sz xs hl h => ?_,fun i c hl h => ?_⟩
 ·simp only [List.getElem?_set,hlt,if_true] at h
  split at h
  ·cases h
  ·rename_i e; exact ⟨f,xs,h,Nat.le_refl _,fun _ => upd_ne (Ne.symm e)⟩
 ·simp only [List.getElem?_set,hlt,if_true] at h
  split at h
  ·rename_i e; subst e; exact ⟨cs,h0,by rw [upd_same,hv]⟩
  ·rename_i e; exact ⟨c,h,upd_ne (Ne.symm e)⟩
theorem moves_set_row {id : Nat} {f f' : Bool} {sz : Nat} {xs xs' : List PV} {v : Value} (h0 : H[id]? = some (.row f sz xs)) (hl : xs.length ≤ xs'.length) (hv : xs.length = xs'.length → v = μ id) : Moves μ H (upd μ id v) (H.set id (.row f' sz xs')) := by
 have hlt := (List.getElem?_eq_some_iff.1 h0).1
 refine ⟨by simp,fun i g sz2 ys hli h => ?_,fun i c hli h => ?_⟩
 ·simp only [List.getElem?_set,hlt,if_true] at h
  split at h
  ·rename_i e; subst e
   simp only [Option.some.injEq,Blk.row.injEq] at h
   obtain ⟨rfl,rfl,rfl⟩ := h
   exact ⟨f,xs,h0,hl,fun e => by rw [upd_same]; exact hv e⟩
  ·rename_i e; exact ⟨g,ys,h,Nat.le_refl _,fun _ => upd_ne (Ne.symm e)⟩
 ·simp only [List.getElem?_set,hlt,if_true] at h
  split at h
  ·cases h
  ·rename_i e; exact ⟨c,h,upd_ne (Ne.symm e)⟩
theorem setRow_keep {g k : Nat} {cs : Array Value} (h : k ≠ g) : (w.setRow g cs).heap[k]? = w.heap[k]? := Go.setRow_other w g k cs h
theorem setRow_size {g : Nat} {cs : Array Value} : (w.setRow g cs).heap.size = w.heap.size := by simp [World.setRow]
theorem splice_getD {cur : Array Value} {vs : List Value} {off j : Nat} (h : off + vs.length ≤ cur.size) :
  (cur.toList.take off ++ vs ++ cur.toList.drop (off + vs.length)).toArray.getD j undef = if off ≤ j ∧ j < off + vs.length then vs.getD (j - off) undef else cur.getD j undef := by
 have l1 : (cur.toList.take off).length = off := by simp; omega
 rw [list_getD,List.getD_eq_getElem?_getD,Array.getD_eq_getD_getElem?,List.append_assoc]
 by_cases h1 : j < off
 ·rw [if_neg (by omega),List.getElem?_append_left (by omega),List.getElem?_take,if_pos h1]
  simp
 ·rw [List.getElem?_append_right (by omega),l1]
  by_cases h2 : j < off + vs.length
  ·rw [if_pos (by omega),List.getElem?_append_left (by omega),List.getD_eq_getElem?_getD]
  ·rw [if_neg (by omega),List.getElem?_append_right (by omega),List.getElem?_drop,show off + vs.length + (j - off - vs.length) = j by omega]
   simp
theorem splice_get {α : Type} {cs vs : List α} {off j : Nat} {c : α} (h : off + vs.length ≤ cs.length) (hc : (cs.take off ++ vs ++ cs.drop (off + vs.length))[j]? = some c) :
  (off ≤ j ∧ j < off + vs.length ∧ vs[j - off]? = some c) ∨ (¬ (off ≤ j ∧ j < off + vs.length) ∧ cs[j]? = some c) := by
 have l1 : (cs.take off).length = off := by simp; omega
 rw [List.append_assoc] at hc
 by_cases h1 : j < off
 ·rw [List.getElem?_append_left (by omega)] at hc
  exact .inr ⟨by omega,(take_get hc).2⟩
 ·rw [List.getElem?_append_right (by omega),l1] at hc
  by_cases h2 : j < off + vs.length
  ·rw [List.getElem?_append_left (by omega)] at hc
   exact .inl ⟨by omega,h2,hc⟩
  ·rw [List.getElem?_append_right (by omega),List.getElem?_drop,show off + vs.length + (j - off - vs.length) = j by omega] at hc
   exact .inr ⟨by omega,hc⟩
theorem getD_toList {us : Array Value} {j : Nat} : us.toList.getD j undef = us.getD j undef := by simp [List.getD]
theorem cells_one {cs : List AV} {us : Array Value} (h : CellsRel N.fn w S μ H cs us) : ∀ v ∈ us.toList,v.oneCell' = true := by
 intro v hv
 obtain ⟨j,hj⟩ := List.getElem?_of_mem hv
 have hlt : j < us.size := by simpa using (List.getElem?_eq_some_iff.1 hj).1
 have hlt2 : j < cs.length := by rw [← h.size]; exact hlt
 have h1 : cs[j]? = some cs[j] := List.getElem?_eq_getElem hlt2
 have h2 := h.rel j _ h1
 have e : us.getD j undef = v := by rw [← getD_toList,List.getD_eq_getElem?_getD,hj]; rfl
 rw [e] at h2
 exact h2.one (h.one _ (List.mem_of_getElem? h1))
theorem run_store_at {T : TypeId} {g off sz : Nat} {t : TypeId} {cur : Array Value} {u : Value} (hs : (P.info? T).map (·.size) = some sz) (hu : u.cells.size = sz) (hg : w.heap[g]? = some (.cells cur t (0,0))) (hle : off + sz ≤ cur.size)
  (h1 : ∀ v ∈ u.cells.toList,v.oneCell' = true) :
  (Go.Instr.storeAt T (.pointer (some ⟨g,off,none⟩)) u).run P w = .ok () (w.setRow g (cur.toList.take off ++ u.cells.toList ++ cur.toList.drop (off + u.cells.toList.length)).toArray) := by
 have hst := Go.run_storeCells_at P g off t u.cells.toList 0 cur w hg (by simp [hu]; omega) h1
 simp only [Nat.add_zero] at hst
 simp only [Go.Instr.storeAt,Go.Instr.sureAddr,Go.storeVar,Go.Sem.run_bind,Go.Sem.run_pure,Go.Result.andThen_ok,run_sizeOf hs,hu,ne_eq,not_true_eq_false,if_false]
 exact hst
theorem x_store (hr : Rel N.fn w S μ H) {T : TypeId} {sz : Nat} {x y : Value} {x' y' : AV} {H' : Heap} (hs : (P.info? T).map (·.size) = some sz) (hx : RelV N.fn w S μ H x' x) (hy : RelV N.fn w S μ H y' y) (hv : storeA H sz x' y' = some H') :
  ∃ w' μ',(Go.Instr.storeAt T x y).run P w = .ok () w' ∧ Step N.fn w S μ H w' S μ' H' := by
 unfold storeA at hv
 split at hv
 ·rename_i id off
  obtain ⟨cs,hb,hv⟩ := Option.bind_eq_some_iff.1 hv
  simp only [Option.ite_none_right_eq_some,Option.some.injEq] at hv
  obtain ⟨⟨hok,hsz,hle⟩,rfl⟩ := hv
  have hb0 := hb
  have hb := boxOf_spec hb
  obtain ⟨g,rfl,hl,hg⟩ := hx.bx_inv
  obtain ⟨g',arr,t,e1,e2,e3,e4,e5⟩ := hr.box_of hb0
  rw [hg cs hb] at e1
  cases e1
  obtain ⟨c1,c2,c3⟩ := hy.cells hok
  have hlen : y.cells.toList.length = y'.cells.length := by simpa using c1
  have hle' : off + y.cells.toList.length ≤ arr.size := by rw [hlen,hsz,e3]; exact hle
  refine ⟨_,upd μ id (.pointer (some ⟨g,0,none⟩)),run_store_at hs (by rw [c1,hsz]) e2 (by rw [e3]; exact hle) (cells_one ⟨c1,c2,c3⟩),?_⟩
  have hm : Moves μ H (upd μ id (.pointer (some ⟨g,0,none⟩))) (H.set id (.box (cs.take off ++ y'.cells ++ cs.drop (off + sz)))) := moves_set_box hb (hg cs hb).symm
  have hk : ∀ k,k < w.heap.size → blkOf (μ id) ≠ some k → (w.setRow g (arr.toList.take off ++ y.cells.toList ++ arr.toList.drop (off + y.cells.toList.length)).toArray).heap[k]? = w.heap[k]? := by
   intro k _ hne
   rw [hg cs hb] at hne
   exact setRow_keep (fun e => hne (by rw [e]; rfl))
  refine Step.set hr hb (.inl ⟨cs,rfl⟩) rfl rfl rfl (Nat.le_of_eq setRow_size.symm) hk hm ?_ (fun k h => .inl (by rw [hg cs hb]; exact h))
  have keepS : ∀ k,S k → (w.setRow g (arr.toList.take off ++ y.cells.toList ++ arr.toList.drop (off + y.cells.toList.length)).toArray).heap[k]? = w.heap[k]? := fun k hk' =>
   hk k (hr.lt k hk') (fun e => hr.apart k (alive_iff.2 ⟨id,_,hb,.inl ⟨cs,rfl⟩,e⟩) hk')
  refine ⟨g,upd_same,.inl ⟨_,t,Go.setRow_heap w g arr _ t _ e2,?_,fun c hc => ?_,fun j c hc => ?_⟩⟩
  ·simp only [List.size_toArray,List.length_append,List.length_take,List.length_drop,Array.length_toList,hlen,hsz,e3]
  ·simp only [List.mem_append] at hc
   rcases hc with (hc | hc) | hc
   ·exact e4 c (List.mem_of_mem_take hc)
   ·exact c2 c hc
   ·exact e4 c (List.mem_of_mem_drop hc)
  ·rw [splice_getD hle']
   subst hsz
   rcases splice_get hle hc with ⟨h1,h2,h3⟩ | ⟨h1,h2⟩
   ·rw [if_pos ⟨h1,by omega⟩,getD_toList]
    exact (c3 _ c h3).keep (fun _ h => h) keepS hm
   ·rw [if_neg (by omega)]
    exact (e5 j c h2).keep (fun _ h => h) keepS hm
 ·rename_i id n i off
  split at hv
  rotate_left
  ·cases hv
  rename_i sz' xs hb
  split at hv
  rotate_left
  ·cases hv
  rename_i hn
  subst hn
  obtain ⟨z,hz,hv⟩ := Option.bind_eq_some_iff.1 hv
  obtain ⟨ps,hps,hv⟩ := Option.bind_eq_some_iff.1 hv
  simp only [Option.ite_none_right_eq_some,Option.some.injEq] at hv
  obtain ⟨⟨hok,hpos,hsz,hle⟩,rfl⟩ := hv
  have hi : i < xs.length := (List.getElem?_eq_some_iff.1 hz).1
  cases hx with
  | el _ _ _ _ _ hl hx0 _ =>
  obtain ⟨_,hx1⟩ := hx0 _ _ _ hb
  obtain ⟨g,cap,hμ,rfl⟩ := (hx1 rfl).1 (by omega)
  obtain ⟨r0,rlim,us,r1,r2,r3,r4⟩ := hr.blk id _ hb
  obtain ⟨rl,r1⟩ := r1
  rcases r1 with ⟨h0,_⟩ | ⟨g',cap',cur,e,hv',hc0,hg,hnc,hcm,hcs,htake⟩
  ·omega
  rw [hμ] at hv'
  cases hv'
  obtain ⟨c1,c2,c3⟩ := hy.cells hok
  obtain ⟨p1,p2,p3⟩ := pures_cells hps ⟨c1,c2,c3⟩
  have hzl : z.cells.length = sz' := (r2 z (List.mem_of_getElem? hz)).1
  have hlen : y.cells.toList.length = sz := by rw [Array.length_toList,p1,hsz]
  have hrow : (i + 1) * sz' ≤ xs.length * sz' := Nat.mul_le_mul_right _ hi
  have hrow' : xs.length * sz' ≤ cap * sz' := Nat.mul_le_mul_right _ (by omega)
  have hi1 : (i + 1) * sz' = i * sz' + sz' := by rw [Nat.add_mul,Nat.one_mul]
  have hfit : i * sz' + off + y.cells.toList.length ≤ cur.size := by omega
  refine ⟨_,upd μ id (μ id),run_store_at hs (by rw [p1,hsz]) hg (by omega) (cells_one ⟨c1,c2,c3⟩),?_⟩
  generalize hx2 : setPart off sz ps z = z2
  have z2c : z2.cells.length = sz' ∧ (∀ c ∈ z2.cells,c.one = true) ∧ ∀ j c,z2.cells[j]? = some c → (off ≤ j ∧ j < off + sz ∧ ps[j - off]? = some c) ∨ (¬ (off ≤ j ∧ j < off + sz) ∧ z.cells[j]? = some c) := by
   have hone := (r2 z (List.mem_of_getElem? hz)).2
   by_cases hag : ∃ cs,z = .agg cs
   ·obtain ⟨cs,rfl⟩ := hag
    subst hx2
    simp only [PV.cells,setPart] at hzl hone hle ⊢
    subst hsz
    refine ⟨by simp only [List.length_append,List.length_take,List.length_drop]; omega,fun c hc => ?_,fun j c hc => splice_get hle hc⟩
    simp only [List.mem_append] at hc
    rcases hc with (hc | hc) | hc
    ·exact hone c (List.mem_of_mem_take hc)
    ·exact p2 c hc
    ·exact hone c (List.mem_of_mem_drop hc)
   ·have hz1 : z.cells = [z] := by cases z <;> first | rfl | exact absurd ⟨_,rfl⟩ hag
    rw [hz1] at hzl hle ⊢
    simp only [List.length_cons,List.length_nil] at hzl hle
    have e1 : off = 0 := by omega
    have e2 : sz = 1 := by omega
    subst e1
    match ps,hsz,p2,hx2 with
    | [q],hsz,p2,hx2 =>
     have hq := p2 q (by simp)
     have : z2 = q := by subst hx2; cases z <;> first | rfl | exact absurd ⟨_,rfl⟩ hag
     rw [this,PV.cells_one hq]
     refine ⟨by simp; omega,by simpa using hq,fun j c hc => .inl ?_⟩
     cases j with
     | zero => simpa [e2] using hc
     | succ j => simp at hc
    | [],hsz,_,_ => simp at hsz; omega
    | _ :: _ :: _,hsz,_,_ => simp at hsz; omega
  have hm : Moves μ H (upd μ id (μ id)) (H.set id (.row false sz' (xs.set i z2))) := moves_set_row hb (by simp) (fun _ => rfl)
  have hk : ∀ k,k < w.heap.size → blkOf (μ id) ≠ some k → (w.setRow g (cur.toList.take (i * sz' + off) ++ y.cells.toList ++ cur.toList.drop (i * sz' + off + y.cells.toList.length)).toArray).heap[k]? = w.heap[k]? := by
   intro k _ hne
   rw [hμ] at hne
   simp only [blkOf] at hne
   rw [if_neg (by omega)] at hne
   exact setRow_keep (fun e => hne (by rw [e]))
  refine Step.set hr hb (.inr ⟨sz',xs,rfl⟩) rfl rfl rfl (Nat.le_of_eq setRow_size.symm) hk hm ?_ (fun k h => .inl h)
  have keepS : ∀ k,S k → (w.setRow g (cur.toList.take (i * sz' + off) ++ y.cells.toList ++ cur.toList.drop (i * sz' + off + y.cells.toList.length)).toArray).heap[k]? = w.heap[k]? := fun k hk' =>
   hk k (hr.lt k hk') (fun e => hr.apart k (alive_iff.2 ⟨id,_,hb,.inr ⟨sz',xs,rfl⟩,e⟩) hk')
  generalize hcur : (cur.toList.take (i * sz' + off) ++ y.cells.toList ++ cur.toList.drop (i * sz' + off + y.cells.toList.length)).toArray = cur' at keepS hk ⊢
  have hcur' : ∀ j,cur'.getD j undef = if i * sz' + off ≤ j ∧ j < i * sz' + off + y.cells.toList.length then y.cells.toList.getD (j - (i * sz' + off)) undef else cur.getD j undef := fun j => by rw [← hcur]; exact splice_getD hfit
  have hcsz : cur'.size = cur.size := by
   rw [← hcur]
   simp only [List.size_toArray,List.length_append,List.length_take,List.length_drop,Array.length_toList]
   simp only [Array.length_toList] at hfit
   omega
  have husg : ∀ j,j < xs.length * sz' → us.getD j undef = cur.getD j undef := fun j hj => by
   rw [← htake,List.getD_eq_getElem?_getD,List.getElem?_take,if_pos hj,← List.getD_eq_getElem?_getD,getD_toList]
  refine ⟨r0,by simpa using rlim,cur'.toList.take (xs.length * sz'),⟨by simp only [List.length_take,Array.length_toList,List.length_set]; omega,?_⟩,fun x hx => ?_,fun i2 x j c hx hc => ?_,by simp⟩
  ·rw [upd_same,hμ,List.length_set]
   exact .inr ⟨g,cap,cur',e,rfl,hc0,Go.setRow_heap w g cur _ e _ hg,hnc,hcm,by omega,rfl⟩
  ·rcases List.mem_or_eq_of_mem_set hx with h | h
   ·exact r2 x h
   ·subst h; exact ⟨z2c.1,z2c.2.1⟩
  ·have hi2 : i2 < xs.length := by simpa using (List.getElem?_eq_some_iff.1 hx).1
   have hrow2 : (i2 + 1) * sz' ≤ xs.length * sz' := Nat.mul_le_mul_right _ hi2
   have hi21 : (i2 + 1) * sz' = i2 * sz' + sz' := by rw [Nat.add_mul,Nat.one_mul]
   by_cases he : i2 = i
   ·subst he
    rw [List.getElem?_set_self hi] at hx
    simp only [Option.some.injEq] at hx
    subst hx
    have hj : j < sz' := by rw [← z2c.1]; exact (List.getElem?_eq_some_iff.1 hc).1
    rw [List.getD_eq_getElem?_getD,List.getElem?_take,if_pos (by omega),← List.getD_eq_getElem?_getD,getD_toList,hcur' _]
    rcases z2c.2.2 j c hc with ⟨h1,h2,h3⟩ | ⟨h1,h2⟩
    ·rw [if_pos (by omega),show i2 * sz' + j - (i2 * sz' + off) = j - off by omega,getD_toList]
     exact (p3 _ c h3).keep (fun _ h => h) keepS
    ·rw [if_neg (by omega),← husg _ (by omega)]
     exact (r3 i2 z j c hz h2).keep (fun _ h => h) keepS
   ·rw [List.getElem?_set_ne (Ne.symm he)] at hx
    have hj : j < sz' := by rw [← (r2 x (List.mem_of_getElem? hx)).1]; exact (List.getElem?_eq_some_iff.1 hc).1
    rw [List.getD_eq_getElem?_getD,List.getElem?_take,if_pos (by omega),← List.getD_eq_getElem?_getD,getD_toList,hcur' _]
    have far : ¬ (i * sz' + off ≤ i2 * sz' + j ∧ i2 * sz' + j < i * sz' + off + y.cells.toList.length) := by
     rcases Nat.lt_or_gt_of_ne he with h | h
     ·have : (i2 + 1) * sz' ≤ i * sz' := Nat.mul_le_mul_right _ h
      omega
     ·have : (i + 1) * sz' ≤ i2 * sz' := Nat.mul_le_mul_right _ h
      omega
    rw [if_neg far,← husg _ (by omega)]
    exact (r3 i2 x j c hx hc).keep (fun _ h => h) keepS
 ·cases hv
end
end Ab
namespace Ab
open Go (IntKind BinOp UnOp World Value Addr Obj undef maxLen Program TypeId Oper Op Operand Act Sem Next Result execOp Builtin)
section
variable {Γ : Ctx} {N : Names} {P : Program} {w : World} {S : Nat → Prop} {μ : Nat → Value} {H : Heap}
def Src (w : World) (y : Value) (sz m : Nat) (news : List Value) : Prop :=
 news.length = m * sz ∧ (∀ u ∈ news,u.oneCell' = true) ∧ ((∃ a c,y = .slice a m c ∧ m = 0) ∨ ∃ ad c,y = .slice (some ad) m c ∧ ∀ (j : Nat) u,news[j]? = some u → w.cell? (ad.add j) = some u)
theorem run_append_zero {t ty e : TypeId} {i : Go.TypeInfo} (ht : P.underlying t = some (.slice e)) (hi : P.info? e = some i) (a : Option Addr) (n cap : Nat) (hn : n ≤ cap) (b : Option Addr) (c : Nat) :
  (Builtin.append_ #[t,t] ty #[.slice a n cap,.slice b 0 c]).run P w = .ok (.slice a n cap) w := by
 cases a <;> cases b <;> simp [Builtin.append_,Go.run_underlying ht,Go.sizeOf,Go.typeInfo,hi,Builtin.lenOf,hn,Builtin.firstCells,Go.loadCells,Go.loadCellsFrom,Go.storeCells]
theorem run_append_room' (t ty e e' : TypeId) (i : Go.TypeInfo) (ht : P.underlying t = some (.slice e)) (hi : P.info? e = some i)
  (g sLen sCap : Nat) (cur : Array Value) (hg : w.heap[g]? = some (.cells cur e' (0,0)))
  (a : Addr) (m c : Nat) (news : List Value) (hl : news.length = m * i.size) (hnews : ∀ (j : Nat) u,news[j]? = some u → w.cell? (a.add j) = some u) (h1 : ∀ u ∈ news,u.oneCell' = true)
  (hroom : sLen + m ≤ sCap) (hfit : sLen * i.size + news.length ≤ cur.size) :
  (Builtin.append_ #[t,t] ty #[.slice (some ⟨g,0,none⟩) sLen sCap,.slice (some a) m c]).run P w =
   .ok (.slice (some ⟨g,0,none⟩) (sLen + m) sCap) (w.setRow g (cur.toList.take (sLen * i.size) ++ news ++ cur.toList.drop (sLen * i.size + news.length)).toArray) := by
 have hf := Go.run_firstCells_some (P := P) w i.size m a m c news hl hnews
 have hst := Go.run_storeCells_at P g (sLen * i.size) e' news 0 cur w hg (by simpa using hfit) h1
 simp only [Nat.add_zero] at hst
 simp [Builtin.append_,Go.run_underlying ht,Go.sizeOf,Go.typeInfo,hi,Builtin.lenOf,hroom,hf,Go.Addr.add_lit,hst]
theorem run_append_row {t ty e : TypeId} {i : Go.TypeInfo} {z : Value} {sz n m : Nat} {v y : Value} {us news : List Value} (ht : P.underlying t = some (.slice e)) (hi : P.info? e = some i) (hz : i.zero = some z)
  (hsz : i.size = sz) (hzs : z.cells.size = sz) (h0 : 0 < sz) (hv : RowAt w v sz n us) (hy : Src w y sz m news) (hlim : n + m ≤ lim) (hb : i.bytes ≤ 65536) :
  ∃ v' w',(Builtin.append_ #[t,t] ty #[v,y]).run P w = .ok v' w' ∧ RowAt w' v' sz (n + m) (us ++ news) ∧ w'.os = w.os ∧ w'.tape = w.tape ∧ w'.output = w.output ∧ w.heap.size ≤ w'.heap.size ∧
   (∀ g,g < w.heap.size → blkOf v ≠ some g → w'.heap[g]? = w.heap[g]?) ∧ (∀ g,blkOf v' = some g → blkOf v = some g ∨ w.heap.size ≤ g) ∧ (m = 0 → v' = v) := by
 subst hsz
 have lim_eq : lim = 1073741824 := rfl
 have hbytes : (n + m) * i.bytes ≤ 140737488355328 := by
  calc (n + m) * i.bytes ≤ 1073741824 * 65536 := Nat.mul_le_mul (by omega) hb
   _ ≤ 140737488355328 := by decide
 obtain ⟨hl,hone,hy⟩ := hy
 obtain ⟨hul,hv⟩ := hv
 by_cases hm : m = 0
 ·subst hm
  have hn0 : news = [] := List.eq_nil_of_length_eq_zero (by simpa using hl)
  subst hn0
  obtain ⟨b,c,rfl⟩ : ∃ b c,y = .slice b 0 c := by
   rcases hy with ⟨a,c,h,_⟩ | ⟨ad,c,h,_⟩
   ·exact ⟨a,c,h⟩
   ·exact ⟨_,c,h⟩
  obtain ⟨a,cap,rfl,hcap⟩ : ∃ a cap,v = .slice a n cap ∧ n ≤ cap := by
   rcases hv with ⟨rfl,a,h⟩ | ⟨g,cap,cur,e',h,_,_,hc,_⟩
   ·exact ⟨a,0,h,Nat.le_refl _⟩
   ·exact ⟨_,cap,h,hc⟩
  exact ⟨_,w,run_append_zero ht hi a n cap hcap b c,⟨by simpa using hul,by simpa using hv⟩,rfl,rfl,rfl,Nat.le_refl _,fun _ _ _ => rfl,fun g hg => .inl hg,fun _ => rfl⟩
 ·obtain ⟨ad,c,rfl,hnews⟩ : ∃ ad c,y = .slice (some ad) m c ∧ ∀ (j : Nat) u,news[j]? = some u → w.cell? (ad.add j) = some u := by
   rcases hy with ⟨a,c,_,h⟩ | h
   ·exact absurd h hm
   ·exact h
  have hlen : (us ++ news).length = (n + m) * i.size := by rw [List.length_append,hul,hl,Nat.add_mul]
  have h63 : n + m ≤ 9223372036854775807 := by omega
  have grown : ∀ (old : Nat),old < n + m →
    RowAt (w.drew.alloc (.cells (us.toArray ++ news.toArray ++ Builtin.zeroCells z.cells (Go.grownCap w (n + m) old e - (n + m))) e)) (.slice (some ⟨w.heap.size,0,none⟩) (n + m) (Go.grownCap w (n + m) old e)) i.size (n + m) (us ++ news) := by
   intro old ho
   have hge := Go.grownCap_ge w (n + m) old e
   have hcm : Go.grownCap w (n + m) old e ≤ maxLen := Go.grownCap_le_maxLen w (n + m) old e (by simp only [maxLen]; omega)
   refine ⟨hlen,.inr ⟨w.heap.size,_,_,e,rfl,by omega,Go.heap_alloc_new w.drew _,hge,hcm,?_,?_⟩⟩
   ·simp only [Array.size_append,List.size_toArray,Go.size_zeroCells,hzs,hul,hl,← Nat.add_mul]
    congr 1
    omega
   ·simp only [Array.toList_append,List.append_assoc]
    rw [← List.append_assoc,← hlen]
    exact List.take_left
  have rest : ∀ (o : Obj),(w.drew.alloc o).os = w.os ∧ (w.drew.alloc o).tape = w.tape ∧ (w.drew.alloc o).output = w.output ∧ w.heap.size ≤ (w.drew.alloc o).heap.size ∧
    (∀ g,g < w.heap.size → blkOf v ≠ some g → (w.drew.alloc o).heap[g]? = w.heap[g]?) ∧ ∀ n c g,blkOf (.slice (some ⟨w.heap.size,0,none⟩) n c) = some g → blkOf v = some g ∨ w.heap.size ≤ g := by
   intro o
   refine ⟨rfl,rfl,rfl,by simp,fun g hg _ => (Grows.alloc w.drew o).keep g hg,fun n c g hg => ?_⟩
   simp only [blkOf] at hg
   split at hg
   ·cases hg
   ·simp only [Option.some.injEq] at hg; omega
  rcases hv with ⟨rfl,a,rfl⟩ | ⟨g,cap,cur,e',rfl,hc0,hg,hnc,hcm,hcs,htake⟩
  ·have hus : us = [] := List.eq_nil_of_length_eq_zero (by simpa using hul)
   subst hus
   simp only [Nat.zero_add,List.nil_append] at *
   cases a with
   | none =>
    have hr := Go.run_append_nil (P := P) w t ty e i z ht hi hz ad m c news hl hnews (by omega) (by omega) (by omega)
    have hgr := grown 0 (by omega)
    simp only [Array.empty_append] at hgr
    obtain ⟨r1,r2,r3,r4,r5,r6⟩ := rest (.cells (news.toArray ++ Builtin.zeroCells z.cells (Go.grownCap w m 0 e - m)) e)
    exact ⟨_,_,hr,hgr,r1,r2,r3,r4,r5,r6 _ _,fun h => absurd h hm⟩
   | some b =>
    have hr := Go.run_append_grow (P := P) w t ty e i z ht hi hz b 0 0 [] (by simp) (by simp) ad m c news hl hnews (by omega) (by omega) (Go.growslice_fits (by omega) (by simpa using hbytes))
    simp only [Nat.zero_add,Array.empty_append] at hr
    have hgr := grown 0 (by omega)
    simp only [Array.empty_append] at hgr
    obtain ⟨r1,r2,r3,r4,r5,r6⟩ := rest (.cells (news.toArray ++ Builtin.zeroCells z.cells (Go.grownCap w m 0 e - m)) e)
    exact ⟨_,_,hr,hgr,r1,r2,r3,r4,r5,r6 _ _,fun h => absurd h hm⟩
  ·have hbl : ∀ k,blkOf (.slice (some ⟨g,0,none⟩) k cap) = some g := by intro k; simp only [blkOf]; rw [if_neg (by omega)]
   by_cases hroom : n + m ≤ cap
   ·have hfit : n * i.size + news.length ≤ cur.size := by rw [hl,hcs,← Nat.add_mul]; exact Nat.mul_le_mul_right _ hroom
    have hr := run_append_room' t ty e e' i ht hi g n cap cur hg ad m c news hl hnews hone hroom hfit
    refine ⟨_,_,hr,⟨hlen,.inr ⟨g,cap,_,e',rfl,hc0,Go.setRow_heap w g cur _ e' _ hg,hroom,hcm,?_,?_⟩⟩,rfl,rfl,rfl,Nat.le_of_eq setRow_size.symm,fun k _ hne => setRow_keep (fun e => hne (by rw [e]; exact hbl _)),fun k hk => .inl ?_,fun h => absurd h hm⟩
    ·simp only [List.size_toArray,List.length_append,List.length_take,List.length_drop,Array.length_toList]
     omega
    ·rw [htake,← hlen]
     exact List.take_left
    ·rw [hbl _] at hk ⊢; exact hk
   ·have hcell : ∀ (j : Nat) u,us[j]? = some u → w.cell? ((⟨g,0,none⟩ : Addr).add j) = some u := by
     intro j u hj
     rw [Go.Addr.add_lit,Nat.zero_add,Go.cell_of_row w g j cur e' _ hg]
     rw [← htake,List.getElem?_take] at hj
     split at hj
     ·simpa using hj
     ·cases hj
    have hr := Go.run_append_grow (P := P) w t ty e i z ht hi hz ⟨g,0,none⟩ n cap us hul hcell ad m c news hl hnews (by omega) (by omega) (Go.growslice_fits (by omega) hbytes)
    obtain ⟨r1,r2,r3,r4,r5,r6⟩ := rest (.cells (us.toArray ++ news.toArray ++ Builtin.zeroCells z.cells (Go.grownCap w (n + m) cap e - (n + m))) e)
    exact ⟨_,_,hr,grown cap (by omega),r1,r2,r3,r4,r5,r6 _ _,fun h => absurd h hm⟩
def FlatRel (ν : Nat → Nat) (w : World) (S : Nat → Prop) (sz : Nat) (ys : List PV) (news : List Value) : Prop :=
 (∀ x ∈ ys,x.cells.length = sz ∧ ∀ c ∈ x.cells,c.one = true) ∧ ∀ i x j c,ys[i]? = some x → x.cells[j]? = some c → RelP ν w S c (news.getD (i * sz + j) undef)
theorem elems_src (hr : Rel N.fn w S μ H) {sz : Nat} {y : Value} {y' : AV} {ys : List PV} (h0 : 0 < sz) (hy : RelV N.fn w S μ H y' y) (hv : elemsOf H sz y' = some ys) :
  ∃ news,Src w y sz ys.length news ∧ FlatRel N.fn w S sz ys news := by
 unfold elemsOf at hv
 split at hv
 ·rename_i k sz' xs
  simp only [Option.ite_none_right_eq_some,Option.some.injEq] at hv
  obtain ⟨hk,rfl⟩ := hv
  have hy := hy.p_inv
  cases hy with
  | sl _ _ _ a cap us h1 h2 h3 h4 h5 h6 h7 h8 =>
  by_cases hne : xs = []
  ·subst hne
   exact ⟨[],⟨by simp,by simp,.inl ⟨a,cap,rfl,rfl⟩⟩,by simp,by simp⟩
  ·obtain ⟨ad,rfl,hS⟩ := h6 hne
   have hsz : sz' = sz := by
    rcases hk with h | h
    ·exact h.symm
    ·exact absurd (h4 (.inl h)).1 hne
   subst hsz
   have get : ∀ t,t < xs.length * sz' → ∃ x c,xs[t / sz']? = some x ∧ x.cells[t % sz']? = some c := by
    intro t ht
    have h9 : t / sz' < xs.length := (Nat.div_lt_iff_lt_mul h0).2 ht
    have h10 := h3 _ (List.getElem_mem h9)
    have h11 : t % sz' < xs[t / sz'].cells.length := by rw [h10.1]; exact Nat.mod_lt _ h0
    exact ⟨_,_,List.getElem?_eq_getElem h9,List.getElem?_eq_getElem h11⟩
   have dm : ∀ i j,j < sz' → (i * sz' + j) / sz' = i ∧ (i * sz' + j) % sz' = j := by
    intro i j hj
    constructor
    ·rw [Nat.add_comm,Nat.add_mul_div_right _ _ h0,Nat.div_eq_of_lt hj,Nat.zero_add]
    ·rw [Nat.add_comm,Nat.add_mul_mod_self_right,Nat.mod_eq_of_lt hj]
   refine ⟨(List.range (xs.length * sz')).map fun t => us (t / sz') (t % sz'),⟨by simp,fun u hu => ?_,.inr ⟨ad,cap,rfl,fun j u hu => ?_⟩⟩,h3,fun i x j c hx hc => ?_⟩
   ·obtain ⟨t,ht,rfl⟩ := List.mem_map.1 hu
    obtain ⟨x,c,hx,hc⟩ := get t (by simpa using ht)
    rw [(h8 _ _ _ _ hx hc).one]
    exact (h3 x (List.mem_of_getElem? hx)).2 c (List.mem_of_getElem? hc)
   ·rw [List.getElem?_map] at hu
    obtain ⟨t,ht,rfl⟩ := Option.map_eq_some_iff.1 hu
    obtain ⟨hlt,rfl⟩ : j < xs.length * sz' ∧ j = t := by
     have := List.getElem?_eq_some_iff.1 ht
     obtain ⟨h9,h10⟩ := this
     simp at h9 h10
     exact ⟨h9,h10⟩
    obtain ⟨x,c,hx,hc⟩ := get j hlt
    have := h7 ad rfl _ _ _ _ hx hc
    rwa [show j / sz' * sz' + j % sz' = j by rw [Nat.mul_comm]; exact Nat.div_add_mod j sz'] at this
   ·have hj : j < sz' := by rw [← (h3 x (List.mem_of_getElem? hx)).1]; exact (List.getElem?_eq_some_iff.1 hc).1
    have hi : i < xs.length := (List.getElem?_eq_some_iff.1 hx).1
    have hlt : i * sz' + j < xs.length * sz' := by
     calc i * sz' + j < i * sz' + sz' := by omega
      _ = (i + 1) * sz' := by rw [Nat.add_mul,Nat.one_mul]
      _ ≤ xs.length * sz' := Nat.mul_le_mul_right _ hi
    rw [List.getD_eq_getElem?_getD,List.getElem?_map,List.getElem?_range hlt]
    simp only [Option.map_some,Option.getD_some]
    rw [(dm i j hj).1,(dm i j hj).2]
    exact h8 _ _ _ _ hx hc
 ·rename_i id n
  obtain ⟨⟨sz',xs⟩,hb,hv⟩ := Option.bind_eq_some_iff.1 hv
  simp only [Option.ite_none_right_eq_some,Option.some.injEq] at hv
  obtain ⟨rfl,rfl⟩ := hv
  rw [hy.own_inv hb]
  obtain ⟨f,h1,h2⟩ := rowOf_spec hb
  obtain ⟨_,_,us,h3,h4,h5,_⟩ := hr.blk id _ h1
  have h3' := h3
  obtain ⟨hul,h3⟩ := h3
  have hone : ∀ u ∈ us,u.oneCell' = true := by
   intro u hu
   obtain ⟨t,ht⟩ := List.getElem?_of_mem hu
   have hlt : t < xs.length * sz := by rw [← hul]; exact (List.getElem?_eq_some_iff.1 ht).1
   have h9 : t / sz < xs.length := (Nat.div_lt_iff_lt_mul h0).2 hlt
   have h10 := h4 _ (List.getElem_mem h9)
   have h11 : t % sz < xs[t / sz].cells.length := by rw [h10.1]; exact Nat.mod_lt _ h0
   have := h5 _ _ _ _ (List.getElem?_eq_getElem h9) (List.getElem?_eq_getElem h11)
   rw [show t / sz * sz + t % sz = t by rw [Nat.mul_comm]; exact Nat.div_add_mod t sz,List.getD_eq_getElem?_getD,ht] at this
   simp only [Option.getD_some] at this
   rw [this.one]
   exact h10.2 _ (List.getElem_mem h11)
  refine ⟨us,⟨hul,hone,?_⟩,h4,h5⟩
  rcases h3 with ⟨h6,a,h7⟩ | ⟨g,cap,cur,e',h6,_⟩
  ·exact .inl ⟨a,0,by rw [h7,h6],h6⟩
  ·refine .inr ⟨_,cap,h6,fun j u hu => ?_⟩
   have hlt : j < xs.length * sz := by rw [← hul]; exact (List.getElem?_eq_some_iff.1 hu).1
   rw [Go.Addr.add_lit,Nat.zero_add,row_cell h3' h6 hlt,List.getD_eq_getElem?_getD,hu]
   rfl
 ·cases hv
theorem FlatRel.keep {ν : Nat → Nat} {w' : World} {sz : Nat} {ys : List PV} {news : List Value} (h : FlatRel ν w S sz ys news) (hw : ∀ g,S g → w'.heap[g]? = w.heap[g]?) : FlatRel ν w' S sz ys news :=
 ⟨h.1,fun i x j c hx hc => (h.2 i x j c hx hc).keep (fun _ h => h) hw⟩
theorem FlatRel.append {ν : Nat → Nat} {sz : Nat} {xs ys : List PV} {us news : List Value} (hx : FlatRel ν w S sz xs us) (hy : FlatRel ν w S sz ys news) (hl : us.length = xs.length * sz) : FlatRel ν w S sz (xs ++ ys) (us ++ news) := by
 refine ⟨fun x h => ?_,fun i x j c hi hc => ?_⟩
 ·rcases List.mem_append.1 h with h | h
  ·exact hx.1 x h
  ·exact hy.1 x h
 ·by_cases h : i < xs.length
  ·rw [List.getElem?_append_left h] at hi
   have hj : j < sz := by rw [← (hx.1 x (List.mem_of_getElem? hi)).1]; exact (List.getElem?_eq_some_iff.1 hc).1
   have hlt : i * sz + j < us.length := by
    rw [hl]
    calc i * sz + j < i * sz + sz := by omega
     _ = (i + 1) * sz := by rw [Nat.add_mul,Nat.one_mul]
     _ ≤ xs.length * sz := Nat.mul_le_mul_right _ h
   rw [List.getD_eq_getElem?_getD,List.getElem?_append_left hlt,← List.getD_eq_getElem?_getD]
   exact hx.2 i x j c hi hc
  ·rw [List.getElem?_append_right (by omega)] at hi
   have e : i * sz + j = us.length + ((i - xs.length) * sz + j) := by
    rw [hl,← Nat.add_assoc,← Nat.add_mul]
    congr 2
    omega
   rw [e,List.getD_eq_getElem?_getD,List.getElem?_append_right (by omega),Nat.add_sub_cancel_left,← List.getD_eq_getElem?_getD]
   exact hy.2 _ x j c hi hc
theorem step_newrow (hr : Rel N.fn w S μ H) {w' : World} {v : Value} {sz : Nat} {xs : List PV} {us : List Value} (hg : Grows w w') (h0 : 0 < sz) (hlim : xs.length ≤ lim) (hrow : RowAt w' v sz xs.length us) (hf : FlatRel N.fn w' S sz xs us)
  (hn : ∀ g,blkOf v = some g → w.heap.size ≤ g) :
  ∃ μ',Step N.fn w S μ H w' S μ' (H ++ [.row false sz xs]) ∧ RelV N.fn w' S μ' (H ++ [.row false sz xs]) (.own H.length xs.length) v := by
 refine ⟨upd μ H.length v,Step.push hr hg ⟨h0,hlim,us,by rw [upd_same]; exact hrow,hf.1,hf.2,fun h => by cases h⟩ hn,?_⟩
 refine .own _ _ _ (by simp) (fun f sz' xs' h => ?_) ?_
 ·rw [List.getElem?_append_right (Nat.le_refl _)] at h
  simp only [Nat.sub_self,List.getElem?_cons_zero,Option.some.injEq,Blk.row.injEq] at h
  obtain ⟨_,_,rfl⟩ := h
  exact ⟨Nat.le_refl _,fun _ => upd_same.symm⟩
 ·obtain ⟨_,h⟩ := hrow
  rcases h with ⟨_,a,h⟩ | ⟨g,cap,cur,e,h,_⟩ <;> rw [h] <;> rfl
theorem x_newrow (hr : Rel N.fn w S μ H) {sz : Nat} (h0 : 0 < sz) : ∃ μ',Step N.fn w S μ H w S μ' (H ++ [.row false sz []]) ∧ RelV N.fn w S μ' (H ++ [.row false sz []]) (.own H.length 0) (.slice none 0 0) :=
 step_newrow hr (us := []) (Grows.refl w) h0 (Nat.zero_le _) ⟨by simp,.inl ⟨rfl,none,rfl⟩⟩ ⟨by simp,by simp⟩ (by intro g h; cases h)
theorem x_appendA (hr : Rel N.fn w S μ H) {t ty e : TypeId} {i : Go.TypeInfo} {z : Value} {sz : Nat} {x y : Value} {x' : AV} {ys : List PV} {news : List Value} {r : AV × Heap} (ht : P.underlying t = some (.slice e)) (hi : P.info? e = some i) (hz : i.zero = some z)
  (hsz : i.size = sz) (hzs : z.cells.size = sz) (h0 : 0 < sz) (hb : i.bytes ≤ 65536) (hx : RelV N.fn w S μ H x' x) (hs : Src w y sz ys.length news) (hf : FlatRel N.fn w S sz ys news) (hv : appendA H sz x' ys = some r) :
  ∃ v' w' μ',(Builtin.append_ #[t,t] ty #[x,y]).run P w = .ok v' w' ∧ Step N.fn w S μ H w' S μ' r.2 ∧ RelV N.fn w' S μ' r.2 r.1 v' := by
 unfold appendA at hv
 split at hv
 ·rename_i id n
  split at hv
  rotate_left
  ·cases hv
  rename_i sz' xs hb'
  simp only [Option.ite_none_right_eq_some,Option.some.injEq] at hv
  obtain ⟨⟨rfl,rfl,hlim⟩,rfl⟩ := hv
  have hrow : rowOf H id xs.length = some (sz',xs) := by simp [rowOf,hb']
  rw [hx.own_inv hrow]
  obtain ⟨_,_,us,h3,h4,h5,_⟩ := hr.blk id _ hb'
  rw [List.length_append] at hlim
  obtain ⟨v',w',r1,r2,r3,r4,r5,r6,r7,r8,r9⟩ := run_append_row (ty := ty) ht hi hz hsz hzs h0 h3 hs hlim hb
  have hm : Moves μ H (upd μ id v') (H.set id (.row false sz' (xs ++ ys))) := moves_set_row hb' (by simp) (fun h => r9 (by simpa using h))
  have keepS : ∀ g,S g → w'.heap[g]? = w.heap[g]? := fun g hg => r7 g (hr.lt g hg) (fun e => hr.apart g (alive_iff.2 ⟨id,_,hb',.inr ⟨sz',xs,rfl⟩,e⟩) hg)
  have hfl : FlatRel N.fn w' S sz' (xs ++ ys) (us ++ news) := (FlatRel.append ⟨h4,h5⟩ hf h3.1).keep keepS
  have hlt := (List.getElem?_eq_some_iff.1 hb').1
  refine ⟨v',w',upd μ id v',r1,Step.set hr hb' (.inr ⟨sz',xs,rfl⟩) r3 r4 r5 r6 r7 hm ⟨h0,by simpa using hlim,us ++ news,by rw [upd_same,List.length_append]; exact r2,hfl.1,hfl.2,fun h => by cases h⟩ r8,?_⟩
  refine .own _ _ _ (by simpa using hlt) (fun f sz2 xs2 h => ?_) ?_
  ·simp only [List.getElem?_set,hlt,if_true,Option.some.injEq,Blk.row.injEq] at h
   obtain ⟨_,_,rfl⟩ := h
   exact ⟨Nat.le_refl _,fun _ => upd_same.symm⟩
  ·obtain ⟨_,h⟩ := r2
   rcases h with ⟨_,a,h⟩ | ⟨g,cap,cur,e,h,_⟩ <;> rw [h] <;> rfl
 ·rename_i k sz' xs
  simp only [Option.ite_none_right_eq_some] at hv
  obtain ⟨⟨hk,hlim⟩,hv⟩ := hv
  have hx := hx.p_inv
  have hx2 := hx
  cases hx with
  | sl _ _ _ a cap us h1 h2 h3 h4 h5 h6 h7 h8 =>
  split at hv
  ·
   simp only [Option.some.injEq] at hv
   subst hv
   have hcap : cap = 0 := by
    rcases hk with h | ⟨h,_⟩
    ·exact (h4 (.inl h)).2.2
    ·exact (h5 (.inl h)).2 h
   subst hcap
   have hrow : RowAt w (.slice a 0 0) sz 0 [] := ⟨by simp,.inl ⟨rfl,a,rfl⟩⟩
   simp only [List.nil_append] at hlim
   obtain ⟨v',w',r1,r2,r3,r4,r5,r6,r7,r8,r9⟩ := run_append_row (ty := ty) ht hi hz hsz hzs h0 hrow hs (by omega) hb
   have hg : Grows w w' := ⟨r3,r4,r5,r6,fun g hg => r7 g hg (by cases a <;> simp [blkOf])⟩
   rw [Nat.zero_add,List.nil_append] at r2
   obtain ⟨μ',s1,s2⟩ := step_newrow hr hg h0 hlim r2 (hf.keep (hr.keepS hg)) (fun g hg => by
    rcases r8 g hg with h | h
    ·cases a <;> simp [blkOf] at h
    ·exact h)
   exact ⟨v',w',μ',r1,s1,s2⟩
  ·
   simp only [Option.some.injEq] at hv
   subst hv
   obtain ⟨_,_,hy⟩ := hs
   obtain ⟨b,c,rfl⟩ : ∃ b c,y = .slice b 0 c := by
    rcases hy with ⟨b,c,h,_⟩ | ⟨ad,c,h,_⟩
    ·exact ⟨b,c,h⟩
    ·exact ⟨_,c,h⟩
   exact ⟨_,w,μ,run_append_zero ht hi _ _ _ h1 b c,⟨hr,Ext.refl,.refl⟩,.p _ _ hx2⟩
  ·rename_i x0 xs0 y0 ys0
   simp only [Option.some.injEq] at hv
   subst hv
   have hk : k = .tight ∧ sz' = sz := by
    rcases hk with h | h
    ·exact absurd (h4 (.inl h)).1 (by simp)
    ·exact h
   obtain ⟨rfl,rfl⟩ := hk
   have hcap := (h5 (.inl rfl)).2 rfl
   subst hcap
   obtain ⟨ad,rfl,hS⟩ := h6 (by simp)
   obtain ⟨news0,g1,g2⟩ := elems_src (N := N) (μ := μ) (H := H) hr (y' := .p (.sl .tight sz' (x0 :: xs0))) h0 (.p _ _ hx2) (by simp [elemsOf]; rfl)
   obtain ⟨hl,hone,hy⟩ := hs
   obtain ⟨ad2,c,rfl,hnews⟩ : ∃ ad c,y = .slice (some ad) (y0 :: ys0).length c ∧ ∀ (j : Nat) u,news[j]? = some u → w.cell? (ad.add j) = some u := by
    rcases hy with ⟨a,c,_,h⟩ | h
    ·cases h
    ·exact h
   obtain ⟨gl,gone,hg⟩ := g1
   obtain ⟨ad3,c3,e3,holds⟩ : ∃ ad' c,Value.slice (some ad) (x0 :: xs0).length (x0 :: xs0).length = .slice (some ad') (x0 :: xs0).length c ∧ ∀ (j : Nat) u,news0[j]? = some u → w.cell? (ad'.add j) = some u := by
    rcases hg with ⟨a,c,_,h⟩ | h
    ·cases h
    ·exact h
   cases e3
   subst hsz
   have lim_eq : lim = 1073741824 := rfl
   rw [List.length_append] at hlim
   have hbytes : ((x0 :: xs0).length + (y0 :: ys0).length) * i.bytes ≤ 140737488355328 := by
    calc ((x0 :: xs0).length + (y0 :: ys0).length) * i.bytes ≤ 1073741824 * 65536 := Nat.mul_le_mul (by omega) hb
     _ ≤ 140737488355328 := by decide
   have hlt : (x0 :: xs0).length < (x0 :: xs0).length + (y0 :: ys0).length := by simp
   have hrun := Go.run_append_grow (P := P) w t ty e i z ht hi hz ad _ _ news0 gl holds ad2 _ c news hl hnews hlt (by omega) (Go.growslice_fits hlt hbytes)
   have hge := Go.grownCap_ge w ((x0 :: xs0).length + (y0 :: ys0).length) (x0 :: xs0).length e
   have hcm : Go.grownCap w ((x0 :: xs0).length + (y0 :: ys0).length) (x0 :: xs0).length e ≤ maxLen := Go.grownCap_le_maxLen w _ _ e (by simp only [maxLen]; omega)
   have hgr : Grows w (w.drew.alloc (.cells (news0.toArray ++ news.toArray ++ Builtin.zeroCells z.cells (Go.grownCap w ((x0 :: xs0).length + (y0 :: ys0).length) (x0 :: xs0).length e - ((x0 :: xs0).length + (y0 :: ys0).length))) e)) := (Grows.drew w).trans (Grows.alloc w.drew _)
   have hrow : RowAt (w.drew.alloc (.cells (news0.toArray ++ news.toArray ++ Builtin.zeroCells z.cells (Go.grownCap w ((x0 :: xs0).length + (y0 :: ys0).length) (x0 :: xs0).length e - ((x0 :: xs0).length + (y0 :: ys0).length))) e))
     (.slice (some ⟨w.heap.size,0,none⟩) ((x0 :: xs0).length + (y0 :: ys0).length) (Go.grownCap w ((x0 :: xs0).length + (y0 :: ys0).length) (x0 :: xs0).length e)) i.size (x0 :: xs0 ++ y0 :: ys0).length (news0 ++ news) := by
    have hlen : (news0 ++ news).length = ((x0 :: xs0).length + (y0 :: ys0).length) * i.size := by rw [List.length_append,gl,hl,Nat.add_mul]
    rw [List.length_append]
    refine ⟨hlen,.inr ⟨w.heap.size,_,_,e,rfl,by omega,Go.heap_alloc_new w.drew _,hge,hcm,?_,?_⟩⟩
    ·simp only [Array.size_append,List.size_toArray,Go.size_zeroCells,hzs,gl,hl,← Nat.add_mul]
     congr 1
     omega
    ·simp only [Array.toList_append,List.append_assoc]
     rw [← List.append_assoc,← hlen]
     exact List.take_left
   obtain ⟨μ',s1,s2⟩ := step_newrow hr hgr h0 (by rw [List.length_append]; exact hlim) hrow ((FlatRel.append g2 hf gl).keep (hr.keepS hgr)) (fun g hg => by
    simp only [blkOf] at hg
    split at hg
    ·cases hg
    ·simp only [Option.some.injEq] at hg; omega)
   exact ⟨_,_,μ',hrun,s1,by simpa using s2⟩
 ·cases hv
end
end Ab
