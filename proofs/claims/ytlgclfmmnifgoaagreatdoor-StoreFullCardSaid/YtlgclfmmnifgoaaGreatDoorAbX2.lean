import Derived.Test.YtlgclfmmnifgoaaGreatDoorAbQ2
import Derived.Laws.BytesArg
import Derived.Laws.CopyOwn
namespace Ab
def All2 {α β : Type} (R : α → β → Prop) : List α → List β → Prop
 | [],[] => True
 | x :: xs,y :: ys => R x y ∧ All2 R xs ys
 | _,_ => False
theorem All2.imp {α β : Type} {R R' : α → β → Prop} (h : ∀ x y,R x y → R' x y) : ∀ {xs ys},All2 R xs ys → All2 R' xs ys
 | [],[],_ => trivial
 | _ :: _,_ :: _,⟨h1,h2⟩ => ⟨h _ _ h1,All2.imp h h2⟩
 | [],_ :: _,h => h.elim
 | _ :: _,[],h => h.elim
open Go (IntKind BinOp UnOp World Value Addr Obj undef maxLen Program TypeId Oper Op Operand Act Sem Next Result execOp Builtin)
section
variable {Γ : Ctx} {N : Names} {P : Program} {w : World} {S : Nat → Prop} {μ : Nat → Value} {H : Heap} {σ : Nat → AV} {a : Act}
theorem foldl_set (off : Nat) : ∀ (l : List Value) (k : Nat) (cs : Array Value),off + k + l.length ≤ cs.size →
  ((l.zipIdx k).foldl (fun cs (x : Value × Nat) => cs.setIfInBounds (off + x.2) x.1) cs).size = cs.size ∧
  ∀ j,((l.zipIdx k).foldl (fun cs (x : Value × Nat) => cs.setIfInBounds (off + x.2) x.1) cs).getD j undef = if off + k ≤ j ∧ j < off + k + l.length then l.getD (j - (off + k)) undef else cs.getD j undef
 | [],k,cs,_ => ⟨rfl,fun j => by simp; omega⟩
 | v :: l,k,cs,h => by
  simp only [List.length_cons] at h
  obtain ⟨h1,h2⟩ := foldl_set off l (k + 1) (cs.setIfInBounds (off + k) v) (by simp; omega)
  simp only [List.zipIdx_cons,List.foldl_cons]
  refine ⟨by rw [h1]; simp,fun j => ?_⟩
  rw [h2 j]
  by_cases hj : j = off + k
  ·subst hj
   rw [if_neg (by omega),if_pos (by simp)]
   have : off + k < cs.size := by omega
   simp [Array.getD_eq_getD_getElem?,this]
  ·by_cases hj2 : off + (k + 1) ≤ j ∧ j < off + (k + 1) + l.length
   ·rw [if_pos hj2,if_pos (by simp only [List.length_cons]; omega)]
    rw [show j - (off + k) = (j - (off + (k + 1))) + 1 by omega]
    simp
   ·rw [if_neg hj2,if_neg (by simp only [List.length_cons]; omega)]
    simp only [Array.getD_eq_getD_getElem?]
    rw [Array.getElem?_setIfInBounds_ne (by omega)]
structure CellsRel (ν : Nat → Nat) (w : World) (S : Nat → Prop) (μ : Nat → Value) (H : Heap) (cs : List AV) (us : Array Value) : Prop where
 size : us.size = cs.length
 one : ∀ c ∈ cs,c.one = true
 rel : ∀ j c,cs[j]? = some c → RelV ν w S μ H c (us.getD j undef)
theorem fF (place : Nat → Option (Nat × Nat)) : ∀ (parts : List (Nat × Value)) (parts' : List (Nat × Nat × AV)) (cs res : List AV) (us : Array Value),CellsRel N.fn w S μ H cs us →
  All2 (fun (x : Nat × Value) (y : Nat × Nat × AV) => place x.1 = some (y.1,y.2.1) ∧ RelV N.fn w S μ H y.2.2 x.2) parts parts' → eX cs parts' = some res →
  ∃ us',Go.Instr.fill place us parts = some us' ∧ CellsRel N.fn w S μ H res us'
 | [],[],cs,res,us,h,_,hv => by
  simp only [eX,Option.some.injEq] at hv; subst hv
  exact ⟨us,rfl,h⟩
 | (i,v) :: parts,(off,sz,v') :: parts',cs,res,us,h,hf,hv => by
  obtain ⟨⟨hp,hrel⟩,hf⟩ := hf
  simp only [eX,Option.ite_none_right_eq_some] at hv
  obtain ⟨⟨hok,hsz,hle⟩,hv⟩ := hv
  obtain ⟨c1,c2,c3⟩ := hrel.cells hok
  have hsize : v.cells.size = sz := by rw [c1,hsz]
  have e : (decide (v.cells.size ≠ sz) || decide (off + v.cells.size > us.size)) = false := by
   rw [Bool.or_eq_false_iff]
   exact ⟨decide_eq_false (by omega),decide_eq_false (by rw [hsize,h.size]; omega)⟩
  have hfold : (v.cells.zipIdx.foldl (fun cs (x : Value × Nat) => cs.setIfInBounds (off + x.2) x.1) us) = (v.cells.toList.zipIdx 0).foldl (fun cs (x : Value × Nat) => cs.setIfInBounds (off + x.2) x.1) us := by
   rw [← Array.foldl_toList,Array.toList_zipIdx]
  obtain ⟨f1,f2⟩ := foldl_set off v.cells.toList 0 us (by simp only [Array.length_toList]; rw [hsize,h.size]; omega)
  generalize hmid : (v.cells.toList.zipIdx 0).foldl (fun cs (x : Value × Nat) => cs.setIfInBounds (off + x.2) x.1) us = mid at hfold f1 f2
  have hmidrel : CellsRel N.fn w S μ H (cs.take off ++ v'.cells ++ cs.drop (off + sz)) mid := by
   refine ⟨by rw [f1,h.size]; simp only [List.length_append,List.length_take,List.length_drop]; omega,fun c hc => ?_,fun j c hc => ?_⟩
   ·simp only [List.mem_append] at hc
    rcases hc with (hc | hc) | hc
    ·exact h.one c (List.mem_of_mem_take hc)
    ·exact c2 c hc
    ·exact h.one c (List.mem_of_mem_drop hc)
   ·rw [f2 j]
    simp only [Nat.add_zero,Array.length_toList,hsize]
    have lt : (cs.take off).length = off := by simp; omega
    by_cases hj1 : j < off
    ·rw [if_neg (by omega)]
     rw [List.append_assoc,List.getElem?_append_left (by omega)] at hc
     exact h.rel j c (dZ hc).2
    ·by_cases hj2 : j < off + sz
     ·rw [if_pos (by omega)]
      rw [List.append_assoc,List.getElem?_append_right (by omega),lt,List.getElem?_append_left (by omega)] at hc
      have := c3 _ c hc
      simpa [Array.getD_eq_getD_getElem?,List.getD] using this
     ·rw [if_neg (by omega)]
      rw [List.append_assoc,List.getElem?_append_right (by omega),lt,List.getElem?_append_right (by omega),List.getElem?_drop] at hc
      rw [show off + sz + (j - off - v'.cells.length) = j by omega] at hc
      exact h.rel j c hc
  obtain ⟨us',u1,u2⟩ := fF place parts parts' _ res mid hmidrel hf hv
  refine ⟨us',?_,u2⟩
  simp only [Go.Instr.fill,hp,e,Bool.false_eq_true,if_false]
  rw [hfold]
  exact u1
 | [],_ :: _,_,_,_,_,hf,_ => hf.elim
 | _ :: _,[],_,_,_,_,hf,_ => hf.elim
theorem fd {vs : List Value} {ps : List PV} (h : lO vs ps = true) : CellsRel N.fn w S μ H (ps.map .p) vs.toArray := by
 obtain ⟨h1,h2,h3⟩ := fV (ν := N.fn) (w := w) (S := S) h
 refine ⟨by simp [h1],fun c hc => ?_,fun j c hc => ?_⟩
 ·obtain ⟨x,hx,rfl⟩ := List.mem_map.1 hc
  exact h2 x hx
 ·rw [List.getElem?_map] at hc
  obtain ⟨x,hx,rfl⟩ := Option.map_eq_some_iff.1 hc
  exact .p _ _ (by simpa using h3 j x hx)
def oP (P : Program) (T : TypeId) (zero : List PV) : Bool :=
 match (P.info? T).bind (·.zero) with
 | some z => lO z.cells.toList zero
 | none => false
theorem lD {T zero} (h : oP P T zero = true) : ∃ z,(∀ w,(Go.zeroValue T).run P w = .ok z w) ∧ CellsRel N.fn w S μ H (zero.map .p) z.cells := by
 unfold oP at h
 split at h
 ·rename_i z hz
  obtain ⟨i,hi,hz⟩ := Option.bind_eq_some_iff.1 hz
  exact ⟨z,fun w => by simp [Go.zeroValue,Go.typeInfo,hi,hz],by have := fd (N := N) (w := w) (S := S) (μ := μ) (H := H) h; simpa using this⟩
 ·cases h
def sr (P : Program) (T : TypeId) (i : Nat) : Option (Nat × Nat) :=
 match P.underlying T with
 | some (.struct fs) => (fs[i]?).bind fun f => ((P.info? f.type).map (·.size)).map fun s => (f.offset,s)
 | some (.array _ e) => ((P.info? e).map (·.size)).map fun s => (i * s,s)
 | _ => none
def jA (P : Program) (T : TypeId) : Bool :=
 match P.underlying T with
 | some (.struct fs) => fs.all fun f => (P.info? f.type).isSome
 | some (.array _ e) => (P.info? e).isSome
 | _ => false
theorem run_places (fs : Array Go.Field) (h : fs.all (fun f => (P.info? f.type).isSome) = true) :
  ∃ ps : Array (Nat × Nat),(fs.mapM fun (f : Go.Field) => (do pure (f.offset,← Go.sizeOf f.type) : Sem (Nat × Nat))).run P w = .ok ps w ∧ ∀ i : Nat,ps[i]? = (fs[i]?).bind fun (f : Go.Field) => ((P.info? f.type).map (·.size)).map fun s => (f.offset,s) := by
 have key : ∀ (l : List Go.Field),(∀ f ∈ l,(P.info? f.type).isSome = true) →
   (l.mapM fun (f : Go.Field) => (do pure (f.offset,← Go.sizeOf f.type) : Sem (Nat × Nat))).run P w = .ok (l.map fun f => (f.offset,((P.info? f.type).map (·.size)).getD 0)) w := by
  intro l
  induction l with
  | nil => intro _; simp
  | cons f l ih =>
   intro hl
   obtain ⟨i,hi⟩ := Option.isSome_iff_exists.1 (hl f (by simp))
   rw [List.mapM_cons]
   simp only [Go.Sem.run_bind,run_sizeOf (P := P) (w := w) (sz := i.size) (T := f.type) (by rw [hi]; rfl),Go.Result.andThen_ok,Go.Sem.run_pure,ih (fun x hx => hl x (by simp [hx]))]
   simp [hi]
 refine ⟨(fs.toList.map fun f => (f.offset,((P.info? f.type).map (·.size)).getD 0)).toArray,?_,fun i => ?_⟩
 ·have := key fs.toList (fun f hf => by simpa using Array.all_eq_true'.1 h f (by simpa using hf))
  rw [← Array.toArray_toList (xs := fs),List.mapM_toArray] 
  simp only [Go.Sem.run_map,this]
  simp
 ·simp only [List.getElem?_toArray,List.getElem?_map,Array.getElem?_toList]
  cases hf : fs[i]? with
  | none => rfl
  | some f =>
   have : (P.info? f.type).isSome = true := by simpa using Array.all_eq_true'.1 h f (Array.mem_of_getElem? hf)
   obtain ⟨j,hj⟩ := Option.isSome_iff_exists.1 this
   simp [hj]
theorem q_build {T : TypeId} {zero : List PV} {parts : List (Nat × Value)} {parts' : List (Nat × Nat × AV)} {res : List AV} (hz : oP P T zero = true) (hk : jA P T = true)
  (hp : All2 (fun (x : Nat × Value) (y : Nat × Nat × AV) => sr P T x.1 = some (y.1,y.2.1) ∧ RelV N.fn w S μ H y.2.2 x.2) parts parts') (hv : eX (zero.map .p) parts' = some res) :
  ∃ u,(Go.Instr.build T parts.toArray).run P w = .ok u w ∧ RelV N.fn w S μ H (mkAgg res) u := by
 obtain ⟨z,z1,z2⟩ := lD (N := N) (w := w) (S := S) (μ := μ) (H := H) hz
 unfold jA at hk
 split at hk
 ·rename_i fs hfs
  obtain ⟨ps,p1,p2⟩ := run_places (w := w) fs hk
  have e : ∀ i : Nat,ps[i]? = sr P T i := fun i => by rw [p2 i]; simp [sr,hfs]
  obtain ⟨us',f1,f2⟩ := fF (fun i => ps[i]?) parts parts' _ res z.cells z2 (All2.imp (fun x y h => ⟨by rw [e]; exact h.1,h.2⟩) hp) hv
  refine ⟨.agg us',?_,RelV.mkAgg f2.size f2.one f2.rel⟩
  simp only [Go.Instr.build,Go.Sem.run_bind,z1,Go.Result.andThen_ok,Go.run_underlying hfs,p1,f1,Go.Sem.run_pure]
 ·rename_i n e hfs
  obtain ⟨i,hi⟩ := Option.isSome_iff_exists.1 hk
  obtain ⟨us',f1,f2⟩ := fF (fun k => some (k * i.size,i.size)) parts parts' _ res z.cells z2 (All2.imp (fun x y h => ⟨by rw [← h.1]; simp [sr,hfs,hi],h.2⟩) hp) hv
  refine ⟨.agg us',?_,RelV.mkAgg f2.size f2.one f2.rel⟩
  simp [Go.Instr.build,z1,Go.run_underlying hfs,run_sizeOf (P := P) (w := w) (T := e) (sz := i.size) (by rw [hi]; rfl),f1]
 ·cases hk
theorem jM {cs : List AV} {ps : List PV} {us : Array Value} (hp : dH cs = some ps) (h : CellsRel N.fn w S μ H cs us) :
  us.size = ps.length ∧ (∀ c ∈ ps,c.one = true) ∧ ∀ j c,ps[j]? = some c → RelP N.fn w S c (us.getD j undef) := by
 have e := dJ hp
 subst e
 refine ⟨by simpa using h.size,fun c hc => h.one (.p c) (List.mem_map_of_mem hc),fun j c hc => ?_⟩
 exact (h.rel j (.p c) (by rw [List.getElem?_map,hc]; rfl)).p_inv
theorem jv {sz : Nat} {ag : Bool} (hag : ag = false → sz = 1) : ∀ (n : Nat) (ps : List PV),ps.length = n * sz → (∀ c ∈ ps,c.one = true) →
  (chunks sz ag n ps).length = n ∧ ∀ i x,(chunks sz ag n ps)[i]? = some x → x.cells.length = sz ∧ (∀ c ∈ x.cells,c.one = true) ∧ ∀ j c,x.cells[j]? = some c → ps[i * sz + j]? = some c
 | 0,ps,_,_ => ⟨rfl,by simp [chunks]⟩
 | n + 1,ps,h,h1 => by
  have hl : ps.length = n * sz + sz := by rw [h,Nat.add_mul,Nat.one_mul]
  obtain ⟨i1,i2⟩ := jv hag n (ps.drop sz) (by simp; omega) (fun c hc => h1 c (List.mem_of_mem_drop hc))
  refine ⟨by simp [chunks,i1],fun i x hx => ?_⟩
  cases i with
  | zero =>
   simp only [chunks,List.getElem?_cons_zero,Option.some.injEq] at hx
   cases ag with
   | true =>
    simp only [if_true] at hx
    subst hx
    refine ⟨by simp [PV.cells]; omega,fun c hc => h1 c (List.mem_of_mem_take hc),fun j c hc => ?_⟩
    simp only [PV.cells] at hc
    simpa using (dZ hc).2
   | false =>
    have := hag rfl
    subst this
    simp only [Bool.false_eq_true,if_false] at hx
    match ps,hl,h1 with
    | c0 :: ps,_,h1 =>
     simp only [List.headD_cons] at hx
     subst hx
     have ho := h1 c0 (by simp)
     rw [PV.cells_one ho]
     refine ⟨rfl,by simpa using ho,fun j c hc => ?_⟩
     cases j with
     | zero => simpa using hc
     | succ j => simp at hc
    | [],hl,_ => simp at hl
  | succ i =>
   simp only [chunks,List.getElem?_cons_succ] at hx
   obtain ⟨k1,k2,k3⟩ := i2 i x hx
   refine ⟨k1,k2,fun j c hc => ?_⟩
   have := k3 j c hc
   rw [List.getElem?_drop] at this
   rwa [show (i + 1) * sz + j = sz + (i * sz + j) by rw [Nat.add_mul,Nat.one_mul]; omega]
theorem RelP.ofBlock {ν : Nat → Nat} {w' : World} {S' : Nat → Prop} {sz n cap g : Nat} {e : TypeId} {ag : Bool} {ps : List PV} {us : Array Value} {fr : Nat × Nat} {k : SK} (hag : ag = false → sz = 1) (hlen : ps.length = n * sz) (hk : k ≠ .nil)
  (hcap : n ≤ cap) (hm : cap ≤ maxLen) (ht : k = .tight → cap = n) (hS : S' g) (hw : w'.heap[g]? = some (.cells us e fr)) (hu : n * sz ≤ us.size) (h1 : ∀ c ∈ ps,c.one = true)
  (h2 : ∀ (j : Nat) c,ps[j]? = some c → RelP ν w' S' c (us.getD j undef)) : RelP ν w' S' (.sl k sz (chunks sz ag n ps)) (.slice (some ⟨g,0,none⟩) n cap) := by
 obtain ⟨c1,c2⟩ := jv (ag := ag) hag n ps hlen h1
 have key : RelP ν w' S' (.sl k sz (chunks sz ag n ps)) (.slice (some ⟨g,0,none⟩) (chunks sz ag n ps).length cap) := by
  refine .sl _ _ _ _ _ (fun i j => us.getD (i * sz + j) undef) (by omega) hm (fun x hx => ?_) (fun h => h.elim (fun h => absurd h hk) (fun h => by cases h)) (fun h => ⟨rfl,fun h => by rw [ht h,c1]⟩) (fun _ => ⟨_,rfl,hS⟩) (fun ad had i x j c hx hc => ?_) (fun i x j c hx hc => ?_)
  ·obtain ⟨i,hi⟩ := List.getElem?_of_mem hx
   exact ⟨(c2 i x hi).1,(c2 i x hi).2.1⟩
  ·cases had
   have h3 := (c2 i x hx).2.2 j c hc
   have hlt : i * sz + j < us.size := by
    have := (List.getElem?_eq_some_iff.1 h3).1
    omega
   rw [Addr.add_lit,Go.cell_of_row w' g _ us e fr hw]
   simp [hlt]
  ·exact h2 _ _ ((c2 i x hx).2.2 j c hc)
 rwa [c1] at key
def lY (P : Program) (e : TypeId) (m : Nat) (zero : List PV) : Bool :=
 match (P.info? e).bind (·.zero) with
 | some z => lO (if m = 0 then #[] else (Array.range m).map fun i => z.cells[i % z.cells.size]!).toList zero
 | none => false
theorem q_bslice {T e : TypeId} {sz n : Nat} {ag : Bool} {zero : List PV} {parts : List (Nat × Value)} {parts' : List (Nat × Nat × AV)} {v : AV} (hS : ∀ g,S g → g < w.heap.size) (hT : slT P T = some e) (hs : (P.info? e).map (·.size) = some sz)
  (h0sz : 0 < sz) (hag : ag = false → sz = 1) (hn : n * sz ≤ 2 ^ 24) (hz : lY P e (n * sz) zero = true)
  (hp : All2 (fun (x : Nat × Value) (y : Nat × Nat × AV) => (x.1 * sz,sz) = (y.1,y.2.1) ∧ RelV N.fn w S μ H y.2.2 x.2) parts parts') (hv : m8 sz ag n (eX (zero.map .p) parts') = some v) :
  ∃ us,(Go.Instr.buildSlice T n parts.toArray).run P w = .ok (.slice (some ⟨w.heap.size,0,none⟩) n n) (w.alloc (.cells us e)) ∧
   RelV N.fn (w.alloc (.cells us e)) (fun g => S g ∨ g = w.heap.size) μ H v (.slice (some ⟨w.heap.size,0,none⟩) n n) := by
 unfold m8 at hv
 obtain ⟨cs,hf,hv⟩ := Option.bind_eq_some_iff.1 hv
 obtain ⟨ps,hps,hv⟩ := Option.bind_eq_some_iff.1 hv
 simp only [Option.ite_none_right_eq_some,Option.some.injEq] at hv
 obtain ⟨hlen,rfl⟩ := hv
 unfold lY at hz
 split at hz
 rotate_left
 ·cases hz
 rename_i z hzz
 obtain ⟨i,hi,hzi⟩ := Option.bind_eq_some_iff.1 hzz
 have hzc := fd (N := N) (w := w) (S := S) (μ := μ) (H := H) hz
 rw [Array.toArray_toList] at hzc
 obtain ⟨us,f1,f2⟩ := fF (fun k => some (k * sz,sz)) parts parts' _ cs _ hzc (All2.imp (fun x y h => ⟨by rw [← h.1],h.2⟩) hp) hf
 obtain ⟨p1,p2,p3⟩ := jM hps f2
 refine ⟨us,?_,.p _ _ (RelP.ofBlock hag hlen (by simp) (Nat.le_refl _) ?_ (fun _ => rfl) (.inr rfl) (Go.heap_alloc_new w _) (by omega) p2 (fun j c hc => (p3 j c hc).keep (fun _ h => .inl h) (fun g hg => Go.RowKit.Below.heap_alloc w _ g (hS g hg))))⟩
 ·have hn' : ¬ (n * sz > 2 ^ 24) := by omega
  simp only [Go.Instr.buildSlice,Go.Sem.run_bind,Go.run_underlying (bn hT),Go.Result.andThen_ok,run_sizeOf hs,if_neg hn']
  by_cases h0 : n * sz = 0
  ·rw [if_pos h0] at f1
   simp only [h0,if_true]
   rw [Go.Sem.run_bind]
   simp only [Go.Sem.run_pure,Go.Result.andThen_ok]
   have e0 : (Array.range 0).map (fun x => (#[] : Array Value)[x % (#[] : Array Value).size]!) = #[] := by simp
   rw [e0,f1]
   simp [Go.newRow]
  ·rw [if_neg h0] at f1
   simp only [h0,if_false,Go.Sem.run_bind,Go.zeroValue,Go.typeInfo,hi,Go.Sem.run_pure,Go.Result.andThen_ok,hzi,Go.run_program]
   rw [f1]
   simp [Go.newRow]
 ·have : n * 1 ≤ n * sz := Nat.mul_le_mul_left _ h0sz
  simp only [maxLen]
  omega
theorem q_minmax {mx : Bool} {as : List Value} {as' : List AV} {v : AV} {t0 : TypeId} {ts : Array TypeId} (ha : All2 (fun x y => RelV N.fn w S μ H y x) as as') (hv : minmax mx as' = some v) :
  ∃ u,(if mx then Go.Builtin.max_ ts t0 as.toArray else Go.Builtin.min_ ts t0 as.toArray).run P w = .ok u w ∧ RelV N.fn w S μ H v u := by
 unfold minmax at hv
 split at hv
 ·match as,ha with
  | [x,y],⟨h1,h2,_⟩ =>
   rw [RelV.int_inv h1,RelV.int_inv h2]
   simp only [Option.some.injEq] at hv; subst hv
   cases mx
   ·exact ⟨_,by simp [Go.Builtin.min_,Go.Builtin.min2],.p _ _ (.int _ _)⟩
   ·refine ⟨_,?_,.p _ _ (.int _ _)⟩
    simp [Go.Builtin.max_,Go.Builtin.max2]
 ·match as,ha with
  | [x,y,z],⟨h1,h2,h3,_⟩ =>
   rw [RelV.int_inv h1,RelV.int_inv h2,RelV.int_inv h3]
   simp only [Option.some.injEq] at hv; subst hv
   cases mx
   ·exact ⟨_,by simp [Go.Builtin.min_,Go.Builtin.min2],.p _ _ (.int _ _)⟩
   ·refine ⟨_,?_,.p _ _ (.int _ _)⟩
    simp [Go.Builtin.max_,Go.Builtin.max2]
 ·cases hv
theorem q_clos {f : Nat} {cs : List AV} {us : List Value} (ha : All2 (fun x y => RelV N.fn w S μ H y x) us cs) (h1 : ∀ c ∈ cs,c.one = true) : RelV N.fn w S μ H (A8 f cs) (.func (.func (N.fn f)) #[] us.toArray) := by
 have key : ∀ {us : List Value} {cs : List AV},All2 (fun x y => RelV N.fn w S μ H y x) us cs → us.length = cs.length ∧ ∀ j c,cs[j]? = some c → RelV N.fn w S μ H c (us.getD j undef) := by
  intro us
  induction us with
  | nil => intro cs h; cases cs with
   | nil => exact ⟨rfl,by simp⟩
   | cons => exact h.elim
  | cons u us ih => intro cs h; cases cs with
   | nil => exact h.elim
   | cons c cs =>
    obtain ⟨k1,k2⟩ := ih h.2
    refine ⟨by simp [k1],fun j c' hc => ?_⟩
    cases j with
    | zero => simp only [List.getElem?_cons_zero,Option.some.injEq] at hc; subst hc; simpa using h.1
    | succ j => simpa using k2 j c' (by simpa using hc)
 obtain ⟨k1,k2⟩ := key ha
 unfold A8
 split
 ·rename_i ps hp
  have e := dJ hp
  subst e
  refine .p _ _ (.clo _ _ _ (by simpa using k1) (fun c hc => h1 (.p c) (List.mem_map_of_mem hc)) (fun j c hc => ?_))
  have := k2 j (.p c) (by rw [List.getElem?_map,hc]; rfl)
  simpa using this.p_inv
 ·exact .clo _ _ _ (by simpa using k1) h1 (fun j c hc => by simpa using k2 j c hc)
theorem iz : ∀ {xs : List PV} {s},bytesIn xs = some s → ∃ ns : List Int,xs = ns.map (PV.int .u8) ∧ s = ns.map fun n => UInt8.ofNat n.toNat
 | [],s,h => by simp only [bytesIn,Option.some.injEq] at h; subst h; exact ⟨[],rfl,rfl⟩
 | x :: xs,s,h => by
  unfold bytesIn at h
  split at h
  ·rename_i e; cases e
  ·rename_i n r e
   cases e
   obtain ⟨s',h1,rfl⟩ := Option.map_eq_some_iff.1 h
   obtain ⟨ns,h2,h3⟩ := iz h1
   exact ⟨n :: ns,by rw [h2]; rfl,by rw [h3]; rfl⟩
  ·cases h
theorem ov : ∀ (ns : List Int) (l : List UInt8),ns.foldl (fun r n => r.push (UInt8.ofNat n.toNat)) (ByteArray.mk l.toArray) = ⟨(l ++ ns.map fun n => UInt8.ofNat n.toNat).toArray⟩
 | [],l => by simp
 | n :: ns,l => by
  have e : (ByteArray.mk l.toArray).push (UInt8.ofNat n.toNat) = ⟨(l ++ [UInt8.ofNat n.toNat]).toArray⟩ := by
   apply ByteArray.ext
   simp [ByteArray.push]
  rw [List.foldl_cons,e,ov ns]
  simp
theorem iq {s e d : TypeId} {x : Option Addr} {n cap : Nat} {ns : List Int} (hs : slT P s = some e) (he : intT P e = some .u8) (hd : strT P d = true) (hn : ns.length = n)
  (hx : ∀ ad,x = some ad → ∀ j v,ns[j]? = some v → w.cell? (ad.add j) = some (.int .u8 v)) (h0 : x = none → n = 0) :
  (Go.convert s d (.slice x n cap)).run P w = .ok (.string ⟨(ns.map fun n => UInt8.ofNat n.toNat).toArray⟩) w := by
 rw [Go.run_convert_bytes_string w s d e x n cap (bn hs) (g9 he) (cP hd)]
 cases x with
 | none =>
  have := h0 rfl
  subst this
  have : ns = [] := List.eq_nil_of_length_eq_zero hn
  subst this
  simp [Go.Conv.bytesToString]
  rfl
 | some ad =>
  have hl := Go.run_loadCells_list (P := P) w ad (ns.map (Value.int .u8)) (fun j v hj => by
   rw [List.getElem?_map] at hj
   obtain ⟨m,hm,rfl⟩ := Option.map_eq_some_iff.1 hj
   exact hx ad rfl j m hm)
  rw [List.length_map,hn] at hl
  rw [Go.run_bytesToString w ad n cap ns hl]
  have := ov ns []
  simp only [List.nil_append] at this
  rw [← this]
  rfl
theorem q_strOf {s e d : TypeId} {x : Value} {x' v : AV} (hr : Rel N.fn w S μ H) (hs : slT P s = some e) (he : intT P e = some .u8) (hd : strT P d = true) (hx : RelV N.fn w S μ H x' x) (hv : kJ H x' = some v) :
  ∃ u,(Go.convert s d x).run P w = .ok u w ∧ RelV N.fn w S μ H v u := by
 unfold kJ at hv
 split at hv
 ·rename_i k sz xs
  simp only [Option.ite_none_right_eq_some] at hv
  obtain ⟨rfl,hv⟩ := hv
  obtain ⟨t,ht,rfl⟩ := Option.map_eq_some_iff.1 hv
  obtain ⟨ns,rfl,rfl⟩ := iz ht
  have hx := hx.p_inv
  generalize hxs : ns.map (PV.int .u8) = xs at hx
  cases hx with
  | sl _ _ _ a cap us h1 h2 h3 h4 h5 h6 h7 h8 =>
  subst hxs
  refine ⟨_,iq hs he hd (by simp) (fun ad had j m hj => ?_) (fun ha => ?_),.p _ _ (.str _)⟩
  ·have g1 : (ns.map (PV.int .u8))[j]? = some (.int .u8 m) := by rw [List.getElem?_map,hj]; rfl
   have g2 := h7 ad had j _ 0 _ g1 rfl
   rw [(h8 j _ 0 _ g1 rfl).int_inv] at g2
   simpa using g2
  ·by_cases hne : ns = []
   ·subst hne; rfl
   ·obtain ⟨ad,e1,_⟩ := h6 (by simpa using hne)
    rw [ha] at e1; cases e1
 ·rename_i id n
  obtain ⟨⟨sz,xs⟩,hb,hv⟩ := Option.bind_eq_some_iff.1 hv
  simp only [Option.ite_none_right_eq_some] at hv
  obtain ⟨rfl,hv⟩ := hv
  obtain ⟨t,ht,rfl⟩ := Option.map_eq_some_iff.1 hv
  obtain ⟨ns,rfl,rfl⟩ := iz ht
  rw [hx.own_inv hb]
  obtain ⟨f,h1,h2⟩ := aO hb
  obtain ⟨_,_,us,h3,h4,h5,_⟩ := hr.blk id _ h1
  have h3' := h3
  obtain ⟨hl,h3⟩ := h3
  simp only [List.length_map] at h2 h3 hl h3'
  rcases h3 with ⟨h6,a0,h7⟩ | ⟨g,cap,cur,e',h6,_⟩
  ·rw [h7]
   have : ns = [] := List.eq_nil_of_length_eq_zero h6
   subst this
   exact ⟨_,iq (ns := []) hs he hd rfl (by simp) (fun _ => rfl),.p _ _ (.str _)⟩
  ·rw [h6]
   refine ⟨_,iq hs he hd rfl (fun ad had j m hj => ?_) (by simp),.p _ _ (.str _)⟩
   cases had
   have hlt : j < ns.length := (List.getElem?_eq_some_iff.1 hj).1
   rw [Addr.add_lit,Nat.zero_add,iH h3' h6 (by omega)]
   have := h5 j (.int .u8 m) 0 _ (by rw [List.getElem?_map,hj]; rfl) rfl
   simpa using this.int_inv
 ·cases hv
end
end Ab
namespace Ab
open Go (IntKind BinOp UnOp World Value Addr Obj undef maxLen Program TypeId Oper Op Operand Act Sem Next Result execOp Builtin)
structure Step (ν : Nat → Nat) (w : World) (S : Nat → Prop) (μ : Nat → Value) (H : Heap) (w' : World) (S' : Nat → Prop) (μ' : Nat → Value) (H' : Heap) : Prop where
 rel : Rel ν w' S' μ' H'
 ext : Ext w S μ H w' S' μ' H'
 moves : Moves μ H μ' H'
def upd (μ : Nat → Value) (id : Nat) (v : Value) : Nat → Value := fun i => if i = id then v else μ i
@[simp] theorem upd_same {μ id v} : upd μ id v id = v := by simp [upd]
theorem upd_ne {μ id v i} (h : i ≠ id) : upd μ id v i = μ i := by simp [upd,h]
section
variable {ν : Nat → Nat} {w w' : World} {S S' : Nat → Prop} {μ : Nat → Value} {H : Heap}
def bj (b : Blk) : Prop := (∃ cs,b = .box cs) ∨ ∃ sz xs,b = .row false sz xs
theorem alive_iff {g} : alive μ H g ↔ ∃ id b,H[id]? = some b ∧ bj b ∧ au (μ id) = some g := by
 constructor
 ·rintro ⟨id,h1,⟨cs,h2⟩ | ⟨sz,xs,h2⟩⟩
  ·exact ⟨id,_,h2,.inl ⟨cs,rfl⟩,h1⟩
  ·exact ⟨id,_,h2,.inr ⟨sz,xs,rfl⟩,h1⟩
 ·rintro ⟨id,b,h1,⟨cs,rfl⟩ | ⟨sz,xs,rfl⟩,h3⟩
  ·exact ⟨id,h3,.inl ⟨cs,h1⟩⟩
  ·exact ⟨id,h3,.inr ⟨sz,xs,h1⟩⟩
theorem Rel.inj' (hr : Rel ν w S μ H) {i j b c g} (hi : H[i]? = some b) (hj : H[j]? = some c) (ai : bj b) (aj : bj c) (gi : au (μ i) = some g) (gj : au (μ j) = some g) : i = j := by
 refine hr.inj i j g gi gj ?_ ?_
 ·rcases ai with ⟨cs,rfl⟩ | ⟨sz,xs,rfl⟩
  ·exact .inl ⟨cs,hi⟩
  ·exact .inr ⟨sz,xs,hi⟩
 ·rcases aj with ⟨cs,rfl⟩ | ⟨sz,xs,rfl⟩
  ·exact .inl ⟨cs,hj⟩
  ·exact .inr ⟨sz,xs,hj⟩
theorem RowAt.keep {v sz n us} (h : RowAt w v sz n us) (hk : ∀ g,au v = some g → w'.heap[g]? = w.heap[g]?) : RowAt w' v sz n us := by
 obtain ⟨h1,h2⟩ := h
 refine ⟨h1,?_⟩
 rcases h2 with h2 | ⟨g,cap,cur,e,hv,hc,hg,rest⟩
 ·exact .inl h2
 ·refine .inr ⟨g,cap,cur,e,hv,hc,?_,rest⟩
  unfold tw at hg ⊢
  rw [hk g (by rw [hv]; simp [au]; omega)]
  exact hg
theorem BlkRel.keep {μ' : Nat → Value} {H' : Heap} {id : Nat} {b : Blk} (h : BlkRel ν w S μ H id b) (hS : ∀ g,S g → S' g) (hw : ∀ g,S g → w'.heap[g]? = w.heap[g]?) (hm : Moves μ H μ' H') (hμ : μ' id = μ id)
  (hk : ∀ g,au (μ id) = some g → w'.heap[g]? = w.heap[g]?) : BlkRel ν w' S' μ' H' id b := by
 cases b with
 | box cells =>
  obtain ⟨g,h1,⟨cs,t,h2,h3,h4,h5⟩ | ⟨s,pos,h2,h3⟩ | ⟨es,arr,clock,h2,h3,hst,h4,h5⟩⟩ := h
  ·exact ⟨g,by rw [hμ,h1],.inl ⟨cs,t,by rw [hk g (by rw [h1]; rfl)]; exact h2,h3,h4,fun j c hc => (h5 j c hc).keep hS hw hm⟩⟩
  ·exact ⟨g,by rw [hμ,h1],.inr (.inl ⟨s,pos,h2,by rw [hk g (by rw [h1]; rfl)]; exact h3⟩)⟩
  ·exact ⟨g,by rw [hμ,h1],.inr (.inr ⟨es,arr,clock,h2,by rw [hk g (by rw [h1]; rfl)]; exact h3,hst,h4,fun j k v hj => by
    obtain ⟨e,e1,e2,e3,e4⟩ := h5 j k v hj
    exact ⟨e,e1,e2.keep hS hw,e3,e4.keep hS hw hm⟩⟩)⟩
 | row f sz xs =>
  obtain ⟨h0,hl,us,h1,h2,h3,h4⟩ := h
  exact ⟨h0,hl,us,by rw [hμ]; exact h1.keep hk,h2,fun i x j c hx hc => (h3 i x j c hx hc).keep hS hw,fun hf g hg => hS _ (h4 hf g (by rw [← hμ]; exact hg))⟩
 | dead => exact fun g hg => hS _ (h g (by rw [← hμ]; exact hg))
theorem Rel.stable (hr : Rel ν w S μ H) {g} (h : S g) : g < w.heap.size ∧ ¬ alive μ H g := ⟨hr.lt g h,fun ha => hr.apart g ha h⟩
theorem Rel.blk_lt (hr : Rel ν w S μ H) {id b g} (hb : H[id]? = some b) (hg : au (μ id) = some g) : g < w.heap.size := by
 have h := hr.blk id b hb
 cases b with
 | box cells =>
  obtain ⟨g',h1,⟨cs,t,h2,_⟩ | ⟨s,pos,_,h2⟩ | ⟨es,arr,clock,_,h2,_⟩⟩ := h
  ·rw [h1] at hg; cases hg
   exact (Array.getElem?_eq_some_iff.1 h2).1
  ·rw [h1] at hg; cases hg
   exact (Array.getElem?_eq_some_iff.1 h2).1
  ·rw [h1] at hg; cases hg
   exact (Array.getElem?_eq_some_iff.1 h2).1
 | row f sz xs =>
  obtain ⟨_,_,us,⟨_,h1⟩,_⟩ := h
  rcases h1 with ⟨_,a,ha⟩ | ⟨g',cap,cur,e,hv,hc,h2,_⟩
  ·rw [ha] at hg; cases a <;> simp [au] at hg
  ·rw [hv] at hg
   simp only [au] at hg
   rw [if_neg (by omega)] at hg
   cases hg
   obtain ⟨_,h2,_⟩ := h2
   exact (Array.getElem?_eq_some_iff.1 h2).1
 | dead => exact hr.lt g (h g hg)
theorem Step.grow (hr : Rel ν w S μ H) (hg : Grows w w') (hS : ∀ g,S g → S' g) (hlt : ∀ g,S' g → g < w'.heap.size) (hnew : ∀ g,S' g → S g ∨ w.heap.size ≤ g) : Step ν w S μ H w' S' μ H := by
 have keep : ∀ g,S g → w'.heap[g]? = w.heap[g]? := fun g h => hg.keep g (hr.lt g h)
 refine ⟨⟨hlt,fun id b hb => (hr.blk id b hb).keep hS keep .refl rfl (fun g h => hg.keep g (hr.blk_lt hb h)),fun g ha hs => ?_,hr.inj⟩,
  ⟨hg.os,hg.tape,hg.output,hg.size,fun g h _ => hg.keep g h,hS,fun g h hl => ?_,fun g h _ => h⟩,.refl⟩
 ·rcases hnew g hs with h | h
  ·exact hr.apart g ha h
  ·obtain ⟨id,b,hb,_,hb2⟩ := alive_iff.1 ha
   have := hr.blk_lt hb hb2
   omega
 ·rcases hnew g h with h | h
  ·exact .inl h
  ·omega
theorem getElem?_push_lt {α : Type} {l : List α} {x : α} {i : Nat} (h : i < l.length) : (l ++ [x])[i]? = l[i]? := List.getElem?_append_left h
theorem db {v b} : Moves μ H (upd μ H.length v) (H ++ [b]) := by
 refine ⟨by simp,fun id f sz xs hl h => ?_,fun id cs hl h => ?_⟩
 ·rw [getElem?_push_lt hl] at h
  exact ⟨f,xs,h,Nat.le_refl _,fun _ => upd_ne (by omega)⟩
 ·rw [getElem?_push_lt hl] at h
  exact ⟨cs,h,upd_ne (by omega)⟩
theorem Step.push (hr : Rel ν w S μ H) {v : Value} {b : Blk} (hg : Grows w w') (hb : BlkRel ν w' S (upd μ H.length v) (H ++ [b]) H.length b) (hn : ∀ g,au v = some g → w.heap.size ≤ g) :
  Step ν w S μ H w' S (upd μ H.length v) (H ++ [b]) := by
 have keep : ∀ g,S g → w'.heap[g]? = w.heap[g]? := fun g h => hg.keep g (hr.lt g h)
 have old : ∀ (id : Nat) c,(H ++ [b])[id]? = some c → (id < H.length ∧ H[id]? = some c) ∨ (id = H.length ∧ c = b) := by
  intro id c h
  rcases Nat.lt_trichotomy id H.length with hl | hl | hl
  ·rw [getElem?_push_lt hl] at h; exact .inl ⟨hl,h⟩
  ·subst hl; rw [List.getElem?_append_right (Nat.le_refl _)] at h; simp at h; exact .inr ⟨rfl,h.symm⟩
  ·rw [List.getElem?_append_right (by omega)] at h
   have := (List.getElem?_eq_some_iff.1 h).1
   simp at this; omega
 have al : ∀ g,alive (upd μ H.length v) (H ++ [b]) g → alive μ H g ∨ au v = some g := by
  intro g ha
  obtain ⟨id,c,h1,h2,h3⟩ := alive_iff.1 ha
  rcases old id c h1 with ⟨hl,h⟩ | ⟨rfl,rfl⟩
  ·rw [upd_ne (by omega)] at h3; exact .inl (alive_iff.2 ⟨id,c,h,h2,h3⟩)
  ·rw [upd_same] at h3; exact .inr h3
 refine ⟨⟨fun g h => Nat.lt_of_lt_of_le (hr.lt g h) hg.size,fun id c hc => ?_,fun g ha hs => ?_,fun i j g hi hj ai aj => ?_⟩,⟨hg.os,hg.tape,hg.output,hg.size,fun g h _ => hg.keep g h,fun _ h => h,fun g h _ => .inl h,fun g h hl => ?_⟩,db⟩
 ·rcases old id c hc with ⟨hl,h⟩ | ⟨rfl,rfl⟩
  ·exact (hr.blk id c h).keep (fun _ h => h) keep db (upd_ne (by omega)) (fun g hb => hg.keep g (hr.blk_lt h hb))
  ·exact hb
 ·rcases al g ha with h | h
  ·exact hr.apart g h hs
  ·have := hn g h; have := hr.lt g hs; omega
 ·have get : ∀ k : Nat,((∃ cs,(H ++ [b])[k]? = some (Blk.box cs)) ∨ ∃ sz xs,(H ++ [b])[k]? = some (Blk.row false sz xs)) → ∃ c,(H ++ [b])[k]? = some c ∧ bj c := by
   rintro k (⟨cs,h⟩ | ⟨sz,xs,h⟩)
   ·exact ⟨_,h,.inl ⟨cs,rfl⟩⟩
   ·exact ⟨_,h,.inr ⟨sz,xs,rfl⟩⟩
  obtain ⟨c,hc,ac⟩ := get i ai
  obtain ⟨d,hd,ad⟩ := get j aj
  rcases old i c hc with ⟨hl,h⟩ | ⟨rfl,rfl⟩ <;> rcases old j d hd with ⟨hl2,h2⟩ | ⟨rfl,rfl⟩
  ·rw [upd_ne (by omega)] at hi hj; exact hr.inj' h h2 ac ad hi hj
  ·rw [upd_ne (by omega)] at hi; rw [upd_same] at hj
   have := hn g hj; have := hr.blk_lt h hi; omega
  ·rw [upd_ne (by omega)] at hj; rw [upd_same] at hi
   have := hn g hi; have := hr.blk_lt h2 hj; omega
  ·rfl
 ·rcases al g h with h | h
  ·exact h
  ·have := hn g h; omega
theorem Step.set (hr : Rel ν w S μ H) {id : Nat} {v : Value} {b b' : Blk} (h0 : H[id]? = some b) (hal : bj b) (hos : w'.os = w.os) (htp : w'.tape = w.tape) (hout : w'.output = w.output) (hsz : w.heap.size ≤ w'.heap.size)
  (hk : ∀ g,g < w.heap.size → au (μ id) ≠ some g → w'.heap[g]? = w.heap[g]?)
  (hm : Moves μ H (upd μ id v) (H.set id b')) (hb : BlkRel ν w' S (upd μ id v) (H.set id b') id b') (hn : ∀ g,au v = some g → au (μ id) = some g ∨ w.heap.size ≤ g) :
  Step ν w S μ H w' S (upd μ id v) (H.set id b') := by
 have hlt : id < H.length := (List.getElem?_eq_some_iff.1 h0).1
 have notS : ∀ g,S g → au (μ id) ≠ some g := fun g hs hg => hr.apart g (alive_iff.2 ⟨id,b,h0,hal,hg⟩) hs
 have keep : ∀ g,S g → w'.heap[g]? = w.heap[g]? := fun g h => hk g (hr.lt g h) (notS g h)
 have old : ∀ (i : Nat) c,(H.set id b')[i]? = some c → (i ≠ id ∧ H[i]? = some c) ∨ (i = id ∧ c = b') := by
  intro i c h
  simp only [List.getElem?_set,hlt,if_true] at h
  split at h
  ·rename_i e; subst e; simp only [Option.some.injEq] at h; exact .inr ⟨rfl,h.symm⟩
  ·rename_i e; exact .inl ⟨Ne.symm e,h⟩
 have al : ∀ g,alive (upd μ id v) (H.set id b') g → alive μ H g ∨ au v = some g := by
  intro g ha
  obtain ⟨i,c,h1,h2,h3⟩ := alive_iff.1 ha
  rcases old i c h1 with ⟨hl,h⟩ | ⟨rfl,rfl⟩
  ·rw [upd_ne hl] at h3; exact .inl (alive_iff.2 ⟨i,c,h,h2,h3⟩)
  ·rw [upd_same] at h3; exact .inr h3
 have far : ∀ i c g,i ≠ id → H[i]? = some c → au (μ i) = some g → au (μ id) ≠ some g := by
  intro i c g hne hc hg hid
  by_cases hca : bj c
  ·exact hne (hr.inj' hc h0 hca hal hg hid)
  ·cases c with
   | box cs => exact hca (.inl ⟨cs,rfl⟩)
   | row f sz xs =>
    cases f with
    | false => exact hca (.inr ⟨sz,xs,rfl⟩)
    | true =>
     obtain ⟨_,_,us,_,_,_,h4⟩ := hr.blk i _ hc
     exact notS g (h4 rfl g hg) hid
   | dead => exact notS g (hr.blk i _ hc g hg) hid
 refine ⟨⟨fun g h => Nat.lt_of_lt_of_le (hr.lt g h) hsz,fun i c hc => ?_,fun g ha hs => ?_,fun i j g hi hj ai aj => ?_⟩,⟨hos,htp,hout,hsz,fun g h hna => ?_,fun _ h => h,fun g h _ => .inl h,fun g h hl => ?_⟩,hm⟩
 ·rcases old i c hc with ⟨hl,h⟩ | ⟨rfl,rfl⟩
  ·exact (hr.blk i c h).keep (fun _ h => h) keep hm (upd_ne hl) (fun g hg => hk g (hr.blk_lt h hg) (far i c g hl h hg))
  ·exact hb
 ·rcases al g ha with h | h
  ·exact hr.apart g h hs
  ·rcases hn g h with h | h
   ·exact notS g hs h
   ·have := hr.lt g hs; omega
 ·have get : ∀ k : Nat,((∃ cs,(H.set id b')[k]? = some (Blk.box cs)) ∨ ∃ sz xs,(H.set id b')[k]? = some (Blk.row false sz xs)) → ∃ c,(H.set id b')[k]? = some c ∧ bj c := by
   rintro k (⟨cs,h⟩ | ⟨sz,xs,h⟩)
   ·exact ⟨_,h,.inl ⟨cs,rfl⟩⟩
   ·exact ⟨_,h,.inr ⟨sz,xs,rfl⟩⟩
  obtain ⟨c,hc,ac⟩ := get i ai
  obtain ⟨d,hd,ad⟩ := get j aj
  have cross : ∀ k c,k ≠ id → H[k]? = some c → au (μ k) = some g → au v = some g → False := by
   intro k c hne hc hg hv
   rcases hn g hv with h | h
   ·exact far k c g hne hc hg h
   ·have := hr.blk_lt hc hg; omega
  rcases old i c hc with ⟨hl,h⟩ | ⟨rfl,rfl⟩ <;> rcases old j d hd with ⟨hl2,h2⟩ | ⟨rfl,rfl⟩
  ·rw [upd_ne hl] at hi; rw [upd_ne hl2] at hj; exact hr.inj' h h2 ac ad hi hj
  ·rw [upd_ne hl] at hi; rw [upd_same] at hj; exact (cross i c hl h hi hj).elim
  ·rw [upd_ne hl2] at hj; rw [upd_same] at hi; exact (cross j d hl2 h2 hj hi).elim
  ·rfl
 ·exact hk g h (fun hg => hna (alive_iff.2 ⟨id,b,h0,hal,hg⟩))
 ·rcases al g h with h | h
  ·exact h
  ·rcases hn g h with h | h
   ·exact alive_iff.2 ⟨id,b,h0,hal,h⟩
   ·omega
end
end Ab
namespace Ab
open Go (IntKind BinOp UnOp World Value Addr Obj undef maxLen Program TypeId Oper Op Operand Act Sem Next Result execOp Builtin)
section
variable {Γ : Ctx} {N : Names} {P : Program} {w : World} {S : Nat → Prop} {μ : Nat → Value} {H : Heap}
theorem Rel.keepS (hr : Rel N.fn w S μ H) {w' : World} (hg : Grows w w') : ∀ g,S g → w'.heap[g]? = w.heap[g]? := fun g h => hg.keep g (hr.lt g h)
theorem qv (hr : Rel N.fn w S μ H) {cs : List AV} {us : Array Value} (T : TypeId) (h : CellsRel N.fn w S μ H cs us) :
  ∃ μ',Step N.fn w S μ H (w.alloc (.cells us T)) S μ' (H ++ [.box cs]) ∧ RelV N.fn (w.alloc (.cells us T)) S μ' (H ++ [.box cs]) (.bx H.length 0) (.pointer (some ⟨w.heap.size,0,none⟩)) := by
 refine ⟨upd μ H.length (.pointer (some ⟨w.heap.size,0,none⟩)),Step.push hr (Grows.alloc w _) ?_ ?_,?_⟩
 ·refine ⟨w.heap.size,upd_same,.inl ⟨us,T,Go.heap_alloc_new w _,h.size,h.one,fun j c hc => ?_⟩⟩
  exact (h.rel j c hc).keep (fun _ h => h) (hr.keepS (Grows.alloc w _)) db
 ·intro g hg
  simp only [au,Option.some.injEq] at hg
  omega
 ·exact .bx _ _ w.heap.size _ (by simp) (fun _ _ => upd_same) rfl
theorem x_box (hr : Rel N.fn w S μ H) {T : TypeId} {x : Value} {x' : AV} {r : AV × Heap} (hx : RelV N.fn w S μ H x' x) (hv : boxA H x' = some r) :
  ∃ u w' μ',(Go.Instr.box T x).run P w = .ok u w' ∧ Step N.fn w S μ H w' S μ' r.2 ∧ RelV N.fn w' S μ' r.2 r.1 u := by
 unfold boxA at hv
 split at hv
 ·rename_i hok
  simp only [Option.some.injEq] at hv
  subst hv
  obtain ⟨c1,c2,c3⟩ := hx.cells hok
  obtain ⟨μ',h1,h2⟩ := qv hr T ⟨c1,c2,c3⟩
  exact ⟨_,_,μ',by simp [Go.Instr.box,Go.newVar,Go.newRow],h1,h2⟩
 ·cases hv
theorem x_alloc (hr : Rel N.fn w S μ H) {T : TypeId} {zero : List PV} (hz : oP P T zero = true) :
  ∃ u w' μ',(Go.Instr.alloc T true (.tuple #[])).run P w = .ok u w' ∧ Step N.fn w S μ H w' S μ' (H ++ [.box (zero.map .p)]) ∧ RelV N.fn w' S μ' (H ++ [.box (zero.map .p)]) (.bx H.length 0) u := by
 obtain ⟨z,z1,z2⟩ := lD (N := N) (w := w) (S := S) (μ := μ) (H := H) hz
 obtain ⟨μ',h1,h2⟩ := qv hr T z2
 exact ⟨_,_,μ',by simp [Go.Instr.alloc,z1,Go.newVar,Go.newRow],h1,h2⟩
theorem gu {id : Nat} {cs cs' : List AV} {v : Value} (h0 : H[id]? = some (.box cs)) (hv : v = μ id) : Moves μ H (upd μ id v) (H.set id (.box cs')) := by
 have hlt := (List.getElem?_eq_some_iff.1 h0).1
 refine ⟨by simp,fun i f sz xs hl h => ?_,fun i c hl h => ?_⟩
 ·simp only [List.getElem?_set,hlt,if_true] at h
  split at h
  ·cases h
  ·rename_i e; exact ⟨f,xs,h,Nat.le_refl _,fun _ => upd_ne (Ne.symm e)⟩
 ·simp only [List.getElem?_set,hlt,if_true] at h
  split at h
  ·rename_i e; subst e; exact ⟨cs,h0,by rw [upd_same,hv]⟩
  ·rename_i e; exact ⟨c,h,upd_ne (Ne.symm e)⟩
theorem dD {id : Nat} {f f' : Bool} {sz : Nat} {xs xs' : List PV} {v : Value} (h0 : H[id]? = some (.row f sz xs)) (hl : xs.length ≤ xs'.length) (hv : xs.length = xs'.length → v = μ id) : Moves μ H (upd μ id v) (H.set id (.row f' sz xs')) := by
 have hlt := (List.getElem?_eq_some_iff.1 h0).1
 refine ⟨by simp,fun i g sz2 ys hli h => ?_,fun i c hli h => ?_⟩
 ·simp only [List.getElem?_set,hlt,if_true] at h
  split at h
  ·rename_i e; subst e
   simp only [Option.some.injEq,Blk.row.injEq] at h
   obtain ⟨rfl,rfl,rfl⟩ := h
   exact ⟨f,xs,h0,hl,fun e => by rw [upd_same]; exact hv e⟩
  ·rename_i e; exact ⟨g,ys,h,Nat.le_refl _,fun _ => upd_ne (Ne.symm e)⟩
 ·simp only [List.getElem?_set,hlt,if_true] at h
  split at h
  ·cases h
  ·rename_i e; exact ⟨c,h,upd_ne (Ne.symm e)⟩
theorem eN {g k : Nat} {cs : Array Value} (h : k ≠ g) : (w.setRow g cs).heap[k]? = w.heap[k]? := Go.setRow_other w g k cs h
theorem setRow_size {g : Nat} {cs : Array Value} : (w.setRow g cs).heap.size = w.heap.size := by simp [World.setRow]
theorem nI {cur : Array Value} {vs : List Value} {off j : Nat} (h : off + vs.length ≤ cur.size) :
  (cur.toList.take off ++ vs ++ cur.toList.drop (off + vs.length)).toArray.getD j undef = if off ≤ j ∧ j < off + vs.length then vs.getD (j - off) undef else cur.getD j undef := by
 have l1 : (cur.toList.take off).length = off := by simp; omega
 rw [yZ,List.getD_eq_getElem?_getD,Array.getD_eq_getD_getElem?,List.append_assoc]
 by_cases h1 : j < off
 ·rw [if_neg (by omega),List.getElem?_append_left (by omega),List.getElem?_take,if_pos h1]
  simp
 ·rw [List.getElem?_append_right (by omega),l1]
  by_cases h2 : j < off + vs.length
  ·rw [if_pos (by omega),List.getElem?_append_left (by omega),List.getD_eq_getElem?_getD]
  ·rw [if_neg (by omega),List.getElem?_append_right (by omega),List.getElem?_drop,show off + vs.length + (j - off - vs.length) = j by omega]
   simp
theorem pp {α : Type} {cs vs : List α} {off j : Nat} {c : α} (h : off + vs.length ≤ cs.length) (hc : (cs.take off ++ vs ++ cs.drop (off + vs.length))[j]? = some c) :
  (off ≤ j ∧ j < off + vs.length ∧ vs[j - off]? = some c) ∨ (¬ (off ≤ j ∧ j < off + vs.length) ∧ cs[j]? = some c) := by
 have l1 : (cs.take off).length = off := by simp; omega
 rw [List.append_assoc] at hc
 by_cases h1 : j < off
 ·rw [List.getElem?_append_left (by omega)] at hc
  exact .inr ⟨by omega,(dZ hc).2⟩
 ·rw [List.getElem?_append_right (by omega),l1] at hc
  by_cases h2 : j < off + vs.length
  ·rw [List.getElem?_append_left (by omega)] at hc
   exact .inl ⟨by omega,h2,hc⟩
  ·rw [List.getElem?_append_right (by omega),List.getElem?_drop,show off + vs.length + (j - off - vs.length) = j by omega] at hc
   exact .inr ⟨by omega,hc⟩
theorem getD_toList {us : Array Value} {j : Nat} : us.toList.getD j undef = us.getD j undef := by simp [List.getD]
theorem cells_one {cs : List AV} {us : Array Value} (h : CellsRel N.fn w S μ H cs us) : ∀ v ∈ us.toList,v.oneCell' = true := by
 intro v hv
 obtain ⟨j,hj⟩ := List.getElem?_of_mem hv
 have hlt : j < us.size := by simpa using (List.getElem?_eq_some_iff.1 hj).1
 have hlt2 : j < cs.length := by rw [← h.size]; exact hlt
 have h1 : cs[j]? = some cs[j] := List.getElem?_eq_getElem hlt2
 have h2 := h.rel j _ h1
 have e : us.getD j undef = v := by rw [← getD_toList,List.getD_eq_getElem?_getD,hj]; rfl
 rw [e] at h2
 exact h2.one (h.one _ (List.mem_of_getElem? h1))
theorem bL (P : Program) (g o : Nat) (t : TypeId) (fz : Nat × Nat) : ∀ (vs : List Value) (i : Nat) (cur : Array Value) (w : World),w.heap[g]? = some (.cells cur t fz) → (fz = (0,0) ∨ cur.size ≤ fz.1) → o + i + vs.length ≤ cur.size → (∀ v ∈ vs,v.oneCell' = true) →
  (Go.storeCells ⟨g,o,none⟩ vs i).run P w = .ok () (w.setRow g (cur.toList.take (o + i) ++ vs ++ cur.toList.drop (o + i + vs.length)).toArray)
 | [],i,cur,w,hg,_,_,_ => by
  simp only [Go.storeCells,List.append_nil,List.length_nil,Nat.add_zero,List.take_append_drop,Array.toArray_toList]
  rw [Go.setRow_self w g cur t fz hg]
  rfl
 | v :: rest,i,cur,w,hg,hfz,hl,h1 => by
  have hi : o + i < cur.size := by simp at hl; omega
  have hadd : (⟨g,o,none⟩ : Addr).add i = ⟨g,o + i,none⟩ := by unfold Addr.add; split <;> simp_all
  have hcell : w.cell? ⟨g,o + i,none⟩ = some cur[o + i] := by simp [World.cell?,hg,hi]
  have hfro : w.frozen? ⟨g,o + i,none⟩ = false := by
   rcases hfz with rfl | hfz
   ·simp [World.frozen?,hg]
   ·simp only [World.frozen?,hg,Bool.and_eq_false_iff,decide_eq_false_iff_not]
    left
    omega
  have hst : (Go.store ((⟨g,o,none⟩ : Addr).add i) v).run P w = .ok () (w.setRow g (cur.setIfInBounds (o + i) v)) := by
   rw [hadd,Go.run_store P w _ v _ (h1 v (by simp)),hcell]
   simp [hfro,Go.setCell_eq_setRow w g (o + i) cur t fz v hg]
  have ih := bL P g o t fz rest (i + 1) (cur.setIfInBounds (o + i) v) (w.setRow g (cur.setIfInBounds (o + i) v)) (Go.setRow_heap w g cur _ t _ hg) (by simpa using hfz) (by simp at hl ⊢; omega) (fun x hx => h1 x (by simp [hx]))
  simp only [Go.storeCells,Go.Sem.run_bind,hst,Go.Result.andThen_ok,ih,Go.setRow_setRow]
  congr 3
  have e := Go.list_seg_step cur.toList (o + i) v rest (by simp at hl ⊢; omega)
  simpa [Array.toList_setIfInBounds,Nat.add_assoc] using e
theorem FrOk.or {sz cap n : Nat} {fr : Nat × Nat} (h : FrOk sz cap fr) (hn : n = cap * sz) : fr = (0,0) ∨ n ≤ fr.1 := by
 rcases h with h | ⟨rfl,h⟩
 ·exact .inl h
 ·exact .inr (by omega)
theorem l8 {T : TypeId} {g off sz : Nat} {t : TypeId} {cur : Array Value} {u : Value} {fr : Nat × Nat} (hs : (P.info? T).map (·.size) = some sz) (hu : u.cells.size = sz) (hg : w.heap[g]? = some (.cells cur t fr)) (hfr : fr = (0,0) ∨ cur.size ≤ fr.1) (hle : off + sz ≤ cur.size)
  (h1 : ∀ v ∈ u.cells.toList,v.oneCell' = true) :
  (Go.Instr.storeAt T (.pointer (some ⟨g,off,none⟩)) u).run P w = .ok () (w.setRow g (cur.toList.take off ++ u.cells.toList ++ cur.toList.drop (off + u.cells.toList.length)).toArray) := by
 have hst := bL P g off t fr u.cells.toList 0 cur w hg hfr (by simp [hu]; omega) h1
 simp only [Nat.add_zero] at hst
 simp only [Go.Instr.storeAt,Go.Instr.sureAddr,Go.storeVar,Go.Sem.run_bind,Go.Sem.run_pure,Go.Result.andThen_ok,run_sizeOf hs,hu,ne_eq,not_true_eq_false,if_false]
 exact hst
theorem yS (hr : Rel N.fn w S μ H) {T : TypeId} {sz : Nat} {x y : Value} {x' y' : AV} {H' : Heap} (hs : (P.info? T).map (·.size) = some sz) (hx : RelV N.fn w S μ H x' x) (hy : RelV N.fn w S μ H y' y) (hv : ia H sz x' y' = some H') :
  ∃ w' μ',(Go.Instr.storeAt T x y).run P w = .ok () w' ∧ Step N.fn w S μ H w' S μ' H' := by
 unfold ia at hv
 split at hv
 ·rename_i id off
  obtain ⟨cs,hb,hv⟩ := Option.bind_eq_some_iff.1 hv
  simp only [Option.ite_none_right_eq_some,Option.some.injEq] at hv
  obtain ⟨⟨hok,hsz,hle⟩,rfl⟩ := hv
  have hb0 := hb
  have hb := eF hb
  obtain ⟨g,rfl,hl,hg⟩ := hx.bx_inv
  obtain ⟨g',arr,t,e1,e2,e3,e4,e5⟩ := hr.box_of hb0
  rw [hg cs hb] at e1
  cases e1
  obtain ⟨c1,c2,c3⟩ := hy.cells hok
  have hlen : y.cells.toList.length = y'.cells.length := by simpa using c1
  have hle' : off + y.cells.toList.length ≤ arr.size := by rw [hlen,hsz,e3]; exact hle
  refine ⟨_,upd μ id (.pointer (some ⟨g,0,none⟩)),l8 hs (by rw [c1,hsz]) e2 (.inl rfl) (by rw [e3]; exact hle) (cells_one ⟨c1,c2,c3⟩),?_⟩
  have hm : Moves μ H (upd μ id (.pointer (some ⟨g,0,none⟩))) (H.set id (.box (cs.take off ++ y'.cells ++ cs.drop (off + sz)))) := gu hb (hg cs hb).symm
  have hk : ∀ k,k < w.heap.size → au (μ id) ≠ some k → (w.setRow g (arr.toList.take off ++ y.cells.toList ++ arr.toList.drop (off + y.cells.toList.length)).toArray).heap[k]? = w.heap[k]? := by
   intro k _ hne
   rw [hg cs hb] at hne
   exact eN (fun e => hne (by rw [e]; rfl))
  refine Step.set hr hb (.inl ⟨cs,rfl⟩) rfl rfl rfl (Nat.le_of_eq setRow_size.symm) hk hm ?_ (fun k h => .inl (by rw [hg cs hb]; exact h))
  have keepS : ∀ k,S k → (w.setRow g (arr.toList.take off ++ y.cells.toList ++ arr.toList.drop (off + y.cells.toList.length)).toArray).heap[k]? = w.heap[k]? := fun k hk' =>
   hk k (hr.lt k hk') (fun e => hr.apart k (alive_iff.2 ⟨id,_,hb,.inl ⟨cs,rfl⟩,e⟩) hk')
  refine ⟨g,upd_same,.inl ⟨_,t,Go.setRow_heap w g arr _ t _ e2,?_,fun c hc => ?_,fun j c hc => ?_⟩⟩
  ·simp only [List.size_toArray,List.length_append,List.length_take,List.length_drop,Array.length_toList,hlen,hsz,e3]
  ·simp only [List.mem_append] at hc
   rcases hc with (hc | hc) | hc
   ·exact e4 c (List.mem_of_mem_take hc)
   ·exact c2 c hc
   ·exact e4 c (List.mem_of_mem_drop hc)
  ·rw [nI hle']
   subst hsz
   rcases pp hle hc with ⟨h1,h2,h3⟩ | ⟨h1,h2⟩
   ·rw [if_pos ⟨h1,by omega⟩,getD_toList]
    exact (c3 _ c h3).keep (fun _ h => h) keepS hm
   ·rw [if_neg (by omega)]
    exact (e5 j c h2).keep (fun _ h => h) keepS hm
 ·rename_i id n i off
  split at hv
  rotate_left
  ·cases hv
  rename_i sz' xs hb
  split at hv
  rotate_left
  ·cases hv
  rename_i hn
  subst hn
  obtain ⟨z,hz,hv⟩ := Option.bind_eq_some_iff.1 hv
  obtain ⟨ps,hps,hv⟩ := Option.bind_eq_some_iff.1 hv
  simp only [Option.ite_none_right_eq_some,Option.some.injEq] at hv
  obtain ⟨⟨hok,hpos,hsz,hle⟩,rfl⟩ := hv
  have hi : i < xs.length := (List.getElem?_eq_some_iff.1 hz).1
  cases hx with
  | el _ _ _ _ _ hl hx0 _ =>
  obtain ⟨_,hx1⟩ := hx0 _ _ _ hb
  obtain ⟨g,cap,hμ,rfl⟩ := (hx1 rfl).1 (by omega)
  obtain ⟨r0,rlim,us,r1,r2,r3,r4⟩ := hr.blk id _ hb
  obtain ⟨rl,r1⟩ := r1
  rcases r1 with ⟨h0,_⟩ | ⟨g',cap',cur,e,hv',hc0,hg,hnc,hcm,hcs,htake⟩
  ·omega
  rw [hμ] at hv'
  cases hv'
  obtain ⟨c1,c2,c3⟩ := hy.cells hok
  obtain ⟨p1,p2,p3⟩ := jM hps ⟨c1,c2,c3⟩
  have hzl : z.cells.length = sz' := (r2 z (List.mem_of_getElem? hz)).1
  have hlen : y.cells.toList.length = sz := by rw [Array.length_toList,p1,hsz]
  have hrow : (i + 1) * sz' ≤ xs.length * sz' := Nat.mul_le_mul_right _ hi
  have hrow' : xs.length * sz' ≤ cap * sz' := Nat.mul_le_mul_right _ (by omega)
  have hi1 : (i + 1) * sz' = i * sz' + sz' := by rw [Nat.add_mul,Nat.one_mul]
  have hfit : i * sz' + off + y.cells.toList.length ≤ cur.size := by omega
  obtain ⟨fr,hg,hfr⟩ := hg
  refine ⟨_,upd μ id (μ id),l8 hs (by rw [p1,hsz]) hg (hfr.or hcs) (by omega) (cells_one ⟨c1,c2,c3⟩),?_⟩
  generalize hx2 : oy off sz ps z = z2
  have z2c : z2.cells.length = sz' ∧ (∀ c ∈ z2.cells,c.one = true) ∧ ∀ j c,z2.cells[j]? = some c → (off ≤ j ∧ j < off + sz ∧ ps[j - off]? = some c) ∨ (¬ (off ≤ j ∧ j < off + sz) ∧ z.cells[j]? = some c) := by
   have hone := (r2 z (List.mem_of_getElem? hz)).2
   by_cases hag : ∃ cs,z = .agg cs
   ·obtain ⟨cs,rfl⟩ := hag
    subst hx2
    simp only [PV.cells,oy] at hzl hone hle ⊢
    subst hsz
    refine ⟨by simp only [List.length_append,List.length_take,List.length_drop]; omega,fun c hc => ?_,fun j c hc => pp hle hc⟩
    simp only [List.mem_append] at hc
    rcases hc with (hc | hc) | hc
    ·exact hone c (List.mem_of_mem_take hc)
    ·exact p2 c hc
    ·exact hone c (List.mem_of_mem_drop hc)
   ·have hz1 : z.cells = [z] := by cases z <;> first | rfl | exact absurd ⟨_,rfl⟩ hag
    rw [hz1] at hzl hle ⊢
    simp only [List.length_cons,List.length_nil] at hzl hle
    have e1 : off = 0 := by omega
    have e2 : sz = 1 := by omega
    subst e1
    match ps,hsz,p2,hx2 with
    | [q],hsz,p2,hx2 =>
     have hq := p2 q (by simp)
     have : z2 = q := by subst hx2; cases z <;> first | rfl | exact absurd ⟨_,rfl⟩ hag
     rw [this,PV.cells_one hq]
     refine ⟨by simp; omega,by simpa using hq,fun j c hc => .inl ?_⟩
     cases j with
     | zero => simpa [e2] using hc
     | succ j => simp at hc
    | [],hsz,_,_ => simp at hsz; omega
    | _ :: _ :: _,hsz,_,_ => simp at hsz; omega
  have hm : Moves μ H (upd μ id (μ id)) (H.set id (.row false sz' (xs.set i z2))) := dD hb (by simp) (fun _ => rfl)
  have hk : ∀ k,k < w.heap.size → au (μ id) ≠ some k → (w.setRow g (cur.toList.take (i * sz' + off) ++ y.cells.toList ++ cur.toList.drop (i * sz' + off + y.cells.toList.length)).toArray).heap[k]? = w.heap[k]? := by
   intro k _ hne
   rw [hμ] at hne
   simp only [au] at hne
   rw [if_neg (by omega)] at hne
   exact eN (fun e => hne (by rw [e]))
  refine Step.set hr hb (.inr ⟨sz',xs,rfl⟩) rfl rfl rfl (Nat.le_of_eq setRow_size.symm) hk hm ?_ (fun k h => .inl h)
  have keepS : ∀ k,S k → (w.setRow g (cur.toList.take (i * sz' + off) ++ y.cells.toList ++ cur.toList.drop (i * sz' + off + y.cells.toList.length)).toArray).heap[k]? = w.heap[k]? := fun k hk' =>
   hk k (hr.lt k hk') (fun e => hr.apart k (alive_iff.2 ⟨id,_,hb,.inr ⟨sz',xs,rfl⟩,e⟩) hk')
  generalize hcur : (cur.toList.take (i * sz' + off) ++ y.cells.toList ++ cur.toList.drop (i * sz' + off + y.cells.toList.length)).toArray = cur' at keepS hk ⊢
  have hcur' : ∀ j,cur'.getD j undef = if i * sz' + off ≤ j ∧ j < i * sz' + off + y.cells.toList.length then y.cells.toList.getD (j - (i * sz' + off)) undef else cur.getD j undef := fun j => by rw [← hcur]; exact nI hfit
  have hcsz : cur'.size = cur.size := by
   rw [← hcur]
   simp only [List.size_toArray,List.length_append,List.length_take,List.length_drop,Array.length_toList]
   simp only [Array.length_toList] at hfit
   omega
  have husg : ∀ j,j < xs.length * sz' → us.getD j undef = cur.getD j undef := fun j hj => by
   rw [← htake,List.getD_eq_getElem?_getD,List.getElem?_take,if_pos hj,← List.getD_eq_getElem?_getD,getD_toList]
  refine ⟨r0,by simpa using rlim,cur'.toList.take (xs.length * sz'),⟨by simp only [List.length_take,Array.length_toList,List.length_set]; omega,?_⟩,fun x hx => ?_,fun i2 x j c hx hc => ?_,by simp⟩
  ·rw [upd_same,hμ,List.length_set]
   exact .inr ⟨g,cap,cur',e,rfl,hc0,⟨fr,Go.setRow_heap w g cur _ e _ hg,hfr⟩,hnc,hcm,by omega,rfl⟩
  ·rcases List.mem_or_eq_of_mem_set hx with h | h
   ·exact r2 x h
   ·subst h; exact ⟨z2c.1,z2c.2.1⟩
  ·have hi2 : i2 < xs.length := by simpa using (List.getElem?_eq_some_iff.1 hx).1
   have hrow2 : (i2 + 1) * sz' ≤ xs.length * sz' := Nat.mul_le_mul_right _ hi2
   have hi21 : (i2 + 1) * sz' = i2 * sz' + sz' := by rw [Nat.add_mul,Nat.one_mul]
   by_cases he : i2 = i
   ·subst he
    rw [List.getElem?_set_self hi] at hx
    simp only [Option.some.injEq] at hx
    subst hx
    have hj : j < sz' := by rw [← z2c.1]; exact (List.getElem?_eq_some_iff.1 hc).1
    rw [List.getD_eq_getElem?_getD,List.getElem?_take,if_pos (by omega),← List.getD_eq_getElem?_getD,getD_toList,hcur' _]
    rcases z2c.2.2 j c hc with ⟨h1,h2,h3⟩ | ⟨h1,h2⟩
    ·rw [if_pos (by omega),show i2 * sz' + j - (i2 * sz' + off) = j - off by omega,getD_toList]
     exact (p3 _ c h3).keep (fun _ h => h) keepS
    ·rw [if_neg (by omega),← husg _ (by omega)]
     exact (r3 i2 z j c hz h2).keep (fun _ h => h) keepS
   ·rw [List.getElem?_set_ne (Ne.symm he)] at hx
    have hj : j < sz' := by rw [← (r2 x (List.mem_of_getElem? hx)).1]; exact (List.getElem?_eq_some_iff.1 hc).1
    rw [List.getD_eq_getElem?_getD,List.getElem?_take,if_pos (by omega),← List.getD_eq_getElem?_getD,getD_toList,hcur' _]
    have far : ¬ (i * sz' + off ≤ i2 * sz' + j ∧ i2 * sz' + j < i * sz' + off + y.cells.toList.length) := by
     rcases Nat.lt_or_gt_of_ne he with h | h
     ·have : (i2 + 1) * sz' ≤ i * sz' := Nat.mul_le_mul_right _ h
      omega
     ·have : (i + 1) * sz' ≤ i2 * sz' := Nat.mul_le_mul_right _ h
      omega
    rw [if_neg far,← husg _ (by omega)]
    exact (r3 i2 x j c hx hc).keep (fun _ h => h) keepS
 ·cases hv
end
end Ab
