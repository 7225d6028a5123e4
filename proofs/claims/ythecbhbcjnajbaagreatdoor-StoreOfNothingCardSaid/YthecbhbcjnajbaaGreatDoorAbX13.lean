import Derived.Test.YthecbhbcjnajbaaGreatDoorAbX11
import Derived.MapKept
import Derived.Test.YthecbhbcjnajbaaGreatDoorAbQ3
import Derived.ChangeKeysEq
import Derived.Laws.IdiomCopy
namespace Ab
open Go (IntKind BinOp UnOp World Value Addr Obj undef maxLen Program TypeId Oper Op Operand Act Sem Next Result execOp Builtin)
def rowT (P : Program) (e : TypeId) (sz : Nat) : Bool :=
 match P.info? e with
 | some i => i.size == sz && decide (i.bytes ≤ 65536) && (match i.zero with | some z => z.cells.size == sz | none => false)
 | none => false
theorem rowT_spec {P e sz} (h : rowT P e sz = true) : ∃ i z,P.info? e = some i ∧ i.size = sz ∧ i.bytes ≤ 65536 ∧ i.zero = some z ∧ z.cells.size = sz := by
 unfold rowT at h
 split at h
 ·rename_i i hi
  simp only [Bool.and_eq_true,beq_iff_eq,decide_eq_true_eq] at h
  obtain ⟨⟨h1,h2⟩,h3⟩ := h
  split at h3
  ·rename_i z hz
   simp only [beq_iff_eq] at h3
   exact ⟨i,z,hi,h1,h2,hz,h3⟩
  ·cases h3
 ·cases h
section
variable {Γ : Ctx} {N : Names} {P : Program} {w : World} {S : Nat → Prop} {μ : Nat → Value} {H : Heap}
theorem q_appq (hr : Rel N.fn w S μ H) {t ty e : TypeId} {i : Go.TypeInfo} {z : Value} {sz : Nat} {x y : Value} {x' y' v : AV} (ht : P.underlying t = some (.slice e)) (hi : P.info? e = some i) (hz : i.zero = some z)
  (hsz : i.size = sz) (hzs : z.cells.size = sz) (h0 : 0 < sz) (hb : i.bytes ≤ 65536) (hx : RelV N.fn w S μ H x' x) (hy : RelV N.fn w S μ H y' y) (hv : appqA sz x' y' = some v) :
  ∃ u w' S',(Builtin.append_ #[t,t] ty #[x,y]).run P w = .ok u w' ∧ Step N.fn w S μ H w' S' μ H ∧ RelV N.fn w' S' μ H v u := by
 unfold appqA at hv
 split at hv
 rotate_left
 ·cases hv
 rename_i k sz' k2 sz2 ys
 simp only [Option.ite_none_right_eq_some,Option.some.injEq] at hv
 obtain ⟨⟨hk,hk2,hlim⟩,rfl⟩ := hv
 obtain ⟨news,g1,g2⟩ := elems_src hr h0 hy (ys := ys) (by simp only [elemsOf]; rw [if_pos hk2])
 have hx := hx.p_inv
 cases hx with
 | sl _ _ _ a cap us h1 h2 h3 h4 h5 h6 h7 h8 =>
 have hcap : cap = 0 := by
  rcases hk with h | ⟨h,_⟩
  ·exact (h4 (.inl h)).2.2
  ·exact (h5 (.inl h)).2 h
 subst hcap
 have hrow : RowAt w (.slice a 0 0) sz 0 [] := ⟨by simp,.inl ⟨rfl,a,rfl⟩⟩
 obtain ⟨v',w',r1,r2,r3,r4,r5,r6,r7,r8,r9⟩ := run_append_row (ty := ty) ht hi hz hsz hzs h0 hrow g1 (by omega) hb
 have hg : Grows w w' := ⟨r3,r4,r5,r6,fun g hg => r7 g hg (by cases a <;> simp [blkOf])⟩
 have hnew : ∀ g,blkOf v' = some g → w.heap.size ≤ g := fun g hg => by
  rcases r8 g hg with h | h
  ·cases a <;> simp [blkOf] at h
  ·exact h
 rw [Nat.zero_add,List.nil_append] at r2
 obtain ⟨μ',s1,s2⟩ := step_newrow hr hg h0 hlim r2 (g2.keep (hr.keepS hg)) hnew
 have hb' : (H ++ [Blk.row false sz ys])[H.length]? = some (.row false sz ys) := by rw [List.getElem?_append_right (Nat.le_refl _),Nat.sub_self]; rfl
 have he : v' = μ' H.length := s2.own_inv (r := (sz,ys)) (by simp [rowOf])
 have rp := row_relP (T := fun g => S g ∨ (w.heap.size ≤ g ∧ g < w'.heap.size)) s1.rel hb' (fun g h => .inl h) (fun g h => .inr ⟨hnew g (by rw [he]; exact h),s1.rel.blk_lt hb' h⟩)
 rw [← he] at rp
 exact ⟨v',w',fun g => S g ∨ (w.heap.size ≤ g ∧ g < w'.heap.size),r1,.grow hr hg (fun g h => .inl h) (fun g h => h.elim (fun h => Nat.lt_of_lt_of_le (hr.lt g h) hg.size) (fun h => h.2)) (fun g h => h.elim .inl (fun h => .inr h.1)),.p _ _ rp⟩
end
end Ab
namespace Ab
open Go (IntKind BinOp UnOp World Value Addr Obj undef maxLen Program TypeId Oper Op Operand Act Sem Next Result execOp Builtin TypeDesc MapEntry)
def KD.desc : KD → TypeDesc
 | .int k => .int k
 | .bool => .bool
 | .str => .string
section
variable {N : Names} {P : Program} {w : World} {S : Nat → Prop} {μ : Nat → Value} {H : Heap}
theorem key_is {ν : Nat → Nat} {kd : KD} {k : PV} {u : Value} (h : keyIs kd k = true) (hr : RelP ν w S k u) : Go.MapKept.IsKey kd.desc u := by
 cases hr <;> cases kd <;> simp only [keyIs,decide_eq_true_eq,Bool.false_eq_true] at h <;> first | exact trivial | exact h
theorem str_beq (a b : List UInt8) : ((⟨a.toArray⟩ : ByteArray) == ⟨b.toArray⟩) = (a == b) := by
 by_cases h : a = b
 ·subst h
  rw [(Go.MapKept.bytes_beq _ _).2 rfl]
  simp
 ·have h2 : ((⟨a.toArray⟩ : ByteArray) == ⟨b.toArray⟩) = false := by
   rw [Bool.eq_false_iff]
   intro e
   apply h
   have := congrArg (fun x : ByteArray => x.data.toList) ((Go.MapKept.bytes_beq _ _).1 e)
   simpa using this
  rw [h2]
  simp [h]
def MapRel (ν : Nat → Nat) (w : World) (S : Nat → Prop) (μ : Nat → Value) (H : Heap) : List (PV × AV) → List MapEntry → Prop
 | [],[] => True
 | (k,v) :: es,e :: l => RelP ν w S k e.key ∧ v.ok = true ∧ RelV ν w S μ H v e.val ∧ MapRel ν w S μ H es l
 | _,_ => False
theorem MapRel.of {ν : Nat → Nat} : ∀ {es : List (PV × AV)} {l : List MapEntry},l.length = es.length → (∀ (j : Nat) k v,es[j]? = some (k,v) → ∃ e,l[j]? = some e ∧ RelP ν w S k e.key ∧ v.ok = true ∧ RelV ν w S μ H v e.val) → MapRel ν w S μ H es l
 | [],[],_,_ => trivial
 | [],_ :: _,h,_ => by simp at h
 | _ :: _,[],h,_ => by simp at h
 | (k,v) :: es,e :: l,h,g => by
  obtain ⟨e',h1,h2,h3,h4⟩ := g 0 k v rfl
  cases h1
  exact ⟨h2,h3,h4,MapRel.of (by simpa using h) fun j k v hj => by simpa using g (j + 1) k v (by simpa using hj)⟩
theorem MapRel.len {ν : Nat → Nat} : ∀ {es : List (PV × AV)} {l : List MapEntry},MapRel ν w S μ H es l → l.length = es.length
 | [],[],_ => rfl
 | (_,_) :: es,e :: l,h => by simp [MapRel.len h.2.2.2]
 | [],_ :: _,h => h.elim
 | (_,_) :: _,[],h => h.elim
theorem MapRel.get {ν : Nat → Nat} : ∀ {es : List (PV × AV)} {l : List MapEntry},MapRel ν w S μ H es l → ∀ (j : Nat) k v,es[j]? = some (k,v) → ∃ e,l[j]? = some e ∧ RelP ν w S k e.key ∧ v.ok = true ∧ RelV ν w S μ H v e.val
 | [],[],_,j,k,v,hj => by simp at hj
 | (k0,v0) :: es,e :: l,h,j,k,v,hj => by
  cases j with
  | zero =>
   simp only [List.getElem?_cons_zero,Option.some.injEq,Prod.mk.injEq] at hj
   obtain ⟨rfl,rfl⟩ := hj
   exact ⟨e,rfl,h.1,h.2.1,h.2.2.1⟩
  | succ j => simpa using MapRel.get h.2.2.2 j k v (by simpa using hj)
 | [],_ :: _,h,_,_,_,_ => h.elim
 | (_,_) :: _,[],h,_,_,_,_ => h.elim
theorem same_now {ν : Nat → Nat} {kd : KD} {k k' : PV} {u u' : Value} {b : Bool} (hk : keyIs kd k = true) (hr : RelP ν w S k u) (hr' : RelP ν w S k' u') (he : keyEq k k' = some b) : Go.Instr.sameNow kd.desc u u' = some b := by
 cases k <;> cases k' <;> simp only [keyEq,Option.ite_none_right_eq_some,Option.some.injEq,reduceCtorEq] at he
 ·obtain ⟨rfl,rfl⟩ := he
  cases hr; cases hr'
  cases kd <;> simp only [keyIs,Bool.false_eq_true] at hk
  simp [KD.desc,Go.Instr.sameNow]
 ·subst he
  cases hr; cases hr'
  cases kd <;> simp only [keyIs,Bool.false_eq_true] at hk
  simp [KD.desc,Go.Instr.sameNow]
 ·subst he
  cases hr; cases hr'
  cases kd <;> simp only [keyIs,Bool.false_eq_true] at hk
  simp only [KD.desc,Go.Instr.sameNow,str_beq]
theorem find_now {ν : Nat → Nat} {kd : KD} {k : PV} {u : Value} (hk : keyIs kd k = true) (hr : RelP ν w S k u) : ∀ {es : List (PV × AV)} {l : List MapEntry} (i : Nat) {r : Option AV},MapRel ν w S μ H es l → mfind k es = some r →
  match r with
  | none => Go.Instr.findNow kd.desc u l i = some none
  | some v => ∃ j e,Go.Instr.findNow kd.desc u l i = some (some (i + j,e.val)) ∧ l[j]? = some e ∧ v.ok = true ∧ RelV ν w S μ H v e.val ∧ e.key = u
 | [],[],i,r,_,h => by
  simp only [mfind,Option.some.injEq] at h
  subst h
  rfl
 | (k',v) :: es,e :: l,i,r,hm,h => by
  simp only [mfind] at h
  split at h
  ·rename_i he
   simp only [Option.some.injEq] at h
   subst h
   have hs := same_now hk hr hm.1 he
   refine ⟨0,e,by simp [Go.Instr.findNow,hs],rfl,hm.2.1,hm.2.2.1,?_⟩
   have hr' := hm.1
   revert hr' he hr
   cases k <;> cases k' <;> simp only [keyEq,Option.ite_none_right_eq_some,Option.some.injEq,reduceCtorEq,false_implies,implies_true]
   ·intro a b c
    obtain ⟨rfl,hb⟩ := b
    have hb := eq_of_beq hb
    subst hb
    cases a
    generalize e.key = z at c
    cases c
    rfl
   ·intro a b c
    have hb := eq_of_beq b
    subst hb
    cases a
    generalize e.key = z at c
    cases c
    rfl
   ·intro a b c
    have hb := eq_of_beq b
    subst hb
    cases a
    generalize e.key = z at c
    cases c
    rfl
  ·rename_i he
   have hs := same_now hk hr hm.1 he
   have ih := find_now hk hr (i + 1) hm.2.2.2 h
   cases r with
   | none => simpa [Go.Instr.findNow,hs] using ih
   | some v' =>
    obtain ⟨j,e',h1,h2,h3⟩ := ih
    exact ⟨j + 1,e',by simp [Go.Instr.findNow,hs,h1]; omega,by simpa using h2,h3⟩
  ·cases h
 | [],_ :: _,_,_,hm,_ => hm.elim
 | (_,_) :: _,[],_,_,hm,_ => hm.elim
theorem mapIn_flat : ∀ {cs : List AV} {es : List (PV × AV)},mapIn cs = some es → cs = mapFlat es
 | [],es,h => by
  simp only [mapIn,Option.some.injEq] at h
  subst h; rfl
 | [c],es,h => by
  cases c <;> simp [mapIn] at h
 | c :: v :: r,es,h => by
  cases c with
  | p k =>
   simp only [mapIn,Option.map_eq_some_iff] at h
   obtain ⟨es',h1,rfl⟩ := h
   rw [mapIn_flat h1]; rfl
  | _ => simp [mapIn] at h
theorem flat_mapIn : ∀ (es : List (PV × AV)),mapIn (mapFlat es) = some es
 | [] => rfl
 | (k,v) :: es => by simp [mapFlat,mapIn,flat_mapIn es]
theorem mapOf_spec {id : Nat} {es : List (PV × AV)} (h : mapOf H id = some es) : H[id]? = some (.box (mapCells es)) := by
 unfold mapOf at h
 split at h
 ·rename_i cs hb
  rw [hb,mapIn_flat h]; rfl
 ·cases h
theorem Rel.map_of (hr : Rel N.fn w S μ H) {id : Nat} {es : List (PV × AV)} (h : mapOf H id = some es) : ∃ g arr clock,μ id = .pointer (some ⟨g,0,none⟩) ∧ w.heap[g]? = some (.map arr clock) ∧ Go.MapKept.Stamped arr clock ∧ MapRel N.fn w S μ H es arr.toList := by
 have hb := mapOf_spec h
 obtain ⟨g,h1,⟨cs,t,h2,h3,h4,h5⟩ | ⟨s,pos,h2,h3⟩ | ⟨es',arr,clock,h2,h3,hst,h4,h5⟩⟩ := hr.blk id _ hb
 ·exact absurd (h4 .nov (by simp [mapCells])) (by simp [AV.one])
 ·simp [mapCells,iterCells] at h2
 ·have e : es' = es := by
   have := congrArg (fun x => mapIn (x.drop 2)) h2
   simp only [mapCells,List.drop_succ_cons,List.drop_zero,flat_mapIn,Option.some.injEq] at this
   exact this.symm
  subst e
  exact ⟨g,arr,clock,h1,h3,hst,MapRel.of (by simpa using h4) fun j k v hj => by simpa using h5 j k v hj⟩
theorem RelV.mp_inv {ν : Nat → Nat} {id : Nat} {u : Value} (h : RelV ν w S μ H (.mp id) u) : ∃ g,u = .map (some g) ∧ id < H.length ∧ ∀ cs,H[id]? = some (.box cs) → μ id = .pointer (some ⟨g,0,none⟩) := by
 cases h with | mp _ g _ h1 h2 h3 => exact ⟨g,h3,h1,h2⟩
def mapT (P : Program) (T : TypeId) : Option (TypeId × TypeId) := match P.underlying T with | some (.map k e) => some (k,e) | _ => none
theorem mapT_spec {T k e} (h : mapT P T = some (k,e)) : P.underlying T = some (.map k e) := by
 unfold mapT at h
 split at h
 ·rename_i hu; simp only [Option.some.injEq,Prod.mk.injEq] at h; obtain ⟨rfl,rfl⟩ := h; exact hu
 ·cases h
def zeroV (P : Program) (T : TypeId) (zero : List PV) : Bool :=
 match (P.info? T).bind (·.zero),zero with
 | some z,[p] => z.oneCell' && constOk z p
 | some (.agg cs),zero => consts cs.toList zero
 | _,_ => false
theorem q_mget (hr : Rel N.fn w S μ H) {T k e : TypeId} {kd : KD} {zero : List PV} {comma : Bool} {x i : Value} {x' i' v : AV} {z : Value} (hT : mapT P T = some (k,e)) (hk : P.underlying k = some kd.desc) (hz : (Go.zeroValue e).run P w = .ok z w) (hzr : RelV N.fn w S μ H (mkZ zero) z)
  (hx : RelV N.fn w S μ H x' x) (hi : RelV N.fn w S μ H i' i) (hv : mgetA H kd zero comma x' i' = some v) : ∃ u,(Go.Instr.lookup T x i comma).run P w = .ok u w ∧ RelV N.fn w S μ H v u := by
 have hu := mapT_spec hT
 have res : ∀ {r : Option AV} {u : Value} {b : Bool},(match r with | none => b = false ∧ u = z | some v => b = true ∧ RelV N.fn w S μ H v u) → RelV N.fn w S μ H (mres comma (mkZ zero) r) (if comma then .tuple #[u,.bool b] else u) := by
  intro r u b h
  cases r with
  | none =>
   obtain ⟨rfl,rfl⟩ := h
   cases comma
   ·exact hzr
   ·refine .tup _ _ rfl fun j c hc => ?_
    match j,hc with
    | 0,hc => simp only [List.getElem?_cons_zero,Option.some.injEq] at hc; subst hc; exact hzr
    | 1,hc => simp only [List.getElem?_cons_succ,List.getElem?_cons_zero,Option.some.injEq] at hc; subst hc; exact .p _ _ (.bool _)
    | j + 2,hc => simp at hc
  | some v =>
   obtain ⟨rfl,h⟩ := h
   cases comma
   ·exact h
   ·refine .tup _ _ rfl fun j c hc => ?_
    match j,hc with
    | 0,hc => simp only [List.getElem?_cons_zero,Option.some.injEq] at hc; subst hc; exact h
    | 1,hc => simp only [List.getElem?_cons_succ,List.getElem?_cons_zero,Option.some.injEq] at hc; subst hc; exact .p _ _ (.bool _)
    | j + 2,hc => simp at hc
 unfold mgetA at hv
 split at hv
 ·rename_i kv
  simp only [ifB_some,Option.some.injEq] at hv
  obtain ⟨hkd,rfl⟩ := hv
  have hkey := key_is hkd hi.p_inv
  have hx := hx.p_inv
  cases hx
  have hf : (Go.Instr.findKey k i []).run P w = .ok none w := Go.MapKept.run_findKey hk rfl
  refine ⟨if comma then .tuple #[z,.bool false] else z,?_,res (r := none) ⟨rfl,rfl⟩⟩
  simp [Go.Instr.lookup,Go.run_underlying hu,Go.MapKept.run_checkKey hk hkey,hf,hz]
 ·rename_i id kv
  simp only [ifB_some,Option.bind_eq_some_iff,Option.map_eq_some_iff] at hv
  obtain ⟨hkd,es,hes,r,hf,rfl⟩ := hv
  have hkey := key_is hkd hi.p_inv
  obtain ⟨g,rfl,hl,hg⟩ := hx.mp_inv
  obtain ⟨g',arr,clock,e1,e2,_,e3⟩ := hr.map_of hes
  rw [hg _ (mapOf_spec hes)] at e1
  cases e1
  have hfn := find_now hkd hi.p_inv 0 e3 hf
  cases r with
  | none =>
   have hf := Go.MapKept.run_findKey (w := w) hk hfn
   refine ⟨if comma then .tuple #[z,.bool false] else z,?_,res (r := none) ⟨rfl,rfl⟩⟩
   simp [Go.Instr.lookup,Go.run_underlying hu,Go.MapKept.run_getObj_map e2,Go.MapKept.run_checkKey hk hkey,hf,hz]
  | some v0 =>
   obtain ⟨j,en,h1,h2,h3,h4,h5⟩ := hfn
   have hf := Go.MapKept.run_findKey (w := w) hk h1
   refine ⟨if comma then .tuple #[en.val,.bool true] else en.val,?_,res (r := some v0) ⟨rfl,h4⟩⟩
   simp [Go.Instr.lookup,Go.run_underlying hu,Go.MapKept.run_getObj_map e2,Go.MapKept.run_checkKey hk hkey,hf]
 ·cases hv
end
end Ab
namespace Ab
open Go (IntKind BinOp UnOp World Value Addr Obj undef maxLen Program TypeId Oper Op Operand Act Sem Next Result execOp Builtin TypeDesc MapEntry)
section
variable {N : Names} {P : Program} {w w' : World} {S S' : Nat → Prop} {μ μ' : Nat → Value} {H H' : Heap}
theorem MapRel.keep {ν : Nat → Nat} (hS : ∀ g,S g → S' g) (hw : ∀ g,S g → w'.heap[g]? = w.heap[g]?) (hm : Moves μ H μ' H') : ∀ {es : List (PV × AV)} {l : List MapEntry},MapRel ν w S μ H es l → MapRel ν w' S' μ' H' es l
 | [],[],_ => trivial
 | (_,_) :: _es,_e :: _l,h => ⟨h.1.keep hS hw,h.2.1,h.2.2.1.keep hS hw hm,MapRel.keep hS hw hm h.2.2.2⟩
 | [],_ :: _,h => h.elim
 | (_,_) :: _,[],h => h.elim
theorem key_eq {ν : Nat → Nat} {k k' : PV} {u u' : Value} (hr : RelP ν w S k u) (hr' : RelP ν w S k' u') (he : keyEq k k' = some true) : u' = u := by
 cases k <;> cases k' <;> simp only [keyEq,Option.ite_none_right_eq_some,Option.some.injEq,reduceCtorEq] at he
 ·obtain ⟨rfl,hb⟩ := he
  have hb := eq_of_beq hb
  subst hb
  cases hr; cases hr'; rfl
 ·have hb := eq_of_beq he
  subst hb
  cases hr; cases hr'; rfl
 ·have hb := eq_of_beq he
  subst hb
  cases hr; cases hr'; rfl
theorem put_now {ν : Nat → Nat} {kd : KD} {k : PV} {u : Value} {v : AV} {x : Value} (hk : keyIs kd k = true) (hr : RelP ν w S k u) (hok : v.ok = true) (hx : RelV ν w S μ H v x) : ∀ {es : List (PV × AV)} {l : List MapEntry} (i : Nat) {es' : List (PV × AV)},MapRel ν w S μ H es l → mput k v es = some es' →
  (Go.Instr.findNow kd.desc u l i = some none ∧ ∀ e : MapEntry,e.key = u → e.val = x → MapRel ν w S μ H es' (l ++ [e])) ∨
  ∃ j e,Go.Instr.findNow kd.desc u l i = some (some (i + j,e.val)) ∧ l[j]? = some e ∧ e.key = u ∧ ∀ e' : MapEntry,e'.key = u → e'.val = x → MapRel ν w S μ H es' (l.set j e')
 | [],[],i,es',_,h => by
  simp only [mput,Option.some.injEq] at h
  subst h
  exact .inl ⟨rfl,fun e h1 h2 => ⟨by rw [h1]; exact hr,hok,by rw [h2]; exact hx,trivial⟩⟩
 | (k',v') :: es,e :: l,i,es',hm,h => by
  simp only [mput] at h
  split at h
  ·rename_i he
   simp only [Option.some.injEq] at h
   subst h
   have hs := same_now hk hr hm.1 he
   exact .inr ⟨0,e,by simp [Go.Instr.findNow,hs],rfl,key_eq hr hm.1 he,fun e' h1 h2 => ⟨by rw [h1]; exact hr,hok,by rw [h2]; exact hx,hm.2.2.2⟩⟩
  ·rename_i he
   obtain ⟨es2,h2,rfl⟩ := Option.map_eq_some_iff.1 h
   have hs := same_now hk hr hm.1 he
   rcases put_now hk hr hok hx (i + 1) hm.2.2.2 h2 with ⟨g1,g2⟩ | ⟨j,e',g1,g2,g3,g4⟩
   ·exact .inl ⟨by simpa [Go.Instr.findNow,hs] using g1,fun e1 a b => ⟨hm.1,hm.2.1,hm.2.2.1,g2 e1 a b⟩⟩
   ·exact .inr ⟨j + 1,e',by simp [Go.Instr.findNow,hs,g1]; omega,by simpa using g2,g3,fun e1 a b => ⟨hm.1,hm.2.1,hm.2.2.1,g4 e1 a b⟩⟩
  ·cases h
 | [],_ :: _,_,_,hm,_ => hm.elim
 | (_,_) :: _,[],_,_,hm,_ => hm.elim
theorem drop_now {ν : Nat → Nat} {kd : KD} {k : PV} {u : Value} (hk : keyIs kd k = true) (hr : RelP ν w S k u) : ∀ {es : List (PV × AV)} {l : List MapEntry} (i : Nat) {es' : List (PV × AV)},MapRel ν w S μ H es l → mdrop k es = some es' →
  (Go.Instr.findNow kd.desc u l i = some none ∧ es' = es) ∨
  ∃ j e,Go.Instr.findNow kd.desc u l i = some (some (i + j,e.val)) ∧ l[j]? = some e ∧ MapRel ν w S μ H es' (l.eraseIdx j)
 | [],[],i,es',_,h => by
  simp only [mdrop,Option.some.injEq] at h
  subst h
  exact .inl ⟨rfl,rfl⟩
 | (k',v') :: es,e :: l,i,es',hm,h => by
  simp only [mdrop] at h
  split at h
  ·rename_i he
   simp only [Option.some.injEq] at h
   subst h
   have hs := same_now hk hr hm.1 he
   exact .inr ⟨0,e,by simp [Go.Instr.findNow,hs],rfl,hm.2.2.2⟩
  ·rename_i he
   obtain ⟨es2,h2,rfl⟩ := Option.map_eq_some_iff.1 h
   have hs := same_now hk hr hm.1 he
   rcases drop_now hk hr (i + 1) hm.2.2.2 h2 with ⟨g1,rfl⟩ | ⟨j,e',g1,g2,g3⟩
   ·exact .inl ⟨by simpa [Go.Instr.findNow,hs] using g1,rfl⟩
   ·exact .inr ⟨j + 1,e',by simp [Go.Instr.findNow,hs,g1]; omega,by simpa using g2,hm.1,hm.2.1,hm.2.2.1,g3⟩
  ·cases h
 | [],_ :: _,_,_,hm,_ => hm.elim
 | (_,_) :: _,[],_,_,hm,_ => hm.elim
theorem MapRel.get_all {ν : Nat → Nat} {es : List (PV × AV)} {arr : Array MapEntry} (h : MapRel ν w S μ H es arr.toList) : arr.size = es.length ∧ ∀ (j : Nat) k v,es[j]? = some (k,v) → ∃ e,arr[j]? = some e ∧ RelP ν w S k e.key ∧ v.ok = true ∧ RelV ν w S μ H v e.val :=
 ⟨by simpa using h.len,fun j k v hj => by simpa using h.get j k v hj⟩
theorem x_mkmap (hr : Rel N.fn w S μ H) {T : TypeId} : ∃ u w' μ',(Go.Instr.makeMap T none).run P w = .ok u w' ∧ Step N.fn w S μ H w' S μ' (H ++ [.box (mapCells [])]) ∧ RelV N.fn w' S μ' (H ++ [.box (mapCells [])]) (.mp H.length) u := by
 refine ⟨.map (some w.heap.size),w.alloc (.map #[] 0),upd μ H.length (.pointer (some ⟨w.heap.size,0,none⟩)),?_,Step.push hr (Grows.alloc w _) ?_ ?_,?_⟩
 ·simp [Go.Instr.makeMap]
 ·exact ⟨w.heap.size,upd_same,.inr (.inr ⟨[],#[],0,rfl,Go.heap_alloc_new w _,Go.MapKept.stamped_empty _,rfl,fun j k v hj => by simp at hj⟩)⟩
 ·intro g hg
  simp only [blkOf,Option.some.injEq] at hg
  omega
 ·exact .mp _ w.heap.size _ (by simp) (fun _ _ => upd_same) rfl
theorem now_ne {d : TypeDesc} {u : Value} (hu : Go.MapKept.IsKey d u) : ∀ {l : List MapEntry} {i : Nat},Go.Instr.findNow d u l i = some none → ∀ e ∈ l,e.key ≠ u
 | [],_,_ => by simp
 | x :: l,i,h => by
  intro e he
  unfold Go.Instr.findNow at h
  split at h
  ·cases h
  ·rename_i hs
   rcases List.mem_cons.1 he with rfl | he
   ·intro e2
    obtain ⟨r,h1,h2⟩ := Go.MapKept.sameNow_of_keys hu (e2 ▸ hu : Go.MapKept.IsKey d e.key)
    rw [h1] at hs
    have := h2.2 e2.symm
    subst this
    cases hs
   ·exact now_ne hu h e he
  ·cases h
theorem map_step (hr : Rel N.fn w S μ H) {id g : Nat} {es es' : List (PV × AV)} {arr arr' : Array MapEntry} {c c' : Nat} (hes : mapOf H id = some es) (hg : μ id = .pointer (some ⟨g,0,none⟩)) (hh : w.heap[g]? = some (.map arr c)) (hst : Go.MapKept.Stamped arr' c')
  (hm : ∀ {w' : World} {μ' : Nat → Value} {H' : Heap},(∀ k,S k → w'.heap[k]? = w.heap[k]?) → Moves μ H μ' H' → MapRel N.fn w' S μ' H' es' arr'.toList) :
  Step N.fn w S μ H { w with heap := w.heap.setIfInBounds g (.map arr' c') } S (upd μ id (.pointer (some ⟨g,0,none⟩))) (H.set id (.box (mapCells es'))) := by
 have hb := mapOf_spec hes
 have hgl : g < w.heap.size := (Array.getElem?_eq_some_iff.1 hh).1
 have hmv : Moves μ H (upd μ id (.pointer (some ⟨g,0,none⟩))) (H.set id (.box (mapCells es'))) := moves_set_box hb hg.symm
 have hk : ∀ k,k < w.heap.size → blkOf (μ id) ≠ some k → ({ w with heap := w.heap.setIfInBounds g (.map arr' c') } : World).heap[k]? = w.heap[k]? := by
  intro k _ hne
  rw [hg] at hne
  have : g ≠ k := fun e => hne (by rw [e]; rfl)
  simp [Array.getElem?_setIfInBounds_ne this]
 have keepS : ∀ k,S k → ({ w with heap := w.heap.setIfInBounds g (.map arr' c') } : World).heap[k]? = w.heap[k]? := fun k hk' =>
  hk k (hr.lt k hk') (fun e => hr.apart k (alive_iff.2 ⟨id,_,hb,.inl ⟨_,rfl⟩,e⟩) hk')
 obtain ⟨g1,g2⟩ := (hm keepS hmv).get_all
 refine Step.set hr hb (.inl ⟨_,rfl⟩) rfl rfl rfl (by simp) hk hmv ?_ (fun k h => .inl (by rw [hg]; exact h))
 exact ⟨g,upd_same,.inr (.inr ⟨es',arr',c',rfl,by simp [hgl],hst,g1,g2⟩)⟩
theorem x_mset (hr : Rel N.fn w S μ H) {T k e : TypeId} {kd : KD} {x i y : Value} {x' i' y' : AV} {H' : Heap} (hT : mapT P T = some (k,e)) (hk : P.underlying k = some kd.desc) (hx : RelV N.fn w S μ H x' x) (hi : RelV N.fn w S μ H i' i) (hy : RelV N.fn w S μ H y' y)
  (hv : msetA H kd x' i' y' = some H') : ∃ w' μ',(Go.Instr.mapUpdate T x i y).run P w = .ok () w' ∧ Step N.fn w S μ H w' S μ' H' := by
 have hu := mapT_spec hT
 unfold msetA at hv
 split at hv
 rotate_left
 ·cases hv
 rename_i id kv
 simp only [ifB_some,Option.bind_eq_some_iff,Option.map_eq_some_iff,Bool.and_eq_true] at hv
 obtain ⟨⟨hkd,hok⟩,es,hes,es',hp,rfl⟩ := hv
 have hkey := key_is hkd hi.p_inv
 obtain ⟨g,rfl,hl,hg⟩ := hx.mp_inv
 obtain ⟨g',arr,clock,e1,e2,est,e3⟩ := hr.map_of hes
 have hg := hg _ (mapOf_spec hes)
 rw [hg] at e1
 cases e1
 rcases put_now hkd hi.p_inv hok hy 0 e3 hp with ⟨h1,h2⟩ | ⟨j,en,h1,h2,h3,h4⟩
 ·have hf := Go.MapKept.run_findKey (w := w) hk h1
  refine ⟨{ w with heap := w.heap.setIfInBounds g (.map (arr.push { key := i,val := y,born := clock }) (clock + 1)) },_,?_,map_step hr hes hg e2 (Go.MapKept.stamped_push est (now_ne hkey h1)) fun hw hm => ?_⟩
  ·simp [Go.Instr.mapUpdate,Go.run_underlying hu,Go.MapKept.run_getObj_map e2,Go.MapKept.run_checkKey hk hkey,hf,Go.MapKept.run_setObj_map _ e2]
  ·rw [Array.toList_push]
   exact (h2 _ rfl rfl).keep (fun _ h => h) hw hm
 ·have hf := Go.MapKept.run_findKey (w := w) hk h1
  have h2a : arr[j]? = some en := by simpa using h2
  have hks := Go.MapKept.run_keyThatStays (P := P) (w := w) hkey
  refine ⟨{ w with heap := w.heap.setIfInBounds g (.map (arr.modify j fun e => { e with key := i,val := y }) clock) },_,?_,map_step hr hes hg e2 (Go.MapKept.stamped_modify est _ _ (fun _ _ => rfl) (fun e' _ he' => by rw [h2a] at he'; cases he'; exact h3.symm)) fun hw hm => ?_⟩
  ·simp [Go.Instr.mapUpdate,Go.run_underlying hu,Go.MapKept.run_getObj_map e2,Go.MapKept.run_checkKey hk hkey,hf,Go.MapKept.run_setObj_map _ e2,h2a,h3,hks]
  ·have e : (arr.modify j fun e => { e with key := i,val := y }).toList = arr.toList.set j { en with key := i,val := y } := by
    rw [Array.toList_modify]
    refine List.ext_getElem? fun n => ?_
    have hlt := (List.getElem?_eq_some_iff.1 h2).1
    by_cases hn : j = n
    ·subst hn
     have hlt' : j < arr.size := by simpa using hlt
     rw [List.getElem?_modify,List.getElem?_set,if_pos rfl,if_pos hlt,h2]
     simp
    ·simp [hn]
   rw [e]
   exact (h4 _ rfl rfl).keep (fun _ h => h) hw hm
theorem x_mdel (hr : Rel N.fn w S μ H) {T k e : TypeId} {kd : KD} {ts : Array TypeId} {t0 : TypeId} {x i : Value} {x' i' : AV} {H' : Heap} (hT : mapT P T = some (k,e)) (hk : P.underlying k = some kd.desc) (hx : RelV N.fn w S μ H x' x) (hi : RelV N.fn w S μ H i' i) (hts : ts[0]? = some T)
  (hv : mdelA H kd x' i' = some H') : ∃ w' μ',(Builtin.delete_ ts t0 #[x,i]).run P w = .ok (.tuple #[]) w' ∧ Step N.fn w S μ H w' S μ' H' := by
 have hu := mapT_spec hT
 unfold mdelA at hv
 split at hv
 rotate_left
 ·cases hv
 rename_i id kv
 simp only [ifB_some,Option.bind_eq_some_iff,Option.map_eq_some_iff] at hv
 obtain ⟨hkd,es,hes,es',hp,rfl⟩ := hv
 have hkey := key_is hkd hi.p_inv
 obtain ⟨g,rfl,hl,hg⟩ := hx.mp_inv
 obtain ⟨g',arr,clock,e1,e2,est,e3⟩ := hr.map_of hes
 have hg := hg _ (mapOf_spec hes)
 rw [hg] at e1
 cases e1
 rcases drop_now hkd hi.p_inv 0 e3 hp with ⟨h1,rfl⟩ | ⟨j,en,h1,h2,h4⟩
 ·have hf := Go.MapKept.run_findKey (w := w) hk h1
  refine ⟨{ w with heap := w.heap.setIfInBounds g (.map arr clock) },_,?_,map_step hr hes hg e2 est fun hw hm => e3.keep (fun _ h => h) hw hm⟩
  simp [Builtin.delete_,hts,Go.run_underlying hu,Go.MapKept.run_getObj_map e2,Go.MapKept.run_checkKey hk hkey,hf,Go.MapKept.run_setObj_map _ e2]
 ·have hf := Go.MapKept.run_findKey (w := w) hk h1
  refine ⟨{ w with heap := w.heap.setIfInBounds g (.map (arr.eraseIdxIfInBounds j) clock) },_,?_,map_step hr hes hg e2 (Go.MapKept.stamped_erase est _) fun hw hm => ?_⟩
  ·simp [Builtin.delete_,hts,Go.run_underlying hu,Go.MapKept.run_getObj_map e2,Go.MapKept.run_checkKey hk hkey,hf,Go.MapKept.run_setObj_map _ e2]
  ·have e : (arr.eraseIdxIfInBounds j).toList = arr.toList.eraseIdx j := by simp
   rw [e]
   exact h4.keep (fun _ h => h) hw hm
theorem q_mlen (hr : Rel N.fn w S μ H) {T k e t0 : TypeId} {x : Value} {x' v : AV} (hT : mapT P T = some (k,e)) (hx : RelV N.fn w S μ H x' x) (hv : mlenA H x' = some v) : ∃ u,(Builtin.len_ #[T] t0 #[x]).run P w = .ok u w ∧ RelV N.fn w S μ H v u := by
 have hu := mapT_spec hT
 unfold mlenA at hv
 split at hv
 ·simp only [Option.some.injEq] at hv; subst hv
  have hx := hx.p_inv
  cases hx
  exact ⟨.int .i64 0,by simp [Builtin.len_,Go.run_underlying hu,Go.goInt],.p _ _ (.int _ _)⟩
 ·rename_i id
  obtain ⟨es,hes,rfl⟩ := Option.map_eq_some_iff.1 hv
  obtain ⟨g,rfl,hl,hg⟩ := hx.mp_inv
  obtain ⟨g',arr,clock,e1,e2,est,e3⟩ := hr.map_of hes
  rw [hg _ (mapOf_spec hes)] at e1
  cases e1
  have hl := e3.get_all.1
  refine ⟨.int .i64 (es.length : Nat),?_,.p _ _ (.int _ _)⟩
  simp [Builtin.len_,Go.run_underlying hu,Go.goInt,Go.MapKept.run_getObj_map e2,hl]
 ·cases hv
theorem q_isnil {a : Act} (hr : Rel N.fn w S μ H) {op : BinOp} {T e : TypeId} {neg : Bool} {x y : Operand} {x' y' v : AV} (hop : op = if neg then .neq else .eql) (ht : slT P T = some e) (hx : RelV N.fn w S μ H x' (a.eval x)) (hy : RelV N.fn w S μ H y' (a.eval y))
  (hv : isnilA H neg x' y' = some v) : ∃ u,(do Go.eqGuard op T x y (a.eval x) (a.eval y); Go.binOp op T (a.eval x) (a.eval y)).run P w = .ok u w ∧ RelV N.fn w S μ H v u := by
 unfold isnilA at hv
 split at hv
 ·rename_i id n sz xs
  obtain ⟨r,hb,hv⟩ := Option.bind_eq_some_iff.1 hv
  simp only [Option.ite_none_right_eq_some,Option.some.injEq] at hv
  obtain ⟨hn,rfl⟩ := hv
  subst hop
  have e1 := hx.own_inv hb
  have e2 := hy.p_inv
  generalize a.eval x = vx at *
  generalize a.eval y = vy at *
  cases e2 with
  | sl _ _ _ a2 c2 us2 _ _ _ k5 _ _ _ _ =>
  obtain ⟨_,rfl,_⟩ := k5 (.inl rfl)
  obtain ⟨f,h1,h2⟩ := rowOf_spec hb
  obtain ⟨_,_,us,h3,_⟩ := hr.blk id _ h1
  obtain ⟨_,h3⟩ := h3
  rw [h2] at h3
  rcases h3 with ⟨h0,_⟩ | ⟨g,cap,cur,e',h4,_⟩
  ·omega
  ·rw [e1,h4]
   refine ⟨.bool neg,?_,.p _ _ (.bool _)⟩
   simp only [Go.Sem.run_bind,run_eqGuard_plain (u := .slice (some ⟨g,0,none⟩) n cap) rfl,Go.Result.andThen_ok]
   have := run_eq_plain (P := P) (w := w) (T := T) (u := .slice (some ⟨g,0,none⟩) n cap) (v := .slice none xs.length c2) neg rfl rfl (eqIn_sl (slT_spec ht) _ _ _ _ _)
   simpa using this
 ·exact q_eqk (kd := 4) hop (by simp [eqkT,slT_spec ht]) hx hy hv
def kdIs : KD → TypeDesc → Bool
 | .int k,.int k' => decide (k' = k)
 | .bool,.bool => true
 | .str,.string => true
 | _,_ => false
theorem kdIs_spec {kd : KD} {d : TypeDesc} (h : kdIs kd d = true) : d = kd.desc := by
 cases kd <;> cases d <;> simp only [kdIs,decide_eq_true_eq,Bool.false_eq_true] at h
 ·subst h; rfl
 ·rfl
 ·rfl
theorem zeroV_spec {T : TypeId} {zero : List PV} (h : zeroV P T zero = true) : ∃ z,(Go.zeroValue T).run P w = .ok z w ∧ RelV N.fn w S μ H (mkZ zero) z := by
 unfold zeroV at h
 split at h
 ·rename_i z p hz
  obtain ⟨i,hi,hzi⟩ := Option.bind_eq_some_iff.1 hz
  simp only [Bool.and_eq_true] at h
  exact ⟨z,by simp [Go.zeroValue,Go.typeInfo,hi,hzi],.p _ _ (constOk_rel h.2)⟩
 ·rename_i cs hz hno
  obtain ⟨i,hi,hzi⟩ := Option.bind_eq_some_iff.1 hz
  refine ⟨.agg cs,by simp [Go.zeroValue,Go.typeInfo,hi,hzi],?_⟩
  have hc := consts_rel (ν := N.fn) (w := w) (S := S) h
  have e : ∀ zz : List PV,(∀ p,zz = [p] → False) → mkZ zz = .p (.agg zz) := by
   intro zz hno
   unfold mkZ
   split
   ·exact (hno _ rfl).elim
   ·rfl
  rw [e _ hno]
  exact .p _ _ (.agg _ _ (by simpa using hc.1) hc.2.1 (fun j c hj => by rw [← getD_toList]; exact hc.2.2 j c hj))
 ·cases h
theorem x_brow (hr : Rel N.fn w S μ H) {T e : TypeId} {sz n : Nat} {ag : Bool} {zero : List PV} {parts : List (Nat × Value)} {parts' : List (Nat × Nat × AV)} {r : AV × Heap} (hT : slT P T = some e) (hs : (P.info? e).map (·.size) = some sz)
  (h0sz : 0 < sz) (hag : ag = false → sz = 1) (hn : n * sz ≤ 2 ^ 24) (hz : bsZero P e (n * sz) zero = true)
  (hp : All2 (fun (x : Nat × Value) (y : Nat × Nat × AV) => (x.1 * sz,sz) = (y.1,y.2.1) ∧ RelV N.fn w S μ H y.2.2 x.2) parts parts') (hv : browA H sz ag n (fillA (zero.map .p) parts') = some r) :
  ∃ u w' μ',(Go.Instr.buildSlice T n parts.toArray).run P w = .ok u w' ∧ Step N.fn w S μ H w' S μ' r.2 ∧ RelV N.fn w' S μ' r.2 r.1 u := by
 unfold browA at hv
 obtain ⟨cs,hf,hv⟩ := Option.bind_eq_some_iff.1 hv
 obtain ⟨ps,hps,hv⟩ := Option.bind_eq_some_iff.1 hv
 simp only [Option.ite_none_right_eq_some,Option.some.injEq] at hv
 obtain ⟨⟨hlen,hlim⟩,rfl⟩ := hv
 unfold bsZero at hz
 split at hz
 rotate_left
 ·cases hz
 rename_i z hzz
 obtain ⟨i,hi,hzi⟩ := Option.bind_eq_some_iff.1 hzz
 have hzc := consts_cells (N := N) (w := w) (S := S) (μ := μ) (H := H) hz
 rw [Array.toArray_toList] at hzc
 obtain ⟨us,f1,f2⟩ := fillA_rel (fun k => some (k * sz,sz)) parts parts' _ cs _ hzc (All2.imp (fun x y h => ⟨by rw [← h.1],h.2⟩) hp) hf
 obtain ⟨p1,p2,p3⟩ := pures_cells hps f2
 obtain ⟨c1,c2⟩ := chunks_spec (ag := ag) hag n ps hlen p2
 have hus : us.toList.length = n * sz := by rw [Array.length_toList,← hlen]; omega
 have hrow : RowAt (w.alloc (.cells us e)) (.slice (some ⟨w.heap.size,0,none⟩) n n) sz (chunks sz ag n ps).length us.toList := by
  rw [c1]
  refine ⟨hus,?_⟩
  by_cases h0 : n = 0
  ·subst h0
   exact .inl ⟨rfl,_,rfl⟩
  ·refine .inr ⟨w.heap.size,n,us,e,rfl,by omega,Go.heap_alloc_new w _,Nat.le_refl _,by simp only [maxLen]; have : lim = 1073741824 := rfl; omega,by simpa using hus,?_⟩
   rw [← hus,List.take_length]
 obtain ⟨μ',s1,s2⟩ := step_newrow hr (Grows.alloc w (.cells us e)) h0sz (xs := chunks sz ag n ps) (by rw [c1]; exact hlim) hrow ⟨fun x hx => by
   obtain ⟨i,hi⟩ := List.getElem?_of_mem hx
   exact ⟨(c2 i x hi).1,(c2 i x hi).2.1⟩,fun i x j c hx hc => by
   have h3 := (c2 i x hx).2.2 j c hc
   have := (p3 _ c h3).keep (fun _ h => h) (fun g hg => Go.RowKit.Below.heap_alloc w (.cells us e) g (hr.lt g hg))
   rwa [getD_array] at this⟩ (fun g hg => by
   simp only [blkOf] at hg
   split at hg
   ·cases hg
   ·simp only [Option.some.injEq] at hg; omega)
 refine ⟨_,_,μ',?_,s1,by rw [c1] at s2; exact s2⟩
 have hn' : ¬ (n * sz > 2 ^ 24) := by omega
 simp only [Go.Instr.buildSlice,Go.Sem.run_bind,Go.run_underlying (slT_spec hT),Go.Result.andThen_ok,run_sizeOf hs,if_neg hn']
 by_cases h0 : n * sz = 0
 ·rw [if_pos h0] at f1
  simp only [h0,if_true]
  rw [Go.Sem.run_bind]
  simp only [Go.Sem.run_pure,Go.Result.andThen_ok]
  have e0 : (Array.range 0).map (fun x => (#[] : Array Value)[x % (#[] : Array Value).size]!) = #[] := by simp
  rw [e0,f1]
  simp [Go.newRow]
 ·rw [if_neg h0] at f1
  simp only [h0,if_false,Go.Sem.run_bind,Go.zeroValue,Go.typeInfo,hi,Go.Sem.run_pure,Go.Result.andThen_ok,hzi,Go.run_program]
  rw [f1]
  simp [Go.newRow]
end
end Ab
namespace Ab
open Go (IntKind BinOp UnOp World Value Addr Obj undef maxLen Program TypeId Oper Op Operand Act Sem Next Result execOp Builtin)
def eqaT (P : Program) (T : TypeId) (ks : List Nat) : Bool :=
 match P.underlying T with
 | some (.array n e) => !P.eqGuardType P.depth T && fieldKind P e 1 && (match P.info? e with | some i => i.size == 1 | none => false) && ks == List.replicate n 1
 | _ => false
section
variable {Γ : Ctx} {N : Names} {P : Program} {w : World} {S : Nat → Prop} {μ : Nat → Value} {H : Heap} {a : Act}
theorem run_eqItems_bools {e : TypeId} (he : fieldKind P e 1 = true) (d : Nat) {xs ys : Array Value} : ∀ (m k : Nat) (asX bs : List PV) (b : Bool),k + asX.length ≤ xs.size → k + bs.length ≤ ys.size →
  (∀ (j : Nat) c,asX[j]? = some c → RelP N.fn w S c (xs.getD (k + j) undef)) → (∀ (j : Nat) c,bs[j]? = some c → RelP N.fn w S c (ys.getD (k + j) undef)) → eqCells (List.replicate m 1) asX bs = some b →
  (Go.Op.eqItems (d + 1) e 1 xs ys (List.range' k m)).run P w = .ok b w := by
 intro m
 induction m with
 | zero =>
  intro k asX bs b _ _ _ _ h
  cases asX <;> cases bs <;> simp only [List.replicate_zero,eqCells,Option.some.injEq,reduceCtorEq] at h
  subst h
  simp [Go.Op.eqItems]
 | succ m ih =>
  intro k asX bs b h1 h2 ha hb h
  rw [List.replicate_succ] at h
  cases asX with
  | nil => simp [eqCells] at h
  | cons x asX =>
   cases bs with
   | nil => cases x <;> simp [eqCells] at h
   | cons y bs =>
    cases x <;> try (simp [eqCells] at h; done)
    rename_i p
    cases y <;> try (simp [eqCells] at h; done)
    rename_i q
    simp only [eqCells,Option.map_eq_some_iff] at h
    obtain ⟨t,ht,rfl⟩ := h
    simp only [List.length_cons] at h1 h2
    have ax := (ha 0 _ rfl).bool_inv
    have ay := (hb 0 _ rfl).bool_inv
    rw [Nat.add_zero] at ax ay
    have r1 := run_part_scalar (P := P) (w := w) (xs := xs) (k := k) he (by omega)
    have r2 := run_part_scalar (P := P) (w := w) (xs := ys) (k := k) he (by omega)
    rw [ax] at r1
    rw [ay] at r2
    have hq : (Go.Op.equalIn (d + 1) e (.bool p) (.bool q)).run P w = .ok (p == q) w := by
     simp only [fieldKind] at he
     split at he
     ·rename_i hu; simp [Go.Op.equalIn,Go.run_underlying hu]
     ·cases he
    have ih := ih (k + 1) asX bs t (by omega) (by omega) (fun j c hj => by have := ha (j + 1) c (by simpa using hj); rwa [show k + (j + 1) = k + 1 + j by omega] at this)
     (fun j c hj => by have := hb (j + 1) c (by simpa using hj); rwa [show k + (j + 1) = k + 1 + j by omega] at this) ht
    rw [List.range'_succ]
    simp only [Go.Op.eqItems,Go.Sem.run_bind,Nat.mul_one,r1,r2,Go.Result.andThen_ok,hq]
    cases hpq : p == q
    ·simp
    ·simpa using ih
theorem q_eqa {op : BinOp} {T : TypeId} {ks : List Nat} {neg : Bool} {x y : Operand} {x' y' v : AV} (hop : op = if neg then .neq else .eql) (ht : eqaT P T ks = true)
  (hx : RelV N.fn w S μ H x' (a.eval x)) (hy : RelV N.fn w S μ H y' (a.eval y)) (hv : eqsA ks neg x' y' = some v) :
  ∃ u,(do Go.eqGuard op T x y (a.eval x) (a.eval y); Go.binOp op T (a.eval x) (a.eval y)).run P w = .ok u w ∧ RelV N.fn w S μ H v u := by
 unfold eqsA at hv
 split at hv
 ·rename_i asX bs
  obtain ⟨t,he,rfl⟩ := Option.map_eq_some_iff.1 hv
  cases hx with
  | p _ _ hx =>
  cases hy with
  | p _ _ hy =>
  generalize a.eval x = vx at *
  generalize a.eval y = vy at *
  cases hx with
  | agg _ xs h1 h2 h3 =>
  cases hy with
  | agg _ ys k1 k2 k3 =>
  unfold eqaT at ht
  split at ht
  ·rename_i n e hfs
   simp only [Bool.and_eq_true,Bool.not_eq_true',beq_iff_eq] at ht
   obtain ⟨⟨⟨hg,hf⟩,hs⟩,rfl⟩ := ht
   split at hs
   ·rename_i i hi
    have hc : P.cellsOf e = 1 := by simp [Go.Program.cellsOf,hi]; simpa using hs
    have hr := run_eqItems_bools (P := P) (w := w) (N := N) (S := S) hf 9998 (xs := xs) (ys := ys) n 0 asX bs t (by omega) (by omega)
     (fun j c hj => by rw [Nat.zero_add]; exact h3 j c hj) (fun j c hj => by rw [Nat.zero_add]; exact k3 j c hj) he
    have hq : (Go.Op.equalIn 10000 T (.agg xs) (.agg ys)).run P w = .ok t w := by
     rw [show (10000 : Nat) = 9999 + 1 from rfl,Go.run_equalIn_array w 9999 xs ys hfs hi,hc,List.range_eq_range']
     exact hr
    subst hop
    cases neg
    ·refine ⟨.bool t,?_,.p _ _ (by cases t <;> exact .bool _)⟩
     simp only [Bool.false_eq_true,if_false,Go.Sem.run_bind,Go.run_eqGuard_agg w _ T x y xs ys hg,Go.Result.andThen_ok,Go.run_eql_struct,hq]
    ·refine ⟨.bool (!t),?_,.p _ _ (by cases t <;> exact .bool _)⟩
     simp only [if_true,Go.Sem.run_bind,Go.run_eqGuard_agg w _ T x y xs ys hg,Go.Result.andThen_ok,Go.run_neq_struct,hq]
   ·cases hs
  ·cases ht
 ·cases hv
end
end Ab
namespace Ab
open Go (IntKind BinOp UnOp World Value Addr Obj undef maxLen Program TypeId Oper Op Operand Act Sem Next Result execOp Builtin)
section
variable {Γ : Ctx} {N : Names} {P : Program} {w : World} {S : Nat → Prop} {μ : Nat → Value} {H : Heap}
theorem row_at (hr : Rel N.fn w S μ H) {id sz : Nat} {f : Bool} {xs : List PV} (hb : H[id]? = some (.row f sz xs)) (h0 : 0 < xs.length) : ∃ g cap cur t us,μ id = .slice (some ⟨g,0,none⟩) xs.length cap ∧ w.heap[g]? = some (.cells cur t (0,0)) ∧
  xs.length ≤ cap ∧ cap ≤ maxLen ∧ cur.size = cap * sz ∧ cur.toList.take (xs.length * sz) = us ∧ us.length = xs.length * sz ∧ FlatRel N.fn w S sz xs us := by
 obtain ⟨_,_,us,⟨h1,h2⟩,h3,h4,_⟩ := hr.blk id _ hb
 rcases h2 with ⟨h,_⟩ | ⟨g,cap,cur,t,q3,q4,q5,q6,q7,q8,q9⟩
 ·omega
 ·exact ⟨g,cap,cur,t,us,q3,q5,q6,q7,q8,q9,h1,h3,h4⟩
theorem q_wslice (hr : Rel N.fn w S μ H) {T e : TypeId} {sz : Nat} {x : Value} {x' v : AV} {lo hi : Option AV} {lo' hi' : Option Value} (hT : slT P T = some e) (hs : (P.info? e).map (·.size) = some sz)
  (hx : RelV N.fn w S μ H x' x) (hlo : RelO N.fn w S μ H lo lo') (hhi : RelO N.fn w S μ H hi hi') (hv : wsliceA H sz x' lo hi = some v) :
  ∃ u,(Go.Instr.sliceAt T x lo' hi' none).run P w = .ok u w ∧ RelV N.fn w S μ H v u := by
 unfold wsliceA at hv
 split at hv
 rotate_left
 ·cases hv
 rename_i id n
 obtain ⟨r,hrr,hv⟩ := Option.bind_eq_some_iff.1 hv
 rw [Option.ite_none_right_eq_some] at hv
 obtain ⟨hsr,hv1⟩ := hv
 obtain ⟨h,hh,hv2⟩ := Option.bind_eq_some_iff.1 hv1
 obtain ⟨l,hl,hv3⟩ := Option.bind_eq_some_iff.1 hv2
 rw [Option.ite_none_right_eq_some,Option.some.injEq] at hv3
 obtain ⟨hln,rfl⟩ := hv3
 subst hsr
 obtain ⟨f,hb,hn⟩ := rowOf_spec hrr
 subst hn
 obtain ⟨g,cap,cur,t,us,e1,e2,e3,e4,e5,e6,e7,e8⟩ := row_at hr hb (by omega)
 have hx1 : x = μ id := hx.own_inv hrr
 obtain ⟨b1,b2,b3⟩ := run_sliceBounds (P := P) (sl := true) (cap := cap) hlo hhi e3 hh hl
 rw [hx1,e1]
 refine ⟨.slice (some ⟨g,l * r.1,none⟩) (h - l) (cap - l),?_,.el _ _ _ _ _ (List.getElem?_eq_some_iff.1 hb).1 (fun f2 sz2 xs2 hz => ?_) rfl⟩
 ·have hne : ¬ cap = l := by omega
  simp [Go.Instr.sliceAt,Go.Instr.slice,Go.run_underlying (slT_spec hT),b1,run_sizeOf hs,hne,Go.Addr.add_lit]
 ·rw [hb] at hz; cases hz
  exact ⟨Nat.le_refl _,fun _ => ⟨fun hi => by omega,fun _ _ _ _ => ⟨g,cap,e1,by rw [show r.2.length + l - r.2.length = l by omega]⟩⟩⟩
theorem FlatRel.take {ν : Nat → Nat} {xs : List PV} {us : List Value} (hx : FlatRel ν w S 1 xs us) (k : Nat) : FlatRel ν w S 1 (xs.take k) (us.take k) := by
 refine ⟨fun x h => hx.1 x (List.mem_of_mem_take h),fun i x j c hi hc => ?_⟩
 obtain ⟨h1,h2⟩ := take_get hi
 have hj : j < 1 := by rw [← (hx.1 x (List.mem_of_getElem? h2)).1]; exact (List.getElem?_eq_some_iff.1 hc).1
 have := hx.2 i x j c h2 hc
 have e : (us.take k).getD (i * 1 + j) undef = us.getD (i * 1 + j) undef := by
  simp only [List.getD_eq_getElem?_getD,List.getElem?_take]
  rw [if_pos (by omega)]
 rwa [e]
theorem FlatRel.drop {ν : Nat → Nat} {xs : List PV} {us : List Value} (hx : FlatRel ν w S 1 xs us) (k : Nat) : FlatRel ν w S 1 (xs.drop k) (us.drop k) := by
 refine ⟨fun x h => hx.1 x (List.mem_of_mem_drop h),fun i x j c hi hc => ?_⟩
 rw [List.getElem?_drop] at hi
 have := hx.2 (k + i) x j c hi hc
 have e : (us.drop k).getD (i * 1 + j) undef = us.getD ((k + i) * 1 + j) undef := by
  simp only [List.getD_eq_getElem?_getD,List.getElem?_drop]
  rw [show k + (i * 1 + j) = (k + i) * 1 + j by omega]
 rwa [e]
theorem win_src (hr : Rel N.fn w S μ H) {y : Value} {y' : AV} {ys : List PV} (hy : RelV N.fn w S μ H y' y) (hv : winElems H 1 y' = some ys) : ∃ news,Src w y 1 ys.length news ∧ FlatRel N.fn w S 1 ys news := by
 unfold winElems at hv
 split at hv
 ·rename_i id n i h
  simp only [Option.ite_none_right_eq_some] at hv
  obtain ⟨⟨h1,h2,h3,h4⟩,hv⟩ := hv
  obtain ⟨r,hrr,hv⟩ := Option.bind_eq_some_iff.1 hv
  simp only [Option.ite_none_right_eq_some,Option.some.injEq] at hv
  obtain ⟨e,rfl⟩ := hv
  obtain ⟨f,hb,hn⟩ := rowOf_spec hrr
  subst hn
  obtain ⟨g,cap,cur,t,us,e1,e2,e3,e4,e5,e6,e7,e8⟩ := row_at hr hb (by omega)
  cases hy with
  | el _ _ _ _ _ hl hx0 _ =>
  obtain ⟨_,hx1⟩ := hx0 _ _ _ hb
  obtain ⟨g',cap',k1,rfl⟩ := (hx1 rfl).2 h1 h2 h3 h4
  rw [e1] at k1
  cases k1
  rw [← e] at *
  simp only [Nat.mul_one] at *
  have hlen : ((r.2.take h).drop (i - r.2.length)).length = h - (i - r.2.length) := by simp only [List.length_drop,List.length_take]; omega
  refine ⟨(us.take h).drop (i - r.2.length),⟨?_,fun u hu => ?_,.inr ⟨_,_,by rw [hlen],fun j u hu => ?_⟩⟩,(e8.take h).drop _⟩
  ·rw [hlen]; simp only [List.length_drop,List.length_take]; omega
  ·have hm := List.mem_of_mem_take (List.mem_of_mem_drop hu)
   obtain ⟨k,hk,rfl⟩ := List.getElem_of_mem hm
   have hkx : r.2[k]? = some r.2[k] := List.getElem?_eq_getElem (by omega)
   have hc := (e8.1 _ (List.mem_of_getElem? hkx))
   obtain ⟨c,hc1⟩ : ∃ c,r.2[k].cells[0]? = some c := ⟨_,List.getElem?_eq_getElem (show 0 < r.2[k].cells.length by rw [hc.1]; decide)⟩
   have hrp := e8.2 k _ 0 c hkx hc1
   rw [Nat.mul_one,Nat.add_zero,List.getD_eq_getElem?_getD,List.getElem?_eq_getElem hk] at hrp
   have := hrp.one
   simp only [Option.getD_some] at this
   rw [this]
   exact hc.2 c (List.mem_of_getElem? hc1)
  ·rw [List.getElem?_drop,List.getElem?_take] at hu
   split at hu
   ·rename_i hlt
    rw [Go.Addr.add_lit,Go.cell_of_row w g _ cur t _ e2]
    rw [← e6,List.getElem?_take] at hu
    split at hu
    ·simpa using hu
    ·cases hu
   ·cases hu
 ·exact elems_src hr (by decide) hy hv
theorem x_copy (hr : Rel N.fn w S μ H) {T T' ty e : TypeId} {x y : Value} {x' y' : AV} {ys : List PV} {r : AV × Heap} (hT : slT P T = some e) (hs : (P.info? e).map (·.size) = some 1)
  (hx : RelV N.fn w S μ H x' x) (hy : RelV N.fn w S μ H y' y) (hys : winElems H 1 y' = some ys) (hv : copyA H 1 x' ys = some r) :
  ∃ v' w' μ',(Builtin.copy_ #[T,T'] ty #[x,y]).run P w = .ok v' w' ∧ Step N.fn w S μ H w' S μ' r.2 ∧ RelV N.fn w' S μ' r.2 r.1 v' := by
 obtain ⟨news,⟨s1,s2,s3⟩,s4⟩ := win_src hr hy hys
 -- the piece that is written
 obtain ⟨id,xs,l,h,c,hb,h0,h1,h2,hx,rfl⟩ : ∃ (id : Nat) (xs : List PV) (l h c : Nat),H[id]? = some (.row false 1 xs) ∧ 0 < xs.length ∧ l ≤ h ∧ h ≤ xs.length ∧
   (∀ g cap,μ id = .slice (some ⟨g,0,none⟩) xs.length cap → ∃ c,x = .slice (some ⟨g,l,none⟩) (h - l) c) ∧ r = (.p (.int .i64 (min ys.length (h - l) : Nat)),H.set id (.row false 1 (spliceP xs l (ys.take (h - l))))) := by
  unfold copyA at hv
  split at hv
  ·rename_i id n
   split at hv
   ·rename_i sz' xs hb
    simp only [Option.ite_none_right_eq_some,Option.some.injEq] at hv
    obtain ⟨⟨rfl,rfl,h0⟩,rfl⟩ := hv
    have hrow : rowOf H id xs.length = some (1,xs) := by simp [rowOf,hb]
    exact ⟨id,xs,0,xs.length,0,hb,h0,by omega,Nat.le_refl _,fun g cap hg => ⟨cap,by rw [hx.own_inv hrow,hg,Nat.sub_zero]⟩,by rw [Nat.sub_zero]⟩
   ·cases hv
  ·rename_i id n i h
   simp only [Option.ite_none_right_eq_some] at hv
   obtain ⟨⟨k1,k2,k3,k4⟩,hv⟩ := hv
   split at hv
   ·rename_i sz' xs hb
    simp only [Option.ite_none_right_eq_some,Option.some.injEq] at hv
    obtain ⟨⟨rfl,rfl⟩,rfl⟩ := hv
    refine ⟨id,xs,i - xs.length,h,0,hb,by omega,k3,k4,fun g cap hg => ?_,rfl⟩
    cases hx with
    | el _ _ _ _ _ hl hx0 _ =>
    obtain ⟨_,hx1⟩ := hx0 _ _ _ hb
    obtain ⟨g',cap',e1,rfl⟩ := (hx1 rfl).2 k1 k2 k3 k4
    rw [hg] at e1
    cases e1
    exact ⟨_,by rw [Nat.mul_one]⟩
   ·cases hv
  ·cases hv
 obtain ⟨g,cap,cur,t,us,e1,e2,e3,e4,e5,e6,e7,e8⟩ := row_at hr hb h0
 obtain ⟨c,rfl⟩ := hx g cap e1
 simp only [Nat.mul_one] at e5 e6 e7 s1
 have hcl : (news.take (h - l)).length = min ys.length (h - l) := by rw [List.length_take,s1,Nat.min_comm]
 have hpl : (ys.take (h - l)).length = min ys.length (h - l) := by rw [List.length_take,Nat.min_comm]
 have hfit : l + (news.take (h - l)).length ≤ cur.size := by rw [hcl]; omega
 have hspl : (spliceP xs l (ys.take (h - l))).length = xs.length := by
  simp only [spliceP,List.length_append,List.length_take,List.length_drop]; omega
 have hsplu : (us.take l ++ news.take (h - l) ++ us.drop (l + (news.take (h - l)).length)).length = xs.length := by
  simp only [List.length_append,List.length_take,List.length_drop]; omega
 have hflat : FlatRel N.fn w S 1 (spliceP xs l (ys.take (h - l))) (us.take l ++ news.take (h - l) ++ us.drop (l + (news.take (h - l)).length)) := by
  unfold spliceP
  rw [hpl,hcl]
  refine FlatRel.append (FlatRel.append (e8.take l) (s4.take _) ?_) (e8.drop _) ?_
  ·simp only [List.length_take]; omega
  ·simp only [List.length_append,List.length_take,s1]; omega
 have hlt := (List.getElem?_eq_some_iff.1 hb).1
 -- what memory is then
 have fin : ∀ w' : World,w'.os = w.os → w'.tape = w.tape → w'.output = w.output → w.heap.size ≤ w'.heap.size → (∀ k,k ≠ g → w'.heap[k]? = w.heap[k]?) →
   (∃ cur',w'.heap[g]? = some (.cells cur' t (0,0)) ∧ cur'.size = cur.size ∧ cur'.toList.take xs.length = us.take l ++ news.take (h - l) ++ us.drop (l + (news.take (h - l)).length)) →
   Step N.fn w S μ H w' S (upd μ id (μ id)) (H.set id (.row false 1 (spliceP xs l (ys.take (h - l))))) := by
  intro w' q1 q2 q3 q4 q5 ⟨cur',q6,q7,q8⟩
  have hk : ∀ k,k < w.heap.size → blkOf (μ id) ≠ some k → w'.heap[k]? = w.heap[k]? := by
   intro k _ hne
   rw [e1] at hne
   simp only [blkOf] at hne
   rw [if_neg (by omega)] at hne
   exact q5 k (fun e => hne (by rw [e]))
  have keepS : ∀ k,S k → w'.heap[k]? = w.heap[k]? := fun k hk' => hk k (hr.lt k hk') (fun e => hr.apart k (alive_iff.2 ⟨id,_,hb,.inr ⟨1,xs,rfl⟩,e⟩) hk')
  have hm : Moves μ H (upd μ id (μ id)) (H.set id (.row false 1 (spliceP xs l (ys.take (h - l))))) := moves_set_row hb (by rw [hspl]; exact Nat.le_refl _) (fun _ => rfl)
  have hlim : xs.length ≤ lim := (hr.blk id _ hb).2.1
  have hfk := hflat.keep keepS
  refine Step.set hr hb (.inr ⟨1,xs,rfl⟩) q1 q2 q3 q4 hk hm ⟨by decide,by rw [hspl]; exact hlim,_,⟨by rw [hsplu,hspl,Nat.mul_one],.inr ⟨g,cap,cur',t,?_,by omega,q6,by rw [hspl]; exact e3,e4,by rw [q7,e5,Nat.mul_one],by rw [hspl,Nat.mul_one]; exact q8⟩⟩,hfk.1,hfk.2,fun hf => by cases hf⟩ (fun k h => .inl h)
  rw [upd_same,e1,hspl]
 have hres : RelV N.fn w S (upd μ id (μ id)) (H.set id (.row false 1 (spliceP xs l (ys.take (h - l))))) (.p (.int .i64 ((min ys.length (h - l) : Nat) : Int))) (Go.goInt ((min ys.length (h - l) : Nat) : Int)) := .p _ _ (.int _ _)
 by_cases hz : min ys.length (h - l) = 0
 ·have hnil : news.take (h - l) = [] := List.eq_nil_of_length_eq_zero (by rw [hcl,hz])
  obtain ⟨a,c2,rfl⟩ : ∃ a c2,y = .slice a ys.length c2 := by
   rcases s3 with ⟨a,c2,h,_⟩ | ⟨ad,c2,h,_⟩
   ·exact ⟨a,c2,h⟩
   ·exact ⟨_,c2,h⟩
  have hrun := Go.run_copy_none (P := P) w T T' ty e (some ⟨g,l,none⟩) a (h - l) c ys.length c2 (slT_spec hT) hs hz
  refine ⟨_,w,_,hrun,fin w rfl rfl rfl (Nat.le_refl _) (fun _ _ => rfl) ⟨cur,e2,rfl,?_⟩,?_⟩
  ·rw [e6,hnil,List.length_nil,Nat.add_zero,List.append_nil,List.take_append_drop]
  ·rw [hz]; exact .p _ _ (.int _ _)
 ·obtain ⟨ad,c2,rfl,hnews⟩ : ∃ ad c2,y = .slice (some ad) ys.length c2 ∧ ∀ (j : Nat) u,news[j]? = some u → w.cell? (ad.add j) = some u := by
   rcases s3 with ⟨a,c2,_,h⟩ | h
   ·omega
   ·exact h
  have hrun := Go.run_copy_row (P := P) w T T' ty e g l (h - l) c ad ys.length c2 cur t (news.take (h - l)) (slT_spec hT) hs e2 (by rw [hcl]) (fun j v hj => by
   rw [List.getElem?_take] at hj
   split at hj
   ·exact hnews j v hj
   ·cases hj) hfit (fun v hv => s2 v (List.mem_of_mem_take hv))
  refine ⟨_,_,_,hrun,fin _ rfl rfl rfl (Nat.le_of_eq setRow_size.symm) (fun k hk => setRow_keep hk) ⟨_,Go.setRow_heap w g cur _ t _ e2,?_,?_⟩,?_⟩
  ·simp only [List.size_toArray,List.length_append,List.length_take,List.length_drop,Array.length_toList]
   simp only [List.length_take] at hfit
   omega
  ·have eu : us = cur.toList.take xs.length := e6.symm
   have hl0 : l ≤ xs.length := by omega
   have hk : l + (news.take (h - l)).length ≤ xs.length := by rw [hcl]; omega
   have a1 : cur.toList.take l = us.take l := by rw [eu,List.take_take,Nat.min_eq_left hl0]
   have a2 : us.drop (l + (news.take (h - l)).length) = (cur.toList.drop (l + (news.take (h - l)).length)).take (xs.length - (l + (news.take (h - l)).length)) := by rw [eu,List.drop_take]
   have a3 : (us.take l ++ news.take (h - l)).length = l + (news.take (h - l)).length := by rw [List.length_append,List.length_take,e7]; omega
   rw [a1,a2]
   generalize (news.take (h - l)) = cs at *
   rw [show (us.take l ++ cs ++ cur.toList.drop (l + cs.length)).toArray.toList = us.take l ++ cs ++ cur.toList.drop (l + cs.length) from rfl]
   rw [List.take_append,a3,List.take_of_length_le (by rw [a3]; exact hk)]
  ·rw [hcl]; exact .p _ _ (.int _ _)
end
end Ab
