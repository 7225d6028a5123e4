import Derived.Test.YtlgclfmmnifgoaaGreatDoorAbX8
import Derived.Test.YtlgclfmmnifgoaaGreatDoorAbX2
import Derived.ChangeKeysEq
namespace Ab
open Go (IntKind BinOp UnOp World Value Addr Obj undef maxLen Program TypeId Oper Op Operand Act Sem Next Result execOp Builtin TypeDesc MapEntry)
section
variable {N : Names} {P : Program} {w w' : World} {S S' : Nat → Prop} {μ μ' : Nat → Value} {H H' : Heap}
theorem MapRel.keep {ν : Nat → Nat} (hS : ∀ g,S g → S' g) (hw : ∀ g,S g → w'.heap[g]? = w.heap[g]?) (hm : Moves μ H μ' H') : ∀ {es : List (PV × AV)} {l : List MapEntry},MapRel ν w S μ H es l → MapRel ν w' S' μ' H' es l
 | [],[],_ => trivial
 | (_,_) :: _es,_e :: _l,h => ⟨h.1.keep hS hw,h.2.1,h.2.2.1.keep hS hw hm,MapRel.keep hS hw hm h.2.2.2⟩
 | [],_ :: _,h => h.elim
 | (_,_) :: _,[],h => h.elim
theorem key_eq {ν : Nat → Nat} {k k' : PV} {u u' : Value} (hr : RelP ν w S k u) (hr' : RelP ν w S k' u') (he : lm k k' = some true) : u' = u := by
 cases k <;> cases k' <;> simp only [lm,Option.ite_none_right_eq_some,Option.some.injEq,reduceCtorEq] at he
 ·obtain ⟨rfl,hb⟩ := he
  have hb := eq_of_beq hb
  subst hb
  cases hr; cases hr'; rfl
 ·have hb := eq_of_beq he
  subst hb
  cases hr; cases hr'; rfl
 ·have hb := eq_of_beq he
  subst hb
  cases hr; cases hr'; rfl
theorem Aw {ν : Nat → Nat} {kd : KD} {k : PV} {u : Value} {v : AV} {x : Value} (hk : ki kd k = true) (hr : RelP ν w S k u) (hok : v.ok = true) (hx : RelV ν w S μ H v x) : ∀ {es : List (PV × AV)} {l : List MapEntry} (i : Nat) {es' : List (PV × AV)},MapRel ν w S μ H es l → mput k v es = some es' →
  (Go.Instr.findNow kd.desc u l i = some none ∧ ∀ e : MapEntry,e.key = u → e.val = x → MapRel ν w S μ H es' (l ++ [e])) ∨
  ∃ j e,Go.Instr.findNow kd.desc u l i = some (some (i + j,e.val)) ∧ l[j]? = some e ∧ e.key = u ∧ ∀ e' : MapEntry,e'.key = u → e'.val = x → MapRel ν w S μ H es' (l.set j e')
 | [],[],i,es',_,h => by
  simp only [mput,Option.some.injEq] at h
  subst h
  exact .inl ⟨rfl,fun e h1 h2 => ⟨by rw [h1]; exact hr,hok,by rw [h2]; exact hx,trivial⟩⟩
 | (k',v') :: es,e :: l,i,es',hm,h => by
  simp only [mput] at h
  split at h
  ·rename_i he
   simp only [Option.some.injEq] at h
   subst h
   have hs := i4 hk hr hm.1 he
   exact .inr ⟨0,e,by simp [Go.Instr.findNow,hs],rfl,key_eq hr hm.1 he,fun e' h1 h2 => ⟨by rw [h1]; exact hr,hok,by rw [h2]; exact hx,hm.2.2.2⟩⟩
  ·rename_i he
   obtain ⟨es2,h2,rfl⟩ := Option.map_eq_some_iff.1 h
   have hs := i4 hk hr hm.1 he
   rcases Aw hk hr hok hx (i + 1) hm.2.2.2 h2 with ⟨g1,g2⟩ | ⟨j,e',g1,g2,g3,g4⟩
   ·exact .inl ⟨by simpa [Go.Instr.findNow,hs] using g1,fun e1 a b => ⟨hm.1,hm.2.1,hm.2.2.1,g2 e1 a b⟩⟩
   ·exact .inr ⟨j + 1,e',by simp [Go.Instr.findNow,hs,g1]; omega,by simpa using g2,g3,fun e1 a b => ⟨hm.1,hm.2.1,hm.2.2.1,g4 e1 a b⟩⟩
  ·cases h
 | [],_ :: _,_,_,hm,_ => hm.elim
 | (_,_) :: _,[],_,_,hm,_ => hm.elim
theorem vP {ν : Nat → Nat} {kd : KD} {k : PV} {u : Value} (hk : ki kd k = true) (hr : RelP ν w S k u) : ∀ {es : List (PV × AV)} {l : List MapEntry} (i : Nat) {es' : List (PV × AV)},MapRel ν w S μ H es l → yH k es = some es' →
  (Go.Instr.findNow kd.desc u l i = some none ∧ es' = es) ∨
  ∃ j e,Go.Instr.findNow kd.desc u l i = some (some (i + j,e.val)) ∧ l[j]? = some e ∧ MapRel ν w S μ H es' (l.eraseIdx j)
 | [],[],i,es',_,h => by
  simp only [yH,Option.some.injEq] at h
  subst h
  exact .inl ⟨rfl,rfl⟩
 | (k',v') :: es,e :: l,i,es',hm,h => by
  simp only [yH] at h
  split at h
  ·rename_i he
   simp only [Option.some.injEq] at h
   subst h
   have hs := i4 hk hr hm.1 he
   exact .inr ⟨0,e,by simp [Go.Instr.findNow,hs],rfl,hm.2.2.2⟩
  ·rename_i he
   obtain ⟨es2,h2,rfl⟩ := Option.map_eq_some_iff.1 h
   have hs := i4 hk hr hm.1 he
   rcases vP hk hr (i + 1) hm.2.2.2 h2 with ⟨g1,rfl⟩ | ⟨j,e',g1,g2,g3⟩
   ·exact .inl ⟨by simpa [Go.Instr.findNow,hs] using g1,rfl⟩
   ·exact .inr ⟨j + 1,e',by simp [Go.Instr.findNow,hs,g1]; omega,by simpa using g2,hm.1,hm.2.1,hm.2.2.1,g3⟩
  ·cases h
 | [],_ :: _,_,_,hm,_ => hm.elim
 | (_,_) :: _,[],_,_,hm,_ => hm.elim
theorem MapRel.get_all {ν : Nat → Nat} {es : List (PV × AV)} {arr : Array MapEntry} (h : MapRel ν w S μ H es arr.toList) : arr.size = es.length ∧ ∀ (j : Nat) k v,es[j]? = some (k,v) → ∃ e,arr[j]? = some e ∧ RelP ν w S k e.key ∧ v.ok = true ∧ RelV ν w S μ H v e.val :=
 ⟨by simpa using h.len,fun j k v hj => by simpa using h.get j k v hj⟩
theorem x_mkmap (hr : Rel N.fn w S μ H) {T : TypeId} : ∃ u w' μ',(Go.Instr.makeMap T none).run P w = .ok u w' ∧ Step N.fn w S μ H w' S μ' (H ++ [.box (ah [])]) ∧ RelV N.fn w' S μ' (H ++ [.box (ah [])]) (.mp H.length) u := by
 refine ⟨.map (some w.heap.size),w.alloc (.map #[] 0),upd μ H.length (.pointer (some ⟨w.heap.size,0,none⟩)),?_,Step.push hr (Grows.alloc w _) ?_ ?_,?_⟩
 ·simp [Go.Instr.makeMap]
 ·exact ⟨w.heap.size,upd_same,.inr (.inr ⟨[],#[],0,rfl,Go.heap_alloc_new w _,Go.MapKept.stamped_empty _,rfl,fun j k v hj => by simp at hj⟩)⟩
 ·intro g hg
  simp only [au,Option.some.injEq] at hg
  omega
 ·exact .mp _ w.heap.size _ (by simp) (fun _ _ => upd_same) rfl
theorem now_ne {d : TypeDesc} {u : Value} (hu : Go.MapKept.IsKey d u) : ∀ {l : List MapEntry} {i : Nat},Go.Instr.findNow d u l i = some none → ∀ e ∈ l,e.key ≠ u
 | [],_,_ => by simp
 | x :: l,i,h => by
  intro e he
  unfold Go.Instr.findNow at h
  split at h
  ·cases h
  ·rename_i hs
   rcases List.mem_cons.1 he with rfl | he
   ·intro e2
    obtain ⟨r,h1,h2⟩ := Go.MapKept.sameNow_of_keys hu (e2 ▸ hu : Go.MapKept.IsKey d e.key)
    rw [h1] at hs
    have := h2.2 e2.symm
    subst this
    cases hs
   ·exact now_ne hu h e he
  ·cases h
theorem iL (hr : Rel N.fn w S μ H) {id g : Nat} {es es' : List (PV × AV)} {arr arr' : Array MapEntry} {c c' : Nat} (hes : mapOf H id = some es) (hg : μ id = .pointer (some ⟨g,0,none⟩)) (hh : w.heap[g]? = some (.map arr c)) (hst : Go.MapKept.Stamped arr' c')
  (hm : ∀ {w' : World} {μ' : Nat → Value} {H' : Heap},(∀ k,S k → w'.heap[k]? = w.heap[k]?) → Moves μ H μ' H' → MapRel N.fn w' S μ' H' es' arr'.toList) :
  Step N.fn w S μ H { w with heap := w.heap.setIfInBounds g (.map arr' c') } S (upd μ id (.pointer (some ⟨g,0,none⟩))) (H.set id (.box (ah es'))) := by
 have hb := cg hes
 have hgl : g < w.heap.size := (Array.getElem?_eq_some_iff.1 hh).1
 have hmv : Moves μ H (upd μ id (.pointer (some ⟨g,0,none⟩))) (H.set id (.box (ah es'))) := gu hb hg.symm
 have hk : ∀ k,k < w.heap.size → au (μ id) ≠ some k → ({ w with heap := w.heap.setIfInBounds g (.map arr' c') } : World).heap[k]? = w.heap[k]? := by
  intro k _ hne
  rw [hg] at hne
  have : g ≠ k := fun e => hne (by rw [e]; rfl)
  simp [Array.getElem?_setIfInBounds_ne this]
 have keepS : ∀ k,S k → ({ w with heap := w.heap.setIfInBounds g (.map arr' c') } : World).heap[k]? = w.heap[k]? := fun k hk' =>
  hk k (hr.lt k hk') (fun e => hr.apart k (alive_iff.2 ⟨id,_,hb,.inl ⟨_,rfl⟩,e⟩) hk')
 obtain ⟨g1,g2⟩ := (hm keepS hmv).get_all
 refine Step.set hr hb (.inl ⟨_,rfl⟩) rfl rfl rfl (by simp) hk hmv ?_ (fun k h => .inl (by rw [hg]; exact h))
 exact ⟨g,upd_same,.inr (.inr ⟨es',arr',c',rfl,by simp [hgl],hst,g1,g2⟩)⟩
theorem x_mset (hr : Rel N.fn w S μ H) {T k e : TypeId} {kd : KD} {x i y : Value} {x' i' y' : AV} {H' : Heap} (hT : mapT P T = some (k,e)) (hk : P.underlying k = some kd.desc) (hx : RelV N.fn w S μ H x' x) (hi : RelV N.fn w S μ H i' i) (hy : RelV N.fn w S μ H y' y)
  (hv : rx H kd x' i' y' = some H') : ∃ w' μ',(Go.Instr.mapUpdate T x i y).run P w = .ok () w' ∧ Step N.fn w S μ H w' S μ' H' := by
 have hu := g7 hT
 unfold rx at hv
 split at hv
 rotate_left
 ·cases hv
 rename_i id kv
 simp only [ifB_some,Option.bind_eq_some_iff,Option.map_eq_some_iff,Bool.and_eq_true] at hv
 obtain ⟨⟨hkd,hok⟩,es,hes,es',hp,rfl⟩ := hv
 have hkey := uS hkd hi.p_inv
 obtain ⟨g,rfl,hl,hg⟩ := hx.mp_inv
 obtain ⟨g',arr,clock,e1,e2,est,e3⟩ := hr.map_of hes
 have hg := hg _ (cg hes)
 rw [hg] at e1
 cases e1
 rcases Aw hkd hi.p_inv hok hy 0 e3 hp with ⟨h1,h2⟩ | ⟨j,en,h1,h2,h3,h4⟩
 ·have hf := Go.MapKept.run_findKey (w := w) hk h1
  refine ⟨{ w with heap := w.heap.setIfInBounds g (.map (arr.push { key := i,val := y,born := clock }) (clock + 1)) },_,?_,iL hr hes hg e2 (Go.MapKept.stamped_push est (now_ne hkey h1)) fun hw hm => ?_⟩
  ·simp [Go.Instr.mapUpdate,Go.run_underlying hu,Go.MapKept.run_getObj_map e2,Go.MapKept.run_checkKey hk hkey,hf,Go.MapKept.run_setObj_map _ e2]
  ·rw [Array.toList_push]
   exact (h2 _ rfl rfl).keep (fun _ h => h) hw hm
 ·have hf := Go.MapKept.run_findKey (w := w) hk h1
  have h2a : arr[j]? = some en := by simpa using h2
  have hks := Go.MapKept.run_keyThatStays (P := P) (w := w) hkey
  refine ⟨{ w with heap := w.heap.setIfInBounds g (.map (arr.modify j fun e => { e with key := i,val := y }) clock) },_,?_,iL hr hes hg e2 (Go.MapKept.stamped_modify est _ _ (fun _ _ => rfl) (fun e' _ he' => by rw [h2a] at he'; cases he'; exact h3.symm)) fun hw hm => ?_⟩
  ·simp [Go.Instr.mapUpdate,Go.run_underlying hu,Go.MapKept.run_getObj_map e2,Go.MapKept.run_checkKey hk hkey,hf,Go.MapKept.run_setObj_map _ e2,h2a,h3,hks]
  ·have e : (arr.modify j fun e => { e with key := i,val := y }).toList = arr.toList.set j { en with key := i,val := y } := by
    rw [Array.toList_modify]
    refine List.ext_getElem? fun n => ?_
    have hlt := (List.getElem?_eq_some_iff.1 h2).1
    by_cases hn : j = n
    ·subst hn
     have hlt' : j < arr.size := by simpa using hlt
     rw [List.getElem?_modify,List.getElem?_set,if_pos rfl,if_pos hlt,h2]
     simp
    ·simp [hn]
   rw [e]
   exact (h4 _ rfl rfl).keep (fun _ h => h) hw hm
theorem x_mdel (hr : Rel N.fn w S μ H) {T k e : TypeId} {kd : KD} {ts : Array TypeId} {t0 : TypeId} {x i : Value} {x' i' : AV} {H' : Heap} (hT : mapT P T = some (k,e)) (hk : P.underlying k = some kd.desc) (hx : RelV N.fn w S μ H x' x) (hi : RelV N.fn w S μ H i' i) (hts : ts[0]? = some T)
  (hv : mdelA H kd x' i' = some H') : ∃ w' μ',(Builtin.delete_ ts t0 #[x,i]).run P w = .ok (.tuple #[]) w' ∧ Step N.fn w S μ H w' S μ' H' := by
 have hu := g7 hT
 unfold mdelA at hv
 split at hv
 rotate_left
 ·cases hv
 rename_i id kv
 simp only [ifB_some,Option.bind_eq_some_iff,Option.map_eq_some_iff] at hv
 obtain ⟨hkd,es,hes,es',hp,rfl⟩ := hv
 have hkey := uS hkd hi.p_inv
 obtain ⟨g,rfl,hl,hg⟩ := hx.mp_inv
 obtain ⟨g',arr,clock,e1,e2,est,e3⟩ := hr.map_of hes
 have hg := hg _ (cg hes)
 rw [hg] at e1
 cases e1
 rcases vP hkd hi.p_inv 0 e3 hp with ⟨h1,rfl⟩ | ⟨j,en,h1,h2,h4⟩
 ·have hf := Go.MapKept.run_findKey (w := w) hk h1
  refine ⟨{ w with heap := w.heap.setIfInBounds g (.map arr clock) },_,?_,iL hr hes hg e2 est fun hw hm => e3.keep (fun _ h => h) hw hm⟩
  simp [Builtin.delete_,hts,Go.run_underlying hu,Go.MapKept.run_getObj_map e2,Go.MapKept.run_checkKey hk hkey,hf,Go.MapKept.run_setObj_map _ e2]
 ·have hf := Go.MapKept.run_findKey (w := w) hk h1
  refine ⟨{ w with heap := w.heap.setIfInBounds g (.map (arr.eraseIdxIfInBounds j) clock) },_,?_,iL hr hes hg e2 (Go.MapKept.stamped_erase est _) fun hw hm => ?_⟩
  ·simp [Builtin.delete_,hts,Go.run_underlying hu,Go.MapKept.run_getObj_map e2,Go.MapKept.run_checkKey hk hkey,hf,Go.MapKept.run_setObj_map _ e2]
  ·have e : (arr.eraseIdxIfInBounds j).toList = arr.toList.eraseIdx j := by simp
   rw [e]
   exact h4.keep (fun _ h => h) hw hm
theorem q_mlen (hr : Rel N.fn w S μ H) {T k e t0 : TypeId} {x : Value} {x' v : AV} (hT : mapT P T = some (k,e)) (hx : RelV N.fn w S μ H x' x) (hv : BT H x' = some v) : ∃ u,(Builtin.len_ #[T] t0 #[x]).run P w = .ok u w ∧ RelV N.fn w S μ H v u := by
 have hu := g7 hT
 unfold BT at hv
 split at hv
 ·simp only [Option.some.injEq] at hv; subst hv
  have hx := hx.p_inv
  cases hx
  exact ⟨.int .i64 0,by simp [Builtin.len_,Go.run_underlying hu,Go.goInt],.p _ _ (.int _ _)⟩
 ·rename_i id
  obtain ⟨es,hes,rfl⟩ := Option.map_eq_some_iff.1 hv
  obtain ⟨g,rfl,hl,hg⟩ := hx.mp_inv
  obtain ⟨g',arr,clock,e1,e2,est,e3⟩ := hr.map_of hes
  rw [hg _ (cg hes)] at e1
  cases e1
  have hl := e3.get_all.1
  refine ⟨.int .i64 (es.length : Nat),?_,.p _ _ (.int _ _)⟩
  simp [Builtin.len_,Go.run_underlying hu,Go.goInt,Go.MapKept.run_getObj_map e2,hl]
 ·cases hv
theorem q_isnil {a : Act} (hr : Rel N.fn w S μ H) {op : BinOp} {T e : TypeId} {neg : Bool} {x y : Operand} {x' y' v : AV} (hop : op = if neg then .neq else .eql) (ht : slT P T = some e) (hx : RelV N.fn w S μ H x' (a.eval x)) (hy : RelV N.fn w S μ H y' (a.eval y))
  (hv : kn H neg x' y' = some v) : ∃ u,(do Go.eqGuard op T x y (a.eval x) (a.eval y); Go.binOp op T (a.eval x) (a.eval y)).run P w = .ok u w ∧ RelV N.fn w S μ H v u := by
 unfold kn at hv
 split at hv
 ·rename_i id n sz xs
  obtain ⟨r,hb,hv⟩ := Option.bind_eq_some_iff.1 hv
  simp only [Option.ite_none_right_eq_some,Option.some.injEq] at hv
  obtain ⟨hn,rfl⟩ := hv
  subst hop
  have e1 := hx.own_inv hb
  have e2 := hy.p_inv
  generalize a.eval x = vx at *
  generalize a.eval y = vy at *
  cases e2 with
  | sl _ _ _ a2 c2 us2 _ _ _ k5 _ _ _ _ =>
  obtain ⟨_,rfl,_⟩ := k5 (.inl rfl)
  obtain ⟨f,h1,h2⟩ := aO hb
  obtain ⟨_,_,us,h3,_⟩ := hr.blk id _ h1
  obtain ⟨_,h3⟩ := h3
  rw [h2] at h3
  rcases h3 with ⟨h0,_⟩ | ⟨g,cap,cur,e',h4,_⟩
  ·omega
  ·rw [e1,h4]
   refine ⟨.bool neg,?_,.p _ _ (.bool _)⟩
   simp only [Go.Sem.run_bind,fQ (u := .slice (some ⟨g,0,none⟩) n cap) rfl,Go.Result.andThen_ok]
   have := lR (P := P) (w := w) (T := T) (u := .slice (some ⟨g,0,none⟩) n cap) (v := .slice none xs.length c2) neg rfl rfl (oC (bn ht) _ _ _ _ _)
   simpa using this
 ·exact q_eqk (kd := 4) hop (by simp [eqkT,bn ht]) hx hy hv
def kdIs : KD → TypeDesc → Bool
 | .int k,.int k' => decide (k' = k)
 | .bool,.bool => true
 | .str,.string => true
 | _,_ => false
theorem ox {kd : KD} {d : TypeDesc} (h : kdIs kd d = true) : d = kd.desc := by
 cases kd <;> cases d <;> simp only [kdIs,decide_eq_true_eq,Bool.false_eq_true] at h
 ·subst h; rfl
 ·rfl
 ·rfl
theorem xE {T : TypeId} {zero : List PV} (h : zeroV P T zero = true) : ∃ z,(Go.zeroValue T).run P w = .ok z w ∧ RelV N.fn w S μ H (mkZ zero) z := by
 unfold zeroV at h
 split at h
 ·rename_i z p hz
  obtain ⟨i,hi,hzi⟩ := Option.bind_eq_some_iff.1 hz
  simp only [Bool.and_eq_true] at h
  exact ⟨z,by simp [Go.zeroValue,Go.typeInfo,hi,hzi],.p _ _ (nZ h.2)⟩
 ·rename_i cs hz hno
  obtain ⟨i,hi,hzi⟩ := Option.bind_eq_some_iff.1 hz
  refine ⟨.agg cs,by simp [Go.zeroValue,Go.typeInfo,hi,hzi],?_⟩
  have hc := fV (ν := N.fn) (w := w) (S := S) h
  have e : ∀ zz : List PV,(∀ p,zz = [p] → False) → mkZ zz = .p (.agg zz) := by
   intro zz hno
   unfold mkZ
   split
   ·exact (hno _ rfl).elim
   ·rfl
  rw [e _ hno]
  exact .p _ _ (.agg _ _ (by simpa using hc.1) hc.2.1 (fun j c hj => by rw [← getD_toList]; exact hc.2.2 j c hj))
 ·cases h
theorem x_brow (hr : Rel N.fn w S μ H) {T e : TypeId} {sz n : Nat} {ag : Bool} {zero : List PV} {parts : List (Nat × Value)} {parts' : List (Nat × Nat × AV)} {r : AV × Heap} (hT : slT P T = some e) (hs : (P.info? e).map (·.size) = some sz)
  (h0sz : 0 < sz) (hag : ag = false → sz = 1) (hn : n * sz ≤ 2 ^ 24) (hz : lY P e (n * sz) zero = true)
  (hp : All2 (fun (x : Nat × Value) (y : Nat × Nat × AV) => (x.1 * sz,sz) = (y.1,y.2.1) ∧ RelV N.fn w S μ H y.2.2 x.2) parts parts') (hv : yR H sz ag n (eX (zero.map .p) parts') = some r) :
  ∃ u w' μ',(Go.Instr.buildSlice T n parts.toArray).run P w = .ok u w' ∧ Step N.fn w S μ H w' S μ' r.2 ∧ RelV N.fn w' S μ' r.2 r.1 u := by
 unfold yR at hv
 obtain ⟨cs,hf,hv⟩ := Option.bind_eq_some_iff.1 hv
 obtain ⟨ps,hps,hv⟩ := Option.bind_eq_some_iff.1 hv
 simp only [Option.ite_none_right_eq_some,Option.some.injEq] at hv
 obtain ⟨⟨hlen,hlim⟩,rfl⟩ := hv
 unfold lY at hz
 split at hz
 rotate_left
 ·cases hz
 rename_i z hzz
 obtain ⟨i,hi,hzi⟩ := Option.bind_eq_some_iff.1 hzz
 have hzc := fd (N := N) (w := w) (S := S) (μ := μ) (H := H) hz
 rw [Array.toArray_toList] at hzc
 obtain ⟨us,f1,f2⟩ := fF (fun k => some (k * sz,sz)) parts parts' _ cs _ hzc (All2.imp (fun x y h => ⟨by rw [← h.1],h.2⟩) hp) hf
 obtain ⟨p1,p2,p3⟩ := jM hps f2
 obtain ⟨c1,c2⟩ := jv (ag := ag) hag n ps hlen p2
 have hus : us.toList.length = n * sz := by rw [Array.length_toList,← hlen]; omega
 have hrow : RowAt (w.alloc (.cells us e)) (.slice (some ⟨w.heap.size,0,none⟩) n n) sz (chunks sz ag n ps).length us.toList := by
  rw [c1]
  refine ⟨hus,?_⟩
  by_cases h0 : n = 0
  ·subst h0
   exact .inl ⟨rfl,_,rfl⟩
  ·refine .inr ⟨w.heap.size,n,us,e,rfl,by omega,⟨_,Go.heap_alloc_new w _,.inl rfl⟩,Nat.le_refl _,by simp only [maxLen]; have : lim = 1073741824 := rfl; omega,by simpa using hus,?_⟩
   rw [← hus,List.take_length]
 obtain ⟨μ',s1,s2⟩ := bV hr (Grows.alloc w (.cells us e)) h0sz (xs := chunks sz ag n ps) (by rw [c1]; exact hlim) hrow ⟨fun x hx => by
   obtain ⟨i,hi⟩ := List.getElem?_of_mem hx
   exact ⟨(c2 i x hi).1,(c2 i x hi).2.1⟩,fun i x j c hx hc => by
   have h3 := (c2 i x hx).2.2 j c hc
   have := (p3 _ c h3).keep (fun _ h => h) (fun g hg => Go.RowKit.Below.heap_alloc w (.cells us e) g (hr.lt g hg))
   rwa [dQ] at this⟩ (fun g hg => by
   simp only [au] at hg
   split at hg
   ·cases hg
   ·simp only [Option.some.injEq] at hg; omega)
 refine ⟨_,_,μ',?_,s1,by rw [c1] at s2; exact s2⟩
 have hn' : ¬ (n * sz > 2 ^ 24) := by omega
 simp only [Go.Instr.buildSlice,Go.Sem.run_bind,Go.run_underlying (bn hT),Go.Result.andThen_ok,run_sizeOf hs,if_neg hn']
 by_cases h0 : n * sz = 0
 ·rw [if_pos h0] at f1
  simp only [h0,if_true]
  rw [Go.Sem.run_bind]
  simp only [Go.Sem.run_pure,Go.Result.andThen_ok]
  have e0 : (Array.range 0).map (fun x => (#[] : Array Value)[x % (#[] : Array Value).size]!) = #[] := by simp
  rw [e0,f1]
  simp [Go.newRow]
 ·rw [if_neg h0] at f1
  simp only [h0,if_false,Go.Sem.run_bind,Go.zeroValue,Go.typeInfo,hi,Go.Sem.run_pure,Go.Result.andThen_ok,hzi,Go.run_program]
  rw [f1]
  simp [Go.newRow]
end
end Ab
namespace Ab
open Go (IntKind BinOp UnOp World Value Addr Obj undef maxLen Program TypeId Oper Op Operand Act Sem Next Result execOp Builtin)
def eqaT (P : Program) (T : TypeId) (ks : List Nat) : Bool :=
 match P.underlying T with
 | some (.array n e) => !P.eqGuardType P.depth T && cc P e 1 && (match P.info? e with | some i => i.size == 1 | none => false) && ks == List.replicate n 1
 | _ => false
section
variable {Γ : Ctx} {N : Names} {P : Program} {w : World} {S : Nat → Prop} {μ : Nat → Value} {H : Heap} {a : Act}
theorem lx {e : TypeId} (he : cc P e 1 = true) (d : Nat) {xs ys : Array Value} : ∀ (m k : Nat) (as bs : List PV) (b : Bool),k + as.length ≤ xs.size → k + bs.length ≤ ys.size →
  (∀ (j : Nat) c,as[j]? = some c → RelP N.fn w S c (xs.getD (k + j) undef)) → (∀ (j : Nat) c,bs[j]? = some c → RelP N.fn w S c (ys.getD (k + j) undef)) → az (List.replicate m 1) as bs = some b →
  (Go.Op.eqItems (d + 1) e 1 xs ys (List.range' k m)).run P w = .ok b w := by
 intro m
 induction m with
 | zero =>
  intro k as bs b _ _ _ _ h
  cases as <;> cases bs <;> simp only [List.replicate_zero,az,Option.some.injEq,reduceCtorEq] at h
  subst h
  simp [Go.Op.eqItems]
 | succ m ih =>
  intro k as bs b h1 h2 ha hb h
  rw [List.replicate_succ] at h
  cases as with
  | nil => simp [az] at h
  | cons x as =>
   cases bs with
   | nil => cases x <;> simp [az] at h
   | cons y bs =>
    cases x <;> try (simp [az] at h; done)
    rename_i p
    cases y <;> try (simp [az] at h; done)
    rename_i q
    simp only [az,Option.map_eq_some_iff] at h
    obtain ⟨t,ht,rfl⟩ := h
    simp only [List.length_cons] at h1 h2
    have ax := (ha 0 _ rfl).bool_inv
    have ay := (hb 0 _ rfl).bool_inv
    rw [Nat.add_zero] at ax ay
    have r1 := cw (P := P) (w := w) (xs := xs) (k := k) he (by omega)
    have r2 := cw (P := P) (w := w) (xs := ys) (k := k) he (by omega)
    rw [ax] at r1
    rw [ay] at r2
    have hq : (Go.Op.equalIn (d + 1) e (.bool p) (.bool q)).run P w = .ok (p == q) w := by
     simp only [cc] at he
     split at he
     ·rename_i hu; simp [Go.Op.equalIn,Go.run_underlying hu]
     ·cases he
    have ih := ih (k + 1) as bs t (by omega) (by omega) (fun j c hj => by have := ha (j + 1) c (by simpa using hj); rwa [show k + (j + 1) = k + 1 + j by omega] at this)
     (fun j c hj => by have := hb (j + 1) c (by simpa using hj); rwa [show k + (j + 1) = k + 1 + j by omega] at this) ht
    rw [List.range'_succ]
    simp only [Go.Op.eqItems,Go.Sem.run_bind,Nat.mul_one,r1,r2,Go.Result.andThen_ok,hq]
    cases hpq : p == q
    ·simp
    ·simpa using ih
theorem q_eqa {op : BinOp} {T : TypeId} {ks : List Nat} {neg : Bool} {x y : Operand} {x' y' v : AV} (hop : op = if neg then .neq else .eql) (ht : eqaT P T ks = true)
  (hx : RelV N.fn w S μ H x' (a.eval x)) (hy : RelV N.fn w S μ H y' (a.eval y)) (hv : eqsA ks neg x' y' = some v) :
  ∃ u,(do Go.eqGuard op T x y (a.eval x) (a.eval y); Go.binOp op T (a.eval x) (a.eval y)).run P w = .ok u w ∧ RelV N.fn w S μ H v u := by
 unfold eqsA at hv
 split at hv
 ·rename_i as bs
  obtain ⟨t,he,rfl⟩ := Option.map_eq_some_iff.1 hv
  cases hx with
  | p _ _ hx =>
  cases hy with
  | p _ _ hy =>
  generalize a.eval x = vx at *
  generalize a.eval y = vy at *
  cases hx with
  | agg _ xs h1 h2 h3 =>
  cases hy with
  | agg _ ys k1 k2 k3 =>
  unfold eqaT at ht
  split at ht
  ·rename_i n e hfs
   simp only [Bool.and_eq_true,Bool.not_eq_true',beq_iff_eq] at ht
   obtain ⟨⟨⟨hg,hf⟩,hs⟩,rfl⟩ := ht
   split at hs
   ·rename_i i hi
    have hc : P.cellsOf e = 1 := by simp [Go.Program.cellsOf,hi]; simpa using hs
    have hr := lx (P := P) (w := w) (N := N) (S := S) hf 9998 (xs := xs) (ys := ys) n 0 as bs t (by omega) (by omega)
     (fun j c hj => by rw [Nat.zero_add]; exact h3 j c hj) (fun j c hj => by rw [Nat.zero_add]; exact k3 j c hj) he
    have hq : (Go.Op.equalIn 10000 T (.agg xs) (.agg ys)).run P w = .ok t w := by
     rw [show (10000 : Nat) = 9999 + 1 from rfl,Go.run_equalIn_array w 9999 xs ys hfs hi,hc,List.range_eq_range']
     exact hr
    subst hop
    cases neg
    ·refine ⟨.bool t,?_,.p _ _ (by cases t <;> exact .bool _)⟩
     simp only [Bool.false_eq_true,if_false,Go.Sem.run_bind,Go.run_eqGuard_agg w _ T x y xs ys hg,Go.Result.andThen_ok,Go.run_eql_struct,hq]
    ·refine ⟨.bool (!t),?_,.p _ _ (by cases t <;> exact .bool _)⟩
     simp only [if_true,Go.Sem.run_bind,Go.run_eqGuard_agg w _ T x y xs ys hg,Go.Result.andThen_ok,Go.run_neq_struct,hq]
   ·cases hs
  ·cases ht
 ·cases hv
end
end Ab
namespace Ab
open Go (IntKind BinOp UnOp World Value Addr Obj undef maxLen Program TypeId Oper Op Operand Act Sem Next Result execOp Builtin TypeDesc MapEntry)
section
variable {N : Names} {P : Program} {w : World} {S : Nat → Prop} {μ : Nat → Value} {H : Heap}
theorem fS : ∀ {ks : List Nat} {a b : List PV} {t : Bool}, az ks a b = some t → (t = true ↔ a = b)
 | [], a, b, t, h => by
  cases a <;> cases b <;> simp only [az, Option.some.injEq, reduceCtorEq] at h
  subst h; simp
 | k :: ks, a, b, t, h => by
  unfold az at h
  split at h
  ·rename_i e; cases e
  ·rename_i e; cases e
   split at h
   ·rename_i hk
    obtain ⟨t', h1, rfl⟩ := Option.map_eq_some_iff.1 h
    have := fS h1
    subst hk
    simp [this]
   ·cases h
  ·rename_i e; cases e
   obtain ⟨t', h1, rfl⟩ := Option.map_eq_some_iff.1 h
   have := fS h1
   simp [this]
  ·rename_i e; cases e
   obtain ⟨t', h1, rfl⟩ := Option.map_eq_some_iff.1 h
   have := fS h1
   simp [this]
  ·cases h
theorem d7 : ∀ {ks : List Nat} {a b : List PV} {t : Bool}, az ks a b = some t → az ks b b = some true ∧ a.length = ks.length
 | [], a, b, t, h => by
  cases a <;> cases b <;> simp only [az, Option.some.injEq, reduceCtorEq] at h
  exact ⟨rfl, rfl⟩
 | k :: ks, a, b, t, h => by
  unfold az at h
  split at h
  ·rename_i e; cases e
  ·rename_i e; cases e
   split at h
   ·obtain ⟨t', h1, rfl⟩ := Option.map_eq_some_iff.1 h
    obtain ⟨h2, h3⟩ := d7 h1
    exact ⟨by simp [az, h2], by simp [h3]⟩
   ·cases h
  ·rename_i e; cases e
   obtain ⟨t', h1, rfl⟩ := Option.map_eq_some_iff.1 h
   obtain ⟨h2, h3⟩ := d7 h1
   exact ⟨by simp [az, h2], by simp [h3]⟩
  ·rename_i e; cases e
   obtain ⟨t', h1, rfl⟩ := Option.map_eq_some_iff.1 h
   obtain ⟨h2, h3⟩ := d7 h1
   exact ⟨by simp [az, h2], by simp [h3]⟩
  ·cases h
def cellV : PV → Value
 | .int k n => .int k n
 | .bool b => .bool b
 | .str s => .string ⟨s.toArray⟩
 | _ => undef
theorem rX {ν : Nat → Nat} : ∀ {ks : List Nat} {a b : List PV} {t : Bool}, az ks a b = some t → ∀ {us : Nat → Value}, (∀ j c, a[j]? = some c → RelP ν w S c (us j)) → ∀ j c, a[j]? = some c → us j = cellV c
 | [], a, b, t, h, us, hr, j, c, hc => by
  cases a <;> cases b <;> simp only [az, Option.some.injEq, reduceCtorEq] at h
  simp at hc
 | k :: ks, a, b, t, h, us, hr, j, c, hc => by
  have step : ∀ (x : PV) (a' b' : List PV) (t' : Bool), a = x :: a' → az ks a' b' = some t' → (RelP ν w S x (us 0) → us 0 = cellV x) → us j = cellV c := by
   rintro x a' b' t' rfl h1 h2
   cases j with
   | zero => simp only [List.getElem?_cons_zero, Option.some.injEq] at hc; subst hc; exact h2 (hr 0 _ rfl)
   | succ j => exact rX h1 (us := fun j => us (j + 1)) (fun j c hj => hr (j + 1) c (by simpa using hj)) j c (by simpa using hc)
  unfold az at h
  split at h
  ·rename_i e; cases e
  ·rename_i e; cases e
   split at h
   ·obtain ⟨t', h1, rfl⟩ := Option.map_eq_some_iff.1 h
    exact step _ _ _ _ rfl h1 fun h => h.int_inv
   ·cases h
  ·rename_i e; cases e
   obtain ⟨t', h1, rfl⟩ := Option.map_eq_some_iff.1 h
   exact step _ _ _ _ rfl h1 fun h => h.bool_inv
  ·rename_i e; cases e
   obtain ⟨t', h1, rfl⟩ := Option.map_eq_some_iff.1 h
   exact step _ _ _ _ rfl h1 fun h => h.str_inv
  ·cases h
theorem m9 {ν : Nat → Nat} {ks : List Nat} {a b : List PV} {t : Bool} {u : Value} (h : az ks a b = some t) (hr : RelP ν w S (.agg a) u) : u = .agg (a.map cellV).toArray := by
 cases hr with
 | agg _ us h1 h2 h3 =>
 congr 1
 refine Array.ext (by simpa using h1) fun j hj hj2 => ?_
 have hl : j < a.length := by omega
 have := rX h (us := fun j => us.getD j undef) h3 j a[j] (List.getElem?_eq_getElem hl)
 simpa [hj] using this
theorem kH : ∀ {ks : List Nat} {a b : List PV} {t : Bool}, az ks a b = some t → a.map cellV = b.map cellV → a = b
 | [], a, b, t, h, _ => by
  cases a <;> cases b <;> simp only [az, Option.some.injEq, reduceCtorEq] at h
  rfl
 | k :: ks, a, b, t, h, he => by
  unfold az at h
  split at h
  ·rename_i e; cases e
  ·rename_i e; cases e
   split at h
   ·obtain ⟨t', h1, rfl⟩ := Option.map_eq_some_iff.1 h
    simp only [List.map_cons, List.cons.injEq, cellV, Value.int.injEq] at he
    rw [kH h1 he.2, he.1.1, he.1.2]
   ·cases h
  ·rename_i e; cases e
   obtain ⟨t', h1, rfl⟩ := Option.map_eq_some_iff.1 h
   simp only [List.map_cons, List.cons.injEq, cellV, Value.bool.injEq] at he
   rw [kH h1 he.2, he.1]
  ·rename_i e; cases e
   obtain ⟨t', h1, rfl⟩ := Option.map_eq_some_iff.1 h
   simp only [List.map_cons, List.cons.injEq, cellV, Value.string.injEq, ByteArray.mk.injEq] at he
   rw [kH h1 he.2]
   have := congrArg Array.toList he.1
   simp at this
   rw [this]
  ·cases h
theorem sE {kt : TypeId} {ks : List Nat} {as bs : List PV} {t : Bool} {x y : Value} (ht : eqsT P kt ks = true) (hx : RelP N.fn w S (.agg as) x) (hy : RelP N.fn w S (.agg bs) y) (he : az ks as bs = some t) : (Go.Op.equal kt x y).run P w = .ok t w := by
 cases hx with
 | agg _ xs h1 h2 h3 =>
 cases hy with
 | agg _ ys k1 k2 k3 =>
 unfold eqsT at ht
 split at ht
 ·rename_i fs hfs
  simp only [Bool.and_eq_true, Bool.not_eq_true'] at ht
  obtain ⟨⟨hp, hg⟩, hf⟩ := ht
  have hfo : P.fieldsOf kt = fs := by simp [Program.fieldsOf, hfs]
  have hr := me (P := P) (w := w) (N := N) (S := S) (d := 9998) (xs := xs) (ys := ys) fs.toList ks 0 as bs t hf (by omega) (by omega)
   (fun j c hj => by rw [Nat.zero_add]; exact h3 j c hj) (fun j c hj => by rw [Nat.zero_add]; exact k3 j c hj) he
  show (Go.Op.equalIn 10000 kt (.agg xs) (.agg ys)).run P w = .ok t w
  rw [show (10000 : Nat) = 9999 + 1 from rfl, Go.run_equalIn_struct w 9999 kt xs ys (by rw [hfo]; exact hfs) hp, hfo]
  exact hr
 ·cases ht
theorem pA {kt : TypeId} {ks : List Nat} (ht : eqsT P kt ks = true) : ∃ fs, P.underlying kt = some (.struct fs) ∧ eqFs P fs.toList ks 0 = true := by
 unfold eqsT at ht
 split at ht
 ·rename_i fs hfs
  simp only [Bool.and_eq_true] at ht
  exact ⟨fs, hfs, ht.2⟩
 ·cases ht
theorem vU {kt : TypeId} {ks : List Nat} {k : List PV} {u x : Value} {v : AV} (ht : eqsT P kt ks = true) (hr : RelP N.fn w S (.agg k) u) (hkk : az ks k k = some true) (hok : v.ok = true) (hx : RelV N.fn w S μ H v x) : ∀ {es : List (PV × AV)} {l : List MapEntry} (i : Nat) {es' : List (PV × AV)}, MapRel N.fn w S μ H es l → Ai ks k v es = some es' →
  ((Go.Instr.findAsking kt u l i).run P w = .ok none w ∧ (∀ e ∈ l, e.key ≠ u) ∧ ∀ e : MapEntry, e.key = u → e.val = x → MapRel N.fn w S μ H es' (l ++ [e])) ∨
  ∃ j e, (Go.Instr.findAsking kt u l i).run P w = .ok (some (i + j, e.val)) w ∧ l[j]? = some e ∧ e.key = u ∧ ∀ e' : MapEntry, e'.key = u → e'.val = x → MapRel N.fn w S μ H es' (l.set j e')
 | [], [], i, es', _, h => by
  simp only [Ai, Option.some.injEq] at h
  subst h
  refine .inl ⟨by simp [Go.Instr.findAsking], by simp, fun e e1 e2 => ?_⟩
  subst e1 e2
  exact ⟨hr, hok, hx, trivial⟩
 | (k', v') :: es, e :: l, i, es', hm, h => by
  cases k' <;> simp only [Ai, reduceCtorEq] at h
  rename_i k'
  split at h
  ·rename_i he
   simp only [Option.some.injEq] at h
   subst h
   have hq := sE ht hr hm.1 he
   have hkey : e.key = u := by
    have := (fS he).1 rfl
    subst this
    rw [m9 he hm.1, m9 he hr]
   refine .inr ⟨0, e, by simp [Go.Instr.findAsking, hq], rfl, hkey, fun e' e1 e2 => ?_⟩
   subst e1 e2
   exact ⟨hr, hok, hx, hm.2.2.2⟩
  ·rename_i he
   obtain ⟨es1, h1, rfl⟩ := Option.map_eq_some_iff.1 h
   have hq := sE ht hr hm.1 he
   have hne : e.key ≠ u := by
    intro e1
    have h2 := m9 (d7 he).1 hm.1
    rw [e1, m9 he hr] at h2
    have h3 : k = k' := by
     refine kH he ?_
     simpa using h2
    have := (fS he).2 h3
    cases this
   rcases vU ht hr hkk hok hx (i + 1) hm.2.2.2 h1 with ⟨g1, g2, g3⟩ | ⟨j, e2, g1, g2, g3, g4⟩
   ·refine .inl ⟨by simp [Go.Instr.findAsking, hq, g1], fun y hy => ?_, fun y y1 y2 => ⟨hm.1, hm.2.1, hm.2.2.1, g3 y y1 y2⟩⟩
    rcases List.mem_cons.1 hy with rfl | hy
    ·exact hne
    ·exact g2 y hy
   ·exact .inr ⟨j + 1, e2, by simp [Go.Instr.findAsking, hq, g1]; omega, by simpa using g2, g3, fun y y1 y2 => ⟨hm.1, hm.2.1, hm.2.2.1, g4 y y1 y2⟩⟩
  ·cases h
 | [], _ :: _, _, _, hm, _ => hm.elim
 | (_, _) :: _, [], _, _, hm, _ => hm.elim
theorem vO {g : Go.Field → Unit → Go.Sem (ForInStep Unit)} : ∀ (fs : List Go.Field), (∀ f ∈ fs, (g f ()).run P w = .ok (.yield ()) w) → (forIn fs () g).run P w = .ok () w
 | [], _ => by simp
 | f :: fs, h => by
  simp only [List.forIn_cons, Go.Sem.run_bind, h f (by simp), Go.Result.andThen_ok]
  exact vO fs fun f hf => h f (by simp [hf])
theorem vg : ∀ {fs : List Go.Field} {ks : List Nat} {k : Nat}, eqFs P fs ks k = true → ∀ f ∈ fs, f.name ≠ "_" ∧ f.offset < k + ks.length ∧ ∃ kd, cc P f.type kd = true
 | [], _, _, _, f, hf => by simp at hf
 | g :: fs, [], _, h, _, _ => by simp [eqFs] at h
 | g :: fs, kd :: ks, k, h, f, hf => by
  simp only [eqFs, Bool.and_eq_true, bne_iff_ne, ne_eq, beq_iff_eq] at h
  obtain ⟨⟨⟨hn, ho⟩, ht⟩, hfs⟩ := h
  rcases List.mem_cons.1 hf with rfl | hf
  ·exact ⟨hn, by simp; omega, kd, ht⟩
  ·obtain ⟨h1, h2, h3⟩ := vg hfs f hf
   exact ⟨h1, by simp; omega, h3⟩
theorem sL {kt : TypeId} {ks : List Nat} {us : Array Value} (ht : eqsT P kt ks = true) (hl : ks.length ≤ us.size) : (Go.Instr.checkKey false 10000 kt (.agg us)).run P w = .ok () w := by
 obtain ⟨fs, hu, hf⟩ := pA ht
 rw [show (10000 : Nat) = 9998 + 1 + 1 from rfl, Go.Instr.checkKey]
 simp only [Go.Sem.run_bind, Go.run_underlying hu, Go.Result.andThen_ok]
 rw [← Array.forIn_toList]
 rw [vO (P := P) (w := w) fs.toList fun f hm => ?_]
 ·simp
 ·obtain ⟨h1, h2, kd, h3⟩ := vg hf f hm
  have r1 := cw (P := P) (w := w) (xs := us) (k := f.offset) h3 (by omega)
  have r2 : (Go.Instr.checkKey false (9998 + 1) f.type (us.getD f.offset undef)).run P w = .ok () w := by
   unfold Go.Instr.checkKey
   unfold cc at h3
   split at h3
   ·split at h3
    ·rename_i hq; simp [Go.run_underlying hq, Go.Result.andThen]
    ·cases h3
   ·split at h3
    ·rename_i hq; simp [Go.run_underlying hq, Go.Result.andThen]
    ·cases h3
   ·split at h3
    ·rename_i hq; simp [Go.run_underlying hq, Go.Result.andThen]
    ·cases h3
   ·cases h3
  simp only [ne_eq, h1, not_false_eq_true, if_true, Go.Sem.run_bind, r1, r2, Go.Result.andThen_ok, Go.Sem.run_pure]
theorem Am {kt : TypeId} {ks : List Nat} {us : Array Value} {l : List MapEntry} (ht : eqsT P kt ks = true) : (Go.Instr.findKey kt (.agg us) l).run P w = (Go.Instr.findAsking kt (.agg us) l 0).run P w := by
 obtain ⟨fs, hu, hf⟩ := pA ht
 simp only [Go.Instr.findKey, Go.Sem.run_bind, Go.run_underlying hu, Go.Result.andThen_ok]
 cases l with
 | nil => simp [Go.Instr.findNow, Go.Instr.findAsking]
 | cons e l => simp [Go.Instr.findNow, Go.Instr.sameNow]
theorem dR {n : Nat} : ∀ {ks : List Nat} {a b : List PV} {t : Bool}, az ks a b = some t → ∀ c ∈ a, Go.Instr.sameBits n (cellV c) (cellV c) = true
 | [], a, b, t, h, c, hc => by
  cases a <;> cases b <;> simp only [az, Option.some.injEq, reduceCtorEq] at h
  simp at hc
 | k :: ks, a, b, t, h, c, hc => by
  unfold az at h
  split at h
  ·rename_i e; cases e
  ·rename_i e; cases e
   split at h
   ·obtain ⟨t', h1, rfl⟩ := Option.map_eq_some_iff.1 h
    rcases List.mem_cons.1 hc with rfl | hc
    ·simp [cellV, Go.Instr.sameBits]
    ·exact dR h1 c hc
   ·cases h
  ·rename_i e; cases e
   obtain ⟨t', h1, rfl⟩ := Option.map_eq_some_iff.1 h
   rcases List.mem_cons.1 hc with rfl | hc
   ·simp [cellV, Go.Instr.sameBits]
   ·exact dR h1 c hc
  ·rename_i e; cases e
   obtain ⟨t', h1, rfl⟩ := Option.map_eq_some_iff.1 h
   rcases List.mem_cons.1 hc with rfl | hc
   ·simp [cellV, Go.Instr.sameBits, Go.MapKept.bytes_beq]
   ·exact dR h1 c hc
  ·cases h
theorem ms {ks : List Nat} {a b : List PV} {t : Bool} (h : az ks a b = some t) : (Go.Instr.keyThatStays (.agg (a.map cellV).toArray) (.agg (a.map cellV).toArray)).run P w = .ok (.agg (a.map cellV).toArray) w := by
 have : Go.Instr.sameBits 10000 (.agg (a.map cellV).toArray) (.agg (a.map cellV).toArray) = true := by
  rw [show (10000 : Nat) = 9999 + 1 from rfl, Go.Instr.sameBits]
  simp only [beq_self_eq_true, Bool.true_and, List.all_eq_true]
  intro x hx
  obtain ⟨y, hy, rfl⟩ : ∃ y ∈ a.map cellV, x = (y, y) := by
   generalize a.map cellV = l at hx ⊢
   induction l with
   | nil => simp at hx
   | cons z l ih =>
    simp only [List.zip_cons_cons, List.mem_cons] at hx
    rcases hx with rfl | hx
    ·exact ⟨z, by simp, rfl⟩
    ·obtain ⟨y, h1, h2⟩ := ih hx
     exact ⟨y, by simp [h1], h2⟩
  obtain ⟨c, hc, rfl⟩ := List.mem_map.1 hy
  exact dR h c hc
 simp [Go.Instr.keyThatStays, this]
theorem x_msets (hr : Rel N.fn w S μ H) {T k e : TypeId} {ks : List Nat} {x i y : Value} {x' i' y' : AV} {H' : Heap} (hT : mapT P T = some (k, e)) (ht : eqsT P k ks = true) (hx : RelV N.fn w S μ H x' x) (hi : RelV N.fn w S μ H i' i) (hy : RelV N.fn w S μ H y' y)
  (hv : Bn H ks x' i' y' = some H') : ∃ w' μ', (Go.Instr.mapUpdate T x i y).run P w = .ok () w' ∧ Step N.fn w S μ H w' S μ' H' := by
 have hu := g7 hT
 unfold Bn at hv
 split at hv
 rotate_left
 ·cases hv
 rename_i id kv
 simp only [ifB_some, Option.bind_eq_some_iff, Option.map_eq_some_iff, Bool.and_eq_true, beq_iff_eq] at hv
 obtain ⟨⟨hkd, hok⟩, es, hes, es', hp, rfl⟩ := hv
 obtain ⟨g, rfl, hl, hg⟩ := hx.mp_inv
 obtain ⟨g', arr, clock, e1, e2, est, e3⟩ := hr.map_of hes
 have hg := hg _ (cg hes)
 rw [hg] at e1
 cases e1
 have hi := hi.p_inv
 have hiv := m9 hkd hi
 have hck : (Go.Instr.checkKey false 10000 k i).run P w = .ok () w := by
  rw [hiv]
  exact sL ht (by have := (d7 hkd).2; simp; omega)
 have hfk : ∀ l, (Go.Instr.findKey k i l).run P w = (Go.Instr.findAsking k i l 0).run P w := by
  intro l
  rw [hiv]
  exact Am ht
 have hks : (Go.Instr.keyThatStays i i).run P w = .ok i w := by
  rw [hiv]
  exact ms hkd
 rcases vU ht hi hkd hok hy 0 e3 hp with ⟨h1, h0, h2⟩ | ⟨j, en, h1, h2, h3, h4⟩
 ·have hf := (hfk _).trans h1
  refine ⟨{ w with heap := w.heap.setIfInBounds g (.map (arr.push { key := i, val := y, born := clock }) (clock + 1)) }, _, ?_, iL hr hes hg e2 (Go.MapKept.stamped_push est h0) fun hw hm => ?_⟩
  ·simp [Go.Instr.mapUpdate, Go.run_underlying hu, Go.MapKept.run_getObj_map e2, hck, hf, Go.MapKept.run_setObj_map _ e2]
  ·rw [Array.toList_push]
   exact (h2 _ rfl rfl).keep (fun _ h => h) hw hm
 ·have hf := (hfk _).trans h1
  have h2a : arr[j]? = some en := by simpa using h2
  refine ⟨{ w with heap := w.heap.setIfInBounds g (.map (arr.modify j fun e => { e with key := i, val := y }) clock) }, _, ?_, iL hr hes hg e2 (Go.MapKept.stamped_modify est _ _ (fun _ _ => rfl) (fun e' _ he' => by rw [h2a] at he'; cases he'; exact h3.symm)) fun hw hm => ?_⟩
  ·simp [Go.Instr.mapUpdate, Go.run_underlying hu, Go.MapKept.run_getObj_map e2, hck, hf, Go.MapKept.run_setObj_map _ e2, h2a, h3, hks]
  ·have e : (arr.modify j fun e => { e with key := i, val := y }).toList = arr.toList.set j { en with key := i, val := y } := by
    rw [Array.toList_modify]
    refine List.ext_getElem? fun n => ?_
    have hlt := (List.getElem?_eq_some_iff.1 h2).1
    by_cases hn : j = n
    ·subst hn
     have hlt' : j < arr.size := by simpa using hlt
     rw [List.getElem?_modify, List.getElem?_set, if_pos rfl, if_pos hlt, h2]
     simp
    ·simp [hn]
   rw [e]
   exact (h4 _ rfl rfl).keep (fun _ h => h) hw hm
end
end Ab
