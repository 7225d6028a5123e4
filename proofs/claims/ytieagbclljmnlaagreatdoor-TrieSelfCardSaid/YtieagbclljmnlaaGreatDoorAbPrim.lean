import Derived.Test.YtieagbclljmnlaaGreatDoorAbRow
namespace Ab
open Go (IntKind BinOp UnOp)
def RunM (Γ : Ctx) (k f : Nat) (as : List AV) (HL : Heap) (r : List AV × Heap) : Prop := ∃ n x,callOf Γ (ev Γ n) f as HL = some x ∧ tidy k x = some r
theorem RunM_det {Γ : Ctx} {k f : Nat} {as : List AV} {HL : Heap} {r r' : List AV × Heap} (h : RunM Γ k f as HL r) (h' : RunM Γ k f as HL r') : r = r' := by
 obtain ⟨n,x,h1,h2⟩ := h
 obtain ⟨m,x',h3,h4⟩ := h'
 have e1 := call_le (Nat.le_max_left n m) _ _ _ _ h1
 have e2 := call_le (Nat.le_max_right n m) _ _ _ _ h3
 rw [e1] at e2
 cases e2
 rw [h2] at h4
 cases h4
 rfl
open Classical in
noncomputable def resM (Γ : Ctx) (k f : Nat) (as : List AV) (HL : Heap) : Option (List AV × Heap) := if h : ∃ r,RunM Γ k f as HL r then some h.choose else none
theorem resM_of {Γ k f as HL r} (h : RunM Γ k f as HL r) : resM Γ k f as HL = some r := by
 have h' : ∃ r,RunM Γ k f as HL r := ⟨_,h⟩
 unfold resM
 rw [dif_pos h']
 exact congrArg some (RunM_det h'.choose_spec h)
theorem of_resM {Γ k f as HL r} (h : resM Γ k f as HL = some r) : RunM Γ k f as HL r := by
 unfold resM at h
 split at h
 ·rename_i h'
  cases h
  exact h'.choose_spec
 ·cases h
section
variable {Γ : Ctx} {env : Env} {H : Heap} {live : List Nat} {Q : Out → Prop} {r : List St} {dst : Option Nat}
def cmD (H : Heap) (L : List Nat) (r : Option (List AV × Heap)) : Option (List AV × Heap) := r.bind fun r => joinBack H L r
noncomputable def cmC (Γ : Ctx) (H : Heap) (f : Nat) (L : List Nat) (b : Bool) (as : Option (List AV)) (HL : Option Heap) : Option (List AV × Heap) :=
 ifB b (as.bind fun as => HL.bind fun HL => cmD H L (resM Γ L.length f as HL))
noncomputable def cmB (Γ : Ctx) (H : Heap) (f : Nat) (as : List AV) (L : List Nat) : Option (List AV × Heap) :=
 cmC Γ H f L (L.isEmpty || stillF Γ L.length f) (mapO (AV.ren (place L) 3) as) (pickB H (place L) L)
noncomputable def cmA (Γ : Ctx) (H : Heap) (args : List AV) (fc : Option (Nat × List AV)) : Option (List AV × Heap) :=
 fc.bind fun fc => cmB Γ H fc.1 (args ++ fc.2) (reach H 64 ((args ++ fc.2).flatMap AV.refs) [])
def resX (x : Option (List AV × Heap)) : Option (AV × Heap) := x.map fun r => (results r.1,r.2)
theorem L_calls {f args} : WpL Γ (⟨dst,none,.inr (.calls f args)⟩ :: r) env H live Q ↔ opX Γ (resX (cmA Γ H (args.map (Arg.ev Γ (look env))) (callee (Arg.ev Γ (look env) f)))) dst r env live Q := by
 rw [L_of]
 unfold opX WpO
 constructor
 ·rintro ⟨n,h⟩
  dsimp only at h
  rw [optP_iff] at h ⊢
  obtain ⟨v,h1,h2⟩ := h
  simp only [evX,callS,Option.map_eq_some_iff,Option.bind_eq_some_iff,ifB_some] at h1
  obtain ⟨rr,⟨fc,hfc,hst,as',has,HL,hp,x,hcr,r',htd,hj⟩,rfl⟩ := h1
  refine ⟨_,?_,h2⟩
  rw [pick_eq] at hp
  simp only [resX,cmA,cmB,cmC,cmD,hfc,Option.bind_some,hst,has,hp,ifB,resM_of ⟨n,x,hcr,htd⟩,hj,Option.map_some]
 ·intro h
  rw [optP_iff] at h
  obtain ⟨v,h1,h2⟩ := h
  simp only [resX,cmA,cmB,cmC,cmD,Option.map_eq_some_iff,Option.bind_eq_some_iff,ifB_some] at h1
  obtain ⟨rr,⟨fc,hfc,hst,as',has,HL,hp,r',hres,hj⟩,rfl⟩ := h1
  obtain ⟨n,x,hcr,htd⟩ := of_resM hres
  rw [← pick_eq] at hp
  refine ⟨n,?_⟩
  simp only [evX,callS,hfc,Option.bind_some,hst,has,hp,hcr,htd,hj,Option.map_some,ifB]
  exact h2
theorem cmA_some {args : List AV} {f : Nat} {caps : List AV} : cmA Γ H args (some (f,caps)) = cmB Γ H f (args ++ caps) (reach H 64 ((args ++ caps).flatMap AV.refs) []) := rfl
theorem cmB_eq {as : List AV} {f : Nat} {L : List Nat} : cmB Γ H f as L = cmC Γ H f L (L.isEmpty || stillF Γ L.length f) (mapO (AV.ren (place L) 3) as) (pickB H (place L) L) := rfl
theorem cmC_some {as : List AV} {HL : Heap} {f : Nat} {L : List Nat} : cmC Γ H f L true (some as) (some HL) = cmD H L (resM Γ L.length f as HL) := rfl
def jbB (H : Heap) (L : List Nat) (rs : Option (List AV)) (bs : Option (List Blk)) : Option (List AV × Heap) := rs.bind fun rs => bs.map fun bs => (rs,putBack H L bs ++ bs.drop L.length)
theorem cmD_some {L : List Nat} {rs : List AV} {B : Heap} : cmD H L (some (rs,B)) = jbB H L (mapO (AV.ren (backTo H L) 3) rs) (mapO (Blk.ren (backTo H L)) B) := rfl
theorem jbB_some {L : List Nat} {rs : List AV} {bs : List Blk} : jbB H L (some rs) (some bs) = some (rs,putBack H L bs ++ bs.drop L.length) := rfl
theorem resX_some {rs : List AV} {h : Heap} : resX (some (rs,h)) = some (results rs,h) := rfl
theorem putBack_nil {bs : List Blk} : putBack H [] bs = H := by cases bs <;> rfl
theorem putBack_cons {id : Nat} {L : List Nat} {b : Blk} {bs : List Blk} : putBack H (id :: L) (b :: bs) = putBack (H.set id b) L bs := rfl
def btK (b : Bool) (H : Heap) (L : List Nat) (id : Nat) : Option Nat := match b with | true => L[id]? | false => some (H.length + (id - L.length))
theorem backTo_eq {L : List Nat} {id : Nat} : backTo H L id = btK (decide (id < L.length)) H L id := by
 unfold backTo btK
 by_cases h : id < L.length <;> simp [h]
theorem btK_t {L : List Nat} {id : Nat} : btK true H L id = L[id]? := rfl
theorem btK_f {L : List Nat} {id : Nat} : btK false H L id = some (H.length + (id - L.length)) := rfl
def tzB (H : Heap) (L : List Nat) (vs : Option (List AV)) (HL : Option Heap) : Option (List PV × Heap) := vs.bind fun vs => HL.bind fun HL => (mapO (reify HL 4) vs).map fun ps => (ps,kill H L)
def tzA (H : Heap) (vs : List AV) (L : List Nat) : Option (List PV × Heap) := tzB H L (mapO (AV.ren (place L) 3) vs) (pickB H (place L) L)
theorem trees_eq {vs : List AV} : treesOf H vs = tzA H vs (reach H 64 (vs.flatMap AV.refs) []) := by
 unfold treesOf tzA tzB
 simp only [pick_eq]
theorem tzA_eq {vs : List AV} {L : List Nat} : tzA H vs L = tzB H L (mapO (AV.ren (place L) 3) vs) (pickB H (place L) L) := rfl
theorem tzB_some {vs : List AV} {HL : Heap} {L : List Nat} : tzB H L (some vs) (some HL) = (mapO (reify HL 4) vs).map fun ps => (ps,kill H L) := rfl
def killK (H : Heap) (id : Nat) (L : List Nat) (b : Option Blk) : Heap := kill (match b with | some b => H.set id (killB b) | none => H) L
theorem kill_nil : kill H [] = H := rfl
theorem kill_cons {id : Nat} {L : List Nat} : kill H (id :: L) = killK H id L H[id]? := rfl
theorem killK_some {id : Nat} {L : List Nat} {b : Blk} : killK H id L (some b) = kill (H.set id (killB b)) L := rfl
theorem killB_row {f sz xs} : killB (.row f sz xs) = .row true sz xs := rfl
theorem killB_box {cs} : killB (.box cs) = .dead := rfl
theorem killB_dead : killB .dead = .dead := rfl
noncomputable def czC (x : Option (List PV)) (H : Heap) : Option (AV × Heap) := x.map fun rs => (results (rs.map .p),H)
noncomputable def czB (Γ : Ctx) (f : Nat) (q : Option (List PV × Heap)) : Option (AV × Heap) := q.bind fun q => czC (res Γ f q.1) q.2
noncomputable def czA (Γ : Ctx) (H : Heap) (args : List AV) (fc : Option (Nat × List AV)) : Option (AV × Heap) := fc.bind fun fc => czB Γ fc.1 (treesOf H (args ++ fc.2))
theorem czA_some {args : List AV} {f : Nat} {caps : List AV} : czA Γ H args (some (f,caps)) = czB Γ f (treesOf H (args ++ caps)) := rfl
theorem czB_some {f : Nat} {ps : List PV} {h : Heap} : czB Γ f (some (ps,h)) = czC (res Γ f ps) h := rfl
theorem czC_some {rs : List PV} {h : Heap} : czC (some rs) h = some (results (rs.map .p),h) := rfl
theorem L_bslicef {sz ag n zero parts} : WpL Γ (⟨dst,none,.inr (.bslicef sz ag n zero parts)⟩ :: r) env H live Q ↔ opX Γ (bslicefA H sz ag n (fillA (zero.map .p) (parts.map fun q => (q.off,q.sz,Arg.ev Γ (look env) q.arg)))) dst r env live Q := L_of.trans (WpO_x rfl)
def bsfK (sz : Nat) (ag : Bool) (n : Nat) (q : Option (List PV × Heap)) : Option (AV × Heap) := q.bind fun q => ifB (q.1.length == n * sz) (some (.p (.sl .tight sz (chunks sz ag n q.1)),q.2))
theorem L_fbox {x} : WpL Γ (⟨dst,none,.inr (.fbox x)⟩ :: r) env H live Q ↔ opX Γ (fboxA H (Arg.ev Γ (look env) x)) dst r env live Q := L_of.trans (WpO_x rfl)
def fbK (b : Bool) (q : Option (List PV × Heap)) : Option (AV × Heap) := q.bind fun q => ifB (b && !q.1.isEmpty) (some (.p (.ptr q.1),q.2))
theorem fbox_K {v : AV} : fboxA H v = fbK v.ok (treesOf H v.cells) := rfl
theorem fbK_some {b : Bool} {ps : List PV} {h : Heap} : fbK b (some (ps,h)) = ifB (b && !ps.isEmpty) (some (.p (.ptr ps),h)) := rfl
theorem bslf_some {sz ag n} {cs : List AV} : bslicefA H sz ag n (some cs) = bsfK sz ag n (treesOf H cs) := rfl
theorem bsfK_some {sz ag n} {ps : List PV} {h : Heap} : bsfK sz ag n (some (ps,h)) = ifB (ps.length == n * sz) (some (.p (.sl .tight sz (chunks sz ag n ps)),h)) := rfl
end
section
variable {Γ : Ctx} {env : Env} {H : Heap} {live : List Nat} {Q : Out → Prop} {r : List St} {dst : Option Nat}
def pqR (H : Heap) (v : Option AV) : Option (AV × Heap) := v.map fun v => (v,H)
theorem pqR_some {v : AV} : pqR H (some v) = some (v,H) := rfl
theorem L_pq {q : QOp} (h : q.plain = true) : WpL Γ (⟨dst,none,.inr (.pureq q)⟩ :: r) env H live Q ↔ opX Γ (pqR H (evQ Γ noCall (look env) [] q)) dst r env live Q := by
 rw [L_of]
 unfold opX WpO
 have e : ∀ n,evX Γ (callOf Γ (ev Γ n)) (look env) H (.pureq q) = pqR H (evQ Γ noCall (look env) [] q) := fun n => by
  have : evQ Γ (callOf Γ (ev Γ n)) (look env) [] q = evQ Γ noCall (look env) [] q := by cases q <;> first | rfl | cases h
  simp only [evX,this,pqR]
 simp only [e]
 exact ⟨fun ⟨_,h⟩ => h,fun h => ⟨0,h⟩⟩
theorem L_pq_load {sz ag x} : WpL Γ (⟨dst,none,.inr (.pureq (.load sz ag x))⟩ :: r) env H live Q ↔ opX Γ (pqR H (loadA [] sz ag (Arg.ev Γ (look env) x))) dst r env live Q := L_pq rfl
attribute [go_sem] pqR_some L_pq_load
end
def tdB (_B : Heap) (_L : List Nat) (rs : Option (List AV)) (H : Option Heap) : Option (List AV × Heap) := rs.bind fun rs => H.map fun H => (rs,H)
def tdA (B : Heap) (rs : List AV) (L : List Nat) : Option (List AV × Heap) := tdB B L (mapO (AV.ren (place L) 3) rs) (pickB B (place L) L)
theorem tidy_eq {k : Nat} {rs : List AV} {B : Heap} : tidy k (rs,B) = tdA B rs (reach B 64 (rs.flatMap AV.refs ++ (B.take k).flatMap Blk.refs) (List.range k)) := by
 unfold tidy tdA tdB
 simp only [pick_eq]
theorem tdA_eq {rs : List AV} {B : Heap} {L : List Nat} : tdA B rs L = tdB B L (mapO (AV.ren (place L) 3) rs) (pickB B (place L) L) := rfl
theorem tdB_some {rs : List AV} {B H : Heap} {L : List Nat} : tdB B L (some rs) (some H) = some (rs,H) := rfl
def EndsM (k : Nat) (rvs : List RV) (r : List AV × Heap) : Out → Prop
 | (.ex _,_,_) => False
 | (_,e,h) => optP (mapO (RV.get e h) rvs) fun vs => tidy k (vs,h) = some r
def endM (k : Nat) (vs : Option (List AV)) (h : Heap) (r : List AV × Heap) : Prop := optP vs fun vs => tidy k (vs,h) = some r
theorem endM_some {k vs h r} : endM k (some vs) h r ↔ tidy k (vs,h) = some r := Iff.rfl
theorem EndsM_nrm {k rvs r e h} : EndsM k rvs r (.nrm,e,h) ↔ endM k (mapO (RV.get e h) rvs) h r := Iff.rfl
theorem EndsM_ret {k rvs r e h} : EndsM k rvs r (.ret,e,h) ↔ endM k (mapO (RV.get e h) rvs) h r := Iff.rfl
theorem resM_code {Γ : Ctx} {k f : Nat} {fn : AFn} {args : List AV} {HL : Heap} {r : List AV × Heap} (hf : Γ.fn f = some (.code fn)) (hl : args.length = fn.np)
  (h : Wp Γ fn.body (envFrom 0 args) HL (EndsM k fn.results r)) : resM Γ k f args HL = some r := by
 obtain ⟨n,⟨x,e,hh⟩,h1,h2⟩ := h
 refine resM_of ⟨n,?_⟩
 have fin : (x ≠ .ret → x = .nrm) ∧ ∃ vs,mapO (RV.get e hh) fn.results = some vs ∧ tidy k (vs,hh) = some r := by
  cases x
  ·rw [EndsM,optP_iff] at h2
   exact ⟨fun _ => rfl,h2⟩
   simp
  ·exact h2.elim
  ·rw [EndsM,optP_iff] at h2
   exact ⟨fun h => absurd rfl h,h2⟩
   simp
 obtain ⟨hx,vs,h3,h4⟩ := fin
 refine ⟨(vs,hh),?_,h4⟩
 unfold callOf
 rw [hf,initEnv_eq]
 simp only [hl,if_true,h1]
 cases x
 ·simp only [h3]
 ·simp at hx
 ·simp only [h3]
def EndsK (rvs : List RV) (K : List AV → Heap → Prop) : Out → Prop
 | (.ex _,_,_) => False
 | (_,e,h) => optP (mapO (RV.get e h) rvs) fun vs => K vs h
def endKK (vs : Option (List AV)) (h : Heap) (K : List AV → Heap → Prop) : Prop := optP vs fun vs => K vs h
theorem endKK_some {vs h} {K : List AV → Heap → Prop} : endKK (some vs) h K ↔ K vs h := Iff.rfl
theorem EndsK_nrm {rvs e h} {K : List AV → Heap → Prop} : EndsK rvs K (.nrm,e,h) ↔ endKK (mapO (RV.get e h) rvs) h K := Iff.rfl
theorem EndsK_ret {rvs e h} {K : List AV → Heap → Prop} : EndsK rvs K (.ret,e,h) ↔ endKK (mapO (RV.get e h) rvs) h K := Iff.rfl
attribute [go_sem] endKK_some EndsK_nrm EndsK_ret
theorem callK {Γ : Ctx} {f : Nat} {fn : AFn} {args : List AV} {HL : Heap} {K : List AV → Heap → Prop} (hf : Γ.fn f = some (.code fn)) (hl : args.length = fn.np)
  (h : Wp Γ fn.body (envFrom 0 args) HL (EndsK fn.results K)) : ∃ n vs h,callOf Γ (ev Γ n) f args HL = some (vs,h) ∧ K vs h := by
 obtain ⟨n,⟨x,e,hh⟩,h1,h2⟩ := h
 have fin : (x ≠ .ret → x = .nrm) ∧ ∃ vs,mapO (RV.get e hh) fn.results = some vs ∧ K vs hh := by
  cases x
  ·rw [EndsK,optP_iff] at h2
   exact ⟨fun _ => rfl,h2⟩
   simp
  ·exact h2.elim
  ·rw [EndsK,optP_iff] at h2
   exact ⟨fun h => absurd rfl h,h2⟩
   simp
 obtain ⟨hx,vs,h3,h4⟩ := fin
 refine ⟨n,vs,hh,?_,h4⟩
 unfold callOf
 rw [hf,initEnv_eq]
 simp only [hl,if_true,h1]
 cases x
 ·simp only [h3]
 ·simp at hx
 ·simp only [h3]
theorem isEmpty_nil {α : Type} : ([] : List α).isEmpty = true := rfl
theorem isEmpty_cons {α : Type} {a : α} {l : List α} : (a :: l).isEmpty = false := rfl
theorem range_0 : List.range 0 = [] := rfl
theorem range_1 : List.range 1 = [0] := rfl
theorem range_2 : List.range 2 = [0,1] := rfl
theorem range_3 : List.range 3 = [0,1,2] := rfl
theorem range_4 : List.range 4 = [0,1,2,3] := rfl
theorem range_5 : List.range 5 = [0,1,2,3,4] := rfl
theorem range_6 : List.range 6 = [0,1,2,3,4,5] := rfl
theorem brefs_row {f sz xs} : Blk.refs (.row f sz xs) = [] := rfl
theorem brefs_dead : Blk.refs .dead = [] := rfl
theorem brefs_map {cs : List PV} : Blk.refs (.box (cs.map .p)) = [] := refsAt_map (cs := cs)
theorem brefs_box {cs : List AV} : Blk.refs (.box cs) = cs.flatMap AV.refs := rfl
theorem refsAt_dead : refsAt (some .dead) = [] := rfl
theorem ren_dead {p} : Blk.ren p .dead = some .dead := rfl
theorem flatMap_nil {α β : Type} {f : α → List β} : [].flatMap f = [] := rfl
attribute [go_sem low] brefs_box
attribute [go_sem] L_calls cmA_some cmB_eq cmC_some cmD_some jbB_some resX_some putBack_nil putBack_cons backTo_eq btK_t btK_f trees_eq tzA_eq tzB_some kill_nil kill_cons killK_some killB_row killB_box killB_dead L_fbox fbox_K fbK_some czA_some czB_some czC_some L_bslicef bslf_some bsfK_some tidy_eq tdA_eq tdB_some EndsM_nrm EndsM_ret endM_some isEmpty_nil isEmpty_cons range_0 range_1 range_2 range_3 range_4 range_5 range_6 brefs_row brefs_dead brefs_map refsAt_dead ren_dead List.take_succ_cons List.take_zero List.drop_succ_cons List.drop_zero
end Ab
namespace Ab
open Go (IntKind BinOp UnOp)
def refs2 : AV → List Nat
 | .own id _ | .bx id _ | .el id _ _ _ | .mp id => [id]
 | .agg cs | .tup cs | .clo _ cs => cs.flatMap fun
  | .own id _ | .bx id _ | .el id _ _ _ | .mp id => [id]
  | _ => []
 | _ => []
theorem refs2_p {v} : refs2 (.p v) = [] := rfl
theorem refs2_own {id n} : refs2 (.own id n) = [id] := rfl
theorem refs2_bx {id n} : refs2 (.bx id n) = [id] := rfl
theorem refs2_mp {id} : refs2 (.mp id) = [id] := rfl
theorem refs2_el {id n i o} : refs2 (.el id n i o) = [id] := rfl
attribute [go_sem] refs2_p refs2_own refs2_bx refs2_mp refs2_el
attribute [go_sem] vpv_nil
end Ab
namespace Ab
open Go (IntKind BinOp UnOp)
def mapK (b : Option Blk) : Option (List (PV × AV)) := match b with
 | some (.box (.nov :: .nov :: cs)) => mapIn cs
 | _ => none
theorem flatIn : ∀ (es : List (PV × AV)),mapIn (mapFlat es) = some es
 | [] => rfl
 | (k,v) :: es => by simp [mapFlat,mapIn,flatIn es]
theorem mapK_some {es : List (PV × AV)} : mapK (some (.box (mapCells es))) = some es := flatIn es
def mgK (zero : List PV) (comma : Bool) (m : Option (Option AV)) : Option AV := m.map (mres comma (mkZ zero))
theorem mget_str {H : Heap} {id : Nat} {zero comma} {k : List UInt8} : mgetA H .str zero comma (.mp id) (.p (.str k)) = (mapK H[id]?).bind fun es => mgK zero comma (mfind (.str k) es) := rfl
theorem mgK_some {zero comma} {r : Option AV} : mgK zero comma (some r) = some (mres comma (mkZ zero) r) := rfl
theorem mres_none {z : AV} : mres false z none = z := rfl
theorem mres_some {z v : AV} : mres false z (some v) = v := rfl
theorem mres_noneC {z : AV} : mres true z none = .tup [z,.p (.bool false)] := rfl
theorem mres_someC {z v : AV} : mres true z (some v) = .tup [v,.p (.bool true)] := rfl
theorem mkZ_one {v : PV} : mkZ [v] = .p v := rfl
def msK (H : Heap) (id : Nat) (es' : Option (List (PV × AV))) : Option Heap := es'.map fun es' => H.set id (.box (mapCells es'))
theorem mset_str {H : Heap} {id : Nat} {k : List UInt8} {v : AV} (h : v.ok = true) : msetA H .str (.mp id) (.p (.str k)) v = (mapK H[id]?).bind fun es => msK H id (mput (.str k) v es) := by
 simp only [msetA,keyIs,h,Bool.and_self,ifB]; rfl
theorem msK_some {H : Heap} {id : Nat} {es' : List (PV × AV)} : msK H id (some es') = some (H.set id (.box (mapCells es'))) := rfl
theorem ok_own {id n} : (AV.own id n).ok = true := rfl
theorem ok_p {v} : (AV.p v).ok = true := rfl
def isnilK (neg : Bool) (n : Nat) (b : Option (Nat × List PV)) : Option AV := b.bind fun _ => if 0 < n then some (.p (.bool neg)) else none
theorem isnil_own {H : Heap} {neg id n s l} : isnilA H neg (.own id n) (.p (.sl .nil s l)) = isnilK neg n (rowAt H[id]? n) := by
 simp only [isnilA,rowOf_eq]; rfl
theorem isnilK_pos {neg n} {r : Nat × List PV} (h : 0 < n) : isnilK neg n (some r) = some (.p (.bool neg)) := by
 simp [isnilK,h]
theorem isnil_p {H : Heap} {neg} {v w : PV} : isnilA H neg (.p v) (.p w) = eqkA 4 neg (.p v) (.p w) := by
 unfold isnilA; rfl
def browK (H : Heap) (sz : Nat) (ag : Bool) (n : Nat) (ps : Option (List PV)) : Option (AV × Heap) := ps.bind fun ps => if ps.length = n * sz ∧ n ≤ lim then some (.own H.length n,H ++ [.row false sz (chunks sz ag n ps)]) else none
theorem brow_K {H : Heap} {sz ag n} {cs : List AV} : browA H sz ag n (some cs) = browK H sz ag n (pures cs) := rfl
section
variable {Γ : Ctx} {env : Env} {H : Heap} {live : List Nat} {Q : Out → Prop} {r : List St} {dst : Option Nat}
end
def treeK (q : Option (List PV × Heap)) : Option (AV × Heap) := q.bind fun r => r.1.head?.map fun p => (.p p,r.2)
theorem tree_K {H : Heap} {v : AV} : treeA H v = treeK (treesOf H [v]) := rfl
theorem treeK_some {p : PV} {ps : List PV} {h : Heap} : treeK (some (p :: ps,h)) = some (.p p,h) := rfl
theorem at_last {l : List Blk} {b : Blk} {i : Nat} (h : i = l.length) : (l ++ [b])[i]? = some b := by subst h; exact List.getElem?_concat_length
theorem at_left {l m : List Blk} {i : Nat} (h : i < l.length) : (l ++ m)[i]? = l[i]? := List.getElem?_append_left h
theorem set_last {l : List Blk} {b c : Blk} {i : Nat} (h : i = l.length) : (l ++ [b]).set i c = l ++ [c] := by
 subst h
 rw [List.set_append_right _ _ (Nat.le_refl _),Nat.sub_self]; rfl
attribute [go_sem] mapK_some mget_str mgK_some mres_none mres_some mres_noneC mres_someC mkZ_one mset_str msK_some ok_own ok_p isnil_own isnilK_pos isnil_p brow_K tree_K treeK_some
end Ab
namespace Ab
section
variable {Γ : Ctx} {env : Env} {H : Heap} {live : List Nat} {Q : Out → Prop} {r : List St} {dst : Option Nat}
theorem storek_bx {sz id off v ks} : storekA H sz (.bx id off) v ks = ifB (keptA H [id] ks) (storeA H sz (.bx id off) v) := rfl
theorem kept_nil {L} : keptA H L [] = true := rfl
theorem kept_bx {L id o ks} : keptA H L (.bx id o :: ks) = (decide (id < H.length) && !L.contains id && keptA H L ks) := rfl
def kpK (H : Heap) (args ks : List AV) : Option (Nat × List AV) → Bool
 | some fc => keptA H (reach H 64 ((args ++ fc.2).flatMap AV.refs) []) ks
 | none => false
theorem kpK_some {f caps args ks} : kpK H args ks (some (f,caps)) = keptA H (reach H 64 ((args ++ caps).flatMap AV.refs) []) ks := rfl
end
attribute [go_sem] storek_bx kept_nil kept_bx kpK_some
end Ab
namespace Ab
open Go (IntKind BinOp UnOp)
def RunW (Γ : Ctx) (f : Nat) (as : List AV) (H : Heap) (r : List AV × Heap) : Prop := ∃ n,callOf Γ (ev Γ n) f as H = some r
theorem RunW_det {Γ : Ctx} {f : Nat} {as : List AV} {H : Heap} {r r' : List AV × Heap} (h : RunW Γ f as H r) (h' : RunW Γ f as H r') : r = r' := by
 obtain ⟨n,h1⟩ := h
 obtain ⟨m,h3⟩ := h'
 have e1 := call_le (Nat.le_max_left n m) _ _ _ _ h1
 have e2 := call_le (Nat.le_max_right n m) _ _ _ _ h3
 rw [e1] at e2
 cases e2
 rfl
open Classical in
noncomputable def resW (Γ : Ctx) (f : Nat) (as : List AV) (H : Heap) : Option (List AV × Heap) := if h : ∃ r,RunW Γ f as H r then some h.choose else none
theorem resW_of {Γ f as H r} (h : RunW Γ f as H r) : resW Γ f as H = some r := by
 have h' : ∃ r,RunW Γ f as H r := ⟨_,h⟩
 unfold resW
 rw [dif_pos h']
 exact congrArg some (RunW_det h'.choose_spec h)
theorem of_resW {Γ f as H r} (h : resW Γ f as H = some r) : RunW Γ f as H r := by
 unfold resW at h
 split at h
 ·rename_i h'
  cases h
  exact h'.choose_spec
 ·cases h
section
variable {Γ : Ctx} {env : Env} {H : Heap} {live : List Nat} {Q : Out → Prop} {r : List St} {dst : Option Nat}
noncomputable def cwA (Γ : Ctx) (H : Heap) (args : List AV) (fc : Option (Nat × List AV)) : Option (List AV × Heap) := fc.bind fun fc => ifB (stillW Γ fc.1) (resW Γ fc.1 (args ++ fc.2) H)
theorem L_callw {f args} : WpL Γ (⟨dst,none,.inr (.callw f args)⟩ :: r) env H live Q ↔ opX Γ (resX (cwA Γ H (args.map (Arg.ev Γ (look env))) (callee (Arg.ev Γ (look env) f)))) dst r env live Q := by
 rw [L_of]
 unfold opX WpO
 constructor
 ·rintro ⟨n,h⟩
  dsimp only at h
  rw [optP_iff] at h ⊢
  obtain ⟨v,h1,h2⟩ := h
  simp only [evX,callW,Option.map_eq_some_iff,Option.bind_eq_some_iff,ifB_some] at h1
  obtain ⟨rr,⟨fc,hfc,hst,hcr⟩,rfl⟩ := h1
  refine ⟨_,?_,h2⟩
  simp only [resX,cwA,hfc,Option.bind_some,hst,ifB,resW_of ⟨n,hcr⟩,Option.map_some]
 ·intro h
  rw [optP_iff] at h
  obtain ⟨v,h1,h2⟩ := h
  simp only [resX,cwA,Option.map_eq_some_iff,Option.bind_eq_some_iff,ifB_some] at h1
  obtain ⟨rr,⟨fc,hfc,hst,hres⟩,rfl⟩ := h1
  obtain ⟨n,hcr⟩ := of_resW hres
  refine ⟨n,?_⟩
  simp only [evX,callW,hfc,Option.bind_some,hst,hcr,Option.map_some,ifB]
  exact h2
theorem cwA_some {args : List AV} {f : Nat} {caps : List AV} : cwA Γ H args (some (f,caps)) = ifB (stillW Γ f) (resW Γ f (args ++ caps) H) := rfl
end
theorem resW_ex {Γ : Ctx} {f : Nat} {fn : AFn} {args : List AV} {H : Heap} {K : List AV → Heap → Prop} (hf : Γ.fn f = some (.code fn)) (hl : args.length = fn.np)
  (h : Wp Γ fn.body (envFrom 0 args) H (EndsK fn.results K)) : ∃ rs H',resW Γ f args H = some (rs,H') ∧ K rs H' := by
 obtain ⟨n,vs,h',hc,hk⟩ := callK hf hl h
 exact ⟨vs,h',resW_of ⟨n,hc⟩,hk⟩
attribute [go_sem] L_callw cwA_some
end Ab
namespace Ab
open Go (IntKind BinOp UnOp)
theorem resW_code {Γ : Ctx} {f : Nat} {fn : AFn} {args rs : List AV} {H H' : Heap} (hf : Γ.fn f = some (.code fn)) (hl : args.length = fn.np)
  (h : Wp Γ fn.body (envFrom 0 args) H (EndsK fn.results fun rs' h' => rs' = rs ∧ h' = H')) : resW Γ f args H = some (rs,H') := by
 obtain ⟨rs',h',h1,rfl,rfl⟩ := resW_ex hf hl h
 exact h1
theorem resW_look {Γ : Ctx} {f : Nat} {g : List AV → Heap → Option (List PV)} {args : List AV} {rs : List PV} {H : Heap} (hf : Γ.fn f = some (.look g)) (h : g args H = some rs) : resW Γ f args H = some (rs.map .p,H) := by
 refine resW_of ⟨0,?_⟩
 unfold callOf
 rw [hf]
 simp only [h]
theorem reify_int {H : Heap} {v : AV} {k : IntKind} {m : Int} (h : reify H 4 v = some (.int k m)) : v = .p (.int k m) := by
 cases v with
 | p v => exact congrArg AV.p (Option.some.inj h)
 | own id n => obtain ⟨_,_,h⟩ := Option.map_eq_some_iff.1 (show (rowOf H id n).map _ = _ from h); cases h
 | bx id off =>
  obtain ⟨cs,_,h⟩ := Option.bind_eq_some_iff.1 (show (boxOf H id).bind _ = _ from h)
  split at h
  ·obtain ⟨_,_,h⟩ := Option.map_eq_some_iff.1 h; cases h
  ·cases h
 | el id n i off =>
  obtain ⟨cs,_,h⟩ := Option.bind_eq_some_iff.1 (show (rowOf H id n).bind _ = _ from h)
  obtain ⟨x,_,h⟩ := Option.bind_eq_some_iff.1 h
  split at h <;> cases h
 | agg cs => obtain ⟨_,_,h⟩ := Option.map_eq_some_iff.1 (show (mapO (reify H 3) cs).map PV.agg = _ from h); cases h
 | clo f cs => obtain ⟨_,_,h⟩ := Option.map_eq_some_iff.1 (show (mapO (reify H 3) cs).map (PV.clo f) = _ from h); cases h
 | mp id => cases h
 | tup cs => cases h
 | nov => cases h
 | any => cases h
theorem runI_of {Γ : Ctx} {c : Nat} {fn : AFn} (hc : Γ.fn c = some (.code fn)) {as : List PV} {m : Int} (h : res Γ c as = some [.int .i64 m]) : ∃ n,∀ k,n ≤ k → runI Γ (ev Γ k) c as = some m := by
 obtain ⟨n,r,h1,h2⟩ := of_res h
 refine ⟨n,fun k hk => ?_⟩
 have h1 := call_le hk _ _ _ _ h1
 unfold callOf at h1
 rw [hc] at h1
 unfold runI
 rw [hc]
 simp only at h1 ⊢
 split at h1
 ·rename_i hl
  rw [if_pos hl]
  split at h1
  ·cases h1
  ·rename_i x env H' hno ho
   split at h1
   ·rename_i vs hvs
    cases h1
    have hv : vs = [.p (.int .i64 m)] := by
     match vs,h2 with
     | [],h2 => simp [mapO] at h2
     | [v],h2 =>
      simp only [mapO_cons,mapO_nil,Option.map_some] at h2
      obtain ⟨x,h3,h4⟩ := Option.bind_eq_some_iff.1 h2
      cases h4
      rw [reify_int h3]
     | v :: v2 :: r,h2 =>
      simp only [mapO_cons] at h2
      obtain ⟨x,h3,h4⟩ := Option.bind_eq_some_iff.1 h2
      obtain ⟨y,h5,h6⟩ := Option.map_eq_some_iff.1 h4
      obtain ⟨z,h7,h8⟩ := Option.bind_eq_some_iff.1 h5
      obtain ⟨u,h9,h10⟩ := Option.map_eq_some_iff.1 h8
      subst h10
      cases h6
    subst hv
    simp only [hvs]
   ·cases h1
  ·cases h1
 ·cases h1
theorem resW_lookc {Γ : Ctx} {f c : Nat} {fn : AFn} {q : List AV → Heap → Option (List (List PV × Int))} {g : List AV → Heap → Option (List PV)} {args : List AV} {ps : List (List PV × Int)} {rs : List PV} {H : Heap} (hf : Γ.fn f = some (.lookc c q g))
  (hc : Γ.fn c = some (.code fn)) (hq : q args H = some ps) (h : g args H = some rs) (hp : ∀ p ∈ ps,res Γ c p.1 = some [.int .i64 p.2]) : resW Γ f args H = some (rs.map .p,H) := by
 have key : ∃ n,∀ k,n ≤ k → runIs Γ (ev Γ k) c ps = true := by
  clear hq
  induction ps with
  | nil => exact ⟨0,fun _ _ => rfl⟩
  | cons p ps ih =>
   obtain ⟨n1,h1⟩ := runI_of hc (hp p (by simp))
   obtain ⟨n2,h2⟩ := ih fun p hp' => hp p (by simp [hp'])
   refine ⟨max n1 n2,fun k hk => ?_⟩
   simp only [runIs,h1 k (by omega),h2 k (by omega),Bool.and_true,beq_self_eq_true]
 obtain ⟨n,hn⟩ := key
 refine resW_of ⟨n,?_⟩
 unfold callOf
 rw [hf]
 simp only [hq,h,hn n (Nat.le_refl _),if_true]
theorem boxK_mp {m : Nat} {r : List AV} : boxK (some (.box (.mp m :: r))) = some (.mp m :: r) := rfl
theorem boxK_clo {f : Nat} {c r : List AV} : boxK (some (.box (.clo f c :: r))) = some (.clo f c :: r) := rfl
theorem pures_mp {m : Nat} {r : List AV} : pures (.mp m :: r) = none := rfl
theorem mset_bx {H : Heap} {id i o : Nat} {k : List UInt8} : msetA H .str (.mp id) (.p (.str k)) (.bx i o) = (mapK H[id]?).bind fun es => msK H id (mput (.str k) (.bx i o) es) := mset_str rfl
theorem len2 {H : Heap} {a : Blk} : List.length (H ++ [a]) = H.length + 1 := by simp
theorem mdel_str {H : Heap} {id : Nat} {k : List UInt8} : mdelA H .str (.mp id) (.p (.str k)) = (mapK H[id]?).bind fun es => msK H id (mdrop (.str k) es) := rfl
theorem mlen_mp {H : Heap} {id : Nat} : mlenA H (.mp id) = (mapK H[id]?).map fun es => .p (.int .i64 (es.length : Nat)) := rfl
attribute [go_sem] boxK_mp boxK_clo pures_mp mset_bx mdel_str mlen_mp
end Ab
namespace Ab
open Go (IntKind BinOp UnOp)
def ixB : List UInt8 → UInt8 → Int
 | [],_ => -1
 | b :: l,c => if b == c then 0 else if ixB l c == -1 then -1 else ixB l c + 1
def indexByteG : List PV → Option (List PV)
 | [.str s,.int .u8 c] => some [.int .i64 (ixB s c.toNat.toUInt8)]
 | _ => none
def countG : List PV → Option (List PV)
 | [.str s,.int .u8 c] => some [.int .i64 (s.count c.toNat.toUInt8 : Nat)]
 | _ => none
def joinB (sep : List UInt8) : List (List UInt8) → List UInt8
 | [] => []
 | [s] => s
 | s :: r => s ++ sep ++ joinB sep r
def strsIn : List PV → Option (List (List UInt8))
 | [] => some []
 | .str s :: r => (strsIn r).map (s :: ·)
 | _ => none
def joinG : List PV → Option (List PV)
 | [.sl _ 1 xs,.str sep] => match strsIn xs with
  | some l => if (joinB sep l).length ≤ 1000000000 ∧ l.length ≤ 1000000000 then some [.str (joinB sep l)] else none
  | none => none
 | _ => none
def zero256 : List PV := List.replicate 256 (.bool false)
def insB (s : List UInt8) : List (List UInt8) → List (List UInt8)
 | [] => [s]
 | t :: r => if bytesLess t s then t :: insB s r else s :: t :: r
def sortB : List (List UInt8) → List (List UInt8)
 | [] => []
 | s :: r => insB s (sortB r)
def strKeysIn : List (PV × AV) → Option (List (List UInt8))
 | [] => some []
 | (.str s,_) :: r => if s.length ≤ lim then (strKeysIn r).map (s :: ·) else none
 | _ => none
def rowS (l : List (List UInt8)) : PV :=
 match l with
 | [] => .sl .nil 1 []
 | s :: r => .sl .any 1 ((s :: r).map .str)
def keysV (H : Heap) : List AV → Option (List PV)
 | [.mp id] => (mapOf H id).bind fun es => (strKeysIn es).bind fun ss => if es.length ≤ lim then some [rowS (sortB ss)] else none
 | [.p .nilmap] => some [.sl .nil 1 []]
 | _ => none
def keysG (Ks : List Nat) : List AV → Heap → Option (List PV)
 | [.clo k [.bx b 0]],H => if Ks.contains k = true then (boxOf H b).bind (keysV H) else none
 | _,_ => none
def hitKeysIn : List (PV × AV) → Option (List (List UInt8 × Bool))
 | [] => some []
 | (.agg [.str s,.bool b],_) :: r => if s.length ≤ lim then (hitKeysIn r).map ((s,b) :: ·) else none
 | _ => none
def dotParts (cur : List UInt8) : List UInt8 → List (List UInt8)
 | [] => [cur.reverse]
 | c :: r => if c = 46 then cur.reverse :: dotParts [] r else dotParts (c :: cur) r
def partsLess : List (List UInt8) → List (List UInt8) → Bool
 | _,[] => false
 | [],_ :: _ => true
 | a :: x,b :: y => bytesLess a b || (a == b && partsLess x y)
def hitLess (a b : List UInt8 × Bool) : Bool :=
 partsLess (dotParts [] a.1) (dotParts [] b.1) || (dotParts [] a.1 == dotParts [] b.1 && (!a.2 && b.2))
def insH (s : List UInt8 × Bool) : List (List UInt8 × Bool) → List (List UInt8 × Bool)
 | [] => [s]
 | t :: r => if hitLess t s then t :: insH s r else s :: t :: r
def sortH : List (List UInt8 × Bool) → List (List UInt8 × Bool)
 | [] => []
 | s :: r => insH s (sortH r)
def rowH (l : List (List UInt8 × Bool)) : PV :=
 match l with
 | [] => .sl .nil 2 []
 | s :: r => .sl .any 2 ((s :: r).map fun h => .agg [.str h.1,.bool h.2])
def hitsV (H : Heap) : List AV → Option (List PV)
 | [.mp id] => (mapOf H id).bind fun es => (hitKeysIn es).bind fun ss => if es.length ≤ lim then some [rowH (sortH ss)] else none
 | _ => none
def hitsG (Ks : List Nat) (c : Nat) : List AV → Heap → Option (List PV)
 | [.clo k [.bx b 0],.p (.clo k' [])],H => if Ks.contains k = true ∧ k' = c then (boxOf H b).bind (hitsV H) else none
 | _,_ => none
def cmpH (a b : List UInt8 × Bool) : Int :=
 if partsLess (dotParts [] a.1) (dotParts [] b.1) then -1 else if partsLess (dotParts [] b.1) (dotParts [] a.1) then 1
 else if a.2 == b.2 then 0 else if a.2 then 1 else -1
def hitP (h : List UInt8 × Bool) : PV := .agg [.str h.1,.bool h.2]
def hitsQV (H : Heap) : List AV → Option (List (List PV × Int))
 | [.mp id] => (mapOf H id).bind fun es => (hitKeysIn es).map fun hs => hs.flatMap fun a => hs.map fun b => ([hitP a,hitP b],cmpH a b)
 | _ => none
def hitsQ : List AV → Heap → Option (List (List PV × Int))
 | [.clo _ [.bx b 0],_],H => (boxOf H b).bind (hitsQV H)
 | _,_ => none
end Ab
