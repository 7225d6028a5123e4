import Derived.Test.YtjlcnbpehbgfaaaGreatDoorLStr
import Derived.Test.YtjlcnbpehbgfaaaGreatDoorAbBase
import Derived.Below
import Derived.Laws.OwnMore
namespace Ab
open Go (IntKind BinOp UnOp)
def RunM (Γ : Ctx) (k f : Nat) (as : List AV) (HL : Heap) (r : List AV × Heap) : Prop := ∃ n x,callOf Γ (ev Γ n) f as HL = some x ∧ tidy k x = some r
theorem RunM_det {Γ : Ctx} {k f : Nat} {as : List AV} {HL : Heap} {r r' : List AV × Heap} (h : RunM Γ k f as HL r) (h' : RunM Γ k f as HL r') : r = r' := by
 obtain ⟨n,x,h1,h2⟩ := h
 obtain ⟨m,x',h3,h4⟩ := h'
 have e1 := call_le (Nat.le_max_left n m) _ _ _ _ h1
 have e2 := call_le (Nat.le_max_right n m) _ _ _ _ h3
 rw [e1] at e2
 cases e2
 rw [h2] at h4
 cases h4
 rfl
open Classical in
noncomputable def resM (Γ : Ctx) (k f : Nat) (as : List AV) (HL : Heap) : Option (List AV × Heap) := if h : ∃ r,RunM Γ k f as HL r then some h.choose else none
theorem resM_of {Γ k f as HL r} (h : RunM Γ k f as HL r) : resM Γ k f as HL = some r := by
 have h' : ∃ r,RunM Γ k f as HL r := ⟨_,h⟩
 unfold resM
 rw [dif_pos h']
 exact congrArg some (RunM_det h'.choose_spec h)
theorem of_resM {Γ k f as HL r} (h : resM Γ k f as HL = some r) : RunM Γ k f as HL r := by
 unfold resM at h
 split at h
 ·rename_i h'
  cases h
  exact h'.choose_spec
 ·cases h
section
variable {Γ : Ctx} {env : Env} {H : Heap} {live : List Nat} {Q : Out → Prop} {r : List St} {dst : Option Nat}
def cmD (H : Heap) (L : List Nat) (r : Option (List AV × Heap)) : Option (List AV × Heap) := r.bind fun r => joinBack H L r
noncomputable def cmC (Γ : Ctx) (H : Heap) (f : Nat) (L : List Nat) (b : Bool) (as : Option (List AV)) (HL : Option Heap) : Option (List AV × Heap) :=
 ifB b (as.bind fun as => HL.bind fun HL => cmD H L (resM Γ L.length f as HL))
noncomputable def cmB (Γ : Ctx) (H : Heap) (f : Nat) (as : List AV) (L : List Nat) : Option (List AV × Heap) :=
 cmC Γ H f L (L.isEmpty || stillF Γ L.length f) (mapO (AV.ren (place L) 3) as) (pickB H (place L) L)
noncomputable def cmA (Γ : Ctx) (H : Heap) (args : List AV) (fc : Option (Nat × List AV)) : Option (List AV × Heap) :=
 fc.bind fun fc => cmB Γ H fc.1 (args ++ fc.2) (reach H 64 ((args ++ fc.2).flatMap AV.refs) [])
def resX (x : Option (List AV × Heap)) : Option (AV × Heap) := x.map fun r => (results r.1,r.2)
theorem L_calls {f args} : WpL Γ (⟨dst,none,.inr (.calls f args)⟩ :: r) env H live Q ↔ opX Γ (resX (cmA Γ H (args.map (Arg.ev Γ (look env))) (callee (Arg.ev Γ (look env) f)))) dst r env live Q := by
 rw [L_of]
 unfold opX WpO
 constructor
 ·rintro ⟨n,h⟩
  dsimp only at h
  rw [optP_iff] at h ⊢
  obtain ⟨v,h1,h2⟩ := h
  simp only [evX,callS,Option.map_eq_some_iff,Option.bind_eq_some_iff,ifB_some] at h1
  obtain ⟨rr,⟨fc,hfc,hst,as',has,HL,hp,x,hcr,r',htd,hj⟩,rfl⟩ := h1
  refine ⟨_,?_,h2⟩
  rw [pick_eq] at hp
  simp only [resX,cmA,cmB,cmC,cmD,hfc,Option.bind_some,hst,has,hp,ifB,resM_of ⟨n,x,hcr,htd⟩,hj,Option.map_some]
 ·intro h
  rw [optP_iff] at h
  obtain ⟨v,h1,h2⟩ := h
  simp only [resX,cmA,cmB,cmC,cmD,Option.map_eq_some_iff,Option.bind_eq_some_iff,ifB_some] at h1
  obtain ⟨rr,⟨fc,hfc,hst,as',has,HL,hp,r',hres,hj⟩,rfl⟩ := h1
  obtain ⟨n,x,hcr,htd⟩ := of_resM hres
  rw [← pick_eq] at hp
  refine ⟨n,?_⟩
  simp only [evX,callS,hfc,Option.bind_some,hst,has,hp,hcr,htd,hj,Option.map_some,ifB]
  exact h2
theorem cmA_some {args : List AV} {f : Nat} {caps : List AV} : cmA Γ H args (some (f,caps)) = cmB Γ H f (args ++ caps) (reach H 64 ((args ++ caps).flatMap AV.refs) []) := rfl
theorem cmB_eq {as : List AV} {f : Nat} {L : List Nat} : cmB Γ H f as L = cmC Γ H f L (L.isEmpty || stillF Γ L.length f) (mapO (AV.ren (place L) 3) as) (pickB H (place L) L) := rfl
theorem cmC_some {as : List AV} {HL : Heap} {f : Nat} {L : List Nat} : cmC Γ H f L true (some as) (some HL) = cmD H L (resM Γ L.length f as HL) := rfl
def jbB (H : Heap) (L : List Nat) (rs : Option (List AV)) (bs : Option (List Blk)) : Option (List AV × Heap) := rs.bind fun rs => bs.map fun bs => (rs,putBack H L bs ++ bs.drop L.length)
theorem cmD_some {L : List Nat} {rs : List AV} {B : Heap} : cmD H L (some (rs,B)) = jbB H L (mapO (AV.ren (backTo H L) 3) rs) (mapO (Blk.ren (backTo H L)) B) := rfl
theorem jbB_some {L : List Nat} {rs : List AV} {bs : List Blk} : jbB H L (some rs) (some bs) = some (rs,putBack H L bs ++ bs.drop L.length) := rfl
theorem resX_some {rs : List AV} {h : Heap} : resX (some (rs,h)) = some (results rs,h) := rfl
theorem putBack_nil {bs : List Blk} : putBack H [] bs = H := by cases bs <;> rfl
theorem putBack_cons {id : Nat} {L : List Nat} {b : Blk} {bs : List Blk} : putBack H (id :: L) (b :: bs) = putBack (H.set id b) L bs := rfl
def btK (b : Bool) (H : Heap) (L : List Nat) (id : Nat) : Option Nat := match b with | true => L[id]? | false => some (H.length + (id - L.length))
theorem backTo_eq {L : List Nat} {id : Nat} : backTo H L id = btK (decide (id < L.length)) H L id := by
 unfold backTo btK
 by_cases h : id < L.length <;> simp [h]
theorem btK_t {L : List Nat} {id : Nat} : btK true H L id = L[id]? := rfl
theorem btK_f {L : List Nat} {id : Nat} : btK false H L id = some (H.length + (id - L.length)) := rfl
def tzB (H : Heap) (L : List Nat) (vs : Option (List AV)) (HL : Option Heap) : Option (List PV × Heap) := vs.bind fun vs => HL.bind fun HL => (mapO (reify HL 4) vs).map fun ps => (ps,kill H L)
def tzA (H : Heap) (vs : List AV) (L : List Nat) : Option (List PV × Heap) := tzB H L (mapO (AV.ren (place L) 3) vs) (pickB H (place L) L)
theorem trees_eq {vs : List AV} : treesOf H vs = tzA H vs (reach H 64 (vs.flatMap AV.refs) []) := by
 unfold treesOf tzA tzB
 simp only [pick_eq]
theorem tzA_eq {vs : List AV} {L : List Nat} : tzA H vs L = tzB H L (mapO (AV.ren (place L) 3) vs) (pickB H (place L) L) := rfl
theorem tzB_some {vs : List AV} {HL : Heap} {L : List Nat} : tzB H L (some vs) (some HL) = (mapO (reify HL 4) vs).map fun ps => (ps,kill H L) := rfl
def killK (H : Heap) (id : Nat) (L : List Nat) (b : Option Blk) : Heap := kill (match b with | some b => H.set id (killB b) | none => H) L
theorem kill_nil : kill H [] = H := rfl
theorem kill_cons {id : Nat} {L : List Nat} : kill H (id :: L) = killK H id L H[id]? := rfl
theorem killK_some {id : Nat} {L : List Nat} {b : Blk} : killK H id L (some b) = kill (H.set id (killB b)) L := rfl
theorem killB_row {f sz xs} : killB (.row f sz xs) = .row true sz xs := rfl
theorem killB_box {cs} : killB (.box cs) = .dead := rfl
theorem killB_dead : killB .dead = .dead := rfl
noncomputable def czC (x : Option (List PV)) (H : Heap) : Option (AV × Heap) := x.map fun rs => (results (rs.map .p),H)
noncomputable def czB (Γ : Ctx) (f : Nat) (q : Option (List PV × Heap)) : Option (AV × Heap) := q.bind fun q => czC (res Γ f q.1) q.2
noncomputable def czA (Γ : Ctx) (H : Heap) (args : List AV) (fc : Option (Nat × List AV)) : Option (AV × Heap) := fc.bind fun fc => czB Γ fc.1 (treesOf H (args ++ fc.2))
theorem czA_some {args : List AV} {f : Nat} {caps : List AV} : czA Γ H args (some (f,caps)) = czB Γ f (treesOf H (args ++ caps)) := rfl
theorem czB_some {f : Nat} {ps : List PV} {h : Heap} : czB Γ f (some (ps,h)) = czC (res Γ f ps) h := rfl
theorem czC_some {rs : List PV} {h : Heap} : czC (some rs) h = some (results (rs.map .p),h) := rfl
def bsfK (sz : Nat) (ag : Bool) (n : Nat) (q : Option (List PV × Heap)) : Option (AV × Heap) := q.bind fun q => ifB (q.1.length == n * sz) (some (.p (.sl .tight sz (chunks sz ag n q.1)),q.2))
theorem L_fbox {x} : WpL Γ (⟨dst,none,.inr (.fbox x)⟩ :: r) env H live Q ↔ opX Γ (fboxA H (Arg.ev Γ (look env) x)) dst r env live Q := L_of.trans (WpO_x rfl)
def fbK (b : Bool) (q : Option (List PV × Heap)) : Option (AV × Heap) := q.bind fun q => ifB (b && !q.1.isEmpty) (some (.p (.ptr q.1),q.2))
theorem fbox_K {v : AV} : fboxA H v = fbK v.ok (treesOf H v.cells) := rfl
theorem fbK_some {b : Bool} {ps : List PV} {h : Heap} : fbK b (some (ps,h)) = ifB (b && !ps.isEmpty) (some (.p (.ptr ps),h)) := rfl
theorem bslf_some {sz ag n} {cs : List AV} : bslicefA H sz ag n (some cs) = bsfK sz ag n (treesOf H cs) := rfl
theorem bsfK_some {sz ag n} {ps : List PV} {h : Heap} : bsfK sz ag n (some (ps,h)) = ifB (ps.length == n * sz) (some (.p (.sl .tight sz (chunks sz ag n ps)),h)) := rfl
end
section
variable {Γ : Ctx} {env : Env} {H : Heap} {live : List Nat} {Q : Out → Prop} {r : List St} {dst : Option Nat}
def pqR (H : Heap) (v : Option AV) : Option (AV × Heap) := v.map fun v => (v,H)
theorem pqR_some {v : AV} : pqR H (some v) = some (v,H) := rfl
theorem L_pq {q : QOp} (h : q.plain = true) : WpL Γ (⟨dst,none,.inr (.pureq q)⟩ :: r) env H live Q ↔ opX Γ (pqR H (evQ Γ noCall (look env) [] q)) dst r env live Q := by
 rw [L_of]
 unfold opX WpO
 have e : ∀ n,evX Γ (callOf Γ (ev Γ n)) (look env) H (.pureq q) = pqR H (evQ Γ noCall (look env) [] q) := fun n => by
  have : evQ Γ (callOf Γ (ev Γ n)) (look env) [] q = evQ Γ noCall (look env) [] q := by cases q <;> first | rfl | cases h
  simp only [evX,this,pqR]
 simp only [e]
 exact ⟨fun ⟨_,h⟩ => h,fun h => ⟨0,h⟩⟩
theorem L_pq_faddr {off x} : WpL Γ (⟨dst,none,.inr (.pureq (.faddr off x))⟩ :: r) env H live Q ↔ opX Γ (pqR H (faddrA [] off (Arg.ev Γ (look env) x))) dst r env live Q := L_pq rfl
attribute [go_sem] pqR_some L_pq_faddr
end
def tdB (_B : Heap) (_L : List Nat) (rs : Option (List AV)) (H : Option Heap) : Option (List AV × Heap) := rs.bind fun rs => H.map fun H => (rs,H)
def tdA (B : Heap) (rs : List AV) (L : List Nat) : Option (List AV × Heap) := tdB B L (mapO (AV.ren (place L) 3) rs) (pickB B (place L) L)
theorem tidy_eq {k : Nat} {rs : List AV} {B : Heap} : tidy k (rs,B) = tdA B rs (reach B 64 (rs.flatMap AV.refs ++ (B.take k).flatMap Blk.refs) (List.range k)) := by
 unfold tidy tdA tdB
 simp only [pick_eq]
theorem tdA_eq {rs : List AV} {B : Heap} {L : List Nat} : tdA B rs L = tdB B L (mapO (AV.ren (place L) 3) rs) (pickB B (place L) L) := rfl
theorem tdB_some {rs : List AV} {B H : Heap} {L : List Nat} : tdB B L (some rs) (some H) = some (rs,H) := rfl
def EndsM (k : Nat) (rvs : List RV) (r : List AV × Heap) : Out → Prop
 | (.ex _,_,_) => False
 | (_,e,h) => optP (mapO (RV.get e h) rvs) fun vs => tidy k (vs,h) = some r
def endM (k : Nat) (vs : Option (List AV)) (h : Heap) (r : List AV × Heap) : Prop := optP vs fun vs => tidy k (vs,h) = some r
theorem endM_some {k vs h r} : endM k (some vs) h r ↔ tidy k (vs,h) = some r := Iff.rfl
theorem EndsM_nrm {k rvs r e h} : EndsM k rvs r (.nrm,e,h) ↔ endM k (mapO (RV.get e h) rvs) h r := Iff.rfl
theorem EndsM_ret {k rvs r e h} : EndsM k rvs r (.ret,e,h) ↔ endM k (mapO (RV.get e h) rvs) h r := Iff.rfl
theorem resM_code {Γ : Ctx} {k f : Nat} {fn : AFn} {args : List AV} {HL : Heap} {r : List AV × Heap} (hf : Γ.fn f = some (.code fn)) (hl : args.length = fn.np)
  (h : Wp Γ fn.body (envFrom 0 args) HL (EndsM k fn.results r)) : resM Γ k f args HL = some r := by
 obtain ⟨n,⟨x,e,hh⟩,h1,h2⟩ := h
 refine resM_of ⟨n,?_⟩
 have fin : (x ≠ .ret → x = .nrm) ∧ ∃ vs,mapO (RV.get e hh) fn.results = some vs ∧ tidy k (vs,hh) = some r := by
  cases x
  ·rw [EndsM,optP_iff] at h2
   exact ⟨fun _ => rfl,h2⟩
   simp
  ·exact h2.elim
  ·rw [EndsM,optP_iff] at h2
   exact ⟨fun h => absurd rfl h,h2⟩
   simp
 obtain ⟨hx,vs,h3,h4⟩ := fin
 refine ⟨(vs,hh),?_,h4⟩
 unfold callOf
 rw [hf,initEnv_eq]
 simp only [hl,if_true,h1]
 cases x
 ·simp only [h3]
 ·simp at hx
 ·simp only [h3]
def EndsK (rvs : List RV) (K : List AV → Heap → Prop) : Out → Prop
 | (.ex _,_,_) => False
 | (_,e,h) => optP (mapO (RV.get e h) rvs) fun vs => K vs h
def endKK (vs : Option (List AV)) (h : Heap) (K : List AV → Heap → Prop) : Prop := optP vs fun vs => K vs h
theorem endKK_some {vs h} {K : List AV → Heap → Prop} : endKK (some vs) h K ↔ K vs h := Iff.rfl
theorem EndsK_nrm {rvs e h} {K : List AV → Heap → Prop} : EndsK rvs K (.nrm,e,h) ↔ endKK (mapO (RV.get e h) rvs) h K := Iff.rfl
theorem EndsK_ret {rvs e h} {K : List AV → Heap → Prop} : EndsK rvs K (.ret,e,h) ↔ endKK (mapO (RV.get e h) rvs) h K := Iff.rfl
attribute [go_sem] endKK_some EndsK_nrm EndsK_ret
theorem callK {Γ : Ctx} {f : Nat} {fn : AFn} {args : List AV} {HL : Heap} {K : List AV → Heap → Prop} (hf : Γ.fn f = some (.code fn)) (hl : args.length = fn.np)
  (h : Wp Γ fn.body (envFrom 0 args) HL (EndsK fn.results K)) : ∃ n vs h,callOf Γ (ev Γ n) f args HL = some (vs,h) ∧ K vs h := by
 obtain ⟨n,⟨x,e,hh⟩,h1,h2⟩ := h
 have fin : (x ≠ .ret → x = .nrm) ∧ ∃ vs,mapO (RV.get e hh) fn.results = some vs ∧ K vs hh := by
  cases x
  ·rw [EndsK,optP_iff] at h2
   exact ⟨fun _ => rfl,h2⟩
   simp
  ·exact h2.elim
  ·rw [EndsK,optP_iff] at h2
   exact ⟨fun h => absurd rfl h,h2⟩
   simp
 obtain ⟨hx,vs,h3,h4⟩ := fin
 refine ⟨n,vs,hh,?_,h4⟩
 unfold callOf
 rw [hf,initEnv_eq]
 simp only [hl,if_true,h1]
 cases x
 ·simp only [h3]
 ·simp at hx
 ·simp only [h3]
theorem tidy_fresh {sz : Nat} {xs : List PV} : tidy 0 ([.own 0 xs.length],[.row false sz xs]) = some ([.own 0 xs.length],[.row false sz xs]) := rfl
theorem resM_fresh {Γ : Ctx} {f : Nat} {g} {ps : List PV} {sz : Nat} {xs : List PV} (hf : Γ.fn f = some (.fresh g)) (h : g ps = some (sz,xs)) (h0 : 0 < sz) (hl : xs.length ≤ 1073741824) :
  resM Γ 0 f (ps.map .p) [] = some ([.own 0 xs.length],[.row false sz xs]) := by
 refine resM_of ⟨0,([.own 0 xs.length],[.row false sz xs]),?_,tidy_fresh⟩
 unfold callOf
 rw [hf]
 simp only [pures_map,h]
 rw [if_pos ⟨h0,by simp only [lim]; exact hl⟩]
 rfl
theorem isEmpty_nil {α : Type} : ([] : List α).isEmpty = true := rfl
theorem isEmpty_cons {α : Type} {a : α} {l : List α} : (a :: l).isEmpty = false := rfl
theorem range_0 : List.range 0 = [] := rfl
theorem range_1 : List.range 1 = [0] := rfl
theorem range_2 : List.range 2 = [0,1] := rfl
theorem range_3 : List.range 3 = [0,1,2] := rfl
theorem range_4 : List.range 4 = [0,1,2,3] := rfl
theorem range_5 : List.range 5 = [0,1,2,3,4] := rfl
theorem range_6 : List.range 6 = [0,1,2,3,4,5] := rfl
theorem brefs_row {f sz xs} : Blk.refs (.row f sz xs) = [] := rfl
theorem brefs_dead : Blk.refs .dead = [] := rfl
theorem brefs_map {cs : List PV} : Blk.refs (.box (cs.map .p)) = [] := refsAt_map (cs := cs)
theorem brefs_box {cs : List AV} : Blk.refs (.box cs) = cs.flatMap AV.refs := rfl
theorem refsAt_dead : refsAt (some .dead) = [] := rfl
theorem ren_dead {p} : Blk.ren p .dead = some .dead := rfl
theorem flatMap_nil {α β : Type} {f : α → List β} : [].flatMap f = [] := rfl
attribute [go_sem low] brefs_box
attribute [go_sem] L_calls cmA_some cmB_eq cmC_some cmD_some jbB_some resX_some putBack_nil putBack_cons backTo_eq btK_t btK_f trees_eq tzA_eq tzB_some kill_nil kill_cons killK_some killB_row killB_box killB_dead L_fbox fbox_K fbK_some czA_some czB_some czC_some bslf_some bsfK_some tidy_eq tdA_eq tdB_some EndsM_nrm EndsM_ret endM_some isEmpty_nil isEmpty_cons range_0 range_1 range_2 range_3 range_4 range_5 range_6 brefs_row brefs_dead brefs_map refsAt_dead ren_dead List.take_succ_cons List.take_zero List.drop_succ_cons List.drop_zero
end Ab
namespace Ab
open Go (IntKind BinOp UnOp)
def refs2 : AV → List Nat
 | .own id _ | .bx id _ | .el id _ _ _ | .mp id => [id]
 | .agg cs | .tup cs | .clo _ cs => cs.flatMap fun
  | .own id _ | .bx id _ | .el id _ _ _ | .mp id => [id]
  | _ => []
 | _ => []
theorem refs2_p {v} : refs2 (.p v) = [] := rfl
theorem refs2_own {id n} : refs2 (.own id n) = [id] := rfl
theorem refs2_bx {id n} : refs2 (.bx id n) = [id] := rfl
theorem refs2_mp {id} : refs2 (.mp id) = [id] := rfl
theorem refs2_el {id n i o} : refs2 (.el id n i o) = [id] := rfl
attribute [go_sem] refs2_p refs2_own refs2_bx refs2_mp refs2_el
theorem app_tight {H sz x xs y ys} (hm : (x :: xs).length + (y :: ys).length ≤ 1073741824) : appendA H sz (.p (.sl .tight sz (x :: xs))) (y :: ys) = some (.own H.length (x :: xs ++ y :: ys).length,H ++ [.row false sz (x :: xs ++ y :: ys)]) := by
 simp only [appendA]
 rw [if_pos ⟨.inr ⟨trivial,trivial⟩,by simp only [List.length_append,lim]; omega⟩]
attribute [go_sem] app_tight vpv_nil
end Ab
namespace Ab
open Go (IntKind BinOp UnOp World Value Addr Obj undef maxLen)
theorem block_add (a : Addr) (n : Nat) : (a.add n).block = a.block := by unfold Addr.add; split <;> rfl
theorem add_add (a : Addr) (i j : Nat) : (a.add i).add j = a.add (i + j) := by
 unfold Addr.add
 by_cases hi : i = 0 <;> by_cases hj : j = 0 <;> simp [hi,hj,Nat.add_assoc]
inductive RelP (ν : Nat → Nat) (w : World) (S : Nat → Prop) : PV → Value → Prop
 | int (k n) : RelP ν w S (.int k n) (.int k n)
 | bool (b) : RelP ν w S (.bool b) (.bool b)
 | str (s) : RelP ν w S (.str s) (.string ⟨s.toArray⟩)
 | nilp : RelP ν w S .nilp (.pointer none)
 | nilfn : RelP ν w S .nilfn .nilFunc
 | nilmap : RelP ν w S .nilmap (.map none)
 | clo (f cs us) : us.size = cs.length → (∀ c ∈ cs,c.one = true) → (∀ j c,cs[j]? = some c → RelP ν w S c (us.getD j undef)) → RelP ν w S (.clo f cs) (.func (.func (ν f)) #[] us)
 | sl (k sz xs a cap) (us : Nat → Nat → Value) : xs.length ≤ cap → cap ≤ maxLen → (∀ x ∈ xs,x.cells.length = sz ∧ ∀ c ∈ x.cells,c.one = true) →
   (k = .nil ∨ a = none → xs = [] ∧ a = none ∧ cap = 0) → (k = .tight ∨ k = .mem → a.isSome = true ∧ (k = .tight → cap = xs.length)) →
   (xs ≠ [] → ∃ ad,a = some ad ∧ S ad.block) →
   (∀ ad,a = some ad → ∀ i x j c,xs[i]? = some x → x.cells[j]? = some c → w.cell? (ad.add (i * sz + j)) = some (us i j)) →
   (∀ i x j c,xs[i]? = some x → x.cells[j]? = some c → RelP ν w S c (us i j)) → RelP ν w S (.sl k sz xs) (.slice a xs.length cap)
 | ptr (cells ad) (us : Nat → Value) : cells ≠ [] → S ad.block → (∀ c ∈ cells,c.one = true) → (∀ j c,cells[j]? = some c → w.cell? (ad.add j) = some (us j)) →
   (∀ j c,cells[j]? = some c → RelP ν w S c (us j)) → RelP ν w S (.ptr cells) (.pointer (some ad))
 | agg (cs us) : us.size = cs.length → (∀ c ∈ cs,c.one = true) → (∀ j c,cs[j]? = some c → RelP ν w S c (us.getD j undef)) → RelP ν w S (.agg cs) (.agg us)
def blkOf : Value → Option Nat
 | .slice (some a) _ cap => if cap = 0 then none else some a.block
 | .pointer (some a) => some a.block
 | _ => none
def RowAt (w : World) (v : Value) (sz n : Nat) (us : List Value) : Prop :=
 us.length = n * sz ∧ ((n = 0 ∧ ∃ a,v = .slice a 0 0) ∨
  ∃ g cap cur e,v = .slice (some ⟨g,0,none⟩) n cap ∧ 0 < cap ∧ w.heap[g]? = some (.cells cur e (0,0)) ∧ n ≤ cap ∧ cap ≤ maxLen ∧ cur.size = cap * sz ∧ cur.toList.take (n * sz) = us)
def ElAt (m : Value) (sz n i off : Nat) (u : Value) : Prop :=
 (i < n → ∃ g cap,m = .slice (some ⟨g,0,none⟩) n cap ∧ u = .pointer (some ⟨g,i * sz + off,none⟩)) ∧
 (n ≤ i → i - n < n → i - n ≤ off → off ≤ n → ∃ g cap,m = .slice (some ⟨g,0,none⟩) n cap ∧ u = .slice (some ⟨g,(i - n) * sz,none⟩) (off - (i - n)) (cap - (i - n)))
inductive RelV (ν : Nat → Nat) (w : World) (S : Nat → Prop) (μ : Nat → Value) (H : Heap) : AV → Value → Prop
 | p (v u) : RelP ν w S v u → RelV ν w S μ H (.p v) u
 | own (id n u) : id < H.length → (∀ f sz xs,H[id]? = some (.row f sz xs) → n ≤ xs.length ∧ (n = xs.length → u = μ id)) → u.oneCell' = true → RelV ν w S μ H (.own id n) u
 | bx (id off g u) : id < H.length → (∀ cs,H[id]? = some (.box cs) → μ id = .pointer (some ⟨g,0,none⟩)) → u = .pointer (some ⟨g,off,none⟩) → RelV ν w S μ H (.bx id off) u
 | el (id n i off u) : id < H.length → (∀ f sz xs,H[id]? = some (.row f sz xs) → n ≤ xs.length ∧ (n = xs.length → ElAt (μ id) sz n i off u)) →
   u.oneCell' = true → RelV ν w S μ H (.el id n i off) u
 | mp (id g u) : id < H.length → (∀ cs,H[id]? = some (.box cs) → μ id = .pointer (some ⟨g,0,none⟩)) → u = .map (some g) → RelV ν w S μ H (.mp id) u
 | agg (cs us) : us.size = cs.length → (∀ c ∈ cs,c.one = true) → (∀ j c,cs[j]? = some c → RelV ν w S μ H c (us.getD j undef)) → RelV ν w S μ H (.agg cs) (.agg us)
 | tup (cs us) : us.size = cs.length → (∀ j c,cs[j]? = some c → RelV ν w S μ H c (us.getD j undef)) → RelV ν w S μ H (.tup cs) (.tuple us)
 | clo (f cs us) : us.size = cs.length → (∀ c ∈ cs,c.one = true) → (∀ j c,cs[j]? = some c → RelV ν w S μ H c (us.getD j undef)) → RelV ν w S μ H (.clo f cs) (.func (.func (ν f)) #[] us)
 | nov : RelV ν w S μ H .nov undef
 | any (u) : RelV ν w S μ H .any u
def BlkRel (ν : Nat → Nat) (w : World) (S : Nat → Prop) (μ : Nat → Value) (H : Heap) (id : Nat) : Blk → Prop
 | .box cells => ∃ g,μ id = .pointer (some ⟨g,0,none⟩) ∧ ((∃ cs t,w.heap[g]? = some (.cells cs t (0,0)) ∧ cs.size = cells.length ∧ (∀ c ∈ cells,c.one = true) ∧
   ∀ j c,cells[j]? = some c → RelV ν w S μ H c (cs.getD j undef)) ∨ (∃ s pos,cells = iterCells s pos ∧ w.heap[g]? = some (.stringIter ⟨s.toArray⟩ pos)) ∨
   ∃ es arr clock,cells = mapCells es ∧ w.heap[g]? = some (.map arr clock) ∧ arr.size = es.length ∧ ∀ (j : Nat) k v,es[j]? = some (k,v) → ∃ e,arr[j]? = some e ∧ RelP ν w S k e.key ∧ v.ok = true ∧ RelV ν w S μ H v e.val)
 | .row f sz xs => 0 < sz ∧ xs.length ≤ lim ∧ ∃ us,RowAt w (μ id) sz xs.length us ∧ (∀ x ∈ xs,x.cells.length = sz ∧ ∀ c ∈ x.cells,c.one = true) ∧
   (∀ i x j c,xs[i]? = some x → x.cells[j]? = some c → RelP ν w S c (us.getD (i * sz + j) undef)) ∧ (f = true → ∀ g,blkOf (μ id) = some g → S g)
 | .dead => ∀ g,blkOf (μ id) = some g → S g
def alive (μ : Nat → Value) (H : Heap) (g : Nat) : Prop :=
 ∃ id,blkOf (μ id) = some g ∧ ((∃ cs,H[id]? = some (.box cs)) ∨ ∃ sz xs,H[id]? = some (.row false sz xs))
structure Rel (ν : Nat → Nat) (w : World) (S : Nat → Prop) (μ : Nat → Value) (H : Heap) : Prop where
 lt : ∀ g,S g → g < w.heap.size
 blk : ∀ id b,H[id]? = some b → BlkRel ν w S μ H id b
 apart : ∀ g,alive μ H g → ¬ S g
 inj : ∀ i j g,blkOf (μ i) = some g → blkOf (μ j) = some g → ((∃ cs,H[i]? = some (.box cs)) ∨ ∃ sz xs,H[i]? = some (.row false sz xs)) →
  ((∃ cs,H[j]? = some (.box cs)) ∨ ∃ sz xs,H[j]? = some (.row false sz xs)) → i = j
structure Ext (w : World) (S : Nat → Prop) (μ : Nat → Value) (H : Heap) (w' : World) (S' : Nat → Prop) (μ' : Nat → Value) (H' : Heap) : Prop where
 os : w'.os = w.os
 tape : w'.tape = w.tape
 output : w'.output = w.output
 size : w.heap.size ≤ w'.heap.size
 keep : ∀ g,g < w.heap.size → ¬ alive μ H g → w'.heap[g]? = w.heap[g]?
 more : ∀ g,S g → S' g
 new : ∀ g,S' g → g < w.heap.size → S g ∨ alive μ H g
 own : ∀ g,alive μ' H' g → g < w.heap.size → alive μ H g
theorem Ext.refl {w S μ H} : Ext w S μ H w S μ H := ⟨rfl,rfl,rfl,Nat.le_refl _,fun _ _ _ => rfl,fun _ h => h,fun _ h _ => .inl h,fun _ h _ => h⟩
theorem Ext.trans {w S μ H w1 S1 μ1 H1 w2 S2 μ2 H2} (a : Ext w S μ H w1 S1 μ1 H1) (b : Ext w1 S1 μ1 H1 w2 S2 μ2 H2) : Ext w S μ H w2 S2 μ2 H2 where
 os := b.os.trans a.os
 tape := b.tape.trans a.tape
 output := b.output.trans a.output
 size := Nat.le_trans a.size b.size
 keep g h1 h2 := (b.keep g (Nat.lt_of_lt_of_le h1 a.size) (fun h => h2 (a.own g h h1))).trans (a.keep g h1 h2)
 more g h := b.more g (a.more g h)
 new g h1 h2 := by
  rcases b.new g h1 (Nat.lt_of_lt_of_le h2 a.size) with h | h
  ·exact a.new g h h2
  ·exact .inr (a.own g h h2)
 own g h1 h2 := a.own g (b.own g h1 (Nat.lt_of_lt_of_le h2 a.size)) h2
theorem cell?_of_heap {w w' : World} {p : Addr} (h : w'.heap[p.block]? = w.heap[p.block]?) : w'.cell? p = w.cell? p := by
 unfold World.cell?
 rw [h]
theorem RelP.keep {ν : Nat → Nat} {w w' : World} {S S' : Nat → Prop} (hS : ∀ g,S g → S' g) (hw : ∀ g,S g → w'.heap[g]? = w.heap[g]?) {v u} (h : RelP ν w S v u) : RelP ν w' S' v u := by
 induction h with
 | int => exact .int _ _
 | bool => exact .bool _
 | str => exact .str _
 | nilp => exact .nilp
 | nilfn => exact .nilfn
 | nilmap => exact .nilmap
 | clo f cs us h1 h2 _ ih => exact .clo f cs us h1 h2 ih
 | sl k sz xs a cap us h1 h2 h3 h4 h5 h6 h7 _ ih =>
  refine .sl k sz xs a cap us h1 h2 h3 h4 h5 (fun hx => ?_) (fun ad hd i x j c hx hc => ?_) ih
  ·obtain ⟨ad,e,hs⟩ := h6 hx
   exact ⟨ad,e,hS _ hs⟩
  ·obtain ⟨ad',e,hs⟩ := h6 (by rintro rfl; simp at hx)
   rw [hd] at e
   cases e
   rw [← h7 ad hd i x j c hx hc]
   exact cell?_of_heap (hw _ (by rw [block_add]; exact hs))
 | ptr cells ad us h0 h1 h2 h3 _ ih =>
  refine .ptr cells ad us h0 (hS _ h1) h2 (fun j c hc => ?_) ih
  rw [← h3 j c hc]
  exact cell?_of_heap (hw _ (by rw [block_add]; exact h1))
 | agg cs us h1 h2 _ ih => exact .agg cs us h1 h2 ih
structure Moves (μ : Nat → Value) (H : Heap) (μ' : Nat → Value) (H' : Heap) : Prop where
 len : H.length ≤ H'.length
 row : ∀ id f sz xs,id < H.length → H'[id]? = some (.row f sz xs) → ∃ f0 xs0,H[id]? = some (.row f0 sz xs0) ∧ xs0.length ≤ xs.length ∧ (xs0.length = xs.length → μ' id = μ id)
 box : ∀ id cs,id < H.length → H'[id]? = some (.box cs) → ∃ cs0,H[id]? = some (.box cs0) ∧ μ' id = μ id
theorem RelV.keep {ν : Nat → Nat} {w w' : World} {S S' : Nat → Prop} {μ μ' : Nat → Value} {H H' : Heap} (hS : ∀ g,S g → S' g) (hw : ∀ g,S g → w'.heap[g]? = w.heap[g]?) (hm : Moves μ H μ' H')
  {v u} (h : RelV ν w S μ H v u) : RelV ν w' S' μ' H' v u := by
 induction h with
 | p v u h => exact .p v u (h.keep hS hw)
 | own id n u hl h h1 =>
  refine .own id n u (Nat.lt_of_lt_of_le hl hm.len) (fun f sz xs e => ?_) h1
  obtain ⟨f0,xs0,e0,hle,he⟩ := hm.row id f sz xs hl e
  obtain ⟨h2,h3⟩ := h f0 sz xs0 e0
  exact ⟨Nat.le_trans h2 hle,fun hn => by rw [he (by omega)]; exact h3 (by omega)⟩
 | bx id off g u hl h h1 =>
  refine .bx id off g u (Nat.lt_of_lt_of_le hl hm.len) (fun cs e => ?_) h1
  obtain ⟨cs0,e0,he⟩ := hm.box id cs hl e
  rw [he]
  exact h cs0 e0
 | el id n i off u hl h h1 =>
  refine .el id n i off u (Nat.lt_of_lt_of_le hl hm.len) (fun f sz xs e => ?_) h1
  obtain ⟨f0,xs0,e0,hle,he⟩ := hm.row id f sz xs hl e
  obtain ⟨h2,h3⟩ := h f0 sz xs0 e0
  exact ⟨Nat.le_trans h2 hle,fun hn => by rw [he (by omega)]; exact h3 (by omega)⟩
 | mp id g u hl h h1 =>
  refine .mp id g u (Nat.lt_of_lt_of_le hl hm.len) (fun cs e => ?_) h1
  obtain ⟨cs0,e0,he⟩ := hm.box id cs hl e
  rw [he]
  exact h cs0 e0
 | agg cs us h1 h2 _ ih => exact .agg cs us h1 h2 ih
 | tup cs us h1 _ ih => exact .tup cs us h1 ih
 | clo f cs us h1 h2 _ ih => exact .clo f cs us h1 h2 ih
 | nov => exact .nov
 | any u => exact .any u
theorem Moves.refl {μ H} : Moves μ H μ H := ⟨Nat.le_refl _,fun _ _ _ xs _ h => ⟨_,xs,h,Nat.le_refl _,fun _ => rfl⟩,fun _ cs _ h => ⟨cs,h,rfl⟩⟩
theorem PV.cells_one {v : PV} (h : v.one = true) : v.cells = [v] := by cases v <;> first | rfl | cases h
theorem RelP.one {ν w S v u} (h : RelP ν w S v u) : u.oneCell' = v.one := by cases h <;> rfl
theorem RelV.one {ν w S μ H v u} (h : RelV ν w S μ H v u) (h1 : v.one = true) : u.oneCell' = true := by
 cases h with
 | p v u h => rw [h.one]; exact h1
 | own _ _ _ _ _ h => exact h
 | bx _ _ _ _ _ _ h => subst h; rfl
 | el _ _ _ _ _ _ _ h => exact h
 | mp _ _ _ _ _ h => subst h; rfl
 | agg => cases h1
 | tup => cases h1
 | clo => rfl
 | nov => cases h1
 | any => cases h1
theorem RelP.cells {ν w S v u} (h : RelP ν w S v u) : u.cells.size = v.cells.length ∧ (∀ c ∈ v.cells,c.one = true) ∧ ∀ j c,v.cells[j]? = some c → RelP ν w S c (u.cells.getD j undef) := by
 cases h
 case agg cs us h1 h2 h3 => exact ⟨h1,h2,h3⟩
 all_goals
  refine ⟨rfl,fun c hc => ?_,fun j c hc => ?_⟩
  ·simp only [PV.cells,List.mem_singleton] at hc
   subst hc; rfl
  ·cases j with
   | zero =>
    simp only [PV.cells,List.getElem?_cons_zero,Option.some.injEq] at hc
    subst hc
    simp only [Value.cells]
    constructor <;> assumption
   | succ j => simp [PV.cells] at hc
theorem RelV.cells {ν w S μ H v u} (h : RelV ν w S μ H v u) (hok : v.ok = true) : u.cells.size = v.cells.length ∧ (∀ c ∈ v.cells,c.one = true) ∧ ∀ j c,v.cells[j]? = some c → RelV ν w S μ H c (u.cells.getD j undef) := by
 cases h with
 | p v u h =>
  obtain ⟨h1,h2,h3⟩ := h.cells
  refine ⟨by rw [h1]; simp [AV.cells],fun c hc => ?_,fun j c hc => ?_⟩
  ·simp only [AV.cells,List.mem_map] at hc
   obtain ⟨x,hx,rfl⟩ := hc
   exact h2 x hx
  ·simp only [AV.cells,List.getElem?_map,Option.map_eq_some_iff] at hc
   obtain ⟨x,hx,rfl⟩ := hc
   exact .p _ _ (h3 j x hx)
 | agg cs us h1 h2 h3 => exact ⟨h1,h2,h3⟩
 | tup => cases hok
 | nov => cases hok
 | any => cases hok
 | own id n u h1 h2 h3 =>
  have e : u.cells = #[u] := by cases u <;> first | rfl | cases h3
  rw [e]
  refine ⟨rfl,fun c hc => ?_,fun j c hc => ?_⟩
  ·simp only [AV.cells,List.mem_singleton] at hc; subst hc; rfl
  ·cases j with
   | zero => simp only [AV.cells,List.getElem?_cons_zero,Option.some.injEq] at hc; subst hc; exact .own _ _ _ h1 h2 h3
   | succ j => simp [AV.cells] at hc
 | bx id off g u h1 h2 h3 =>
  subst h3
  refine ⟨rfl,fun c hc => ?_,fun j c hc => ?_⟩
  ·simp only [AV.cells,List.mem_singleton] at hc; subst hc; rfl
  ·cases j with
   | zero => simp only [AV.cells,List.getElem?_cons_zero,Option.some.injEq] at hc; subst hc; exact .bx _ _ _ _ h1 h2 rfl
   | succ j => simp [AV.cells] at hc
 | el id n i off u h1 h2 h3 =>
  have e : u.cells = #[u] := by cases u <;> first | rfl | cases h3
  rw [e]
  refine ⟨rfl,fun c hc => ?_,fun j c hc => ?_⟩
  ·simp only [AV.cells,List.mem_singleton] at hc; subst hc; rfl
  ·cases j with
   | zero => simp only [AV.cells,List.getElem?_cons_zero,Option.some.injEq] at hc; subst hc; exact .el _ _ _ _ _ h1 h2 h3
   | succ j => simp [AV.cells] at hc
 | mp id g u h1 h2 h3 =>
  subst h3
  refine ⟨rfl,fun c hc => ?_,fun j c hc => ?_⟩
  ·simp only [AV.cells,List.mem_singleton] at hc; subst hc; rfl
  ·cases j with
   | zero => simp only [AV.cells,List.getElem?_cons_zero,Option.some.injEq] at hc; subst hc; exact .mp _ _ _ h1 h2 rfl
   | succ j => simp [AV.cells] at hc
 | clo f cs us h1 h2 h3 =>
  refine ⟨rfl,fun c hc => ?_,fun j c hc => ?_⟩
  ·simp only [AV.cells,List.mem_singleton] at hc; subst hc; rfl
  ·cases j with
   | zero => simp only [AV.cells,List.getElem?_cons_zero,Option.some.injEq] at hc; subst hc; exact .clo _ _ _ h1 h2 h3
   | succ j => simp [AV.cells] at hc
end Ab
