import Derived.Test.YtgdkafbcchkplaaGreatDoorLVrow
import Derived.Test.YtgdkafbcchkplaaGreatDoorLDig
import Derived.Test.YtgdkafbcchkplaaGreatDoorMMoved
import Derived.Test.YtgdkafbcchkplaaGreatDoorLDev
/- Rules for calls that share memory, for calls and slices that take what is handed over, for the library's own rows. -/
namespace Ab
open Go (IntKind BinOp UnOp)
/-! ### What a call on memory yields -/
/-- A call on the blocks HL, k of them: results and blocks behind it. -/
def RunM (Γ : Ctx) (k f : Nat) (as : List AV) (HL : Heap) (r : List AV × Heap) : Prop := ∃ n x, callOf Γ (ev Γ n) f as HL = some x ∧ tidy k x = some r
theorem RunM_det {Γ : Ctx} {k f : Nat} {as : List AV} {HL : Heap} {r r' : List AV × Heap} (h : RunM Γ k f as HL r) (h' : RunM Γ k f as HL r') : r = r' := by
  obtain ⟨n, x, h1, h2⟩ := h
  obtain ⟨m, x', h3, h4⟩ := h'
  have e1 := call_le (Nat.le_max_left n m) _ _ _ _ h1
  have e2 := call_le (Nat.le_max_right n m) _ _ _ _ h3
  rw [e1] at e2
  cases e2
  rw [h2] at h4
  cases h4
  rfl
open Classical in
noncomputable def resM (Γ : Ctx) (k f : Nat) (as : List AV) (HL : Heap) : Option (List AV × Heap) := if h : ∃ r, RunM Γ k f as HL r then some h.choose else none
theorem resM_of {Γ k f as HL r} (h : RunM Γ k f as HL r) : resM Γ k f as HL = some r := by
  have h' : ∃ r, RunM Γ k f as HL r := ⟨_, h⟩
  unfold resM
  rw [dif_pos h']
  exact congrArg some (RunM_det h'.choose_spec h)
theorem of_resM {Γ k f as HL r} (h : resM Γ k f as HL = some r) : RunM Γ k f as HL r := by
  unfold resM at h
  split at h
  · rename_i h'
    cases h
    exact h'.choose_spec
  · cases h

section
variable {Γ : Ctx} {env : Env} {H : Heap} {live : List Nat} {Q : Out → Prop} {r : List St} {dst : Option Nat}

/-! Stages of a call that shares memory. -/
def cmD (H : Heap) (L : List Nat) (r : Option (List AV × Heap)) : Option (List AV × Heap) := r.bind fun r => joinBack H L r
noncomputable def cmC (Γ : Ctx) (H : Heap) (f : Nat) (L : List Nat) (b : Bool) (as : Option (List AV)) (HL : Option Heap) : Option (List AV × Heap) :=
  ifB b (as.bind fun as => HL.bind fun HL => cmD H L (resM Γ L.length f as HL))
noncomputable def cmB (Γ : Ctx) (H : Heap) (f : Nat) (as : List AV) (L : List Nat) : Option (List AV × Heap) :=
  cmC Γ H f L (L.isEmpty || stillF Γ f) (mapO (AV.ren (place L) 3) as) (pickB H (place L) L)
noncomputable def cmA (Γ : Ctx) (H : Heap) (args : List AV) (fc : Option (Nat × List AV)) : Option (List AV × Heap) :=
  fc.bind fun fc => cmB Γ H fc.1 (args ++ fc.2) (reach H 64 ((args ++ fc.2).flatMap AV.refs) [])
def resX (x : Option (List AV × Heap)) : Option (AV × Heap) := x.map fun r => (results r.1, r.2)
theorem L_calls {f args} : WpL Γ (⟨dst, none, .inr (.calls f args)⟩ :: r) env H live Q ↔ opX Γ (resX (cmA Γ H (args.map (Arg.ev Γ (look env))) (callee (Arg.ev Γ (look env) f)))) dst r env live Q := by
  rw [L_of]
  unfold opX WpO
  constructor
  · rintro ⟨n, h⟩
    dsimp only at h
    rw [optP_iff] at h ⊢
    obtain ⟨v, h1, h2⟩ := h
    simp only [evX, callS, Option.map_eq_some_iff, Option.bind_eq_some_iff, ifB_some] at h1
    obtain ⟨rr, ⟨fc, hfc, hst, as', has, HL, hp, x, hcr, r', htd, hj⟩, rfl⟩ := h1
    refine ⟨_, ?_, h2⟩
    rw [pick_eq] at hp
    simp only [resX, cmA, cmB, cmC, cmD, hfc, Option.bind_some, hst, has, hp, ifB, resM_of ⟨n, x, hcr, htd⟩, hj, Option.map_some]
  · intro h
    rw [optP_iff] at h
    obtain ⟨v, h1, h2⟩ := h
    simp only [resX, cmA, cmB, cmC, cmD, Option.map_eq_some_iff, Option.bind_eq_some_iff, ifB_some] at h1
    obtain ⟨rr, ⟨fc, hfc, hst, as', has, HL, hp, r', hres, hj⟩, rfl⟩ := h1
    obtain ⟨n, x, hcr, htd⟩ := of_resM hres
    rw [← pick_eq] at hp
    refine ⟨n, ?_⟩
    simp only [evX, callS, hfc, Option.bind_some, hst, has, hp, hcr, htd, hj, Option.map_some, ifB]
    exact h2
theorem cmA_some {args : List AV} {f : Nat} {caps : List AV} : cmA Γ H args (some (f, caps)) = cmB Γ H f (args ++ caps) (reach H 64 ((args ++ caps).flatMap AV.refs) []) := rfl
theorem cmB_eq {as : List AV} {f : Nat} {L : List Nat} : cmB Γ H f as L = cmC Γ H f L (L.isEmpty || stillF Γ f) (mapO (AV.ren (place L) 3) as) (pickB H (place L) L) := rfl
theorem cmC_some {as : List AV} {HL : Heap} {f : Nat} {L : List Nat} : cmC Γ H f L true (some as) (some HL) = cmD H L (resM Γ L.length f as HL) := rfl
def jbB (H : Heap) (L : List Nat) (rs : Option (List AV)) (bs : Option (List Blk)) : Option (List AV × Heap) := rs.bind fun rs => bs.map fun bs => (rs, putBack H L bs ++ bs.drop L.length)
theorem cmD_some {L : List Nat} {rs : List AV} {B : Heap} : cmD H L (some (rs, B)) = jbB H L (mapO (AV.ren (backTo H L) 3) rs) (mapO (Blk.ren (backTo H L)) B) := rfl
theorem jbB_some {L : List Nat} {rs : List AV} {bs : List Blk} : jbB H L (some rs) (some bs) = some (rs, putBack H L bs ++ bs.drop L.length) := rfl
theorem resX_some {rs : List AV} {h : Heap} : resX (some (rs, h)) = some (results rs, h) := rfl
theorem putBack_nil {bs : List Blk} : putBack H [] bs = H := by cases bs <;> rfl
theorem putBack_cons {id : Nat} {L : List Nat} {b : Blk} {bs : List Blk} : putBack H (id :: L) (b :: bs) = putBack (H.set id b) L bs := rfl
def btK (b : Bool) (H : Heap) (L : List Nat) (id : Nat) : Option Nat := match b with | true => L[id]? | false => some (H.length + (id - L.length))
theorem backTo_eq {L : List Nat} {id : Nat} : backTo H L id = btK (decide (id < L.length)) H L id := by
  unfold backTo btK
  by_cases h : id < L.length <;> simp [h]
theorem btK_t {L : List Nat} {id : Nat} : btK true H L id = L[id]? := rfl
theorem btK_f {L : List Nat} {id : Nat} : btK false H L id = some (H.length + (id - L.length)) := rfl

/-! Calls that take what is handed over. -/
def tzB (H : Heap) (L : List Nat) (vs : Option (List AV)) (HL : Option Heap) : Option (List PV × Heap) := vs.bind fun vs => HL.bind fun HL => (mapO (reify HL 4) vs).map fun ps => (ps, kill H L)
def tzA (H : Heap) (vs : List AV) (L : List Nat) : Option (List PV × Heap) := tzB H L (mapO (AV.ren (place L) 3) vs) (pickB H (place L) L)
theorem trees_eq {vs : List AV} : treesOf H vs = tzA H vs (reach H 64 (vs.flatMap AV.refs) []) := by
  unfold treesOf tzA tzB
  simp only [pick_eq]
theorem tzA_eq {vs : List AV} {L : List Nat} : tzA H vs L = tzB H L (mapO (AV.ren (place L) 3) vs) (pickB H (place L) L) := rfl
theorem tzB_some {vs : List AV} {HL : Heap} {L : List Nat} : tzB H L (some vs) (some HL) = (mapO (reify HL 4) vs).map fun ps => (ps, kill H L) := rfl
def killK (H : Heap) (id : Nat) (L : List Nat) (b : Option Blk) : Heap := kill (match b with | some b => H.set id (killB b) | none => H) L
theorem kill_nil : kill H [] = H := rfl
theorem kill_cons {id : Nat} {L : List Nat} : kill H (id :: L) = killK H id L H[id]? := rfl
theorem killK_some {id : Nat} {L : List Nat} {b : Blk} : killK H id L (some b) = kill (H.set id (killB b)) L := rfl
theorem killB_row {f sz xs} : killB (.row f sz xs) = .row true sz xs := rfl
theorem killB_box {cs} : killB (.box cs) = .dead := rfl
theorem killB_dead : killB .dead = .dead := rfl
noncomputable def czC (x : Option (List PV)) (H : Heap) : Option (AV × Heap) := x.map fun rs => (results (rs.map .p), H)
noncomputable def czB (Γ : Ctx) (f : Nat) (q : Option (List PV × Heap)) : Option (AV × Heap) := q.bind fun q => czC (res Γ f q.1) q.2
noncomputable def czA (Γ : Ctx) (H : Heap) (args : List AV) (fc : Option (Nat × List AV)) : Option (AV × Heap) := fc.bind fun fc => czB Γ fc.1 (treesOf H (args ++ fc.2))
theorem L_callz {f args} : WpL Γ (⟨dst, none, .inr (.callz f args)⟩ :: r) env H live Q ↔ opX Γ (czA Γ H (args.map (Arg.ev Γ (look env))) (callee (Arg.ev Γ (look env) f))) dst r env live Q := by
  rw [L_of]
  unfold opX WpO
  constructor
  · rintro ⟨n, h⟩
    dsimp only at h
    rw [optP_iff] at h ⊢
    obtain ⟨v, h1, h2⟩ := h
    simp only [evX, callZ, Option.map_eq_some_iff, Option.bind_eq_some_iff] at h1
    obtain ⟨rr, ⟨fc, hfc, q, hq, x, hcr, rs, hrs, rfl⟩, rfl⟩ := h1
    refine ⟨_, ?_, h2⟩
    simp only [czA, czB, czC, hfc, Option.bind_some, hq, res_of ⟨n, x, hcr, hrs⟩, Option.map_some]
  · intro h
    rw [optP_iff] at h
    obtain ⟨v, h1, h2⟩ := h
    simp only [czA, czB, czC, Option.map_eq_some_iff, Option.bind_eq_some_iff] at h1
    obtain ⟨fc, hfc, q, hq, rs, hres, rfl⟩ := h1
    obtain ⟨n, x, hcr, hrs⟩ := of_res hres
    refine ⟨n, ?_⟩
    simp only [evX, callZ, hfc, Option.bind_some, hq, hcr, hrs, Option.map_some]
    exact h2
theorem czA_some {args : List AV} {f : Nat} {caps : List AV} : czA Γ H args (some (f, caps)) = czB Γ f (treesOf H (args ++ caps)) := rfl
theorem czB_some {f : Nat} {ps : List PV} {h : Heap} : czB Γ f (some (ps, h)) = czC (res Γ f ps) h := rfl
theorem czC_some {rs : List PV} {h : Heap} : czC (some rs) h = some (results (rs.map .p), h) := rfl

theorem L_bslicef {sz ag n zero parts} : WpL Γ (⟨dst, none, .inr (.bslicef sz ag n zero parts)⟩ :: r) env H live Q ↔ opX Γ (bslicefA H sz ag n (fillA (zero.map .p) (parts.map fun q => (q.off, q.sz, Arg.ev Γ (look env) q.arg)))) dst r env live Q := L_of.trans (WpO_x rfl)
def bsfK (sz : Nat) (ag : Bool) (n : Nat) (q : Option (List PV × Heap)) : Option (AV × Heap) := q.bind fun q => ifB (q.1.length == n * sz) (some (.p (.sl .tight sz (chunks sz ag n q.1)), q.2))
theorem L_fbox {x} : WpL Γ (⟨dst, none, .inr (.fbox x)⟩ :: r) env H live Q ↔ opX Γ (fboxA H (Arg.ev Γ (look env) x)) dst r env live Q := L_of.trans (WpO_x rfl)
def fbK (b : Bool) (q : Option (List PV × Heap)) : Option (AV × Heap) := q.bind fun q => ifB (b && !q.1.isEmpty) (some (.p (.ptr q.1), q.2))
theorem fbox_K {v : AV} : fboxA H v = fbK v.ok (treesOf H v.cells) := rfl
theorem fbK_some {b : Bool} {ps : List PV} {h : Heap} : fbK b (some (ps, h)) = ifB (b && !ps.isEmpty) (some (.p (.ptr ps), h)) := rfl
theorem bslf_some {sz ag n} {cs : List AV} : bslicefA H sz ag n (some cs) = bsfK sz ag n (treesOf H cs) := rfl
theorem bsfK_some {sz ag n} {ps : List PV} {h : Heap} : bsfK sz ag n (some (ps, h)) = ifB (ps.length == n * sz) (some (.p (.sl .tight sz (chunks sz ag n ps)), h)) := rfl
end

/-! ### Operations that look at no memory of the call's own -/
section
variable {Γ : Ctx} {env : Env} {H : Heap} {live : List Nat} {Q : Out → Prop} {r : List St} {dst : Option Nat}
def pqR (H : Heap) (v : Option AV) : Option (AV × Heap) := v.map fun v => (v, H)
theorem pqR_some {v : AV} : pqR H (some v) = some (v, H) := rfl
theorem L_pq {q : QOp} (h : q.plain = true) : WpL Γ (⟨dst, none, .inr (.pureq q)⟩ :: r) env H live Q ↔ opX Γ (pqR H (evQ Γ noCall (look env) [] q)) dst r env live Q := by
  rw [L_of]
  unfold opX WpO
  have e : ∀ n, evX Γ (callOf Γ (ev Γ n)) (look env) H (.pureq q) = pqR H (evQ Γ noCall (look env) [] q) := fun n => by
    have : evQ Γ (callOf Γ (ev Γ n)) (look env) [] q = evQ Γ noCall (look env) [] q := by cases q <;> first | rfl | cases h
    simp only [evX, this, pqR]
  simp only [e]
  exact ⟨fun ⟨_, h⟩ => h, fun h => ⟨0, h⟩⟩
theorem L_pq_iaddr {sz x i} : WpL Γ (⟨dst, none, .inr (.pureq (.iaddr sz x i))⟩ :: r) env H live Q ↔ opX Γ (pqR H (iaddrA [] sz (Arg.ev Γ (look env) x) (Arg.ev Γ (look env) i))) dst r env live Q := L_pq rfl
theorem L_pq_load {sz ag x} : WpL Γ (⟨dst, none, .inr (.pureq (.load sz ag x))⟩ :: r) env H live Q ↔ opX Γ (pqR H (loadA [] sz ag (Arg.ev Γ (look env) x))) dst r env live Q := L_pq rfl
theorem L_pq_faddr {off x} : WpL Γ (⟨dst, none, .inr (.pureq (.faddr off x))⟩ :: r) env H live Q ↔ opX Γ (pqR H (faddrA [] off (Arg.ev Γ (look env) x))) dst r env live Q := L_pq rfl
theorem L_pq_len {s x} : WpL Γ (⟨dst, none, .inr (.pureq (.len s x))⟩ :: r) env H live Q ↔ opX Γ (pqR H ((asLen [] s (Arg.ev Γ (look env) x)).map fun (n : Nat) => AV.p (.int .i64 (n : Int)))) dst r env live Q := L_pq rfl
theorem L_pq_call {f args} : WpL Γ (⟨dst, none, .inr (.pureq (.call f args))⟩ :: r) env H live Q ↔ opX Γ (pqR H ((callR Γ [] (Arg.ev Γ (look env) f) (args.map (Arg.ev Γ (look env)))).bind fun rs =>
      ifB (allP (args.map (Arg.ev Γ (look env))) && (Arg.ev Γ (look env) f).isP || rs.all flat) (some (results (rs.map .p))))) dst r env live Q := by
  rw [L_of]
  unfold opX WpO pqR
  constructor
  · rintro ⟨n, h⟩
    dsimp only at h
    rw [optP_iff] at h ⊢
    obtain ⟨v, h1, h2⟩ := h
    simp only [evX, evQ] at h1
    obtain ⟨x, h1', rfl⟩ := Option.map_eq_some_iff.1 h1
    obtain ⟨rs, h3, h4⟩ := Option.bind_eq_some_iff.1 h1'
    exact ⟨_, by rw [callR_of h3, Option.bind_some, h4]; rfl, h2⟩
  · intro h
    rw [optP_iff] at h
    obtain ⟨v, h1, h2⟩ := h
    obtain ⟨x, h1', e⟩ := Option.map_eq_some_iff.1 h1
    obtain ⟨rs, h3, h4⟩ := Option.bind_eq_some_iff.1 h1'
    obtain ⟨n, h5⟩ := callR_spec h3
    refine ⟨n, ?_⟩
    subst e
    simp only [evX, evQ, h5, Option.bind_some, h4, Option.map_some]
    exact h2
attribute [go_sem] pqR_some L_pq_iaddr L_pq_load L_pq_faddr L_pq_len L_pq_call
end

/-! ### Ends of functions that share memory -/
def tdB (_B : Heap) (_L : List Nat) (rs : Option (List AV)) (H : Option Heap) : Option (List AV × Heap) := rs.bind fun rs => H.map fun H => (rs, H)
def tdA (B : Heap) (rs : List AV) (L : List Nat) : Option (List AV × Heap) := tdB B L (mapO (AV.ren (place L) 3) rs) (pickB B (place L) L)
theorem tidy_eq {k : Nat} {rs : List AV} {B : Heap} : tidy k (rs, B) = tdA B rs (reach B 64 (rs.flatMap AV.refs ++ (B.take k).flatMap Blk.refs) (List.range k)) := by
  unfold tidy tdA tdB
  simp only [pick_eq]
theorem tdA_eq {rs : List AV} {B : Heap} {L : List Nat} : tdA B rs L = tdB B L (mapO (AV.ren (place L) 3) rs) (pickB B (place L) L) := rfl
theorem tdB_some {rs : List AV} {B H : Heap} {L : List Nat} : tdB B L (some rs) (some H) = some (rs, H) := rfl
def EndsM (k : Nat) (rvs : List RV) (r : List AV × Heap) : Out → Prop
  | (.ex _, _, _) => False
  | (_, e, h) => optP (mapO (RV.get e h) rvs) fun vs => tidy k (vs, h) = some r
def endM (k : Nat) (vs : Option (List AV)) (h : Heap) (r : List AV × Heap) : Prop := optP vs fun vs => tidy k (vs, h) = some r
theorem endM_some {k vs h r} : endM k (some vs) h r ↔ tidy k (vs, h) = some r := Iff.rfl
theorem EndsM_nrm {k rvs r e h} : EndsM k rvs r (.nrm, e, h) ↔ endM k (mapO (RV.get e h) rvs) h r := Iff.rfl
theorem EndsM_ret {k rvs r e h} : EndsM k rvs r (.ret, e, h) ↔ endM k (mapO (RV.get e h) rvs) h r := Iff.rfl
theorem resM_code {Γ : Ctx} {k f : Nat} {fn : AFn} {args : List AV} {HL : Heap} {r : List AV × Heap} (hf : Γ.fn f = some (.code fn)) (hl : args.length = fn.np)
    (h : Wp Γ fn.body (envFrom 0 args) HL (EndsM k fn.results r)) : resM Γ k f args HL = some r := by
  obtain ⟨n, ⟨x, e, hh⟩, h1, h2⟩ := h
  refine resM_of ⟨n, ?_⟩
  have fin : (x ≠ .ret → x = .nrm) ∧ ∃ vs, mapO (RV.get e hh) fn.results = some vs ∧ tidy k (vs, hh) = some r := by
    cases x
    · rw [EndsM, optP_iff] at h2
      exact ⟨fun _ => rfl, h2⟩
      simp
    · exact h2.elim
    · rw [EndsM, optP_iff] at h2
      exact ⟨fun h => absurd rfl h, h2⟩
      simp
  obtain ⟨hx, vs, h3, h4⟩ := fin
  refine ⟨(vs, hh), ?_, h4⟩
  unfold callOf
  rw [hf, initEnv_eq]
  simp only [hl, if_true, h1]
  cases x
  · simp only [h3]
  · simp at hx
  · simp only [h3]
/-- Ends of a function, whatever is asked of what it leaves. -/
def EndsK (rvs : List RV) (K : List AV → Heap → Prop) : Out → Prop
  | (.ex _, _, _) => False
  | (_, e, h) => optP (mapO (RV.get e h) rvs) fun vs => K vs h
def endKK (vs : Option (List AV)) (h : Heap) (K : List AV → Heap → Prop) : Prop := optP vs fun vs => K vs h
theorem endKK_some {vs h} {K : List AV → Heap → Prop} : endKK (some vs) h K ↔ K vs h := Iff.rfl
theorem EndsK_nrm {rvs e h} {K : List AV → Heap → Prop} : EndsK rvs K (.nrm, e, h) ↔ endKK (mapO (RV.get e h) rvs) h K := Iff.rfl
theorem EndsK_ret {rvs e h} {K : List AV → Heap → Prop} : EndsK rvs K (.ret, e, h) ↔ endKK (mapO (RV.get e h) rvs) h K := Iff.rfl
attribute [go_sem] endKK_some EndsK_nrm EndsK_ret
theorem callK {Γ : Ctx} {f : Nat} {fn : AFn} {args : List AV} {HL : Heap} {K : List AV → Heap → Prop} (hf : Γ.fn f = some (.code fn)) (hl : args.length = fn.np)
    (h : Wp Γ fn.body (envFrom 0 args) HL (EndsK fn.results K)) : ∃ n vs h, callOf Γ (ev Γ n) f args HL = some (vs, h) ∧ K vs h := by
  obtain ⟨n, ⟨x, e, hh⟩, h1, h2⟩ := h
  have fin : (x ≠ .ret → x = .nrm) ∧ ∃ vs, mapO (RV.get e hh) fn.results = some vs ∧ K vs hh := by
    cases x
    · rw [EndsK, optP_iff] at h2
      exact ⟨fun _ => rfl, h2⟩
      simp
    · exact h2.elim
    · rw [EndsK, optP_iff] at h2
      exact ⟨fun h => absurd rfl h, h2⟩
      simp
  obtain ⟨hx, vs, h3, h4⟩ := fin
  refine ⟨n, vs, hh, ?_, h4⟩
  unfold callOf
  rw [hf, initEnv_eq]
  simp only [hl, if_true, h1]
  cases x
  · simp only [h3]
  · simp at hx
  · simp only [h3]
theorem tidy_fresh {sz : Nat} {xs : List PV} : tidy 0 ([.own 0 xs.length], [.row false sz xs]) = some ([.own 0 xs.length], [.row false sz xs]) := rfl
theorem resM_fresh {Γ : Ctx} {f : Nat} {g} {ps : List PV} {sz : Nat} {xs : List PV} (hf : Γ.fn f = some (.fresh g)) (h : g ps = some (sz, xs)) (h0 : 0 < sz) (hl : xs.length ≤ 1073741824) :
    resM Γ 0 f (ps.map .p) [] = some ([.own 0 xs.length], [.row false sz xs]) := by
  refine resM_of ⟨0, ([.own 0 xs.length], [.row false sz xs]), ?_, tidy_fresh⟩
  unfold callOf
  rw [hf]
  simp only [pures_map, h]
  rw [if_pos ⟨h0, by simp only [lim]; exact hl⟩]
  rfl
theorem resM_upd {Γ : Ctx} {f : Nat} {g} {ps : List PV} {sz : Nat} {xs ys : List PV} (hf : Γ.fn f = some (.upd g)) (h : g ps sz xs = some ys) (hl : ys.length = xs.length) :
    resM Γ 1 f (.own 0 xs.length :: ps.map .p) [.row false sz xs] = some ([], [.row false sz ys]) := by
  refine resM_of ⟨0, ([], [.row false sz ys]), ?_, rfl⟩
  unfold callOf
  rw [hf]
  simp only [List.getElem?_cons_zero, if_true, pures_map, h, hl, List.set_cons_zero]
theorem isEmpty_nil {α : Type} : ([] : List α).isEmpty = true := rfl
theorem isEmpty_cons {α : Type} {a : α} {l : List α} : (a :: l).isEmpty = false := rfl
theorem range_0 : List.range 0 = [] := rfl
theorem range_1 : List.range 1 = [0] := rfl
theorem range_2 : List.range 2 = [0, 1] := rfl
theorem range_3 : List.range 3 = [0, 1, 2] := rfl
theorem range_4 : List.range 4 = [0, 1, 2, 3] := rfl
theorem range_5 : List.range 5 = [0, 1, 2, 3, 4] := rfl
theorem range_6 : List.range 6 = [0, 1, 2, 3, 4, 5] := rfl
theorem brefs_row {f sz xs} : Blk.refs (.row f sz xs) = [] := rfl
theorem brefs_dead : Blk.refs .dead = [] := rfl
theorem brefs_map {cs : List PV} : Blk.refs (.box (cs.map .p)) = [] := refsAt_map (cs := cs)
theorem brefs_box {cs : List AV} : Blk.refs (.box cs) = cs.flatMap AV.refs := rfl
theorem refsAt_dead : refsAt (some .dead) = [] := rfl
theorem ren_dead {p} : Blk.ren p .dead = some .dead := rfl
theorem flatMap_nil {α β : Type} {f : α → List β} : [].flatMap f = [] := rfl
attribute [go_sem low] brefs_box
attribute [go_sem] L_calls cmA_some cmB_eq cmC_some cmD_some jbB_some resX_some putBack_nil putBack_cons backTo_eq btK_t btK_f trees_eq tzA_eq tzB_some kill_nil kill_cons killK_some killB_row killB_box killB_dead
  L_fbox fbox_K fbK_some L_callz czA_some czB_some czC_some L_bslicef bslf_some bsfK_some tidy_eq tdA_eq tdB_some EndsM_nrm EndsM_ret endM_some isEmpty_nil isEmpty_cons range_0 range_1 range_2 range_3 range_4 range_5 range_6 brefs_row brefs_dead brefs_map refsAt_dead ren_dead
  List.take_succ_cons List.take_zero List.drop_succ_cons List.drop_zero
end Ab
/- Known values in order of size. -/
namespace Ab
open Go (IntKind BinOp UnOp)
def toV (o : List Int) : List Val := o.map fun n => (true, n)
def nums (l : List Val) : List Int := (knL l).map (·.2)
def sortV (l : List Val) : List Val := toV (sortI (nums l))
theorem toV_len {o} : (toV o).length = o.length := by simp [toV]
theorem nums_len {l : List Val} : (nums l).length = (knL l).length := by simp [nums]
theorem insI_len (n : Int) : ∀ o : List Int, (insI n o).length = o.length + 1
  | [] => rfl
  | m :: r => by
    unfold insI
    split
    · rw [List.length_cons, insI_len n r, List.length_cons]
    · rfl
theorem sortI_snoc (l : List Int) (n : Int) : sortI (l ++ [n]) = insI n (sortI l) := by unfold sortI; rw [List.foldl_append]; rfl
theorem sortI_len' : ∀ l : List Int, (sortI l).length = l.length := by
  have : ∀ (l o : List Int), (l.foldl (fun o n => insI n o) o).length = o.length + l.length := by
    intro l
    induction l with
    | nil => intro o; rfl
    | cons n l ih => intro o; rw [List.foldl_cons, ih, insI_len, List.length_cons]; omega
  intro l
  have := this l []
  simpa [sortI] using this
theorem sortV_len {l : List Val} : (sortV l).length = (knL l).length := by rw [sortV, toV_len, sortI_len', nums_len]
/-- Where a number goes. -/
def posI (n : Int) : List Int → Nat
  | [] => 0
  | m :: r => if m ≤ n then posI n r + 1 else 0
theorem posI_le (n : Int) : ∀ o : List Int, posI n o ≤ o.length
  | [] => Nat.le_refl _
  | m :: r => by
    unfold posI
    split
    · have := posI_le n r; rw [List.length_cons]; omega
    · exact Nat.zero_le _
theorem posI_low (n : Int) : ∀ (o : List Int) (j : Nat), j < posI n o → o.getD j 0 ≤ n
  | [], j, h => by simp [posI] at h
  | m :: r, j, h => by
    unfold posI at h
    split at h
    · rename_i hm
      cases j with
      | zero => exact hm
      | succ j => simpa using posI_low n r j (by omega)
    · omega
theorem posI_high (n : Int) : ∀ o : List Int, posI n o < o.length → n < o.getD (posI n o) 0
  | [], h => by simp [posI] at h
  | m :: r, h => by
    unfold posI at h ⊢
    split
    · rename_i hm
      rw [if_pos hm, List.length_cons] at h
      simpa using posI_high n r (by omega)
    · rename_i hm; simpa using hm
theorem insI_split (n : Int) : ∀ o : List Int, insI n o = o.take (posI n o) ++ n :: o.drop (posI n o)
  | [] => rfl
  | m :: r => by
    unfold insI posI
    split
    · rw [insI_split n r]; rfl
    · rfl
theorem intsIn_vpv : ∀ {k : List Val}, (∀ v ∈ k, knV v = true) → intsIn (vpv k) = some (k.map (·.2))
  | [], _ => rfl
  | (b, n) :: k, h => by
    obtain ⟨rfl, _⟩ := knV_pair (h (b, n) (by simp))
    have ih := intsIn_vpv (k := k) fun v hv => h v (by simp [hv])
    have e : vpv ((true, n) :: k) = .agg [.bool true, .int .i64 n] :: vpv k := rfl
    rw [e, intsIn, ih]; rfl
theorem toV_vpv (o : List Int) : (o.map fun n => PV.agg [.bool true, .int .i64 n]) = vpv (toV o) := by
  simp [vpv, aggs, toV, valP, List.map_map, Function.comp_def]
theorem vpv_flat (l : List Val) : (vpv l).all flat = true := by
  rw [List.all_eq_true]
  intro x hx
  simp only [vpv, aggs, List.mem_map] at hx
  obtain ⟨_, ⟨v, _, rfl⟩, rfl⟩ := hx
  rfl
theorem resM_aggKnown {kk : SK} (l : List Val) (hl : l.length < 1000000000) : resM Γ 0 140 [.p (.sl kk 2 (vpv l))] [] = some ([.own 0 (knL l).length], [.row false 2 (vpv (knL l))]) := by
  have hw : (vpv (knL l)).length = (knL l).length := vpv_len
  refine resM_code (fn := agg_Known) rfl rfl ?_
  simp (disch := first | assumption | omega | decide | (simp only [List.length_cons, List.length_nil, List.length_append, List.length_replicate, List.length_map, List.length_set, List.length_take, List.length_drop, strs_len, ints_len, bools_len, aggs_len, vpv_len]; done) | (simp only [List.length_cons, List.length_nil, List.length_append, List.length_replicate, List.length_map, List.length_set, List.length_take, List.length_drop, strs_len, ints_len, bools_len, aggs_len, vpv_len]; omega)) only [go_sem, agg_Known]
  refine agg_Known_l1_ok l hl _ l.length 0 [] (by omega) (fun T => ?_)
  simp (disch := first | assumption | omega | decide | (simp only [List.length_cons, List.length_nil, List.length_append, List.length_replicate, List.length_map, List.length_set, List.length_take, List.length_drop, strs_len, ints_len, bools_len, aggs_len, vpv_len]; done) | (simp only [List.length_cons, List.length_nil, List.length_append, List.length_replicate, List.length_map, List.length_set, List.length_take, List.length_drop, strs_len, ints_len, bools_len, aggs_len, vpv_len]; omega)) only [go_sem]
theorem resM_sort (l : List Val) : resM Γ 1 182 [.own 0 (knL l).length, .p (.clo 183 [])] [.row false 2 (vpv (knL l))] = some ([], [.row false 2 (vpv (sortV l))]) := by
  have h := resM_upd (Γ := Γ) (f := 182) (g := sortG 183) (ps := [.clo 183 []]) (sz := 2) (xs := vpv (knL l)) (ys := vpv (sortV l)) rfl (by
    show (if 183 = 183 then (intsIn (vpv (knL l))).map _ else none) = _
    rw [if_pos rfl, intsIn_vpv fun v hv => knL_mem hv, Option.map_some, toV_vpv]; rfl) (by rw [vpv_len, vpv_len, sortV_len])
  rw [vpv_len] at h
  exact h
theorem st182 : stillF Γ 182 = true := rfl
theorem res_fwinSorted {kk : SK} (l : List Val) (hl : l.length < 1000000000) : res Γ 177 [.sl kk 2 (vpv l)] = some [.sl .any 2 (vpv (sortV l))] := by
  have e1 := resM_aggKnown (kk := kk) l hl
  have e2 := resM_sort l
  have hw : (vpv (sortV l)).length = (knL l).length := by rw [vpv_len, sortV_len]
  refine res_code (fn := fwin_sorted) rfl rfl ?_
  simp (disch := first | assumption | omega | decide | (simp only [List.length_cons, List.length_nil, List.length_append, List.length_replicate, List.length_map, List.length_set, List.length_take, List.length_drop, strs_len, ints_len, bools_len, aggs_len, vpv_len]; done) | (simp only [List.length_cons, List.length_nil, List.length_append, List.length_replicate, List.length_map, List.length_set, List.length_take, List.length_drop, strs_len, ints_len, bools_len, aggs_len, vpv_len]; omega)) only [go_sem, fwin_sorted, e1, e2, st182]
theorem toV_getD {o : List Int} {j : Nat} (h : j < o.length) : (toV o).getD j (false, 0) = (true, o.getD j 0) := by
  simp only [toV, List.getD_eq_getElem?_getD, List.getElem?_map, List.getElem?_eq_getElem h, Option.map_some, Option.getD_some]
theorem toV_one {o : List Int} {n : Int} : toV (o ++ [n]) = toV o ++ [(true, n)] := by simp [toV]
theorem toV_app {o p : List Int} : toV (o ++ p) = toV o ++ toV p := by simp [toV]
@[go_sem] theorem ifB_dec {α : Type} {c : Prop} [Decidable c] {x : Option α} (h : c) : ifB (decide c) x = x := by rw [decide_eq_true h]; rfl
@[go_sem] theorem loadK_vals {f sz s ag} {l : List Val} {n i off : Nat} (h : l.length = n) (h' : i < n) : loadK (some (.row f sz (vpv l))) s ag n i off = takeP s ag ((valP (l.getD i (false, 0))).drop off) := by
  simp only [loadK, vpv_len, h, if_true, vpv_get (show i < l.length by omega), Option.bind_some, PV.cells]
/-- A number goes behind those that are not greater. -/
theorem sorted_l1_ok {kk : SK} (ks : List Val) (o : List Int) (m : Nat) (hm : o.length = m) (n : Int) (T : Heap) (i : Nat) (hi : i < ks.length) (hn : (ks.getD i (false, 0)).2 = n) (_hl : ks.length < 1000000000) (ho : o.length < 1000000000) (Q : Out → Prop) : ∀ (d j : Nat), j + d = posI n o →
    Q (.nrm, [(3, .p (.sl kk 2 (vpv ks))), (4, .own 0 m), (5, .p (.int .i64 (i : Int))), (6, .p (.int .i64 (posI n o : Nat)))], .row false 2 (vpv (toV o)) :: T) →
    Wp Γ r21_sorted_l1 [(3, .p (.sl kk 2 (vpv ks))), (4, .own 0 m), (5, .p (.int .i64 (i : Int))), (6, .p (.int .i64 (j : Int)))] (.row false 2 (vpv (toV o)) :: T) (InBlk [3, 4, 5, 6] 2 Q) := by
  have hw : (vpv (toV o)).length = m := by rw [vpv_len, toV_len, hm]
  have hle := posI_le n o
  intro d
  induction d with
  | zero =>
    intro j hj hQ
    obtain rfl : j = posI n o := by omega
    have hh := posI_high n o
    generalize posI n o = j at *
    rw [W_loop (L := r21_sorted_l1) rfl]
    by_cases h : j < o.length
    · have hh := hh h
      have eg := toV_getD h
      have hlt : (toV o).length = m := by rw [toV_len, hm]
      simp (disch := first | assumption | omega | decide | (simp only [List.length_cons, List.length_nil, List.length_append, List.length_replicate, List.length_map, List.length_set, List.length_take, List.length_drop, strs_len, ints_len, bools_len, aggs_len, vpv_len]; done) | (simp only [List.length_cons, List.length_nil, List.length_append, List.length_replicate, List.length_map, List.length_set, List.length_take, List.length_drop, strs_len, ints_len, bools_len, aggs_len, vpv_len]; omega)) only [go_sem, valP, eg, hn]
      exact hQ
    · simp (disch := first | assumption | omega | decide | (simp only [List.length_cons, List.length_nil, List.length_append, List.length_replicate, List.length_map, List.length_set, List.length_take, List.length_drop, strs_len, ints_len, bools_len, aggs_len, vpv_len]; done) | (simp only [List.length_cons, List.length_nil, List.length_append, List.length_replicate, List.length_map, List.length_set, List.length_take, List.length_drop, strs_len, ints_len, bools_len, aggs_len, vpv_len]; omega)) only [go_sem]
      exact hQ
  | succ d ih =>
    intro j hj hQ
    have h : j < o.length := by omega
    have hlow := posI_low n o j (by omega)
    have eg := toV_getD h
    have hlt : (toV o).length = m := by rw [toV_len, hm]
    rw [W_loop (L := r21_sorted_l1) rfl]
    simp (disch := first | assumption | omega | decide | (simp only [List.length_cons, List.length_nil, List.length_append, List.length_replicate, List.length_map, List.length_set, List.length_take, List.length_drop, strs_len, ints_len, bools_len, aggs_len, vpv_len]; done) | (simp only [List.length_cons, List.length_nil, List.length_append, List.length_replicate, List.length_map, List.length_set, List.length_take, List.length_drop, strs_len, ints_len, bools_len, aggs_len, vpv_len]; omega)) only [go_sem, valP, eg, hn]
    exact ih (j + 1) (by omega) hQ
theorem nums_take {l : List Val} {i : Nat} (h : i < (knL l).length) : ((knL l).take (i + 1)).map (·.2) = ((knL l).take i).map (·.2) ++ [((knL l).getD i (false, 0)).2] := by
  rw [take_snoc' (false, 0) h, List.map_append]; rfl
theorem knL_getD {l : List Val} {i : Nat} (h : i < (knL l).length) : ∃ n, (knL l).getD i (false, 0) = (true, n) := by
  rw [List.getD_eq_getElem?_getD, List.getElem?_eq_getElem h]
  have := knV_iff.1 (knL_mem (List.getElem_mem h))
  exact ⟨((knL l)[i]).2, by rw [Option.getD_some, ← this.1]⟩
theorem sorted_l2_ok {kk : SK} (l : List Val) (hl : (knL l).length < 1000000000) (Q : Out → Prop) : ∀ (d i : Nat) (env : Env) (X : Heap), i + 1 + d = (knL l).length →
    norm [3, 4, 5] true env X = some ([(3, .p (.sl kk 2 (vpv (knL l)))), (4, .own 0 (i + 1)), (5, .p (.int .i64 ((i + 1 : Nat) : Int)))], [.row false 2 (vpv (toV (sortI (((knL l).take (i + 1)).map (·.2)))))]) →
    (∀ T, Q (.nrm, [(4, .own 0 (knL l).length)], .row false 2 (vpv (sortV l)) :: T)) →
    Wp Γ r21_sorted_l2 env X (InBlk [4] 0 Q) := by
  intro d
  induction d with
  | zero =>
    intro i env X hi hX hQ
    have hi : i + 1 = (knL l).length := by omega
    rw [hi, List.take_length] at hX
    rw [W_loop (L := r21_sorted_l2) rfl]
    rw [hX]
    simp (disch := first | assumption | omega | decide | (simp only [List.length_cons, List.length_nil, List.length_append, List.length_replicate, List.length_map, List.length_set, List.length_take, List.length_drop, strs_len, ints_len, bools_len, aggs_len, vpv_len]; done) | (simp only [List.length_cons, List.length_nil, List.length_append, List.length_replicate, List.length_map, List.length_set, List.length_take, List.length_drop, strs_len, ints_len, bools_len, aggs_len, vpv_len]; omega)) only [go_sem]
    exact hQ []
  | succ d ih =>
    intro i env X hi hX hQ
    obtain ⟨n, hn⟩ := knL_getD (l := l) (i := i + 1) (by omega)
    have en := nums_take (l := l) (i := i + 1) (by omega)
    rw [hn] at en
    have hol : (sortI (((knL l).take (i + 1)).map (·.2))).length = i + 1 := by rw [sortI_len', List.length_map, List.length_take]; omega
    have es : sortI (((knL l).take (i + 1 + 1)).map (·.2)) = insI n (sortI (((knL l).take (i + 1)).map (·.2))) := by rw [en, sortI_snoc]
    rw [insI_split] at es
    generalize sortI (((knL l).take (i + 1)).map (·.2)) = o at *
    have hle := posI_le n o
    rw [W_loop (L := r21_sorted_l2) rfl]
    rw [hX]
    simp (disch := first | assumption | omega | decide | (simp only [List.length_cons, List.length_nil, List.length_append, List.length_replicate, List.length_map, List.length_set, List.length_take, List.length_drop, strs_len, ints_len, bools_len, aggs_len, vpv_len]; done) | (simp only [List.length_cons, List.length_nil, List.length_append, List.length_replicate, List.length_map, List.length_set, List.length_take, List.length_drop, strs_len, ints_len, bools_len, aggs_len, vpv_len]; omega)) only [go_sem]
    refine sorted_l1_ok (knL l) o (i + 1) hol n _ (i + 1) (by omega) (by rw [hn]) (by omega) (by omega) _ (posI n o) 0 (by omega) ?_
    have w1 : (vpv (toV o)).length = i + 1 := by rw [vpv_len, toV_len, hol]
    have w2 : (vpv ((toV o).take (posI n o))).length = posI n o := by rw [vpv_len, List.length_take, toV_len]; omega
    have w3 : (vpv ((toV o).drop (posI n o))).length = o.length - posI n o := by rw [vpv_len, List.length_drop, toV_len]
    have ht : (toV o).length = i + 1 := by rw [toV_len, hol]
    have w4 : (vpv (toV (o.take (posI n o) ++ n :: o.drop (posI n o)))).length = i + 1 + 1 := by rw [vpv_len, toV_len, List.length_append, List.length_cons, List.length_take, List.length_drop]; omega
    have e1 : vpv ((toV o).take (posI n o) ++ (true, n) :: (toV o).drop (posI n o)) = vpv (toV (o.take (posI n o) ++ n :: o.drop (posI n o))) := by simp [toV]
    simp (disch := first | assumption | omega | decide | (simp only [List.length_cons, List.length_nil, List.length_append, List.length_replicate, List.length_map, List.length_set, List.length_take, List.length_drop, strs_len, ints_len, bools_len, aggs_len, vpv_len]; done) | (simp only [List.length_cons, List.length_nil, List.length_append, List.length_replicate, List.length_map, List.length_set, List.length_take, List.length_drop, strs_len, ints_len, bools_len, aggs_len, vpv_len]; omega)) only [go_sem, hn, valP]
    refine ih (i + 1) _ _ (by omega) ?_ hQ
    simp (disch := first | assumption | omega | decide | (simp only [List.length_cons, List.length_nil, List.length_append, List.length_replicate, List.length_map, List.length_set, List.length_take, List.length_drop, strs_len, ints_len, bools_len, aggs_len, vpv_len]; done) | (simp only [List.length_cons, List.length_nil, List.length_append, List.length_replicate, List.length_map, List.length_set, List.length_take, List.length_drop, strs_len, ints_len, bools_len, aggs_len, vpv_len]; omega)) only [go_sem]
    have e2 : ((toV o).take (posI n o)).length + 1 + ((toV o).drop (posI n o)).length = i + 1 + 1 := by rw [List.length_take, List.length_drop]; omega
    rw [es, e1, e2]
    rfl
theorem sorted_l2_first {kk : SK} (l : List Val) (hl : (knL l).length < 1000000000) (hne : knL l ≠ []) (Q : Out → Prop) :
    (∀ T, Q (.nrm, [(4, .own 0 (knL l).length)], .row false 2 (vpv (sortV l)) :: T)) →
    Wp Γ r21_sorted_l2 [(3, .p (.sl kk 2 (vpv (knL l)))), (4, .p (.sl .nil 2 [])), (5, .p (.int .i64 0))] [] (InBlk [4] 0 Q) := by
  intro hQ
  have hpos : 0 < (knL l).length := List.length_pos_iff.2 hne
  obtain ⟨n, hn⟩ := knL_getD (l := l) (i := 0) (by omega)
  rw [W_loop (L := r21_sorted_l2) rfl]
  simp (disch := first | assumption | omega | decide | (simp only [List.length_cons, List.length_nil, List.length_append, List.length_replicate, List.length_map, List.length_set, List.length_take, List.length_drop, strs_len, ints_len, bools_len, aggs_len, vpv_len]; done) | (simp only [List.length_cons, List.length_nil, List.length_append, List.length_replicate, List.length_map, List.length_set, List.length_take, List.length_drop, strs_len, ints_len, bools_len, aggs_len, vpv_len]; omega)) only [go_sem]
  rw [W_loop (L := r21_sorted_l1) rfl]
  simp (disch := first | assumption | omega | decide | (simp only [List.length_cons, List.length_nil, List.length_append, List.length_replicate, List.length_map, List.length_set, List.length_take, List.length_drop, strs_len, ints_len, bools_len, aggs_len, vpv_len]; done) | (simp only [List.length_cons, List.length_nil, List.length_append, List.length_replicate, List.length_map, List.length_set, List.length_take, List.length_drop, strs_len, ints_len, bools_len, aggs_len, vpv_len]; omega)) only [go_sem, hn, valP]
  refine sorted_l2_ok (kk := kk) l hl Q ((knL l).length - 1) 0 _ _ (by omega) ?_ hQ
  have en := nums_take (l := l) (i := 0) (by omega)
  rw [hn] at en
  have es : vpv (toV (sortI (((knL l).take (0 + 1)).map (·.2)))) = [.agg [.bool true, .int .i64 n]] := by rw [en]; rfl
  rw [es]
  simp (disch := first | assumption | omega | decide | (simp only [List.length_cons, List.length_nil, List.length_append, List.length_replicate, List.length_map, List.length_set, List.length_take, List.length_drop, strs_len, ints_len, bools_len, aggs_len, vpv_len]; done) | (simp only [List.length_cons, List.length_nil, List.length_append, List.length_replicate, List.length_map, List.length_set, List.length_take, List.length_drop, strs_len, ints_len, bools_len, aggs_len, vpv_len]; omega)) only [go_sem]
  rfl
def sortK (l : List Val) : SK := if knL l = [] then .nil else .any
theorem res_r21Sorted {kk : SK} (l : List Val) (hl : l.length < 1000000000) : res Γ 181 [.sl kk 2 (vpv l)] = some [.sl (sortK l) 2 (vpv (sortV l))] := by
  have hk := knL_len l
  refine res_code (fn := r21_sorted) rfl rfl ?_
  simp (disch := first | assumption | omega | decide | (simp only [List.length_cons, List.length_nil, List.length_append, List.length_replicate, List.length_map, List.length_set, List.length_take, List.length_drop, strs_len, ints_len, bools_len, aggs_len, vpv_len]; done) | (simp only [List.length_cons, List.length_nil, List.length_append, List.length_replicate, List.length_map, List.length_set, List.length_take, List.length_drop, strs_len, ints_len, bools_len, aggs_len, vpv_len]; omega)) only [go_sem, r21_sorted]
  by_cases hne : knL l = []
  · rw [W_loop (L := r21_sorted_l2) rfl]
    have hz : (knL l).length = 0 := by rw [hne]; rfl
    have hs : sortV l = [] := by unfold sortV nums; rw [hne]; rfl
    simp (disch := first | assumption | omega | decide | (simp only [List.length_cons, List.length_nil, List.length_append, List.length_replicate, List.length_map, List.length_set, List.length_take, List.length_drop, strs_len, ints_len, bools_len, aggs_len, vpv_len]; done) | (simp only [List.length_cons, List.length_nil, List.length_append, List.length_replicate, List.length_map, List.length_set, List.length_take, List.length_drop, strs_len, ints_len, bools_len, aggs_len, vpv_len]; omega)) only [go_sem, sortK]
    rw [if_pos hne, hs]
    rfl
  · refine sorted_l2_first l (by omega) hne _ (fun T => ?_)
    have hw : (vpv (sortV l)).length = (knL l).length := by rw [vpv_len, sortV_len]
    simp (disch := first | assumption | omega | decide | (simp only [List.length_cons, List.length_nil, List.length_append, List.length_replicate, List.length_map, List.length_set, List.length_take, List.length_drop, strs_len, ints_len, bools_len, aggs_len, vpv_len]; done) | (simp only [List.length_cons, List.length_nil, List.length_append, List.length_replicate, List.length_map, List.length_set, List.length_take, List.length_drop, strs_len, ints_len, bools_len, aggs_len, vpv_len]; omega)) only [go_sem, sortK]
    rw [if_neg hne]
end Ab
/- The one in the middle; the one at so many of a hundred. -/
namespace Ab
open Go (IntKind BinOp UnOp)
def medV (l : List Val) : Val :=
  let o := sortI (nums l)
  if o.length = 0 then noV else if o.length % 2 = 1 then (true, o.getD (o.length / 2) 0)
  else divV (addV [(true, o.getD (o.length / 2 - 1) 0), (true, o.getD (o.length / 2) 0)]) (intV 2)
theorem sortO_len {l : List Val} : (sortI (nums l)).length = (knL l).length := by rw [sortI_len', nums_len]
theorem two_vpv (a b : Int) : ([.agg [.bool true, .int .i64 a], .agg [.bool true, .int .i64 b]] : List PV) = vpv [(true, a), (true, b)] := rfl
theorem nat_rem (n : Nat) : (n : Int) % 2 = 1 ↔ n % 2 = 1 := by omega
theorem toNat_half (n : Nat) : ((n : Int) / 2).toNat = n / 2 := by omega
theorem toNat_half1 (n : Nat) : ((n : Int) / 2 - 1).toNat = n / 2 - 1 := by omega
theorem res_fwinMedian {kk : SK} (l : List Val) (hl : l.length < 1000000000) : res Γ 115 [.sl kk 2 (vpv l)] = some [.agg [.bool (medV l).1, .int .i64 (medV l).2]] := by
  have hk := knL_len l
  have hs := @sortO_len l
  have e := res_fwinSorted (kk := kk) l hl
  have hw : (sortV l).length = (sortI (nums l)).length := toV_len
  have eg : ∀ j, j < (sortI (nums l)).length → (sortV l).getD j (false, 0) = (true, (sortI (nums l)).getD j 0) := fun j h => toV_getD h
  have q : (medV l) = if (sortI (nums l)).length = 0 then noV else if (sortI (nums l)).length % 2 = 1 then (true, (sortI (nums l)).getD ((sortI (nums l)).length / 2) 0)
    else divV (addV [(true, (sortI (nums l)).getD ((sortI (nums l)).length / 2 - 1) 0), (true, (sortI (nums l)).getD ((sortI (nums l)).length / 2) 0)]) (intV 2) := rfl
  rw [q]
  generalize sortI (nums l) = o at *
  refine res_code (fn := fwin_Median) rfl rfl ?_
  by_cases h0 : o.length = 0
  · rw [if_pos h0]
    simp (disch := first | assumption | omega | decide | (simp only [List.length_cons, List.length_nil, List.length_append, List.length_replicate, List.length_map, List.length_set, List.length_take, List.length_drop, strs_len, ints_len, bools_len, aggs_len, vpv_len]; done) | (simp only [List.length_cons, List.length_nil, List.length_append, List.length_replicate, List.length_map, List.length_set, List.length_take, List.length_drop, strs_len, ints_len, bools_len, aggs_len, vpv_len]; omega)) only [go_sem, fwin_Median, e, hw, noV]
  · rw [if_neg h0]
    have g0 : ((o.length : Int) / 2).toNat < o.length := by omega
    have g1 : ((o.length : Int) / 2 - 1).toNat < o.length := by omega
    have e0 := eg _ g0
    have e1 := eg _ g1
    have w0 := wrap_i64 (x := (o.length : Int) / 2) (by omega) (by omega)
    have m0 := map_quo (k := .i64) (a := (o.length : Int)) (b := 2) (by omega) (by omega) w0
    rw [toNat_half] at e0 g0
    rw [toNat_half1] at e1 g1
    by_cases h1 : o.length % 2 = 1
    · rw [if_pos h1]
      have h1' : (o.length : Int) % 2 = 1 := by omega
      simp (disch := first | assumption | omega | decide | (simp only [List.length_cons, List.length_nil, List.length_append, List.length_replicate, List.length_map, List.length_set, List.length_take, List.length_drop, strs_len, ints_len, bools_len, aggs_len, vpv_len]; done) | (simp only [List.length_cons, List.length_nil, List.length_append, List.length_replicate, List.length_map, List.length_set, List.length_take, List.length_drop, strs_len, ints_len, bools_len, aggs_len, vpv_len]; omega)) only [go_sem, fwin_Median, e, hw, m0, toNat_half, e0, valP]
    · rw [if_neg h1]
      have h1' : ¬ (o.length : Int) % 2 = 1 := by omega
      have a := res_fixedAdd (kk := .tight) [(true, o.getD (o.length / 2 - 1) 0), (true, o.getD (o.length / 2) 0)] (by simp)
      rw [← two_vpv] at a
      have b := res_fixedInt (n := 2) (by omega)
      have c := res_fixedDivV (addV [(true, o.getD (o.length / 2 - 1) 0), (true, o.getD (o.length / 2) 0)]) (intV 2)
      simp (disch := first | assumption | omega | decide | (simp only [List.length_cons, List.length_nil, List.length_append, List.length_replicate, List.length_map, List.length_set, List.length_take, List.length_drop, strs_len, ints_len, bools_len, aggs_len, vpv_len]; done) | (simp only [List.length_cons, List.length_nil, List.length_append, List.length_replicate, List.length_map, List.length_set, List.length_take, List.length_drop, strs_len, ints_len, bools_len, aggs_len, vpv_len]; omega)) only [go_sem, fwin_Median, e, hw, m0, toNat_half, toNat_half1, e0, e1, valP, a, b, c]
theorem res_r21Median {kk : SK} (l : List Val) (hl : l.length < 1000000000) : res Γ 123 [.sl kk 2 (vpv l)] = some [.agg [.bool (medV l).1, .int .i64 (medV l).2]] := by
  have hk := knL_len l
  have hs := @sortO_len l
  have e := res_r21Sorted (kk := kk) l hl
  have hw : (sortV l).length = (sortI (nums l)).length := toV_len
  have eg : ∀ j, j < (sortI (nums l)).length → (sortV l).getD j (false, 0) = (true, (sortI (nums l)).getD j 0) := fun j h => toV_getD h
  have q : (medV l) = if (sortI (nums l)).length = 0 then noV else if (sortI (nums l)).length % 2 = 1 then (true, (sortI (nums l)).getD ((sortI (nums l)).length / 2) 0)
    else divV (addV [(true, (sortI (nums l)).getD ((sortI (nums l)).length / 2 - 1) 0), (true, (sortI (nums l)).getD ((sortI (nums l)).length / 2) 0)]) (intV 2) := rfl
  rw [q]
  generalize sortI (nums l) = o at *
  refine res_code (fn := r21_Median) rfl rfl ?_
  by_cases h0 : o.length = 0
  · rw [if_pos h0]
    simp (disch := first | assumption | omega | decide | (simp only [List.length_cons, List.length_nil, List.length_append, List.length_replicate, List.length_map, List.length_set, List.length_take, List.length_drop, strs_len, ints_len, bools_len, aggs_len, vpv_len]; done) | (simp only [List.length_cons, List.length_nil, List.length_append, List.length_replicate, List.length_map, List.length_set, List.length_take, List.length_drop, strs_len, ints_len, bools_len, aggs_len, vpv_len]; omega)) only [go_sem, r21_Median, e, hw, noV]
  · rw [if_neg h0]
    have g0 : ((o.length : Int) / 2).toNat < o.length := by omega
    have g1 : ((o.length : Int) / 2 - 1).toNat < o.length := by omega
    have e0 := eg _ g0
    have e1 := eg _ g1
    have w0 := wrap_i64 (x := (o.length : Int) / 2) (by omega) (by omega)
    have m0 := map_quo (k := .i64) (a := (o.length : Int)) (b := 2) (by omega) (by omega) w0
    rw [toNat_half] at e0 g0
    rw [toNat_half1] at e1 g1
    by_cases h1 : o.length % 2 = 1
    · rw [if_pos h1]
      have h1' : (o.length : Int) % 2 = 1 := by omega
      simp (disch := first | assumption | omega | decide | (simp only [List.length_cons, List.length_nil, List.length_append, List.length_replicate, List.length_map, List.length_set, List.length_take, List.length_drop, strs_len, ints_len, bools_len, aggs_len, vpv_len]; done) | (simp only [List.length_cons, List.length_nil, List.length_append, List.length_replicate, List.length_map, List.length_set, List.length_take, List.length_drop, strs_len, ints_len, bools_len, aggs_len, vpv_len]; omega)) only [go_sem, r21_Median, e, hw, m0, toNat_half, e0, valP]
    · rw [if_neg h1]
      have h1' : ¬ (o.length : Int) % 2 = 1 := by omega
      have a := res_r1Add (kk := .tight) [(true, o.getD (o.length / 2 - 1) 0), (true, o.getD (o.length / 2) 0)] (by simp)
      rw [← two_vpv] at a
      have b := res_r1Int (n := 2) (by omega)
      have c := res_r1DivV (addV [(true, o.getD (o.length / 2 - 1) 0), (true, o.getD (o.length / 2) 0)]) (intV 2)
      simp (disch := first | assumption | omega | decide | (simp only [List.length_cons, List.length_nil, List.length_append, List.length_replicate, List.length_map, List.length_set, List.length_take, List.length_drop, strs_len, ints_len, bools_len, aggs_len, vpv_len]; done) | (simp only [List.length_cons, List.length_nil, List.length_append, List.length_replicate, List.length_map, List.length_set, List.length_take, List.length_drop, strs_len, ints_len, bools_len, aggs_len, vpv_len]; omega)) only [go_sem, r21_Median, e, hw, m0, toNat_half, toNat_half1, e0, e1, valP, a, b, c]
end Ab
/- Laws on windows that go along: all six. -/
namespace Ab
open Go (IntKind BinOp UnOp)
theorem res_doesMed : res Γ 112 [.str [109, 111, 118, 105, 110, 103, 77, 101, 100, 105, 97, 110]] = some [.clo 115 []] := by
  refine res_code (fn := fwin_does) rfl rfl ?_
  simp (disch := first | assumption | omega | decide | (simp only [List.length_cons, List.length_nil, List.length_append, List.length_replicate, List.length_map, List.length_set, List.length_take, List.length_drop, strs_len, ints_len, bools_len, aggs_len, vpv_len]; done) | (simp only [List.length_cons, List.length_nil, List.length_append, List.length_replicate, List.length_map, List.length_set, List.length_take, List.length_drop, strs_len, ints_len, bools_len, aggs_len, vpv_len]; omega)) only [go_sem, fwin_does]
theorem res_doesStd : res Γ 112 [.str [115, 116, 100, 101, 118]] = some [.clo 116 []] := by
  refine res_code (fn := fwin_does) rfl rfl ?_
  simp (disch := first | assumption | omega | decide | (simp only [List.length_cons, List.length_nil, List.length_append, List.length_replicate, List.length_map, List.length_set, List.length_take, List.length_drop, strs_len, ints_len, bools_len, aggs_len, vpv_len]; done) | (simp only [List.length_cons, List.length_nil, List.length_append, List.length_replicate, List.length_map, List.length_set, List.length_take, List.length_drop, strs_len, ints_len, bools_len, aggs_len, vpv_len]; omega)) only [go_sem, fwin_does]
theorem res_windowMed {kk : SK} (l : List Val) (hl : l.length < 1000000000) : res Γ 106 [.str [109, 111, 118, 105, 110, 103, 77, 101, 100, 105, 97, 110], .sl kk 2 (vpv l)] = some [.agg [.bool (medV l).1, .int .i64 (medV l).2], .bool true] := by
  have e := res_r21Median (kk := kk) l hl
  refine res_code (fn := r21_window) rfl rfl ?_
  simp (disch := first | assumption | omega | decide | (simp only [List.length_cons, List.length_nil, List.length_append, List.length_replicate, List.length_map, List.length_set, List.length_take, List.length_drop, strs_len, ints_len, bools_len, aggs_len, vpv_len]; done) | (simp only [List.length_cons, List.length_nil, List.length_append, List.length_replicate, List.length_map, List.length_set, List.length_take, List.length_drop, strs_len, ints_len, bools_len, aggs_len, vpv_len]; omega)) only [go_sem, r21_window, e]
theorem res_windowStd {kk : SK} (l : List Val) (hl : l.length < 1000000000) : res Γ 106 [.str [115, 116, 100, 101, 118], .sl kk 2 (vpv l)] = some [.agg [.bool (devV l).1, .int .i64 (devV l).2], .bool true] := by
  have e := res_r21Deviation (kk := kk) l hl
  refine res_code (fn := r21_window) rfl rfl ?_
  simp (disch := first | assumption | omega | decide | (simp only [List.length_cons, List.length_nil, List.length_append, List.length_replicate, List.length_map, List.length_set, List.length_take, List.length_drop, strs_len, ints_len, bools_len, aggs_len, vpv_len]; done) | (simp only [List.length_cons, List.length_nil, List.length_append, List.length_replicate, List.length_map, List.length_set, List.length_take, List.length_drop, strs_len, ints_len, bools_len, aggs_len, vpv_len]; omega)) only [go_sem, r21_window, e]
theorem res_movedFn {k : SK} {nm : List UInt8} {g : List Val → Val} {F : Nat} {caps : List PV} (s : Ser) (n : Int) (hv : s.vals.length ≤ 9223372036854775807) (hn : nm.length ≤ 100) (hk : res Γ 100 [] = some [.bool true]) (hd : res Γ 112 [.str nm] = some [.clo F caps])
    (hP : ∀ (k : SK) (x : List Val), x.length < 1000000000 → res Γ F (.sl k 2 (vpv x) :: caps) = some [.agg [.bool (g x).1, .int .i64 (g x).2]])
    (hR : ∀ (k : SK) (x : List Val), x.length < 1000000000 → res Γ 106 [.str nm, .sl k 2 (vpv x)] = some [.agg [.bool (g x).1, .int .i64 (g x).2], .bool true]) :
    res Γ 98 [.str nm, s.pv k, .int .i64 n] = some [.bool true] := by
  by_cases h : isS s = true ∧ 1 ≤ n ∧ n ≤ 131072
  · exact res_moved (x := moveS nm g s n) (kx := moveK s) (ky := moveK s) (ok := true) s n hv hk (fun _ => res_fwinMove s n hv hn hd (fun x hx => hP _ x hx) h) (fun _ => res_r21Move s n hv hn hR h) (by simp [moveS, movV_len])
  · exact res_moved (x := noneS) (kx := .nil) (ky := .nil) (ok := false) s n hv hk (fun _ => res_fwinMove_no (g := g) s n hv hd h) (fun _ => res_r21Move_no s n hv hR h) (by simp [noneS])
theorem res_FwinMovingMedian {k : SK} (s : Ser) (n : Int) (hv : s.vals.length ≤ 9223372036854775807) (hk : res Γ 100 [] = some [.bool true]) : res Γ 208 [s.pv k, .int .i64 n] = some [.bool true] := by
  have e := res_movedFn (k := k) s n hv (by decide) hk res_doesMed (fun k x hx => res_fwinMedian x hx) (fun k x hx => res_windowMed x hx)
  unfold Ser.pv at e ⊢
  refine res_code (fn := l21_FwinMovingMedian) rfl rfl ?_
  simp (disch := first | assumption | omega | decide | (simp only [List.length_cons, List.length_nil, List.length_append, List.length_replicate, List.length_map, List.length_set, List.length_take, List.length_drop, strs_len, ints_len, bools_len, aggs_len, vpv_len]; done) | (simp only [List.length_cons, List.length_nil, List.length_append, List.length_replicate, List.length_map, List.length_set, List.length_take, List.length_drop, strs_len, ints_len, bools_len, aggs_len, vpv_len]; omega)) only [go_sem, l21_FwinMovingMedian, e]
theorem res_FwinStdev {k : SK} (s : Ser) (n : Int) (hv : s.vals.length ≤ 9223372036854775807) (hk : res Γ 100 [] = some [.bool true]) : res Γ 203 [s.pv k, .int .i64 n] = some [.bool true] := by
  have e := res_movedFn (k := k) s n hv (by decide) hk res_doesStd (fun k x hx => res_fwinDeviation x hx) (fun k x hx => res_windowStd x hx)
  unfold Ser.pv at e ⊢
  refine res_code (fn := l21_FwinStdev) rfl rfl ?_
  simp (disch := first | assumption | omega | decide | (simp only [List.length_cons, List.length_nil, List.length_append, List.length_replicate, List.length_map, List.length_set, List.length_take, List.length_drop, strs_len, ints_len, bools_len, aggs_len, vpv_len]; done) | (simp only [List.length_cons, List.length_nil, List.length_append, List.length_replicate, List.length_map, List.length_set, List.length_take, List.length_drop, strs_len, ints_len, bools_len, aggs_len, vpv_len]; omega)) only [go_sem, l21_FwinStdev, e]
end Ab
