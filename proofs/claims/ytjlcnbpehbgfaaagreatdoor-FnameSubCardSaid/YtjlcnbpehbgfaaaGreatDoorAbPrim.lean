import Derived.Test.YtjlcnbpehbgfaaaGreatDoorAbBase
namespace Ab
open Go (IntKind BinOp UnOp)
theorem RunP_det {Γ : Ctx} {f : Nat} {ps rs rs' : List PV} (h : RunP Γ f ps rs) (h' : RunP Γ f ps rs') : rs = rs' := by
 obtain ⟨n,r,h1,h2⟩ := h
 obtain ⟨m,r',h3,h4⟩ := h'
 have e1 := call_le (Nat.le_max_left n m) _ _ _ _ h1
 have e2 := call_le (Nat.le_max_right n m) _ _ _ _ h3
 rw [e1] at e2
 cases e2
 rw [h2] at h4
 cases h4
 rfl
open Classical in
noncomputable def res (Γ : Ctx) (f : Nat) (ps : List PV) : Option (List PV) := if h : ∃ rs,RunP Γ f ps rs then some h.choose else none
theorem res_of {Γ f ps rs} (h : RunP Γ f ps rs) : res Γ f ps = some rs := by
 have h' : ∃ rs,RunP Γ f ps rs := ⟨_,h⟩
 unfold res
 rw [dif_pos h']
 exact congrArg some (RunP_det h'.choose_spec h)
theorem of_res {Γ f ps rs} (h : res Γ f ps = some rs) : RunP Γ f ps rs := by
 unfold res at h
 split at h
 ·rename_i h'
  cases h
  exact h'.choose_spec
 ·cases h
def WpL (Γ : Ctx) (l : List St) (env : Env) (H : Heap) (live : List Nat) (Q : Out → Prop) : Prop := WpS Γ l env H fun e h => Q (.nrm,prune live e,h)
def NxtC (Γ : Ctx) (b : Code) (Q : Out → Prop) : Out → Prop
 | (.nrm,e,h) => Wp Γ b e h Q
 | o => Q o
def condC (Γ : Ctx) (v : AV) (a b : Code) (env : Env) (H : Heap) (Q : Out → Prop) : Prop := condP v (Wp Γ a env H Q) (Wp Γ b env H Q)
def opK (Γ : Ctx) (x : Option AV) (dst : Option Nat) (r : List St) (env : Env) (H : Heap) (live : List Nat) (Q : Out → Prop) : Prop := optP x fun v => WpL Γ r (put env dst v) H live Q
def opX (Γ : Ctx) (x : Option (AV × Heap)) (dst : Option Nat) (r : List St) (env : Env) (live : List Nat) (Q : Out → Prop) : Prop := optP x fun y => WpL Γ r (put env dst y.1) y.2 live Q
def gdK (Γ : Ctx) (v : AV) (b : Bool) (dst : Option Nat) (op : QOp ⊕ XOp) (r : List St) (env : Env) (H : Heap) (live : List Nat) (Q : Out → Prop) : Prop :=
 gd (match v with | .p (.bool c) => some (c == b) | .nov => some false | _ => none) (WpL Γ r (put env dst .nov) H live Q) (WpL Γ (⟨dst,none,op⟩ :: r) env H live Q)
def lpK (Γ : Ctx) (c L : Code) (x : Option (Env × Heap)) (Q : Out → Prop) : Prop := optP x fun eh => Wp Γ c eh.1 eh.2 (NxtC Γ L Q)
section
variable {Γ : Ctx} {env : Env} {H : Heap} {live : List Nat} {Q : Out → Prop} {r : List St} {dst : Option Nat}
theorem W_seq {a b} : Wp Γ (.seq a b) env H Q ↔ Wp Γ a env H (NxtC Γ b Q) := Wp_seq
theorem NxtC_nrm {b e h} : NxtC Γ b Q (.nrm,e,h) ↔ Wp Γ b e h Q := Iff.rfl
theorem NxtC_ex {b i e h} : NxtC Γ b Q (.ex i,e,h) ↔ Q (.ex i,e,h) := Iff.rfl
theorem NxtC_ret {b e h} : NxtC Γ b Q (.ret,e,h) ↔ Q (.ret,e,h) := Iff.rfl
theorem InBlk_same {id e h} : InBlk live id Q (.ex id,e,h) ↔ Q (.nrm,prune live e,h) := by rw [InBlk_ex,if_pos rfl]
theorem InBlk_other {id i e h} (hi : i ≠ id) : InBlk live id Q (.ex i,e,h) ↔ Q (.ex i,e,h) := by rw [InBlk_ex,if_neg hi]
theorem W_ops {l} : Wp Γ (.ops live l) env H Q ↔ WpL Γ l env H live Q := Wp_ops
theorem W_cond {x a b} : Wp Γ (.cond x a b) env H Q ↔ condC Γ (x.ev Γ (look env)) a b env H Q := Wp_cond
theorem condC_true {a b} : condC Γ (.p (.bool true)) a b env H Q ↔ Wp Γ a env H Q := Iff.rfl
theorem condC_false {a b} : condC Γ (.p (.bool false)) a b env H Q ↔ Wp Γ b env H Q := by simp [condC,condP]
theorem condC_split {c : Bool} {a b} (h1 : c = true → condC Γ (.p (.bool true)) a b env H Q) (h2 : c = false → condC Γ (.p (.bool false)) a b env H Q) : condC Γ (.p (.bool c)) a b env H Q := by cases c <;> simp_all
theorem L_nil : WpL Γ [] env H live Q ↔ Q (.nrm,prune live env,H) := WpS_nil
theorem L_guard {t b op} : WpL Γ (⟨dst,some (t,b),op⟩ :: r) env H live Q ↔ gdK Γ (look env t) b dst op r env H live Q := by
 unfold WpL gdK
 rw [WpS_cons,wanted,WpL,WpL,WpS_cons,wanted,gd_some,if_pos rfl]
 cases look env t with
 | p v => cases v <;> exact Iff.rfl
 | _ => exact Iff.rfl
theorem gdK_tt {op} : gdK Γ (.p (.bool true)) true dst op r env H live Q ↔ WpL Γ (⟨dst,none,op⟩ :: r) env H live Q := by simp [gdK,gd]
theorem gdK_ff {op} : gdK Γ (.p (.bool false)) false dst op r env H live Q ↔ WpL Γ (⟨dst,none,op⟩ :: r) env H live Q := by simp [gdK,gd]
theorem gdK_tf {op} : gdK Γ (.p (.bool true)) false dst op r env H live Q ↔ WpL Γ r (put env dst .nov) H live Q := by simp [gdK,gd]
theorem gdK_ft {op} : gdK Γ (.p (.bool false)) true dst op r env H live Q ↔ WpL Γ r (put env dst .nov) H live Q := by simp [gdK,gd]
theorem gdK_nov {op b} : gdK Γ .nov b dst op r env H live Q ↔ WpL Γ r (put env dst .nov) H live Q := by simp [gdK,gd]
theorem opK_some {v} : opK Γ (some v) dst r env H live Q ↔ WpL Γ r (put env dst v) H live Q := Iff.rfl
theorem opX_some {v H'} : opX Γ (some (v,H')) dst r env live Q ↔ WpL Γ r (put env dst v) H' live Q := Iff.rfl
theorem L_of {o} : WpL Γ (⟨dst,none,o⟩ :: r) env H live Q ↔ WpO Γ o env H fun v H' => WpL Γ r (put env dst v) H' live Q := by
 unfold WpL
 rw [WpS_cons,wanted,gd_some,if_pos rfl]
theorem W_loop {L gc c} (h : L = .loop live gc c) : Wp Γ L env H Q ↔ lpK Γ c L (norm live gc env H) Q := Wp_loop' h
theorem lpK_some {c L e h} : lpK Γ c L (some (e,h)) Q ↔ Wp Γ c e h (NxtC Γ L Q) := Iff.rfl
theorem L_mov {x} : WpL Γ (⟨dst,none,.inl (.mov x)⟩ :: r) env H live Q ↔ opK Γ (some (Arg.ev Γ (look env) x)) dst r env H live Q := L_of.trans (WpO_q rfl)
theorem L_pick {c a b} : WpL Γ (⟨dst,none,.inl (.pick c a b)⟩ :: r) env H live Q ↔ opK Γ (pickA (Arg.ev Γ (look env) c) (Arg.ev Γ (look env) a) (Arg.ev Γ (look env) b)) dst r env H live Q := L_of.trans (WpO_q rfl)
theorem L_nilchk {x} : WpL Γ (⟨dst,none,.inl (.nilchk x)⟩ :: r) env H live Q ↔ opK Γ (nilchkA H (Arg.ev Γ (look env) x)) dst r env H live Q := L_of.trans (WpO_q rfl)
theorem L_bin {op x y} : WpL Γ (⟨dst,none,.inl (.bin op x y)⟩ :: r) env H live Q ↔ opK Γ (binAV op (Arg.ev Γ (look env) x) (Arg.ev Γ (look env) y)) dst r env H live Q := L_of.trans (WpO_q rfl)
theorem L_eqs {n neg x y} : WpL Γ (⟨dst,none,.inl (.eqs n neg x y)⟩ :: r) env H live Q ↔ opK Γ (eqsA n neg (Arg.ev Γ (look env) x) (Arg.ev Γ (look env) y)) dst r env H live Q := L_of.trans (WpO_q rfl)
theorem L_eqk {kd neg x y} : WpL Γ (⟨dst,none,.inl (.eqk kd neg x y)⟩ :: r) env H live Q ↔ opK Γ (eqkA kd neg (Arg.ev Γ (look env) x) (Arg.ev Γ (look env) y)) dst r env H live Q := L_of.trans (WpO_q rfl)
theorem L_un {op x} : WpL Γ (⟨dst,none,.inl (.un op x)⟩ :: r) env H live Q ↔ opK Γ (unA op (Arg.ev Γ (look env) x)) dst r env H live Q := L_of.trans (WpO_q rfl)
theorem L_conv {k x} : WpL Γ (⟨dst,none,.inl (.conv k x)⟩ :: r) env H live Q ↔ opK Γ (convA k (Arg.ev Γ (look env) x)) dst r env H live Q := L_of.trans (WpO_q rfl)
theorem L_strOf {x} : WpL Γ (⟨dst,none,.inl (.strOf x)⟩ :: r) env H live Q ↔ opK Γ (strOfA H (Arg.ev Γ (look env) x)) dst r env H live Q := L_of.trans (WpO_q rfl)
theorem L_runeStr {x} : WpL Γ (⟨dst,none,.inl (.runeStr x)⟩ :: r) env H live Q ↔ opK Γ (runeStrA (Arg.ev Γ (look env) x)) dst r env H live Q := L_of.trans (WpO_q rfl)
theorem L_len {s x} : WpL Γ (⟨dst,none,.inl (.len s x)⟩ :: r) env H live Q ↔ opK Γ ((asLen H s (Arg.ev Γ (look env) x)).map fun (n : Nat) => AV.p (.int .i64 (n : Int))) dst r env H live Q := L_of.trans (WpO_q rfl)
theorem L_idx {x i} : WpL Γ (⟨dst,none,.inl (.idx x i)⟩ :: r) env H live Q ↔ opK Γ (idxA (Arg.ev Γ (look env) x) (Arg.ev Γ (look env) i)) dst r env H live Q := L_of.trans (WpO_q rfl)
theorem L_faddr {off x} : WpL Γ (⟨dst,none,.inl (.faddr off x)⟩ :: r) env H live Q ↔ opK Γ (faddrA H off (Arg.ev Γ (look env) x)) dst r env H live Q := L_of.trans (WpO_q rfl)
theorem L_iaddr {sz x i} : WpL Γ (⟨dst,none,.inl (.iaddr sz x i)⟩ :: r) env H live Q ↔ opK Γ (iaddrA H sz (Arg.ev Γ (look env) x) (Arg.ev Γ (look env) i)) dst r env H live Q := L_of.trans (WpO_q rfl)
theorem L_iaddrA {sz n x i} : WpL Γ (⟨dst,none,.inl (.iaddrA sz n x i)⟩ :: r) env H live Q ↔ opK Γ (iaddrAA sz n (Arg.ev Γ (look env) x) (Arg.ev Γ (look env) i)) dst r env H live Q := L_of.trans (WpO_q rfl)
theorem L_load {sz ag x} : WpL Γ (⟨dst,none,.inl (.load sz ag x)⟩ :: r) env H live Q ↔ opK Γ (loadA H sz ag (Arg.ev Γ (look env) x)) dst r env H live Q := L_of.trans (WpO_q rfl)
theorem L_sliceS {x lo hi} : WpL Γ (⟨dst,none,.inl (.sliceS x lo hi)⟩ :: r) env H live Q ↔ opK Γ (sliceSA (Arg.ev Γ (look env) x) (lo.map (Arg.ev Γ (look env))) (hi.map (Arg.ev Γ (look env)))) dst r env H live Q := L_of.trans (WpO_q rfl)
theorem L_build {zero parts} : WpL Γ (⟨dst,none,.inl (.build zero parts)⟩ :: r) env H live Q ↔ opK Γ ((fillA (zero.map .p) (parts.map fun q => (q.off,q.sz,Arg.ev Γ (look env) q.arg))).map mkAgg) dst r env H live Q := L_of.trans (WpO_q rfl)
theorem L_bslice {sz ag n zero parts} : WpL Γ (⟨dst,none,.inl (.bslice sz ag n zero parts)⟩ :: r) env H live Q ↔ opK Γ (bsliceA sz ag n (fillA (zero.map .p) (parts.map fun q => (q.off,q.sz,Arg.ev Γ (look env) q.arg)))) dst r env H live Q := L_of.trans (WpO_q rfl)
theorem L_ext {x i} : WpL Γ (⟨dst,none,.inl (.ext x i)⟩ :: r) env H live Q ↔ opK Γ (extA i (Arg.ev Γ (look env) x)) dst r env H live Q := L_of.trans (WpO_q rfl)
theorem L_appq {sz x y} : WpL Γ (⟨dst,none,.inl (.appq sz x y)⟩ :: r) env H live Q ↔ opK Γ (appqA sz (Arg.ev Γ (look env) x) (Arg.ev Γ (look env) y)) dst r env H live Q := L_of.trans (WpO_q rfl)
theorem L_mget {kd zero comma x k} : WpL Γ (⟨dst,none,.inl (.mget kd zero comma x k)⟩ :: r) env H live Q ↔ opK Γ (mgetA H kd zero comma (Arg.ev Γ (look env) x) (Arg.ev Γ (look env) k)) dst r env H live Q := L_of.trans (WpO_q rfl)
theorem L_minmax {mx xs} : WpL Γ (⟨dst,none,.inl (.minmax mx xs)⟩ :: r) env H live Q ↔ opK Γ (minmax mx (xs.map (Arg.ev Γ (look env)))) dst r env H live Q := L_of.trans (WpO_q rfl)
theorem L_alloc {zero} : WpL Γ (⟨dst,none,.inr (.alloc zero)⟩ :: r) env H live Q ↔ opX Γ (some (.bx H.length 0,H ++ [.box (zero.map .p)])) dst r env live Q := L_of.trans (WpO_x rfl)
theorem L_box {x} : WpL Γ (⟨dst,none,.inr (.box x)⟩ :: r) env H live Q ↔ opX Γ (boxA H (Arg.ev Γ (look env) x)) dst r env live Q := L_of.trans (WpO_x rfl)
theorem L_store {sz x v} : WpL Γ (⟨dst,none,.inr (.store sz x v)⟩ :: r) env H live Q ↔ opX Γ ((storeA H sz (Arg.ev Γ (look env) x) (Arg.ev Γ (look env) v)).map fun H' => (AV.nov,H')) dst r env live Q := L_of.trans (WpO_x rfl)
theorem L_range {x} : WpL Γ (⟨dst,none,.inr (.range x)⟩ :: r) env H live Q ↔ opX Γ (rangeA H (Arg.ev Γ (look env) x)) dst r env live Q := L_of.trans (WpO_x rfl)
theorem L_next {x} : WpL Γ (⟨dst,none,.inr (.next x)⟩ :: r) env H live Q ↔ opX Γ (nextA H (Arg.ev Γ (look env) x)) dst r env live Q := L_of.trans (WpO_x rfl)
theorem L_mkslice {sz ag zero n c} : WpL Γ (⟨dst,none,.inr (.mkslice sz ag zero n c)⟩ :: r) env H live Q ↔ opX Γ (mksliceA H sz ag zero (Arg.ev Γ (look env) n) (Arg.ev Γ (look env) c)) dst r env live Q := L_of.trans (WpO_x rfl)
theorem L_brow {sz ag n zero parts} : WpL Γ (⟨dst,none,.inr (.brow sz ag n zero parts)⟩ :: r) env H live Q ↔ opX Γ (browA H sz ag n (fillA (zero.map .p) (parts.map fun q => (q.off,q.sz,Arg.ev Γ (look env) q.arg)))) dst r env live Q := L_of.trans (WpO_x rfl)
theorem L_mkmap : WpL Γ (⟨dst,none,.inr .mkmap⟩ :: r) env H live Q ↔ opX Γ (some (.mp H.length,H ++ [.box (mapCells [])])) dst r env live Q := L_of.trans (WpO_x rfl)
theorem L_mset {kd x k v} : WpL Γ (⟨dst,none,.inr (.mset kd x k v)⟩ :: r) env H live Q ↔ opX Γ ((msetA H kd (Arg.ev Γ (look env) x) (Arg.ev Γ (look env) k) (Arg.ev Γ (look env) v)).map fun H' => (AV.nov,H')) dst r env live Q := L_of.trans (WpO_x rfl)
theorem L_newrow {sz} : WpL Γ (⟨dst,none,.inr (.newrow sz)⟩ :: r) env H live Q ↔ opX Γ (some (.own H.length 0,H ++ [.row false sz []])) dst r env live Q := L_of.trans (WpO_x rfl)
theorem L_append {sz x y} : WpL Γ (⟨dst,none,.inr (.append sz x y)⟩ :: r) env H live Q ↔ opX Γ ((elemsOf H sz (Arg.ev Γ (look env) y)).bind fun ys => appendA H sz (Arg.ev Γ (look env) x) ys) dst r env live Q := L_of.trans (WpO_x rfl)
theorem L_appendS {x y} : WpL Γ (⟨dst,none,.inr (.appendS x y)⟩ :: r) env H live Q ↔ opX Γ (appendSA H (Arg.ev Γ (look env) x) (Arg.ev Γ (look env) y)) dst r env live Q := L_of.trans (WpO_x rfl)
theorem L_copy {sz x y} : WpL Γ (⟨dst,none,.inr (.copy sz x y)⟩ :: r) env H live Q ↔ opX Γ ((winElems H sz (Arg.ev Γ (look env) y)).bind fun ys => copyA H sz (Arg.ev Γ (look env) x) ys) dst r env live Q := L_of.trans (WpO_x rfl)
theorem L_popf {sz x hi} : WpL Γ (⟨dst,none,.inr (.popf sz x hi)⟩ :: r) env H live Q ↔ opX Γ (popA H sz (Arg.ev Γ (look env) x) (Arg.ev Γ (look env) hi)) dst r env live Q := L_of.trans (WpO_x rfl)
theorem L_storek {sz x v ks} : WpL Γ (⟨dst,none,.inr (.storek sz x v ks)⟩ :: r) env H live Q ↔ opX Γ ((storekA H sz (Arg.ev Γ (look env) x) (Arg.ev Γ (look env) v) (ks.map (Arg.ev Γ (look env)))).map fun H' => (AV.nov,H')) dst r env live Q := L_of.trans (WpO_x rfl)
theorem L_wslice {sz x lo hi} : WpL Γ (⟨dst,none,.inl (.wslice sz x lo hi)⟩ :: r) env H live Q ↔ opK Γ (wsliceA H sz (Arg.ev Γ (look env) x) (lo.map (Arg.ev Γ (look env))) (hi.map (Arg.ev Γ (look env)))) dst r env H live Q := L_of.trans (WpO_q rfl)
theorem L_loadk {sz ag x k} : WpL Γ (⟨dst,none,.inl (.loadk sz ag x k)⟩ :: r) env H live Q ↔ opK Γ (loadkA H sz ag (Arg.ev Γ (look env) x) (Arg.ev Γ (look env) k)) dst r env H live Q := L_of.trans (WpO_q rfl)
theorem L_slicef {sz x lo hi} : WpL Γ (⟨dst,none,.inr (.slicef sz x lo hi)⟩ :: r) env H live Q ↔ opX Γ (slicefA H sz (Arg.ev Γ (look env) x) (lo.map (Arg.ev Γ (look env))) (hi.map (Arg.ev Γ (look env)))) dst r env live Q := L_of.trans (WpO_x rfl)
noncomputable def callR (Γ : Ctx) (H : Heap) (f : AV) (as : List AV) : Option (List PV) := (callee f).bind fun fc => (mapO (reify H 4) (as ++ fc.2)).bind (res Γ fc.1)
theorem callR_spec {f : AV} {as : List AV} {rs : List PV} (h : callR Γ H f as = some rs) : ∃ n,callP (callOf Γ (ev Γ n)) H f as = some rs := by
 unfold callR at h
 obtain ⟨fc,h1,h⟩ := Option.bind_eq_some_iff.1 h
 obtain ⟨ps,h2,h⟩ := Option.bind_eq_some_iff.1 h
 obtain ⟨n,r,h3,h4⟩ := of_res h
 exact ⟨n,by simp only [callP,h1,Option.bind_some,h2,h3,h4]⟩
theorem callR_of {f : AV} {as : List AV} {rs : List PV} {n : Nat} (h : callP (callOf Γ (ev Γ n)) H f as = some rs) : callR Γ H f as = some rs := by
 unfold callP at h
 obtain ⟨fc,h1,h⟩ := Option.bind_eq_some_iff.1 h
 obtain ⟨ps,h2,h⟩ := Option.bind_eq_some_iff.1 h
 obtain ⟨r,h3,h4⟩ := Option.bind_eq_some_iff.1 h
 simp only [callR,h1,h2,Option.bind_some]
 exact res_of ⟨n,r,h3,h4⟩
theorem L_call {f args} : WpL Γ (⟨dst,none,.inl (.call f args)⟩ :: r) env H live Q ↔ opK Γ ((callR Γ H (Arg.ev Γ (look env) f) (args.map (Arg.ev Γ (look env)))).bind fun rs =>
      ifB (allP (args.map (Arg.ev Γ (look env))) && (Arg.ev Γ (look env) f).isP || rs.all flat) (some (results (rs.map .p)))) dst r env H live Q := by
  rw [L_of]
  unfold opK WpO
  constructor
  · rintro ⟨n,h⟩
    dsimp only at h
    rw [optP_iff] at h ⊢
    obtain ⟨v,h1,h2⟩ := h
    simp only [evQ] at h1
    obtain ⟨rs,h3,h4⟩ := Option.bind_eq_some_iff.1 h1
    exact ⟨v,by rw [callR_of h3]; exact h4,h2⟩
  · intro h
    rw [optP_iff] at h
    obtain ⟨v,h1,h2⟩ := h
    obtain ⟨rs,h3,h4⟩ := Option.bind_eq_some_iff.1 h1
    obtain ⟨n,h5⟩ := callR_spec h3
    refine ⟨n,?_⟩
    simp only [evQ,h5,Option.bind_some,h4]
    exact h2
theorem L_callf {f args} : WpL Γ (⟨dst,none,.inr (.callf f args)⟩ :: r) env H live Q ↔ opX Γ (ifB (rowsOnly ((args.map (Arg.ev Γ (look env))).flatMap AV.cells) && (Arg.ev Γ (look env) f).isP)
      ((callR Γ H (Arg.ev Γ (look env) f) (args.map (Arg.ev Γ (look env)))).map fun rs => (results (rs.map .p),freeze H ((args.map (Arg.ev Γ (look env))).flatMap AV.cells)))) dst r env live Q := by
  rw [L_of]
  unfold opX WpO
  constructor
  · rintro ⟨n,h⟩
    dsimp only at h
    rw [optP_iff] at h ⊢
    obtain ⟨v,h1,h2⟩ := h
    simp only [evX] at h1
    obtain ⟨hb,h3⟩ := ifB_some.1 h1
    obtain ⟨rs,h4,rfl⟩ := Option.map_eq_some_iff.1 h3
    exact ⟨_,by rw [callR_of h4,ifB_some]; exact ⟨hb,rfl⟩,h2⟩
  · intro h
    rw [optP_iff] at h
    obtain ⟨v,h1,h2⟩ := h
    obtain ⟨hb,h3⟩ := ifB_some.1 h1
    obtain ⟨rs,h4,rfl⟩ := Option.map_eq_some_iff.1 h3
    obtain ⟨n,h5⟩ := callR_spec h4
    refine ⟨n,?_⟩
    simp only [evX,hb,h5,Option.map_some]
    exact h2
end
end Ab
namespace Ab
open Go (IntKind BinOp UnOp)
def ixB : List UInt8 → UInt8 → Int
 | [],_ => -1
 | b :: l,c => if b == c then 0 else if ixB l c == -1 then -1 else ixB l c + 1
def indexByteG : List PV → Option (List PV)
 | [.str s,.int .u8 c] => some [.int .i64 (ixB s c.toNat.toUInt8)]
 | _ => none
def countG : List PV → Option (List PV)
 | [.str s,.int .u8 c] => some [.int .i64 (s.count c.toNat.toUInt8 : Nat)]
 | _ => none
def joinB (sep : List UInt8) : List (List UInt8) → List UInt8
 | [] => []
 | [s] => s
 | s :: r => s ++ sep ++ joinB sep r
def strsIn : List PV → Option (List (List UInt8))
 | [] => some []
 | .str s :: r => (strsIn r).map (s :: ·)
 | _ => none
def joinG : List PV → Option (List PV)
 | [.sl _ 1 xs,.str sep] => match strsIn xs with
  | some l => if (joinB sep l).length ≤ 1000000000 ∧ l.length ≤ 1000000000 then some [.str (joinB sep l)] else none
  | none => none
 | _ => none
def cloneG (n : Nat) : List PV → Option (Nat × List PV)
 | [.sl _ sz xs] => if sz = n ∧ 0 < n ∧ xs.length ≤ lim ∧ xs.all flat = true then some (n,xs) else none
 | _ => none
def zero256 : List PV := List.replicate 256 (.bool false)
def ks256 : List Nat := List.replicate 256 1
end Ab
