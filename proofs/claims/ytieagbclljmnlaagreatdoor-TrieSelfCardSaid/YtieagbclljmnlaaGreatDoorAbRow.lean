import Derived.Test.YtieagbclljmnlaaGreatDoorAbWp
import Derived.Attr
namespace Ab
open Go (IntKind BinOp UnOp)
theorem wrap_i64 {x : Int} (h0 : -9223372036854775808 ≤ x) (h1 : x ≤ 9223372036854775807) : IntKind.i64.wrap x = x := by
 simp only [IntKind.wrap,IntKind.bits,IntKind.signed,Bool.true_and,decide_eq_true_eq,ge_iff_le]
 have e : (2 : Int) ^ 64 = 18446744073709551616 := by decide
 have e2 : (2 : Int) ^ (64 - 1) = 9223372036854775808 := by decide
 rw [e,e2]
 split <;> omega
theorem wrap_u8 {x : Int} (h0 : 0 ≤ x) (h1 : x ≤ 255) : IntKind.u8.wrap x = x := by
 simp only [IntKind.wrap,IntKind.bits,IntKind.signed,Bool.false_and]
 have e : (2 : Int) ^ 8 = 256 := by decide
 rw [e]
 simp
 omega
theorem toNat_cast (n : Nat) : ((n : Int)).toNat = n := Int.toNat_natCast n
end Ab
namespace Ab
open Go (IntKind BinOp UnOp)
theorem RunP_det {Γ : Ctx} {f : Nat} {ps rs rs' : List PV} (h : RunP Γ f ps rs) (h' : RunP Γ f ps rs') : rs = rs' := by
 obtain ⟨n,r,h1,h2⟩ := h
 obtain ⟨m,r',h3,h4⟩ := h'
 have e1 := call_le (Nat.le_max_left n m) _ _ _ _ h1
 have e2 := call_le (Nat.le_max_right n m) _ _ _ _ h3
 rw [e1] at e2
 cases e2
 rw [h2] at h4
 cases h4
 rfl
open Classical in
noncomputable def res (Γ : Ctx) (f : Nat) (ps : List PV) : Option (List PV) := if h : ∃ rs,RunP Γ f ps rs then some h.choose else none
theorem res_of {Γ f ps rs} (h : RunP Γ f ps rs) : res Γ f ps = some rs := by
 have h' : ∃ rs,RunP Γ f ps rs := ⟨_,h⟩
 unfold res
 rw [dif_pos h']
 exact congrArg some (RunP_det h'.choose_spec h)
theorem of_res {Γ f ps rs} (h : res Γ f ps = some rs) : RunP Γ f ps rs := by
 unfold res at h
 split at h
 ·rename_i h'
  cases h
  exact h'.choose_spec
 ·cases h
def WpL (Γ : Ctx) (l : List St) (env : Env) (H : Heap) (live : List Nat) (Q : Out → Prop) : Prop := WpS Γ l env H fun e h => Q (.nrm,prune live e,h)
def NxtC (Γ : Ctx) (b : Code) (Q : Out → Prop) : Out → Prop
 | (.nrm,e,h) => Wp Γ b e h Q
 | o => Q o
def condC (Γ : Ctx) (v : AV) (a b : Code) (env : Env) (H : Heap) (Q : Out → Prop) : Prop := condP v (Wp Γ a env H Q) (Wp Γ b env H Q)
def opK (Γ : Ctx) (x : Option AV) (dst : Option Nat) (r : List St) (env : Env) (H : Heap) (live : List Nat) (Q : Out → Prop) : Prop := optP x fun v => WpL Γ r (put env dst v) H live Q
def opX (Γ : Ctx) (x : Option (AV × Heap)) (dst : Option Nat) (r : List St) (env : Env) (live : List Nat) (Q : Out → Prop) : Prop := optP x fun y => WpL Γ r (put env dst y.1) y.2 live Q
def gdK (Γ : Ctx) (v : AV) (b : Bool) (dst : Option Nat) (op : QOp ⊕ XOp) (r : List St) (env : Env) (H : Heap) (live : List Nat) (Q : Out → Prop) : Prop :=
 gd (match v with | .p (.bool c) => some (c == b) | .nov => some false | _ => none) (WpL Γ r (put env dst .nov) H live Q) (WpL Γ (⟨dst,none,op⟩ :: r) env H live Q)
def lpK (Γ : Ctx) (c L : Code) (x : Option (Env × Heap)) (Q : Out → Prop) : Prop := optP x fun eh => Wp Γ c eh.1 eh.2 (NxtC Γ L Q)
section
variable {Γ : Ctx} {env : Env} {H : Heap} {live : List Nat} {Q : Out → Prop} {r : List St} {dst : Option Nat}
theorem W_seq {a b} : Wp Γ (.seq a b) env H Q ↔ Wp Γ a env H (NxtC Γ b Q) := Wp_seq
theorem NxtC_nrm {b e h} : NxtC Γ b Q (.nrm,e,h) ↔ Wp Γ b e h Q := Iff.rfl
theorem NxtC_ex {b i e h} : NxtC Γ b Q (.ex i,e,h) ↔ Q (.ex i,e,h) := Iff.rfl
theorem NxtC_ret {b e h} : NxtC Γ b Q (.ret,e,h) ↔ Q (.ret,e,h) := Iff.rfl
theorem InBlk_same {id e h} : InBlk live id Q (.ex id,e,h) ↔ Q (.nrm,prune live e,h) := by rw [InBlk_ex,if_pos rfl]
theorem W_ops {l} : Wp Γ (.ops live l) env H Q ↔ WpL Γ l env H live Q := Wp_ops
theorem W_cond {x a b} : Wp Γ (.cond x a b) env H Q ↔ condC Γ (x.ev Γ (look env)) a b env H Q := Wp_cond
theorem condC_true {a b} : condC Γ (.p (.bool true)) a b env H Q ↔ Wp Γ a env H Q := Iff.rfl
theorem condC_false {a b} : condC Γ (.p (.bool false)) a b env H Q ↔ Wp Γ b env H Q := by simp [condC,condP]
theorem condC_split {c : Bool} {a b} (h1 : c = true → condC Γ (.p (.bool true)) a b env H Q) (h2 : c = false → condC Γ (.p (.bool false)) a b env H Q) : condC Γ (.p (.bool c)) a b env H Q := by cases c <;> simp_all
theorem L_nil : WpL Γ [] env H live Q ↔ Q (.nrm,prune live env,H) := WpS_nil
theorem L_guard {t b op} : WpL Γ (⟨dst,some (t,b),op⟩ :: r) env H live Q ↔ gdK Γ (look env t) b dst op r env H live Q := by
 unfold WpL gdK
 rw [WpS_cons,wanted,WpL,WpL,WpS_cons,wanted,gd_some,if_pos rfl]
 cases look env t with
 | p v => cases v <;> exact Iff.rfl
 | _ => exact Iff.rfl
theorem gdK_tt {op} : gdK Γ (.p (.bool true)) true dst op r env H live Q ↔ WpL Γ (⟨dst,none,op⟩ :: r) env H live Q := by simp [gdK,gd]
theorem gdK_ff {op} : gdK Γ (.p (.bool false)) false dst op r env H live Q ↔ WpL Γ (⟨dst,none,op⟩ :: r) env H live Q := by simp [gdK,gd]
theorem gdK_tf {op} : gdK Γ (.p (.bool true)) false dst op r env H live Q ↔ WpL Γ r (put env dst .nov) H live Q := by simp [gdK,gd]
theorem gdK_ft {op} : gdK Γ (.p (.bool false)) true dst op r env H live Q ↔ WpL Γ r (put env dst .nov) H live Q := by simp [gdK,gd]
theorem gdK_nov {op b} : gdK Γ .nov b dst op r env H live Q ↔ WpL Γ r (put env dst .nov) H live Q := by simp [gdK,gd]
theorem opK_some {v} : opK Γ (some v) dst r env H live Q ↔ WpL Γ r (put env dst v) H live Q := Iff.rfl
theorem opX_some {v H'} : opX Γ (some (v,H')) dst r env live Q ↔ WpL Γ r (put env dst v) H' live Q := Iff.rfl
theorem L_of {o} : WpL Γ (⟨dst,none,o⟩ :: r) env H live Q ↔ WpO Γ o env H fun v H' => WpL Γ r (put env dst v) H' live Q := by
 unfold WpL
 rw [WpS_cons,wanted,gd_some,if_pos rfl]
theorem W_loop {L gc c} (h : L = .loop live gc c) : Wp Γ L env H Q ↔ lpK Γ c L (norm live gc env H) Q := Wp_loop' h
theorem lpK_some {c L e h} : lpK Γ c L (some (e,h)) Q ↔ Wp Γ c e h (NxtC Γ L Q) := Iff.rfl
theorem L_mov {x} : WpL Γ (⟨dst,none,.inl (.mov x)⟩ :: r) env H live Q ↔ opK Γ (some (Arg.ev Γ (look env) x)) dst r env H live Q := L_of.trans (WpO_q rfl)
theorem L_pick {c a b} : WpL Γ (⟨dst,none,.inl (.pick c a b)⟩ :: r) env H live Q ↔ opK Γ (pickA (Arg.ev Γ (look env) c) (Arg.ev Γ (look env) a) (Arg.ev Γ (look env) b)) dst r env H live Q := L_of.trans (WpO_q rfl)
theorem L_nilchk {x} : WpL Γ (⟨dst,none,.inl (.nilchk x)⟩ :: r) env H live Q ↔ opK Γ (nilchkA H (Arg.ev Γ (look env) x)) dst r env H live Q := L_of.trans (WpO_q rfl)
theorem L_bin {op x y} : WpL Γ (⟨dst,none,.inl (.bin op x y)⟩ :: r) env H live Q ↔ opK Γ (binAV op (Arg.ev Γ (look env) x) (Arg.ev Γ (look env) y)) dst r env H live Q := L_of.trans (WpO_q rfl)
theorem L_eqs {n neg x y} : WpL Γ (⟨dst,none,.inl (.eqs n neg x y)⟩ :: r) env H live Q ↔ opK Γ (eqsA n neg (Arg.ev Γ (look env) x) (Arg.ev Γ (look env) y)) dst r env H live Q := L_of.trans (WpO_q rfl)
theorem L_eqk {kd neg x y} : WpL Γ (⟨dst,none,.inl (.eqk kd neg x y)⟩ :: r) env H live Q ↔ opK Γ (eqkA kd neg (Arg.ev Γ (look env) x) (Arg.ev Γ (look env) y)) dst r env H live Q := L_of.trans (WpO_q rfl)
theorem L_un {op x} : WpL Γ (⟨dst,none,.inl (.un op x)⟩ :: r) env H live Q ↔ opK Γ (unA op (Arg.ev Γ (look env) x)) dst r env H live Q := L_of.trans (WpO_q rfl)
theorem L_conv {k x} : WpL Γ (⟨dst,none,.inl (.conv k x)⟩ :: r) env H live Q ↔ opK Γ (convA k (Arg.ev Γ (look env) x)) dst r env H live Q := L_of.trans (WpO_q rfl)
theorem L_runeStr {x} : WpL Γ (⟨dst,none,.inl (.runeStr x)⟩ :: r) env H live Q ↔ opK Γ (runeStrA (Arg.ev Γ (look env) x)) dst r env H live Q := L_of.trans (WpO_q rfl)
theorem L_len {s x} : WpL Γ (⟨dst,none,.inl (.len s x)⟩ :: r) env H live Q ↔ opK Γ ((asLen H s (Arg.ev Γ (look env) x)).map fun (n : Nat) => AV.p (.int .i64 (n : Int))) dst r env H live Q := L_of.trans (WpO_q rfl)
theorem L_idx {x i} : WpL Γ (⟨dst,none,.inl (.idx x i)⟩ :: r) env H live Q ↔ opK Γ (idxA (Arg.ev Γ (look env) x) (Arg.ev Γ (look env) i)) dst r env H live Q := L_of.trans (WpO_q rfl)
theorem L_faddr {off x} : WpL Γ (⟨dst,none,.inl (.faddr off x)⟩ :: r) env H live Q ↔ opK Γ (faddrA H off (Arg.ev Γ (look env) x)) dst r env H live Q := L_of.trans (WpO_q rfl)
theorem L_iaddr {sz x i} : WpL Γ (⟨dst,none,.inl (.iaddr sz x i)⟩ :: r) env H live Q ↔ opK Γ (iaddrA H sz (Arg.ev Γ (look env) x) (Arg.ev Γ (look env) i)) dst r env H live Q := L_of.trans (WpO_q rfl)
theorem L_iaddrA {sz n x i} : WpL Γ (⟨dst,none,.inl (.iaddrA sz n x i)⟩ :: r) env H live Q ↔ opK Γ (iaddrAA sz n (Arg.ev Γ (look env) x) (Arg.ev Γ (look env) i)) dst r env H live Q := L_of.trans (WpO_q rfl)
theorem L_load {sz ag x} : WpL Γ (⟨dst,none,.inl (.load sz ag x)⟩ :: r) env H live Q ↔ opK Γ (loadA H sz ag (Arg.ev Γ (look env) x)) dst r env H live Q := L_of.trans (WpO_q rfl)
theorem L_sliceS {x lo hi} : WpL Γ (⟨dst,none,.inl (.sliceS x lo hi)⟩ :: r) env H live Q ↔ opK Γ (sliceSA (Arg.ev Γ (look env) x) (lo.map (Arg.ev Γ (look env))) (hi.map (Arg.ev Γ (look env)))) dst r env H live Q := L_of.trans (WpO_q rfl)
theorem L_build {zero parts} : WpL Γ (⟨dst,none,.inl (.build zero parts)⟩ :: r) env H live Q ↔ opK Γ ((fillA (zero.map .p) (parts.map fun q => (q.off,q.sz,Arg.ev Γ (look env) q.arg))).map mkAgg) dst r env H live Q := L_of.trans (WpO_q rfl)
theorem L_bslice {sz ag n zero parts} : WpL Γ (⟨dst,none,.inl (.bslice sz ag n zero parts)⟩ :: r) env H live Q ↔ opK Γ (bsliceA sz ag n (fillA (zero.map .p) (parts.map fun q => (q.off,q.sz,Arg.ev Γ (look env) q.arg)))) dst r env H live Q := L_of.trans (WpO_q rfl)
theorem L_ext {x i} : WpL Γ (⟨dst,none,.inl (.ext x i)⟩ :: r) env H live Q ↔ opK Γ (extA i (Arg.ev Γ (look env) x)) dst r env H live Q := L_of.trans (WpO_q rfl)
theorem L_mget {kd zero comma x k} : WpL Γ (⟨dst,none,.inl (.mget kd zero comma x k)⟩ :: r) env H live Q ↔ opK Γ (mgetA H kd zero comma (Arg.ev Γ (look env) x) (Arg.ev Γ (look env) k)) dst r env H live Q := L_of.trans (WpO_q rfl)
theorem L_mlen {x} : WpL Γ (⟨dst,none,.inl (.mlen x)⟩ :: r) env H live Q ↔ opK Γ (mlenA H (Arg.ev Γ (look env) x)) dst r env H live Q := L_of.trans (WpO_q rfl)
theorem L_isnil {neg x y} : WpL Γ (⟨dst,none,.inl (.isnil neg x y)⟩ :: r) env H live Q ↔ opK Γ (isnilA H neg (Arg.ev Γ (look env) x) (Arg.ev Γ (look env) y)) dst r env H live Q := L_of.trans (WpO_q rfl)
theorem L_minmax {mx xs} : WpL Γ (⟨dst,none,.inl (.minmax mx xs)⟩ :: r) env H live Q ↔ opK Γ (minmax mx (xs.map (Arg.ev Γ (look env)))) dst r env H live Q := L_of.trans (WpO_q rfl)
theorem L_clos {f caps} : WpL Γ (⟨dst,none,.inl (.clos f caps)⟩ :: r) env H live Q ↔ opK Γ (ifB ((caps.map (Arg.ev Γ (look env))).all AV.one) (some (closA f (caps.map (Arg.ev Γ (look env)))))) dst r env H live Q := L_of.trans (WpO_q rfl)
theorem L_alloc {zero} : WpL Γ (⟨dst,none,.inr (.alloc zero)⟩ :: r) env H live Q ↔ opX Γ (some (.bx H.length 0,H ++ [.box (zero.map .p)])) dst r env live Q := L_of.trans (WpO_x rfl)
theorem L_box {x} : WpL Γ (⟨dst,none,.inr (.box x)⟩ :: r) env H live Q ↔ opX Γ (boxA H (Arg.ev Γ (look env) x)) dst r env live Q := L_of.trans (WpO_x rfl)
theorem L_store {sz x v} : WpL Γ (⟨dst,none,.inr (.store sz x v)⟩ :: r) env H live Q ↔ opX Γ ((storeA H sz (Arg.ev Γ (look env) x) (Arg.ev Γ (look env) v)).map fun H' => (AV.nov,H')) dst r env live Q := L_of.trans (WpO_x rfl)
theorem L_range {x} : WpL Γ (⟨dst,none,.inr (.range x)⟩ :: r) env H live Q ↔ opX Γ (rangeA H (Arg.ev Γ (look env) x)) dst r env live Q := L_of.trans (WpO_x rfl)
theorem L_next {x} : WpL Γ (⟨dst,none,.inr (.next x)⟩ :: r) env H live Q ↔ opX Γ (nextA H (Arg.ev Γ (look env) x)) dst r env live Q := L_of.trans (WpO_x rfl)
theorem L_mkslice {sz ag zero n c} : WpL Γ (⟨dst,none,.inr (.mkslice sz ag zero n c)⟩ :: r) env H live Q ↔ opX Γ (mksliceA H sz ag zero (Arg.ev Γ (look env) n) (Arg.ev Γ (look env) c)) dst r env live Q := L_of.trans (WpO_x rfl)
theorem L_mkmap : WpL Γ (⟨dst,none,.inr .mkmap⟩ :: r) env H live Q ↔ opX Γ (some (.mp H.length,H ++ [.box (mapCells [])])) dst r env live Q := L_of.trans (WpO_x rfl)
theorem L_msets {ks x k v} : WpL Γ (⟨dst,none,.inr (.msets ks x k v)⟩ :: r) env H live Q ↔ opX Γ ((msetsA H ks (Arg.ev Γ (look env) x) (Arg.ev Γ (look env) k) (Arg.ev Γ (look env) v)).map fun H' => (AV.nov,H')) dst r env live Q := L_of.trans (WpO_x rfl)
theorem L_mset {kd x k v} : WpL Γ (⟨dst,none,.inr (.mset kd x k v)⟩ :: r) env H live Q ↔ opX Γ ((msetA H kd (Arg.ev Γ (look env) x) (Arg.ev Γ (look env) k) (Arg.ev Γ (look env) v)).map fun H' => (AV.nov,H')) dst r env live Q := L_of.trans (WpO_x rfl)
theorem L_newrow {sz} : WpL Γ (⟨dst,none,.inr (.newrow sz)⟩ :: r) env H live Q ↔ opX Γ (some (.own H.length 0,H ++ [.row false sz []])) dst r env live Q := L_of.trans (WpO_x rfl)
theorem L_append {sz x y} : WpL Γ (⟨dst,none,.inr (.append sz x y)⟩ :: r) env H live Q ↔ opX Γ ((elemsOf H sz (Arg.ev Γ (look env) y)).bind fun ys => appendA H sz (Arg.ev Γ (look env) x) ys) dst r env live Q := L_of.trans (WpO_x rfl)
theorem L_slicef {sz x lo hi} : WpL Γ (⟨dst,none,.inr (.slicef sz x lo hi)⟩ :: r) env H live Q ↔ opX Γ (slicefA H sz (Arg.ev Γ (look env) x) (lo.map (Arg.ev Γ (look env))) (hi.map (Arg.ev Γ (look env)))) dst r env live Q := L_of.trans (WpO_x rfl)
noncomputable def callR (Γ : Ctx) (H : Heap) (f : AV) (as : List AV) : Option (List PV) := (callee f).bind fun fc => (mapO (reify H 4) (as ++ fc.2)).bind (res Γ fc.1)
theorem callR_spec {f : AV} {as : List AV} {rs : List PV} (h : callR Γ H f as = some rs) : ∃ n,callP (callOf Γ (ev Γ n)) H f as = some rs := by
 unfold callR at h
 obtain ⟨fc,h1,h⟩ := Option.bind_eq_some_iff.1 h
 obtain ⟨ps,h2,h⟩ := Option.bind_eq_some_iff.1 h
 obtain ⟨n,r,h3,h4⟩ := of_res h
 exact ⟨n,by simp only [callP,h1,Option.bind_some,h2,h3,h4]⟩
theorem callR_of {f : AV} {as : List AV} {rs : List PV} {n : Nat} (h : callP (callOf Γ (ev Γ n)) H f as = some rs) : callR Γ H f as = some rs := by
 unfold callP at h
 obtain ⟨fc,h1,h⟩ := Option.bind_eq_some_iff.1 h
 obtain ⟨ps,h2,h⟩ := Option.bind_eq_some_iff.1 h
 obtain ⟨r,h3,h4⟩ := Option.bind_eq_some_iff.1 h
 simp only [callR,h1,h2,Option.bind_some]
 exact res_of ⟨n,r,h3,h4⟩
theorem L_call {f args} : WpL Γ (⟨dst,none,.inl (.call f args)⟩ :: r) env H live Q ↔ opK Γ ((callR Γ H (Arg.ev Γ (look env) f) (args.map (Arg.ev Γ (look env)))).bind fun rs =>
      ifB (allP (args.map (Arg.ev Γ (look env))) && (Arg.ev Γ (look env) f).isP || rs.all flat) (some (results (rs.map .p)))) dst r env H live Q := by
  rw [L_of]
  unfold opK WpO
  constructor
  · rintro ⟨n,h⟩
    dsimp only at h
    rw [optP_iff] at h ⊢
    obtain ⟨v,h1,h2⟩ := h
    simp only [evQ] at h1
    obtain ⟨rs,h3,h4⟩ := Option.bind_eq_some_iff.1 h1
    exact ⟨v,by rw [callR_of h3]; exact h4,h2⟩
  · intro h
    rw [optP_iff] at h
    obtain ⟨v,h1,h2⟩ := h
    obtain ⟨rs,h3,h4⟩ := Option.bind_eq_some_iff.1 h1
    obtain ⟨n,h5⟩ := callR_spec h3
    refine ⟨n,?_⟩
    simp only [evQ,h5,Option.bind_some,h4]
    exact h2
theorem L_callf {f args} : WpL Γ (⟨dst,none,.inr (.callf f args)⟩ :: r) env H live Q ↔ opX Γ (ifB (rowsOnly ((args.map (Arg.ev Γ (look env))).flatMap AV.cells) && (Arg.ev Γ (look env) f).isP)
      ((callR Γ H (Arg.ev Γ (look env) f) (args.map (Arg.ev Γ (look env)))).map fun rs => (results (rs.map .p),freeze H ((args.map (Arg.ev Γ (look env))).flatMap AV.cells)))) dst r env live Q := by
  rw [L_of]
  unfold opX WpO
  constructor
  · rintro ⟨n,h⟩
    dsimp only at h
    rw [optP_iff] at h ⊢
    obtain ⟨v,h1,h2⟩ := h
    simp only [evX] at h1
    obtain ⟨hb,h3⟩ := ifB_some.1 h1
    obtain ⟨rs,h4,rfl⟩ := Option.map_eq_some_iff.1 h3
    exact ⟨_,by rw [callR_of h4,ifB_some]; exact ⟨hb,rfl⟩,h2⟩
  · intro h
    rw [optP_iff] at h
    obtain ⟨v,h1,h2⟩ := h
    obtain ⟨hb,h3⟩ := ifB_some.1 h1
    obtain ⟨rs,h4,rfl⟩ := Option.map_eq_some_iff.1 h3
    obtain ⟨n,h5⟩ := callR_spec h4
    refine ⟨n,?_⟩
    simp only [evX,hb,h5,Option.map_some]
    exact h2
end
end Ab
namespace Ab
open Go (IntKind BinOp UnOp)
def byt (s : List UInt8) (i : Nat) : Int := ((s.getD i 0).toNat : Int)
theorem byt_nonneg {s i} : 0 ≤ byt s i := by unfold byt; omega
theorem byt_le {s i} : byt s i ≤ 255 := by unfold byt; have := (s.getD i 0).toNat_lt; omega
theorem idx_in {s : List UInt8} {k : IntKind} {i : Int} (h0 : 0 ≤ i) (h : i.toNat < s.length) : idxA (.p (.str s)) (.p (.int k i)) = some (.p (.int .u8 (byt s i.toNat))) := by
 simp only [idxA,h0,if_true,List.getElem?_eq_getElem h,Option.map_some,byt,List.getD_eq_getElem?_getD,Option.getD_some]
theorem map_add {k a b} : binAV .add (.p (.int k a)) (.p (.int k b)) = some (.p (.int k (k.wrap (a + b)))) := by simp [binAV,binPV,binInt]
theorem map_sub {k a b} : binAV .sub (.p (.int k a)) (.p (.int k b)) = some (.p (.int k (k.wrap (a - b)))) := by simp [binAV,binPV,binInt]
theorem map_mul {k a b} : binAV .mul (.p (.int k a)) (.p (.int k b)) = some (.p (.int k (k.wrap (a * b)))) := by simp [binAV,binPV,binInt]
theorem map_lss {k a b} : binAV .lss (.p (.int k a)) (.p (.int k b)) = some (.p (.bool (decide (a < b)))) := by simp [binAV,binPV,binInt]
theorem map_leq {k a b} : binAV .leq (.p (.int k a)) (.p (.int k b)) = some (.p (.bool (decide (a ≤ b)))) := by simp [binAV,binPV,binInt]
theorem map_gtr {k a b} : binAV .gtr (.p (.int k a)) (.p (.int k b)) = some (.p (.bool (decide (b < a)))) := by simp [binAV,binPV,binInt]
theorem map_geq {k a b} : binAV .geq (.p (.int k a)) (.p (.int k b)) = some (.p (.bool (decide (b ≤ a)))) := by simp [binAV,binPV,binInt]
theorem map_eql {k a b} : binAV .eql (.p (.int k a)) (.p (.int k b)) = some (.p (.bool (decide (a = b)))) := by
 simp only [binAV,binPV,binInt,true_or,if_true,Option.map_some,Option.some.injEq,AV.p.injEq,PV.bool.injEq]; rw [Bool.eq_iff_iff]; simp
theorem map_neq {k a b} : binAV .neq (.p (.int k a)) (.p (.int k b)) = some (.p (.bool (decide (a ≠ b)))) := by
 simp only [binAV,binPV,binInt,true_or,if_true,Option.map_some,Option.some.injEq,AV.p.injEq,PV.bool.injEq]; rw [Bool.eq_iff_iff]; simp
theorem map_seql {a b} : binAV .eql (.p (.str a)) (.p (.str b)) = some (.p (.bool (decide (a = b)))) := by
 simp only [binAV,binPV,binStr,Option.map_some,Option.some.injEq,AV.p.injEq,PV.bool.injEq]; rw [Bool.eq_iff_iff]; simp
theorem map_sneq {a b} : binAV .neq (.p (.str a)) (.p (.str b)) = some (.p (.bool (decide (a ≠ b)))) := by
 simp only [binAV,binPV,binStr,Option.map_some,Option.some.injEq,AV.p.injEq,PV.bool.injEq]; rw [Bool.eq_iff_iff]; simp
theorem map_sadd {a b : List UInt8} (h : a.length + b.length ≤ 9223372036854775807) : binAV .add (.p (.str a)) (.p (.str b)) = some (.p (.str (a ++ b))) := by
 simp only [binAV,binPV,binStr]; rw [if_pos (by unfold maxI; omega)]; rfl
theorem sl_in {s : List UInt8} {k1 k2 : IntKind} {a b : Int} (h0 : 0 ≤ a) (h1 : a ≤ b) (h2 : b ≤ s.length) : sliceSA (.p (.str s)) (some (.p (.int k1 a))) (some (.p (.int k2 b))) = some (.p (.str ((s.take b.toNat).drop a.toNat))) := by
 simp only [sliceSA,bound]
 rw [if_pos ⟨by omega,h2⟩,Option.bind_some,if_pos ⟨h0,by omega⟩,Option.map_some]
theorem sl_to {s : List UInt8} {k2 : IntKind} {b : Int} (h1 : 0 ≤ b) (h2 : b ≤ s.length) : sliceSA (.p (.str s)) none (some (.p (.int k2 b))) = some (.p (.str (s.take b.toNat))) := by
 simp only [sliceSA,bound]
 rw [if_pos ⟨by omega,h2⟩,Option.bind_some,Option.map_some,List.drop_zero]
theorem sl_from {s : List UInt8} {k2 : IntKind} {a : Int} (h1 : 0 ≤ a) (h2 : a ≤ s.length) : sliceSA (.p (.str s)) (some (.p (.int k2 a))) none = some (.p (.str (s.drop a.toNat))) := by
 simp only [sliceSA,bound]
 rw [Option.bind_some,if_pos ⟨by omega,h2⟩,Option.map_some,List.take_length]
theorem not_bool {b : Bool} : unA .not (.p (.bool b)) = some (.p (.bool (!b))) := rfl
def lk (b : Bool) (v : AV) (r : Env) (t : Nat) : AV := match b with | true => v | false => look r t
theorem look_cons {s t : Nat} {v : AV} {r : Env} : look ((s,v) :: r) t = lk (s == t) v r t := by
 unfold look lk
 by_cases h : s = t
 ·subst h; simp
 ·rw [if_neg h,beq_false_of_ne h]
theorem lk_t {v : AV} {r : Env} {t : Nat} : lk true v r t = v := rfl
theorem lk_f {v : AV} {r : Env} {t : Nat} : lk false v r t = look r t := rfl
theorem norm_f {live env H} : norm live none env H = some (prune live env,H) := rfl
def normG (H : Heap) (e : Env) (L : List Nat) : Option (Env × Heap) := match renEnv (place L) e,Heap.pick H L with
  | some e',some H' => some (e',H')
  | _,_ => none
theorem norm_t {live env H} : norm live (some 0) env H = normG H (prune live env) (reach H 64 ((prune live env).flatMap fun x => x.2.refs) []) := by
 have e : ((prune live env).flatMap fun x => x.2.refs) ++ (H.take 0).flatMap Blk.refs = (prune live env).flatMap fun x => x.2.refs := by simp
 unfold norm normG
 simp only [e]
 rfl
theorem norm_1 {live env H} : norm live (some 1) env H = normG H (prune live env) (reach H 64 (((prune live env).flatMap fun x => x.2.refs) ++ (H.take 1).flatMap Blk.refs) [0]) := rfl
theorem ifB_t {α : Type} {x : Option α} : ifB true x = x := rfl
theorem ifB_f {α : Type} {x : Option α} : ifB false x = none := rfl
def envFrom : Nat → List AV → Env
 | _,[] => []
 | n,a :: r => (n,a) :: envFrom (n + 1) r
theorem initEnv_eq {args : List AV} : initEnv args = envFrom 0 args := by
 have key : ∀ (args : List AV) (k : Nat),((args.zipIdx k).map fun x => (x.2,x.1)) = envFrom k args := by
  intro args
  induction args with
  | nil => intro k; rfl
  | cons a r ih => intro k; rw [List.zipIdx_cons,List.map_cons,ih]; rfl
 exact key args 0
def Ends (rvs : List RV) (rs : List PV) : Out → Prop
 | (.ex _,_,_) => False
 | (_,e,h) => optP (mapO (RV.get e h) rvs) fun vs => mapO (reify h 4) vs = some rs
def endK (vs : Option (List AV)) (h : Heap) (rs : List PV) : Prop := optP vs fun vs => mapO (reify h 4) vs = some rs
theorem endK_some {vs h rs} : endK (some vs) h rs ↔ mapO (reify h 4) vs = some rs := Iff.rfl
theorem Ends_nrm {rvs rs e h} : Ends rvs rs (.nrm,e,h) ↔ endK (mapO (RV.get e h) rvs) h rs := Iff.rfl
theorem Ends_ret {rvs rs e h} : Ends rvs rs (.ret,e,h) ↔ endK (mapO (RV.get e h) rvs) h rs := Iff.rfl
theorem get_slot {e h t} : RV.get e h (.slot t) = some (look e t) := rfl
theorem get_cell {e h t sz ag} : RV.get e h (.cell t sz ag) = loadA h sz ag (look e t) := rfl
theorem reify_p {H d v} : reify H d (.p v) = some v := by cases d <;> rfl
theorem reify_own {H d id n} : reify H (d + 1) (.own id n) = (rowOf H id n).map fun r => .sl .any r.1 r.2 := rfl
theorem reify_agg {H d cs} : reify H (d + 1) (.agg cs) = (mapO (reify H d) cs).map .agg := rfl
theorem reify_bx {H d id off} : reify H (d + 1) (.bx id off) = (boxOf H id).bind fun cs => if off < cs.length then (mapO (reify H d) (cs.drop off)).map .ptr else none := rfl
theorem reify_el {H d id n i off} : reify H (d + 1) (.el id n i off) = (rowOf H id n).bind fun r => r.2[i]?.bind fun x => if off < x.cells.length then some (.ptr (x.cells.drop off)) else none := rfl
theorem reify_clo {H d f cs} : reify H (d + 1) (.clo f cs) = (mapO (reify H d) cs).map (.clo f) := rfl
theorem mapO_nil {α β : Type} {f : α → Option β} : mapO f [] = some [] := rfl
theorem mapO_cons {α β : Type} {f : α → Option β} {c r} : mapO f (c :: r) = (f c).bind fun x => (mapO f r).map (x :: ·) := by
 simp only [mapO]
 cases f c with
 | none => rfl
 | some x => cases mapO f r <;> rfl
theorem res_code {Γ : Ctx} {f : Nat} {fn : AFn} {args rs : List PV} (hf : Γ.fn f = some (.code fn)) (hl : args.length = fn.np)
  (h : Wp Γ fn.body (envFrom 0 (args.map .p)) [] (Ends fn.results rs)) : res Γ f args = some rs := by
 refine res_of (RunP_of hf hl ?_)
 rw [initEnv_eq]
 refine h.mono ?_
 rintro ⟨x,e,h⟩ ho
 cases x
 ·exact ⟨by simp,ho⟩
 ·exact ho.elim
 ·exact ⟨by simp,ho⟩
section
variable {Γ : Ctx} {env : Env} {H : Heap} {live : List Nat} {Q : Out → Prop} {r : List St} {dst : Option Nat} {c : Prop} [Decidable c] {op : QOp ⊕ XOp} {a b : Code}
theorem cond_pos (h : c) : condC Γ (.p (.bool (decide c))) a b env H Q ↔ Wp Γ a env H Q := by rw [decide_eq_true h]; exact condC_true
theorem cond_neg (h : ¬c) : condC Γ (.p (.bool (decide c))) a b env H Q ↔ Wp Γ b env H Q := by rw [decide_eq_false h]; exact condC_false
theorem cond_split (h1 : c → Wp Γ a env H Q) (h2 : ¬c → Wp Γ b env H Q) : condC Γ (.p (.bool (decide c))) a b env H Q := by
 by_cases h : c
 ·exact (cond_pos h).2 (h1 h)
 ·exact (cond_neg h).2 (h2 h)
theorem gd_pt (h : c) : gdK Γ (.p (.bool (decide c))) true dst op r env H live Q ↔ WpL Γ (⟨dst,none,op⟩ :: r) env H live Q := by rw [decide_eq_true h]; exact gdK_tt
theorem gd_nt (h : ¬c) : gdK Γ (.p (.bool (decide c))) true dst op r env H live Q ↔ WpL Γ r (put env dst .nov) H live Q := by rw [decide_eq_false h]; exact gdK_ft
theorem gd_pf (h : c) : gdK Γ (.p (.bool (decide c))) false dst op r env H live Q ↔ WpL Γ r (put env dst .nov) H live Q := by rw [decide_eq_true h]; exact gdK_tf
theorem gd_nf (h : ¬c) : gdK Γ (.p (.bool (decide c))) false dst op r env H live Q ↔ WpL Γ (⟨dst,none,op⟩ :: r) env H live Q := by rw [decide_eq_false h]; exact gdK_ff
theorem gd_split_t (h1 : c → WpL Γ (⟨dst,none,op⟩ :: r) env H live Q) (h2 : ¬c → WpL Γ r (put env dst .nov) H live Q) : gdK Γ (.p (.bool (decide c))) true dst op r env H live Q := by
 by_cases h : c
 ·exact (gd_pt h).2 (h1 h)
 ·exact (gd_nt h).2 (h2 h)
theorem gd_split_f (h1 : ¬c → WpL Γ (⟨dst,none,op⟩ :: r) env H live Q) (h2 : c → WpL Γ r (put env dst .nov) H live Q) : gdK Γ (.p (.bool (decide c))) false dst op r env H live Q := by
 by_cases h : c
 ·exact (gd_pf h).2 (h2 h)
 ·exact (gd_nf h).2 (h1 h)
theorem pick_pos {x y : AV} (h : c) : pickA (.p (.bool (decide c))) x y = some x := by rw [decide_eq_true h]; rfl
theorem pick_neg {x y : AV} (h : ¬c) : pickA (.p (.bool (decide c))) x y = some y := by rw [decide_eq_false h]; rfl
theorem pick_t {x y : AV} : pickA (.p (.bool true)) x y = some x := rfl
theorem pick_f {x y : AV} : pickA (.p (.bool false)) x y = some y := rfl
end
attribute [go_sem] cond_pos cond_neg gd_pt gd_nt gd_pf gd_nf wrap_i64 wrap_u8
attribute [go_sem] W_seq W_ops W_cond Wp_block Wp_skip Wp_exit Wp_ret NxtC_nrm NxtC_ex NxtC_ret InBlk_nrm InBlk_ret InBlk_same condC_true condC_false L_nil L_guard gdK_tt gdK_ff gdK_tf gdK_ft gdK_nov opK_some opX_some lpK_some L_mov L_pick L_nilchk L_bin L_eqs L_eqk L_un L_conv L_runeStr L_len L_idx L_faddr L_iaddr L_iaddrA L_load L_sliceS L_build L_bslice L_ext L_mget L_mlen L_isnil L_mkmap L_mset L_msets L_minmax L_clos L_alloc L_box L_store L_mkslice L_newrow L_append L_slicef L_range L_next L_call L_callf
attribute [go_sem] envFrom Ends_nrm Ends_ret endK_some get_slot get_cell Arg.ev look_cons lk_t lk_f put prune norm_f norm_t norm_1 List.map_cons List.map_nil pick_t pick_f pick_pos pick_neg nilchkA not_bool convA runeStrA sameA extA closA callee callR mapO_nil mapO_cons reify_p reify_own reify_agg reify_el reify_clo List.append_nil List.nil_append List.cons_append idx_in map_add map_sub map_mul map_lss map_leq map_gtr map_geq map_eql map_neq map_seql map_sneq map_sadd sl_in sl_to sl_from aidxA fldA faddrA bsliceA boxA appendSA copyA bytesOfA mkAgg chunks results AV.cells PV.cells AV.ok AV.one PV.one AV.isP allP rowsOnly elOk eqsA eqkA eqK eqCells ifB_t ifB_f flat flat1
attribute [go_sem] Nat.reduceEqDiff reduceCtorEq ite_false ite_true if_true if_false true_or or_true false_or or_false true_and and_true not_true_eq_false not_false_eq_true Option.map_some Option.map_none Option.bind_some Option.bind_none and_self Bool.false_eq_true Bool.not_true Bool.not_false Bool.true_and Bool.and_true Bool.or_true Bool.true_or Bool.false_or Bool.or_false Bool.and_false Bool.false_and toNat_cast List.all_cons List.all_nil List.flatMap_cons List.flatMap_nil List.getElem?_cons_zero List.getElem?_cons_succ List.length_cons List.length_nil List.drop_zero List.take_zero List.set_cons_zero List.set_cons_succ
attribute [go_sem] Nat.reduceBEq Nat.reduceBNe Nat.reduceLeDiff Nat.reduceAdd Nat.reduceSub Nat.reduceMul Nat.reduceLT Int.reduceLT Int.reduceLE Int.reduceEq Int.reduceNe Int.reduceAdd Int.reduceSub Int.reduceMul Int.reduceNeg Int.reduceToNat Int.toNat_zero Int.toNat_one eq_self decide_true decide_false
end Ab
namespace Ab
open Go (IntKind BinOp UnOp)
def strs (l : List (List UInt8)) : List PV := l.map .str
def ints (k : IntKind) (l : List Int) : List PV := l.map (.int k)
def bools (l : List Bool) : List PV := l.map .bool
def aggs (l : List (List PV)) : List PV := l.map .agg
theorem strs_len {l} : (strs l).length = l.length := by simp [strs]
theorem ints_len {k l} : (ints k l).length = l.length := by simp [ints]
theorem bools_len {l} : (bools l).length = l.length := by simp [bools]
theorem aggs_len {l} : (aggs l).length = l.length := by simp [aggs]
theorem strs_app {l l'} : strs l ++ strs l' = strs (l ++ l') := by simp [strs]
theorem strs_one {l a} : strs l ++ [.str a] = strs (l ++ [a]) := by simp [strs]
theorem strs_get {l : List (List UInt8)} {i : Nat} (h : i < l.length) : (strs l)[i]? = some (.str (l.getD i [])) := by simp [strs,List.getElem?_eq_getElem h]
theorem bools_get {l : List Bool} {i : Nat} (h : i < l.length) : (bools l)[i]? = some (.bool (l.getD i false)) := by simp [bools,List.getElem?_eq_getElem h]
theorem aggs_get {l : List (List PV)} {i : Nat} (h : i < l.length) : (aggs l)[i]? = some (.agg (l.getD i [])) := by simp [aggs,List.getElem?_eq_getElem h]
theorem strs_set {l i a} : (strs l).set i (.str a) = strs (l.set i a) := by simp [strs,List.map_set]
theorem bools_set {l i a} : (bools l).set i (.bool a) = bools (l.set i a) := by simp [bools,List.map_set]
theorem strs_take {l n} : (strs l).take n = strs (l.take n) := by simp [strs,List.map_take]
theorem strs_rep {n a} : List.replicate n (.str a) = strs (List.replicate n a) := by simp [strs]
theorem bools_rep {n a} : List.replicate n (.bool a) = bools (List.replicate n a) := by simp [bools]
def rowAt (b : Option Blk) (n : Nat) : Option (Nat × List PV) :=
 match b with
 | some (.row _ sz xs) => if xs.length = n then some (sz,xs) else none
 | _ => none
theorem rowOf_eq {H : Heap} {id n : Nat} : rowOf H id n = rowAt H[id]? n := by
 unfold rowOf rowAt
 cases H[id]? with
 | none => rfl
 | some b => cases b <;> rfl
theorem rowAt_pos {f sz xs n} (h : xs.length = n) : rowAt (some (.row f sz xs)) n = some (sz,xs) := by simp [rowAt,h]
theorem len_own {H id n} : asLen H false (.own id n) = (rowOf H id n).map fun _ => n := rfl
theorem len_sl {H k sz xs} : asLen H false (.p (.sl k sz xs)) = some xs.length := rfl
theorem len_str {H s} : asLen H true (.p (.str s)) = some s.length := rfl
theorem iaddr_own {H : Heap} {id n : Nat} {f sz xs k i} (hb : H[id]? = some (.row f sz xs)) (hl : xs.length = n) (h0 : 0 ≤ i) (h1 : i < (n : Int)) : iaddrA H sz (.own id n) (.p (.int k i)) = some (.el id n i.toNat 0) := by
 simp only [iaddrA,rowOf_eq,hb,rowAt_pos hl,Option.bind_some]
 rw [if_pos ⟨trivial,h0,h1⟩]
theorem iaddr_sl {H sz xs k' k i x} (h0 : 0 ≤ i) (hx : xs[i.toNat]? = some x) : iaddrA H sz (.p (.sl k' sz xs)) (.p (.int k i)) = some (.p (.ptr x.cells)) := by
 simp only [iaddrA,h0,and_self,if_true,hx,Option.map_some]
theorem iaddr_strs {H xs k' k i} (h0 : 0 ≤ i) (h : i < (xs.length : Int)) : iaddrA H 1 (.p (.sl k' 1 (strs xs))) (.p (.int k i)) = some (.p (.ptr [.str (xs.getD i.toNat [])])) := iaddr_sl h0 (strs_get (by omega))
theorem iaddr_aggs {H xs sz k' k i} (h0 : 0 ≤ i) (h : i < (xs.length : Int)) : iaddrA H sz (.p (.sl k' sz (aggs xs))) (.p (.int k i)) = some (.p (.ptr (xs.getD i.toNat []))) := iaddr_sl h0 (aggs_get (by omega))
theorem load_ptr {H sz ag cells} : loadA H sz ag (.p (.ptr cells)) = takeP sz ag cells := rfl
def tkO (sz : Nat) (ag : Bool) (off : Nat) (b : Option (List AV)) : Option AV := b.bind fun cs => takeA sz ag (cs.drop off)
theorem load_bx {H sz ag id off} : loadA H sz ag (.bx id off) = tkO sz ag off (boxOf H id) := rfl
theorem tkO_some {sz ag off cs} : tkO sz ag off (some cs) = takeA sz ag (cs.drop off) := rfl
attribute [go_sem] tkO_some
theorem takeP_one {sz c r} : takeP sz false (c :: r) = some (.p c) := rfl
theorem takeP_ag {sz cs} (h : cs.length = sz) : takeP sz true cs = some (.p (.agg cs)) := by simp [takeP,← h]
theorem elems_p {H sz k xs} : elemsOf H sz (.p (.sl k sz xs)) = some xs := by simp [elemsOf]
theorem app_nil {H sz sz' ys} (hm : ys.length ≤ 1073741824) : appendA H sz (.p (.sl .nil sz' [])) ys = some (.own H.length ys.length,H ++ [.row false sz ys]) := by
 simp only [appendA]
 rw [if_pos ⟨.inl trivial,by simp only [List.nil_append,lim]; omega⟩]
theorem mks {H sz ag zero k k' n} (h0 : 0 ≤ n) (hm : n ≤ 1073741824) : mksliceA H sz ag zero (.p (.int k n)) (.p (.int k' n)) = some (.own H.length n.toNat,H ++ [.row false sz (List.replicate n.toNat (if ag then .agg zero else zero.headD .nilp))]) := by
 simp only [mksliceA]
 rw [if_pos ⟨h0,trivial,by unfold lim; omega⟩]
theorem slf_p {H sz v lo hi} : slicefA H sz (.p v) lo hi = (sliceA sz (.p v) lo hi).map fun v => (v,H) := rfl
theorem frz_nil {H} : freeze H [] = H := rfl
theorem frz_p {H v r} : freeze H (.p v :: r) = freeze H r := rfl
theorem cut_to {s : List PV} {sz kk} {k2 : IntKind} {b : Int} (h1 : 0 ≤ b) (h2 : b ≤ s.length) : sliceA sz (.p (.sl kk sz s)) none (some (.p (.int k2 b))) = some (.p (.sl kk.cut sz (s.take b.toNat))) := by
 simp only [sliceA,bound,if_true]
 rw [if_pos ⟨by omega,h2⟩,Option.bind_some,Option.map_some,List.drop_zero]
theorem cut_from {s : List PV} {sz kk} {k2 : IntKind} {a : Int} (h1 : 0 ≤ a) (h2 : a ≤ s.length) : sliceA sz (.p (.sl kk sz s)) (some (.p (.int k2 a))) none = some (.p (.sl kk.cut sz (s.drop a.toNat))) := by
 simp only [sliceA,bound,if_true]
 rw [Option.bind_some,if_pos ⟨by omega,h2⟩,Option.map_some,List.take_length]
theorem cutk_any : SK.any.cut = .any := rfl
theorem cutk_mem : SK.mem.cut = .mem := rfl
theorem cutk_tight : SK.tight.cut = .mem := rfl
theorem cutk_nil : SK.nil.cut = .nil := rfl
theorem app_tight0 {H sz ys} (hm : ys.length ≤ 1073741824) : appendA H sz (.p (.sl .tight sz [])) ys = some (.own H.length ys.length,H ++ [.row false sz ys]) := by
 simp only [appendA]
 rw [if_pos ⟨.inr ⟨trivial,trivial⟩,by simp only [List.nil_append,lim]; omega⟩]
attribute [go_sem] cutk_any cutk_mem cutk_tight cutk_nil app_tight0
theorem min_max2 {mx k k' x y} : minmax mx [.p (.int k x),.p (.int k' y)] = some (.p (.int k (if mx then max x y else min x y))) := by
 cases mx
 ·simp only [minmax,Bool.false_eq_true,if_false]; congr 3; rw [Int.min_def]; split <;> split <;> omega
 ·simp only [minmax,if_true]; congr 3; rw [Int.max_def]; split <;> split <;> omega
def fillK (b : Bool) (zero : List AV) (off sz : Nat) (v : AV) (r : List (Nat × Nat × AV)) : Option (List AV) :=
 match b with
 | true => fillA (zero.take off ++ v.cells ++ zero.drop (off + sz)) r
 | false => none
theorem fill_nil {zero} : fillA zero [] = some zero := rfl
theorem fill_cons {zero off sz v r} : fillA zero ((off,sz,v) :: r) = fillK (v.ok && (v.cells.length == sz) && decide (off + sz ≤ zero.length)) zero off sz v r := by
 unfold fillK
 by_cases h : v.ok = true ∧ v.cells.length = sz ∧ off + sz ≤ zero.length
 ·simp [fillA,h]
 ·rw [show (v.ok && (v.cells.length == sz) && decide (off + sz ≤ zero.length)) = false by simpa [and_assoc] using h]
  simp only [fillA]; rw [if_neg h]
theorem fill_t {zero off sz v r} : fillK true zero off sz v r = fillA (zero.take off ++ v.cells ++ zero.drop (off + sz)) r := rfl
theorem pures_nil : pures [] = some [] := rfl
theorem pures_p {v r} : pures (.p v :: r) = (pures r).map (v :: ·) := rfl
theorem pures_own {id n r} : pures (.own id n :: r) = none := rfl
theorem pures_bx {id n r} : pures (.bx id n :: r) = none := rfl
theorem pures_el {id n i o r} : pures (.el id n i o :: r) = none := rfl
theorem pures_agg {cs r} : pures (.agg cs :: r) = none := rfl
theorem pures_clo {f cs r} : pures (.clo f cs :: r) = none := rfl
attribute [go_sem] pures_own pures_bx pures_el pures_agg pures_clo
attribute [go_sem] List.getD_cons_zero List.getD_cons_succ
theorem iaddr_lit {H sz xs k' k} {i : Int} (h0 : 0 ≤ i) : iaddrA H sz (.p (.sl k' sz xs)) (.p (.int k i)) = (xs[i.toNat]?).map fun x => .p (.ptr x.cells) := by simp [iaddrA,h0]
attribute [go_sem low] iaddr_lit
attribute [go_sem] beq_self_eq_true
attribute [go_sem] fill_nil fill_cons fill_t pures_nil pures_p List.take_succ_cons List.drop_succ_cons List.drop_nil List.take_nil List.append_assoc
def iaddrK (b : Option Blk) (sz id n : Nat) (i : Int) : Option AV := match b with
 | some (.row _ sz' xs) => if sz = sz' ∧ xs.length = n ∧ 0 ≤ i ∧ i < (n : Int) then some (.el id n i.toNat 0) else none
 | _ => none
theorem iaddr_K {H : Heap} {id n sz : Nat} {k i} : iaddrA H sz (.own id n) (.p (.int k i)) = iaddrK H[id]? sz id n i := by
 simp only [iaddrA,rowOf_eq,iaddrK]
 cases H[id]? with
 | none => rfl
 | some b =>
  cases b with
  | box => rfl
  | dead => rfl
  | row f sz' xs =>
   by_cases h : xs.length = n
   ·simp [rowAt,h]
   ·simp [rowAt,h]
theorem iaddrK_pos {f sz xs id} {n : Nat} {i} (h : xs.length = n) (h1 : 0 ≤ i) (h2 : i < (n : Int)) : iaddrK (some (.row f sz xs)) sz id n i = some (.el id n i.toNat 0) := by simp [iaddrK,h,h1,h2]
def loadK (b : Option Blk) (s : Nat) (ag : Bool) (n i off : Nat) : Option AV := match b with
 | some (.row _ _ xs) => if xs.length = n then xs[i]?.bind fun x => takeP s ag (x.cells.drop off) else none
 | _ => none
theorem load_K {H : Heap} {id n i off s : Nat} {ag} : loadA H s ag (.el id n i off) = loadK H[id]? s ag n i off := by
 simp only [loadA,rowOf_eq,loadK]
 cases H[id]? with
 | none => rfl
 | some b =>
  cases b with
  | box => rfl
  | dead => rfl
  | row f sz' xs => by_cases h : xs.length = n <;> simp [rowAt,h]
theorem loadK_strs {f sz l n i} (h : l.length = n) (h' : i < n) : loadK (some (.row f sz (strs l))) 1 false n i 0 = some (.p (.str (l.getD i []))) := by
 simp only [loadK,strs_len,h,if_true,strs_get (show i < l.length by omega),Option.bind_some,PV.cells,List.drop_zero,takeP_one]
theorem loadK_bools {f sz l n i} (h : l.length = n) (h' : i < n) : loadK (some (.row f sz (bools l))) 1 false n i 0 = some (.p (.bool (l.getD i false))) := by
 simp only [loadK,bools_len,h,if_true,bools_get (show i < l.length by omega),Option.bind_some,PV.cells,List.drop_zero,takeP_one]
def storeK (H : Heap) (b : Option Blk) (sz id n i off : Nat) (v : AV) : Option Heap := match b with
  | some (.row false sz' xs) => if xs.length = n then
        (xs[i]?).bind fun x => (pures v.cells).bind fun ps =>
          if v.ok = true ∧ 0 < sz ∧ ps.length = sz ∧ off + sz ≤ x.cells.length then
            some (H.set id (.row false sz' (xs.set i (setPart off sz ps x)))) else none
      else none
  | _ => none
theorem store_K {H : Heap} {id n i off sz : Nat} {v} : storeA H sz (.el id n i off) v = storeK H H[id]? sz id n i off v := by
 unfold storeA storeK
 rfl
theorem storeK_one {H : Heap} {id n xs i sz' x v} (hl : xs.length = n) (hx : xs[i]? = some x) (h1 : x.one = true) (hv : v.one = true) :
  storeK H (some (.row false sz' xs)) 1 id n i 0 (.p v) = some (H.set id (.row false sz' (xs.set i v))) := by
 have e1 : x.cells = [x] := by cases x <;> first | rfl | cases h1
 have e2 : (AV.p v).cells = [.p v] := by cases v <;> first | rfl | cases hv
 have e3 : setPart 0 1 [v] x = v := by cases x <;> first | rfl | cases h1
 simp only [storeK,hl,if_true,hx,Option.bind_some,e1,e2,pures,Option.map_some,AV.ok,List.length_cons,List.length_nil,e3]
 simp
theorem storeK_strs {H : Heap} {sz' id n l i a} (h : l.length = n) (h' : i < n) : storeK H (some (.row false sz' (strs l))) 1 id n i 0 (.p (.str a)) = some (H.set id (.row false sz' (strs (l.set i a)))) := by
 rw [storeK_one (strs_len.trans h) (strs_get (by omega)) rfl rfl,strs_set]
theorem storeK_bools {H : Heap} {sz' id n l i a} (h : l.length = n) (h' : i < n) : storeK H (some (.row false sz' (bools l))) 1 id n i 0 (.p (.bool a)) = some (H.set id (.row false sz' (bools (l.set i a)))) := by
 rw [storeK_one (bools_len.trans h) (bools_get (by omega)) rfl rfl,bools_set]
def elemsK (b : Option Blk) (sz n : Nat) : Option (List PV) := match b with
 | some (.row _ sz' xs) => if xs.length = n ∧ sz = sz' then some xs else none
 | _ => none
theorem elems_K {H : Heap} {sz id n : Nat} : elemsOf H sz (.own id n) = elemsK H[id]? sz n := by
 simp only [elemsOf,rowOf_eq,elemsK]
 cases H[id]? with
 | none => rfl
 | some b =>
  cases b with
  | box => rfl
  | dead => rfl
  | row f sz' xs => by_cases h : xs.length = n <;> simp [rowAt,h]
theorem elemsK_pos {f sz xs n} (h : xs.length = n) : elemsK (some (.row f sz xs)) sz n = some xs := by simp [elemsK,h]
def appK (H : Heap) (b : Option Blk) (sz id n : Nat) (ys : List PV) : Option (AV × Heap) := match b with
 | some (.row false sz' xs) => if xs.length = n ∧ sz' = sz ∧ (xs ++ ys).length ≤ lim then some (.own id (xs ++ ys).length,H.set id (.row false sz (xs ++ ys))) else none
 | _ => none
theorem app_K {H : Heap} {sz id n : Nat} {ys} : appendA H sz (.own id n) ys = appK H H[id]? sz id n ys := by
 unfold appendA appK
 rfl
theorem appK_pos {H : Heap} {sz id n xs ys} (h : xs.length = n) (h' : xs.length + ys.length ≤ 1073741824) : appK H (some (.row false sz xs)) sz id n ys = some (.own id (n + ys.length),H.set id (.row false sz (xs ++ ys))) := by
 simp only [appK]
 rw [if_pos ⟨h,trivial,by simp only [List.length_append,lim]; omega⟩,List.length_append,h]
def slfK (H : Heap) (b : Option Blk) (sz id n : Nat) (lo hi : Option AV) : Option (AV × Heap) := match b with
 | some (.row _ sz' xs) => if xs.length = n then (sliceA sz (.p (.sl .any sz' xs)) lo hi).map fun v => (v,freeze H [.own id n]) else none
 | _ => none
theorem slf_K {H : Heap} {sz id n : Nat} {lo hi} : slicefA H sz (.own id n) lo hi = slfK H H[id]? sz id n lo hi := by
 simp only [slicefA,rowOf_eq,slfK]
 cases H[id]? with
 | none => rfl
 | some b =>
  cases b with
  | box => rfl
  | dead => rfl
  | row f sz' xs => by_cases h : xs.length = n <;> simp [rowAt,h]
theorem slfK_pos {H : Heap} {f sz sz' xs id n lo hi} (h : xs.length = n) : slfK H (some (.row f sz' xs)) sz id n lo hi = (sliceA sz (.p (.sl .any sz' xs)) lo hi).map fun v => (v,freeze H [.own id n]) := by simp [slfK,h]
def frzK (H : Heap) (b : Option Blk) (id : Nat) (r : List AV) : Heap := freeze (match b with | some (.row _ sz xs) => H.set id (.row true sz xs) | _ => H) r
theorem frz_K {H : Heap} {id n r} : freeze H (.own id n :: r) = frzK H H[id]? id r := rfl
theorem frzK_row {H : Heap} {f sz xs id r} : frzK H (some (.row f sz xs)) id r = freeze (H.set id (.row true sz xs)) r := rfl
theorem set_rep {α : Type} {l : List α} {n i : Nat} {x a : α} (h : l.length = i ∧ 1 ≤ n) : (l ++ List.replicate n x).set i a = l ++ (a :: List.replicate (n - 1) x) := by
 obtain ⟨rfl,hn⟩ := h
 obtain ⟨m,rfl⟩ : ∃ m,n = m + 1 := ⟨n - 1,by omega⟩
 rw [List.set_append_right _ _ (Nat.le_refl _),Nat.sub_self,List.replicate_succ]
 rfl
def storeBK (cs : Option (List AV)) (H : Heap) (id off sz : Nat) (v : AV) : Option Heap := cs.bind fun cs => ifB (v.ok && (v.cells.length == sz) && decide (off + sz ≤ cs.length)) (some (H.set id (.box (cs.take off ++ v.cells ++ cs.drop (off + sz)))))
theorem store_B {H : Heap} {id off sz : Nat} {v : AV} : storeA H sz (.bx id off) v = storeBK (boxOf H id) H id off sz v := by
 simp only [storeA,storeBK]
 congr 1
 funext cs
 by_cases h : v.ok = true ∧ v.cells.length = sz ∧ off + sz ≤ cs.length
 ·rw [if_pos h]; simp [h,ifB]
 ·rw [if_neg h,show (v.ok && (v.cells.length == sz) && decide (off + sz ≤ cs.length)) = false by simpa [and_assoc] using h]; rfl
theorem stB_lit {cs : List AV} {H : Heap} {id off sz : Nat} {v : AV} : storeBK (some cs) H id off sz v = ifB (v.ok && (v.cells.length == sz) && decide (off + sz ≤ cs.length)) (some (H.set id (.box (cs.take off ++ v.cells ++ cs.drop (off + sz))))) := rfl
theorem stB_cell {cs : List PV} {H : Heap} {id off : Nat} {v : PV} (hv : v.one = true) (h : off < cs.length) : storeBK (some (cs.map .p)) H id off 1 (.p v) = some (H.set id (.box ((cs.set off v).map .p))) := by
 have e2 : (AV.p v).cells = [.p v] := by cases v <;> first | rfl | cases hv
 rw [stB_lit,e2]
 simp only [AV.ok,List.length_cons,List.length_nil,List.length_map]
 rw [show (true && (0 + 1 == 1) && decide (off + 1 ≤ cs.length)) = true by simp; omega]
 simp only [ifB]
 congr 3
 rw [List.map_set,List.set_eq_take_append_cons_drop,if_pos (by simpa using h)]
 simp
theorem stB_whole {cs cs' : List PV} {H : Heap} {id n : Nat} (h : cs'.length = n) (h' : cs.length = n) : storeBK (some (cs.map .p)) H id 0 n (.p (.agg cs')) = some (H.set id (.box (cs'.map .p))) := by
 subst h'
 rw [stB_lit]
 simp only [AV.ok,AV.cells,PV.cells,List.length_map,h,Nat.zero_add]
 rw [show (true && (cs.length == cs.length) && decide (cs.length ≤ cs.length)) = true by simp]
 simp only [ifB]
 rw [List.drop_of_length_le (by simp)]
 simp
attribute [go_sem low] stB_lit
theorem stB_bool {l : List Bool} {H : Heap} {id off : Nat} {b : Bool} (h : off < l.length) : storeBK (some ((bools l).map .p)) H id off 1 (.p (.bool b)) = some (H.set id (.box ((bools (l.set off b)).map .p))) := by
 rw [stB_cell rfl (by rw [bools_len]; exact h),bools_set]
attribute [go_sem] stB_bool stB_whole
theorem neg_int {k n} : unA .neg (.p (.int k n)) = some (.p (.int k (k.wrap (0 - n)))) := rfl
theorem beq_self_t : (true == true) = true := rfl
theorem beq_self_f : (false == false) = true := rfl
theorem beq_tf : (true == false) = false := rfl
theorem beq_ft : (false == true) = false := rfl
attribute [go_sem] Bool.bne_false Bool.bne_true beq_self_t beq_self_f beq_tf beq_ft
attribute [go_sem] neg_int
def nextK (b : Option Blk) (H : Heap) (id : Nat) : Option (AV × Heap) := match b with
 | some (.box [.nov,.p (.str s),.p (.int .i64 pos)]) =>
   if pos < s.length then some (.tup [.p (.bool true),.p (.int .i64 pos),.p (.int .i32 (runeAt s pos.toNat).1)],H.set id (.box (iterCells s (pos.toNat + (runeAt s pos.toNat).2))))
   else some (.tup [.p (.bool false)],H)
 | _ => none
theorem next_K {H : Heap} {id : Nat} : nextA H (.bx id 0) = nextK H[id]? H id := by
 unfold nextA nextK
 rfl
theorem next_more {H : Heap} {id pos : Nat} {s : List UInt8} (h : pos < s.length) : nextK (some (.box (iterCells s pos))) H id = some (.tup [.p (.bool true),.p (.int .i64 pos),.p (.int .i32 (runeAt s pos).1)],H.set id (.box (iterCells s (pos + (runeAt s pos).2)))) := by
 simp only [nextK,iterCells,Int.toNat_natCast]
 rw [if_pos (by omega)]
theorem next_end {H : Heap} {id pos : Nat} {s : List UInt8} (h : ¬ pos < s.length) : nextK (some (.box (iterCells s pos))) H id = some (.tup [.p (.bool false)],H) := by
 simp only [nextK,iterCells]
 rw [if_neg (by omega)]
theorem range_str {H : Heap} {s : List UInt8} : rangeA H (.p (.str s)) = some (.bx H.length 0,H ++ [.box (iterCells s 0)]) := rfl
attribute [go_sem] next_K next_more next_end range_str
attribute [go_sem] store_B Int.min_eq_left Int.min_eq_right Int.max_eq_left Int.max_eq_right List.headD_cons
theorem set_one {α : Type} {l : List α} {i : Nat} {x a : α} (h : l.length = i) : (l ++ [x]).set i a = l ++ [a] := by subst h; simp
attribute [go_sem] set_one
def boxK (b : Option Blk) : Option (List AV) := match b with
 | some (.box (.nov :: _)) => none
 | some (.box cs) => some cs
 | _ => none
theorem box_K {H : Heap} {id : Nat} : boxOf H id = boxK H[id]? := by
 unfold boxOf boxK
 rfl
theorem boxK_map {cs : List PV} : boxK (some (.box (cs.map .p))) = some (cs.map .p) := by cases cs <;> rfl
theorem boxK_p {v r} : boxK (some (.box (.p v :: r))) = some (.p v :: r) := rfl
theorem boxK_own {id n r} : boxK (some (.box (.own id n :: r))) = some (.own id n :: r) := rfl
theorem boxK_bx {id n r} : boxK (some (.box (.bx id n :: r))) = some (.bx id n :: r) := rfl
theorem pures_map : ∀ {cs : List PV},pures (cs.map .p) = some cs
 | [] => rfl
 | c :: cs => by simp only [List.map_cons,pures_p,pures_map]; rfl
theorem take_whole {n} {cs : List PV} (h : cs.length = n) : takeA n true (cs.map .p) = some (.p (.agg cs)) := by
 subst h
 simp only [takeA,if_true,List.length_map,Nat.le_refl]
 rw [← List.map_take,List.take_length]
 simp only [mkAgg,pures_map]
theorem reify_map {H d} : ∀ {cs : List PV},mapO (reify H d) (cs.map .p) = some cs
 | [] => rfl
 | c :: cs => by rw [List.map_cons,mapO_cons,reify_p,reify_map]; rfl
theorem iaddr_P {sz n : Nat} {cs k} {i : Int} (h0 : 0 ≤ i) (h1 : i < (n : Int)) (h2 : i.toNat * sz < cs.length) : iaddrAA sz n (.p (.ptr cs)) (.p (.int k i)) = some (.p (.ptr (cs.drop (i.toNat * sz)))) := by simp [iaddrAA,h0,h1,h2]
theorem take_bools {l : List Bool} {i sz : Nat} (h : i < l.length) : takeP sz false ((bools l).drop i) = some (.p (.bool (l.getD i false))) := by
 simp [takeP,bools,List.head?_drop,List.getElem?_eq_getElem h]
theorem iaddr_B {sz n id o : Nat} {k} {i : Int} (h0 : 0 ≤ i) (h1 : i < (n : Int)) : iaddrAA sz n (.bx id o) (.p (.int k i)) = some (.bx id (o + i.toNat * sz)) := by simp [iaddrAA,h0,h1]
theorem take_one {sz c r} : takeA sz false (c :: r) = some c := rfl
theorem take_ag {n} {cs : List AV} (h : n ≤ cs.length) : takeA n true cs = some (mkAgg (cs.take n)) := by simp [takeA,h]
attribute [go_sem low] take_ag
attribute [go_sem] take_one
def rbx (H : Heap) (d off : Nat) (b : Option (List AV)) : Option PV := b.bind fun cs => ifB (decide (off < cs.length)) ((mapO (reify H d) (cs.drop off)).map .ptr)
theorem reify_B {H : Heap} {d id off : Nat} : reify H (d + 1) (.bx id off) = rbx H d off (boxOf H id) := by
 rw [reify_bx]
 unfold rbx
 congr 1
 funext cs
 unfold ifB
 by_cases h : off < cs.length <;> simp [h]
theorem rbx_map {H : Heap} {d off : Nat} {cs : List PV} (h : off < cs.length) : rbx H d off (some (cs.map .p)) = some (.ptr (cs.drop off)) := by
 unfold rbx
 rw [Option.bind_some,show decide (off < (cs.map AV.p).length) = true by simpa using h,← List.map_drop,reify_map]
 rfl
theorem rbx_lit {H : Heap} {d off : Nat} {cs : List AV} : rbx H d off (some cs) = ifB (decide (off < cs.length)) ((mapO (reify H d) (cs.drop off)).map .ptr) := rfl
attribute [go_sem low] rbx_lit
attribute [go_sem] reify_B rbx_map
attribute [go_sem] iaddr_P iaddr_B take_bools Nat.mul_one Nat.zero_add box_K boxK_map boxK_p boxK_own boxK_bx take_whole reify_map List.set_cons_zero
attribute [go_sem] Int.add_zero Int.zero_add Int.sub_zero
attribute [go_sem] iaddr_K iaddrK_pos load_K loadK_strs loadK_bools store_K storeK_strs storeK_bools elems_K elemsK_pos app_K appK_pos slf_K slfK_pos frz_K frzK_row
attribute [go_sem] strs_len bools_len strs_app strs_one strs_get bools_get aggs_get strs_set bools_set strs_take strs_rep bools_rep rowOf_eq rowAt_pos len_own len_sl len_str iaddr_strs iaddr_aggs load_ptr load_bx takeP_one takeP_ag elems_p app_nil mks slf_p frz_nil frz_p cut_to cut_from min_max2
def refsAt (b : Option Blk) : List Nat := match b with | some b => b.refs | none => []
def reachK (c : Bool) (H : Heap) (n : Nat) (id : Nat) (r acc : List Nat) : List Nat := match c with
 | true => reach H n r acc
 | false => reach H n (r ++ refsAt H[id]?) (acc ++ [id])
theorem reach_nil {H : Heap} {n : Nat} {acc : List Nat} : reach H n [] acc = acc := by cases n <;> rfl
theorem reach_cons {H : Heap} {n id : Nat} {r acc : List Nat} : reach H (n + 1) (id :: r) acc = reachK (acc.contains id) H n id r acc := by
 simp only [reach,reachK]
 cases acc.contains id <;> rfl
theorem reachK_t {H : Heap} {n id : Nat} {r acc : List Nat} : reachK true H n id r acc = reach H n r acc := rfl
theorem reachK_f {H : Heap} {n id : Nat} {r acc : List Nat} : reachK false H n id r acc = reach H n (r ++ refsAt H[id]?) (acc ++ [id]) := rfl
theorem refsAt_map {cs : List PV} : refsAt (some (.box (cs.map .p))) = [] := by
 simp only [refsAt,Blk.refs]
 induction cs with
 | nil => rfl
 | cons c cs ih => rw [List.map_cons,List.flatMap_cons,ih]; rfl
theorem refsAt_row {f sz xs} : refsAt (some (.row f sz xs)) = [] := rfl
theorem refsAt_box {cs : List AV} : refsAt (some (.box cs)) = cs.flatMap AV.refs := rfl
theorem refs_p {v : PV} : AV.refs (.p v) = [] := rfl
theorem refs_own {id n} : AV.refs (.own id n) = [id] := rfl
theorem refs_bx {id n} : AV.refs (.bx id n) = [id] := rfl
theorem refs_el {id n i o} : AV.refs (.el id n i o) = [id] := rfl
theorem refs_nov : AV.refs .nov = [] := rfl
def placeK (c : Bool) (r : List Nat) (id : Nat) : Option Nat := match c with
 | true => some 0
 | false => (place r id).map (· + 1)
theorem place_nil {id} : place [] id = none := rfl
theorem place_cons {x r id} : place (x :: r) id = placeK (x == id) r id := by
 unfold place placeK
 by_cases h : x = id
 ·subst h; simp
 ·rw [if_neg h,beq_false_of_ne h]
theorem placeK_t {r id} : placeK true r id = some 0 := rfl
theorem placeK_f {r id} : placeK false r id = (place r id).map (· + 1) := rfl
theorem ren_p {r d v} : AV.ren r d (.p v) = some (.p v) := by cases d <;> rfl
theorem ren_own {r d id n} : AV.ren r d (.own id n) = (r id).map (.own · n) := by cases d <;> rfl
theorem ren_bx {r d id n} : AV.ren r d (.bx id n) = (r id).map (.bx · n) := by cases d <;> rfl
theorem ren_agg {r d cs} : AV.ren r (d + 1) (.agg cs) = (mapO (AV.ren r d) cs).map .agg := rfl
theorem ren_map {r d} : ∀ {cs : List PV},mapO (AV.ren r d) (cs.map .p) = some (cs.map .p)
 | [] => rfl
 | c :: cs => by rw [List.map_cons,mapO_cons,ren_p,ren_map]; rfl
def renE (r : Nat → Option Nat) : Env → Option Env
 | [] => some []
 | (s,v) :: e => (AV.ren r 3 v).bind fun v => (renE r e).map ((s,v) :: ·)
theorem renEnv_eq {r} : ∀ {e : Env},renEnv r e = renE r e
 | [] => rfl
 | (s,v) :: e => by
  have := renEnv_eq (r := r) (e := e)
  simp only [renEnv] at this
  simp only [renEnv,renE,mapO_cons,this]
  cases AV.ren r 3 v <;> rfl
def pickB (H : Heap) (p : Nat → Option Nat) : List Nat → Option Heap
 | [] => some []
 | id :: L => ((H[id]?).bind (Blk.ren p)).bind fun b => (pickB H p L).map (b :: ·)
theorem pick_eq {H : Heap} {L : List Nat} : Heap.pick H L = pickB H (place L) L := by
 have key : ∀ (p : Nat → Option Nat) (L : List Nat),mapO (fun id => (H[id]?).bind (Blk.ren p)) L = pickB H p L := by
  intro p L
  induction L with
  | nil => rfl
  | cons a l ih => rw [mapO_cons,ih]; rfl
 exact key _ _
theorem ren_box {p cs} : Blk.ren p (.box cs) = (mapO (AV.ren p 3) cs).map .box := rfl
theorem ren_row {p f sz xs} : Blk.ren p (.row f sz xs) = some (.row f sz xs) := rfl
def normK (e : Option Env) (h : Option Heap) : Option (Env × Heap) := match e,h with
 | some e,some h => some (e,h)
 | _,_ => none
theorem normG_eq {H : Heap} {e : Env} {L : List Nat} : normG H e L = normK (renE (place L) e) (pickB H (place L) L) := by
 rw [← renEnv_eq,← pick_eq]; rfl
theorem normK_some {e h} : normK (some e) (some h) = some (e,h) := rfl
theorem renE_nil {r} : renE r [] = some [] := rfl
theorem renE_cons {r s v e} : renE r ((s,v) :: e) = (AV.ren r 3 v).bind fun v => (renE r e).map ((s,v) :: ·) := rfl
theorem pickB_nil {H : Heap} {p} : pickB H p [] = some [] := rfl
theorem pickB_cons {H : Heap} {p id L} : pickB H p (id :: L) = ((H[id]?).bind (Blk.ren p)).bind fun b => (pickB H p L).map (b :: ·) := rfl
attribute [go_sem] reach_nil reach_cons reachK_t reachK_f refsAt_map refsAt_row refs_p refs_own refs_bx refs_el refs_nov place_nil place_cons placeK_t placeK_f ren_p ren_own ren_bx ren_agg ren_map ren_box ren_row normG_eq normK_some renE_nil renE_cons pickB_nil pickB_cons List.contains_nil List.contains_cons
attribute [go_sem low] refsAt_box
structure Ser where
 name : List UInt8
 start : Int
 step : Int
 vals : List (Bool × Int)
 cons : Int
def valP (x : Bool × Int) : List PV := [.bool x.1,.int .i64 x.2]
def vpv (l : List (Bool × Int)) : List PV := aggs (l.map valP)
def Ser.pv (k : SK) (s : Ser) : PV := .agg [.str s.name,.int .i64 s.start,.int .i64 s.step,.sl k 2 (vpv s.vals),.int .i64 s.cons]
theorem pair_eta {α β : Type} {x : α × β} : (x.1,x.2) = x := rfl
theorem vpv_len {l} : (vpv l).length = l.length := by simp [vpv,aggs]
theorem vpv_nil : vpv [] = [] := rfl
attribute [go_sem] pair_eta
theorem take_snoc' {α : Type} {l : List α} {i : Nat} (d : α) (h : i < l.length) : l.take (i + 1) = l.take i ++ [l.getD i d] := by
 rw [List.take_add_one,List.getElem?_eq_getElem h]
 simp [List.getElem?_eq_getElem h]
theorem lens : (∀ {α : Type} (a : α) (l : List α),(a :: l).length = l.length + 1) ∧ (∀ {α : Type},([] : List α).length = 0) ∧ (∀ {α : Type} (a b : List α),(a ++ b).length = a.length + b.length) ∧ (∀ {α : Type} (n : Nat) (a : α),(List.replicate n a).length = n) ∧ (∀ {α β : Type} (f : α → β) (l : List α),(l.map f).length = l.length) ∧
    (∀ {α : Type} (l : List α) (i : Nat) (a : α),(l.set i a).length = l.length) ∧ (∀ {α : Type} (n : Nat) (l : List α),(l.take n).length = min n l.length) ∧ (∀ {α : Type} (n : Nat) (l : List α),(l.drop n).length = l.length - n) ∧
    (∀ l,(strs l).length = l.length) ∧ (∀ k l,(ints k l).length = l.length) ∧ (∀ l,(bools l).length = l.length) ∧ (∀ l,(aggs l).length = l.length) ∧ ∀ l,(vpv l).length = l.length :=
  ⟨fun _ _ => rfl,rfl,fun _ _ => List.length_append,fun _ _ => List.length_replicate,fun _ _ => List.length_map _,fun _ _ _ => List.length_set,fun _ _ => List.length_take,fun _ _ => List.length_drop,fun _ => strs_len,fun _ _ => ints_len,fun _ => bools_len,fun _ => aggs_len,fun _ => vpv_len⟩
end Ab
