import Derived.Test.YtgdkafbcchkplaaGreatDoorAbWalk
import Derived.Attr
/- The rules by which a walk in the abstract machine goes. -/
namespace Ab
open Go (IntKind BinOp UnOp)
/-- A byte of a text. -/
def byt (s : List UInt8) (i : Nat) : Int := ((s.getD i 0).toNat : Int)
theorem byt_nonneg {s i} : 0 ≤ byt s i := by unfold byt; omega
theorem byt_le {s i} : byt s i ≤ 255 := by unfold byt; have := (s.getD i 0).toNat_lt; omega
theorem idx_in {s : List UInt8} {k : IntKind} {i : Int} (h0 : 0 ≤ i) (h : i.toNat < s.length) : idxA (.p (.str s)) (.p (.int k i)) = some (.p (.int .u8 (byt s i.toNat))) := by
  simp only [idxA, h0, if_true, List.getElem?_eq_getElem h, Option.map_some, byt, List.getD_eq_getElem?_getD, Option.getD_some]
theorem optm_pos {α : Type} {c : Prop} [Decidable c] {x y : Option α} (h : c) : (if c then x else y) = x := if_pos h
theorem map_add {k a b} : binAV .add (.p (.int k a)) (.p (.int k b)) = some (.p (.int k (k.wrap (a + b)))) := by simp [binAV, binPV, binInt]
theorem map_sub {k a b} : binAV .sub (.p (.int k a)) (.p (.int k b)) = some (.p (.int k (k.wrap (a - b)))) := by simp [binAV, binPV, binInt]
theorem map_mul {k a b} : binAV .mul (.p (.int k a)) (.p (.int k b)) = some (.p (.int k (k.wrap (a * b)))) := by simp [binAV, binPV, binInt]
theorem map_lss {k a b} : binAV .lss (.p (.int k a)) (.p (.int k b)) = some (.p (.bool (decide (a < b)))) := by simp [binAV, binPV, binInt]
theorem map_leq {k a b} : binAV .leq (.p (.int k a)) (.p (.int k b)) = some (.p (.bool (decide (a ≤ b)))) := by simp [binAV, binPV, binInt]
theorem map_gtr {k a b} : binAV .gtr (.p (.int k a)) (.p (.int k b)) = some (.p (.bool (decide (b < a)))) := by simp [binAV, binPV, binInt]
theorem map_geq {k a b} : binAV .geq (.p (.int k a)) (.p (.int k b)) = some (.p (.bool (decide (b ≤ a)))) := by simp [binAV, binPV, binInt]
theorem map_eql {k a b} : binAV .eql (.p (.int k a)) (.p (.int k b)) = some (.p (.bool (decide (a = b)))) := by
  simp only [binAV, binPV, binInt, true_or, if_true, Option.map_some, Option.some.injEq, AV.p.injEq, PV.bool.injEq]; rw [Bool.eq_iff_iff]; simp
theorem map_neq {k a b} : binAV .neq (.p (.int k a)) (.p (.int k b)) = some (.p (.bool (decide (a ≠ b)))) := by
  simp only [binAV, binPV, binInt, true_or, if_true, Option.map_some, Option.some.injEq, AV.p.injEq, PV.bool.injEq]; rw [Bool.eq_iff_iff]; simp
theorem map_seql {a b} : binAV .eql (.p (.str a)) (.p (.str b)) = some (.p (.bool (decide (a = b)))) := by
  simp only [binAV, binPV, binStr, Option.map_some, Option.some.injEq, AV.p.injEq, PV.bool.injEq]; rw [Bool.eq_iff_iff]; simp
theorem map_sneq {a b} : binAV .neq (.p (.str a)) (.p (.str b)) = some (.p (.bool (decide (a ≠ b)))) := by
  simp only [binAV, binPV, binStr, Option.map_some, Option.some.injEq, AV.p.injEq, PV.bool.injEq]; rw [Bool.eq_iff_iff]; simp
theorem map_sadd {a b : List UInt8} (h : a.length + b.length ≤ 9223372036854775807) : binAV .add (.p (.str a)) (.p (.str b)) = some (.p (.str (a ++ b))) := by
  simp only [binAV, binPV, binStr]; rw [if_pos (by unfold maxI; omega)]; rfl
theorem sl_in {s : List UInt8} {k1 k2 : IntKind} {a b : Int} (h0 : 0 ≤ a) (h1 : a ≤ b) (h2 : b ≤ s.length) : sliceSA (.p (.str s)) (some (.p (.int k1 a))) (some (.p (.int k2 b))) = some (.p (.str ((s.take b.toNat).drop a.toNat))) := by
  simp only [sliceSA, bound]
  rw [if_pos ⟨by omega, h2⟩, Option.bind_some, if_pos ⟨h0, by omega⟩, Option.map_some]
theorem sl_to {s : List UInt8} {k2 : IntKind} {b : Int} (h1 : 0 ≤ b) (h2 : b ≤ s.length) : sliceSA (.p (.str s)) none (some (.p (.int k2 b))) = some (.p (.str (s.take b.toNat))) := by
  simp only [sliceSA, bound]
  rw [if_pos ⟨by omega, h2⟩, Option.bind_some, Option.map_some, List.drop_zero]
theorem sl_from {s : List UInt8} {k2 : IntKind} {a : Int} (h1 : 0 ≤ a) (h2 : a ≤ s.length) : sliceSA (.p (.str s)) (some (.p (.int k2 a))) none = some (.p (.str (s.drop a.toNat))) := by
  simp only [sliceSA, bound]
  rw [Option.bind_some, if_pos ⟨by omega, h2⟩, Option.map_some, List.take_length]
theorem fold_add {a b : Nat} : (a : Int) + (b : Int) = ((a + b : Nat) : Int) := rfl
theorem fold_add1 {a : Nat} : (a : Int) + 1 = ((a + 1 : Nat) : Int) := rfl
theorem fold_sub1 {a : Nat} (h : 1 ≤ a) : (a : Int) - 1 = ((a - 1 : Nat) : Int) := by omega
theorem fold_sub {a b : Nat} (h : b ≤ a) : (a : Int) - (b : Int) = ((a - b : Nat) : Int) := by omega
theorem dec_t {c : Prop} [Decidable c] (h : c) : decide c = true := decide_eq_true h
theorem not_bool {b : Bool} : unA .not (.p (.bool b)) = some (.p (.bool (!b))) := rfl
theorem int_len_eq {α} {s : List α} : ((s.length : Nat) : Int) = (s.length : Int) := rfl

def lk (b : Bool) (v : AV) (r : Env) (t : Nat) : AV := match b with | true => v | false => look r t
theorem look_cons {s t : Nat} {v : AV} {r : Env} : look ((s, v) :: r) t = lk (s == t) v r t := by
  unfold look lk
  by_cases h : s = t
  · subst h; simp
  · rw [if_neg h, beq_false_of_ne h]
theorem lk_t {v : AV} {r : Env} {t : Nat} : lk true v r t = v := rfl
theorem lk_f {v : AV} {r : Env} {t : Nat} : lk false v r t = look r t := rfl
theorem norm_f {live env H} : norm live false env H = some (prune live env, H) := rfl
def normG (H : Heap) (e : Env) (L : List Nat) : Option (Env × Heap) := match renEnv (place L) e, Heap.pick H L with
    | some e', some H' => some (e', H')
    | _, _ => none
theorem norm_t {live env H} : norm live true env H = normG H (prune live env) (reach H 64 ((prune live env).flatMap fun x => x.2.refs) []) := rfl
theorem ifB_t {α : Type} {x : Option α} : ifB true x = x := rfl
theorem ifB_f {α : Type} {x : Option α} : ifB false x = none := rfl

def envFrom : Nat → List AV → Env
  | _, [] => []
  | n, a :: r => (n, a) :: envFrom (n + 1) r
theorem initEnv_eq {args : List AV} : initEnv args = envFrom 0 args := by
  have key : ∀ (args : List AV) (k : Nat), ((args.zipIdx k).map fun x => (x.2, x.1)) = envFrom k args := by
    intro args
    induction args with
    | nil => intro k; rfl
    | cons a r ih => intro k; rw [List.zipIdx_cons, List.map_cons, ih]; rfl
  exact key args 0
/-- What is asked of a body's end. -/
def Ends (rvs : List RV) (rs : List PV) : Out → Prop
  | (.ex _, _, _) => False
  | (_, e, h) => optP (mapO (RV.get e h) rvs) fun vs => mapO (reify h 4) vs = some rs
def endK (vs : Option (List AV)) (h : Heap) (rs : List PV) : Prop := optP vs fun vs => mapO (reify h 4) vs = some rs
theorem endK_some {vs h rs} : endK (some vs) h rs ↔ mapO (reify h 4) vs = some rs := Iff.rfl
theorem Ends_nrm {rvs rs e h} : Ends rvs rs (.nrm, e, h) ↔ endK (mapO (RV.get e h) rvs) h rs := Iff.rfl
theorem Ends_ret {rvs rs e h} : Ends rvs rs (.ret, e, h) ↔ endK (mapO (RV.get e h) rvs) h rs := Iff.rfl
theorem get_slot {e h t} : RV.get e h (.slot t) = some (look e t) := rfl
theorem get_cell {e h t sz ag} : RV.get e h (.cell t sz ag) = loadA h sz ag (look e t) := rfl
theorem reify_p {H d v} : reify H d (.p v) = some v := by cases d <;> rfl
theorem reify_own {H d id n} : reify H (d + 1) (.own id n) = (rowOf H id n).map fun r => .sl .any r.1 r.2 := rfl
theorem reify_agg {H d cs} : reify H (d + 1) (.agg cs) = (mapO (reify H d) cs).map .agg := rfl
theorem reify_bx {H d id off} : reify H (d + 1) (.bx id off) = (boxOf H id).bind fun cs => if off < cs.length then (mapO (reify H d) (cs.drop off)).map .ptr else none := rfl
theorem reify_el {H d id n i off} : reify H (d + 1) (.el id n i off) = (rowOf H id n).bind fun r => r.2[i]?.bind fun x => if off < x.cells.length then some (.ptr (x.cells.drop off)) else none := rfl
theorem reify_clo {H d f cs} : reify H (d + 1) (.clo f cs) = (mapO (reify H d) cs).map (.clo f) := rfl
theorem mapO_nil {α β : Type} {f : α → Option β} : mapO f [] = some [] := rfl
theorem mapO_cons {α β : Type} {f : α → Option β} {c r} : mapO f (c :: r) = (f c).bind fun x => (mapO f r).map (x :: ·) := by
  simp only [mapO]
  cases f c with
  | none => rfl
  | some x => cases mapO f r <;> rfl
theorem res_code {Γ : Ctx} {f : Nat} {fn : AFn} {args rs : List PV} (hf : Γ.fn f = some (.code fn)) (hl : args.length = fn.np)
    (h : Wp Γ fn.body (envFrom 0 (args.map .p)) [] (Ends fn.results rs)) : res Γ f args = some rs := by
  refine res_of (RunP_of hf hl ?_)
  rw [initEnv_eq]
  refine h.mono ?_
  rintro ⟨x, e, h⟩ ho
  cases x
  · exact ⟨by simp, ho⟩
  · exact ho.elim
  · exact ⟨by simp, ho⟩

section
variable {Γ : Ctx} {env : Env} {H : Heap} {live : List Nat} {Q : Out → Prop} {r : List St} {dst : Option Nat} {c : Prop} [Decidable c] {op : QOp ⊕ XOp} {a b : Code}
theorem cond_pos (h : c) : condC Γ (.p (.bool (decide c))) a b env H Q ↔ Wp Γ a env H Q := by rw [decide_eq_true h]; exact condC_true
theorem cond_neg (h : ¬c) : condC Γ (.p (.bool (decide c))) a b env H Q ↔ Wp Γ b env H Q := by rw [decide_eq_false h]; exact condC_false
theorem cond_split (h1 : c → Wp Γ a env H Q) (h2 : ¬c → Wp Γ b env H Q) : condC Γ (.p (.bool (decide c))) a b env H Q := by
  by_cases h : c
  · exact (cond_pos h).2 (h1 h)
  · exact (cond_neg h).2 (h2 h)
theorem gd_pt (h : c) : gdK Γ (.p (.bool (decide c))) true dst op r env H live Q ↔ WpL Γ (⟨dst, none, op⟩ :: r) env H live Q := by rw [decide_eq_true h]; exact gdK_tt
theorem gd_nt (h : ¬c) : gdK Γ (.p (.bool (decide c))) true dst op r env H live Q ↔ WpL Γ r (put env dst .nov) H live Q := by rw [decide_eq_false h]; exact gdK_ft
theorem gd_pf (h : c) : gdK Γ (.p (.bool (decide c))) false dst op r env H live Q ↔ WpL Γ r (put env dst .nov) H live Q := by rw [decide_eq_true h]; exact gdK_tf
theorem gd_nf (h : ¬c) : gdK Γ (.p (.bool (decide c))) false dst op r env H live Q ↔ WpL Γ (⟨dst, none, op⟩ :: r) env H live Q := by rw [decide_eq_false h]; exact gdK_ff
theorem gd_split_t (h1 : c → WpL Γ (⟨dst, none, op⟩ :: r) env H live Q) (h2 : ¬c → WpL Γ r (put env dst .nov) H live Q) : gdK Γ (.p (.bool (decide c))) true dst op r env H live Q := by
  by_cases h : c
  · exact (gd_pt h).2 (h1 h)
  · exact (gd_nt h).2 (h2 h)
theorem gd_split_f (h1 : ¬c → WpL Γ (⟨dst, none, op⟩ :: r) env H live Q) (h2 : c → WpL Γ r (put env dst .nov) H live Q) : gdK Γ (.p (.bool (decide c))) false dst op r env H live Q := by
  by_cases h : c
  · exact (gd_pf h).2 (h2 h)
  · exact (gd_nf h).2 (h1 h)
theorem pick_pos {x y : AV} (h : c) : pickA (.p (.bool (decide c))) x y = some x := by rw [decide_eq_true h]; rfl
theorem pick_neg {x y : AV} (h : ¬c) : pickA (.p (.bool (decide c))) x y = some y := by rw [decide_eq_false h]; rfl
theorem pick_t {x y : AV} : pickA (.p (.bool true)) x y = some x := rfl
theorem pick_f {x y : AV} : pickA (.p (.bool false)) x y = some y := rfl
theorem not_dec : unA .not (.p (.bool (decide c))) = some (.p (.bool (decide (¬c)))) := by
  by_cases h : c <;> simp [h, unA, unPV]
end

attribute [go_sem] cond_pos cond_neg gd_pt gd_nt gd_pf gd_nf wrap_i64 wrap_u8
attribute [go_sem] W_seq W_ops W_cond Wp_block Wp_skip Wp_exit Wp_ret NxtC_nrm NxtC_ex NxtC_ret InBlk_nrm InBlk_ret InBlk_same InBlk_other condC_true condC_false L_nil L_guard gdK_tt gdK_ff gdK_tf gdK_ft gdK_nov opK_some opX_some lpK_some
  L_mov L_pick L_nilchk L_bin L_eqs L_eqk L_un L_conv L_same L_strOf L_runeStr L_len L_idx L_aidx L_fld L_faddr L_iaddr L_iaddrA L_load L_sliceS L_slice L_build L_bslice L_ext L_minmax L_clos
  L_alloc L_box L_store L_mkslice L_newrow L_append L_appendS L_copy L_bytesOf L_slicef L_range L_next L_call L_callf
attribute [go_sem] envFrom Ends_nrm Ends_ret endK_some get_slot get_cell Arg.ev look_cons lk_t lk_f put prune norm_f norm_t List.map_cons List.map_nil pick_t pick_f pick_pos pick_neg nilchkA not_dec not_bool convA runeStrA sameA extA closA callee callR mapO_nil mapO_cons reify_p reify_own reify_agg reify_el reify_clo List.append_nil List.nil_append List.cons_append
  idx_in map_add map_sub map_mul map_lss map_leq map_gtr map_geq map_eql map_neq map_seql map_sneq map_sadd sl_in sl_to sl_from
  aidxA fldA faddrA bsliceA boxA appendSA copyA bytesOfA mkAgg chunks results AV.cells PV.cells AV.ok AV.one PV.one AV.isP allP rowsOnly elOk eqsA eqkA eqK eqCells ifB_t ifB_f flat flat1
attribute [go_sem] Nat.reduceEqDiff reduceCtorEq ite_false ite_true if_true if_false true_or or_true false_or or_false true_and and_true not_true_eq_false not_false_eq_true Option.map_some Option.map_none Option.bind_some Option.bind_none and_self
  Bool.false_eq_true Bool.not_true Bool.not_false Bool.true_and Bool.and_true Bool.or_true Bool.true_or Bool.false_or Bool.or_false Bool.and_false Bool.false_and toNat_cast List.all_cons List.all_nil List.flatMap_cons List.flatMap_nil
  List.getElem?_cons_zero List.getElem?_cons_succ List.length_cons List.length_nil List.drop_zero List.take_zero List.set_cons_zero List.set_cons_succ
attribute [go_sem] Nat.reduceBEq Nat.reduceBNe Nat.reduceLeDiff Nat.reduceAdd Nat.reduceSub Nat.reduceMul Nat.reduceLT Int.reduceLT Int.reduceLE Int.reduceEq Int.reduceNe Int.reduceAdd Int.reduceSub Int.reduceMul Int.reduceNeg Int.reduceToNat Int.toNat_zero Int.toNat_one eq_self decide_true decide_false
end Ab
