import Derived.Test.YtjlcnbpehbgfaaaGreatDoorAbPrim
import Derived.Attr
import Derived.Test.YtjlcnbpehbgfaaaGreatDoorCode
namespace Ab
open Go (IntKind BinOp UnOp)
def byt (s : List UInt8) (i : Nat) : Int := ((s.getD i 0).toNat : Int)
theorem byt_nonneg {s i} : 0 ≤ byt s i := by unfold byt; omega
theorem byt_le {s i} : byt s i ≤ 255 := by unfold byt; have := (s.getD i 0).toNat_lt; omega
theorem idx_in {s : List UInt8} {k : IntKind} {i : Int} (h0 : 0 ≤ i) (h : i.toNat < s.length) : idxA (.p (.str s)) (.p (.int k i)) = some (.p (.int .u8 (byt s i.toNat))) := by
 simp only [idxA,h0,if_true,List.getElem?_eq_getElem h,Option.map_some,byt,List.getD_eq_getElem?_getD,Option.getD_some]
theorem map_add {k a b} : binAV .add (.p (.int k a)) (.p (.int k b)) = some (.p (.int k (k.wrap (a + b)))) := by simp [binAV,binPV,binInt]
theorem map_sub {k a b} : binAV .sub (.p (.int k a)) (.p (.int k b)) = some (.p (.int k (k.wrap (a - b)))) := by simp [binAV,binPV,binInt]
theorem map_mul {k a b} : binAV .mul (.p (.int k a)) (.p (.int k b)) = some (.p (.int k (k.wrap (a * b)))) := by simp [binAV,binPV,binInt]
theorem map_lss {k a b} : binAV .lss (.p (.int k a)) (.p (.int k b)) = some (.p (.bool (decide (a < b)))) := by simp [binAV,binPV,binInt]
theorem map_leq {k a b} : binAV .leq (.p (.int k a)) (.p (.int k b)) = some (.p (.bool (decide (a ≤ b)))) := by simp [binAV,binPV,binInt]
theorem map_gtr {k a b} : binAV .gtr (.p (.int k a)) (.p (.int k b)) = some (.p (.bool (decide (b < a)))) := by simp [binAV,binPV,binInt]
theorem map_geq {k a b} : binAV .geq (.p (.int k a)) (.p (.int k b)) = some (.p (.bool (decide (b ≤ a)))) := by simp [binAV,binPV,binInt]
theorem map_eql {k a b} : binAV .eql (.p (.int k a)) (.p (.int k b)) = some (.p (.bool (decide (a = b)))) := by
 simp only [binAV,binPV,binInt,true_or,if_true,Option.map_some,Option.some.injEq,AV.p.injEq,PV.bool.injEq]; rw [Bool.eq_iff_iff]; simp
theorem map_neq {k a b} : binAV .neq (.p (.int k a)) (.p (.int k b)) = some (.p (.bool (decide (a ≠ b)))) := by
 simp only [binAV,binPV,binInt,true_or,if_true,Option.map_some,Option.some.injEq,AV.p.injEq,PV.bool.injEq]; rw [Bool.eq_iff_iff]; simp
theorem map_seql {a b} : binAV .eql (.p (.str a)) (.p (.str b)) = some (.p (.bool (decide (a = b)))) := by
 simp only [binAV,binPV,binStr,Option.map_some,Option.some.injEq,AV.p.injEq,PV.bool.injEq]; rw [Bool.eq_iff_iff]; simp
theorem map_sneq {a b} : binAV .neq (.p (.str a)) (.p (.str b)) = some (.p (.bool (decide (a ≠ b)))) := by
 simp only [binAV,binPV,binStr,Option.map_some,Option.some.injEq,AV.p.injEq,PV.bool.injEq]; rw [Bool.eq_iff_iff]; simp
theorem map_sadd {a b : List UInt8} (h : a.length + b.length ≤ 9223372036854775807) : binAV .add (.p (.str a)) (.p (.str b)) = some (.p (.str (a ++ b))) := by
 simp only [binAV,binPV,binStr]; rw [if_pos (by unfold maxI; omega)]; rfl
theorem sl_in {s : List UInt8} {k1 k2 : IntKind} {a b : Int} (h0 : 0 ≤ a) (h1 : a ≤ b) (h2 : b ≤ s.length) : sliceSA (.p (.str s)) (some (.p (.int k1 a))) (some (.p (.int k2 b))) = some (.p (.str ((s.take b.toNat).drop a.toNat))) := by
 simp only [sliceSA,bound]
 rw [if_pos ⟨by omega,h2⟩,Option.bind_some,if_pos ⟨h0,by omega⟩,Option.map_some]
theorem sl_to {s : List UInt8} {k2 : IntKind} {b : Int} (h1 : 0 ≤ b) (h2 : b ≤ s.length) : sliceSA (.p (.str s)) none (some (.p (.int k2 b))) = some (.p (.str (s.take b.toNat))) := by
 simp only [sliceSA,bound]
 rw [if_pos ⟨by omega,h2⟩,Option.bind_some,Option.map_some,List.drop_zero]
theorem sl_from {s : List UInt8} {k2 : IntKind} {a : Int} (h1 : 0 ≤ a) (h2 : a ≤ s.length) : sliceSA (.p (.str s)) (some (.p (.int k2 a))) none = some (.p (.str (s.drop a.toNat))) := by
 simp only [sliceSA,bound]
 rw [Option.bind_some,if_pos ⟨by omega,h2⟩,Option.map_some,List.take_length]
theorem fold_add1 {a : Nat} : (a : Int) + 1 = ((a + 1 : Nat) : Int) := rfl
theorem not_bool {b : Bool} : unA .not (.p (.bool b)) = some (.p (.bool (!b))) := rfl
def lk (b : Bool) (v : AV) (r : Env) (t : Nat) : AV := match b with | true => v | false => look r t
theorem look_cons {s t : Nat} {v : AV} {r : Env} : look ((s,v) :: r) t = lk (s == t) v r t := by
 unfold look lk
 by_cases h : s = t
 ·subst h; simp
 ·rw [if_neg h,beq_false_of_ne h]
theorem lk_t {v : AV} {r : Env} {t : Nat} : lk true v r t = v := rfl
theorem lk_f {v : AV} {r : Env} {t : Nat} : lk false v r t = look r t := rfl
theorem norm_f {live env H} : norm live none env H = some (prune live env,H) := rfl
def normG (H : Heap) (e : Env) (L : List Nat) : Option (Env × Heap) := match renEnv (place L) e,Heap.pick H L with
  | some e',some H' => some (e',H')
  | _,_ => none
theorem norm_t {live env H} : norm live (some 0) env H = normG H (prune live env) (reach H 64 ((prune live env).flatMap fun x => x.2.refs) []) := by
 have e : ((prune live env).flatMap fun x => x.2.refs) ++ (H.take 0).flatMap Blk.refs = (prune live env).flatMap fun x => x.2.refs := by simp
 unfold norm normG
 simp only [e]
 rfl
theorem norm_k {live env H k} : norm live (some (k + 1)) env H = normG H (prune live env) (reach H 64 (((prune live env).flatMap fun x => x.2.refs) ++ (H.take (k + 1)).flatMap Blk.refs) (List.range (k + 1))) := rfl
theorem norm_1 {live env H} : norm live (some 1) env H = normG H (prune live env) (reach H 64 (((prune live env).flatMap fun x => x.2.refs) ++ (H.take 1).flatMap Blk.refs) [0]) := rfl
theorem ifB_t {α : Type} {x : Option α} : ifB true x = x := rfl
theorem ifB_f {α : Type} {x : Option α} : ifB false x = none := rfl
def envFrom : Nat → List AV → Env
 | _,[] => []
 | n,a :: r => (n,a) :: envFrom (n + 1) r
theorem initEnv_eq {args : List AV} : initEnv args = envFrom 0 args := by
 have key : ∀ (args : List AV) (k : Nat),((args.zipIdx k).map fun x => (x.2,x.1)) = envFrom k args := by
  intro args
  induction args with
  | nil => intro k; rfl
  | cons a r ih => intro k; rw [List.zipIdx_cons,List.map_cons,ih]; rfl
 exact key args 0
def Ends (rvs : List RV) (rs : List PV) : Out → Prop
 | (.ex _,_,_) => False
 | (_,e,h) => optP (mapO (RV.get e h) rvs) fun vs => mapO (reify h 4) vs = some rs
def endK (vs : Option (List AV)) (h : Heap) (rs : List PV) : Prop := optP vs fun vs => mapO (reify h 4) vs = some rs
theorem endK_some {vs h rs} : endK (some vs) h rs ↔ mapO (reify h 4) vs = some rs := Iff.rfl
theorem Ends_nrm {rvs rs e h} : Ends rvs rs (.nrm,e,h) ↔ endK (mapO (RV.get e h) rvs) h rs := Iff.rfl
theorem Ends_ret {rvs rs e h} : Ends rvs rs (.ret,e,h) ↔ endK (mapO (RV.get e h) rvs) h rs := Iff.rfl
theorem get_slot {e h t} : RV.get e h (.slot t) = some (look e t) := rfl
theorem get_cell {e h t sz ag} : RV.get e h (.cell t sz ag) = loadA h sz ag (look e t) := rfl
theorem reify_p {H d v} : reify H d (.p v) = some v := by cases d <;> rfl
theorem reify_own {H d id n} : reify H (d + 1) (.own id n) = (rowOf H id n).map fun r => .sl .any r.1 r.2 := rfl
theorem reify_agg {H d cs} : reify H (d + 1) (.agg cs) = (mapO (reify H d) cs).map .agg := rfl
theorem reify_bx {H d id off} : reify H (d + 1) (.bx id off) = (boxOf H id).bind fun cs => if off < cs.length then (mapO (reify H d) (cs.drop off)).map .ptr else none := rfl
theorem reify_el {H d id n i off} : reify H (d + 1) (.el id n i off) = (rowOf H id n).bind fun r => r.2[i]?.bind fun x => if off < x.cells.length then some (.ptr (x.cells.drop off)) else none := rfl
theorem reify_clo {H d f cs} : reify H (d + 1) (.clo f cs) = (mapO (reify H d) cs).map (.clo f) := rfl
theorem mapO_nil {α β : Type} {f : α → Option β} : mapO f [] = some [] := rfl
theorem mapO_cons {α β : Type} {f : α → Option β} {c r} : mapO f (c :: r) = (f c).bind fun x => (mapO f r).map (x :: ·) := by
 simp only [mapO]
 cases f c with
 | none => rfl
 | some x => cases mapO f r <;> rfl
theorem res_code {Γ : Ctx} {f : Nat} {fn : AFn} {args rs : List PV} (hf : Γ.fn f = some (.code fn)) (hl : args.length = fn.np)
  (h : Wp Γ fn.body (envFrom 0 (args.map .p)) [] (Ends fn.results rs)) : res Γ f args = some rs := by
 refine res_of (RunP_of hf hl ?_)
 rw [initEnv_eq]
 refine h.mono ?_
 rintro ⟨x,e,h⟩ ho
 cases x
 ·exact ⟨by simp,ho⟩
 ·exact ho.elim
 ·exact ⟨by simp,ho⟩
section
variable {Γ : Ctx} {env : Env} {H : Heap} {live : List Nat} {Q : Out → Prop} {r : List St} {dst : Option Nat} {c : Prop} [Decidable c] {op : QOp ⊕ XOp} {a b : Code}
theorem cond_pos (h : c) : condC Γ (.p (.bool (decide c))) a b env H Q ↔ Wp Γ a env H Q := by rw [decide_eq_true h]; exact condC_true
theorem cond_neg (h : ¬c) : condC Γ (.p (.bool (decide c))) a b env H Q ↔ Wp Γ b env H Q := by rw [decide_eq_false h]; exact condC_false
theorem cond_split (h1 : c → Wp Γ a env H Q) (h2 : ¬c → Wp Γ b env H Q) : condC Γ (.p (.bool (decide c))) a b env H Q := by
 by_cases h : c
 ·exact (cond_pos h).2 (h1 h)
 ·exact (cond_neg h).2 (h2 h)
theorem gd_pt (h : c) : gdK Γ (.p (.bool (decide c))) true dst op r env H live Q ↔ WpL Γ (⟨dst,none,op⟩ :: r) env H live Q := by rw [decide_eq_true h]; exact gdK_tt
theorem gd_nt (h : ¬c) : gdK Γ (.p (.bool (decide c))) true dst op r env H live Q ↔ WpL Γ r (put env dst .nov) H live Q := by rw [decide_eq_false h]; exact gdK_ft
theorem gd_pf (h : c) : gdK Γ (.p (.bool (decide c))) false dst op r env H live Q ↔ WpL Γ r (put env dst .nov) H live Q := by rw [decide_eq_true h]; exact gdK_tf
theorem gd_nf (h : ¬c) : gdK Γ (.p (.bool (decide c))) false dst op r env H live Q ↔ WpL Γ (⟨dst,none,op⟩ :: r) env H live Q := by rw [decide_eq_false h]; exact gdK_ff
theorem gd_split_t (h1 : c → WpL Γ (⟨dst,none,op⟩ :: r) env H live Q) (h2 : ¬c → WpL Γ r (put env dst .nov) H live Q) : gdK Γ (.p (.bool (decide c))) true dst op r env H live Q := by
 by_cases h : c
 ·exact (gd_pt h).2 (h1 h)
 ·exact (gd_nt h).2 (h2 h)
theorem gd_split_f (h1 : ¬c → WpL Γ (⟨dst,none,op⟩ :: r) env H live Q) (h2 : c → WpL Γ r (put env dst .nov) H live Q) : gdK Γ (.p (.bool (decide c))) false dst op r env H live Q := by
 by_cases h : c
 ·exact (gd_pf h).2 (h2 h)
 ·exact (gd_nf h).2 (h1 h)
theorem pick_pos {x y : AV} (h : c) : pickA (.p (.bool (decide c))) x y = some x := by rw [decide_eq_true h]; rfl
theorem pick_neg {x y : AV} (h : ¬c) : pickA (.p (.bool (decide c))) x y = some y := by rw [decide_eq_false h]; rfl
theorem pick_t {x y : AV} : pickA (.p (.bool true)) x y = some x := rfl
theorem pick_f {x y : AV} : pickA (.p (.bool false)) x y = some y := rfl
end
attribute [go_sem] cond_pos cond_neg gd_pt gd_nt gd_pf gd_nf wrap_i64 wrap_u8
attribute [go_sem] W_seq W_ops W_cond Wp_block Wp_skip Wp_exit Wp_ret NxtC_nrm NxtC_ex NxtC_ret InBlk_nrm InBlk_ret InBlk_same InBlk_other condC_true condC_false L_nil L_guard gdK_tt gdK_ff gdK_tf gdK_ft gdK_nov opK_some opX_some lpK_some L_mov L_pick L_nilchk L_bin L_eqs L_eqk L_un L_conv L_strOf L_runeStr L_len L_idx L_faddr L_iaddr L_iaddrA L_load L_sliceS L_build L_bslice L_ext L_mget L_brow L_mkmap L_mset L_appq L_minmax L_alloc L_box L_store L_mkslice L_newrow L_append L_appendS L_copy L_slicef L_range L_next L_call L_callf
attribute [go_sem] envFrom Ends_nrm Ends_ret endK_some get_slot get_cell Arg.ev look_cons lk_t lk_f put prune norm_f norm_t norm_1 List.map_cons List.map_nil pick_t pick_f pick_pos pick_neg nilchkA not_bool convA runeStrA sameA extA closA callee callR mapO_nil mapO_cons reify_p reify_own reify_agg reify_el reify_clo List.append_nil List.nil_append List.cons_append idx_in map_add map_sub map_mul map_lss map_leq map_gtr map_geq map_eql map_neq map_seql map_sneq map_sadd sl_in sl_to sl_from aidxA fldA faddrA bsliceA boxA appendSA copyA bytesOfA mkAgg chunks results AV.cells PV.cells AV.ok AV.one PV.one AV.isP allP rowsOnly elOk eqsA eqkA eqK eqCells ifB_t ifB_f flat flat1
attribute [go_sem] Nat.reduceEqDiff reduceCtorEq ite_false ite_true if_true if_false true_or or_true false_or or_false true_and and_true not_true_eq_false not_false_eq_true Option.map_some Option.map_none Option.bind_some Option.bind_none and_self Bool.false_eq_true Bool.not_true Bool.not_false Bool.true_and Bool.and_true Bool.or_true Bool.true_or Bool.false_or Bool.or_false Bool.and_false Bool.false_and toNat_cast List.all_cons List.all_nil List.flatMap_cons List.flatMap_nil List.getElem?_cons_zero List.getElem?_cons_succ List.length_cons List.length_nil List.drop_zero List.take_zero List.set_cons_zero List.set_cons_succ
attribute [go_sem] Nat.reduceBEq Nat.reduceBNe Nat.reduceLeDiff Nat.reduceAdd Nat.reduceSub Nat.reduceMul Nat.reduceLT Int.reduceLT Int.reduceLE Int.reduceEq Int.reduceNe Int.reduceAdd Int.reduceSub Int.reduceMul Int.reduceNeg Int.reduceToNat Int.toNat_zero Int.toNat_one eq_self decide_true decide_false
theorem appq_tight {sz k2 ys} (h : ys.length ≤ 1073741824) : appqA sz (.p (.sl .tight sz [])) (.p (.sl k2 sz ys)) = some (.p (.sl .any sz ys)) := by
 simp only [appqA]
 rw [if_pos ⟨.inr ⟨trivial,trivial⟩,.inl trivial,h⟩]
attribute [go_sem] appq_tight
end Ab
namespace Ab
open Go (IntKind BinOp UnOp)
def strs (l : List (List UInt8)) : List PV := l.map .str
def ints (k : IntKind) (l : List Int) : List PV := l.map (.int k)
def bools (l : List Bool) : List PV := l.map .bool
def aggs (l : List (List PV)) : List PV := l.map .agg
theorem strs_len {l} : (strs l).length = l.length := by simp [strs]
theorem ints_len {k l} : (ints k l).length = l.length := by simp [ints]
theorem bools_len {l} : (bools l).length = l.length := by simp [bools]
theorem aggs_len {l} : (aggs l).length = l.length := by simp [aggs]
theorem ints_app {k l l'} : ints k l ++ ints k l' = ints k (l ++ l') := by simp [ints]
theorem strs_one {l a} : strs l ++ [.str a] = strs (l ++ [a]) := by simp [strs]
theorem ints_one {k l a} : ints k l ++ [.int k a] = ints k (l ++ [a]) := by simp [ints]
theorem strs_get {l : List (List UInt8)} {i : Nat} (h : i < l.length) : (strs l)[i]? = some (.str (l.getD i [])) := by simp [strs,List.getElem?_eq_getElem h]
theorem ints_get {k} {l : List Int} {i : Nat} (h : i < l.length) : (ints k l)[i]? = some (.int k (l.getD i 0)) := by simp [ints,List.getElem?_eq_getElem h]
theorem bools_get {l : List Bool} {i : Nat} (h : i < l.length) : (bools l)[i]? = some (.bool (l.getD i false)) := by simp [bools,List.getElem?_eq_getElem h]
theorem aggs_get {l : List (List PV)} {i : Nat} (h : i < l.length) : (aggs l)[i]? = some (.agg (l.getD i [])) := by simp [aggs,List.getElem?_eq_getElem h]
theorem strs_set {l i a} : (strs l).set i (.str a) = strs (l.set i a) := by simp [strs,List.map_set]
theorem ints_set {k l i a} : (ints k l).set i (.int k a) = ints k (l.set i a) := by simp [ints,List.map_set]
theorem bools_set {l i a} : (bools l).set i (.bool a) = bools (l.set i a) := by simp [bools,List.map_set]
theorem strs_take {l n} : (strs l).take n = strs (l.take n) := by simp [strs,List.map_take]
theorem ints_take {k l n} : (ints k l).take n = ints k (l.take n) := by simp [ints,List.map_take]
theorem strs_drop {l n} : (strs l).drop n = strs (l.drop n) := by simp [strs,List.map_drop]
theorem ints_drop {k l n} : (ints k l).drop n = ints k (l.drop n) := by simp [ints,List.map_drop]
theorem strs_rep {n a} : List.replicate n (.str a) = strs (List.replicate n a) := by simp [strs]
theorem ints_rep {k n a} : List.replicate n (.int k a) = ints k (List.replicate n a) := by simp [ints]
theorem bools_rep {n a} : List.replicate n (.bool a) = bools (List.replicate n a) := by simp [bools]
def rowAt (b : Option Blk) (n : Nat) : Option (Nat × List PV) :=
 match b with
 | some (.row _ sz xs) => if xs.length = n then some (sz,xs) else none
 | _ => none
theorem rowOf_eq {H : Heap} {id n : Nat} : rowOf H id n = rowAt H[id]? n := by
 unfold rowOf rowAt
 cases H[id]? with
 | none => rfl
 | some b => cases b <;> rfl
theorem rowAt_pos {f sz xs n} (h : xs.length = n) : rowAt (some (.row f sz xs)) n = some (sz,xs) := by simp [rowAt,h]
theorem len_own {H id n} : asLen H false (.own id n) = (rowOf H id n).map fun _ => n := rfl
theorem len_sl {H k sz xs} : asLen H false (.p (.sl k sz xs)) = some xs.length := rfl
theorem len_str {H s} : asLen H true (.p (.str s)) = some s.length := rfl
theorem iaddr_sl {H sz xs k' k i x} (h0 : 0 ≤ i) (hx : xs[i.toNat]? = some x) : iaddrA H sz (.p (.sl k' sz xs)) (.p (.int k i)) = some (.p (.ptr x.cells)) := by
 simp only [iaddrA,h0,and_self,if_true,hx,Option.map_some]
theorem iaddr_strs {H xs k' k i} (h0 : 0 ≤ i) (h : i < (xs.length : Int)) : iaddrA H 1 (.p (.sl k' 1 (strs xs))) (.p (.int k i)) = some (.p (.ptr [.str (xs.getD i.toNat [])])) := iaddr_sl h0 (strs_get (by omega))
theorem iaddr_ints {H xs k' k'' k i} (h0 : 0 ≤ i) (h : i < (xs.length : Int)) : iaddrA H 1 (.p (.sl k' 1 (ints k'' xs))) (.p (.int k i)) = some (.p (.ptr [.int k'' (xs.getD i.toNat 0)])) := iaddr_sl h0 (ints_get (by omega))
theorem load_ptr {H sz ag cells} : loadA H sz ag (.p (.ptr cells)) = takeP sz ag cells := rfl
def tkO (sz : Nat) (ag : Bool) (off : Nat) (b : Option (List AV)) : Option AV := b.bind fun cs => takeA sz ag (cs.drop off)
theorem load_bx {H sz ag id off} : loadA H sz ag (.bx id off) = tkO sz ag off (boxOf H id) := rfl
theorem tkO_some {sz ag off cs} : tkO sz ag off (some cs) = takeA sz ag (cs.drop off) := rfl
attribute [go_sem] tkO_some
theorem takeP_one {sz c r} : takeP sz false (c :: r) = some (.p c) := rfl
theorem takeP_ag {sz cs} (h : cs.length = sz) : takeP sz true cs = some (.p (.agg cs)) := by simp [takeP,← h]
theorem elems_p {H sz k xs} : elemsOf H sz (.p (.sl k sz xs)) = some xs := by simp [elemsOf]
theorem app_nil {H sz sz' ys} (hm : ys.length ≤ 1073741824) : appendA H sz (.p (.sl .nil sz' [])) ys = some (.own H.length ys.length,H ++ [.row false sz ys]) := by
 simp only [appendA]
 rw [if_pos ⟨.inl trivial,by simp only [List.nil_append,lim]; omega⟩]
theorem mks {H sz ag zero k k' n} (h0 : 0 ≤ n) (hm : n ≤ 1073741824) : mksliceA H sz ag zero (.p (.int k n)) (.p (.int k' n)) = some (.own H.length n.toNat,H ++ [.row false sz (List.replicate n.toNat (if ag then .agg zero else zero.headD .nilp))]) := by
 simp only [mksliceA]
 rw [if_pos ⟨h0,trivial,by unfold lim; omega⟩]
theorem slf_p {H sz v lo hi} : slicefA H sz (.p v) lo hi = (sliceA sz (.p v) lo hi).map fun v => (v,H) := rfl
theorem frz_nil {H} : freeze H [] = H := rfl
theorem frz_p {H v r} : freeze H (.p v :: r) = freeze H r := rfl
theorem cut_in {s : List PV} {sz kk} {k1 k2 : IntKind} {a b : Int} (h0 : 0 ≤ a) (h1 : a ≤ b) (h2 : b ≤ s.length) : sliceA sz (.p (.sl kk sz s)) (some (.p (.int k1 a))) (some (.p (.int k2 b))) = some (.p (.sl kk.cut sz ((s.take b.toNat).drop a.toNat))) := by
 simp only [sliceA,bound,if_true]
 rw [if_pos ⟨by omega,h2⟩,Option.bind_some,if_pos ⟨h0,by omega⟩,Option.map_some]
theorem cut_to {s : List PV} {sz kk} {k2 : IntKind} {b : Int} (h1 : 0 ≤ b) (h2 : b ≤ s.length) : sliceA sz (.p (.sl kk sz s)) none (some (.p (.int k2 b))) = some (.p (.sl kk.cut sz (s.take b.toNat))) := by
 simp only [sliceA,bound,if_true]
 rw [if_pos ⟨by omega,h2⟩,Option.bind_some,Option.map_some,List.drop_zero]
theorem cut_from {s : List PV} {sz kk} {k2 : IntKind} {a : Int} (h1 : 0 ≤ a) (h2 : a ≤ s.length) : sliceA sz (.p (.sl kk sz s)) (some (.p (.int k2 a))) none = some (.p (.sl kk.cut sz (s.drop a.toNat))) := by
 simp only [sliceA,bound,if_true]
 rw [Option.bind_some,if_pos ⟨by omega,h2⟩,Option.map_some,List.take_length]
theorem cutk_any : SK.any.cut = .any := rfl
theorem cutk_mem : SK.mem.cut = .mem := rfl
theorem cutk_tight : SK.tight.cut = .mem := rfl
theorem cutk_nil : SK.nil.cut = .nil := rfl
theorem app_tight0 {H sz ys} (hm : ys.length ≤ 1073741824) : appendA H sz (.p (.sl .tight sz [])) ys = some (.own H.length ys.length,H ++ [.row false sz ys]) := by
 simp only [appendA]
 rw [if_pos ⟨.inr ⟨trivial,trivial⟩,by simp only [List.nil_append,lim]; omega⟩]
attribute [go_sem] cutk_any cutk_mem cutk_tight cutk_nil app_tight0
theorem min_max2 {mx k k' x y} : minmax mx [.p (.int k x),.p (.int k' y)] = some (.p (.int k (if mx then max x y else min x y))) := by
 cases mx
 ·simp only [minmax,Bool.false_eq_true,if_false]; congr 3; rw [Int.min_def]; split <;> split <;> omega
 ·simp only [minmax,if_true]; congr 3; rw [Int.max_def]; split <;> split <;> omega
def fillK (b : Bool) (zero : List AV) (off sz : Nat) (v : AV) (r : List (Nat × Nat × AV)) : Option (List AV) :=
 match b with
 | true => fillA (zero.take off ++ v.cells ++ zero.drop (off + sz)) r
 | false => none
theorem fill_nil {zero} : fillA zero [] = some zero := rfl
theorem fill_cons {zero off sz v r} : fillA zero ((off,sz,v) :: r) = fillK (v.ok && (v.cells.length == sz) && decide (off + sz ≤ zero.length)) zero off sz v r := by
 unfold fillK
 by_cases h : v.ok = true ∧ v.cells.length = sz ∧ off + sz ≤ zero.length
 ·simp [fillA,h]
 ·rw [show (v.ok && (v.cells.length == sz) && decide (off + sz ≤ zero.length)) = false by simpa [and_assoc] using h]
  simp only [fillA]; rw [if_neg h]
theorem fill_t {zero off sz v r} : fillK true zero off sz v r = fillA (zero.take off ++ v.cells ++ zero.drop (off + sz)) r := rfl
theorem pures_nil : pures [] = some [] := rfl
theorem pures_p {v r} : pures (.p v :: r) = (pures r).map (v :: ·) := rfl
theorem pures_own {id n r} : pures (.own id n :: r) = none := rfl
theorem pures_bx {id n r} : pures (.bx id n :: r) = none := rfl
theorem pures_el {id n i o r} : pures (.el id n i o :: r) = none := rfl
theorem pures_agg {cs r} : pures (.agg cs :: r) = none := rfl
theorem pures_clo {f cs r} : pures (.clo f cs :: r) = none := rfl
attribute [go_sem] pures_own pures_bx pures_el pures_agg pures_clo
attribute [go_sem] List.getD_cons_zero List.getD_cons_succ
theorem iaddr_lit {H sz xs k' k} {i : Int} (h0 : 0 ≤ i) : iaddrA H sz (.p (.sl k' sz xs)) (.p (.int k i)) = (xs[i.toNat]?).map fun x => .p (.ptr x.cells) := by simp [iaddrA,h0]
attribute [go_sem low] iaddr_lit
attribute [go_sem] beq_self_eq_true
attribute [go_sem] fill_nil fill_cons fill_t pures_nil pures_p List.take_succ_cons List.drop_succ_cons List.drop_nil List.take_nil List.append_assoc
def iaddrK (b : Option Blk) (sz id n : Nat) (i : Int) : Option AV := match b with
 | some (.row _ sz' xs) => if sz = sz' ∧ xs.length = n ∧ 0 ≤ i ∧ i < (n : Int) then some (.el id n i.toNat 0) else none
 | _ => none
theorem iaddr_K {H : Heap} {id n sz : Nat} {k i} : iaddrA H sz (.own id n) (.p (.int k i)) = iaddrK H[id]? sz id n i := by
 simp only [iaddrA,rowOf_eq,iaddrK]
 cases H[id]? with
 | none => rfl
 | some b =>
  cases b with
  | box => rfl
  | dead => rfl
  | row f sz' xs =>
   by_cases h : xs.length = n
   ·simp [rowAt,h]
   ·simp [rowAt,h]
theorem iaddrK_pos {f sz xs id} {n : Nat} {i} (h : xs.length = n) (h1 : 0 ≤ i) (h2 : i < (n : Int)) : iaddrK (some (.row f sz xs)) sz id n i = some (.el id n i.toNat 0) := by simp [iaddrK,h,h1,h2]
def loadK (b : Option Blk) (s : Nat) (ag : Bool) (n i off : Nat) : Option AV := match b with
 | some (.row _ _ xs) => if xs.length = n then xs[i]?.bind fun x => takeP s ag (x.cells.drop off) else none
 | _ => none
theorem load_K {H : Heap} {id n i off s : Nat} {ag} : loadA H s ag (.el id n i off) = loadK H[id]? s ag n i off := by
 simp only [loadA,rowOf_eq,loadK]
 cases H[id]? with
 | none => rfl
 | some b =>
  cases b with
  | box => rfl
  | dead => rfl
  | row f sz' xs => by_cases h : xs.length = n <;> simp [rowAt,h]
theorem loadK_ints {f sz k l n i} (h : l.length = n) (h' : i < n) : loadK (some (.row f sz (ints k l))) 1 false n i 0 = some (.p (.int k (l.getD i 0))) := by
 simp only [loadK,ints_len,h,if_true,ints_get (show i < l.length by omega),Option.bind_some,PV.cells,List.drop_zero,takeP_one]
theorem loadK_bools {f sz l n i} (h : l.length = n) (h' : i < n) : loadK (some (.row f sz (bools l))) 1 false n i 0 = some (.p (.bool (l.getD i false))) := by
 simp only [loadK,bools_len,h,if_true,bools_get (show i < l.length by omega),Option.bind_some,PV.cells,List.drop_zero,takeP_one]
def storeK (H : Heap) (b : Option Blk) (sz id n i off : Nat) (v : AV) : Option Heap := match b with
  | some (.row false sz' xs) => if xs.length = n then
        (xs[i]?).bind fun x => (pures v.cells).bind fun ps =>
          if v.ok = true ∧ 0 < sz ∧ ps.length = sz ∧ off + sz ≤ x.cells.length then
            some (H.set id (.row false sz' (xs.set i (setPart off sz ps x)))) else none
      else none
  | _ => none
theorem store_K {H : Heap} {id n i off sz : Nat} {v} : storeA H sz (.el id n i off) v = storeK H H[id]? sz id n i off v := by
 unfold storeA storeK
 rfl
theorem storeK_one {H : Heap} {id n xs i sz' x v} (hl : xs.length = n) (hx : xs[i]? = some x) (h1 : x.one = true) (hv : v.one = true) :
  storeK H (some (.row false sz' xs)) 1 id n i 0 (.p v) = some (H.set id (.row false sz' (xs.set i v))) := by
 have e1 : x.cells = [x] := by cases x <;> first | rfl | cases h1
 have e2 : (AV.p v).cells = [.p v] := by cases v <;> first | rfl | cases hv
 have e3 : setPart 0 1 [v] x = v := by cases x <;> first | rfl | cases h1
 simp only [storeK,hl,if_true,hx,Option.bind_some,e1,e2,pures,Option.map_some,AV.ok,List.length_cons,List.length_nil,e3]
 simp
theorem storeK_strs {H : Heap} {sz' id n l i a} (h : l.length = n) (h' : i < n) : storeK H (some (.row false sz' (strs l))) 1 id n i 0 (.p (.str a)) = some (H.set id (.row false sz' (strs (l.set i a)))) := by
 rw [storeK_one (strs_len.trans h) (strs_get (by omega)) rfl rfl,strs_set]
theorem storeK_ints {H : Heap} {sz' id n k l i a} (h : l.length = n) (h' : i < n) : storeK H (some (.row false sz' (ints k l))) 1 id n i 0 (.p (.int k a)) = some (H.set id (.row false sz' (ints k (l.set i a)))) := by
 rw [storeK_one (ints_len.trans h) (ints_get (by omega)) rfl rfl,ints_set]
theorem storeK_bools {H : Heap} {sz' id n l i a} (h : l.length = n) (h' : i < n) : storeK H (some (.row false sz' (bools l))) 1 id n i 0 (.p (.bool a)) = some (H.set id (.row false sz' (bools (l.set i a)))) := by
 rw [storeK_one (bools_len.trans h) (bools_get (by omega)) rfl rfl,bools_set]
def elemsK (b : Option Blk) (sz n : Nat) : Option (List PV) := match b with
 | some (.row _ sz' xs) => if xs.length = n ∧ sz = sz' then some xs else none
 | _ => none
theorem elems_K {H : Heap} {sz id n : Nat} : elemsOf H sz (.own id n) = elemsK H[id]? sz n := by
 simp only [elemsOf,rowOf_eq,elemsK]
 cases H[id]? with
 | none => rfl
 | some b =>
  cases b with
  | box => rfl
  | dead => rfl
  | row f sz' xs => by_cases h : xs.length = n <;> simp [rowAt,h]
theorem elemsK_pos {f sz xs n} (h : xs.length = n) : elemsK (some (.row f sz xs)) sz n = some xs := by simp [elemsK,h]
def appK (H : Heap) (b : Option Blk) (sz id n : Nat) (ys : List PV) : Option (AV × Heap) := match b with
 | some (.row false sz' xs) => if xs.length = n ∧ sz' = sz ∧ (xs ++ ys).length ≤ lim then some (.own id (xs ++ ys).length,H.set id (.row false sz (xs ++ ys))) else none
 | _ => none
theorem app_K {H : Heap} {sz id n : Nat} {ys} : appendA H sz (.own id n) ys = appK H H[id]? sz id n ys := by
 unfold appendA appK
 rfl
theorem appK_pos {H : Heap} {sz id n xs ys} (h : xs.length = n) (h' : xs.length + ys.length ≤ 1073741824) : appK H (some (.row false sz xs)) sz id n ys = some (.own id (n + ys.length),H.set id (.row false sz (xs ++ ys))) := by
 simp only [appK]
 rw [if_pos ⟨h,trivial,by simp only [List.length_append,lim]; omega⟩,List.length_append,h]
def slfK (H : Heap) (b : Option Blk) (sz id n : Nat) (lo hi : Option AV) : Option (AV × Heap) := match b with
 | some (.row _ sz' xs) => if xs.length = n then (sliceA sz (.p (.sl .any sz' xs)) lo hi).map fun v => (v,freeze H [.own id n]) else none
 | _ => none
theorem slf_K {H : Heap} {sz id n : Nat} {lo hi} : slicefA H sz (.own id n) lo hi = slfK H H[id]? sz id n lo hi := by
 simp only [slicefA,rowOf_eq,slfK]
 cases H[id]? with
 | none => rfl
 | some b =>
  cases b with
  | box => rfl
  | dead => rfl
  | row f sz' xs => by_cases h : xs.length = n <;> simp [rowAt,h]
theorem slfK_pos {H : Heap} {f sz sz' xs id n lo hi} (h : xs.length = n) : slfK H (some (.row f sz' xs)) sz id n lo hi = (sliceA sz (.p (.sl .any sz' xs)) lo hi).map fun v => (v,freeze H [.own id n]) := by simp [slfK,h]
def frzK (H : Heap) (b : Option Blk) (id : Nat) (r : List AV) : Heap := freeze (match b with | some (.row _ sz xs) => H.set id (.row true sz xs) | _ => H) r
theorem frz_K {H : Heap} {id n r} : freeze H (.own id n :: r) = frzK H H[id]? id r := rfl
theorem frzK_row {H : Heap} {f sz xs id r} : frzK H (some (.row f sz xs)) id r = freeze (H.set id (.row true sz xs)) r := rfl
theorem set_rep {α : Type} {l : List α} {n i : Nat} {x a : α} (h : l.length = i ∧ 1 ≤ n) : (l ++ List.replicate n x).set i a = l ++ (a :: List.replicate (n - 1) x) := by
 obtain ⟨rfl,hn⟩ := h
 obtain ⟨m,rfl⟩ : ∃ m,n = m + 1 := ⟨n - 1,by omega⟩
 rw [List.set_append_right _ _ (Nat.le_refl _),Nat.sub_self,List.replicate_succ]
 rfl
def storeBK (cs : Option (List AV)) (H : Heap) (id off sz : Nat) (v : AV) : Option Heap := cs.bind fun cs => ifB (v.ok && (v.cells.length == sz) && decide (off + sz ≤ cs.length)) (some (H.set id (.box (cs.take off ++ v.cells ++ cs.drop (off + sz)))))
theorem store_B {H : Heap} {id off sz : Nat} {v : AV} : storeA H sz (.bx id off) v = storeBK (boxOf H id) H id off sz v := by
 simp only [storeA,storeBK]
 congr 1
 funext cs
 by_cases h : v.ok = true ∧ v.cells.length = sz ∧ off + sz ≤ cs.length
 ·rw [if_pos h]; simp [h,ifB]
 ·rw [if_neg h,show (v.ok && (v.cells.length == sz) && decide (off + sz ≤ cs.length)) = false by simpa [and_assoc] using h]; rfl
theorem stB_lit {cs : List AV} {H : Heap} {id off sz : Nat} {v : AV} : storeBK (some cs) H id off sz v = ifB (v.ok && (v.cells.length == sz) && decide (off + sz ≤ cs.length)) (some (H.set id (.box (cs.take off ++ v.cells ++ cs.drop (off + sz))))) := rfl
theorem stB_cell {cs : List PV} {H : Heap} {id off : Nat} {v : PV} (hv : v.one = true) (h : off < cs.length) : storeBK (some (cs.map .p)) H id off 1 (.p v) = some (H.set id (.box ((cs.set off v).map .p))) := by
 have e2 : (AV.p v).cells = [.p v] := by cases v <;> first | rfl | cases hv
 rw [stB_lit,e2]
 simp only [AV.ok,List.length_cons,List.length_nil,List.length_map]
 rw [show (true && (0 + 1 == 1) && decide (off + 1 ≤ cs.length)) = true by simp; omega]
 simp only [ifB]
 congr 3
 rw [List.map_set,List.set_eq_take_append_cons_drop,if_pos (by simpa using h)]
 simp
theorem stB_whole {cs cs' : List PV} {H : Heap} {id n : Nat} (h : cs'.length = n) (h' : cs.length = n) : storeBK (some (cs.map .p)) H id 0 n (.p (.agg cs')) = some (H.set id (.box (cs'.map .p))) := by
 subst h'
 rw [stB_lit]
 simp only [AV.ok,AV.cells,PV.cells,List.length_map,h,Nat.zero_add]
 rw [show (true && (cs.length == cs.length) && decide (cs.length ≤ cs.length)) = true by simp]
 simp only [ifB]
 rw [List.drop_of_length_le (by simp)]
 simp
attribute [go_sem low] stB_lit
theorem stB_bool {l : List Bool} {H : Heap} {id off : Nat} {b : Bool} (h : off < l.length) : storeBK (some ((bools l).map .p)) H id off 1 (.p (.bool b)) = some (H.set id (.box ((bools (l.set off b)).map .p))) := by
 rw [stB_cell rfl (by rw [bools_len]; exact h),bools_set]
attribute [go_sem] stB_bool stB_whole
theorem neg_int {k n} : unA .neg (.p (.int k n)) = some (.p (.int k (k.wrap (0 - n)))) := rfl
theorem nd_dec {c : Prop} [Decidable c] : (!decide c) = decide (¬ c) := by by_cases h : c <;> simp [h]
attribute [go_sem] nd_dec
theorem beq_self_t : (true == true) = true := rfl
theorem beq_self_f : (false == false) = true := rfl
theorem beq_tf : (true == false) = false := rfl
theorem beq_ft : (false == true) = false := rfl
attribute [go_sem] Bool.bne_false Bool.bne_true beq_self_t beq_self_f beq_tf beq_ft
attribute [go_sem] neg_int
def nextK (b : Option Blk) (H : Heap) (id : Nat) : Option (AV × Heap) := match b with
 | some (.box [.nov,.p (.str s),.p (.int .i64 pos)]) =>
   if pos < s.length then some (.tup [.p (.bool true),.p (.int .i64 pos),.p (.int .i32 (runeAt s pos.toNat).1)],H.set id (.box (iterCells s (pos.toNat + (runeAt s pos.toNat).2))))
   else some (.tup [.p (.bool false)],H)
 | _ => none
theorem next_K {H : Heap} {id : Nat} : nextA H (.bx id 0) = nextK H[id]? H id := by
 unfold nextA nextK
 rfl
theorem next_more {H : Heap} {id pos : Nat} {s : List UInt8} (h : pos < s.length) : nextK (some (.box (iterCells s pos))) H id = some (.tup [.p (.bool true),.p (.int .i64 pos),.p (.int .i32 (runeAt s pos).1)],H.set id (.box (iterCells s (pos + (runeAt s pos).2)))) := by
 simp only [nextK,iterCells,Int.toNat_natCast]
 rw [if_pos (by omega)]
theorem next_end {H : Heap} {id pos : Nat} {s : List UInt8} (h : ¬ pos < s.length) : nextK (some (.box (iterCells s pos))) H id = some (.tup [.p (.bool false)],H) := by
 simp only [nextK,iterCells]
 rw [if_neg (by omega)]
theorem range_str {H : Heap} {s : List UInt8} : rangeA H (.p (.str s)) = some (.bx H.length 0,H ++ [.box (iterCells s 0)]) := rfl
attribute [go_sem] next_K next_more next_end range_str
attribute [go_sem] store_B Int.min_eq_left Int.min_eq_right Int.max_eq_left Int.max_eq_right List.headD_cons
theorem set_one {α : Type} {l : List α} {i : Nat} {x a : α} (h : l.length = i) : (l ++ [x]).set i a = l ++ [a] := by subst h; simp
attribute [go_sem] set_one
def boxK (b : Option Blk) : Option (List AV) := match b with
 | some (.box (.nov :: _)) => none
 | some (.box cs) => some cs
 | _ => none
theorem box_K {H : Heap} {id : Nat} : boxOf H id = boxK H[id]? := by
 unfold boxOf boxK
 rfl
theorem boxK_map {cs : List PV} : boxK (some (.box (cs.map .p))) = some (cs.map .p) := by cases cs <;> rfl
theorem boxK_p {v r} : boxK (some (.box (.p v :: r))) = some (.p v :: r) := rfl
theorem boxK_own {id n r} : boxK (some (.box (.own id n :: r))) = some (.own id n :: r) := rfl
theorem boxK_bx {id n r} : boxK (some (.box (.bx id n :: r))) = some (.bx id n :: r) := rfl
theorem pures_map : ∀ {cs : List PV},pures (cs.map .p) = some cs
 | [] => rfl
 | c :: cs => by simp only [List.map_cons,pures_p,pures_map]; rfl
theorem take_whole {n} {cs : List PV} (h : cs.length = n) : takeA n true (cs.map .p) = some (.p (.agg cs)) := by
 subst h
 simp only [takeA,if_true,List.length_map,Nat.le_refl]
 rw [← List.map_take,List.take_length]
 simp only [mkAgg,pures_map]
theorem reify_map {H d} : ∀ {cs : List PV},mapO (reify H d) (cs.map .p) = some cs
 | [] => rfl
 | c :: cs => by rw [List.map_cons,mapO_cons,reify_p,reify_map]; rfl
theorem iaddr_P {sz n : Nat} {cs k} {i : Int} (h0 : 0 ≤ i) (h1 : i < (n : Int)) (h2 : i.toNat * sz < cs.length) : iaddrAA sz n (.p (.ptr cs)) (.p (.int k i)) = some (.p (.ptr (cs.drop (i.toNat * sz)))) := by simp [iaddrAA,h0,h1,h2]
theorem take_bools {l : List Bool} {i sz : Nat} (h : i < l.length) : takeP sz false ((bools l).drop i) = some (.p (.bool (l.getD i false))) := by
 simp [takeP,bools,List.head?_drop,List.getElem?_eq_getElem h]
theorem iaddr_B {sz n id o : Nat} {k} {i : Int} (h0 : 0 ≤ i) (h1 : i < (n : Int)) : iaddrAA sz n (.bx id o) (.p (.int k i)) = some (.bx id (o + i.toNat * sz)) := by simp [iaddrAA,h0,h1]
theorem take_one {sz c r} : takeA sz false (c :: r) = some c := rfl
theorem take_ag {n} {cs : List AV} (h : n ≤ cs.length) : takeA n true cs = some (mkAgg (cs.take n)) := by simp [takeA,h]
attribute [go_sem low] take_ag
attribute [go_sem] take_one
def rbx (H : Heap) (d off : Nat) (b : Option (List AV)) : Option PV := b.bind fun cs => ifB (decide (off < cs.length)) ((mapO (reify H d) (cs.drop off)).map .ptr)
theorem reify_B {H : Heap} {d id off : Nat} : reify H (d + 1) (.bx id off) = rbx H d off (boxOf H id) := by
 rw [reify_bx]
 unfold rbx
 congr 1
 funext cs
 unfold ifB
 by_cases h : off < cs.length <;> simp [h]
theorem rbx_map {H : Heap} {d off : Nat} {cs : List PV} (h : off < cs.length) : rbx H d off (some (cs.map .p)) = some (.ptr (cs.drop off)) := by
 unfold rbx
 rw [Option.bind_some,show decide (off < (cs.map AV.p).length) = true by simpa using h,← List.map_drop,reify_map]
 rfl
theorem rbx_lit {H : Heap} {d off : Nat} {cs : List AV} : rbx H d off (some cs) = ifB (decide (off < cs.length)) ((mapO (reify H d) (cs.drop off)).map .ptr) := rfl
attribute [go_sem low] rbx_lit
attribute [go_sem] reify_B rbx_map
attribute [go_sem] iaddr_P iaddr_B take_bools Nat.mul_one Nat.zero_add box_K boxK_map boxK_p boxK_own boxK_bx take_whole reify_map List.set_cons_zero
attribute [go_sem] Int.add_zero Int.zero_add Int.sub_zero
attribute [go_sem] iaddr_K iaddrK_pos load_K loadK_ints loadK_bools store_K storeK_strs storeK_ints storeK_bools elems_K elemsK_pos app_K appK_pos slf_K slfK_pos frz_K frzK_row
attribute [go_sem] strs_len ints_len bools_len ints_app strs_one ints_one strs_get ints_get bools_get aggs_get strs_set ints_set bools_set strs_take ints_take strs_drop ints_drop strs_rep ints_rep bools_rep rowOf_eq rowAt_pos len_own len_sl len_str iaddr_strs iaddr_ints load_ptr load_bx takeP_one takeP_ag elems_p app_nil mks slf_p frz_nil frz_p cut_in cut_to cut_from min_max2
def refsAt (b : Option Blk) : List Nat := match b with | some b => b.refs | none => []
def reachK (c : Bool) (H : Heap) (n : Nat) (id : Nat) (r acc : List Nat) : List Nat := match c with
 | true => reach H n r acc
 | false => reach H n (r ++ refsAt H[id]?) (acc ++ [id])
theorem reach_nil {H : Heap} {n : Nat} {acc : List Nat} : reach H n [] acc = acc := by cases n <;> rfl
theorem reach_cons {H : Heap} {n id : Nat} {r acc : List Nat} : reach H (n + 1) (id :: r) acc = reachK (acc.contains id) H n id r acc := by
 simp only [reach,reachK]
 cases acc.contains id <;> rfl
theorem reachK_t {H : Heap} {n id : Nat} {r acc : List Nat} : reachK true H n id r acc = reach H n r acc := rfl
theorem reachK_f {H : Heap} {n id : Nat} {r acc : List Nat} : reachK false H n id r acc = reach H n (r ++ refsAt H[id]?) (acc ++ [id]) := rfl
theorem refsAt_map {cs : List PV} : refsAt (some (.box (cs.map .p))) = [] := by
 simp only [refsAt,Blk.refs]
 induction cs with
 | nil => rfl
 | cons c cs ih => rw [List.map_cons,List.flatMap_cons,ih]; rfl
theorem refsAt_row {f sz xs} : refsAt (some (.row f sz xs)) = [] := rfl
theorem refsAt_box {cs : List AV} : refsAt (some (.box cs)) = cs.flatMap AV.refs := rfl
theorem refs_p {v : PV} : AV.refs (.p v) = [] := rfl
theorem refs_own {id n} : AV.refs (.own id n) = [id] := rfl
theorem refs_bx {id n} : AV.refs (.bx id n) = [id] := rfl
theorem refs_el {id n i o} : AV.refs (.el id n i o) = [id] := rfl
theorem refs_nov : AV.refs .nov = [] := rfl
def placeK (c : Bool) (r : List Nat) (id : Nat) : Option Nat := match c with
 | true => some 0
 | false => (place r id).map (· + 1)
theorem place_nil {id} : place [] id = none := rfl
theorem place_cons {x r id} : place (x :: r) id = placeK (x == id) r id := by
 unfold place placeK
 by_cases h : x = id
 ·subst h; simp
 ·rw [if_neg h,beq_false_of_ne h]
theorem placeK_t {r id} : placeK true r id = some 0 := rfl
theorem placeK_f {r id} : placeK false r id = (place r id).map (· + 1) := rfl
theorem ren_p {r d v} : AV.ren r d (.p v) = some (.p v) := by cases d <;> rfl
theorem ren_own {r d id n} : AV.ren r d (.own id n) = (r id).map (.own · n) := by cases d <;> rfl
theorem ren_bx {r d id n} : AV.ren r d (.bx id n) = (r id).map (.bx · n) := by cases d <;> rfl
theorem ren_nov {r d} : AV.ren r d .nov = some .nov := by cases d <;> rfl
theorem ren_agg {r d cs} : AV.ren r (d + 1) (.agg cs) = (mapO (AV.ren r d) cs).map .agg := rfl
theorem ren_map {r d} : ∀ {cs : List PV},mapO (AV.ren r d) (cs.map .p) = some (cs.map .p)
 | [] => rfl
 | c :: cs => by rw [List.map_cons,mapO_cons,ren_p,ren_map]; rfl
def renE (r : Nat → Option Nat) : Env → Option Env
 | [] => some []
 | (s,v) :: e => (AV.ren r 3 v).bind fun v => (renE r e).map ((s,v) :: ·)
theorem renEnv_eq {r} : ∀ {e : Env},renEnv r e = renE r e
 | [] => rfl
 | (s,v) :: e => by
  have := renEnv_eq (r := r) (e := e)
  simp only [renEnv] at this
  simp only [renEnv,renE,mapO_cons,this]
  cases AV.ren r 3 v <;> rfl
def pickB (H : Heap) (p : Nat → Option Nat) : List Nat → Option Heap
 | [] => some []
 | id :: L => ((H[id]?).bind (Blk.ren p)).bind fun b => (pickB H p L).map (b :: ·)
theorem pick_eq {H : Heap} {L : List Nat} : Heap.pick H L = pickB H (place L) L := by
 have key : ∀ (p : Nat → Option Nat) (L : List Nat),mapO (fun id => (H[id]?).bind (Blk.ren p)) L = pickB H p L := by
  intro p L
  induction L with
  | nil => rfl
  | cons a l ih => rw [mapO_cons,ih]; rfl
 exact key _ _
theorem ren_box {p cs} : Blk.ren p (.box cs) = (mapO (AV.ren p 3) cs).map .box := rfl
theorem ren_row {p f sz xs} : Blk.ren p (.row f sz xs) = some (.row f sz xs) := rfl
def normK (e : Option Env) (h : Option Heap) : Option (Env × Heap) := match e,h with
 | some e,some h => some (e,h)
 | _,_ => none
theorem normG_eq {H : Heap} {e : Env} {L : List Nat} : normG H e L = normK (renE (place L) e) (pickB H (place L) L) := by
 rw [← renEnv_eq,← pick_eq]; rfl
theorem normK_some {e h} : normK (some e) (some h) = some (e,h) := rfl
theorem renE_nil {r} : renE r [] = some [] := rfl
theorem renE_cons {r s v e} : renE r ((s,v) :: e) = (AV.ren r 3 v).bind fun v => (renE r e).map ((s,v) :: ·) := rfl
theorem pickB_nil {H : Heap} {p} : pickB H p [] = some [] := rfl
theorem pickB_cons {H : Heap} {p id L} : pickB H p (id :: L) = ((H[id]?).bind (Blk.ren p)).bind fun b => (pickB H p L).map (b :: ·) := rfl
attribute [go_sem] reach_nil reach_cons reachK_t reachK_f refsAt_map refsAt_row refs_p refs_own refs_bx refs_el refs_nov place_nil place_cons placeK_t placeK_f ren_p ren_own ren_bx ren_nov ren_agg ren_map ren_box ren_row normG_eq normK_some renE_nil renE_cons pickB_nil pickB_cons List.contains_nil List.contains_cons
attribute [go_sem low] refsAt_box
structure Ser where
 name : List UInt8
 start : Int
 step : Int
 vals : List (Bool × Int)
 cons : Int
def valP (x : Bool × Int) : List PV := [.bool x.1,.int .i64 x.2]
def vpv (l : List (Bool × Int)) : List PV := aggs (l.map valP)
def Ser.pv (k : SK) (s : Ser) : PV := .agg [.str s.name,.int .i64 s.start,.int .i64 s.step,.sl k 2 (vpv s.vals),.int .i64 s.cons]
theorem pair_eta {α β : Type} {x : α × β} : (x.1,x.2) = x := rfl
theorem vpv_len {l} : (vpv l).length = l.length := by simp [vpv,aggs]
theorem vpv_nil : vpv [] = [] := rfl
theorem vpv_get {l : List (Bool × Int)} {i : Nat} (h : i < l.length) : (vpv l)[i]? = some (.agg (valP (l.getD i (false,0)))) := by
 simp [vpv,aggs,List.getElem?_eq_getElem h]
theorem iaddr_vals {H xs k' k i} (h0 : 0 ≤ i) (h : i < (xs.length : Int)) : iaddrA H 2 (.p (.sl k' 2 (vpv xs))) (.p (.int k i)) = some (.p (.ptr (valP (xs.getD i.toNat (false,0))))) := iaddr_sl h0 (vpv_get (by omega))
attribute [go_sem] pair_eta vpv_len iaddr_vals
theorem take_snoc' {α : Type} {l : List α} {i : Nat} (d : α) (h : i < l.length) : l.take (i + 1) = l.take i ++ [l.getD i d] := by
 rw [List.take_add_one,List.getElem?_eq_getElem h]
 simp [List.getElem?_eq_getElem h]
theorem lens : (∀ {α : Type} (a : α) (l : List α),(a :: l).length = l.length + 1) ∧ (∀ {α : Type},([] : List α).length = 0) ∧ (∀ {α : Type} (a b : List α),(a ++ b).length = a.length + b.length) ∧ (∀ {α : Type} (n : Nat) (a : α),(List.replicate n a).length = n) ∧ (∀ {α β : Type} (f : α → β) (l : List α),(l.map f).length = l.length) ∧
    (∀ {α : Type} (l : List α) (i : Nat) (a : α),(l.set i a).length = l.length) ∧ (∀ {α : Type} (n : Nat) (l : List α),(l.take n).length = min n l.length) ∧ (∀ {α : Type} (n : Nat) (l : List α),(l.drop n).length = l.length - n) ∧
    (∀ l,(strs l).length = l.length) ∧ (∀ k l,(ints k l).length = l.length) ∧ (∀ l,(bools l).length = l.length) ∧ (∀ l,(aggs l).length = l.length) ∧ ∀ l,(vpv l).length = l.length :=
  ⟨fun _ _ => rfl,rfl,fun _ _ => List.length_append,fun _ _ => List.length_replicate,fun _ _ => List.length_map _,fun _ _ _ => List.length_set,fun _ _ => List.length_take,fun _ _ => List.length_drop,fun _ => strs_len,fun _ _ => ints_len,fun _ => bools_len,fun _ => aggs_len,fun _ => vpv_len⟩
end Ab
namespace Ab
open Go (IntKind BinOp UnOp)
def lastB (s : List UInt8) (c : Int) : Nat → Int
 | 0 => -1
 | i + 1 => if byt s i = c then (i : Int) else lastB s c i
def splitB (c : UInt8) : List UInt8 → List (List UInt8)
 | [] => [[]]
 | b :: l => if b = c then [] :: splitB c l else match splitB c l with | [] => [[b]] | h :: t => (b :: h) :: t
theorem LastIndexByteString_l1 (s : List UInt8) (c : Int) (hs : s.length < 4611686018427387904) (Q : Out → Prop) : ∀ i,i ≤ s.length →
  (lastB s c i < 0 → Q (.nrm,[],[])) → (0 ≤ lastB s c i → Q (.ret,[(4,.p (.int .i64 (lastB s c i)))],[])) →
  Wp Γ internal_bytealg_LastIndexByteString_l1 [(0,.p (.str s)),(1,.p (.int .u8 c)),(5,.p (.int .i64 ((i : Int) - 1)))] [] (InBlk [] 0 Q) := by
 intro i
 induction i with
 | zero =>
  intro hi h1 h2
  rw [W_loop (L := internal_bytealg_LastIndexByteString_l1) rfl]
  simp (disch := first | assumption | omega | decide | (simp only [lens] <;> omega) | fail) only [go_sem]
  exact h1 (by simp [lastB])
 | succ i ih =>
  intro hi h1 h2
  have e : ((i + 1 : Nat) : Int) - 1 = (i : Int) := by omega
  rw [W_loop (L := internal_bytealg_LastIndexByteString_l1) rfl]
  rw [e]
  simp (disch := first | assumption | omega | decide | (simp only [lens] <;> omega) | fail) only [go_sem]
  refine cond_split (fun hc => ?_) (fun hc => ?_)
  ·simp (disch := first | assumption | omega | decide | (simp only [lens] <;> omega) | fail) only [go_sem]
   simp only [lastB,hc,if_true] at h2
   exact h2 (by omega)
  ·simp (disch := first | assumption | omega | decide | (simp only [lens] <;> omega) | fail) only [go_sem]
   simp only [lastB,hc,if_false] at h1 h2
   exact ih (by omega) h1 h2
theorem lastB_ge (s c) : ∀ i,-1 ≤ lastB s c i ∧ lastB s c i < i := by
 intro i
 induction i with
 | zero => simp [lastB]
 | succ i ih => simp only [lastB]; split <;> omega
theorem lastB_neg {s c i} (h : lastB s c i < 0) : lastB s c i = -1 := by have := lastB_ge s c i; omega
@[go_sem] theorem res_LastIndexByteString (s : List UInt8) (c : Int) (hs : s.length < 4611686018427387904) : res Γ 46 [.str s,.int .u8 c] = some [.int .i64 (lastB s c s.length)] := by
 refine res_code (fn := internal_bytealg_LastIndexByteString) rfl rfl ?_
 simp (disch := first | assumption | omega | decide | (simp only [lens] <;> omega) | fail) only [go_sem,internal_bytealg_LastIndexByteString]
 refine LastIndexByteString_l1 s c hs _ s.length (Nat.le_refl _) (fun h => ?_) (fun h => ?_)
 ·simp (disch := first | assumption | omega | decide | (simp only [lens] <;> omega) | fail) only [go_sem,lastB_neg h]
 ·simp (disch := first | assumption | omega | decide | (simp only [lens] <;> omega) | fail) only [go_sem]
@[go_sem] theorem res_LastIndexByte (s : List UInt8) (c : Int) (hs : s.length < 4611686018427387904) : res Γ 25 [.str s,.int .u8 c] = some [.int .i64 (lastB s c s.length)] := by
 refine res_code (fn := strings_LastIndexByte) rfl rfl ?_
 simp (disch := first | assumption | omega | decide | (simp only [lens] <;> omega) | fail) only [go_sem,strings_LastIndexByte]
@[go_sem] theorem res_IndexByteString (s : List UInt8) (c : Int) : res Γ 70 [.str s,.int .u8 c] = some [.int .i64 (ixB s c.toNat.toUInt8)] := res_of (RunP_prim (g := indexByteG) rfl rfl)
@[go_sem] theorem res_CountString (s : List UInt8) (c : Int) : res Γ 73 [.str s,.int .u8 c] = some [.int .i64 (s.count c.toNat.toUInt8 : Nat)] := res_of (RunP_prim (g := countG) rfl rfl)
@[go_sem] theorem res_liteIndexByte (s : List UInt8) (c : Int) : res Γ 64 [.str s,.int .u8 c] = some [.int .i64 (ixB s c.toNat.toUInt8)] := by
 refine res_code (fn := internal_stringslite_IndexByte) rfl rfl ?_
 simp (disch := first | assumption | omega | decide | (simp only [lens] <;> omega) | fail) only [go_sem,internal_stringslite_IndexByte]
@[go_sem] theorem res_IndexByte (s : List UInt8) (c : Int) : res Γ 55 [.str s,.int .u8 c] = some [.int .i64 (ixB s c.toNat.toUInt8)] := by
 refine res_code (fn := strings_IndexByte) rfl rfl ?_
 simp (disch := first | assumption | omega | decide | (simp only [lens] <;> omega) | fail) only [go_sem,strings_IndexByte]
theorem byt_one {c : UInt8} : byt [c] 0 = (c.toNat : Int) := rfl
theorem toU8_nat {c : UInt8} : c.toNat.toUInt8 = c := by simp
@[go_sem] theorem res_liteIndex1 (s : List UInt8) (c : UInt8) : res Γ 74 [.str s,.str [c]] = some [.int .i64 (ixB s c)] := by
 refine res_code (fn := internal_stringslite_Index) rfl rfl ?_
 simp (disch := first | assumption | omega | decide | (simp only [lens] <;> omega) | fail) only [go_sem,internal_stringslite_Index]
 refine cond_split (fun hc => ?_) (fun hc => ?_)
 ·simp (disch := first | assumption | omega | decide | (simp only [lens] <;> omega) | fail) only [go_sem]
  subst hc
  simp [ixB]
 ·simp (disch := first | assumption | omega | decide | (simp only [lens] <;> omega) | fail) only [go_sem,byt_one,toU8_nat]
@[go_sem] theorem res_Index1 (s : List UInt8) (c : UInt8) : res Γ 67 [.str s,.str [c]] = some [.int .i64 (ixB s c)] := by
 refine res_code (fn := strings_Index) rfl rfl ?_
 simp (disch := first | assumption | omega | decide | (simp only [lens] <;> omega) | fail) only [go_sem,strings_Index]
@[go_sem] theorem res_Count1 (s : List UInt8) (c : UInt8) : res Γ 68 [.str s,.str [c]] = some [.int .i64 (s.count c : Nat)] := by
 refine res_code (fn := strings_Count) rfl rfl ?_
 simp (disch := first | assumption | omega | decide | (simp only [lens] <;> omega) | fail) only [go_sem,strings_Count,byt_one,toU8_nat]
theorem ixB_nn {s : List UInt8} {c : UInt8} : -1 ≤ ixB s c ∧ ixB s c < s.length := by
 induction s with
 | nil => simp [ixB]
 | cons b l ih => simp only [ixB,List.length_cons,beq_iff_eq]; split <;> (try split) <;> omega
theorem splitB_ix (c : UInt8) : ∀ s : List UInt8,(ixB s c < 0 → splitB c s = [s]) ∧ (0 ≤ ixB s c → splitB c s = s.take (ixB s c).toNat :: splitB c (s.drop ((ixB s c).toNat + 1)))
 | [] => by simp [ixB,splitB]
 | b :: l => by
  have ih := splitB_ix c l
  have hn := @ixB_nn l c
  by_cases hb : b = c
  ·subst hb; simp [ixB,splitB]
  ·have hb' : (b == c) = false := by simpa using hb
   simp only [ixB,splitB,hb,hb',if_false,Bool.false_eq_true,beq_iff_eq]
   by_cases h : ixB l c = -1
   ·rw [if_pos h,ih.1 (by omega)]
    exact ⟨fun _ => rfl,fun h => by omega⟩
   ·rw [if_neg h,ih.2 (by omega)]
    refine ⟨fun h => by omega,fun _ => ?_⟩
    have e : (ixB l c + 1).toNat = (ixB l c).toNat + 1 := by omega
    simp only [e,List.take_succ_cons,List.drop_succ_cons]
theorem splitB_len (c : UInt8) : ∀ s : List UInt8,(splitB c s).length = s.count c + 1
 | [] => by simp [splitB]
 | b :: l => by
  have ih := splitB_len c l
  by_cases hb : b = c
  ·subst hb; simp [splitB,ih]
  ·simp only [splitB,hb,if_false]
   rw [List.count_cons_of_ne hb]
   cases h : splitB c l with
   | nil => rw [h] at ih; simp at ih
   | cons x y => rw [h] at ih; simpa using ih
theorem count_le {s : List UInt8} {c : UInt8} : s.count c ≤ s.length := List.count_le_length
theorem genSplit_l1 (c : UInt8) (n : Nat) (hn : n < 1000000000) (Q : Out → Prop) : ∀ (k i : Nat) (s : List UInt8) (done : List (List UInt8)),s.length < 1000000000 → done.length = i → s.count c = k → i + k = n →
  (∀ s' done',strs (done ++ splitB c s) = strs (done' ++ [s']) → done'.length = n → Q (.nrm,[(0,.p (.str s')),(9,.own 0 (n + 1)),(10,.p (.int .i64 (n : Int)))],[.row false 1 (strs (done' ++ [[]]))])) →
  Wp Γ strings_genSplit_l1 [(0,.p (.str s)),(1,.p (.str [c])),(2,.p (.int .i64 0)),(3,.p (.int .i64 (n : Int))),(9,.own 0 (n + 1)),(10,.p (.int .i64 (i : Int)))] [.row false 1 (strs (done ++ List.replicate (k + 1) []))] (InBlk [0,9,10] 0 Q) := by
 intro k
 induction k with
 | zero =>
  intro i s done hs hd hk hi hQ
  rw [W_loop (L := strings_genSplit_l1) rfl]
  simp (disch := first | assumption | omega | decide | (simp only [lens] <;> omega) | fail) only [go_sem]
  obtain rfl : i = n := by omega
  have h : ¬ 0 ≤ ixB s c := fun h => by
   have := splitB_len c s
   rw [(splitB_ix c s).2 h] at this
   simp at this; have := splitB_len c (s.drop ((ixB s c).toNat + 1)); omega
  refine hQ s done ?_ hd
  rw [(splitB_ix c s).1 (by omega)]
 | succ k ih =>
  intro i s done hs hd hk hi hQ
  rw [W_loop (L := strings_genSplit_l1) rfl]
  have h : 0 ≤ ixB s c := by
   have := splitB_len c s
   by_cases h : ixB s c < 0
   ·rw [(splitB_ix c s).1 h] at this; simp at this; omega
   ·omega
  have hlt := @ixB_nn s c
  simp (disch := first | assumption | omega | decide | (simp only [lens] <;> omega) | fail) only [go_sem,set_rep]
  have e : done ++ List.take (ixB s c).toNat s :: List.replicate (k + 1 + 1 - 1) [] = (done ++ [List.take (ixB s c).toNat s]) ++ List.replicate (k + 1) [] := by simp
  have e2 : (ixB s c + ((1 : Nat) : Int)).toNat = (ixB s c).toNat + 1 := by omega
  have e3 := splitB_len c s
  have e4 := (splitB_ix c s).2 h
  have e5 := splitB_len c (s.drop ((ixB s c).toNat + 1))
  rw [e,e2]
  refine ih (i + 1) _ _ (by simp; omega) (by simp [hd]) ?_ (by omega) (fun s' d' h1 h2 => hQ s' d' ?_ h2)
  ·rw [e4] at e3; simp only [List.length_cons] at e3; omega
  ·rw [e4,← h1,List.append_assoc]; rfl
@[go_sem] theorem res_genSplit (s : List UInt8) (c : UInt8) (hs : s.length < 900000000) : res Γ 63 [.str s,.str [c],.int .i64 0,.int .i64 (-1)] = some [.sl .any 1 (strs (splitB c s))] := by
 have hc := @count_le s c
 refine res_code (fn := strings_genSplit) rfl rfl ?_
 simp (disch := first | assumption | omega | decide | (simp only [lens] <;> omega) | fail) only [go_sem,strings_genSplit]
 rw [show ((s.count c : Nat) : Int) + 1 - 1 = ((s.count c : Nat) : Int) by omega,show (((s.count c : Nat) : Int) + 1).toNat = s.count c + 1 by omega]
 refine genSplit_l1 c (s.count c) (by omega) _ (s.count c) 0 s [] (by omega) rfl rfl (by omega) (fun s' d' h1 h2 => ?_)
 simp (disch := first | assumption | omega | decide | (simp only [lens] <;> omega) | fail) only [go_sem]
 rw [show (((s.count c : Nat) : Int) + 1).toNat = (d' ++ [s']).length by simp; omega,List.take_length,← h1,List.nil_append]
@[go_sem] theorem res_Split (s : List UInt8) (c : UInt8) (hs : s.length < 900000000) : res Γ 52 [.str s,.str [c]] = some [.sl .any 1 (strs (splitB c s))] := by
 refine res_code (fn := strings_Split) rfl rfl ?_
 simp (disch := first | assumption | omega | decide | (simp only [lens] <;> omega) | fail) only [go_sem,strings_Split]
end Ab
