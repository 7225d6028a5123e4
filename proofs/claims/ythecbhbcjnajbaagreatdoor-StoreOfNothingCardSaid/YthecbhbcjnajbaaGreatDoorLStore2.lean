import Derived.Test.YthecbhbcjnajbaaGreatDoorCode
import Derived.Test.YthecbhbcjnajbaaGreatDoorAbPrim
import Derived.KernelRfl
import Derived.Attr
namespace Ab
theorem known_ev26 : ∃ n r,callOf Γ (ev Γ n) 470 ((List.map .p ([] : List PV))) [] = some r ∧ mapO (reify r.2 4) r.1 = some [.bool true] := ⟨1000,([.p (.bool true)],(callOf Γ (ev Γ 1000) 470 [] []).elim [] (·.2)),by kernel_rfl,by kernel_rfl⟩
theorem res_known26 : res Γ 470 [] = some [.bool true] := res_of known_ev26
theorem same_ev26 : ∃ n r,callOf Γ (ev Γ n) 28 ((List.map .p ([.agg [.str [],.int .i64 0,.int .i64 0,.sl .nil 2 [],.int .i64 0],.agg [.str [],.int .i64 0,.int .i64 0,.sl .nil 2 [],.int .i64 0]] : List PV))) [] = some r ∧ mapO (reify r.2 4) r.1 = some [.bool true] := ⟨100,([.p (.bool true)],(callOf Γ (ev Γ 100) 28 (List.map .p ([.agg [.str [],.int .i64 0,.int .i64 0,.sl .nil 2 [],.int .i64 0],.agg [.str [],.int .i64 0,.int .i64 0,.sl .nil 2 [],.int .i64 0]] : List PV)) []).elim [] (·.2)),by kernel_rfl,by kernel_rfl⟩
theorem res_same26 : res Γ 28 [.agg [.str [],.int .i64 0,.int .i64 0,.sl .nil 2 [],.int .i64 0],.agg [.str [],.int .i64 0,.int .i64 0,.sl .nil 2 [],.int .i64 0]] = some [.bool true] := res_of same_ev26
theorem headers_ev26 : ∃ n r,callOf Γ (ev Γ n) 468 ((List.map .p ([.agg [.int .i64 0,.int .i64 0,.sl .nil 2 []],.agg [.int .i64 0,.int .i64 0,.sl .nil 2 []]] : List PV))) [] = some r ∧ mapO (reify r.2 4) r.1 = some [.bool true] := ⟨100,([.p (.bool true)],(callOf Γ (ev Γ 100) 468 (List.map .p ([.agg [.int .i64 0,.int .i64 0,.sl .nil 2 []],.agg [.int .i64 0,.int .i64 0,.sl .nil 2 []]] : List PV)) []).elim [] (·.2)),by kernel_rfl,by kernel_rfl⟩
theorem res_headers26 : res Γ 468 [.agg [.int .i64 0,.int .i64 0,.sl .nil 2 []],.agg [.int .i64 0,.int .i64 0,.sl .nil 2 []]] = some [.bool true] := res_of headers_ev26
end Ab
namespace Ab
open Go (IntKind BinOp UnOp)
theorem map_gtr {k a b} : binAV .gtr (.p (.int k a)) (.p (.int k b)) = some (.p (.bool (decide (b < a)))) := by simp [binAV,binPV,binInt]
theorem map_eql {k a b} : binAV .eql (.p (.int k a)) (.p (.int k b)) = some (.p (.bool (decide (a = b)))) := by
 simp only [binAV,binPV,binInt,true_or,if_true,Option.map_some,Option.some.injEq,AV.p.injEq,PV.bool.injEq]; rw [Bool.eq_iff_iff]; simp
theorem map_neq {k a b} : binAV .neq (.p (.int k a)) (.p (.int k b)) = some (.p (.bool (decide (a ≠ b)))) := by
 simp only [binAV,binPV,binInt,true_or,if_true,Option.map_some,Option.some.injEq,AV.p.injEq,PV.bool.injEq]; rw [Bool.eq_iff_iff]; simp
theorem not_bool {b : Bool} : unA .not (.p (.bool b)) = some (.p (.bool (!b))) := rfl
def lk (b : Bool) (v : AV) (r : Env) (t : Nat) : AV := match b with | true => v | false => look r t
theorem look_cons {s t : Nat} {v : AV} {r : Env} : look ((s,v) :: r) t = lk (s == t) v r t := by
 unfold look lk
 by_cases h : s = t
 ·subst h; simp
 ·rw [if_neg h,beq_false_of_ne h]
theorem lk_t {v : AV} {r : Env} {t : Nat} : lk true v r t = v := rfl
theorem lk_f {v : AV} {r : Env} {t : Nat} : lk false v r t = look r t := rfl
theorem norm_f {live env H} : norm live none env H = some (prune live env,H) := rfl
def normG (H : Heap) (e : Env) (L : List Nat) : Option (Env × Heap) := match renEnv (place L) e,Heap.pick H L with
  | some e',some H' => some (e',H')
  | _,_ => none
theorem norm_1 {live env H} : norm live (some 1) env H = normG H (prune live env) (reach H 64 (((prune live env).flatMap fun x => x.2.refs) ++ (H.take 1).flatMap Blk.refs) [0]) := rfl
theorem ifB_t {α : Type} {x : Option α} : ifB true x = x := rfl
theorem ifB_f {α : Type} {x : Option α} : ifB false x = none := rfl
def envFrom : Nat → List AV → Env
 | _,[] => []
 | n,a :: r => (n,a) :: envFrom (n + 1) r
theorem initEnv_eq {args : List AV} : initEnv args = envFrom 0 args := by
 have key : ∀ (args : List AV) (k : Nat),((args.zipIdx k).map fun x => (x.2,x.1)) = envFrom k args := by
  intro args
  induction args with
  | nil => intro k; rfl
  | cons a r ih => intro k; rw [List.zipIdx_cons,List.map_cons,ih]; rfl
 exact key args 0
def Ends (rvs : List RV) (rs : List PV) : Out → Prop
 | (.ex _,_,_) => False
 | (_,e,h) => optP (mapO (RV.get e h) rvs) fun vs => mapO (reify h 4) vs = some rs
def endK (vs : Option (List AV)) (h : Heap) (rs : List PV) : Prop := optP vs fun vs => mapO (reify h 4) vs = some rs
theorem endK_some {vs h rs} : endK (some vs) h rs ↔ mapO (reify h 4) vs = some rs := Iff.rfl
theorem Ends_nrm {rvs rs e h} : Ends rvs rs (.nrm,e,h) ↔ endK (mapO (RV.get e h) rvs) h rs := Iff.rfl
theorem Ends_ret {rvs rs e h} : Ends rvs rs (.ret,e,h) ↔ endK (mapO (RV.get e h) rvs) h rs := Iff.rfl
theorem get_slot {e h t} : RV.get e h (.slot t) = some (look e t) := rfl
theorem get_cell {e h t sz ag} : RV.get e h (.cell t sz ag) = loadA h sz ag (look e t) := rfl
theorem reify_p {H d v} : reify H d (.p v) = some v := by cases d <;> rfl
theorem reify_own {H d id n} : reify H (d + 1) (.own id n) = (rowOf H id n).map fun r => .sl .any r.1 r.2 := rfl
theorem reify_agg {H d cs} : reify H (d + 1) (.agg cs) = (mapO (reify H d) cs).map .agg := rfl
theorem reify_bx {H d id off} : reify H (d + 1) (.bx id off) = (boxOf H id).bind fun cs => if off < cs.length then (mapO (reify H d) (cs.drop off)).map .ptr else none := rfl
theorem reify_el {H d id n i off} (h : i < n) : reify H (d + 1) (.el id n i off) = (rowOf H id n).bind fun r => r.2[i]?.bind fun x => if off < x.cells.length then some (.ptr (x.cells.drop off)) else none := by
 simp only [reify]; rw [if_neg (by omega)]
theorem reify_pc {H d id n i off} (h : n ≤ i) : reify H (d + 1) (.el id n i off) = (rowOf H id n).bind fun r => if i - n < n ∧ i - n ≤ off ∧ off ≤ n then some (.sl .mem r.1 ((r.2.take off).drop (i - n))) else none := by
 simp only [reify]; rw [if_pos h]
theorem reify_clo {H d f cs} : reify H (d + 1) (.clo f cs) = (mapO (reify H d) cs).map (.clo f) := rfl
theorem mapO_nil {α β : Type} {f : α → Option β} : mapO f [] = some [] := rfl
theorem mapO_cons {α β : Type} {f : α → Option β} {c r} : mapO f (c :: r) = (f c).bind fun x => (mapO f r).map (x :: ·) := by
 simp only [mapO]
 cases f c with
 | none => rfl
 | some x => cases mapO f r <;> rfl
theorem res_code {Γ : Ctx} {f : Nat} {fn : AFn} {args rs : List PV} (hf : Γ.fn f = some (.code fn)) (hl : args.length = fn.np)
  (h : Wp Γ fn.body (envFrom 0 (args.map .p)) [] (Ends fn.results rs)) : res Γ f args = some rs := by
 refine res_of (RunP_of hf hl ?_)
 rw [initEnv_eq]
 refine h.mono ?_
 rintro ⟨x,e,h⟩ ho
 cases x
 ·exact ⟨by simp,ho⟩
 ·exact ho.elim
 ·exact ⟨by simp,ho⟩
section
variable {Γ : Ctx} {env : Env} {H : Heap} {live : List Nat} {Q : Out → Prop} {r : List St} {dst : Option Nat} {c : Prop} [Decidable c] {op : QOp ⊕ XOp} {a b : Code}
theorem cond_pos (h : c) : condC Γ (.p (.bool (decide c))) a b env H Q ↔ Wp Γ a env H Q := by rw [decide_eq_true h]; exact condC_true
theorem cond_neg (h : ¬c) : condC Γ (.p (.bool (decide c))) a b env H Q ↔ Wp Γ b env H Q := by rw [decide_eq_false h]; exact condC_false
theorem gd_pt (h : c) : gdK Γ (.p (.bool (decide c))) true dst op r env H live Q ↔ WpL Γ (⟨dst,none,op⟩ :: r) env H live Q := by rw [decide_eq_true h]; exact gdK_tt
theorem pick_pos {x y : AV} (h : c) : pickA (.p (.bool (decide c))) x y = some x := by rw [decide_eq_true h]; rfl
theorem pick_t {x y : AV} : pickA (.p (.bool true)) x y = some x := rfl
theorem pick_f {x y : AV} : pickA (.p (.bool false)) x y = some y := rfl
end
attribute [go_sem] cond_pos cond_neg gd_pt wrap_i64
attribute [go_sem] W_seq W_ops W_cond Wp_block Wp_skip Wp_ret NxtC_nrm NxtC_ex NxtC_ret InBlk_nrm InBlk_ret condC_true condC_false L_nil L_guard gdK_tt opK_some opX_some lpK_some L_mov L_pick L_bin L_eqk L_len L_load L_build L_ext L_alloc L_store L_call
attribute [go_sem] envFrom Ends_nrm Ends_ret endK_some get_slot get_cell Arg.ev look_cons lk_t lk_f put prune norm_f norm_1 List.map_cons List.map_nil pick_t pick_f pick_pos nilchkA not_bool convA runeStrA sameA extA closA callee callR mapO_nil mapO_cons reify_p reify_own reify_agg reify_el reify_pc reify_clo List.append_nil List.nil_append List.cons_append map_gtr map_eql map_neq aidxA fldA faddrA bsliceA boxA appendSA copyA bytesOfA mkAgg chunks results AV.cells PV.cells AV.ok AV.one PV.one AV.isP allP rowsOnly elOk eqsA eqkA eqK eqCells ifB_t ifB_f flat flat1
attribute [go_sem] Nat.reduceEqDiff reduceCtorEq ite_false ite_true if_true if_false true_or or_true false_or or_false true_and and_true not_true_eq_false not_false_eq_true Option.map_some Option.map_none Option.bind_some Option.bind_none and_self Bool.false_eq_true Bool.not_true Bool.not_false Bool.true_and Bool.and_true Bool.or_true Bool.true_or Bool.false_or Bool.or_false Bool.and_false Bool.false_and List.all_cons List.all_nil List.flatMap_cons List.flatMap_nil List.getElem?_cons_zero List.getElem?_cons_succ List.length_cons List.length_nil List.drop_zero List.take_zero List.set_cons_zero List.set_cons_succ
attribute [go_sem] Nat.reduceBEq Nat.reduceBNe Nat.reduceLeDiff Nat.reduceAdd Nat.reduceSub Nat.reduceMul Nat.reduceLT Int.reduceLT Int.reduceLE Int.reduceEq Int.reduceNe Int.reduceAdd Int.reduceSub Int.reduceMul Int.reduceNeg Int.reduceToNat Int.toNat_zero Int.toNat_one eq_self decide_true decide_false
end Ab
namespace Ab
open Go (IntKind BinOp UnOp)
def strs (l : List (List UInt8)) : List PV := l.map .str
def ints (k : IntKind) (l : List Int) : List PV := l.map (.int k)
def bools (l : List Bool) : List PV := l.map .bool
def aggs (l : List (List PV)) : List PV := l.map .agg
theorem strs_len {l} : (strs l).length = l.length := by simp [strs]
theorem ints_len {k l} : (ints k l).length = l.length := by simp [ints]
theorem bools_len {l} : (bools l).length = l.length := by simp [bools]
theorem aggs_len {l} : (aggs l).length = l.length := by simp [aggs]
theorem len_own {H id n} : asLen H false (.own id n) = (rowOf H id n).map fun _ => n := rfl
theorem len_sl {H k sz xs} : asLen H false (.p (.sl k sz xs)) = some xs.length := rfl
theorem len_str {H s} : asLen H true (.p (.str s)) = some s.length := rfl
theorem load_ptr {H sz ag cells} : loadA H sz ag (.p (.ptr cells)) = takeP sz ag cells := rfl
def tkO (sz : Nat) (ag : Bool) (off : Nat) (b : Option (List AV)) : Option AV := b.bind fun cs => takeA sz ag (cs.drop off)
theorem load_bx {H sz ag id off} : loadA H sz ag (.bx id off) = tkO sz ag off (boxOf H id) := rfl
theorem tkO_some {sz ag off cs} : tkO sz ag off (some cs) = takeA sz ag (cs.drop off) := rfl
attribute [go_sem] tkO_some
theorem takeP_one {sz c r} : takeP sz false (c :: r) = some (.p c) := rfl
theorem slf_p {H sz v lo hi} : slicefA H sz (.p v) lo hi = (sliceA sz (.p v) lo hi).map fun v => (v,H) := rfl
theorem frz_nil {H} : freeze H [] = H := rfl
theorem frz_p {H v r} : freeze H (.p v :: r) = freeze H r := rfl
theorem cutk_any : SK.any.cut = .any := rfl
theorem cutk_mem : SK.mem.cut = .mem := rfl
theorem cutk_tight : SK.tight.cut = .mem := rfl
theorem cutk_nil : SK.nil.cut = .nil := rfl
attribute [go_sem] cutk_any cutk_mem cutk_tight cutk_nil
def fillK (b : Bool) (zero : List AV) (off sz : Nat) (v : AV) (r : List (Nat × Nat × AV)) : Option (List AV) :=
 match b with
 | true => fillA (zero.take off ++ v.cells ++ zero.drop (off + sz)) r
 | false => none
theorem fill_nil {zero} : fillA zero [] = some zero := rfl
theorem fill_t {zero off sz v r} : fillK true zero off sz v r = fillA (zero.take off ++ v.cells ++ zero.drop (off + sz)) r := rfl
theorem pures_nil : pures [] = some [] := rfl
theorem pures_p {v r} : pures (.p v :: r) = (pures r).map (v :: ·) := rfl
theorem pures_own {id n r} : pures (.own id n :: r) = none := rfl
theorem pures_bx {id n r} : pures (.bx id n :: r) = none := rfl
theorem pures_el {id n i o r} : pures (.el id n i o :: r) = none := rfl
theorem pures_agg {cs r} : pures (.agg cs :: r) = none := rfl
theorem pures_clo {f cs r} : pures (.clo f cs :: r) = none := rfl
attribute [go_sem] pures_own pures_bx pures_el pures_agg pures_clo
attribute [go_sem] List.getD_cons_zero List.getD_cons_succ
attribute [go_sem] beq_self_eq_true
attribute [go_sem] fill_nil fill_t pures_nil pures_p List.take_succ_cons List.drop_succ_cons List.drop_nil List.take_nil List.append_assoc
def frzK (H : Heap) (b : Option Blk) (id : Nat) (r : List AV) : Heap := freeze (match b with | some (.row _ sz xs) => H.set id (.row true sz xs) | _ => H) r
theorem frz_K {H : Heap} {id n r} : freeze H (.own id n :: r) = frzK H H[id]? id r := rfl
theorem frzK_row {H : Heap} {f sz xs id r} : frzK H (some (.row f sz xs)) id r = freeze (H.set id (.row true sz xs)) r := rfl
def storeBK (cs : Option (List AV)) (H : Heap) (id off sz : Nat) (v : AV) : Option Heap := cs.bind fun cs => ifB (v.ok && (v.cells.length == sz) && decide (off + sz ≤ cs.length)) (some (H.set id (.box (cs.take off ++ v.cells ++ cs.drop (off + sz)))))
theorem store_B {H : Heap} {id off sz : Nat} {v : AV} : storeA H sz (.bx id off) v = storeBK (boxOf H id) H id off sz v := by
 simp only [storeA,storeBK]
 congr 1
 funext cs
 by_cases h : v.ok = true ∧ v.cells.length = sz ∧ off + sz ≤ cs.length
 ·rw [if_pos h]; simp [h,ifB]
 ·rw [if_neg h,show (v.ok && (v.cells.length == sz) && decide (off + sz ≤ cs.length)) = false by simpa [and_assoc] using h]; rfl
theorem stB_lit {cs : List AV} {H : Heap} {id off sz : Nat} {v : AV} : storeBK (some cs) H id off sz v = ifB (v.ok && (v.cells.length == sz) && decide (off + sz ≤ cs.length)) (some (H.set id (.box (cs.take off ++ v.cells ++ cs.drop (off + sz))))) := rfl
attribute [go_sem low] stB_lit
theorem neg_int {k n} : unA .neg (.p (.int k n)) = some (.p (.int k (k.wrap (0 - n)))) := rfl
theorem beq_self_t : (true == true) = true := rfl
theorem beq_self_f : (false == false) = true := rfl
theorem beq_tf : (true == false) = false := rfl
theorem beq_ft : (false == true) = false := rfl
attribute [go_sem] Bool.bne_false Bool.bne_true beq_self_t beq_self_f beq_tf beq_ft
attribute [go_sem] neg_int
theorem range_str {H : Heap} {s : List UInt8} : rangeA H (.p (.str s)) = some (.bx H.length 0,H ++ [.box (iterCells s 0)]) := rfl
attribute [go_sem] range_str
attribute [go_sem] store_B Int.min_eq_left Int.min_eq_right Int.max_eq_left Int.max_eq_right List.headD_cons
def boxK (b : Option Blk) : Option (List AV) := match b with
 | some (.box (.nov :: _)) => none
 | some (.box cs) => some cs
 | _ => none
theorem box_K {H : Heap} {id : Nat} : boxOf H id = boxK H[id]? := by
 unfold boxOf boxK
 rfl
theorem boxK_p {v r} : boxK (some (.box (.p v :: r))) = some (.p v :: r) := rfl
theorem boxK_own {id n r} : boxK (some (.box (.own id n :: r))) = some (.own id n :: r) := rfl
theorem boxK_bx {id n r} : boxK (some (.box (.bx id n :: r))) = some (.bx id n :: r) := rfl
theorem take_one {sz c r} : takeA sz false (c :: r) = some c := rfl
theorem take_ag {n} {cs : List AV} (h : n ≤ cs.length) : takeA n true cs = some (mkAgg (cs.take n)) := by simp [takeA,h]
attribute [go_sem low] take_ag
attribute [go_sem] take_one
def rbx (H : Heap) (d off : Nat) (b : Option (List AV)) : Option PV := b.bind fun cs => ifB (decide (off < cs.length)) ((mapO (reify H d) (cs.drop off)).map .ptr)
theorem rbx_lit {H : Heap} {d off : Nat} {cs : List AV} : rbx H d off (some cs) = ifB (decide (off < cs.length)) ((mapO (reify H d) (cs.drop off)).map .ptr) := rfl
attribute [go_sem low] rbx_lit
attribute [go_sem] Nat.mul_one Nat.zero_add box_K boxK_p boxK_own boxK_bx List.set_cons_zero
attribute [go_sem] Int.add_zero Int.zero_add Int.sub_zero
attribute [go_sem] frz_K frzK_row
attribute [go_sem] len_own len_sl len_str load_ptr load_bx takeP_one slf_p frz_nil frz_p
def refsAt (b : Option Blk) : List Nat := match b with | some b => b.refs | none => []
def reachK (c : Bool) (H : Heap) (n : Nat) (id : Nat) (r acc : List Nat) : List Nat := match c with
 | true => reach H n r acc
 | false => reach H n (r ++ refsAt H[id]?) (acc ++ [id])
theorem reachK_t {H : Heap} {n id : Nat} {r acc : List Nat} : reachK true H n id r acc = reach H n r acc := rfl
theorem reachK_f {H : Heap} {n id : Nat} {r acc : List Nat} : reachK false H n id r acc = reach H n (r ++ refsAt H[id]?) (acc ++ [id]) := rfl
theorem refsAt_row {f sz xs} : refsAt (some (.row f sz xs)) = [] := rfl
theorem refsAt_box {cs : List AV} : refsAt (some (.box cs)) = cs.flatMap AV.refs := rfl
theorem refs_p {v : PV} : AV.refs (.p v) = [] := rfl
theorem refs_own {id n} : AV.refs (.own id n) = [id] := rfl
theorem refs_bx {id n} : AV.refs (.bx id n) = [id] := rfl
theorem refs_el {id n i o} : AV.refs (.el id n i o) = [id] := rfl
theorem refs_nov : AV.refs .nov = [] := rfl
def placeK (c : Bool) (r : List Nat) (id : Nat) : Option Nat := match c with
 | true => some 0
 | false => (place r id).map (· + 1)
theorem place_nil {id} : place [] id = none := rfl
theorem placeK_t {r id} : placeK true r id = some 0 := rfl
theorem placeK_f {r id} : placeK false r id = (place r id).map (· + 1) := rfl
theorem ren_agg {r d cs} : AV.ren r (d + 1) (.agg cs) = (mapO (AV.ren r d) cs).map .agg := rfl
def renE (r : Nat → Option Nat) : Env → Option Env
 | [] => some []
 | (s,v) :: e => (AV.ren r 3 v).bind fun v => (renE r e).map ((s,v) :: ·)
def pickB (H : Heap) (p : Nat → Option Nat) : List Nat → Option Heap
 | [] => some []
 | id :: L => ((H[id]?).bind (Blk.ren p)).bind fun b => (pickB H p L).map (b :: ·)
theorem ren_box {p cs} : Blk.ren p (.box cs) = (mapO (AV.ren p 3) cs).map .box := rfl
theorem ren_row {p f sz xs} : Blk.ren p (.row f sz xs) = some (.row f sz xs) := rfl
def normK (e : Option Env) (h : Option Heap) : Option (Env × Heap) := match e,h with
 | some e,some h => some (e,h)
 | _,_ => none
theorem normK_some {e h} : normK (some e) (some h) = some (e,h) := rfl
theorem renE_nil {r} : renE r [] = some [] := rfl
theorem renE_cons {r s v e} : renE r ((s,v) :: e) = (AV.ren r 3 v).bind fun v => (renE r e).map ((s,v) :: ·) := rfl
theorem pickB_nil {H : Heap} {p} : pickB H p [] = some [] := rfl
theorem pickB_cons {H : Heap} {p id L} : pickB H p (id :: L) = ((H[id]?).bind (Blk.ren p)).bind fun b => (pickB H p L).map (b :: ·) := rfl
attribute [go_sem] reachK_t reachK_f refsAt_row refs_p refs_own refs_bx refs_el refs_nov place_nil placeK_t placeK_f ren_agg ren_box ren_row normK_some renE_nil renE_cons pickB_nil pickB_cons List.contains_nil List.contains_cons
attribute [go_sem low] refsAt_box
structure Ser where
 name : List UInt8
 start : Int
 step : Int
 vals : List (Bool × Int)
 cons : Int
def valP (x : Bool × Int) : List PV := [.bool x.1,.int .i64 x.2]
def vpv (l : List (Bool × Int)) : List PV := aggs (l.map valP)
def Ser.pv (k : SK) (s : Ser) : PV := .agg [.str s.name,.int .i64 s.start,.int .i64 s.step,.sl k 2 (vpv s.vals),.int .i64 s.cons]
theorem pair_eta {α β : Type} {x : α × β} : (x.1,x.2) = x := rfl
theorem vpv_len {l} : (vpv l).length = l.length := by simp [vpv,aggs]
theorem vpv_nil : vpv [] = [] := rfl
attribute [go_sem] pair_eta
theorem lens : (∀ {α : Type} (a : α) (l : List α),(a :: l).length = l.length + 1) ∧ (∀ {α : Type},([] : List α).length = 0) ∧ (∀ {α : Type} (a b : List α),(a ++ b).length = a.length + b.length) ∧ (∀ {α : Type} (n : Nat) (a : α),(List.replicate n a).length = n) ∧ (∀ {α β : Type} (f : α → β) (l : List α),(l.map f).length = l.length) ∧
    (∀ {α : Type} (l : List α) (i : Nat) (a : α),(l.set i a).length = l.length) ∧ (∀ {α : Type} (n : Nat) (l : List α),(l.take n).length = min n l.length) ∧ (∀ {α : Type} (n : Nat) (l : List α),(l.drop n).length = l.length - n) ∧
    (∀ l,(strs l).length = l.length) ∧ (∀ k l,(ints k l).length = l.length) ∧ (∀ l,(bools l).length = l.length) ∧ (∀ l,(aggs l).length = l.length) ∧ ∀ l,(vpv l).length = l.length :=
  ⟨fun _ _ => rfl,rfl,fun _ _ => List.length_append,fun _ _ => List.length_replicate,fun _ _ => List.length_map _,fun _ _ _ => List.length_set,fun _ _ => List.length_take,fun _ _ => List.length_drop,fun _ => strs_len,fun _ _ => ints_len,fun _ => bools_len,fun _ => aggs_len,fun _ => vpv_len⟩
end Ab
namespace Ab
open Go (IntKind BinOp UnOp)
def RunM (Γ : Ctx) (k f : Nat) (asX : List AV) (HL : Heap) (r : List AV × Heap) : Prop := ∃ n x,callOf Γ (ev Γ n) f asX HL = some x ∧ tidy k x = some r
open Classical in
noncomputable def resM (Γ : Ctx) (k f : Nat) (asX : List AV) (HL : Heap) : Option (List AV × Heap) := if h : ∃ r,RunM Γ k f asX HL r then some h.choose else none
section
variable {Γ : Ctx} {env : Env} {H : Heap} {live : List Nat} {Q : Out → Prop} {r : List St} {dst : Option Nat}
def cmD (H : Heap) (L : List Nat) (r : Option (List AV × Heap)) : Option (List AV × Heap) := r.bind fun r => joinBack H L r
noncomputable def cmC (Γ : Ctx) (H : Heap) (f : Nat) (L : List Nat) (b : Bool) (asX : Option (List AV)) (HL : Option Heap) : Option (List AV × Heap) :=
 ifB b (asX.bind fun asX => HL.bind fun HL => cmD H L (resM Γ L.length f asX HL))
noncomputable def cmB (Γ : Ctx) (H : Heap) (f : Nat) (asX : List AV) (L : List Nat) : Option (List AV × Heap) :=
 cmC Γ H f L (L.isEmpty || stillF Γ L.length f) (mapO (AV.ren (place L) 3) asX) (pickB H (place L) L)
noncomputable def cmA (Γ : Ctx) (H : Heap) (args : List AV) (fc : Option (Nat × List AV)) : Option (List AV × Heap) :=
 fc.bind fun fc => cmB Γ H fc.1 (args ++ fc.2) (reach H 64 ((args ++ fc.2).flatMap AV.refs) [])
def resX (x : Option (List AV × Heap)) : Option (AV × Heap) := x.map fun r => (results r.1,r.2)
theorem cmA_some {args : List AV} {f : Nat} {caps : List AV} : cmA Γ H args (some (f,caps)) = cmB Γ H f (args ++ caps) (reach H 64 ((args ++ caps).flatMap AV.refs) []) := rfl
theorem cmB_eq {asX : List AV} {f : Nat} {L : List Nat} : cmB Γ H f asX L = cmC Γ H f L (L.isEmpty || stillF Γ L.length f) (mapO (AV.ren (place L) 3) asX) (pickB H (place L) L) := rfl
theorem cmC_some {asX : List AV} {HL : Heap} {f : Nat} {L : List Nat} : cmC Γ H f L true (some asX) (some HL) = cmD H L (resM Γ L.length f asX HL) := rfl
def jbB (H : Heap) (L : List Nat) (rs : Option (List AV)) (bs : Option (List Blk)) : Option (List AV × Heap) := rs.bind fun rs => bs.map fun bs => (rs,putBack H L bs ++ bs.drop L.length)
theorem cmD_some {L : List Nat} {rs : List AV} {B : Heap} : cmD H L (some (rs,B)) = jbB H L (mapO (AV.ren (backTo H L) 3) rs) (mapO (Blk.ren (backTo H L)) B) := rfl
theorem jbB_some {L : List Nat} {rs : List AV} {bs : List Blk} : jbB H L (some rs) (some bs) = some (rs,putBack H L bs ++ bs.drop L.length) := rfl
theorem resX_some {rs : List AV} {h : Heap} : resX (some (rs,h)) = some (results rs,h) := rfl
theorem putBack_cons {id : Nat} {L : List Nat} {b : Blk} {bs : List Blk} : putBack H (id :: L) (b :: bs) = putBack (H.set id b) L bs := rfl
def btK (b : Bool) (H : Heap) (L : List Nat) (id : Nat) : Option Nat := match b with | true => L[id]? | false => some (H.length + (id - L.length))
theorem btK_t {L : List Nat} {id : Nat} : btK true H L id = L[id]? := rfl
theorem btK_f {L : List Nat} {id : Nat} : btK false H L id = some (H.length + (id - L.length)) := rfl
def tzB (H : Heap) (L : List Nat) (vs : Option (List AV)) (HL : Option Heap) : Option (List PV × Heap) := vs.bind fun vs => HL.bind fun HL => (mapO (reify HL 4) vs).map fun ps => (ps,kill H L)
def tzA (H : Heap) (vs : List AV) (L : List Nat) : Option (List PV × Heap) := tzB H L (mapO (AV.ren (place L) 3) vs) (pickB H (place L) L)
theorem tzA_eq {vs : List AV} {L : List Nat} : tzA H vs L = tzB H L (mapO (AV.ren (place L) 3) vs) (pickB H (place L) L) := rfl
theorem tzB_some {vs : List AV} {HL : Heap} {L : List Nat} : tzB H L (some vs) (some HL) = (mapO (reify HL 4) vs).map fun ps => (ps,kill H L) := rfl
def killK (H : Heap) (id : Nat) (L : List Nat) (b : Option Blk) : Heap := kill (match b with | some b => H.set id (killB b) | none => H) L
theorem kill_nil : kill H [] = H := rfl
theorem kill_cons {id : Nat} {L : List Nat} : kill H (id :: L) = killK H id L H[id]? := rfl
theorem killK_some {id : Nat} {L : List Nat} {b : Blk} : killK H id L (some b) = kill (H.set id (killB b)) L := rfl
theorem killB_row {f sz xs} : killB (.row f sz xs) = .row true sz xs := rfl
theorem killB_box {cs} : killB (.box cs) = .dead := rfl
theorem killB_dead : killB .dead = .dead := rfl
noncomputable def czC (x : Option (List PV)) (H : Heap) : Option (AV × Heap) := x.map fun rs => (results (rs.map .p),H)
noncomputable def czB (Γ : Ctx) (f : Nat) (q : Option (List PV × Heap)) : Option (AV × Heap) := q.bind fun q => czC (res Γ f q.1) q.2
noncomputable def czA (Γ : Ctx) (H : Heap) (args : List AV) (fc : Option (Nat × List AV)) : Option (AV × Heap) := fc.bind fun fc => czB Γ fc.1 (treesOf H (args ++ fc.2))
theorem czA_some {args : List AV} {f : Nat} {caps : List AV} : czA Γ H args (some (f,caps)) = czB Γ f (treesOf H (args ++ caps)) := rfl
theorem czB_some {f : Nat} {ps : List PV} {h : Heap} : czB Γ f (some (ps,h)) = czC (res Γ f ps) h := rfl
theorem czC_some {rs : List PV} {h : Heap} : czC (some rs) h = some (results (rs.map .p),h) := rfl
def bsfK (sz : Nat) (ag : Bool) (n : Nat) (q : Option (List PV × Heap)) : Option (AV × Heap) := q.bind fun q => ifB (q.1.length == n * sz) (some (.p (.sl .tight sz (chunks sz ag n q.1)),q.2))
def fbK (b : Bool) (q : Option (List PV × Heap)) : Option (AV × Heap) := q.bind fun q => ifB (b && !q.1.isEmpty) (some (.p (.ptr q.1),q.2))
theorem fbox_K {v : AV} : fboxA H v = fbK v.ok (treesOf H v.cells) := rfl
theorem fbK_some {b : Bool} {ps : List PV} {h : Heap} : fbK b (some (ps,h)) = ifB (b && !ps.isEmpty) (some (.p (.ptr ps),h)) := rfl
theorem bslf_some {sz ag n} {cs : List AV} : bslicefA H sz ag n (some cs) = bsfK sz ag n (treesOf H cs) := rfl
theorem bsfK_some {sz ag n} {ps : List PV} {h : Heap} : bsfK sz ag n (some (ps,h)) = ifB (ps.length == n * sz) (some (.p (.sl .tight sz (chunks sz ag n ps)),h)) := rfl
end
section
variable {Γ : Ctx} {env : Env} {H : Heap} {live : List Nat} {Q : Out → Prop} {r : List St} {dst : Option Nat}
def pqR (H : Heap) (v : Option AV) : Option (AV × Heap) := v.map fun v => (v,H)
theorem pqR_some {v : AV} : pqR H (some v) = some (v,H) := rfl
attribute [go_sem] pqR_some
end
def tdB (_B : Heap) (_L : List Nat) (rs : Option (List AV)) (H : Option Heap) : Option (List AV × Heap) := rs.bind fun rs => H.map fun H => (rs,H)
def tdA (B : Heap) (rs : List AV) (L : List Nat) : Option (List AV × Heap) := tdB B L (mapO (AV.ren (place L) 3) rs) (pickB B (place L) L)
theorem tdA_eq {rs : List AV} {B : Heap} {L : List Nat} : tdA B rs L = tdB B L (mapO (AV.ren (place L) 3) rs) (pickB B (place L) L) := rfl
theorem tdB_some {rs : List AV} {B H : Heap} {L : List Nat} : tdB B L (some rs) (some H) = some (rs,H) := rfl
def EndsM (k : Nat) (rvs : List RV) (r : List AV × Heap) : Out → Prop
 | (.ex _,_,_) => False
 | (_,e,h) => optP (mapO (RV.get e h) rvs) fun vs => tidy k (vs,h) = some r
def endM (k : Nat) (vs : Option (List AV)) (h : Heap) (r : List AV × Heap) : Prop := optP vs fun vs => tidy k (vs,h) = some r
theorem endM_some {k vs h r} : endM k (some vs) h r ↔ tidy k (vs,h) = some r := Iff.rfl
theorem EndsM_nrm {k rvs r e h} : EndsM k rvs r (.nrm,e,h) ↔ endM k (mapO (RV.get e h) rvs) h r := Iff.rfl
theorem EndsM_ret {k rvs r e h} : EndsM k rvs r (.ret,e,h) ↔ endM k (mapO (RV.get e h) rvs) h r := Iff.rfl
def EndsK (rvs : List RV) (K : List AV → Heap → Prop) : Out → Prop
 | (.ex _,_,_) => False
 | (_,e,h) => optP (mapO (RV.get e h) rvs) fun vs => K vs h
def endKK (vs : Option (List AV)) (h : Heap) (K : List AV → Heap → Prop) : Prop := optP vs fun vs => K vs h
theorem endKK_some {vs h} {K : List AV → Heap → Prop} : endKK (some vs) h K ↔ K vs h := Iff.rfl
theorem EndsK_nrm {rvs e h} {K : List AV → Heap → Prop} : EndsK rvs K (.nrm,e,h) ↔ endKK (mapO (RV.get e h) rvs) h K := Iff.rfl
theorem EndsK_ret {rvs e h} {K : List AV → Heap → Prop} : EndsK rvs K (.ret,e,h) ↔ endKK (mapO (RV.get e h) rvs) h K := Iff.rfl
attribute [go_sem] endKK_some EndsK_nrm EndsK_ret
theorem callK {Γ : Ctx} {f : Nat} {fn : AFn} {args : List AV} {HL : Heap} {K : List AV → Heap → Prop} (hf : Γ.fn f = some (.code fn)) (hl : args.length = fn.np)
  (h : Wp Γ fn.body (envFrom 0 args) HL (EndsK fn.results K)) : ∃ n vs h,callOf Γ (ev Γ n) f args HL = some (vs,h) ∧ K vs h := by
 obtain ⟨n,⟨x,e,hh⟩,h1,h2⟩ := h
 have fin : (x ≠ .ret → x = .nrm) ∧ ∃ vs,mapO (RV.get e hh) fn.results = some vs ∧ K vs hh := by
  cases x
  ·rw [EndsK,optP_iff] at h2
   exact ⟨fun _ => rfl,h2⟩
   simp
  ·exact h2.elim
  ·rw [EndsK,optP_iff] at h2
   exact ⟨fun h => absurd rfl h,h2⟩
   simp
 obtain ⟨hx,vs,h3,h4⟩ := fin
 refine ⟨n,vs,hh,?_,h4⟩
 unfold callOf
 rw [hf,initEnv_eq]
 simp only [hl,if_true,h1]
 cases x
 ·simp only [h3]
 ·simp at hx
 ·simp only [h3]
theorem isEmpty_nil {α : Type} : ([] : List α).isEmpty = true := rfl
theorem isEmpty_cons {α : Type} {a : α} {l : List α} : (a :: l).isEmpty = false := rfl
theorem range_0 : List.range 0 = [] := rfl
theorem range_1 : List.range 1 = [0] := rfl
theorem range_2 : List.range 2 = [0,1] := rfl
theorem range_3 : List.range 3 = [0,1,2] := rfl
theorem range_4 : List.range 4 = [0,1,2,3] := rfl
theorem range_5 : List.range 5 = [0,1,2,3,4] := rfl
theorem range_6 : List.range 6 = [0,1,2,3,4,5] := rfl
theorem brefs_row {f sz xs} : Blk.refs (.row f sz xs) = [] := rfl
theorem brefs_dead : Blk.refs .dead = [] := rfl
theorem brefs_box {cs : List AV} : Blk.refs (.box cs) = cs.flatMap AV.refs := rfl
theorem refsAt_dead : refsAt (some .dead) = [] := rfl
theorem ren_dead {p} : Blk.ren p .dead = some .dead := rfl
theorem flatMap_nil {α β : Type} {f : α → List β} : [].flatMap f = [] := rfl
attribute [go_sem low] brefs_box
attribute [go_sem] cmA_some cmB_eq cmC_some cmD_some jbB_some resX_some putBack_cons btK_t btK_f tzA_eq tzB_some kill_nil kill_cons killK_some killB_row killB_box killB_dead fbox_K fbK_some czA_some czB_some czC_some bslf_some bsfK_some tdA_eq tdB_some EndsM_nrm EndsM_ret endM_some isEmpty_nil isEmpty_cons range_0 range_1 range_2 range_3 range_4 range_5 range_6 brefs_row brefs_dead refsAt_dead ren_dead List.take_succ_cons List.take_zero List.drop_succ_cons List.drop_zero
end Ab
namespace Ab
open Go (IntKind BinOp UnOp)
def refs2 : AV → List Nat
 | .own id _ | .bx id _ | .el id _ _ _ | .mp id => [id]
 | .agg cs | .tup cs | .clo _ cs => cs.flatMap fun
  | .own id _ | .bx id _ | .el id _ _ _ | .mp id => [id]
  | _ => []
 | _ => []
theorem refs2_p {v} : refs2 (.p v) = [] := rfl
theorem refs2_own {id n} : refs2 (.own id n) = [id] := rfl
theorem refs2_bx {id n} : refs2 (.bx id n) = [id] := rfl
theorem refs2_mp {id} : refs2 (.mp id) = [id] := rfl
theorem refs2_el {id n i o} : refs2 (.el id n i o) = [id] := rfl
attribute [go_sem] refs2_p refs2_own refs2_bx refs2_mp refs2_el
attribute [go_sem] vpv_nil
end Ab
namespace Ab
open Go (IntKind BinOp UnOp)
def mapK (b : Option Blk) : Option (List (PV × AV)) := match b with
 | some (.box (.nov :: .nov :: cs)) => mapIn cs
 | _ => none
def mgK (zero : List PV) (comma : Bool) (m : Option (Option AV)) : Option AV := m.map (mres comma (mkZ zero))
theorem mget_str {H : Heap} {id : Nat} {zero comma} {k : List UInt8} : mgetA H .str zero comma (.mp id) (.p (.str k)) = (mapK H[id]?).bind fun es => mgK zero comma (mfind (.str k) es) := rfl
theorem mgK_some {zero comma} {r : Option AV} : mgK zero comma (some r) = some (mres comma (mkZ zero) r) := rfl
theorem mres_none {z : AV} : mres false z none = z := rfl
theorem mres_some {z v : AV} : mres false z (some v) = v := rfl
theorem mres_noneC {z : AV} : mres true z none = .tup [z,.p (.bool false)] := rfl
theorem mres_someC {z v : AV} : mres true z (some v) = .tup [v,.p (.bool true)] := rfl
theorem mkZ_one {v : PV} : mkZ [v] = .p v := rfl
def msK (H : Heap) (id : Nat) (es' : Option (List (PV × AV))) : Option Heap := es'.map fun es' => H.set id (.box (mapCells es'))
theorem msK_some {H : Heap} {id : Nat} {es' : List (PV × AV)} : msK H id (some es') = some (H.set id (.box (mapCells es'))) := rfl
theorem ok_own {id n} : (AV.own id n).ok = true := rfl
theorem ok_p {v} : (AV.p v).ok = true := rfl
def browK (H : Heap) (sz : Nat) (ag : Bool) (n : Nat) (ps : Option (List PV)) : Option (AV × Heap) := ps.bind fun ps => if ps.length = n * sz ∧ n ≤ lim then some (.own H.length n,H ++ [.row false sz (chunks sz ag n ps)]) else none
theorem brow_K {H : Heap} {sz ag n} {cs : List AV} : browA H sz ag n (some cs) = browK H sz ag n (pures cs) := rfl
section
variable {Γ : Ctx} {env : Env} {H : Heap} {live : List Nat} {Q : Out → Prop} {r : List St} {dst : Option Nat}
end
def treeK (q : Option (List PV × Heap)) : Option (AV × Heap) := q.bind fun r => r.1.head?.map fun p => (.p p,r.2)
theorem tree_K {H : Heap} {v : AV} : treeA H v = treeK (treesOf H [v]) := rfl
theorem treeK_some {p : PV} {ps : List PV} {h : Heap} : treeK (some (p :: ps,h)) = some (.p p,h) := rfl
attribute [go_sem] mget_str mgK_some mres_none mres_some mres_noneC mres_someC mkZ_one msK_some ok_own ok_p brow_K tree_K treeK_some
end Ab
namespace Ab
section
variable {Γ : Ctx} {env : Env} {H : Heap} {live : List Nat} {Q : Out → Prop} {r : List St} {dst : Option Nat}
theorem storek_bx {sz id off v ks} : storekA H sz (.bx id off) v ks = ifB (keptA H [id] ks) (storeA H sz (.bx id off) v) := rfl
theorem kept_nil {L} : keptA H L [] = true := rfl
theorem kept_bx {L id o ks} : keptA H L (.bx id o :: ks) = (decide (id < H.length) && !L.contains id && keptA H L ks) := rfl
def kpK (H : Heap) (args ks : List AV) : Option (Nat × List AV) → Bool
 | some fc => keptA H (reach H 64 ((args ++ fc.2).flatMap AV.refs) []) ks
 | none => false
theorem kpK_some {f caps args ks} : kpK H args ks (some (f,caps)) = keptA H (reach H 64 ((args ++ caps).flatMap AV.refs) []) ks := rfl
end
attribute [go_sem] storek_bx kept_nil kept_bx kpK_some
end Ab
namespace Ab
open Go (IntKind BinOp UnOp)
def RunW (Γ : Ctx) (f : Nat) (asX : List AV) (H : Heap) (r : List AV × Heap) : Prop := ∃ n,callOf Γ (ev Γ n) f asX H = some r
theorem RunW_det {Γ : Ctx} {f : Nat} {asX : List AV} {H : Heap} {r r' : List AV × Heap} (h : RunW Γ f asX H r) (h' : RunW Γ f asX H r') : r = r' := by
 obtain ⟨n,h1⟩ := h
 obtain ⟨m,h3⟩ := h'
 have e1 := call_le (Nat.le_max_left n m) _ _ _ _ h1
 have e2 := call_le (Nat.le_max_right n m) _ _ _ _ h3
 rw [e1] at e2
 cases e2
 rfl
open Classical in
noncomputable def resW (Γ : Ctx) (f : Nat) (asX : List AV) (H : Heap) : Option (List AV × Heap) := if h : ∃ r,RunW Γ f asX H r then some h.choose else none
theorem resW_of {Γ f asX H r} (h : RunW Γ f asX H r) : resW Γ f asX H = some r := by
 have h' : ∃ r,RunW Γ f asX H r := ⟨_,h⟩
 unfold resW
 rw [dif_pos h']
 exact congrArg some (RunW_det h'.choose_spec h)
theorem of_resW {Γ f asX H r} (h : resW Γ f asX H = some r) : RunW Γ f asX H r := by
 unfold resW at h
 split at h
 ·rename_i h'
  cases h
  exact h'.choose_spec
 ·cases h
section
variable {Γ : Ctx} {env : Env} {H : Heap} {live : List Nat} {Q : Out → Prop} {r : List St} {dst : Option Nat}
noncomputable def cwA (Γ : Ctx) (H : Heap) (args : List AV) (fc : Option (Nat × List AV)) : Option (List AV × Heap) := fc.bind fun fc => ifB (stillW Γ fc.1) (resW Γ fc.1 (args ++ fc.2) H)
theorem L_callw {f args} : WpL Γ (⟨dst,none,.inr (.callw f args)⟩ :: r) env H live Q ↔ opX Γ (resX (cwA Γ H (args.map (Arg.ev Γ (look env))) (callee (Arg.ev Γ (look env) f)))) dst r env live Q := by
 rw [L_of]
 unfold opX WpO
 constructor
 ·rintro ⟨n,h⟩
  dsimp only at h
  rw [optP_iff] at h ⊢
  obtain ⟨v,h1,h2⟩ := h
  simp only [evX,callW,Option.map_eq_some_iff,Option.bind_eq_some_iff,ifB_some] at h1
  obtain ⟨rr,⟨fc,hfc,hst,hcr⟩,rfl⟩ := h1
  refine ⟨_,?_,h2⟩
  simp only [resX,cwA,hfc,Option.bind_some,hst,ifB,resW_of ⟨n,hcr⟩,Option.map_some]
 ·intro h
  rw [optP_iff] at h
  obtain ⟨v,h1,h2⟩ := h
  simp only [resX,cwA,Option.map_eq_some_iff,Option.bind_eq_some_iff,ifB_some] at h1
  obtain ⟨rr,⟨fc,hfc,hst,hres⟩,rfl⟩ := h1
  obtain ⟨n,hcr⟩ := of_resW hres
  refine ⟨n,?_⟩
  simp only [evX,callW,hfc,Option.bind_some,hst,hcr,Option.map_some,ifB]
  exact h2
theorem cwA_some {args : List AV} {f : Nat} {caps : List AV} : cwA Γ H args (some (f,caps)) = ifB (stillW Γ f) (resW Γ f (args ++ caps) H) := rfl
end
theorem resW_ex {Γ : Ctx} {f : Nat} {fn : AFn} {args : List AV} {H : Heap} {K : List AV → Heap → Prop} (hf : Γ.fn f = some (.code fn)) (hl : args.length = fn.np)
  (h : Wp Γ fn.body (envFrom 0 args) H (EndsK fn.results K)) : ∃ rs H',resW Γ f args H = some (rs,H') ∧ K rs H' := by
 obtain ⟨n,vs,h',hc,hk⟩ := callK hf hl h
 exact ⟨vs,h',resW_of ⟨n,hc⟩,hk⟩
section
variable {Γ : Ctx} {env : Env} {H : Heap} {live : List Nat} {Q : Out → Prop} {r : List St} {dst : Option Nat}
def kwA (H : Heap) (ks : List AV) (r : Option (List AV × Heap)) : Option (List AV × Heap) := r.bind fun r => ifB (keepW H r.2 ks) (some r)
theorem kwA_some {ks : List AV} {rs : List AV} {H' : Heap} : kwA H ks (some (rs,H')) = ifB (keepW H H' ks) (some (rs,H')) := rfl
end
section
variable {Γ : Ctx} {env : Env} {H : Heap} {live : List Nat} {Q : Out → Prop} {r : List St} {dst : Option Nat}
def apT (r : Option (AV × Heap)) : Option (AV × Heap) := r.bind fun r => treeA r.2 r.1
theorem apT_some {v : AV} {H' : Heap} : apT (some (v,H')) = treeA H' v := rfl
def apE (H : Heap) (sz : Nat) (x : AV) (o : Option (List PV)) : Option (AV × Heap) := o.bind fun ys => appendA H sz x ys
theorem apE_some {sz : Nat} {x : AV} {ys : List PV} : apE H sz x (some ys) = appendA H sz x ys := rfl
theorem boxes_nil : boxesAt H [] = true := rfl
end
attribute [go_sem] apT_some apE_some boxes_nil
attribute [go_sem] L_callw cwA_some kwA_some
end Ab
namespace Ab
open Go (IntKind BinOp UnOp)
theorem resW_code {Γ : Ctx} {f : Nat} {fn : AFn} {args rs : List AV} {H H' : Heap} (hf : Γ.fn f = some (.code fn)) (hl : args.length = fn.np)
  (h : Wp Γ fn.body (envFrom 0 args) H (EndsK fn.results fun rs' h' => rs' = rs ∧ h' = H')) : resW Γ f args H = some (rs,H') := by
 obtain ⟨rs',h',h1,rfl,rfl⟩ := resW_ex hf hl h
 exact h1
theorem boxK_mp {m : Nat} {r : List AV} : boxK (some (.box (.mp m :: r))) = some (.mp m :: r) := rfl
theorem boxK_clo {f : Nat} {c r : List AV} : boxK (some (.box (.clo f c :: r))) = some (.clo f c :: r) := rfl
theorem pures_mp {m : Nat} {r : List AV} : pures (.mp m :: r) = none := rfl
theorem mdel_str {H : Heap} {id : Nat} {k : List UInt8} : mdelA H .str (.mp id) (.p (.str k)) = (mapK H[id]?).bind fun es => msK H id (mdrop (.str k) es) := rfl
theorem mlen_mp {H : Heap} {id : Nat} : mlenA H (.mp id) = (mapK H[id]?).map fun es => .p (.int .i64 (es.length : Nat)) := rfl
attribute [go_sem] boxK_mp boxK_clo pures_mp mdel_str mlen_mp
end Ab
namespace Ab
open Go (IntKind BinOp UnOp)
theorem resW_putNil {H : Heap} (now : Int) (s : List UInt8) : resW Γ 476 [.p .nilp,.p (.int .i64 now),.p (.str s),.p (.sl .nil 2 [])] H = some ([.p (.int .i64 0),.p (.int .i64 1)],H) := by
 refine resW_code (fn := store_Store_Put) rfl rfl ?_
 simp (disch := first | assumption | omega | decide | (simp only [lens] <;> omega) | fail) only [go_sem,store_Store_Put]
theorem resW_findNil {H : Heap} (s : List UInt8) : resW Γ 475 [.p .nilp,.p (.str s)] H = some ([.p (.sl .nil 2 []),.p (.int .i64 1)],H) := by
 refine resW_code (fn := store_Store_Find) rfl rfl ?_
 simp (disch := first | assumption | omega | decide | (simp only [lens] <;> omega) | fail) only [go_sem,store_Store_Find]
theorem resW_hasNilS {H : Heap} (s : List UInt8) : resW Γ 479 [.p .nilp,.p (.str s)] H = some ([.p (.int .i64 1)],H) := by
 refine resW_code (fn := store_Store_has) rfl rfl ?_
 simp (disch := first | assumption | omega | decide | (simp only [lens] <;> omega) | fail) only [go_sem,store_Store_has]
theorem resW_countsNil {H : Heap} : resW Γ 472 [.p .nilp] H = some ([.p (.int .i64 0),.p (.int .i64 0),.p (.int .i64 0)],H) := by
 refine resW_code (fn := store_Store_Counts) rfl rfl ?_
 simp (disch := first | assumption | omega | decide | (simp only [lens] <;> omega) | fail) only [go_sem,store_Store_Counts]
theorem resW_namesNilS {H : Heap} : resW Γ 469 [.p .nilp] H = some ([.p (.sl .nil 1 [])],H) := by
 refine resW_code (fn := store_Store_Names) rfl rfl ?_
 simp (disch := first | assumption | omega | decide | (simp only [lens] <;> omega) | fail) only [go_sem,store_Store_Names]
theorem resW_openNil {H : Heap} (s : List UInt8) : resW Γ 471 [.p .nilp,.p (.str s)] H = some ([.p .nilp,.p (.int .i64 1)],H) := by
 refine resW_code (fn := store_Open) rfl rfl ?_
 simp (disch := first | assumption | omega | decide | (simp only [lens] <;> omega) | fail) only [go_sem,store_Open]
theorem push_get {H : Heap} {b : Blk} : (H ++ [b])[List.length H]? = some b := by simp
theorem push_set {H : Heap} {b c : Blk} : (H ++ [b]).set (List.length H) c = H ++ [c] := by simp
theorem still479 : stillW Γ 479 = true := rfl
theorem resW_getNil {H : Heap} (now a b : Int) (s : List UInt8) : resW Γ 474 [.p .nilp,.p (.int .i64 now),.p (.str s),.p (.int .i64 a),.p (.int .i64 b)] H = some ([.p (.agg [.str [],.int .i64 0,.int .i64 0,.sl .nil 2 [],.int .i64 0]),.p (.int .i64 1)],H ++ [.box [.p (.str []),.p (.int .i64 0),.p (.int .i64 0),.p (.sl .nil 2 []),.p (.int .i64 0)]]) := by
 have h1 : ∀ H,resW Γ 479 [.p .nilp,.p (.str s)] H = some ([.p (.int .i64 1)],H) := fun H => resW_hasNilS s
 refine resW_code (fn := store_Store_Get) rfl rfl ?_
 simp (disch := first | assumption | omega | decide | (simp only [lens] <;> omega) | fail) only [go_sem,store_Store_Get,h1,still479,push_get,push_set]
theorem resW_infoNil {H : Heap} (s : List UInt8) : resW Γ 473 [.p .nilp,.p (.str s)] H = some ([.p (.agg [.int .i64 0,.int .i64 0,.sl .nil 2 []]),.p (.int .i64 1)],H ++ [.box [.p (.int .i64 0),.p (.int .i64 0),.p (.sl .nil 2 [])]]) := by
 have h1 : ∀ H,resW Γ 479 [.p .nilp,.p (.str s)] H = some ([.p (.int .i64 1)],H) := fun H => resW_hasNilS s
 refine resW_code (fn := store_Store_Info) rfl rfl ?_
 simp (disch := first | assumption | omega | decide | (simp only [lens] <;> omega) | fail) only [go_sem,store_Store_Info,h1,still479,push_get,push_set]
end Ab
namespace Ab
open Go (IntKind BinOp UnOp)
set_option maxRecDepth 20000 in
set_option maxHeartbeats 4000000 in
theorem res_StoreOfNothingA (s : List UInt8) (now : Int) (_ : -9223372036854775808 ≤ now ∧ now ≤ 9223372036854775807) : res Γ 544 [.str s,.int .i64 now] = some [.bool true] := by
 by_cases hl : 210 < s.length
 ·refine res_code (fn := l26_StoreOfNothing) rfl rfl ?_
  simp (disch := first | assumption | omega | decide | (simp only [lens] <;> omega) | fail) only [go_sem,l26_StoreOfNothing]
 ·have k1 := res_known26
  have k2 := res_same26
  have k3 := res_headers26
  have h1 : ∀ H,resW Γ 474 [.p .nilp,.p (.int .i64 now),.p (.str s),.p (.int .i64 now),.p (.int .i64 now)] H = _ := fun H => resW_getNil now now now s
  have s1 : stillW Γ 476 = true := rfl
  have s2 : stillW Γ 475 = true := rfl
  have s3 : stillW Γ 474 = true := rfl
  have s4 : stillW Γ 473 = true := rfl
  have s5 : stillW Γ 472 = true := rfl
  have s6 : stillW Γ 471 = true := rfl
  have s7 : stillW Γ 469 = true := rfl
  have h2 : ∀ H,resW Γ 476 [.p .nilp,.p (.int .i64 now),.p (.str s),.p (.sl .nil 2 [])] H = some ([.p (.int .i64 0),.p (.int .i64 1)],H) := fun H => resW_putNil now s
  have h3 : ∀ H,resW Γ 475 [.p .nilp,.p (.str s)] H = some ([.p (.sl .nil 2 []),.p (.int .i64 1)],H) := fun H => resW_findNil s
  have h5 : ∀ H,resW Γ 472 [.p .nilp] H = some ([.p (.int .i64 0),.p (.int .i64 0),.p (.int .i64 0)],H) := fun H => resW_countsNil
  have h6 : ∀ H,resW Γ 471 [.p .nilp,.p (.str [])] H = some ([.p .nilp,.p (.int .i64 1)],H) := fun H => resW_openNil []
  have h7 : ∀ H,resW Γ 469 [.p .nilp] H = some ([.p (.sl .nil 1 [])],H) := fun H => resW_namesNilS
  have h4 : ∀ H,resW Γ 473 [.p .nilp,.p (.str s)] H = _ := fun H => resW_infoNil s
  refine res_code (fn := l26_StoreOfNothing) rfl rfl ?_
  simp (disch := first | assumption | omega | decide | (simp only [lens] <;> omega) | fail) only [go_sem,l26_StoreOfNothing,h1,h2,h3,h4,h5,h6,h7,s1,s2,s3,s4,s5,s6,s7,k1,k2,k3]
end Ab
