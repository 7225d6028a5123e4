import Derived.Test.YtlgclfmmnifgoaaGreatDoorAbTag
namespace Ab
open Go (IntKind BinOp UnOp)
def strs (l : List (List UInt8)) : List PV := l.map .str
def ints (k : IntKind) (l : List Int) : List PV := l.map (.int k)
def gr (l : List Bool) : List PV := l.map .bool
def aggs (l : List (List PV)) : List PV := l.map .agg
theorem strs_len {l} : (strs l).length = l.length := by simp [strs]
theorem ints_len {k l} : (ints k l).length = l.length := by simp [ints]
theorem bools_len {l} : (gr l).length = l.length := by simp [gr]
theorem aggs_len {l} : (aggs l).length = l.length := by simp [aggs]
theorem strs_app {l l'} : strs l ++ strs l' = strs (l ++ l') := by simp [strs]
theorem qo {l a} : strs l ++ [.str a] = strs (l ++ [a]) := by simp [strs]
theorem strs_get {l : List (List UInt8)} {i : Nat} (h : i < l.length) : (strs l)[i]? = some (.str (l.getD i [])) := by simp [strs,List.getElem?_eq_getElem h]
theorem qw {k} {l : List Int} {i : Nat} (h : i < l.length) : (ints k l)[i]? = some (.int k (l.getD i 0)) := by simp [ints,List.getElem?_eq_getElem h]
theorem mU {l : List Bool} {i : Nat} (h : i < l.length) : (gr l)[i]? = some (.bool (l.getD i false)) := by simp [gr,List.getElem?_eq_getElem h]
theorem vY {l i a} : (strs l).set i (.str a) = strs (l.set i a) := by simp [strs,List.map_set]
theorem ints_set {k l i a} : (ints k l).set i (.int k a) = ints k (l.set i a) := by simp [ints,List.map_set]
theorem qZ {l i a} : (gr l).set i (.bool a) = gr (l.set i a) := by simp [gr,List.map_set]
theorem oB {l n} : (strs l).take n = strs (l.take n) := by simp [strs,List.map_take]
theorem ng {l n} : (strs l).drop n = strs (l.drop n) := by simp [strs,List.map_drop]
theorem strs_rep {n a} : List.replicate n (.str a) = strs (List.replicate n a) := by simp [strs]
theorem ints_rep {k n a} : List.replicate n (.int k a) = ints k (List.replicate n a) := by simp [ints]
theorem Ba {n a} : List.replicate n (.bool a) = gr (List.replicate n a) := by simp [gr]
def rowAt (b : Option Blk) (n : Nat) : Option (Nat × List PV) :=
 match b with
 | some (.row _ sz xs) => if xs.length = n then some (sz,xs) else none
 | _ => none
theorem iY {H : Heap} {id n : Nat} : rowOf H id n = rowAt H[id]? n := by
 unfold rowOf rowAt
 cases H[id]? with
 | none => rfl
 | some b => cases b <;> rfl
theorem zA {f sz xs n} (h : xs.length = n) : rowAt (some (.row f sz xs)) n = some (sz,xs) := by simp [rowAt,h]
theorem len_own {H id n} : asLen H false (.own id n) = (rowOf H id n).map fun _ => n := rfl
theorem len_sl {H k sz xs} : asLen H false (.p (.sl k sz xs)) = some xs.length := rfl
theorem len_str {H s} : asLen H true (.p (.str s)) = some s.length := rfl
theorem vF {H sz xs k' k i x} (h0 : 0 ≤ i) (hx : xs[i.toNat]? = some x) : iaddrA H sz (.p (.sl k' sz xs)) (.p (.int k i)) = some (.p (.ptr x.cells)) := by
 simp only [iaddrA,h0,and_self,if_true,hx,Option.map_some]
theorem wX {H xs k' k i} (h0 : 0 ≤ i) (h : i < (xs.length : Int)) : iaddrA H 1 (.p (.sl k' 1 (strs xs))) (.p (.int k i)) = some (.p (.ptr [.str (xs.getD i.toNat [])])) := vF h0 (strs_get (by omega))
theorem load_ptr {H sz ag cells} : eH H sz ag (.p (.ptr cells)) = kp sz ag cells := rfl
def tkO (sz : Nat) (ag : Bool) (off : Nat) (b : Option (List AV)) : Option AV := b.bind fun cs => takeA sz ag (cs.drop off)
theorem load_bx {H sz ag id off} : eH H sz ag (.bx id off) = tkO sz ag off (bN H id) := rfl
theorem tkO_some {sz ag off cs} : tkO sz ag off (some cs) = takeA sz ag (cs.drop off) := rfl
attribute [go_sem] tkO_some
theorem kc {sz c r} : kp sz false (c :: r) = some (.p c) := rfl
theorem takeP_ag {sz cs} (h : cs.length = sz) : kp sz true cs = some (.p (.agg cs)) := by simp [kp,← h]
theorem gD {H sz k xs} : elemsOf H sz (.p (.sl k sz xs)) = some xs := by simp [elemsOf]
theorem app_own {H sz id n xs ys} (hb : H[id]? = some (.row false sz xs)) (hl : xs.length = n) (hm : xs.length + ys.length ≤ 1073741824) : aW H sz (.own id n) ys = some (.own id (n + ys.length),H.set id (.row false sz (xs ++ ys))) := by
 simp only [aW,hb]
 rw [if_pos ⟨hl,trivial,by simp only [List.length_append,lim]; omega⟩,List.length_append,hl]
theorem app_nil {H sz sz' ys} (hm : ys.length ≤ 1073741824) : aW H sz (.p (.sl .nil sz' [])) ys = some (.own H.length ys.length,H ++ [.row false sz ys]) := by
 simp only [aW]
 rw [if_pos ⟨.inl trivial,by simp only [List.nil_append,lim]; omega⟩]
theorem mks {H sz ag zero k k' n} (h0 : 0 ≤ n) (hm : n ≤ 1073741824) : fe H sz ag zero (.p (.int k n)) (.p (.int k' n)) = some (.own H.length n.toNat,H ++ [.row false sz (List.replicate n.toNat (if ag then .agg zero else zero.headD .nilp))]) := by
 simp only [fe]
 rw [if_pos ⟨h0,trivial,by unfold lim; omega⟩]
theorem slf_p {H sz v lo hi} : jH H sz (.p v) lo hi = (cQ sz (.p v) lo hi).map fun v => (v,H) := rfl
theorem frz_nil {H} : freeze H [] = H := rfl
theorem frz_p {H v r} : freeze H (.p v :: r) = freeze H r := rfl
theorem BE {s : List PV} {sz kk} {k1 k2 : IntKind} {a b : Int} (h0 : 0 ≤ a) (h1 : a ≤ b) (h2 : b ≤ s.length) : cQ sz (.p (.sl kk sz s)) (some (.p (.int k1 a))) (some (.p (.int k2 b))) = some (.p (.sl kk.cut sz ((s.take b.toNat).drop a.toNat))) := by
 simp only [cQ,bound,if_true]
 rw [if_pos ⟨by omega,h2⟩,Option.bind_some,if_pos ⟨h0,by omega⟩,Option.map_some]
theorem Bw {s : List PV} {sz kk} {k2 : IntKind} {b : Int} (h1 : 0 ≤ b) (h2 : b ≤ s.length) : cQ sz (.p (.sl kk sz s)) none (some (.p (.int k2 b))) = some (.p (.sl kk.cut sz (s.take b.toNat))) := by
 simp only [cQ,bound,if_true]
 rw [if_pos ⟨by omega,h2⟩,Option.bind_some,Option.map_some,List.drop_zero]
theorem qM {s : List PV} {sz kk} {k2 : IntKind} {a : Int} (h1 : 0 ≤ a) (h2 : a ≤ s.length) : cQ sz (.p (.sl kk sz s)) (some (.p (.int k2 a))) none = some (.p (.sl kk.cut sz (s.drop a.toNat))) := by
 simp only [cQ,bound,if_true]
 rw [Option.bind_some,if_pos ⟨by omega,h2⟩,Option.map_some,List.take_length]
theorem cutk_any : SK.any.cut = .any := rfl
theorem cutk_mem : SK.mem.cut = .mem := rfl
theorem yq : SK.tight.cut = .mem := rfl
theorem cutk_nil : SK.nil.cut = .nil := rfl
theorem dc {H sz ys} (hm : ys.length ≤ 1073741824) : aW H sz (.p (.sl .tight sz [])) ys = some (.own H.length ys.length,H ++ [.row false sz ys]) := by
 simp only [aW]
 rw [if_pos ⟨.inr ⟨trivial,trivial⟩,by simp only [List.nil_append,lim]; omega⟩]
attribute [go_sem] cutk_any cutk_mem yq cutk_nil dc
theorem min_max2 {mx k k' x y} : minmax mx [.p (.int k x),.p (.int k' y)] = some (.p (.int k (if mx then max x y else min x y))) := by
 cases mx
 ·simp only [minmax,Bool.false_eq_true,if_false]; congr 3; rw [Int.min_def]; split <;> split <;> omega
 ·simp only [minmax,if_true]; congr 3; rw [Int.max_def]; split <;> split <;> omega
def fillK (b : Bool) (zero : List AV) (off sz : Nat) (v : AV) (r : List (Nat × Nat × AV)) : Option (List AV) :=
 match b with
 | true => eX (zero.take off ++ v.cells ++ zero.drop (off + sz)) r
 | false => none
theorem fill_nil {zero} : eX zero [] = some zero := rfl
theorem AI {zero off sz v r} : eX zero ((off,sz,v) :: r) = fillK (v.ok && (v.cells.length == sz) && decide (off + sz ≤ zero.length)) zero off sz v r := by
 unfold fillK
 by_cases h : v.ok = true ∧ v.cells.length = sz ∧ off + sz ≤ zero.length
 ·simp [eX,h]
 ·rw [show (v.ok && (v.cells.length == sz) && decide (off + sz ≤ zero.length)) = false by simpa [and_assoc] using h]
  simp only [eX]; rw [if_neg h]
theorem fill_t {zero off sz v r} : fillK true zero off sz v r = eX (zero.take off ++ v.cells ++ zero.drop (off + sz)) r := rfl
theorem Ah : dH [] = some [] := rfl
theorem pures_p {v r} : dH (.p v :: r) = (dH r).map (v :: ·) := rfl
theorem AB {id n r} : dH (.own id n :: r) = none := rfl
theorem pures_bx {id n r} : dH (.bx id n :: r) = none := rfl
theorem pures_el {id n i o r} : dH (.el id n i o :: r) = none := rfl
theorem BW {cs r} : dH (.agg cs :: r) = none := rfl
theorem AQ {f cs r} : dH (.clo f cs :: r) = none := rfl
attribute [go_sem] AB pures_bx pures_el BW AQ
attribute [go_sem] List.getD_cons_zero List.getD_cons_succ
theorem Ax {H sz xs k' k} {i : Int} (h0 : 0 ≤ i) : iaddrA H sz (.p (.sl k' sz xs)) (.p (.int k i)) = (xs[i.toNat]?).map fun x => .p (.ptr x.cells) := by simp [iaddrA,h0]
attribute [go_sem low] Ax
attribute [go_sem] beq_self_eq_true
attribute [go_sem] fill_nil AI fill_t Ah pures_p List.take_succ_cons List.drop_succ_cons List.drop_nil List.take_nil List.append_assoc
def vb (b : Option Blk) (sz id n : Nat) (i : Int) : Option AV := match b with
 | some (.row _ sz' xs) => if sz = sz' ∧ xs.length = n ∧ 0 ≤ i ∧ i < (n : Int) then some (.el id n i.toNat 0) else none
 | _ => none
theorem iaddr_K {H : Heap} {id n sz : Nat} {k i} : iaddrA H sz (.own id n) (.p (.int k i)) = vb H[id]? sz id n i := by
 simp only [iaddrA,iY,vb]
 cases H[id]? with
 | none => rfl
 | some b =>
  cases b with
  | box => rfl
  | dead => rfl
  | row f sz' xs =>
   by_cases h : xs.length = n
   ·simp [rowAt,h]
   ·simp [rowAt,h]
theorem xf {f sz xs id} {n : Nat} {i} (h : xs.length = n) (h1 : 0 ≤ i) (h2 : i < (n : Int)) : vb (some (.row f sz xs)) sz id n i = some (.el id n i.toNat 0) := by simp [vb,h,h1,h2]
def lB (b : Option Blk) (s : Nat) (ag : Bool) (n i off : Nat) : Option AV := match b with
 | some (.row _ _ xs) => if xs.length = n then xs[i]?.bind fun x => kp s ag (x.cells.drop off) else none
 | _ => none
theorem load_K {H : Heap} {id n i off s : Nat} {ag} : eH H s ag (.el id n i off) = lB H[id]? s ag n i off := by
 simp only [eH,iY,lB]
 cases H[id]? with
 | none => rfl
 | some b =>
  cases b with
  | box => rfl
  | dead => rfl
  | row f sz' xs => by_cases h : xs.length = n <;> simp [rowAt,h]
theorem xj {f sz l n i} (h : l.length = n) (h' : i < n) : lB (some (.row f sz (strs l))) 1 false n i 0 = some (.p (.str (l.getD i []))) := by
 simp only [lB,strs_len,h,if_true,strs_get (show i < l.length by omega),Option.bind_some,PV.cells,List.drop_zero,kc]
theorem yk {f sz k l n i} (h : l.length = n) (h' : i < n) : lB (some (.row f sz (ints k l))) 1 false n i 0 = some (.p (.int k (l.getD i 0))) := by
 simp only [lB,ints_len,h,if_true,qw (show i < l.length by omega),Option.bind_some,PV.cells,List.drop_zero,kc]
theorem tL {f sz l n i} (h : l.length = n) (h' : i < n) : lB (some (.row f sz (gr l))) 1 false n i 0 = some (.p (.bool (l.getD i false))) := by
 simp only [lB,bools_len,h,if_true,mU (show i < l.length by omega),Option.bind_some,PV.cells,List.drop_zero,kc]
def kE (H : Heap) (b : Option Blk) (sz id n i off : Nat) (v : AV) : Option Heap := match b with
  | some (.row false sz' xs) => if xs.length = n then
        (xs[i]?).bind fun x => (dH v.cells).bind fun ps =>
          if v.ok = true ∧ 0 < sz ∧ ps.length = sz ∧ off + sz ≤ x.cells.length then
            some (H.set id (.row false sz' (xs.set i (oy off sz ps x)))) else none
      else none
  | _ => none
theorem store_K {H : Heap} {id n i off sz : Nat} {v} : ia H sz (.el id n i off) v = kE H H[id]? sz id n i off v := by
 unfold ia kE
 rfl
theorem kQ {H : Heap} {id n xs i sz' x v} (hl : xs.length = n) (hx : xs[i]? = some x) (h1 : x.one = true) (hv : v.one = true) :
  kE H (some (.row false sz' xs)) 1 id n i 0 (.p v) = some (H.set id (.row false sz' (xs.set i v))) := by
 have e1 : x.cells = [x] := by cases x <;> first | rfl | cases h1
 have e2 : (AV.p v).cells = [.p v] := by cases v <;> first | rfl | cases hv
 have e3 : oy 0 1 [v] x = v := by cases x <;> first | rfl | cases h1
 simp only [kE,hl,if_true,hx,Option.bind_some,e1,e2,dH,Option.map_some,AV.ok,List.length_cons,List.length_nil,e3]
 simp
theorem td {H : Heap} {sz' id n l i a} (h : l.length = n) (h' : i < n) : kE H (some (.row false sz' (strs l))) 1 id n i 0 (.p (.str a)) = some (H.set id (.row false sz' (strs (l.set i a)))) := by
 rw [kQ (strs_len.trans h) (strs_get (by omega)) rfl rfl,vY]
theorem uc {H : Heap} {sz' id n k l i a} (h : l.length = n) (h' : i < n) : kE H (some (.row false sz' (ints k l))) 1 id n i 0 (.p (.int k a)) = some (H.set id (.row false sz' (ints k (l.set i a)))) := by
 rw [kQ (ints_len.trans h) (qw (by omega)) rfl rfl,ints_set]
theorem sX {H : Heap} {sz' id n l i a} (h : l.length = n) (h' : i < n) : kE H (some (.row false sz' (gr l))) 1 id n i 0 (.p (.bool a)) = some (H.set id (.row false sz' (gr (l.set i a)))) := by
 rw [kQ (bools_len.trans h) (mU (by omega)) rfl rfl,qZ]
def wk (b : Option Blk) (sz n : Nat) : Option (List PV) := match b with
 | some (.row _ sz' xs) => if xs.length = n ∧ sz = sz' then some xs else none
 | _ => none
theorem elems_K {H : Heap} {sz id n : Nat} : elemsOf H sz (.own id n) = wk H[id]? sz n := by
 simp only [elemsOf,iY,wk]
 cases H[id]? with
 | none => rfl
 | some b =>
  cases b with
  | box => rfl
  | dead => rfl
  | row f sz' xs => by_cases h : xs.length = n <;> simp [rowAt,h]
theorem wO {f sz xs n} (h : xs.length = n) : wk (some (.row f sz xs)) sz n = some xs := by simp [wk,h]
def appK (H : Heap) (b : Option Blk) (sz id n : Nat) (ys : List PV) : Option (AV × Heap) := match b with
 | some (.row false sz' xs) => if xs.length = n ∧ sz' = sz ∧ (xs ++ ys).length ≤ lim then some (.own id (xs ++ ys).length,H.set id (.row false sz (xs ++ ys))) else none
 | _ => none
theorem app_K {H : Heap} {sz id n : Nat} {ys} : aW H sz (.own id n) ys = appK H H[id]? sz id n ys := by
 unfold aW appK
 rfl
theorem appK_pos {H : Heap} {sz id n xs ys} (h : xs.length = n) (h' : xs.length + ys.length ≤ 1073741824) : appK H (some (.row false sz xs)) sz id n ys = some (.own id (n + ys.length),H.set id (.row false sz (xs ++ ys))) := by
 simp only [appK]
 rw [if_pos ⟨h,trivial,by simp only [List.length_append,lim]; omega⟩,List.length_append,h]
def slfK (H : Heap) (b : Option Blk) (sz id n : Nat) (lo hi : Option AV) : Option (AV × Heap) := match b with
 | some (.row _ sz' xs) => if xs.length = n then (cQ sz (.p (.sl .any sz' xs)) lo hi).map fun v => (v,freeze H [.own id n]) else none
 | _ => none
theorem slf_K {H : Heap} {sz id n : Nat} {lo hi} : jH H sz (.own id n) lo hi = slfK H H[id]? sz id n lo hi := by
 simp only [jH,iY,slfK]
 cases H[id]? with
 | none => rfl
 | some b =>
  cases b with
  | box => rfl
  | dead => rfl
  | row f sz' xs => by_cases h : xs.length = n <;> simp [rowAt,h]
theorem slfK_pos {H : Heap} {f sz sz' xs id n lo hi} (h : xs.length = n) : slfK H (some (.row f sz' xs)) sz id n lo hi = (cQ sz (.p (.sl .any sz' xs)) lo hi).map fun v => (v,freeze H [.own id n]) := by simp [slfK,h]
def frzK (H : Heap) (b : Option Blk) (id : Nat) (r : List AV) : Heap := freeze (match b with | some (.row _ sz xs) => H.set id (.row true sz xs) | _ => H) r
theorem frz_K {H : Heap} {id n r} : freeze H (.own id n :: r) = frzK H H[id]? id r := rfl
theorem frzK_row {H : Heap} {f sz xs id r} : frzK H (some (.row f sz xs)) id r = freeze (H.set id (.row true sz xs)) r := rfl
theorem set_rep {α : Type} {l : List α} {n i : Nat} {x a : α} (h : l.length = i ∧ 1 ≤ n) : (l ++ List.replicate n x).set i a = l ++ (a :: List.replicate (n - 1) x) := by
 obtain ⟨rfl,hn⟩ := h
 obtain ⟨m,rfl⟩ : ∃ m,n = m + 1 := ⟨n - 1,by omega⟩
 rw [List.set_append_right _ _ (Nat.le_refl _),Nat.sub_self,List.replicate_succ]
 rfl
def tp (cs : Option (List AV)) (H : Heap) (id off sz : Nat) (v : AV) : Option Heap := cs.bind fun cs => ifB (v.ok && (v.cells.length == sz) && decide (off + sz ≤ cs.length)) (some (H.set id (.box (cs.take off ++ v.cells ++ cs.drop (off + sz)))))
theorem store_B {H : Heap} {id off sz : Nat} {v : AV} : ia H sz (.bx id off) v = tp (bN H id) H id off sz v := by
 simp only [ia,tp]
 congr 1
 funext cs
 by_cases h : v.ok = true ∧ v.cells.length = sz ∧ off + sz ≤ cs.length
 ·rw [if_pos h]; simp [h,ifB]
 ·rw [if_neg h,show (v.ok && (v.cells.length == sz) && decide (off + sz ≤ cs.length)) = false by simpa [and_assoc] using h]; rfl
theorem stB_lit {cs : List AV} {H : Heap} {id off sz : Nat} {v : AV} : tp (some cs) H id off sz v = ifB (v.ok && (v.cells.length == sz) && decide (off + sz ≤ cs.length)) (some (H.set id (.box (cs.take off ++ v.cells ++ cs.drop (off + sz))))) := rfl
attribute [go_sem low] stB_lit
theorem neg_int {k n} : unA .neg (.p (.int k n)) = some (.p (.int k (k.wrap (0 - n)))) := rfl
theorem xi : (true == true) = true := rfl
theorem yj : (false == false) = true := rfl
theorem beq_tf : (true == false) = false := rfl
theorem beq_ft : (false == true) = false := rfl
attribute [go_sem] Bool.bne_false Bool.bne_true xi yj beq_tf beq_ft
attribute [go_sem] neg_int
theorem zM {H : Heap} {s : List UInt8} : wH H (.p (.str s)) = some (.bx H.length 0,H ++ [.box (cv s 0)]) := rfl
attribute [go_sem] zM
attribute [go_sem] store_B Int.min_eq_left Int.min_eq_right Int.max_eq_left Int.max_eq_right List.headD_cons
theorem set_one {α : Type} {l : List α} {i : Nat} {x a : α} (h : l.length = i) : (l ++ [x]).set i a = l ++ [a] := by subst h; simp
attribute [go_sem] set_one
def boxK (b : Option Blk) : Option (List AV) := match b with
 | some (.box (.nov :: _)) => none
 | some (.box cs) => some cs
 | _ => none
theorem box_K {H : Heap} {id : Nat} : bN H id = boxK H[id]? := by
 unfold bN boxK
 rfl
theorem boxK_p {v r} : boxK (some (.box (.p v :: r))) = some (.p v :: r) := rfl
theorem boxK_own {id n r} : boxK (some (.box (.own id n :: r))) = some (.own id n :: r) := rfl
theorem boxK_bx {id n r} : boxK (some (.box (.bx id n :: r))) = some (.bx id n :: r) := rfl
theorem take_one {sz c r} : takeA sz false (c :: r) = some c := rfl
theorem take_ag {n} {cs : List AV} (h : n ≤ cs.length) : takeA n true cs = some (mkAgg (cs.take n)) := by simp [takeA,h]
attribute [go_sem low] take_ag
attribute [go_sem] take_one
def rbx (H : Heap) (d off : Nat) (b : Option (List AV)) : Option PV := b.bind fun cs => ifB (decide (off < cs.length)) ((mapO (aq H d) (cs.drop off)).map .ptr)
theorem reify_B {H : Heap} {d id off : Nat} : aq H (d + 1) (.bx id off) = rbx H d off (bN H id) := by
 rw [wi]
 unfold rbx
 congr 1
 funext cs
 unfold ifB
 by_cases h : off < cs.length <;> simp [h]
theorem rbx_lit {H : Heap} {d off : Nat} {cs : List AV} : rbx H d off (some cs) = ifB (decide (off < cs.length)) ((mapO (aq H d) (cs.drop off)).map .ptr) := rfl
attribute [go_sem low] rbx_lit
attribute [go_sem] reify_B
attribute [go_sem] Nat.mul_one Nat.zero_add box_K boxK_p boxK_own boxK_bx List.set_cons_zero
attribute [go_sem] Int.add_zero Int.zero_add Int.sub_zero
attribute [go_sem] iaddr_K xf load_K xj yk tL store_K td uc sX elems_K wO app_K appK_pos slf_K slfK_pos frz_K frzK_row
attribute [go_sem] strs_len ints_len bools_len strs_app qo strs_get qw mU vY ints_set qZ oB ng strs_rep ints_rep Ba iY zA len_own len_sl len_str wX load_ptr load_bx kc takeP_ag gD app_nil mks slf_p frz_nil frz_p BE Bw qM min_max2
def rt (b : Option Blk) : List Nat := match b with | some b => b.refs | none => []
def vk (c : Bool) (H : Heap) (n : Nat) (id : Nat) (r acc : List Nat) : List Nat := match c with
 | true => ct H n r acc
 | false => ct H n (r ++ rt H[id]?) (acc ++ [id])
theorem Bt {H : Heap} {n : Nat} {acc : List Nat} : ct H n [] acc = acc := by cases n <;> rfl
theorem x4 {H : Heap} {n id : Nat} {r acc : List Nat} : ct H (n + 1) (id :: r) acc = vk (acc.contains id) H n id r acc := by
 simp only [ct,vk]
 cases acc.contains id <;> rfl
theorem reachK_t {H : Heap} {n id : Nat} {r acc : List Nat} : vk true H n id r acc = ct H n r acc := rfl
theorem reachK_f {H : Heap} {n id : Nat} {r acc : List Nat} : vk false H n id r acc = ct H n (r ++ rt H[id]?) (acc ++ [id]) := rfl
theorem xr {f sz xs} : rt (some (.row f sz xs)) = [] := rfl
theorem xL {cs : List AV} : rt (some (.box cs)) = cs.flatMap AV.refs := rfl
theorem refs_p {v : PV} : AV.refs (.p v) = [] := rfl
theorem refs_own {id n} : AV.refs (.own id n) = [id] := rfl
theorem refs_bx {id n} : AV.refs (.bx id n) = [id] := rfl
theorem refs_el {id n i o} : AV.refs (.el id n i o) = [id] := rfl
theorem refs_nov : AV.refs .nov = [] := rfl
def wC (c : Bool) (r : List Nat) (id : Nat) : Option Nat := match c with
 | true => some 0
 | false => (place r id).map (· + 1)
theorem Aq {id} : place [] id = none := rfl
theorem yB {x r id} : place (x :: r) id = wC (x == id) r id := by
 unfold place wC
 by_cases h : x = id
 ·subst h; simp
 ·rw [if_neg h,beq_false_of_ne h]
theorem placeK_t {r id} : wC true r id = some 0 := rfl
theorem placeK_f {r id} : wC false r id = (place r id).map (· + 1) := rfl
theorem ren_p {r d v} : AV.ren r d (.p v) = some (.p v) := by cases d <;> rfl
theorem ren_own {r d id n} : AV.ren r d (.own id n) = (r id).map (.own · n) := by cases d <;> rfl
theorem ren_agg {r d cs} : AV.ren r (d + 1) (.agg cs) = (mapO (AV.ren r d) cs).map .agg := rfl
def renE (r : Nat → Option Nat) : Env → Option Env
 | [] => some []
 | (s,v) :: e => (AV.ren r 3 v).bind fun v => (renE r e).map ((s,v) :: ·)
def my (H : Heap) (p : Nat → Option Nat) : List Nat → Option Heap
 | [] => some []
 | id :: L => ((H[id]?).bind (Blk.ren p)).bind fun b => (my H p L).map (b :: ·)
theorem pX {H : Heap} {L : List Nat} : Heap.pick H L = my H (place L) L := by
 have key : ∀ (p : Nat → Option Nat) (L : List Nat),mapO (fun id => (H[id]?).bind (Blk.ren p)) L = my H p L := by
  intro p L
  induction L with
  | nil => rfl
  | cons a l ih => rw [kL,ih]; rfl
 exact key _ _
theorem ren_box {p cs} : Blk.ren p (.box cs) = (mapO (AV.ren p 3) cs).map .box := rfl
theorem ren_row {p f sz xs} : Blk.ren p (.row f sz xs) = some (.row f sz xs) := rfl
def normK (e : Option Env) (h : Option Heap) : Option (Env × Heap) := match e,h with
 | some e,some h => some (e,h)
 | _,_ => none
theorem yd {e h} : normK (some e) (some h) = some (e,h) := rfl
theorem renE_nil {r} : renE r [] = some [] := rfl
theorem zV {r s v e} : renE r ((s,v) :: e) = (AV.ren r 3 v).bind fun v => (renE r e).map ((s,v) :: ·) := rfl
theorem zO {H : Heap} {p} : my H p [] = some [] := rfl
theorem wV {H : Heap} {p id L} : my H p (id :: L) = ((H[id]?).bind (Blk.ren p)).bind fun b => (my H p L).map (b :: ·) := rfl
attribute [go_sem] Bt x4 reachK_t reachK_f xr refs_p refs_own refs_bx refs_el refs_nov Aq yB placeK_t placeK_f ren_p ren_own ren_agg ren_box ren_row yd renE_nil zV zO wV List.contains_nil List.contains_cons
attribute [go_sem low] xL
structure Ser where
 name : List UInt8
 start : Int
 step : Int
 vals : List (Bool × Int)
 cons : Int
def valP (x : Bool × Int) : List PV := [.bool x.1,.int .i64 x.2]
def vpv (l : List (Bool × Int)) : List PV := aggs (l.map valP)
def Ser.pv (k : SK) (s : Ser) : PV := .agg [.str s.name,.int .i64 s.start,.int .i64 s.step,.sl k 2 (vpv s.vals),.int .i64 s.cons]
theorem pair_eta {α β : Type} {x : α × β} : (x.1,x.2) = x := rfl
theorem vpv_len {l} : (vpv l).length = l.length := by simp [vpv,aggs]
theorem vpv_nil : vpv [] = [] := rfl
attribute [go_sem] pair_eta
theorem lens : (∀ {α : Type} (a : α) (l : List α),(a :: l).length = l.length + 1) ∧ (∀ {α : Type},([] : List α).length = 0) ∧ (∀ {α : Type} (a b : List α),(a ++ b).length = a.length + b.length) ∧ (∀ {α : Type} (n : Nat) (a : α),(List.replicate n a).length = n) ∧ (∀ {α β : Type} (f : α → β) (l : List α),(l.map f).length = l.length) ∧
    (∀ {α : Type} (l : List α) (i : Nat) (a : α),(l.set i a).length = l.length) ∧ (∀ {α : Type} (n : Nat) (l : List α),(l.take n).length = min n l.length) ∧ (∀ {α : Type} (n : Nat) (l : List α),(l.drop n).length = l.length - n) ∧
    (∀ l,(strs l).length = l.length) ∧ (∀ k l,(ints k l).length = l.length) ∧ (∀ l,(gr l).length = l.length) ∧ (∀ l,(aggs l).length = l.length) ∧ ∀ l,(vpv l).length = l.length :=
  ⟨fun _ _ => rfl,rfl,fun _ _ => List.length_append,fun _ _ => List.length_replicate,fun _ _ => List.length_map _,fun _ _ _ => List.length_set,fun _ _ => List.length_take,fun _ _ => List.length_drop,fun _ => strs_len,fun _ _ => ints_len,fun _ => bools_len,fun _ => aggs_len,fun _ => vpv_len⟩
end Ab
namespace Ab
open Go (IntKind BinOp UnOp)
def RunM (Γ : Ctx) (k f : Nat) (as : List AV) (HL : Heap) (r : List AV × Heap) : Prop := ∃ n x,callOf Γ (ev Γ n) f as HL = some x ∧ tidy k x = some r
theorem RunM_det {Γ : Ctx} {k f : Nat} {as : List AV} {HL : Heap} {r r' : List AV × Heap} (h : RunM Γ k f as HL r) (h' : RunM Γ k f as HL r') : r = r' := by
 obtain ⟨n,x,h1,h2⟩ := h
 obtain ⟨m,x',h3,h4⟩ := h'
 have e1 := ej (Nat.le_max_left n m) _ _ _ _ h1
 have e2 := ej (Nat.le_max_right n m) _ _ _ _ h3
 rw [e1] at e2
 cases e2
 rw [h2] at h4
 cases h4
 rfl
open Classical in
noncomputable def resM (Γ : Ctx) (k f : Nat) (as : List AV) (HL : Heap) : Option (List AV × Heap) := if h : ∃ r,RunM Γ k f as HL r then some h.choose else none
theorem zN {Γ k f as HL r} (h : RunM Γ k f as HL r) : resM Γ k f as HL = some r := by
 have h' : ∃ r,RunM Γ k f as HL r := ⟨_,h⟩
 unfold resM
 rw [dif_pos h']
 exact congrArg some (RunM_det h'.choose_spec h)
theorem of_resM {Γ k f as HL r} (h : resM Γ k f as HL = some r) : RunM Γ k f as HL r := by
 unfold resM at h
 split at h
 ·rename_i h'
  cases h
  exact h'.choose_spec
 ·cases h
section
variable {Γ : Ctx} {env : Env} {H : Heap} {live : List Nat} {Q : Out → Prop} {r : List St} {dst : Option Nat}
def cmD (H : Heap) (L : List Nat) (r : Option (List AV × Heap)) : Option (List AV × Heap) := r.bind fun r => mG H L r
noncomputable def cmC (Γ : Ctx) (H : Heap) (f : Nat) (L : List Nat) (b : Bool) (as : Option (List AV)) (HL : Option Heap) : Option (List AV × Heap) :=
 ifB b (as.bind fun as => HL.bind fun HL => cmD H L (resM Γ L.length f as HL))
noncomputable def cmB (Γ : Ctx) (H : Heap) (f : Nat) (as : List AV) (L : List Nat) : Option (List AV × Heap) :=
 cmC Γ H f L (L.isEmpty || jW Γ L.length f) (mapO (AV.ren (place L) 3) as) (my H (place L) L)
noncomputable def cmA (Γ : Ctx) (H : Heap) (args : List AV) (fc : Option (Nat × List AV)) : Option (List AV × Heap) :=
 fc.bind fun fc => cmB Γ H fc.1 (args ++ fc.2) (ct H 64 ((args ++ fc.2).flatMap AV.refs) [])
def resX (x : Option (List AV × Heap)) : Option (AV × Heap) := x.map fun r => (results r.1,r.2)
theorem L_calls {f args} : WpL Γ (⟨dst,none,.inr (.calls f args)⟩ :: r) env H live Q ↔ opX Γ (resX (cmA Γ H (args.map (Arg.ev Γ (look env))) (callee (Arg.ev Γ (look env) f)))) dst r env live Q := by
 rw [L_of]
 unfold opX WpO
 constructor
 ·rintro ⟨n,h⟩
  dsimp only at h
  rw [aX] at h ⊢
  obtain ⟨v,h1,h2⟩ := h
  simp only [evX,oO,Option.map_eq_some_iff,Option.bind_eq_some_iff,ifB_some] at h1
  obtain ⟨rr,⟨fc,hfc,hst,as',has,HL,hp,x,hcr,r',htd,hj⟩,rfl⟩ := h1
  refine ⟨_,?_,h2⟩
  rw [pX] at hp
  simp only [resX,cmA,cmB,cmC,cmD,hfc,Option.bind_some,hst,has,hp,ifB,zN ⟨n,x,hcr,htd⟩,hj,Option.map_some]
 ·intro h
  rw [aX] at h
  obtain ⟨v,h1,h2⟩ := h
  simp only [resX,cmA,cmB,cmC,cmD,Option.map_eq_some_iff,Option.bind_eq_some_iff,ifB_some] at h1
  obtain ⟨rr,⟨fc,hfc,hst,as',has,HL,hp,r',hres,hj⟩,rfl⟩ := h1
  obtain ⟨n,x,hcr,htd⟩ := of_resM hres
  rw [← pX] at hp
  refine ⟨n,?_⟩
  simp only [evX,oO,hfc,Option.bind_some,hst,has,hp,hcr,htd,hj,Option.map_some,ifB]
  exact h2
theorem cmA_some {args : List AV} {f : Nat} {caps : List AV} : cmA Γ H args (some (f,caps)) = cmB Γ H f (args ++ caps) (ct H 64 ((args ++ caps).flatMap AV.refs) []) := rfl
theorem cmB_eq {as : List AV} {f : Nat} {L : List Nat} : cmB Γ H f as L = cmC Γ H f L (L.isEmpty || jW Γ L.length f) (mapO (AV.ren (place L) 3) as) (my H (place L) L) := rfl
theorem cmC_some {as : List AV} {HL : Heap} {f : Nat} {L : List Nat} : cmC Γ H f L true (some as) (some HL) = cmD H L (resM Γ L.length f as HL) := rfl
def jbB (H : Heap) (L : List Nat) (rs : Option (List AV)) (bs : Option (List Blk)) : Option (List AV × Heap) := rs.bind fun rs => bs.map fun bs => (rs,bC H L bs ++ bs.drop L.length)
theorem cmD_some {L : List Nat} {rs : List AV} {B : Heap} : cmD H L (some (rs,B)) = jbB H L (mapO (AV.ren (backTo H L) 3) rs) (mapO (Blk.ren (backTo H L)) B) := rfl
theorem jbB_some {L : List Nat} {rs : List AV} {bs : List Blk} : jbB H L (some rs) (some bs) = some (rs,bC H L bs ++ bs.drop L.length) := rfl
theorem zh {rs : List AV} {h : Heap} : resX (some (rs,h)) = some (results rs,h) := rfl
theorem ug {bs : List Blk} : bC H [] bs = H := by cases bs <;> rfl
theorem rn {id : Nat} {L : List Nat} {b : Blk} {bs : List Blk} : bC H (id :: L) (b :: bs) = bC (H.set id b) L bs := rfl
def btK (b : Bool) (H : Heap) (L : List Nat) (id : Nat) : Option Nat := match b with | true => L[id]? | false => some (H.length + (id - L.length))
theorem Ak {L : List Nat} {id : Nat} : backTo H L id = btK (decide (id < L.length)) H L id := by
 unfold backTo btK
 by_cases h : id < L.length <;> simp [h]
theorem btK_t {L : List Nat} {id : Nat} : btK true H L id = L[id]? := rfl
theorem btK_f {L : List Nat} {id : Nat} : btK false H L id = some (H.length + (id - L.length)) := rfl
def tzB (H : Heap) (L : List Nat) (vs : Option (List AV)) (HL : Option Heap) : Option (List PV × Heap) := vs.bind fun vs => HL.bind fun HL => (mapO (aq HL 4) vs).map fun ps => (ps,kill H L)
def tzA (H : Heap) (vs : List AV) (L : List Nat) : Option (List PV × Heap) := tzB H L (mapO (AV.ren (place L) 3) vs) (my H (place L) L)
theorem trees_eq {vs : List AV} : cl H vs = tzA H vs (ct H 64 (vs.flatMap AV.refs) []) := by
 unfold cl tzA tzB
 simp only [pX]
theorem tzA_eq {vs : List AV} {L : List Nat} : tzA H vs L = tzB H L (mapO (AV.ren (place L) 3) vs) (my H (place L) L) := rfl
theorem tzB_some {vs : List AV} {HL : Heap} {L : List Nat} : tzB H L (some vs) (some HL) = (mapO (aq HL 4) vs).map fun ps => (ps,kill H L) := rfl
def killK (H : Heap) (id : Nat) (L : List Nat) (b : Option Blk) : Heap := kill (match b with | some b => H.set id (jd b) | none => H) L
theorem kill_nil : kill H [] = H := rfl
theorem zH {id : Nat} {L : List Nat} : kill H (id :: L) = killK H id L H[id]? := rfl
theorem xC {id : Nat} {L : List Nat} {b : Blk} : killK H id L (some b) = kill (H.set id (jd b)) L := rfl
theorem zG {f sz xs} : jd (.row f sz xs) = .row true sz xs := rfl
theorem BJ {cs} : jd (.box cs) = .dead := rfl
theorem xH : jd .dead = .dead := rfl
noncomputable def czC (x : Option (List PV)) (H : Heap) : Option (AV × Heap) := x.map fun rs => (results (rs.map .p),H)
noncomputable def czB (Γ : Ctx) (f : Nat) (q : Option (List PV × Heap)) : Option (AV × Heap) := q.bind fun q => czC (res Γ f q.1) q.2
noncomputable def czA (Γ : Ctx) (H : Heap) (args : List AV) (fc : Option (Nat × List AV)) : Option (AV × Heap) := fc.bind fun fc => czB Γ fc.1 (cl H (args ++ fc.2))
theorem czA_some {args : List AV} {f : Nat} {caps : List AV} : czA Γ H args (some (f,caps)) = czB Γ f (cl H (args ++ caps)) := rfl
theorem czB_some {f : Nat} {ps : List PV} {h : Heap} : czB Γ f (some (ps,h)) = czC (res Γ f ps) h := rfl
theorem czC_some {rs : List PV} {h : Heap} : czC (some rs) h = some (results (rs.map .p),h) := rfl
theorem B3 {sz ag n zero parts} : WpL Γ (⟨dst,none,.inr (.bslicef sz ag n zero parts)⟩ :: r) env H live Q ↔ opX Γ (i6 H sz ag n (eX (zero.map .p) (parts.map fun q => (q.off,q.sz,Arg.ev Γ (look env) q.arg)))) dst r env live Q := L_of.trans (ij rfl)
def bsfK (sz : Nat) (ag : Bool) (n : Nat) (q : Option (List PV × Heap)) : Option (AV × Heap) := q.bind fun q => ifB (q.1.length == n * sz) (some (.p (.sl .tight sz (chunks sz ag n q.1)),q.2))
theorem L_fbox {x} : WpL Γ (⟨dst,none,.inr (.fbox x)⟩ :: r) env H live Q ↔ opX Γ (fboxA H (Arg.ev Γ (look env) x)) dst r env live Q := L_of.trans (ij rfl)
def fbK (b : Bool) (q : Option (List PV × Heap)) : Option (AV × Heap) := q.bind fun q => ifB (b && !q.1.isEmpty) (some (.p (.ptr q.1),q.2))
theorem fbox_K {v : AV} : fboxA H v = fbK v.ok (cl H v.cells) := rfl
theorem fbK_some {b : Bool} {ps : List PV} {h : Heap} : fbK b (some (ps,h)) = ifB (b && !ps.isEmpty) (some (.p (.ptr ps),h)) := rfl
theorem AD {sz ag n} {cs : List AV} : i6 H sz ag n (some cs) = bsfK sz ag n (cl H cs) := rfl
theorem AC {sz ag n} {ps : List PV} {h : Heap} : bsfK sz ag n (some (ps,h)) = ifB (ps.length == n * sz) (some (.p (.sl .tight sz (chunks sz ag n ps)),h)) := rfl
end
section
variable {Γ : Ctx} {env : Env} {H : Heap} {live : List Nat} {Q : Out → Prop} {r : List St} {dst : Option Nat}
def pqR (H : Heap) (v : Option AV) : Option (AV × Heap) := v.map fun v => (v,H)
theorem pqR_some {v : AV} : pqR H (some v) = some (v,H) := rfl
theorem L_pq {q : QOp} (h : q.plain = true) : WpL Γ (⟨dst,none,.inr (.pureq q)⟩ :: r) env H live Q ↔ opX Γ (pqR H (evQ Γ lV (look env) [] q)) dst r env live Q := by
 rw [L_of]
 unfold opX WpO
 have e : ∀ n,evX Γ (callOf Γ (ev Γ n)) (look env) H (.pureq q) = pqR H (evQ Γ lV (look env) [] q) := fun n => by
  have : evQ Γ (callOf Γ (ev Γ n)) (look env) [] q = evQ Γ lV (look env) [] q := by cases q <;> first | rfl | cases h
  simp only [evX,this,pqR]
 simp only [e]
 exact ⟨fun ⟨_,h⟩ => h,fun h => ⟨0,h⟩⟩
theorem xo {sz x i} : WpL Γ (⟨dst,none,.inr (.pureq (.iaddr sz x i))⟩ :: r) env H live Q ↔ opX Γ (pqR H (iaddrA [] sz (Arg.ev Γ (look env) x) (Arg.ev Γ (look env) i))) dst r env live Q := L_pq rfl
theorem Bo {sz ag x} : WpL Γ (⟨dst,none,.inr (.pureq (.load sz ag x))⟩ :: r) env H live Q ↔ opX Γ (pqR H (eH [] sz ag (Arg.ev Γ (look env) x))) dst r env live Q := L_pq rfl
theorem yK {off x} : WpL Γ (⟨dst,none,.inr (.pureq (.faddr off x))⟩ :: r) env H live Q ↔ opX Γ (pqR H (ju [] off (Arg.ev Γ (look env) x))) dst r env live Q := L_pq rfl
theorem L_pq_len {s x} : WpL Γ (⟨dst,none,.inr (.pureq (.len s x))⟩ :: r) env H live Q ↔ opX Γ (pqR H ((asLen [] s (Arg.ev Γ (look env) x)).map fun (n : Nat) => AV.p (.int .i64 (n : Int)))) dst r env live Q := L_pq rfl
attribute [go_sem] pqR_some xo Bo yK L_pq_len
end
def tdB (_B : Heap) (_L : List Nat) (rs : Option (List AV)) (H : Option Heap) : Option (List AV × Heap) := rs.bind fun rs => H.map fun H => (rs,H)
def tdA (B : Heap) (rs : List AV) (L : List Nat) : Option (List AV × Heap) := tdB B L (mapO (AV.ren (place L) 3) rs) (my B (place L) L)
theorem tidy_eq {k : Nat} {rs : List AV} {B : Heap} : tidy k (rs,B) = tdA B rs (ct B 64 (rs.flatMap AV.refs ++ (B.take k).flatMap Blk.refs) (List.range k)) := by
 unfold tidy tdA tdB
 simp only [pX]
theorem tdA_eq {rs : List AV} {B : Heap} {L : List Nat} : tdA B rs L = tdB B L (mapO (AV.ren (place L) 3) rs) (my B (place L) L) := rfl
theorem tdB_some {rs : List AV} {B H : Heap} {L : List Nat} : tdB B L (some rs) (some H) = some (rs,H) := rfl
def z6 (k : Nat) (rvs : List RV) (r : List AV × Heap) : Out → Prop
 | (.ex _,_,_) => False
 | (_,e,h) => optP (mapO (RV.get e h) rvs) fun vs => tidy k (vs,h) = some r
def endM (k : Nat) (vs : Option (List AV)) (h : Heap) (r : List AV × Heap) : Prop := optP vs fun vs => tidy k (vs,h) = some r
theorem y7 {k vs h r} : endM k (some vs) h r ↔ tidy k (vs,h) = some r := Iff.rfl
theorem BO {k rvs r e h} : z6 k rvs r (.nrm,e,h) ↔ endM k (mapO (RV.get e h) rvs) h r := Iff.rfl
theorem Bs {k rvs r e h} : z6 k rvs r (.ret,e,h) ↔ endM k (mapO (RV.get e h) rvs) h r := Iff.rfl
theorem rz {Γ : Ctx} {k f : Nat} {fn : AFn} {args : List AV} {HL : Heap} {r : List AV × Heap} (hf : Γ.fn f = some (.code fn)) (hl : args.length = fn.np)
  (h : Wp Γ fn.body (gy 0 args) HL (z6 k fn.results r)) : resM Γ k f args HL = some r := by
 obtain ⟨n,⟨x,e,hh⟩,h1,h2⟩ := h
 refine zN ⟨n,?_⟩
 have fin : (x ≠ .ret → x = .nrm) ∧ ∃ vs,mapO (RV.get e hh) fn.results = some vs ∧ tidy k (vs,hh) = some r := by
  cases x
  ·rw [z6,aX] at h2
   exact ⟨fun _ => rfl,h2⟩
   simp
  ·exact h2.elim
  ·rw [z6,aX] at h2
   exact ⟨fun h => absurd rfl h,h2⟩
   simp
 obtain ⟨hx,vs,h3,h4⟩ := fin
 refine ⟨(vs,hh),?_,h4⟩
 unfold callOf
 rw [hf,lh]
 simp only [hl,if_true,h1]
 cases x
 ·simp only [h3]
 ·simp at hx
 ·simp only [h3]
def uh (rvs : List RV) (K : List AV → Heap → Prop) : Out → Prop
 | (.ex _,_,_) => False
 | (_,e,h) => optP (mapO (RV.get e h) rvs) fun vs => K vs h
def endKK (vs : Option (List AV)) (h : Heap) (K : List AV → Heap → Prop) : Prop := optP vs fun vs => K vs h
theorem xF {vs h} {K : List AV → Heap → Prop} : endKK (some vs) h K ↔ K vs h := Iff.rfl
theorem AP {rvs e h} {K : List AV → Heap → Prop} : uh rvs K (.nrm,e,h) ↔ endKK (mapO (RV.get e h) rvs) h K := Iff.rfl
theorem AM {rvs e h} {K : List AV → Heap → Prop} : uh rvs K (.ret,e,h) ↔ endKK (mapO (RV.get e h) rvs) h K := Iff.rfl
attribute [go_sem] xF AP AM
theorem callK {Γ : Ctx} {f : Nat} {fn : AFn} {args : List AV} {HL : Heap} {K : List AV → Heap → Prop} (hf : Γ.fn f = some (.code fn)) (hl : args.length = fn.np)
  (h : Wp Γ fn.body (gy 0 args) HL (uh fn.results K)) : ∃ n vs h,callOf Γ (ev Γ n) f args HL = some (vs,h) ∧ K vs h := by
 obtain ⟨n,⟨x,e,hh⟩,h1,h2⟩ := h
 have fin : (x ≠ .ret → x = .nrm) ∧ ∃ vs,mapO (RV.get e hh) fn.results = some vs ∧ K vs hh := by
  cases x
  ·rw [uh,aX] at h2
   exact ⟨fun _ => rfl,h2⟩
   simp
  ·exact h2.elim
  ·rw [uh,aX] at h2
   exact ⟨fun h => absurd rfl h,h2⟩
   simp
 obtain ⟨hx,vs,h3,h4⟩ := fin
 refine ⟨n,vs,hh,?_,h4⟩
 unfold callOf
 rw [hf,lh]
 simp only [hl,if_true,h1]
 cases x
 ·simp only [h3]
 ·simp at hx
 ·simp only [h3]
theorem te {α : Type} : ([] : List α).isEmpty = true := rfl
theorem rM {α : Type} {a : α} {l : List α} : (a :: l).isEmpty = false := rfl
theorem range_0 : List.range 0 = [] := rfl
theorem range_1 : List.range 1 = [0] := rfl
theorem range_2 : List.range 2 = [0,1] := rfl
theorem range_3 : List.range 3 = [0,1,2] := rfl
theorem range_4 : List.range 4 = [0,1,2,3] := rfl
theorem range_5 : List.range 5 = [0,1,2,3,4] := rfl
theorem range_6 : List.range 6 = [0,1,2,3,4,5] := rfl
theorem zc {f sz xs} : Blk.refs (.row f sz xs) = [] := rfl
theorem xl : Blk.refs .dead = [] := rfl
theorem Bk {cs : List AV} : Blk.refs (.box cs) = cs.flatMap AV.refs := rfl
theorem um : rt (some .dead) = [] := rfl
theorem ren_dead {p} : Blk.ren p .dead = some .dead := rfl
theorem flatMap_nil {α β : Type} {f : α → List β} : [].flatMap f = [] := rfl
attribute [go_sem low] Bk
attribute [go_sem] L_calls cmA_some cmB_eq cmC_some cmD_some jbB_some zh ug rn Ak btK_t btK_f trees_eq tzA_eq tzB_some kill_nil zH xC zG BJ xH L_fbox fbox_K fbK_some czA_some czB_some czC_some B3 AD AC tidy_eq tdA_eq tdB_some BO Bs y7 te rM range_0 range_1 range_2 range_3 range_4 range_5 range_6 zc xl um ren_dead List.take_succ_cons List.take_zero List.drop_succ_cons List.drop_zero
end Ab
namespace Ab
open Go (IntKind BinOp UnOp)
def Az : AV → List Nat
 | .own id _ | .bx id _ | .el id _ _ _ | .mp id => [id]
 | .agg cs | .tup cs | .clo _ cs => cs.flatMap fun
  | .own id _ | .bx id _ | .el id _ _ _ | .mp id => [id]
  | _ => []
 | _ => []
theorem refs2_p {v} : Az (.p v) = [] := rfl
theorem zw {id n} : Az (.own id n) = [id] := rfl
theorem refs2_bx {id n} : Az (.bx id n) = [id] := rfl
theorem refs2_mp {id} : Az (.mp id) = [id] := rfl
theorem refs2_el {id n i o} : Az (.el id n i o) = [id] := rfl
attribute [go_sem] refs2_p zw refs2_bx refs2_mp refs2_el
attribute [go_sem] vpv_nil
end Ab
namespace Ab
open Go (IntKind BinOp UnOp)
def mapK (b : Option Blk) : Option (List (PV × AV)) := match b with
 | some (.box (.nov :: .nov :: cs)) => jD cs
 | _ => none
theorem pD : ∀ (es : List (PV × AV)),jD (ef es) = some es
 | [] => rfl
 | (k,v) :: es => by simp [ef,jD,pD es]
theorem yX {es : List (PV × AV)} : mapK (some (.box (ah es))) = some es := pD es
def mgK (zero : List PV) (comma : Bool) (m : Option (Option AV)) : Option AV := m.map (mres comma (mkZ zero))
theorem mget_str {H : Heap} {id : Nat} {zero comma} {k : List UInt8} : w6 H .str zero comma (.mp id) (.p (.str k)) = (mapK H[id]?).bind fun es => mgK zero comma (jc (.str k) es) := rfl
theorem mgK_some {zero comma} {r : Option AV} : mgK zero comma (some r) = some (mres comma (mkZ zero) r) := rfl
theorem AR {z : AV} : mres false z none = z := rfl
theorem Ad {z v : AV} : mres false z (some v) = v := rfl
theorem ye {z : AV} : mres true z none = .tup [z,.p (.bool false)] := rfl
theorem ym {z v : AV} : mres true z (some v) = .tup [v,.p (.bool true)] := rfl
theorem mkZ_one {v : PV} : mkZ [v] = .p v := rfl
def msK (H : Heap) (id : Nat) (es' : Option (List (PV × AV))) : Option Heap := es'.map fun es' => H.set id (.box (ah es'))
theorem qz {H : Heap} {id : Nat} {k : List UInt8} {v : AV} (h : v.ok = true) : rx H .str (.mp id) (.p (.str k)) v = (mapK H[id]?).bind fun es => msK H id (mput (.str k) v es) := by
 simp only [rx,ki,h,Bool.and_self,ifB]; rfl
theorem msK_some {H : Heap} {id : Nat} {es' : List (PV × AV)} : msK H id (some es') = some (H.set id (.box (ah es'))) := rfl
theorem ok_own {id n} : (AV.own id n).ok = true := rfl
theorem ok_p {v} : (AV.p v).ok = true := rfl
def B0 (neg : Bool) (n : Nat) (b : Option (Nat × List PV)) : Option AV := b.bind fun _ => if 0 < n then some (.p (.bool neg)) else none
theorem BU {H : Heap} {neg id n s l} : kn H neg (.own id n) (.p (.sl .nil s l)) = B0 neg n (rowAt H[id]? n) := by
 simp only [kn,iY]; rfl
theorem xG {neg n} {r : Nat × List PV} (h : 0 < n) : B0 neg n (some r) = some (.p (.bool neg)) := by
 simp [B0,h]
theorem isnil_p {H : Heap} {neg} {v w : PV} : kn H neg (.p v) (.p w) = eqkA 4 neg (.p v) (.p w) := by
 unfold kn; rfl
def browK (H : Heap) (sz : Nat) (ag : Bool) (n : Nat) (ps : Option (List PV)) : Option (AV × Heap) := ps.bind fun ps => if ps.length = n * sz ∧ n ≤ lim then some (.own H.length n,H ++ [.row false sz (chunks sz ag n ps)]) else none
theorem brow_K {H : Heap} {sz ag n} {cs : List AV} : yR H sz ag n (some cs) = browK H sz ag n (dH cs) := rfl
theorem BL {H : Heap} {sz ag n} {ps : List PV} (h : ps.length = n * sz) (h' : n ≤ 1073741824) : browK H sz ag n (some ps) = some (.own H.length n,H ++ [.row false sz (chunks sz ag n ps)]) := by
 simp only [browK,Option.bind_some]
 rw [if_pos ⟨h,h'⟩]
section
variable {Γ : Ctx} {env : Env} {H : Heap} {live : List Nat} {Q : Out → Prop} {r : List St} {dst : Option Nat}
theorem L_treeq {q : QOp} (h : q.plain = true) : WpL Γ (⟨dst,none,.inr (.treeq q)⟩ :: r) env H live Q ↔ opX Γ ((evQ Γ lV (look env) H q).bind fun v => kY H v) dst r env live Q := by
 rw [L_of]
 unfold opX WpO
 have e : ∀ n,evX Γ (callOf Γ (ev Γ n)) (look env) H (.treeq q) = (evQ Γ lV (look env) H q).bind fun v => kY H v := fun n => by
  have : evQ Γ (callOf Γ (ev Γ n)) (look env) H q = evQ Γ lV (look env) H q := by cases q <;> first | rfl | cases h
  simp only [evX,this]
 simp only [e]
 exact ⟨fun ⟨_,h⟩ => h,fun h => ⟨0,h⟩⟩
theorem xI {x} : WpL Γ (⟨dst,none,.inr (.treeq (.mov x))⟩ :: r) env H live Q ↔ opX Γ (kY H (Arg.ev Γ (look env) x)) dst r env live Q := L_treeq rfl
end
def treeK (q : Option (List PV × Heap)) : Option (AV × Heap) := q.bind fun r => r.1.head?.map fun p => (.p p,r.2)
theorem tree_K {H : Heap} {v : AV} : kY H v = treeK (cl H [v]) := rfl
theorem yG {p : PV} {ps : List PV} {h : Heap} : treeK (some (p :: ps,h)) = some (.p p,h) := rfl
theorem tree_own {H : Heap} {id n f sz xs} (hb : H[id]? = some (.row f sz xs)) (hl : xs.length = n) : kY H (.own id n) = some (.p (.sl .any sz xs),H.set id (.row true sz xs)) := by
 have e1 : cl H [.own id n] = some ([.sl .any sz xs],H.set id (.row true sz xs)) := by
  simp only [cl,List.flatMap_cons,List.flatMap_nil,AV.refs,List.append_nil,ct,List.contains_nil,Bool.false_eq_true,if_false,hb,Blk.refs,List.nil_append,mapO,AV.ren,place,if_true,Option.map_some,Option.bind_some,Heap.pick,Blk.ren,aq,rowOf,List.getElem?_cons_zero,hl,kill,jd]
 simp only [kY,e1,Option.bind_some,List.head?_cons,Option.map_some]
theorem bE {l : List Blk} {b : Blk} {i : Nat} (h : i = l.length) : (l ++ [b])[i]? = some b := by subst h; exact List.getElem?_concat_length
theorem z8 {l m : List Blk} {i : Nat} (h : i < l.length) : (l ++ m)[i]? = l[i]? := List.getElem?_append_left h
theorem cX {l : List Blk} {b c : Blk} {i : Nat} (h : i = l.length) : (l ++ [b]).set i c = l ++ [c] := by
 subst h
 rw [List.set_append_right _ _ (Nat.le_refl _),Nat.sub_self]; rfl
attribute [go_sem] yX mget_str mgK_some AR Ad ye ym mkZ_one qz msK_some ok_own ok_p BU xG isnil_p brow_K BL xI tree_K yG
end Ab
namespace Ab
section
variable {Γ : Ctx} {env : Env} {H : Heap} {live : List Nat} {Q : Out → Prop} {r : List St} {dst : Option Nat}
theorem tS {x} : WpL Γ (⟨dst,none,.inr (.pureq (.nilchk x))⟩ :: r) env H live Q ↔ opX Γ (pqR H (eS [] (Arg.ev Γ (look env) x))) dst r env live Q := L_pq rfl
theorem loadk_bx {sz ag id off o'} : oA H sz ag (.bx id off) (.bx id o') = eH H sz ag (.bx id off) := if_pos rfl
theorem BZ {sz id off v ks} : nS H sz (.bx id off) v ks = ifB (mt H [id] ks) (ia H sz (.bx id off) v) := rfl
theorem kept_nil {L} : mt H L [] = true := rfl
theorem kept_bx {L id o ks} : mt H L (.bx id o :: ks) = (decide (id < H.length) && !L.contains id && mt H L ks) := rfl
def kpK (H : Heap) (args ks : List AV) : Option (Nat × List AV) → Bool
 | some fc => mt H (ct H 64 ((args ++ fc.2).flatMap AV.refs) []) ks
 | none => false
theorem kpK_some {f caps args ks} : kpK H args ks (some (f,caps)) = mt H (ct H 64 ((args ++ caps).flatMap AV.refs) []) ks := rfl
def kpO (b : Bool) (p : Prop) : Prop := b = true ∧ p
theorem kpO_t {p : Prop} : kpO true p ↔ p := by simp [kpO]
theorem L_callk {f args ks} : WpL Γ (⟨dst,none,.inr (.callk f args ks)⟩ :: r) env H live Q ↔
  kpO (kpK H (args.map (Arg.ev Γ (look env))) (ks.map (Arg.ev Γ (look env))) (callee (Arg.ev Γ (look env) f))) (WpL Γ (⟨dst,none,.inr (.calls f args)⟩ :: r) env H live Q) := by
 rw [L_of,L_of]
 unfold WpO
 have e : ∀ n,evX Γ (callOf Γ (ev Γ n)) (look env) H (.callk f args ks) = ifB (kpK H (args.map (Arg.ev Γ (look env))) (ks.map (Arg.ev Γ (look env))) (callee (Arg.ev Γ (look env) f))) (evX Γ (callOf Γ (ev Γ n)) (look env) H (.calls f args)) := by
  intro n
  simp only [evX,sI]
  cases callee (Arg.ev Γ (look env) f) with
  | none => rfl
  | some fc =>
   show ((ifB (mt H _ _) _).map _) = _
   simp only [kpK]
   cases mt H (ct H 64 ((args.map (Arg.ev Γ (look env)) ++ fc.2).flatMap AV.refs) []) (ks.map (Arg.ev Γ (look env))) <;> rfl
 cases hb : kpK H (args.map (Arg.ev Γ (look env))) (ks.map (Arg.ev Γ (look env))) (callee (Arg.ev Γ (look env) f))
 ·simp only [e,hb,kpO,ifB_f,BP,exists_false,false_iff]
  rintro ⟨h,_⟩
  cases h
 ·simp only [e,hb,kpO_t,ifB_t]
end
attribute [go_sem] tS loadk_bx BZ kept_nil kept_bx kpK_some kpO_t L_callk L_loadk
end Ab
namespace Ab
open Go (IntKind BinOp UnOp)
def RunW (Γ : Ctx) (f : Nat) (as : List AV) (H : Heap) (r : List AV × Heap) : Prop := ∃ n,callOf Γ (ev Γ n) f as H = some r
theorem RunW_det {Γ : Ctx} {f : Nat} {as : List AV} {H : Heap} {r r' : List AV × Heap} (h : RunW Γ f as H r) (h' : RunW Γ f as H r') : r = r' := by
 obtain ⟨n,h1⟩ := h
 obtain ⟨m,h3⟩ := h'
 have e1 := ej (Nat.le_max_left n m) _ _ _ _ h1
 have e2 := ej (Nat.le_max_right n m) _ _ _ _ h3
 rw [e1] at e2
 cases e2
 rfl
open Classical in
noncomputable def resW (Γ : Ctx) (f : Nat) (as : List AV) (H : Heap) : Option (List AV × Heap) := if h : ∃ r,RunW Γ f as H r then some h.choose else none
theorem jz {Γ f as H r} (h : RunW Γ f as H r) : resW Γ f as H = some r := by
 have h' : ∃ r,RunW Γ f as H r := ⟨_,h⟩
 unfold resW
 rw [dif_pos h']
 exact congrArg some (RunW_det h'.choose_spec h)
theorem tO {Γ f as H r} (h : resW Γ f as H = some r) : RunW Γ f as H r := by
 unfold resW at h
 split at h
 ·rename_i h'
  cases h
  exact h'.choose_spec
 ·cases h
section
variable {Γ : Ctx} {env : Env} {H : Heap} {live : List Nat} {Q : Out → Prop} {r : List St} {dst : Option Nat}
noncomputable def cwA (Γ : Ctx) (H : Heap) (args : List AV) (fc : Option (Nat × List AV)) : Option (List AV × Heap) := fc.bind fun fc => ifB (an Γ fc.1) (resW Γ fc.1 (args ++ fc.2) H)
theorem L_callw {f args} : WpL Γ (⟨dst,none,.inr (.callw f args)⟩ :: r) env H live Q ↔ opX Γ (resX (cwA Γ H (args.map (Arg.ev Γ (look env))) (callee (Arg.ev Γ (look env) f)))) dst r env live Q := by
 rw [L_of]
 unfold opX WpO
 constructor
 ·rintro ⟨n,h⟩
  dsimp only at h
  rw [aX] at h ⊢
  obtain ⟨v,h1,h2⟩ := h
  simp only [evX,kZ,Option.map_eq_some_iff,Option.bind_eq_some_iff,ifB_some] at h1
  obtain ⟨rr,⟨fc,hfc,hst,hcr⟩,rfl⟩ := h1
  refine ⟨_,?_,h2⟩
  simp only [resX,cwA,hfc,Option.bind_some,hst,ifB,jz ⟨n,hcr⟩,Option.map_some]
 ·intro h
  rw [aX] at h
  obtain ⟨v,h1,h2⟩ := h
  simp only [resX,cwA,Option.map_eq_some_iff,Option.bind_eq_some_iff,ifB_some] at h1
  obtain ⟨rr,⟨fc,hfc,hst,hres⟩,rfl⟩ := h1
  obtain ⟨n,hcr⟩ := tO hres
  refine ⟨n,?_⟩
  simp only [evX,kZ,hfc,Option.bind_some,hst,hcr,Option.map_some,ifB]
  exact h2
theorem cwA_some {args : List AV} {f : Nat} {caps : List AV} : cwA Γ H args (some (f,caps)) = ifB (an Γ f) (resW Γ f (args ++ caps) H) := rfl
end
theorem fB {Γ : Ctx} {f : Nat} {fn : AFn} {args : List AV} {H : Heap} {K : List AV → Heap → Prop} (hf : Γ.fn f = some (.code fn)) (hl : args.length = fn.np)
  (h : Wp Γ fn.body (gy 0 args) H (uh fn.results K)) : ∃ rs H',resW Γ f args H = some (rs,H') ∧ K rs H' := by
 obtain ⟨n,vs,h',hc,hk⟩ := callK hf hl h
 exact ⟨vs,h',jz ⟨n,hc⟩,hk⟩
section
variable {Γ : Ctx} {env : Env} {H : Heap} {live : List Nat} {Q : Out → Prop} {r : List St} {dst : Option Nat}
def kwA (H : Heap) (ks : List AV) (r : Option (List AV × Heap)) : Option (List AV × Heap) := r.bind fun r => ifB (keepW H r.2 ks) (some r)
theorem kwA_some {ks : List AV} {rs : List AV} {H' : Heap} : kwA H ks (some (rs,H')) = ifB (keepW H H' ks) (some (rs,H')) := rfl
theorem yT {H' : Heap} {id o : Nat} : keepW H H' [.bx id o] = eV H H' id := by simp [keepW]
theorem L_callwk {f args ks} : WpL Γ (⟨dst,none,.inr (.callwk f args ks)⟩ :: r) env H live Q ↔ opX Γ (resX (kwA H (ks.map (Arg.ev Γ (look env))) (cwA Γ H (args.map (Arg.ev Γ (look env))) (callee (Arg.ev Γ (look env) f))))) dst r env live Q := by
 rw [L_of]
 unfold opX WpO
 constructor
 ·rintro ⟨n,h⟩
  dsimp only at h
  rw [aX] at h ⊢
  obtain ⟨v,h1,h2⟩ := h
  simp only [evX,jF,kZ,Option.map_eq_some_iff,Option.bind_eq_some_iff,ifB_some] at h1
  obtain ⟨rr,⟨r',⟨fc,hfc,hst,hcr⟩,hk,e⟩,rfl⟩ := h1
  cases e
  refine ⟨_,?_,h2⟩
  simp only [resX,kwA,cwA,hfc,Option.bind_some,hst,ifB,jz ⟨n,hcr⟩,hk,Option.map_some]
 ·intro h
  rw [aX] at h
  obtain ⟨v,h1,h2⟩ := h
  simp only [resX,kwA,cwA,Option.map_eq_some_iff,Option.bind_eq_some_iff,ifB_some] at h1
  obtain ⟨rr,⟨r',⟨fc,hfc,hst,hres⟩,hk,e⟩,rfl⟩ := h1
  cases e
  obtain ⟨n,hcr⟩ := tO hres
  refine ⟨n,?_⟩
  simp only [evX,jF,kZ,hfc,Option.bind_some,hst,hcr,Option.map_some,ifB,hk]
  exact h2
def rwA (H : Heap) (r : Option (List AV × Heap)) : Option (List AV × Heap) := r.bind fun r => ifB (preB H r.2) (some r)
theorem qF {rs : List AV} {H' : Heap} : rwA H (some (rs,H')) = ifB (preB H H') (some (rs,H')) := rfl
theorem L_callwr {f args} : WpL Γ (⟨dst,none,.inr (.callwr f args)⟩ :: r) env H live Q ↔ opX Γ (resX (rwA H (cwA Γ H (args.map (Arg.ev Γ (look env))) (callee (Arg.ev Γ (look env) f))))) dst r env live Q := by
 rw [L_of]
 unfold opX WpO
 constructor
 ·rintro ⟨n,h⟩
  dsimp only at h
  rw [aX] at h ⊢
  obtain ⟨v,h1,h2⟩ := h
  simp only [evX,lp,kZ,Option.map_eq_some_iff,Option.bind_eq_some_iff,ifB_some] at h1
  obtain ⟨rr,⟨r',⟨fc,hfc,hst,hcr⟩,hk,e⟩,rfl⟩ := h1
  cases e
  refine ⟨_,?_,h2⟩
  simp only [resX,rwA,cwA,hfc,Option.bind_some,hst,ifB,jz ⟨n,hcr⟩,hk,Option.map_some]
 ·intro h
  rw [aX] at h
  obtain ⟨v,h1,h2⟩ := h
  simp only [resX,rwA,cwA,Option.map_eq_some_iff,Option.bind_eq_some_iff,ifB_some] at h1
  obtain ⟨rr,⟨r',⟨fc,hfc,hst,hres⟩,hk,e⟩,rfl⟩ := h1
  cases e
  obtain ⟨n,hcr⟩ := tO hres
  refine ⟨n,?_⟩
  simp only [evX,lp,kZ,hfc,Option.bind_some,hst,hcr,Option.map_some,ifB,hk]
  exact h2
end
section
variable {Γ : Ctx} {env : Env} {H : Heap} {live : List Nat} {Q : Out → Prop} {r : List St} {dst : Option Nat}
def apT (r : Option (AV × Heap)) : Option (AV × Heap) := r.bind fun r => kY r.2 r.1
theorem apT_some {v : AV} {H' : Heap} : apT (some (v,H')) = kY H' v := rfl
def apE (H : Heap) (sz : Nat) (x : AV) (o : Option (List PV)) : Option (AV × Heap) := o.bind fun ys => aW H sz x ys
theorem apE_some {sz : Nat} {x : AV} {ys : List PV} : apE H sz x (some ys) = aW H sz x ys := rfl
theorem B4 : jy H [] = true := rfl
theorem zo {id o : Nat} {cs : List AV} {ks : List AV} (h : H[id]? = some (.box cs)) : jy H (.bx id o :: ks) = jy H ks := by simp [jy,h]
theorem L_appt {sz x y} : WpL Γ (⟨dst,none,.inr (.appt sz x y)⟩ :: r) env H live Q ↔ opX Γ (apT (apE H sz (Arg.ev Γ (look env) x) (elemsOf H sz (Arg.ev Γ (look env) y)))) dst r env live Q := by
 rw [L_of]
 exact ij rfl
theorem L_appk {sz x y ks} : WpL Γ (⟨dst,none,.inr (.appk sz x y ks)⟩ :: r) env H live Q ↔ opX Γ (ifB (jy H (ks.map (Arg.ev Γ (look env)))) (apE H sz (Arg.ev Γ (look env) x) (elemsOf H sz (Arg.ev Γ (look env) y)))) dst r env live Q := by
 rw [L_of]
 exact ij rfl
end
attribute [go_sem] L_appt L_appk apT_some apE_some B4 zo
attribute [go_sem] L_callw L_callwr qF cwA_some L_callwk kwA_some yT
end Ab
namespace Ab
open Go (IntKind BinOp UnOp)
theorem ab {Γ : Ctx} {f : Nat} {fn : AFn} {args rs : List AV} {H H' : Heap} (hf : Γ.fn f = some (.code fn)) (hl : args.length = fn.np)
  (h : Wp Γ fn.body (gy 0 args) H (uh fn.results fun rs' h' => rs' = rs ∧ h' = H')) : resW Γ f args H = some (rs,H') := by
 obtain ⟨rs',h',h1,rfl,rfl⟩ := fB hf hl h
 exact h1
theorem ow {Γ : Ctx} {f : Nat} {g : List AV → Heap → Option (List PV)} {args : List AV} {rs : List PV} {H : Heap} (hf : Γ.fn f = some (.look g)) (h : g args H = some rs) : resW Γ f args H = some (rs.map .p,H) := by
 refine jz ⟨0,?_⟩
 unfold callOf
 rw [hf]
 simp only [h]
theorem boxK_mp {m : Nat} {r : List AV} : boxK (some (.box (.mp m :: r))) = some (.mp m :: r) := rfl
theorem boxK_clo {f : Nat} {c r : List AV} : boxK (some (.box (.clo f c :: r))) = some (.clo f c :: r) := rfl
theorem pures_mp {m : Nat} {r : List AV} : dH (.mp m :: r) = none := rfl
theorem mset_bx {H : Heap} {id i o : Nat} {k : List UInt8} : rx H .str (.mp id) (.p (.str k)) (.bx i o) = (mapK H[id]?).bind fun es => msK H id (mput (.str k) (.bx i o) es) := qz rfl
theorem len2 {H : Heap} {a : Blk} : List.length (H ++ [a]) = H.length + 1 := by simp
theorem mdel_str {H : Heap} {id : Nat} {k : List UInt8} : mdelA H .str (.mp id) (.p (.str k)) = (mapK H[id]?).bind fun es => msK H id (yH (.str k) es) := rfl
theorem mlen_mp {H : Heap} {id : Nat} : BT H (.mp id) = (mapK H[id]?).map fun es => .p (.int .i64 (es.length : Nat)) := rfl
attribute [go_sem] boxK_mp boxK_clo pures_mp mset_bx mdel_str mlen_mp
end Ab
