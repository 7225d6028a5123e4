import Derived.Test.YtieagbclljmnlaaGreatDoorAbTag
namespace Ab
open Go (IntKind BinOp UnOp)
def strs (l : List (List UInt8)) : List PV := l.map .str
def ints (k : IntKind) (l : List Int) : List PV := l.map (.int k)
def bools (l : List Bool) : List PV := l.map .bool
def aggs (l : List (List PV)) : List PV := l.map .agg
theorem strs_len {l} : (strs l).length = l.length := by simp [strs]
theorem ints_len {k l} : (ints k l).length = l.length := by simp [ints]
theorem bools_len {l} : (bools l).length = l.length := by simp [bools]
theorem aggs_len {l} : (aggs l).length = l.length := by simp [aggs]
theorem strs_app {l l'} : strs l ++ strs l' = strs (l ++ l') := by simp [strs]
theorem strs_one {l a} : strs l ++ [.str a] = strs (l ++ [a]) := by simp [strs]
theorem strs_get {l : List (List UInt8)} {i : Nat} (h : i < l.length) : (strs l)[i]? = some (.str (l.getD i [])) := by simp [strs,List.getElem?_eq_getElem h]
theorem bools_get {l : List Bool} {i : Nat} (h : i < l.length) : (bools l)[i]? = some (.bool (l.getD i false)) := by simp [bools,List.getElem?_eq_getElem h]
theorem aggs_get {l : List (List PV)} {i : Nat} (h : i < l.length) : (aggs l)[i]? = some (.agg (l.getD i [])) := by simp [aggs,List.getElem?_eq_getElem h]
theorem strs_set {l i a} : (strs l).set i (.str a) = strs (l.set i a) := by simp [strs,List.map_set]
theorem bools_set {l i a} : (bools l).set i (.bool a) = bools (l.set i a) := by simp [bools,List.map_set]
theorem strs_take {l n} : (strs l).take n = strs (l.take n) := by simp [strs,List.map_take]
theorem strs_drop {l n} : (strs l).drop n = strs (l.drop n) := by simp [strs,List.map_drop]
theorem strs_rep {n a} : List.replicate n (.str a) = strs (List.replicate n a) := by simp [strs]
theorem bools_rep {n a} : List.replicate n (.bool a) = bools (List.replicate n a) := by simp [bools]
def rowAt (b : Option Blk) (n : Nat) : Option (Nat × List PV) :=
 match b with
 | some (.row _ sz xs) => if xs.length = n then some (sz,xs) else none
 | _ => none
theorem rowOf_eq {H : Heap} {id n : Nat} : rowOf H id n = rowAt H[id]? n := by
 unfold rowOf rowAt
 cases H[id]? with
 | none => rfl
 | some b => cases b <;> rfl
theorem rowAt_pos {f sz xs n} (h : xs.length = n) : rowAt (some (.row f sz xs)) n = some (sz,xs) := by simp [rowAt,h]
theorem len_own {H id n} : asLen H false (.own id n) = (rowOf H id n).map fun _ => n := rfl
theorem len_sl {H k sz xs} : asLen H false (.p (.sl k sz xs)) = some xs.length := rfl
theorem len_str {H s} : asLen H true (.p (.str s)) = some s.length := rfl
theorem iaddr_own {H : Heap} {id n : Nat} {f sz xs k i} (hb : H[id]? = some (.row f sz xs)) (hl : xs.length = n) (h0 : 0 ≤ i) (h1 : i < (n : Int)) : iaddrA H sz (.own id n) (.p (.int k i)) = some (.el id n i.toNat 0) := by
 simp only [iaddrA,rowOf_eq,hb,rowAt_pos hl,Option.bind_some]
 rw [if_pos ⟨trivial,h0,h1⟩]
theorem iaddr_sl {H sz xs k' k i x} (h0 : 0 ≤ i) (hx : xs[i.toNat]? = some x) : iaddrA H sz (.p (.sl k' sz xs)) (.p (.int k i)) = some (.p (.ptr x.cells)) := by
 simp only [iaddrA,h0,and_self,if_true,hx,Option.map_some]
theorem iaddr_strs {H xs k' k i} (h0 : 0 ≤ i) (h : i < (xs.length : Int)) : iaddrA H 1 (.p (.sl k' 1 (strs xs))) (.p (.int k i)) = some (.p (.ptr [.str (xs.getD i.toNat [])])) := iaddr_sl h0 (strs_get (by omega))
theorem iaddr_aggs {H xs sz k' k i} (h0 : 0 ≤ i) (h : i < (xs.length : Int)) : iaddrA H sz (.p (.sl k' sz (aggs xs))) (.p (.int k i)) = some (.p (.ptr (xs.getD i.toNat []))) := iaddr_sl h0 (aggs_get (by omega))
theorem load_ptr {H sz ag cells} : loadA H sz ag (.p (.ptr cells)) = takeP sz ag cells := rfl
def tkO (sz : Nat) (ag : Bool) (off : Nat) (b : Option (List AV)) : Option AV := b.bind fun cs => takeA sz ag (cs.drop off)
theorem load_bx {H sz ag id off} : loadA H sz ag (.bx id off) = tkO sz ag off (boxOf H id) := rfl
theorem tkO_some {sz ag off cs} : tkO sz ag off (some cs) = takeA sz ag (cs.drop off) := rfl
attribute [go_sem] tkO_some
theorem takeP_one {sz c r} : takeP sz false (c :: r) = some (.p c) := rfl
theorem takeP_ag {sz cs} (h : cs.length = sz) : takeP sz true cs = some (.p (.agg cs)) := by simp [takeP,← h]
theorem elems_p {H sz k xs} : elemsOf H sz (.p (.sl k sz xs)) = some xs := by simp [elemsOf]
theorem app_nil {H sz sz' ys} (hm : ys.length ≤ 1073741824) : appendA H sz (.p (.sl .nil sz' [])) ys = some (.own H.length ys.length,H ++ [.row false sz ys]) := by
 simp only [appendA]
 rw [if_pos ⟨.inl trivial,by simp only [List.nil_append,lim]; omega⟩]
theorem mks {H sz ag zero k k' n} (h0 : 0 ≤ n) (hm : n ≤ 1073741824) : mksliceA H sz ag zero (.p (.int k n)) (.p (.int k' n)) = some (.own H.length n.toNat,H ++ [.row false sz (List.replicate n.toNat (if ag then .agg zero else zero.headD .nilp))]) := by
 simp only [mksliceA]
 rw [if_pos ⟨h0,trivial,by unfold lim; omega⟩]
theorem slf_p {H sz v lo hi} : slicefA H sz (.p v) lo hi = (sliceA sz (.p v) lo hi).map fun v => (v,H) := rfl
theorem frz_nil {H} : freeze H [] = H := rfl
theorem frz_p {H v r} : freeze H (.p v :: r) = freeze H r := rfl
theorem cut_to {s : List PV} {sz kk} {k2 : IntKind} {b : Int} (h1 : 0 ≤ b) (h2 : b ≤ s.length) : sliceA sz (.p (.sl kk sz s)) none (some (.p (.int k2 b))) = some (.p (.sl kk.cut sz (s.take b.toNat))) := by
 simp only [sliceA,bound,if_true]
 rw [if_pos ⟨by omega,h2⟩,Option.bind_some,Option.map_some,List.drop_zero]
theorem cut_from {s : List PV} {sz kk} {k2 : IntKind} {a : Int} (h1 : 0 ≤ a) (h2 : a ≤ s.length) : sliceA sz (.p (.sl kk sz s)) (some (.p (.int k2 a))) none = some (.p (.sl kk.cut sz (s.drop a.toNat))) := by
 simp only [sliceA,bound,if_true]
 rw [Option.bind_some,if_pos ⟨by omega,h2⟩,Option.map_some,List.take_length]
theorem cutk_any : SK.any.cut = .any := rfl
theorem cutk_mem : SK.mem.cut = .mem := rfl
theorem cutk_tight : SK.tight.cut = .mem := rfl
theorem cutk_nil : SK.nil.cut = .nil := rfl
theorem app_tight0 {H sz ys} (hm : ys.length ≤ 1073741824) : appendA H sz (.p (.sl .tight sz [])) ys = some (.own H.length ys.length,H ++ [.row false sz ys]) := by
 simp only [appendA]
 rw [if_pos ⟨.inr ⟨trivial,trivial⟩,by simp only [List.nil_append,lim]; omega⟩]
attribute [go_sem] cutk_any cutk_mem cutk_tight cutk_nil app_tight0
theorem min_max2 {mx k k' x y} : minmax mx [.p (.int k x),.p (.int k' y)] = some (.p (.int k (if mx then max x y else min x y))) := by
 cases mx
 ·simp only [minmax,Bool.false_eq_true,if_false]; congr 3; rw [Int.min_def]; split <;> split <;> omega
 ·simp only [minmax,if_true]; congr 3; rw [Int.max_def]; split <;> split <;> omega
def fillK (b : Bool) (zero : List AV) (off sz : Nat) (v : AV) (r : List (Nat × Nat × AV)) : Option (List AV) :=
 match b with
 | true => fillA (zero.take off ++ v.cells ++ zero.drop (off + sz)) r
 | false => none
theorem fill_nil {zero} : fillA zero [] = some zero := rfl
theorem fill_cons {zero off sz v r} : fillA zero ((off,sz,v) :: r) = fillK (v.ok && (v.cells.length == sz) && decide (off + sz ≤ zero.length)) zero off sz v r := by
 unfold fillK
 by_cases h : v.ok = true ∧ v.cells.length = sz ∧ off + sz ≤ zero.length
 ·simp [fillA,h]
 ·rw [show (v.ok && (v.cells.length == sz) && decide (off + sz ≤ zero.length)) = false by simpa [and_assoc] using h]
  simp only [fillA]; rw [if_neg h]
theorem fill_t {zero off sz v r} : fillK true zero off sz v r = fillA (zero.take off ++ v.cells ++ zero.drop (off + sz)) r := rfl
theorem pures_nil : pures [] = some [] := rfl
theorem pures_p {v r} : pures (.p v :: r) = (pures r).map (v :: ·) := rfl
theorem pures_own {id n r} : pures (.own id n :: r) = none := rfl
theorem pures_bx {id n r} : pures (.bx id n :: r) = none := rfl
theorem pures_el {id n i o r} : pures (.el id n i o :: r) = none := rfl
theorem pures_agg {cs r} : pures (.agg cs :: r) = none := rfl
theorem pures_clo {f cs r} : pures (.clo f cs :: r) = none := rfl
attribute [go_sem] pures_own pures_bx pures_el pures_agg pures_clo
attribute [go_sem] List.getD_cons_zero List.getD_cons_succ
theorem iaddr_lit {H sz xs k' k} {i : Int} (h0 : 0 ≤ i) : iaddrA H sz (.p (.sl k' sz xs)) (.p (.int k i)) = (xs[i.toNat]?).map fun x => .p (.ptr x.cells) := by simp [iaddrA,h0]
attribute [go_sem low] iaddr_lit
attribute [go_sem] beq_self_eq_true
attribute [go_sem] fill_nil fill_cons fill_t pures_nil pures_p List.take_succ_cons List.drop_succ_cons List.drop_nil List.take_nil List.append_assoc
def iaddrK (b : Option Blk) (sz id n : Nat) (i : Int) : Option AV := match b with
 | some (.row _ sz' xs) => if sz = sz' ∧ xs.length = n ∧ 0 ≤ i ∧ i < (n : Int) then some (.el id n i.toNat 0) else none
 | _ => none
theorem iaddr_K {H : Heap} {id n sz : Nat} {k i} : iaddrA H sz (.own id n) (.p (.int k i)) = iaddrK H[id]? sz id n i := by
 simp only [iaddrA,rowOf_eq,iaddrK]
 cases H[id]? with
 | none => rfl
 | some b =>
  cases b with
  | box => rfl
  | dead => rfl
  | row f sz' xs =>
   by_cases h : xs.length = n
   ·simp [rowAt,h]
   ·simp [rowAt,h]
theorem iaddrK_pos {f sz xs id} {n : Nat} {i} (h : xs.length = n) (h1 : 0 ≤ i) (h2 : i < (n : Int)) : iaddrK (some (.row f sz xs)) sz id n i = some (.el id n i.toNat 0) := by simp [iaddrK,h,h1,h2]
def loadK (b : Option Blk) (s : Nat) (ag : Bool) (n i off : Nat) : Option AV := match b with
 | some (.row _ _ xs) => if xs.length = n then xs[i]?.bind fun x => takeP s ag (x.cells.drop off) else none
 | _ => none
theorem load_K {H : Heap} {id n i off s : Nat} {ag} : loadA H s ag (.el id n i off) = loadK H[id]? s ag n i off := by
 simp only [loadA,rowOf_eq,loadK]
 cases H[id]? with
 | none => rfl
 | some b =>
  cases b with
  | box => rfl
  | dead => rfl
  | row f sz' xs => by_cases h : xs.length = n <;> simp [rowAt,h]
theorem loadK_strs {f sz l n i} (h : l.length = n) (h' : i < n) : loadK (some (.row f sz (strs l))) 1 false n i 0 = some (.p (.str (l.getD i []))) := by
 simp only [loadK,strs_len,h,if_true,strs_get (show i < l.length by omega),Option.bind_some,PV.cells,List.drop_zero,takeP_one]
theorem loadK_bools {f sz l n i} (h : l.length = n) (h' : i < n) : loadK (some (.row f sz (bools l))) 1 false n i 0 = some (.p (.bool (l.getD i false))) := by
 simp only [loadK,bools_len,h,if_true,bools_get (show i < l.length by omega),Option.bind_some,PV.cells,List.drop_zero,takeP_one]
def storeK (H : Heap) (b : Option Blk) (sz id n i off : Nat) (v : AV) : Option Heap := match b with
  | some (.row false sz' xs) => if xs.length = n then
        (xs[i]?).bind fun x => (pures v.cells).bind fun ps =>
          if v.ok = true ∧ 0 < sz ∧ ps.length = sz ∧ off + sz ≤ x.cells.length then
            some (H.set id (.row false sz' (xs.set i (setPart off sz ps x)))) else none
      else none
  | _ => none
theorem store_K {H : Heap} {id n i off sz : Nat} {v} : storeA H sz (.el id n i off) v = storeK H H[id]? sz id n i off v := by
 unfold storeA storeK
 rfl
theorem storeK_one {H : Heap} {id n xs i sz' x v} (hl : xs.length = n) (hx : xs[i]? = some x) (h1 : x.one = true) (hv : v.one = true) :
  storeK H (some (.row false sz' xs)) 1 id n i 0 (.p v) = some (H.set id (.row false sz' (xs.set i v))) := by
 have e1 : x.cells = [x] := by cases x <;> first | rfl | cases h1
 have e2 : (AV.p v).cells = [.p v] := by cases v <;> first | rfl | cases hv
 have e3 : setPart 0 1 [v] x = v := by cases x <;> first | rfl | cases h1
 simp only [storeK,hl,if_true,hx,Option.bind_some,e1,e2,pures,Option.map_some,AV.ok,List.length_cons,List.length_nil,e3]
 simp
theorem storeK_strs {H : Heap} {sz' id n l i a} (h : l.length = n) (h' : i < n) : storeK H (some (.row false sz' (strs l))) 1 id n i 0 (.p (.str a)) = some (H.set id (.row false sz' (strs (l.set i a)))) := by
 rw [storeK_one (strs_len.trans h) (strs_get (by omega)) rfl rfl,strs_set]
theorem storeK_bools {H : Heap} {sz' id n l i a} (h : l.length = n) (h' : i < n) : storeK H (some (.row false sz' (bools l))) 1 id n i 0 (.p (.bool a)) = some (H.set id (.row false sz' (bools (l.set i a)))) := by
 rw [storeK_one (bools_len.trans h) (bools_get (by omega)) rfl rfl,bools_set]
def elemsK (b : Option Blk) (sz n : Nat) : Option (List PV) := match b with
 | some (.row _ sz' xs) => if xs.length = n ∧ sz = sz' then some xs else none
 | _ => none
theorem elems_K {H : Heap} {sz id n : Nat} : elemsOf H sz (.own id n) = elemsK H[id]? sz n := by
 simp only [elemsOf,rowOf_eq,elemsK]
 cases H[id]? with
 | none => rfl
 | some b =>
  cases b with
  | box => rfl
  | dead => rfl
  | row f sz' xs => by_cases h : xs.length = n <;> simp [rowAt,h]
theorem elemsK_pos {f sz xs n} (h : xs.length = n) : elemsK (some (.row f sz xs)) sz n = some xs := by simp [elemsK,h]
def appK (H : Heap) (b : Option Blk) (sz id n : Nat) (ys : List PV) : Option (AV × Heap) := match b with
 | some (.row false sz' xs) => if xs.length = n ∧ sz' = sz ∧ (xs ++ ys).length ≤ lim then some (.own id (xs ++ ys).length,H.set id (.row false sz (xs ++ ys))) else none
 | _ => none
theorem app_K {H : Heap} {sz id n : Nat} {ys} : appendA H sz (.own id n) ys = appK H H[id]? sz id n ys := by
 unfold appendA appK
 rfl
theorem appK_pos {H : Heap} {sz id n xs ys} (h : xs.length = n) (h' : xs.length + ys.length ≤ 1073741824) : appK H (some (.row false sz xs)) sz id n ys = some (.own id (n + ys.length),H.set id (.row false sz (xs ++ ys))) := by
 simp only [appK]
 rw [if_pos ⟨h,trivial,by simp only [List.length_append,lim]; omega⟩,List.length_append,h]
def slfK (H : Heap) (b : Option Blk) (sz id n : Nat) (lo hi : Option AV) : Option (AV × Heap) := match b with
 | some (.row _ sz' xs) => if xs.length = n then (sliceA sz (.p (.sl .any sz' xs)) lo hi).map fun v => (v,freeze H [.own id n]) else none
 | _ => none
theorem slf_K {H : Heap} {sz id n : Nat} {lo hi} : slicefA H sz (.own id n) lo hi = slfK H H[id]? sz id n lo hi := by
 simp only [slicefA,rowOf_eq,slfK]
 cases H[id]? with
 | none => rfl
 | some b =>
  cases b with
  | box => rfl
  | dead => rfl
  | row f sz' xs => by_cases h : xs.length = n <;> simp [rowAt,h]
theorem slfK_pos {H : Heap} {f sz sz' xs id n lo hi} (h : xs.length = n) : slfK H (some (.row f sz' xs)) sz id n lo hi = (sliceA sz (.p (.sl .any sz' xs)) lo hi).map fun v => (v,freeze H [.own id n]) := by simp [slfK,h]
def frzK (H : Heap) (b : Option Blk) (id : Nat) (r : List AV) : Heap := freeze (match b with | some (.row _ sz xs) => H.set id (.row true sz xs) | _ => H) r
theorem frz_K {H : Heap} {id n r} : freeze H (.own id n :: r) = frzK H H[id]? id r := rfl
theorem frzK_row {H : Heap} {f sz xs id r} : frzK H (some (.row f sz xs)) id r = freeze (H.set id (.row true sz xs)) r := rfl
theorem set_rep {α : Type} {l : List α} {n i : Nat} {x a : α} (h : l.length = i ∧ 1 ≤ n) : (l ++ List.replicate n x).set i a = l ++ (a :: List.replicate (n - 1) x) := by
 obtain ⟨rfl,hn⟩ := h
 obtain ⟨m,rfl⟩ : ∃ m,n = m + 1 := ⟨n - 1,by omega⟩
 rw [List.set_append_right _ _ (Nat.le_refl _),Nat.sub_self,List.replicate_succ]
 rfl
def storeBK (cs : Option (List AV)) (H : Heap) (id off sz : Nat) (v : AV) : Option Heap := cs.bind fun cs => ifB (v.ok && (v.cells.length == sz) && decide (off + sz ≤ cs.length)) (some (H.set id (.box (cs.take off ++ v.cells ++ cs.drop (off + sz)))))
theorem store_B {H : Heap} {id off sz : Nat} {v : AV} : storeA H sz (.bx id off) v = storeBK (boxOf H id) H id off sz v := by
 simp only [storeA,storeBK]
 congr 1
 funext cs
 by_cases h : v.ok = true ∧ v.cells.length = sz ∧ off + sz ≤ cs.length
 ·rw [if_pos h]; simp [h,ifB]
 ·rw [if_neg h,show (v.ok && (v.cells.length == sz) && decide (off + sz ≤ cs.length)) = false by simpa [and_assoc] using h]; rfl
theorem stB_lit {cs : List AV} {H : Heap} {id off sz : Nat} {v : AV} : storeBK (some cs) H id off sz v = ifB (v.ok && (v.cells.length == sz) && decide (off + sz ≤ cs.length)) (some (H.set id (.box (cs.take off ++ v.cells ++ cs.drop (off + sz))))) := rfl
theorem stB_cell {cs : List PV} {H : Heap} {id off : Nat} {v : PV} (hv : v.one = true) (h : off < cs.length) : storeBK (some (cs.map .p)) H id off 1 (.p v) = some (H.set id (.box ((cs.set off v).map .p))) := by
 have e2 : (AV.p v).cells = [.p v] := by cases v <;> first | rfl | cases hv
 rw [stB_lit,e2]
 simp only [AV.ok,List.length_cons,List.length_nil,List.length_map]
 rw [show (true && (0 + 1 == 1) && decide (off + 1 ≤ cs.length)) = true by simp; omega]
 simp only [ifB]
 congr 3
 rw [List.map_set,List.set_eq_take_append_cons_drop,if_pos (by simpa using h)]
 simp
theorem stB_whole {cs cs' : List PV} {H : Heap} {id n : Nat} (h : cs'.length = n) (h' : cs.length = n) : storeBK (some (cs.map .p)) H id 0 n (.p (.agg cs')) = some (H.set id (.box (cs'.map .p))) := by
 subst h'
 rw [stB_lit]
 simp only [AV.ok,AV.cells,PV.cells,List.length_map,h,Nat.zero_add]
 rw [show (true && (cs.length == cs.length) && decide (cs.length ≤ cs.length)) = true by simp]
 simp only [ifB]
 rw [List.drop_of_length_le (by simp)]
 simp
attribute [go_sem low] stB_lit
theorem stB_bool {l : List Bool} {H : Heap} {id off : Nat} {b : Bool} (h : off < l.length) : storeBK (some ((bools l).map .p)) H id off 1 (.p (.bool b)) = some (H.set id (.box ((bools (l.set off b)).map .p))) := by
 rw [stB_cell rfl (by rw [bools_len]; exact h),bools_set]
attribute [go_sem] stB_bool stB_whole
theorem neg_int {k n} : unA .neg (.p (.int k n)) = some (.p (.int k (k.wrap (0 - n)))) := rfl
theorem beq_self_t : (true == true) = true := rfl
theorem beq_self_f : (false == false) = true := rfl
theorem beq_tf : (true == false) = false := rfl
theorem beq_ft : (false == true) = false := rfl
attribute [go_sem] Bool.bne_false Bool.bne_true beq_self_t beq_self_f beq_tf beq_ft
attribute [go_sem] neg_int
def nextK (b : Option Blk) (H : Heap) (id : Nat) : Option (AV × Heap) := match b with
 | some (.box [.nov,.p (.str s),.p (.int .i64 pos)]) =>
   if pos < s.length then some (.tup [.p (.bool true),.p (.int .i64 pos),.p (.int .i32 (runeAt s pos.toNat).1)],H.set id (.box (iterCells s (pos.toNat + (runeAt s pos.toNat).2))))
   else some (.tup [.p (.bool false)],H)
 | _ => none
theorem next_K {H : Heap} {id : Nat} : nextA H (.bx id 0) = nextK H[id]? H id := by
 unfold nextA nextK
 rfl
theorem next_more {H : Heap} {id pos : Nat} {s : List UInt8} (h : pos < s.length) : nextK (some (.box (iterCells s pos))) H id = some (.tup [.p (.bool true),.p (.int .i64 pos),.p (.int .i32 (runeAt s pos).1)],H.set id (.box (iterCells s (pos + (runeAt s pos).2)))) := by
 simp only [nextK,iterCells,Int.toNat_natCast]
 rw [if_pos (by omega)]
theorem next_end {H : Heap} {id pos : Nat} {s : List UInt8} (h : ¬ pos < s.length) : nextK (some (.box (iterCells s pos))) H id = some (.tup [.p (.bool false)],H) := by
 simp only [nextK,iterCells]
 rw [if_neg (by omega)]
theorem range_str {H : Heap} {s : List UInt8} : rangeA H (.p (.str s)) = some (.bx H.length 0,H ++ [.box (iterCells s 0)]) := rfl
attribute [go_sem] next_K next_more next_end range_str
attribute [go_sem] store_B Int.min_eq_left Int.min_eq_right Int.max_eq_left Int.max_eq_right List.headD_cons
theorem set_one {α : Type} {l : List α} {i : Nat} {x a : α} (h : l.length = i) : (l ++ [x]).set i a = l ++ [a] := by subst h; simp
attribute [go_sem] set_one
def boxK (b : Option Blk) : Option (List AV) := match b with
 | some (.box (.nov :: _)) => none
 | some (.box cs) => some cs
 | _ => none
theorem box_K {H : Heap} {id : Nat} : boxOf H id = boxK H[id]? := by
 unfold boxOf boxK
 rfl
theorem boxK_map {cs : List PV} : boxK (some (.box (cs.map .p))) = some (cs.map .p) := by cases cs <;> rfl
theorem boxK_p {v r} : boxK (some (.box (.p v :: r))) = some (.p v :: r) := rfl
theorem boxK_own {id n r} : boxK (some (.box (.own id n :: r))) = some (.own id n :: r) := rfl
theorem boxK_bx {id n r} : boxK (some (.box (.bx id n :: r))) = some (.bx id n :: r) := rfl
theorem pures_map : ∀ {cs : List PV},pures (cs.map .p) = some cs
 | [] => rfl
 | c :: cs => by simp only [List.map_cons,pures_p,pures_map]; rfl
theorem take_whole {n} {cs : List PV} (h : cs.length = n) : takeA n true (cs.map .p) = some (.p (.agg cs)) := by
 subst h
 simp only [takeA,if_true,List.length_map,Nat.le_refl]
 rw [← List.map_take,List.take_length]
 simp only [mkAgg,pures_map]
theorem reify_map {H d} : ∀ {cs : List PV},mapO (reify H d) (cs.map .p) = some cs
 | [] => rfl
 | c :: cs => by rw [List.map_cons,mapO_cons,reify_p,reify_map]; rfl
theorem iaddr_P {sz n : Nat} {cs k} {i : Int} (h0 : 0 ≤ i) (h1 : i < (n : Int)) (h2 : i.toNat * sz < cs.length) : iaddrAA sz n (.p (.ptr cs)) (.p (.int k i)) = some (.p (.ptr (cs.drop (i.toNat * sz)))) := by simp [iaddrAA,h0,h1,h2]
theorem take_bools {l : List Bool} {i sz : Nat} (h : i < l.length) : takeP sz false ((bools l).drop i) = some (.p (.bool (l.getD i false))) := by
 simp [takeP,bools,List.head?_drop,List.getElem?_eq_getElem h]
theorem iaddr_B {sz n id o : Nat} {k} {i : Int} (h0 : 0 ≤ i) (h1 : i < (n : Int)) : iaddrAA sz n (.bx id o) (.p (.int k i)) = some (.bx id (o + i.toNat * sz)) := by simp [iaddrAA,h0,h1]
theorem take_one {sz c r} : takeA sz false (c :: r) = some c := rfl
theorem take_ag {n} {cs : List AV} (h : n ≤ cs.length) : takeA n true cs = some (mkAgg (cs.take n)) := by simp [takeA,h]
attribute [go_sem low] take_ag
attribute [go_sem] take_one
def rbx (H : Heap) (d off : Nat) (b : Option (List AV)) : Option PV := b.bind fun cs => ifB (decide (off < cs.length)) ((mapO (reify H d) (cs.drop off)).map .ptr)
theorem reify_B {H : Heap} {d id off : Nat} : reify H (d + 1) (.bx id off) = rbx H d off (boxOf H id) := by
 rw [reify_bx]
 unfold rbx
 congr 1
 funext cs
 unfold ifB
 by_cases h : off < cs.length <;> simp [h]
theorem rbx_map {H : Heap} {d off : Nat} {cs : List PV} (h : off < cs.length) : rbx H d off (some (cs.map .p)) = some (.ptr (cs.drop off)) := by
 unfold rbx
 rw [Option.bind_some,show decide (off < (cs.map AV.p).length) = true by simpa using h,← List.map_drop,reify_map]
 rfl
theorem rbx_lit {H : Heap} {d off : Nat} {cs : List AV} : rbx H d off (some cs) = ifB (decide (off < cs.length)) ((mapO (reify H d) (cs.drop off)).map .ptr) := rfl
attribute [go_sem low] rbx_lit
attribute [go_sem] reify_B rbx_map
attribute [go_sem] iaddr_P iaddr_B take_bools Nat.mul_one Nat.zero_add box_K boxK_map boxK_p boxK_own boxK_bx take_whole reify_map List.set_cons_zero
attribute [go_sem] Int.add_zero Int.zero_add Int.sub_zero
attribute [go_sem] iaddr_K iaddrK_pos load_K loadK_strs loadK_bools store_K storeK_strs storeK_bools elems_K elemsK_pos app_K appK_pos slf_K slfK_pos frz_K frzK_row
attribute [go_sem] strs_len bools_len strs_app strs_one strs_get bools_get aggs_get strs_set bools_set strs_take strs_drop strs_rep bools_rep rowOf_eq rowAt_pos len_own len_sl len_str iaddr_strs iaddr_aggs load_ptr load_bx takeP_one takeP_ag elems_p app_nil mks slf_p frz_nil frz_p cut_to cut_from min_max2
def refsAt (b : Option Blk) : List Nat := match b with | some b => b.refs | none => []
def reachK (c : Bool) (H : Heap) (n : Nat) (id : Nat) (r acc : List Nat) : List Nat := match c with
 | true => reach H n r acc
 | false => reach H n (r ++ refsAt H[id]?) (acc ++ [id])
theorem reach_nil {H : Heap} {n : Nat} {acc : List Nat} : reach H n [] acc = acc := by cases n <;> rfl
theorem reach_cons {H : Heap} {n id : Nat} {r acc : List Nat} : reach H (n + 1) (id :: r) acc = reachK (acc.contains id) H n id r acc := by
 simp only [reach,reachK]
 cases acc.contains id <;> rfl
theorem reachK_t {H : Heap} {n id : Nat} {r acc : List Nat} : reachK true H n id r acc = reach H n r acc := rfl
theorem reachK_f {H : Heap} {n id : Nat} {r acc : List Nat} : reachK false H n id r acc = reach H n (r ++ refsAt H[id]?) (acc ++ [id]) := rfl
theorem refsAt_map {cs : List PV} : refsAt (some (.box (cs.map .p))) = [] := by
 simp only [refsAt,Blk.refs]
 induction cs with
 | nil => rfl
 | cons c cs ih => rw [List.map_cons,List.flatMap_cons,ih]; rfl
theorem refsAt_row {f sz xs} : refsAt (some (.row f sz xs)) = [] := rfl
theorem refsAt_box {cs : List AV} : refsAt (some (.box cs)) = cs.flatMap AV.refs := rfl
theorem refs_p {v : PV} : AV.refs (.p v) = [] := rfl
theorem refs_own {id n} : AV.refs (.own id n) = [id] := rfl
theorem refs_bx {id n} : AV.refs (.bx id n) = [id] := rfl
theorem refs_el {id n i o} : AV.refs (.el id n i o) = [id] := rfl
theorem refs_nov : AV.refs .nov = [] := rfl
def placeK (c : Bool) (r : List Nat) (id : Nat) : Option Nat := match c with
 | true => some 0
 | false => (place r id).map (· + 1)
theorem place_nil {id} : place [] id = none := rfl
theorem place_cons {x r id} : place (x :: r) id = placeK (x == id) r id := by
 unfold place placeK
 by_cases h : x = id
 ·subst h; simp
 ·rw [if_neg h,beq_false_of_ne h]
theorem placeK_t {r id} : placeK true r id = some 0 := rfl
theorem placeK_f {r id} : placeK false r id = (place r id).map (· + 1) := rfl
theorem ren_p {r d v} : AV.ren r d (.p v) = some (.p v) := by cases d <;> rfl
theorem ren_own {r d id n} : AV.ren r d (.own id n) = (r id).map (.own · n) := by cases d <;> rfl
theorem ren_bx {r d id n} : AV.ren r d (.bx id n) = (r id).map (.bx · n) := by cases d <;> rfl
theorem ren_agg {r d cs} : AV.ren r (d + 1) (.agg cs) = (mapO (AV.ren r d) cs).map .agg := rfl
theorem ren_map {r d} : ∀ {cs : List PV},mapO (AV.ren r d) (cs.map .p) = some (cs.map .p)
 | [] => rfl
 | c :: cs => by rw [List.map_cons,mapO_cons,ren_p,ren_map]; rfl
def renE (r : Nat → Option Nat) : Env → Option Env
 | [] => some []
 | (s,v) :: e => (AV.ren r 3 v).bind fun v => (renE r e).map ((s,v) :: ·)
theorem renEnv_eq {r} : ∀ {e : Env},renEnv r e = renE r e
 | [] => rfl
 | (s,v) :: e => by
  have := renEnv_eq (r := r) (e := e)
  simp only [renEnv] at this
  simp only [renEnv,renE,mapO_cons,this]
  cases AV.ren r 3 v <;> rfl
def pickB (H : Heap) (p : Nat → Option Nat) : List Nat → Option Heap
 | [] => some []
 | id :: L => ((H[id]?).bind (Blk.ren p)).bind fun b => (pickB H p L).map (b :: ·)
theorem pick_eq {H : Heap} {L : List Nat} : Heap.pick H L = pickB H (place L) L := by
 have key : ∀ (p : Nat → Option Nat) (L : List Nat),mapO (fun id => (H[id]?).bind (Blk.ren p)) L = pickB H p L := by
  intro p L
  induction L with
  | nil => rfl
  | cons a l ih => rw [mapO_cons,ih]; rfl
 exact key _ _
theorem ren_box {p cs} : Blk.ren p (.box cs) = (mapO (AV.ren p 3) cs).map .box := rfl
theorem ren_row {p f sz xs} : Blk.ren p (.row f sz xs) = some (.row f sz xs) := rfl
def normK (e : Option Env) (h : Option Heap) : Option (Env × Heap) := match e,h with
 | some e,some h => some (e,h)
 | _,_ => none
theorem normG_eq {H : Heap} {e : Env} {L : List Nat} : normG H e L = normK (renE (place L) e) (pickB H (place L) L) := by
 rw [← renEnv_eq,← pick_eq]; rfl
theorem normK_some {e h} : normK (some e) (some h) = some (e,h) := rfl
theorem renE_nil {r} : renE r [] = some [] := rfl
theorem renE_cons {r s v e} : renE r ((s,v) :: e) = (AV.ren r 3 v).bind fun v => (renE r e).map ((s,v) :: ·) := rfl
theorem pickB_nil {H : Heap} {p} : pickB H p [] = some [] := rfl
theorem pickB_cons {H : Heap} {p id L} : pickB H p (id :: L) = ((H[id]?).bind (Blk.ren p)).bind fun b => (pickB H p L).map (b :: ·) := rfl
attribute [go_sem] reach_nil reach_cons reachK_t reachK_f refsAt_map refsAt_row refs_p refs_own refs_bx refs_el refs_nov place_nil place_cons placeK_t placeK_f ren_p ren_own ren_bx ren_agg ren_map ren_box ren_row normG_eq normK_some renE_nil renE_cons pickB_nil pickB_cons List.contains_nil List.contains_cons
attribute [go_sem low] refsAt_box
structure Ser where
 name : List UInt8
 start : Int
 step : Int
 vals : List (Bool × Int)
 cons : Int
def valP (x : Bool × Int) : List PV := [.bool x.1,.int .i64 x.2]
def vpv (l : List (Bool × Int)) : List PV := aggs (l.map valP)
def Ser.pv (k : SK) (s : Ser) : PV := .agg [.str s.name,.int .i64 s.start,.int .i64 s.step,.sl k 2 (vpv s.vals),.int .i64 s.cons]
theorem pair_eta {α β : Type} {x : α × β} : (x.1,x.2) = x := rfl
theorem vpv_len {l} : (vpv l).length = l.length := by simp [vpv,aggs]
theorem vpv_nil : vpv [] = [] := rfl
attribute [go_sem] pair_eta
theorem take_snoc' {α : Type} {l : List α} {i : Nat} (d : α) (h : i < l.length) : l.take (i + 1) = l.take i ++ [l.getD i d] := by
 rw [List.take_add_one,List.getElem?_eq_getElem h]
 simp [List.getElem?_eq_getElem h]
theorem lens : (∀ {α : Type} (a : α) (l : List α),(a :: l).length = l.length + 1) ∧ (∀ {α : Type},([] : List α).length = 0) ∧ (∀ {α : Type} (a b : List α),(a ++ b).length = a.length + b.length) ∧ (∀ {α : Type} (n : Nat) (a : α),(List.replicate n a).length = n) ∧ (∀ {α β : Type} (f : α → β) (l : List α),(l.map f).length = l.length) ∧
    (∀ {α : Type} (l : List α) (i : Nat) (a : α),(l.set i a).length = l.length) ∧ (∀ {α : Type} (n : Nat) (l : List α),(l.take n).length = min n l.length) ∧ (∀ {α : Type} (n : Nat) (l : List α),(l.drop n).length = l.length - n) ∧
    (∀ l,(strs l).length = l.length) ∧ (∀ k l,(ints k l).length = l.length) ∧ (∀ l,(bools l).length = l.length) ∧ (∀ l,(aggs l).length = l.length) ∧ ∀ l,(vpv l).length = l.length :=
  ⟨fun _ _ => rfl,rfl,fun _ _ => List.length_append,fun _ _ => List.length_replicate,fun _ _ => List.length_map _,fun _ _ _ => List.length_set,fun _ _ => List.length_take,fun _ _ => List.length_drop,fun _ => strs_len,fun _ _ => ints_len,fun _ => bools_len,fun _ => aggs_len,fun _ => vpv_len⟩
end Ab
namespace Ab
open Go (IntKind BinOp UnOp)
def RunM (Γ : Ctx) (k f : Nat) (as : List AV) (HL : Heap) (r : List AV × Heap) : Prop := ∃ n x,callOf Γ (ev Γ n) f as HL = some x ∧ tidy k x = some r
theorem RunM_det {Γ : Ctx} {k f : Nat} {as : List AV} {HL : Heap} {r r' : List AV × Heap} (h : RunM Γ k f as HL r) (h' : RunM Γ k f as HL r') : r = r' := by
 obtain ⟨n,x,h1,h2⟩ := h
 obtain ⟨m,x',h3,h4⟩ := h'
 have e1 := call_le (Nat.le_max_left n m) _ _ _ _ h1
 have e2 := call_le (Nat.le_max_right n m) _ _ _ _ h3
 rw [e1] at e2
 cases e2
 rw [h2] at h4
 cases h4
 rfl
open Classical in
noncomputable def resM (Γ : Ctx) (k f : Nat) (as : List AV) (HL : Heap) : Option (List AV × Heap) := if h : ∃ r,RunM Γ k f as HL r then some h.choose else none
theorem resM_of {Γ k f as HL r} (h : RunM Γ k f as HL r) : resM Γ k f as HL = some r := by
 have h' : ∃ r,RunM Γ k f as HL r := ⟨_,h⟩
 unfold resM
 rw [dif_pos h']
 exact congrArg some (RunM_det h'.choose_spec h)
theorem of_resM {Γ k f as HL r} (h : resM Γ k f as HL = some r) : RunM Γ k f as HL r := by
 unfold resM at h
 split at h
 ·rename_i h'
  cases h
  exact h'.choose_spec
 ·cases h
section
variable {Γ : Ctx} {env : Env} {H : Heap} {live : List Nat} {Q : Out → Prop} {r : List St} {dst : Option Nat}
def cmD (H : Heap) (L : List Nat) (r : Option (List AV × Heap)) : Option (List AV × Heap) := r.bind fun r => joinBack H L r
noncomputable def cmC (Γ : Ctx) (H : Heap) (f : Nat) (L : List Nat) (b : Bool) (as : Option (List AV)) (HL : Option Heap) : Option (List AV × Heap) :=
 ifB b (as.bind fun as => HL.bind fun HL => cmD H L (resM Γ L.length f as HL))
noncomputable def cmB (Γ : Ctx) (H : Heap) (f : Nat) (as : List AV) (L : List Nat) : Option (List AV × Heap) :=
 cmC Γ H f L (L.isEmpty || stillF Γ L.length f) (mapO (AV.ren (place L) 3) as) (pickB H (place L) L)
noncomputable def cmA (Γ : Ctx) (H : Heap) (args : List AV) (fc : Option (Nat × List AV)) : Option (List AV × Heap) :=
 fc.bind fun fc => cmB Γ H fc.1 (args ++ fc.2) (reach H 64 ((args ++ fc.2).flatMap AV.refs) [])
def resX (x : Option (List AV × Heap)) : Option (AV × Heap) := x.map fun r => (results r.1,r.2)
theorem L_calls {f args} : WpL Γ (⟨dst,none,.inr (.calls f args)⟩ :: r) env H live Q ↔ opX Γ (resX (cmA Γ H (args.map (Arg.ev Γ (look env))) (callee (Arg.ev Γ (look env) f)))) dst r env live Q := by
 rw [L_of]
 unfold opX WpO
 constructor
 ·rintro ⟨n,h⟩
  dsimp only at h
  rw [optP_iff] at h ⊢
  obtain ⟨v,h1,h2⟩ := h
  simp only [evX,callS,Option.map_eq_some_iff,Option.bind_eq_some_iff,ifB_some] at h1
  obtain ⟨rr,⟨fc,hfc,hst,as',has,HL,hp,x,hcr,r',htd,hj⟩,rfl⟩ := h1
  refine ⟨_,?_,h2⟩
  rw [pick_eq] at hp
  simp only [resX,cmA,cmB,cmC,cmD,hfc,Option.bind_some,hst,has,hp,ifB,resM_of ⟨n,x,hcr,htd⟩,hj,Option.map_some]
 ·intro h
  rw [optP_iff] at h
  obtain ⟨v,h1,h2⟩ := h
  simp only [resX,cmA,cmB,cmC,cmD,Option.map_eq_some_iff,Option.bind_eq_some_iff,ifB_some] at h1
  obtain ⟨rr,⟨fc,hfc,hst,as',has,HL,hp,r',hres,hj⟩,rfl⟩ := h1
  obtain ⟨n,x,hcr,htd⟩ := of_resM hres
  rw [← pick_eq] at hp
  refine ⟨n,?_⟩
  simp only [evX,callS,hfc,Option.bind_some,hst,has,hp,hcr,htd,hj,Option.map_some,ifB]
  exact h2
theorem cmA_some {args : List AV} {f : Nat} {caps : List AV} : cmA Γ H args (some (f,caps)) = cmB Γ H f (args ++ caps) (reach H 64 ((args ++ caps).flatMap AV.refs) []) := rfl
theorem cmB_eq {as : List AV} {f : Nat} {L : List Nat} : cmB Γ H f as L = cmC Γ H f L (L.isEmpty || stillF Γ L.length f) (mapO (AV.ren (place L) 3) as) (pickB H (place L) L) := rfl
theorem cmC_some {as : List AV} {HL : Heap} {f : Nat} {L : List Nat} : cmC Γ H f L true (some as) (some HL) = cmD H L (resM Γ L.length f as HL) := rfl
def jbB (H : Heap) (L : List Nat) (rs : Option (List AV)) (bs : Option (List Blk)) : Option (List AV × Heap) := rs.bind fun rs => bs.map fun bs => (rs,putBack H L bs ++ bs.drop L.length)
theorem cmD_some {L : List Nat} {rs : List AV} {B : Heap} : cmD H L (some (rs,B)) = jbB H L (mapO (AV.ren (backTo H L) 3) rs) (mapO (Blk.ren (backTo H L)) B) := rfl
theorem jbB_some {L : List Nat} {rs : List AV} {bs : List Blk} : jbB H L (some rs) (some bs) = some (rs,putBack H L bs ++ bs.drop L.length) := rfl
theorem resX_some {rs : List AV} {h : Heap} : resX (some (rs,h)) = some (results rs,h) := rfl
theorem putBack_nil {bs : List Blk} : putBack H [] bs = H := by cases bs <;> rfl
theorem putBack_cons {id : Nat} {L : List Nat} {b : Blk} {bs : List Blk} : putBack H (id :: L) (b :: bs) = putBack (H.set id b) L bs := rfl
def btK (b : Bool) (H : Heap) (L : List Nat) (id : Nat) : Option Nat := match b with | true => L[id]? | false => some (H.length + (id - L.length))
theorem backTo_eq {L : List Nat} {id : Nat} : backTo H L id = btK (decide (id < L.length)) H L id := by
 unfold backTo btK
 by_cases h : id < L.length <;> simp [h]
theorem btK_t {L : List Nat} {id : Nat} : btK true H L id = L[id]? := rfl
theorem btK_f {L : List Nat} {id : Nat} : btK false H L id = some (H.length + (id - L.length)) := rfl
def tzB (H : Heap) (L : List Nat) (vs : Option (List AV)) (HL : Option Heap) : Option (List PV × Heap) := vs.bind fun vs => HL.bind fun HL => (mapO (reify HL 4) vs).map fun ps => (ps,kill H L)
def tzA (H : Heap) (vs : List AV) (L : List Nat) : Option (List PV × Heap) := tzB H L (mapO (AV.ren (place L) 3) vs) (pickB H (place L) L)
theorem trees_eq {vs : List AV} : treesOf H vs = tzA H vs (reach H 64 (vs.flatMap AV.refs) []) := by
 unfold treesOf tzA tzB
 simp only [pick_eq]
theorem tzA_eq {vs : List AV} {L : List Nat} : tzA H vs L = tzB H L (mapO (AV.ren (place L) 3) vs) (pickB H (place L) L) := rfl
theorem tzB_some {vs : List AV} {HL : Heap} {L : List Nat} : tzB H L (some vs) (some HL) = (mapO (reify HL 4) vs).map fun ps => (ps,kill H L) := rfl
def killK (H : Heap) (id : Nat) (L : List Nat) (b : Option Blk) : Heap := kill (match b with | some b => H.set id (killB b) | none => H) L
theorem kill_nil : kill H [] = H := rfl
theorem kill_cons {id : Nat} {L : List Nat} : kill H (id :: L) = killK H id L H[id]? := rfl
theorem killK_some {id : Nat} {L : List Nat} {b : Blk} : killK H id L (some b) = kill (H.set id (killB b)) L := rfl
theorem killB_row {f sz xs} : killB (.row f sz xs) = .row true sz xs := rfl
theorem killB_box {cs} : killB (.box cs) = .dead := rfl
theorem killB_dead : killB .dead = .dead := rfl
noncomputable def czC (x : Option (List PV)) (H : Heap) : Option (AV × Heap) := x.map fun rs => (results (rs.map .p),H)
noncomputable def czB (Γ : Ctx) (f : Nat) (q : Option (List PV × Heap)) : Option (AV × Heap) := q.bind fun q => czC (res Γ f q.1) q.2
noncomputable def czA (Γ : Ctx) (H : Heap) (args : List AV) (fc : Option (Nat × List AV)) : Option (AV × Heap) := fc.bind fun fc => czB Γ fc.1 (treesOf H (args ++ fc.2))
theorem czA_some {args : List AV} {f : Nat} {caps : List AV} : czA Γ H args (some (f,caps)) = czB Γ f (treesOf H (args ++ caps)) := rfl
theorem czB_some {f : Nat} {ps : List PV} {h : Heap} : czB Γ f (some (ps,h)) = czC (res Γ f ps) h := rfl
theorem czC_some {rs : List PV} {h : Heap} : czC (some rs) h = some (results (rs.map .p),h) := rfl
theorem L_bslicef {sz ag n zero parts} : WpL Γ (⟨dst,none,.inr (.bslicef sz ag n zero parts)⟩ :: r) env H live Q ↔ opX Γ (bslicefA H sz ag n (fillA (zero.map .p) (parts.map fun q => (q.off,q.sz,Arg.ev Γ (look env) q.arg)))) dst r env live Q := L_of.trans (WpO_x rfl)
def bsfK (sz : Nat) (ag : Bool) (n : Nat) (q : Option (List PV × Heap)) : Option (AV × Heap) := q.bind fun q => ifB (q.1.length == n * sz) (some (.p (.sl .tight sz (chunks sz ag n q.1)),q.2))
theorem L_fbox {x} : WpL Γ (⟨dst,none,.inr (.fbox x)⟩ :: r) env H live Q ↔ opX Γ (fboxA H (Arg.ev Γ (look env) x)) dst r env live Q := L_of.trans (WpO_x rfl)
def fbK (b : Bool) (q : Option (List PV × Heap)) : Option (AV × Heap) := q.bind fun q => ifB (b && !q.1.isEmpty) (some (.p (.ptr q.1),q.2))
theorem fbox_K {v : AV} : fboxA H v = fbK v.ok (treesOf H v.cells) := rfl
theorem fbK_some {b : Bool} {ps : List PV} {h : Heap} : fbK b (some (ps,h)) = ifB (b && !ps.isEmpty) (some (.p (.ptr ps),h)) := rfl
theorem bslf_some {sz ag n} {cs : List AV} : bslicefA H sz ag n (some cs) = bsfK sz ag n (treesOf H cs) := rfl
theorem bsfK_some {sz ag n} {ps : List PV} {h : Heap} : bsfK sz ag n (some (ps,h)) = ifB (ps.length == n * sz) (some (.p (.sl .tight sz (chunks sz ag n ps)),h)) := rfl
end
section
variable {Γ : Ctx} {env : Env} {H : Heap} {live : List Nat} {Q : Out → Prop} {r : List St} {dst : Option Nat}
def pqR (H : Heap) (v : Option AV) : Option (AV × Heap) := v.map fun v => (v,H)
theorem pqR_some {v : AV} : pqR H (some v) = some (v,H) := rfl
theorem L_pq {q : QOp} (h : q.plain = true) : WpL Γ (⟨dst,none,.inr (.pureq q)⟩ :: r) env H live Q ↔ opX Γ (pqR H (evQ Γ noCall (look env) [] q)) dst r env live Q := by
 rw [L_of]
 unfold opX WpO
 have e : ∀ n,evX Γ (callOf Γ (ev Γ n)) (look env) H (.pureq q) = pqR H (evQ Γ noCall (look env) [] q) := fun n => by
  have : evQ Γ (callOf Γ (ev Γ n)) (look env) [] q = evQ Γ noCall (look env) [] q := by cases q <;> first | rfl | cases h
  simp only [evX,this,pqR]
 simp only [e]
 exact ⟨fun ⟨_,h⟩ => h,fun h => ⟨0,h⟩⟩
theorem L_pq_iaddr {sz x i} : WpL Γ (⟨dst,none,.inr (.pureq (.iaddr sz x i))⟩ :: r) env H live Q ↔ opX Γ (pqR H (iaddrA [] sz (Arg.ev Γ (look env) x) (Arg.ev Γ (look env) i))) dst r env live Q := L_pq rfl
theorem L_pq_load {sz ag x} : WpL Γ (⟨dst,none,.inr (.pureq (.load sz ag x))⟩ :: r) env H live Q ↔ opX Γ (pqR H (loadA [] sz ag (Arg.ev Γ (look env) x))) dst r env live Q := L_pq rfl
theorem L_pq_faddr {off x} : WpL Γ (⟨dst,none,.inr (.pureq (.faddr off x))⟩ :: r) env H live Q ↔ opX Γ (pqR H (faddrA [] off (Arg.ev Γ (look env) x))) dst r env live Q := L_pq rfl
attribute [go_sem] pqR_some L_pq_iaddr L_pq_load L_pq_faddr
end
def tdB (_B : Heap) (_L : List Nat) (rs : Option (List AV)) (H : Option Heap) : Option (List AV × Heap) := rs.bind fun rs => H.map fun H => (rs,H)
def tdA (B : Heap) (rs : List AV) (L : List Nat) : Option (List AV × Heap) := tdB B L (mapO (AV.ren (place L) 3) rs) (pickB B (place L) L)
theorem tidy_eq {k : Nat} {rs : List AV} {B : Heap} : tidy k (rs,B) = tdA B rs (reach B 64 (rs.flatMap AV.refs ++ (B.take k).flatMap Blk.refs) (List.range k)) := by
 unfold tidy tdA tdB
 simp only [pick_eq]
theorem tdA_eq {rs : List AV} {B : Heap} {L : List Nat} : tdA B rs L = tdB B L (mapO (AV.ren (place L) 3) rs) (pickB B (place L) L) := rfl
theorem tdB_some {rs : List AV} {B H : Heap} {L : List Nat} : tdB B L (some rs) (some H) = some (rs,H) := rfl
def EndsM (k : Nat) (rvs : List RV) (r : List AV × Heap) : Out → Prop
 | (.ex _,_,_) => False
 | (_,e,h) => optP (mapO (RV.get e h) rvs) fun vs => tidy k (vs,h) = some r
def endM (k : Nat) (vs : Option (List AV)) (h : Heap) (r : List AV × Heap) : Prop := optP vs fun vs => tidy k (vs,h) = some r
theorem endM_some {k vs h r} : endM k (some vs) h r ↔ tidy k (vs,h) = some r := Iff.rfl
theorem EndsM_nrm {k rvs r e h} : EndsM k rvs r (.nrm,e,h) ↔ endM k (mapO (RV.get e h) rvs) h r := Iff.rfl
theorem EndsM_ret {k rvs r e h} : EndsM k rvs r (.ret,e,h) ↔ endM k (mapO (RV.get e h) rvs) h r := Iff.rfl
theorem resM_code {Γ : Ctx} {k f : Nat} {fn : AFn} {args : List AV} {HL : Heap} {r : List AV × Heap} (hf : Γ.fn f = some (.code fn)) (hl : args.length = fn.np)
  (h : Wp Γ fn.body (envFrom 0 args) HL (EndsM k fn.results r)) : resM Γ k f args HL = some r := by
 obtain ⟨n,⟨x,e,hh⟩,h1,h2⟩ := h
 refine resM_of ⟨n,?_⟩
 have fin : (x ≠ .ret → x = .nrm) ∧ ∃ vs,mapO (RV.get e hh) fn.results = some vs ∧ tidy k (vs,hh) = some r := by
  cases x
  ·rw [EndsM,optP_iff] at h2
   exact ⟨fun _ => rfl,h2⟩
   simp
  ·exact h2.elim
  ·rw [EndsM,optP_iff] at h2
   exact ⟨fun h => absurd rfl h,h2⟩
   simp
 obtain ⟨hx,vs,h3,h4⟩ := fin
 refine ⟨(vs,hh),?_,h4⟩
 unfold callOf
 rw [hf,initEnv_eq]
 simp only [hl,if_true,h1]
 cases x
 ·simp only [h3]
 ·simp at hx
 ·simp only [h3]
def EndsK (rvs : List RV) (K : List AV → Heap → Prop) : Out → Prop
 | (.ex _,_,_) => False
 | (_,e,h) => optP (mapO (RV.get e h) rvs) fun vs => K vs h
def endKK (vs : Option (List AV)) (h : Heap) (K : List AV → Heap → Prop) : Prop := optP vs fun vs => K vs h
theorem endKK_some {vs h} {K : List AV → Heap → Prop} : endKK (some vs) h K ↔ K vs h := Iff.rfl
theorem EndsK_nrm {rvs e h} {K : List AV → Heap → Prop} : EndsK rvs K (.nrm,e,h) ↔ endKK (mapO (RV.get e h) rvs) h K := Iff.rfl
theorem EndsK_ret {rvs e h} {K : List AV → Heap → Prop} : EndsK rvs K (.ret,e,h) ↔ endKK (mapO (RV.get e h) rvs) h K := Iff.rfl
attribute [go_sem] endKK_some EndsK_nrm EndsK_ret
theorem callK {Γ : Ctx} {f : Nat} {fn : AFn} {args : List AV} {HL : Heap} {K : List AV → Heap → Prop} (hf : Γ.fn f = some (.code fn)) (hl : args.length = fn.np)
  (h : Wp Γ fn.body (envFrom 0 args) HL (EndsK fn.results K)) : ∃ n vs h,callOf Γ (ev Γ n) f args HL = some (vs,h) ∧ K vs h := by
 obtain ⟨n,⟨x,e,hh⟩,h1,h2⟩ := h
 have fin : (x ≠ .ret → x = .nrm) ∧ ∃ vs,mapO (RV.get e hh) fn.results = some vs ∧ K vs hh := by
  cases x
  ·rw [EndsK,optP_iff] at h2
   exact ⟨fun _ => rfl,h2⟩
   simp
  ·exact h2.elim
  ·rw [EndsK,optP_iff] at h2
   exact ⟨fun h => absurd rfl h,h2⟩
   simp
 obtain ⟨hx,vs,h3,h4⟩ := fin
 refine ⟨n,vs,hh,?_,h4⟩
 unfold callOf
 rw [hf,initEnv_eq]
 simp only [hl,if_true,h1]
 cases x
 ·simp only [h3]
 ·simp at hx
 ·simp only [h3]
theorem isEmpty_nil {α : Type} : ([] : List α).isEmpty = true := rfl
theorem isEmpty_cons {α : Type} {a : α} {l : List α} : (a :: l).isEmpty = false := rfl
theorem range_0 : List.range 0 = [] := rfl
theorem range_1 : List.range 1 = [0] := rfl
theorem range_2 : List.range 2 = [0,1] := rfl
theorem range_3 : List.range 3 = [0,1,2] := rfl
theorem range_4 : List.range 4 = [0,1,2,3] := rfl
theorem range_5 : List.range 5 = [0,1,2,3,4] := rfl
theorem range_6 : List.range 6 = [0,1,2,3,4,5] := rfl
theorem brefs_row {f sz xs} : Blk.refs (.row f sz xs) = [] := rfl
theorem brefs_dead : Blk.refs .dead = [] := rfl
theorem brefs_map {cs : List PV} : Blk.refs (.box (cs.map .p)) = [] := refsAt_map (cs := cs)
theorem brefs_box {cs : List AV} : Blk.refs (.box cs) = cs.flatMap AV.refs := rfl
theorem refsAt_dead : refsAt (some .dead) = [] := rfl
theorem ren_dead {p} : Blk.ren p .dead = some .dead := rfl
theorem flatMap_nil {α β : Type} {f : α → List β} : [].flatMap f = [] := rfl
attribute [go_sem low] brefs_box
attribute [go_sem] L_calls cmA_some cmB_eq cmC_some cmD_some jbB_some resX_some putBack_nil putBack_cons backTo_eq btK_t btK_f trees_eq tzA_eq tzB_some kill_nil kill_cons killK_some killB_row killB_box killB_dead L_fbox fbox_K fbK_some czA_some czB_some czC_some L_bslicef bslf_some bsfK_some tidy_eq tdA_eq tdB_some EndsM_nrm EndsM_ret endM_some isEmpty_nil isEmpty_cons range_0 range_1 range_2 range_3 range_4 range_5 range_6 brefs_row brefs_dead brefs_map refsAt_dead ren_dead List.take_succ_cons List.take_zero List.drop_succ_cons List.drop_zero
end Ab
namespace Ab
open Go (IntKind BinOp UnOp)
def refs2 : AV → List Nat
 | .own id _ | .bx id _ | .el id _ _ _ | .mp id => [id]
 | .agg cs | .tup cs | .clo _ cs => cs.flatMap fun
  | .own id _ | .bx id _ | .el id _ _ _ | .mp id => [id]
  | _ => []
 | _ => []
theorem refs2_p {v} : refs2 (.p v) = [] := rfl
theorem refs2_own {id n} : refs2 (.own id n) = [id] := rfl
theorem refs2_bx {id n} : refs2 (.bx id n) = [id] := rfl
theorem refs2_mp {id} : refs2 (.mp id) = [id] := rfl
theorem refs2_el {id n i o} : refs2 (.el id n i o) = [id] := rfl
attribute [go_sem] refs2_p refs2_own refs2_bx refs2_mp refs2_el
attribute [go_sem] vpv_nil
end Ab
namespace Ab
open Go (IntKind BinOp UnOp)
def mapK (b : Option Blk) : Option (List (PV × AV)) := match b with
 | some (.box (.nov :: .nov :: cs)) => mapIn cs
 | _ => none
theorem flatIn : ∀ (es : List (PV × AV)),mapIn (mapFlat es) = some es
 | [] => rfl
 | (k,v) :: es => by simp [mapFlat,mapIn,flatIn es]
theorem mapK_some {es : List (PV × AV)} : mapK (some (.box (mapCells es))) = some es := flatIn es
def mgK (zero : List PV) (comma : Bool) (m : Option (Option AV)) : Option AV := m.map (mres comma (mkZ zero))
theorem mget_str {H : Heap} {id : Nat} {zero comma} {k : List UInt8} : mgetA H .str zero comma (.mp id) (.p (.str k)) = (mapK H[id]?).bind fun es => mgK zero comma (mfind (.str k) es) := rfl
theorem mgK_some {zero comma} {r : Option AV} : mgK zero comma (some r) = some (mres comma (mkZ zero) r) := rfl
theorem mres_none {z : AV} : mres false z none = z := rfl
theorem mres_some {z v : AV} : mres false z (some v) = v := rfl
theorem mres_noneC {z : AV} : mres true z none = .tup [z,.p (.bool false)] := rfl
theorem mres_someC {z v : AV} : mres true z (some v) = .tup [v,.p (.bool true)] := rfl
theorem mkZ_one {v : PV} : mkZ [v] = .p v := rfl
def msK (H : Heap) (id : Nat) (es' : Option (List (PV × AV))) : Option Heap := es'.map fun es' => H.set id (.box (mapCells es'))
theorem mset_str {H : Heap} {id : Nat} {k : List UInt8} {v : AV} (h : v.ok = true) : msetA H .str (.mp id) (.p (.str k)) v = (mapK H[id]?).bind fun es => msK H id (mput (.str k) v es) := by
 simp only [msetA,keyIs,h,Bool.and_self,ifB]; rfl
theorem msK_some {H : Heap} {id : Nat} {es' : List (PV × AV)} : msK H id (some es') = some (H.set id (.box (mapCells es'))) := rfl
theorem ok_own {id n} : (AV.own id n).ok = true := rfl
theorem ok_p {v} : (AV.p v).ok = true := rfl
def isnilK (neg : Bool) (n : Nat) (b : Option (Nat × List PV)) : Option AV := b.bind fun _ => if 0 < n then some (.p (.bool neg)) else none
theorem isnil_own {H : Heap} {neg id n s l} : isnilA H neg (.own id n) (.p (.sl .nil s l)) = isnilK neg n (rowAt H[id]? n) := by
 simp only [isnilA,rowOf_eq]; rfl
theorem isnilK_pos {neg n} {r : Nat × List PV} (h : 0 < n) : isnilK neg n (some r) = some (.p (.bool neg)) := by
 simp [isnilK,h]
theorem isnil_p {H : Heap} {neg} {v w : PV} : isnilA H neg (.p v) (.p w) = eqkA 4 neg (.p v) (.p w) := by
 unfold isnilA; rfl
def browK (H : Heap) (sz : Nat) (ag : Bool) (n : Nat) (ps : Option (List PV)) : Option (AV × Heap) := ps.bind fun ps => if ps.length = n * sz ∧ n ≤ lim then some (.own H.length n,H ++ [.row false sz (chunks sz ag n ps)]) else none
theorem brow_K {H : Heap} {sz ag n} {cs : List AV} : browA H sz ag n (some cs) = browK H sz ag n (pures cs) := rfl
section
variable {Γ : Ctx} {env : Env} {H : Heap} {live : List Nat} {Q : Out → Prop} {r : List St} {dst : Option Nat}
end
def treeK (q : Option (List PV × Heap)) : Option (AV × Heap) := q.bind fun r => r.1.head?.map fun p => (.p p,r.2)
theorem tree_K {H : Heap} {v : AV} : treeA H v = treeK (treesOf H [v]) := rfl
theorem treeK_some {p : PV} {ps : List PV} {h : Heap} : treeK (some (p :: ps,h)) = some (.p p,h) := rfl
theorem tree_own {H : Heap} {id n f sz xs} (hb : H[id]? = some (.row f sz xs)) (hl : xs.length = n) : treeA H (.own id n) = some (.p (.sl .any sz xs),H.set id (.row true sz xs)) := by
 have e1 : treesOf H [.own id n] = some ([.sl .any sz xs],H.set id (.row true sz xs)) := by
  simp only [treesOf,List.flatMap_cons,List.flatMap_nil,AV.refs,List.append_nil,reach,List.contains_nil,Bool.false_eq_true,if_false,hb,Blk.refs,List.nil_append,mapO,AV.ren,place,if_true,Option.map_some,Option.bind_some,Heap.pick,Blk.ren,reify,rowOf,List.getElem?_cons_zero,hl,kill,killB]
 simp only [treeA,e1,Option.bind_some,List.head?_cons,Option.map_some]
theorem at_last {l : List Blk} {b : Blk} {i : Nat} (h : i = l.length) : (l ++ [b])[i]? = some b := by subst h; exact List.getElem?_concat_length
theorem at_left {l m : List Blk} {i : Nat} (h : i < l.length) : (l ++ m)[i]? = l[i]? := List.getElem?_append_left h
theorem set_last {l : List Blk} {b c : Blk} {i : Nat} (h : i = l.length) : (l ++ [b]).set i c = l ++ [c] := by
 subst h
 rw [List.set_append_right _ _ (Nat.le_refl _),Nat.sub_self]; rfl
attribute [go_sem] mapK_some mget_str mgK_some mres_none mres_some mres_noneC mres_someC mkZ_one mset_str msK_some ok_own ok_p isnil_own isnilK_pos isnil_p brow_K tree_K treeK_some
end Ab
namespace Ab
section
variable {Γ : Ctx} {env : Env} {H : Heap} {live : List Nat} {Q : Out → Prop} {r : List St} {dst : Option Nat}
theorem L_pq_nilchk {x} : WpL Γ (⟨dst,none,.inr (.pureq (.nilchk x))⟩ :: r) env H live Q ↔ opX Γ (pqR H (nilchkA [] (Arg.ev Γ (look env) x))) dst r env live Q := L_pq rfl
theorem loadk_bx {sz ag id off o'} : loadkA H sz ag (.bx id off) (.bx id o') = loadA H sz ag (.bx id off) := if_pos rfl
theorem storek_bx {sz id off v ks} : storekA H sz (.bx id off) v ks = ifB (keptA H [id] ks) (storeA H sz (.bx id off) v) := rfl
theorem kept_nil {L} : keptA H L [] = true := rfl
theorem kept_bx {L id o ks} : keptA H L (.bx id o :: ks) = (decide (id < H.length) && !L.contains id && keptA H L ks) := rfl
def kpK (H : Heap) (args ks : List AV) : Option (Nat × List AV) → Bool
 | some fc => keptA H (reach H 64 ((args ++ fc.2).flatMap AV.refs) []) ks
 | none => false
theorem kpK_some {f caps args ks} : kpK H args ks (some (f,caps)) = keptA H (reach H 64 ((args ++ caps).flatMap AV.refs) []) ks := rfl
end
attribute [go_sem] L_pq_nilchk loadk_bx storek_bx kept_nil kept_bx kpK_some L_loadk
end Ab
namespace Ab
open Go (IntKind BinOp UnOp)
def RunW (Γ : Ctx) (f : Nat) (as : List AV) (H : Heap) (r : List AV × Heap) : Prop := ∃ n,callOf Γ (ev Γ n) f as H = some r
theorem RunW_det {Γ : Ctx} {f : Nat} {as : List AV} {H : Heap} {r r' : List AV × Heap} (h : RunW Γ f as H r) (h' : RunW Γ f as H r') : r = r' := by
 obtain ⟨n,h1⟩ := h
 obtain ⟨m,h3⟩ := h'
 have e1 := call_le (Nat.le_max_left n m) _ _ _ _ h1
 have e2 := call_le (Nat.le_max_right n m) _ _ _ _ h3
 rw [e1] at e2
 cases e2
 rfl
open Classical in
noncomputable def resW (Γ : Ctx) (f : Nat) (as : List AV) (H : Heap) : Option (List AV × Heap) := if h : ∃ r,RunW Γ f as H r then some h.choose else none
theorem resW_of {Γ f as H r} (h : RunW Γ f as H r) : resW Γ f as H = some r := by
 have h' : ∃ r,RunW Γ f as H r := ⟨_,h⟩
 unfold resW
 rw [dif_pos h']
 exact congrArg some (RunW_det h'.choose_spec h)
theorem of_resW {Γ f as H r} (h : resW Γ f as H = some r) : RunW Γ f as H r := by
 unfold resW at h
 split at h
 ·rename_i h'
  cases h
  exact h'.choose_spec
 ·cases h
section
variable {Γ : Ctx} {env : Env} {H : Heap} {live : List Nat} {Q : Out → Prop} {r : List St} {dst : Option Nat}
noncomputable def cwA (Γ : Ctx) (H : Heap) (args : List AV) (fc : Option (Nat × List AV)) : Option (List AV × Heap) := fc.bind fun fc => ifB (stillW Γ fc.1) (resW Γ fc.1 (args ++ fc.2) H)
theorem L_callw {f args} : WpL Γ (⟨dst,none,.inr (.callw f args)⟩ :: r) env H live Q ↔ opX Γ (resX (cwA Γ H (args.map (Arg.ev Γ (look env))) (callee (Arg.ev Γ (look env) f)))) dst r env live Q := by
 rw [L_of]
 unfold opX WpO
 constructor
 ·rintro ⟨n,h⟩
  dsimp only at h
  rw [optP_iff] at h ⊢
  obtain ⟨v,h1,h2⟩ := h
  simp only [evX,callW,Option.map_eq_some_iff,Option.bind_eq_some_iff,ifB_some] at h1
  obtain ⟨rr,⟨fc,hfc,hst,hcr⟩,rfl⟩ := h1
  refine ⟨_,?_,h2⟩
  simp only [resX,cwA,hfc,Option.bind_some,hst,ifB,resW_of ⟨n,hcr⟩,Option.map_some]
 ·intro h
  rw [optP_iff] at h
  obtain ⟨v,h1,h2⟩ := h
  simp only [resX,cwA,Option.map_eq_some_iff,Option.bind_eq_some_iff,ifB_some] at h1
  obtain ⟨rr,⟨fc,hfc,hst,hres⟩,rfl⟩ := h1
  obtain ⟨n,hcr⟩ := of_resW hres
  refine ⟨n,?_⟩
  simp only [evX,callW,hfc,Option.bind_some,hst,hcr,Option.map_some,ifB]
  exact h2
theorem cwA_some {args : List AV} {f : Nat} {caps : List AV} : cwA Γ H args (some (f,caps)) = ifB (stillW Γ f) (resW Γ f (args ++ caps) H) := rfl
end
theorem resW_ex {Γ : Ctx} {f : Nat} {fn : AFn} {args : List AV} {H : Heap} {K : List AV → Heap → Prop} (hf : Γ.fn f = some (.code fn)) (hl : args.length = fn.np)
  (h : Wp Γ fn.body (envFrom 0 args) H (EndsK fn.results K)) : ∃ rs H',resW Γ f args H = some (rs,H') ∧ K rs H' := by
 obtain ⟨n,vs,h',hc,hk⟩ := callK hf hl h
 exact ⟨vs,h',resW_of ⟨n,hc⟩,hk⟩
section
variable {Γ : Ctx} {env : Env} {H : Heap} {live : List Nat} {Q : Out → Prop} {r : List St} {dst : Option Nat}
def kwA (H : Heap) (ks : List AV) (r : Option (List AV × Heap)) : Option (List AV × Heap) := r.bind fun r => ifB (keepW H r.2 ks) (some r)
theorem kwA_some {ks : List AV} {rs : List AV} {H' : Heap} : kwA H ks (some (rs,H')) = ifB (keepW H H' ks) (some (rs,H')) := rfl
theorem keepW_one {H' : Heap} {id o : Nat} : keepW H H' [.bx id o] = keepOne H H' id := by simp [keepW]
theorem L_callwk {f args ks} : WpL Γ (⟨dst,none,.inr (.callwk f args ks)⟩ :: r) env H live Q ↔ opX Γ (resX (kwA H (ks.map (Arg.ev Γ (look env))) (cwA Γ H (args.map (Arg.ev Γ (look env))) (callee (Arg.ev Γ (look env) f))))) dst r env live Q := by
 rw [L_of]
 unfold opX WpO
 constructor
 ·rintro ⟨n,h⟩
  dsimp only at h
  rw [optP_iff] at h ⊢
  obtain ⟨v,h1,h2⟩ := h
  simp only [evX,callwkA,callW,Option.map_eq_some_iff,Option.bind_eq_some_iff,ifB_some] at h1
  obtain ⟨rr,⟨r',⟨fc,hfc,hst,hcr⟩,hk,e⟩,rfl⟩ := h1
  cases e
  refine ⟨_,?_,h2⟩
  simp only [resX,kwA,cwA,hfc,Option.bind_some,hst,ifB,resW_of ⟨n,hcr⟩,hk,Option.map_some]
 ·intro h
  rw [optP_iff] at h
  obtain ⟨v,h1,h2⟩ := h
  simp only [resX,kwA,cwA,Option.map_eq_some_iff,Option.bind_eq_some_iff,ifB_some] at h1
  obtain ⟨rr,⟨r',⟨fc,hfc,hst,hres⟩,hk,e⟩,rfl⟩ := h1
  cases e
  obtain ⟨n,hcr⟩ := of_resW hres
  refine ⟨n,?_⟩
  simp only [evX,callwkA,callW,hfc,Option.bind_some,hst,hcr,Option.map_some,ifB,hk]
  exact h2
end
section
variable {Γ : Ctx} {env : Env} {H : Heap} {live : List Nat} {Q : Out → Prop} {r : List St} {dst : Option Nat}
def apT (r : Option (AV × Heap)) : Option (AV × Heap) := r.bind fun r => treeA r.2 r.1
theorem apT_some {v : AV} {H' : Heap} : apT (some (v,H')) = treeA H' v := rfl
def apE (H : Heap) (sz : Nat) (x : AV) (o : Option (List PV)) : Option (AV × Heap) := o.bind fun ys => appendA H sz x ys
theorem apE_some {sz : Nat} {x : AV} {ys : List PV} : apE H sz x (some ys) = appendA H sz x ys := rfl
theorem boxes_nil : boxesAt H [] = true := rfl
theorem boxes_one {id o : Nat} {cs : List AV} {ks : List AV} (h : H[id]? = some (.box cs)) : boxesAt H (.bx id o :: ks) = boxesAt H ks := by simp [boxesAt,h]
theorem L_appt {sz x y} : WpL Γ (⟨dst,none,.inr (.appt sz x y)⟩ :: r) env H live Q ↔ opX Γ (apT (apE H sz (Arg.ev Γ (look env) x) (elemsOf H sz (Arg.ev Γ (look env) y)))) dst r env live Q := by
 rw [L_of]
 exact WpO_x rfl
theorem L_appk {sz x y ks} : WpL Γ (⟨dst,none,.inr (.appk sz x y ks)⟩ :: r) env H live Q ↔ opX Γ (ifB (boxesAt H (ks.map (Arg.ev Γ (look env)))) (apE H sz (Arg.ev Γ (look env) x) (elemsOf H sz (Arg.ev Γ (look env) y)))) dst r env live Q := by
 rw [L_of]
 exact WpO_x rfl
end
attribute [go_sem] L_appt L_appk apT_some apE_some boxes_nil boxes_one
attribute [go_sem] L_callw cwA_some L_callwk kwA_some keepW_one L_lenk
end Ab
