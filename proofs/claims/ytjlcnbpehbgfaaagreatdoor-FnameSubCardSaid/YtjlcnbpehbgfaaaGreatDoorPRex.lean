import Derived.Test.YtjlcnbpehbgfaaaGreatDoorAbRel
import Derived.Test.YtjlcnbpehbgfaaaGreatDoorLRen
import Derived.Test.YtjlcnbpehbgfaaaGreatDoorLStr
import Derived.Test.YtjlcnbpehbgfaaaGreatDoorCode
import Derived.WalkKit
namespace Ab
open Go (IntKind BinOp UnOp)
def serC (x : SK × Ser) : List PV := [.str x.2.name,.int .i64 x.2.start,.int .i64 x.2.step,.sl x.1 2 (vpv x.2.vals),.int .i64 x.2.cons]
def sers (l : List (SK × Ser)) : List PV := l.map fun x => .agg (serC x)
theorem sers_nil : sers [] = [] := rfl
attribute [go_sem] sers_nil
end Ab
namespace Ab
open Go (IntKind BinOp UnOp World Value Addr Obj undef maxLen Program TypeId)
structure ValT (P : Program) (te ti tb : TypeId) : Prop where
 int : P.underlying ti = some (.int .i64)
 v : structIs P te [tb,ti] = true
 bool : P.underlying tb = some .bool
 cells : P.cellsOf te = 2
end Ab
namespace Ab
open Go (IntKind BinOp UnOp)
def mapK (b : Option Blk) : Option (List (PV × AV)) := match b with
 | some (.box (.nov :: .nov :: cs)) => mapIn cs
 | _ => none
theorem flatIn : ∀ (es : List (PV × AV)),mapIn (mapFlat es) = some es
 | [] => rfl
 | (k,v) :: es => by simp [mapFlat,mapIn,flatIn es]
theorem mapK_some {es : List (PV × AV)} : mapK (some (.box (mapCells es))) = some es := flatIn es
def mgK (zero : List PV) (comma : Bool) (m : Option (Option AV)) : Option AV := m.map (mres comma (mkZ zero))
theorem mget_str {H : Heap} {id : Nat} {zero comma} {k : List UInt8} : mgetA H .str zero comma (.mp id) (.p (.str k)) = (mapK H[id]?).bind fun es => mgK zero comma (mfind (.str k) es) := rfl
theorem mget_int {H : Heap} {id : Nat} {zero comma} {ki : IntKind} {k : Int} : mgetA H (.int ki) zero comma (.mp id) (.p (.int ki k)) = (mapK H[id]?).bind fun es => mgK zero comma (mfind (.int ki k) es) := by
 simp only [mgetA,keyIs,decide_true,ifB]; rfl
theorem mgK_some {zero comma} {r : Option AV} : mgK zero comma (some r) = some (mres comma (mkZ zero) r) := rfl
theorem mres_none {z : AV} : mres false z none = z := rfl
theorem mres_some {z v : AV} : mres false z (some v) = v := rfl
theorem mres_noneC {z : AV} : mres true z none = .tup [z,.p (.bool false)] := rfl
theorem mres_someC {z v : AV} : mres true z (some v) = .tup [v,.p (.bool true)] := rfl
theorem mkZ_one {v : PV} : mkZ [v] = .p v := rfl
def msK (H : Heap) (id : Nat) (es' : Option (List (PV × AV))) : Option Heap := es'.map fun es' => H.set id (.box (mapCells es'))
theorem mset_int {H : Heap} {id : Nat} {ki : IntKind} {k : Int} {v : AV} (h : v.ok = true) : msetA H (.int ki) (.mp id) (.p (.int ki k)) v = (mapK H[id]?).bind fun es => msK H id (mput (.int ki k) v es) := by
 simp only [msetA,keyIs,decide_true,h,Bool.and_self,ifB]; rfl
theorem msK_some {H : Heap} {id : Nat} {es' : List (PV × AV)} : msK H id (some es') = some (H.set id (.box (mapCells es'))) := rfl
theorem ok_own {id n} : (AV.own id n).ok = true := rfl
theorem ok_p {v} : (AV.p v).ok = true := rfl
def browK (H : Heap) (sz : Nat) (ag : Bool) (n : Nat) (ps : Option (List PV)) : Option (AV × Heap) := ps.bind fun ps => if ps.length = n * sz ∧ n ≤ lim then some (.own H.length n,H ++ [.row false sz (chunks sz ag n ps)]) else none
theorem brow_K {H : Heap} {sz ag n} {cs : List AV} : browA H sz ag n (some cs) = browK H sz ag n (pures cs) := rfl
theorem browK_pos {H : Heap} {sz ag n} {ps : List PV} (h : ps.length = n * sz) (h' : n ≤ 1073741824) : browK H sz ag n (some ps) = some (.own H.length n,H ++ [.row false sz (chunks sz ag n ps)]) := by
 simp only [browK,Option.bind_some]
 rw [if_pos ⟨h,h'⟩]
section
variable {Γ : Ctx} {env : Env} {H : Heap} {live : List Nat} {Q : Out → Prop} {r : List St} {dst : Option Nat}
theorem L_treeq {q : QOp} (h : q.plain = true) : WpL Γ (⟨dst,none,.inr (.treeq q)⟩ :: r) env H live Q ↔ opX Γ ((evQ Γ noCall (look env) H q).bind fun v => treeA H v) dst r env live Q := by
 rw [L_of]
 unfold opX WpO
 have e : ∀ n,evX Γ (callOf Γ (ev Γ n)) (look env) H (.treeq q) = (evQ Γ noCall (look env) H q).bind fun v => treeA H v := fun n => by
  have : evQ Γ (callOf Γ (ev Γ n)) (look env) H q = evQ Γ noCall (look env) H q := by cases q <;> first | rfl | cases h
  simp only [evX,this]
 simp only [e]
 exact ⟨fun ⟨_,h⟩ => h,fun h => ⟨0,h⟩⟩
theorem L_tree_mov {x} : WpL Γ (⟨dst,none,.inr (.treeq (.mov x))⟩ :: r) env H live Q ↔ opX Γ (treeA H (Arg.ev Γ (look env) x)) dst r env live Q := L_treeq rfl
end
def treeK (q : Option (List PV × Heap)) : Option (AV × Heap) := q.bind fun r => r.1.head?.map fun p => (.p p,r.2)
theorem tree_K {H : Heap} {v : AV} : treeA H v = treeK (treesOf H [v]) := rfl
theorem treeK_some {p : PV} {ps : List PV} {h : Heap} : treeK (some (p :: ps,h)) = some (.p p,h) := rfl
theorem at_last {l : List Blk} {b : Blk} {i : Nat} (h : i = l.length) : (l ++ [b])[i]? = some b := by subst h; exact List.getElem?_concat_length
theorem set_last {l : List Blk} {b c : Blk} {i : Nat} (h : i = l.length) : (l ++ [b]).set i c = l ++ [c] := by
 subst h
 rw [List.set_append_right _ _ (Nat.le_refl _),Nat.sub_self]; rfl
attribute [go_sem] mapK_some mget_str mget_int mgK_some mres_none mres_some mres_noneC mres_someC mkZ_one mset_int msK_some ok_own ok_p brow_K browK_pos L_tree_mov tree_K treeK_some
end Ab
namespace Ab
def fillT (l : List Bool) (c : Nat) : Nat → List Bool
 | 0 => l
 | n + 1 => fillT (l.set c true) (c + 1) n
theorem fillT_len : ∀ {n c : Nat} {l : List Bool},(fillT l c n).length = l.length
 | 0,_,_ => rfl
 | n + 1,c,l => by simp only [fillT]; rw [fillT_len,List.length_set]
def notL (l : List Bool) : List Bool := l.map (!·)
def withL (l o : List Bool) : List Bool := List.zipWith (· || ·) l o
def noneL : List Bool := List.replicate 256 false
def oneL (c : Nat) : List Bool := noneL.set c true
theorem noneL_len : noneL.length = 256 := List.length_replicate
theorem oneL_len {c : Nat} : (oneL c).length = 256 := by rw [oneL,List.length_set,noneL_len]
def runAt (l : List Bool) (c : Nat) : List Int :=
 (if (l.getD c false && (decide (c = 0) || !l.getD (c - 1) false)) = true then [(c : Int)] else []) ++ (if (l.getD c false && (decide (c = 255) || !l.getD (c + 1) false)) = true then [(c : Int)] else [])
def runsL (l : List Bool) (n : Nat) : List Int := (List.range n).flatMap (runAt l)
theorem runsL_succ {l : List Bool} {n : Nat} : runsL l (n + 1) = runsL l n ++ runAt l n := by
 simp [runsL,List.range_succ,List.flatMap_append]
theorem runAt_len {l : List Bool} {c : Nat} : (runAt l c).length ≤ 2 := by
 unfold runAt
 rw [List.length_append]
 split <;> split <;> simp
theorem runsL_len {l : List Bool} : ∀ {n : Nat},(runsL l n).length ≤ 2 * n
 | 0 => by simp [runsL]
 | n + 1 => by
  have := @runsL_len l n
  have := @runAt_len l n
  rw [runsL_succ,List.length_append]; omega
def pairsB (l : List Bool) : List UInt8 := (runsL l 256).map fun i => UInt8.ofNat i.toNat
end Ab
namespace Ab
def wordN (c : Nat) : Bool := (decide (97 ≤ c) && decide (c ≤ 122)) || (decide (65 ≤ c) && decide (c ≤ 90)) || (decide (48 ≤ c) && decide (c ≤ 57))
def sixB (c : Nat) : Bool := c == 100 || c == 68 || c == 119 || c == 87 || c == 115 || c == 83
def inSix (c b : Nat) : Bool := if c = 100 ∨ c = 68 then decide (48 ≤ b) && decide (b ≤ 57) else if c = 119 ∨ c = 87 then wordN b || decide (b = 95) else (decide (9 ≤ b) && decide (b ≤ 13)) || decide (b = 32)
def sixL (c : Nat) : List Bool := (List.range 256).map fun b => inSix c b == decide (97 ≤ c)
theorem sixL_len {c : Nat} : (sixL c).length = 256 := by simp [sixL]
theorem sixL_get {c b : Nat} (h : b < 256) : (sixL c).getD b false = (inSix c b == decide (97 ≤ c)) := by
 simp [sixL,List.getD_eq_getElem?_getD,h]
theorem six_d : fillT noneL 48 10 = sixL 100 := by decide +kernel
theorem six_D : notL (fillT noneL 48 10) = sixL 68 := by decide +kernel
theorem six_w : fillT (fillT (fillT (fillT noneL 48 10) 97 26) 65 26) 95 1 = sixL 119 := by decide +kernel
theorem six_W : notL (fillT (fillT (fillT (fillT noneL 48 10) 97 26) 65 26) 95 1) = sixL 87 := by decide +kernel
theorem six_s : fillT (fillT noneL 9 5) 32 1 = sixL 115 := by decide +kernel
theorem six_S : notL (fillT (fillT noneL 9 5) 32 1) = sixL 83 := by decide +kernel
theorem withL_len {l o : List Bool} (h : l.length = o.length) : (withL l o).length = l.length := by simp [withL,h]
end Ab
namespace Ab
open Go (IntKind BinOp UnOp)
abbrev setB (l : List Bool) : Blk := .box ((bools l).map .p)
abbrev setP (l : List Bool) : PV := .agg (bools l)
theorem take_boolsA {l : List Bool} {i : Nat} (h : i < l.length) : takeA 1 false (((bools l).map AV.p).drop i) = some (.p (.bool (l.getD i false))) := by
 rw [← List.map_drop]
 simp [takeA,bools,List.head?_drop,List.getElem?_eq_getElem h]
theorem rep_none : zero256 = bools noneL := by
 unfold zero256 bools noneL
 rw [List.map_replicate]
attribute [go_sem] take_boolsA rep_none
theorem adds_l1_ok (b : Nat) (hb : b < 256) (Q : Out → Prop) : ∀ (n : Nat) (l : List Bool),l.length = 256 → ∀ (c : Nat),c + n = b + 1 → Q (.nrm,[],[setB (fillT l c n)]) → 
  Wp Γ rex_set_adds_l1 [(0,.bx 0 0),(2,.p (.int .u8 (b : Int))),(6,.p (.int .i64 (c : Int)))] [setB l] (InBlk [] 0 Q) := by
 intro n
 induction n with
 | zero =>
  intro l hl c hc hQ
  rw [W_loop (L := rex_set_adds_l1) rfl]
  simp (disch := first | assumption | omega | decide | (simp only [lens] <;> omega) | fail) only [go_sem]
  exact hQ
 | succ n ih =>
  intro l hl c hc hQ
  have ih := ih (l.set c true) (by rw [List.length_set]; exact hl) (c + 1) (by omega) hQ
  rw [W_loop (L := rex_set_adds_l1) rfl]
  simp (disch := first | assumption | omega | decide | (simp only [lens] <;> omega) | fail) only [go_sem]
  exact ih
theorem resM_adds (l : List Bool) (hl : l.length = 256) (a b : Nat) (ha : a ≤ b) (hb : b < 256) : resM Γ 1 380 [.bx 0 0,.p (.int .u8 (a : Int)),.p (.int .u8 (b : Int))] [setB l] = some ([],[setB (fillT l a (b + 1 - a))]) := by
 refine resM_code (fn := rex_set_adds) rfl rfl ?_
 simp (disch := first | assumption | omega | decide | (simp only [lens] <;> omega) | fail) only [go_sem,rex_set_adds]
 refine adds_l1_ok b hb _ (b + 1 - a) l hl a (by omega) ?_
 simp (disch := first | assumption | omega | decide | (simp only [lens] <;> omega) | fail) only [go_sem]
theorem not_set {l : List Bool} {c : Nat} (h : c < l.length) : (notL (l.take c) ++ l.drop c).set c (!(l.getD c false)) = notL (l.take (c + 1)) ++ l.drop (c + 1) := by
 have e1 : (notL (l.take c)).length = c := by simp [notL]; omega
 have e2 : notL (l.take (c + 1)) = notL (l.take c) ++ [!(l.getD c false)] := by
  unfold notL
  rw [List.take_succ_eq_append_getElem h,List.map_append,List.getD_eq_getElem?_getD,List.getElem?_eq_getElem h]; rfl
 rw [List.set_append_right _ _ (by omega),e1,Nat.sub_self,List.drop_eq_getElem_cons h,List.set_cons_zero,e2,List.append_assoc]
 rfl
theorem not_get {l : List Bool} {c : Nat} (h : c < l.length) : (notL (l.take c) ++ l.drop c).getD c false = l.getD c false := by
 have e1 : (notL (l.take c)).length = c := by simp [notL]; omega
 rw [List.getD_eq_getElem?_getD,List.getElem?_append_right (by omega),e1,Nat.sub_self,List.getElem?_drop,Nat.add_zero,List.getD_eq_getElem?_getD]
theorem not_l1_ok (l : List Bool) (hl : l.length = 256) (R : Blk) (Q : Out → Prop) (hQ : Q (.nrm,[(1,.bx 0 0),(2,.bx 1 0)],[setB (notL l),R])) : ∀ (n c : Nat),c + n = 256 →
  Wp Γ rex_set_not_l1 [(1,.bx 0 0),(2,.bx 1 0),(4,.p (.int .i64 (c : Int)))] [setB (notL (l.take c) ++ l.drop c),R] (InBlk [1,2] 0 Q) := by
 intro n
 induction n with
 | zero =>
  intro c hc
  obtain rfl : c = 256 := by omega
  rw [← hl,List.take_length,List.drop_length,List.append_nil]
  rw [W_loop (L := rex_set_not_l1) rfl]
  simp (disch := first | assumption | omega | decide | (simp only [lens] <;> omega) | fail) only [go_sem]
  exact hQ
 | succ n ih =>
  intro c hc
  have ih := ih (c + 1) (by omega)
  have e1 := @not_set l c (by omega)
  have e2 := @not_get l c (by omega)
  rw [← e1] at ih
  have hlen : (notL (l.take c) ++ l.drop c).length = 256 := by simp [notL]; omega
  generalize notL (l.take c) ++ l.drop c = m at *
  rw [W_loop (L := rex_set_not_l1) rfl]
  simp (disch := first | assumption | omega | decide | (simp only [lens] <;> omega) | fail) only [go_sem,e2]
  exact ih
theorem res_not (l : List Bool) (hl : l.length = 256) : res Γ 371 [setP l] = some [setP (notL l)] := by
 have hn : (bools (notL l)).length = 256 := by simp [notL,hl,bools]
 have hz : (bools noneL).length = 256 := by rw [bools_len,noneL_len]
 refine res_code (fn := rex_set_not) rfl rfl ?_
 simp (disch := first | assumption | omega | decide | (simp only [lens] <;> omega) | fail) only [go_sem,rex_set_not]
 refine not_l1_ok l hl _ _ ?_ 256 0 (by omega)
 simp (disch := first | assumption | omega | decide | (simp only [lens] <;> omega) | fail) only [go_sem]
theorem runAt_eq (l : List Bool) (c : Nat) : runAt l c = (if (l.getD c false && (decide (c = 0) || !l.getD (c - 1) false)) = true then [(c : Int)] else []) ++ (if (l.getD c false && (decide (c = 255) || !l.getD (c + 1) false)) = true then [(c : Int)] else []) := rfl
theorem bytesIn_ints : ∀ {xs : List Int},(∀ x ∈ xs,0 ≤ x ∧ x ≤ 255) → bytesIn (ints .u8 xs) = some (xs.map fun i => UInt8.ofNat i.toNat)
 | [],_ => rfl
 | x :: xs,h => by
  have ih := bytesIn_ints (xs := xs) (fun y hy => h y (by simp [hy]))
  simp only [ints,List.map_cons,bytesIn] at ih ⊢
  rw [ih]; rfl
theorem runAt_mem {l : List Bool} {c : Nat} : ∀ x ∈ runAt l c,x = (c : Int) := by
 intro x hx
 unfold runAt at hx
 rcases List.mem_append.1 hx with h | h <;> split at h <;> simp at h <;> exact h
theorem pairs_bytes (l : List Bool) : bytesIn (ints .u8 (runsL l 256)) = some (pairsB l) := by
 refine bytesIn_ints fun x hx => ?_
 obtain ⟨c,hc,hx⟩ := List.mem_flatMap.1 hx
 have := runAt_mem x hx
 have := List.mem_range.1 hc
 omega
theorem rex_set_pairs_l1_ok (Q : Out → Prop) (l : List Bool) (hl : l.length = 256) (hQ : Q (.nrm,[(3,.own 1 (runsL l 256).length)],[setB l,.row false 1 (ints .u8 (runsL l 256))])) : ∀ (n c : Nat),c + n = 256 →
  Wp Γ rex_set_pairs_l1 [(1,.bx 0 0),(3,.own 1 (runsL l c).length),(5,.p (.int .i64 (c : Int)))] [setB l,.row false 1 (ints .u8 (runsL l c))] (InBlk [3] 0 Q) := by
 intro n
 induction n with
 | zero =>
  intro c hc
  obtain rfl : c = 256 := by omega
  rw [W_loop (L := rex_set_pairs_l1) rfl]
  simp (disch := first | assumption | omega | decide | (simp only [lens] <;> omega) | fail) only [go_sem]
  exact hQ
 | succ n ih =>
  intro c hc
  have ih := ih (c + 1) (by omega)
  have hr := @runsL_len l c
  have e := @runAt_eq l c
  have s1 : ((c : Int) - 1).toNat = c - 1 := by omega
  have s2 : ((c : Int) + 1).toNat = c + 1 := by omega
  rw [runsL_succ] at ih
  generalize runsL l c = r at *
  generalize runAt l c = q at *
  cases h1 : l.getD c false
  ·rw [h1] at e
   simp only [Bool.false_and,Bool.false_eq_true,if_false,List.append_nil] at e
   subst e
   rw [List.append_nil] at ih
   rw [W_loop (L := rex_set_pairs_l1) rfl]
   simp (disch := first | assumption | omega | decide | (simp only [lens] <;> omega) | fail) only [go_sem,h1]
   exact ih
  ·by_cases c0 : c = 0
   ·cases h3 : l.getD (c + 1) false
    ·rw [h1,h3,decide_eq_true c0] at e
     simp only [Bool.true_and,Bool.true_or,Bool.not_false,Bool.or_true,if_true,List.cons_append,List.nil_append] at e
     subst e
     rw [List.length_append] at ih
     rw [W_loop (L := rex_set_pairs_l1) rfl]
     simp (disch := first | assumption | omega | decide | (simp only [lens] <;> omega) | fail) only [go_sem,h1,h3,s2]
     exact ih
    ·rw [h1,h3,decide_eq_true c0,decide_eq_false (show ¬ c = 255 by omega)] at e
     simp only [Bool.true_and,Bool.true_or,Bool.not_true,Bool.or_false,Bool.false_eq_true,if_true,if_false,List.append_nil] at e
     subst e
     rw [List.length_append] at ih
     rw [W_loop (L := rex_set_pairs_l1) rfl]
     simp (disch := first | assumption | omega | decide | (simp only [lens] <;> omega) | fail) only [go_sem,h1,h3,s2]
     exact ih
   ·by_cases c5 : c = 255
    ·cases h2 : l.getD (c - 1) false
     ·rw [h1,h2,decide_eq_false c0,decide_eq_true c5] at e
      simp only [Bool.true_and,Bool.true_or,Bool.not_false,Bool.or_true,if_true,List.cons_append,List.nil_append] at e
      subst e
      rw [List.length_append] at ih
      rw [W_loop (L := rex_set_pairs_l1) rfl]
      simp (disch := first | assumption | omega | decide | (simp only [lens] <;> omega) | fail) only [go_sem,h1,h2,s1]
      exact ih
     ·rw [h1,h2,decide_eq_false c0,decide_eq_true c5] at e
      simp only [Bool.true_and,Bool.true_or,Bool.not_true,Bool.or_false,Bool.false_eq_true,if_true,if_false,List.nil_append] at e
      subst e
      rw [List.length_append] at ih
      rw [W_loop (L := rex_set_pairs_l1) rfl]
      simp (disch := first | assumption | omega | decide | (simp only [lens] <;> omega) | fail) only [go_sem,h1,h2,s1]
      exact ih
    ·rw [h1,decide_eq_false c0,decide_eq_false c5] at e
     simp only [Bool.true_and,Bool.false_or] at e
     cases h2 : l.getD (c - 1) false <;> cases h3 : l.getD (c + 1) false <;> rw [h2,h3] at e <;> simp only [Bool.not_true,Bool.not_false,Bool.false_eq_true,if_true,if_false,List.nil_append,List.append_nil,List.cons_append] at e <;> subst e
     ·rw [List.length_append] at ih
      rw [W_loop (L := rex_set_pairs_l1) rfl]
      simp (disch := first | assumption | omega | decide | (simp only [lens] <;> omega) | fail) only [go_sem,h1,h2,h3,s1,s2]
      exact ih
     ·rw [List.length_append] at ih
      rw [W_loop (L := rex_set_pairs_l1) rfl]
      simp (disch := first | assumption | omega | decide | (simp only [lens] <;> omega) | fail) only [go_sem,h1,h2,h3,s1,s2]
      exact ih
     ·rw [List.length_append] at ih
      rw [W_loop (L := rex_set_pairs_l1) rfl]
      simp (disch := first | assumption | omega | decide | (simp only [lens] <;> omega) | fail) only [go_sem,h1,h2,h3,s1,s2]
      exact ih
     ·rw [List.append_nil] at ih
      rw [W_loop (L := rex_set_pairs_l1) rfl]
      simp (disch := first | assumption | omega | decide | (simp only [lens] <;> omega) | fail) only [go_sem,h1,h2,h3,s1,s2]
      exact ih
theorem res_rex_set_pairs (l : List Bool) (hl : l.length = 256) : res Γ 369 [setP l] = some [.str (pairsB l)] := by
 have hb := pairs_bytes l
 have hr := @runsL_len l 256
 refine res_code (fn := rex_set_pairs) rfl rfl ?_
 simp (disch := first | assumption | omega | decide | (simp only [lens] <;> omega) | fail) only [go_sem,rex_set_pairs]
 refine rex_set_pairs_l1_ok _ l hl ?_ 256 0 (by omega)
 simp (disch := first | assumption | omega | decide | (simp only [lens] <;> omega) | fail) only [go_sem,strOfA,hb]
theorem r11_pairs_l1_ok (Q : Out → Prop) (l : List Bool) (hl : l.length = 256) (hQ : Q (.nrm,[(3,.own 1 (runsL l 256).length)],[setB l,.row false 1 (ints .u8 (runsL l 256))])) : ∀ (n c : Nat),c + n = 256 →
  Wp Γ r11_pairs_l1 [(1,.bx 0 0),(3,.own 1 (runsL l c).length),(4,.p (.int .i64 (c : Int)))] [setB l,.row false 1 (ints .u8 (runsL l c))] (InBlk [3] 0 Q) := by
 intro n
 induction n with
 | zero =>
  intro c hc
  obtain rfl : c = 256 := by omega
  rw [W_loop (L := r11_pairs_l1) rfl]
  simp (disch := first | assumption | omega | decide | (simp only [lens] <;> omega) | fail) only [go_sem]
  exact hQ
 | succ n ih =>
  intro c hc
  have ih := ih (c + 1) (by omega)
  have hr := @runsL_len l c
  have e := @runAt_eq l c
  have s1 : ((c : Int) - 1).toNat = c - 1 := by omega
  have s2 : ((c : Int) + 1).toNat = c + 1 := by omega
  rw [runsL_succ] at ih
  generalize runsL l c = r at *
  generalize runAt l c = q at *
  cases h1 : l.getD c false
  ·rw [h1] at e
   simp only [Bool.false_and,Bool.false_eq_true,if_false,List.append_nil] at e
   subst e
   rw [List.append_nil] at ih
   rw [W_loop (L := r11_pairs_l1) rfl]
   simp (disch := first | assumption | omega | decide | (simp only [lens] <;> omega) | fail) only [go_sem,h1]
   exact ih
  ·by_cases c0 : c = 0
   ·cases h3 : l.getD (c + 1) false
    ·rw [h1,h3,decide_eq_true c0] at e
     simp only [Bool.true_and,Bool.true_or,Bool.not_false,Bool.or_true,if_true,List.cons_append,List.nil_append] at e
     subst e
     rw [List.length_append] at ih
     rw [W_loop (L := r11_pairs_l1) rfl]
     simp (disch := first | assumption | omega | decide | (simp only [lens] <;> omega) | fail) only [go_sem,h1,h3,s2]
     exact ih
    ·rw [h1,h3,decide_eq_true c0,decide_eq_false (show ¬ c = 255 by omega)] at e
     simp only [Bool.true_and,Bool.true_or,Bool.not_true,Bool.or_false,Bool.false_eq_true,if_true,if_false,List.append_nil] at e
     subst e
     rw [List.length_append] at ih
     rw [W_loop (L := r11_pairs_l1) rfl]
     simp (disch := first | assumption | omega | decide | (simp only [lens] <;> omega) | fail) only [go_sem,h1,h3,s2]
     exact ih
   ·by_cases c5 : c = 255
    ·cases h2 : l.getD (c - 1) false
     ·rw [h1,h2,decide_eq_false c0,decide_eq_true c5] at e
      simp only [Bool.true_and,Bool.true_or,Bool.not_false,Bool.or_true,if_true,List.cons_append,List.nil_append] at e
      subst e
      rw [List.length_append] at ih
      rw [W_loop (L := r11_pairs_l1) rfl]
      simp (disch := first | assumption | omega | decide | (simp only [lens] <;> omega) | fail) only [go_sem,h1,h2,s1]
      exact ih
     ·rw [h1,h2,decide_eq_false c0,decide_eq_true c5] at e
      simp only [Bool.true_and,Bool.true_or,Bool.not_true,Bool.or_false,Bool.false_eq_true,if_true,if_false,List.nil_append] at e
      subst e
      rw [List.length_append] at ih
      rw [W_loop (L := r11_pairs_l1) rfl]
      simp (disch := first | assumption | omega | decide | (simp only [lens] <;> omega) | fail) only [go_sem,h1,h2,s1]
      exact ih
    ·rw [h1,decide_eq_false c0,decide_eq_false c5] at e
     simp only [Bool.true_and,Bool.false_or] at e
     cases h2 : l.getD (c - 1) false <;> cases h3 : l.getD (c + 1) false <;> rw [h2,h3] at e <;> simp only [Bool.not_true,Bool.not_false,Bool.false_eq_true,if_true,if_false,List.nil_append,List.append_nil,List.cons_append] at e <;> subst e
     ·rw [List.length_append] at ih
      rw [W_loop (L := r11_pairs_l1) rfl]
      simp (disch := first | assumption | omega | decide | (simp only [lens] <;> omega) | fail) only [go_sem,h1,h2,h3,s1,s2]
      exact ih
     ·rw [List.length_append] at ih
      rw [W_loop (L := r11_pairs_l1) rfl]
      simp (disch := first | assumption | omega | decide | (simp only [lens] <;> omega) | fail) only [go_sem,h1,h2,h3,s1,s2]
      exact ih
     ·rw [List.length_append] at ih
      rw [W_loop (L := r11_pairs_l1) rfl]
      simp (disch := first | assumption | omega | decide | (simp only [lens] <;> omega) | fail) only [go_sem,h1,h2,h3,s1,s2]
      exact ih
     ·rw [List.append_nil] at ih
      rw [W_loop (L := r11_pairs_l1) rfl]
      simp (disch := first | assumption | omega | decide | (simp only [lens] <;> omega) | fail) only [go_sem,h1,h2,h3,s1,s2]
      exact ih
theorem res_r11_pairs (l : List Bool) (hl : l.length = 256) : res Γ 360 [setP l] = some [.str (pairsB l)] := by
 have hb := pairs_bytes l
 have hr := @runsL_len l 256
 refine res_code (fn := r11_pairs) rfl rfl ?_
 simp (disch := first | assumption | omega | decide | (simp only [lens] <;> omega) | fail) only [go_sem,r11_pairs]
 refine r11_pairs_l1_ok _ l hl ?_ 256 0 (by omega)
 simp (disch := first | assumption | omega | decide | (simp only [lens] <;> omega) | fail) only [go_sem,strOfA,hb]
end Ab
namespace Ab
open Go (IntKind BinOp UnOp)
theorem with_snoc {l o : List Bool} {c : Nat} (h : c < l.length) (h' : c < o.length) : (withL (l.take c) (o.take c) ++ l.drop c).set c (l.getD c false || o.getD c false) = withL (l.take (c + 1)) (o.take (c + 1)) ++ l.drop (c + 1) ∧ (withL (l.take c) (o.take c) ++ l.drop c).getD c false = l.getD c false := by
 have e1 : (withL (l.take c) (o.take c)).length = c := by simp [withL]; omega
 have e2 : withL (l.take (c + 1)) (o.take (c + 1)) = withL (l.take c) (o.take c) ++ [l.getD c false || o.getD c false] := by
  unfold withL
  rw [List.take_succ_eq_append_getElem h,List.take_succ_eq_append_getElem h',List.zipWith_append (by simp; omega),List.getD_eq_getElem?_getD,List.getElem?_eq_getElem h,List.getD_eq_getElem?_getD,List.getElem?_eq_getElem h']
  rfl
 constructor
 ·rw [List.set_append_right _ _ (by omega),e1,Nat.sub_self,List.drop_eq_getElem_cons h,List.set_cons_zero,e2,List.append_assoc]
  rfl
 ·rw [List.getD_eq_getElem?_getD,List.getElem?_append_right (by omega),e1,Nat.sub_self,List.getElem?_drop,Nat.add_zero,List.getD_eq_getElem?_getD]
theorem with_l1_ok (l o : List Bool) (hl : l.length = 256) (ho : o.length = 256) (R : Blk) (Q : Out → Prop) (hQ : Q (.nrm,[(2,.bx 0 0),(4,.bx 2 0)],[setB (withL l o),setB o,R])) : ∀ (n c : Nat),c + n = 256 →
  Wp Γ rex_set_with_l1 [(2,.bx 0 0),(3,.bx 1 0),(4,.bx 2 0),(6,.p (.int .i64 (c : Int)))] [setB (withL (l.take c) (o.take c) ++ l.drop c),setB o,R] (InBlk [2,4] 0 Q) := by
 intro n
 induction n with
 | zero =>
  intro c hc
  obtain rfl : c = 256 := by omega
  rw [List.take_of_length_le (by omega),List.take_of_length_le (by omega),List.drop_of_length_le (by omega),List.append_nil]
  rw [W_loop (L := rex_set_with_l1) rfl]
  simp (disch := first | assumption | omega | decide | (simp only [lens] <;> omega) | fail) only [go_sem]
  exact hQ
 | succ n ih =>
  intro c hc
  have ih := ih (c + 1) (by omega)
  obtain ⟨e1,e2⟩ := @with_snoc l o c (by omega) (by omega)
  rw [← e1] at ih
  have hlen : (withL (l.take c) (o.take c) ++ l.drop c).length = 256 := by simp [withL]; omega
  generalize withL (l.take c) (o.take c) ++ l.drop c = m at *
  cases h1 : l.getD c false
  ·rw [h1,Bool.false_or] at ih
   rw [h1] at e2
   rw [W_loop (L := rex_set_with_l1) rfl]
   simp (disch := first | assumption | omega | decide | (simp only [lens] <;> omega) | fail) only [go_sem,e2]
   exact ih
  ·rw [h1,Bool.true_or] at ih
   rw [h1] at e2
   rw [W_loop (L := rex_set_with_l1) rfl]
   simp (disch := first | assumption | omega | decide | (simp only [lens] <;> omega) | fail) only [go_sem,e2]
   exact ih
theorem res_with (l o : List Bool) (hl : l.length = 256) (ho : o.length = 256) : res Γ 379 [setP l,setP o] = some [setP (withL l o)] := by
 have hn : (bools (withL l o)).length = 256 := by rw [bools_len,withL_len (by omega)]; exact hl
 have hz : (bools noneL).length = 256 := by rw [bools_len,noneL_len]
 have h0 : withL (l.take 0) (o.take 0) ++ l.drop 0 = l := rfl
 refine res_code (fn := rex_set_with) rfl rfl ?_
 simp (disch := first | assumption | omega | decide | (simp only [lens] <;> omega) | fail) only [go_sem,rex_set_with]
 refine with_l1_ok l o hl ho _ _ ?_ 256 0 (by omega)
 simp (disch := first | assumption | omega | decide | (simp only [lens] <;> omega) | fail) only [go_sem]
theorem res_one (c : Nat) (hc : c < 256) : res Γ 368 [.int .u8 (c : Int)] = some [setP (oneL c)] := by
 have hn : (bools (oneL c)).length = 256 := by rw [bools_len,oneL_len]
 have hz : (bools noneL).length = 256 := by rw [bools_len,noneL_len]
 have hz' := noneL_len
 have e : noneL.set c true = oneL c := rfl
 refine res_code (fn := rex_one) rfl rfl ?_
 simp (disch := first | assumption | omega | decide | (simp only [lens] <;> omega) | fail) only [go_sem,rex_one,e]
theorem res_word (c : Nat) (hc : c < 256) : res Γ 377 [.int .u8 (c : Int)] = some [.bool (wordN c)] := by
 unfold wordN
 refine res_code (fn := r11_word) rfl rfl ?_
 repeat' (first | (simp (disch := first | assumption | omega | decide | (simp only [lens] <;> omega) | fail) only [go_sem,r11_word]) | refine cond_split (fun hc => ?_) (fun hc => ?_) | refine gd_split_f (fun hc => ?_) (fun hc => ?_) | refine gd_split_t (fun hc => ?_) (fun hc => ?_))
 all_goals (refine congrArg (fun b => some [PV.bool b]) ?_; rw [Bool.eq_iff_iff]; simp only [Bool.or_eq_true,Bool.and_eq_true,decide_eq_true_eq,Bool.false_eq_true,true_iff,false_iff]; omega)
theorem bq_tt : (true == true) = true := rfl
theorem bq_tf : (true == false) = false := rfl
theorem bq_ft : (false == true) = false := rfl
theorem bq_ff : (false == false) = true := rfl
theorem int_nat_le {a b : Nat} : decide (a ≤ b) = decide ((a : Int) ≤ (b : Int)) := by rw [decide_eq_decide]; omega
theorem int_nat_eq {a b : Nat} : decide (a = b) = decide ((a : Int) = (b : Int)) := by rw [decide_eq_decide]; omega
theorem six_snoc {c i : Nat} (h : i < 256) : ((sixL c).take i ++ noneL.drop i).set i (inSix c i == decide (97 ≤ c)) = (sixL c).take (i + 1) ++ noneL.drop (i + 1) := by
 have hl := @sixL_len c
 have hz := noneL_len
 have e1 : ((sixL c).take i).length = i := by rw [List.length_take]; omega
 rw [List.set_append_right _ _ (by omega),e1,Nat.sub_self,List.drop_eq_getElem_cons (by omega),List.set_cons_zero,List.take_succ_eq_append_getElem (by omega),List.append_assoc]
 have := @sixL_get c i h
 rw [List.getD_eq_getElem?_getD,List.getElem?_eq_getElem (by omega)] at this
 simp only [Option.getD_some] at this
 rw [this]
 rfl
theorem six100_l1_ok (R : Blk) (Q : Out → Prop) (hQ : Q (.nrm,[(2,.bx 0 0),(4,.bx 1 0)],[R,setB (sixL 100)])) : ∀ (n i : Nat),i + n = 256 →
  Wp Γ r11_six_l1 [(0,.p (.int .u8 100)),(2,.bx 0 0),(4,.bx 1 0),(5,.p (.int .i64 (i : Int)))] [R,setB ((sixL 100).take i ++ noneL.drop i)] (InBlk [2,4] 0 Q) := by
 have hl := @sixL_len 100
 have hz := noneL_len
 intro n
 induction n with
 | zero =>
  intro i hi
  obtain rfl : i = 256 := by omega
  rw [List.take_of_length_le (by omega),List.drop_of_length_le (by omega),List.append_nil]
  rw [W_loop (L := r11_six_l1) rfl]
  simp (disch := first | assumption | omega | decide | (simp only [lens] <;> omega) | fail) only [go_sem]
  exact hQ
 | succ n ih =>
  intro i hi
  have ih := ih (i + 1) (by omega)
  rw [← six_snoc (by omega)] at ih
  have hlen : ((sixL 100).take i ++ noneL.drop i).length = 256 := by rw [List.length_append,List.length_take,List.length_drop]; omega
  generalize (sixL 100).take i ++ noneL.drop i = m at *
  have hv : (inSix 100 i == decide (97 ≤ 100)) = ((decide ((48 : Int) ≤ (i : Int)) && decide ((i : Int) ≤ 57)) == true) := by
   simp only [inSix,int_nat_le,int_nat_eq]; rfl
  rw [hv] at ih
  cases a1 : decide ((48 : Int) ≤ (i : Int)) <;> cases a2 : decide ((i : Int) ≤ 57) <;> rw [a1,a2] at ih <;> simp only [Bool.and_true,Bool.and_false,bq_tt,bq_ft] at ih
  all_goals
   rw [W_loop (L := r11_six_l1) rfl]
   simp (disch := first | assumption | omega | decide | (simp only [lens] <;> omega) | fail) only [go_sem,a1,a2,bq_tt,bq_ft]
   exact ih
theorem six68_l1_ok (R : Blk) (Q : Out → Prop) (hQ : Q (.nrm,[(2,.bx 0 0),(4,.bx 1 0)],[R,setB (sixL 68)])) : ∀ (n i : Nat),i + n = 256 →
  Wp Γ r11_six_l1 [(0,.p (.int .u8 68)),(2,.bx 0 0),(4,.bx 1 0),(5,.p (.int .i64 (i : Int)))] [R,setB ((sixL 68).take i ++ noneL.drop i)] (InBlk [2,4] 0 Q) := by
 have hl := @sixL_len 68
 have hz := noneL_len
 intro n
 induction n with
 | zero =>
  intro i hi
  obtain rfl : i = 256 := by omega
  rw [List.take_of_length_le (by omega),List.drop_of_length_le (by omega),List.append_nil]
  rw [W_loop (L := r11_six_l1) rfl]
  simp (disch := first | assumption | omega | decide | (simp only [lens] <;> omega) | fail) only [go_sem]
  exact hQ
 | succ n ih =>
  intro i hi
  have ih := ih (i + 1) (by omega)
  rw [← six_snoc (by omega)] at ih
  have hlen : ((sixL 68).take i ++ noneL.drop i).length = 256 := by rw [List.length_append,List.length_take,List.length_drop]; omega
  generalize (sixL 68).take i ++ noneL.drop i = m at *
  have hv : (inSix 68 i == decide (97 ≤ 68)) = ((decide ((48 : Int) ≤ (i : Int)) && decide ((i : Int) ≤ 57)) == false) := by
   simp only [inSix,int_nat_le,int_nat_eq]; rfl
  rw [hv] at ih
  cases a1 : decide ((48 : Int) ≤ (i : Int)) <;> cases a2 : decide ((i : Int) ≤ 57) <;> rw [a1,a2] at ih <;> simp only [Bool.and_true,Bool.and_false,bq_tf,bq_ff] at ih
  all_goals
   rw [W_loop (L := r11_six_l1) rfl]
   simp (disch := first | assumption | omega | decide | (simp only [lens] <;> omega) | fail) only [go_sem,a1,a2,bq_tf,bq_ff]
   exact ih
theorem six119_l1_ok (R : Blk) (Q : Out → Prop) (hQ : Q (.nrm,[(2,.bx 0 0),(4,.bx 1 0)],[R,setB (sixL 119)])) : ∀ (n i : Nat),i + n = 256 →
  Wp Γ r11_six_l1 [(0,.p (.int .u8 119)),(2,.bx 0 0),(4,.bx 1 0),(5,.p (.int .i64 (i : Int)))] [R,setB ((sixL 119).take i ++ noneL.drop i)] (InBlk [2,4] 0 Q) := by
 have hl := @sixL_len 119
 have hz := noneL_len
 intro n
 induction n with
 | zero =>
  intro i hi
  obtain rfl : i = 256 := by omega
  rw [List.take_of_length_le (by omega),List.drop_of_length_le (by omega),List.append_nil]
  rw [W_loop (L := r11_six_l1) rfl]
  simp (disch := first | assumption | omega | decide | (simp only [lens] <;> omega) | fail) only [go_sem]
  exact hQ
 | succ n ih =>
  intro i hi
  have ih := ih (i + 1) (by omega)
  rw [← six_snoc (by omega)] at ih
  have hlen : ((sixL 119).take i ++ noneL.drop i).length = 256 := by rw [List.length_append,List.length_take,List.length_drop]; omega
  generalize (sixL 119).take i ++ noneL.drop i = m at *
  have hw := res_word i (by omega)
  have hv : (inSix 119 i == decide (97 ≤ 119)) = ((wordN i || decide ((i : Int) = 95)) == true) := by
   simp only [inSix,int_nat_le,int_nat_eq]; rfl
  rw [hv] at ih
  cases a1 : wordN i <;> cases a2 : decide ((i : Int) = 95) <;> rw [a1] at hw <;> rw [a1,a2] at ih <;> simp only [Bool.or_true,Bool.or_false,bq_tt,bq_ft] at ih
  all_goals
   rw [W_loop (L := r11_six_l1) rfl]
   simp (disch := first | assumption | omega | decide | (simp only [lens] <;> omega) | fail) only [go_sem,hw,a2,bq_tt,bq_ft]
   exact ih
theorem six87_l1_ok (R : Blk) (Q : Out → Prop) (hQ : Q (.nrm,[(2,.bx 0 0),(4,.bx 1 0)],[R,setB (sixL 87)])) : ∀ (n i : Nat),i + n = 256 →
  Wp Γ r11_six_l1 [(0,.p (.int .u8 87)),(2,.bx 0 0),(4,.bx 1 0),(5,.p (.int .i64 (i : Int)))] [R,setB ((sixL 87).take i ++ noneL.drop i)] (InBlk [2,4] 0 Q) := by
 have hl := @sixL_len 87
 have hz := noneL_len
 intro n
 induction n with
 | zero =>
  intro i hi
  obtain rfl : i = 256 := by omega
  rw [List.take_of_length_le (by omega),List.drop_of_length_le (by omega),List.append_nil]
  rw [W_loop (L := r11_six_l1) rfl]
  simp (disch := first | assumption | omega | decide | (simp only [lens] <;> omega) | fail) only [go_sem]
  exact hQ
 | succ n ih =>
  intro i hi
  have ih := ih (i + 1) (by omega)
  rw [← six_snoc (by omega)] at ih
  have hlen : ((sixL 87).take i ++ noneL.drop i).length = 256 := by rw [List.length_append,List.length_take,List.length_drop]; omega
  generalize (sixL 87).take i ++ noneL.drop i = m at *
  have hw := res_word i (by omega)
  have hv : (inSix 87 i == decide (97 ≤ 87)) = ((wordN i || decide ((i : Int) = 95)) == false) := by
   simp only [inSix,int_nat_le,int_nat_eq]; rfl
  rw [hv] at ih
  cases a1 : wordN i <;> cases a2 : decide ((i : Int) = 95) <;> rw [a1] at hw <;> rw [a1,a2] at ih <;> simp only [Bool.or_true,Bool.or_false,bq_tf,bq_ff] at ih
  all_goals
   rw [W_loop (L := r11_six_l1) rfl]
   simp (disch := first | assumption | omega | decide | (simp only [lens] <;> omega) | fail) only [go_sem,hw,a2,bq_tf,bq_ff]
   exact ih
theorem six115_l1_ok (R : Blk) (Q : Out → Prop) (hQ : Q (.nrm,[(2,.bx 0 0),(4,.bx 1 0)],[R,setB (sixL 115)])) : ∀ (n i : Nat),i + n = 256 →
  Wp Γ r11_six_l1 [(0,.p (.int .u8 115)),(2,.bx 0 0),(4,.bx 1 0),(5,.p (.int .i64 (i : Int)))] [R,setB ((sixL 115).take i ++ noneL.drop i)] (InBlk [2,4] 0 Q) := by
 have hl := @sixL_len 115
 have hz := noneL_len
 intro n
 induction n with
 | zero =>
  intro i hi
  obtain rfl : i = 256 := by omega
  rw [List.take_of_length_le (by omega),List.drop_of_length_le (by omega),List.append_nil]
  rw [W_loop (L := r11_six_l1) rfl]
  simp (disch := first | assumption | omega | decide | (simp only [lens] <;> omega) | fail) only [go_sem]
  exact hQ
 | succ n ih =>
  intro i hi
  have ih := ih (i + 1) (by omega)
  rw [← six_snoc (by omega)] at ih
  have hlen : ((sixL 115).take i ++ noneL.drop i).length = 256 := by rw [List.length_append,List.length_take,List.length_drop]; omega
  generalize (sixL 115).take i ++ noneL.drop i = m at *
  have hv : (inSix 115 i == decide (97 ≤ 115)) = (((decide ((9 : Int) ≤ (i : Int)) && decide ((i : Int) ≤ 13)) || decide ((i : Int) = 32)) == true) := by
   simp only [inSix,int_nat_le,int_nat_eq]; rfl
  rw [hv] at ih
  cases a1 : decide ((9 : Int) ≤ (i : Int)) <;> cases a2 : decide ((i : Int) ≤ 13) <;> cases a3 : decide ((i : Int) = 32) <;> rw [a1,a2,a3] at ih <;> simp only [Bool.and_true,Bool.and_false,Bool.or_true,Bool.or_false,bq_tt,bq_ft] at ih
  all_goals
   rw [W_loop (L := r11_six_l1) rfl]
   simp (disch := first | assumption | omega | decide | (simp only [lens] <;> omega) | fail) only [go_sem,a1,a2,a3,bq_tt,bq_ft]
   exact ih
theorem six83_l1_ok (R : Blk) (Q : Out → Prop) (hQ : Q (.nrm,[(2,.bx 0 0),(4,.bx 1 0)],[R,setB (sixL 83)])) : ∀ (n i : Nat),i + n = 256 →
  Wp Γ r11_six_l1 [(0,.p (.int .u8 83)),(2,.bx 0 0),(4,.bx 1 0),(5,.p (.int .i64 (i : Int)))] [R,setB ((sixL 83).take i ++ noneL.drop i)] (InBlk [2,4] 0 Q) := by
 have hl := @sixL_len 83
 have hz := noneL_len
 intro n
 induction n with
 | zero =>
  intro i hi
  obtain rfl : i = 256 := by omega
  rw [List.take_of_length_le (by omega),List.drop_of_length_le (by omega),List.append_nil]
  rw [W_loop (L := r11_six_l1) rfl]
  simp (disch := first | assumption | omega | decide | (simp only [lens] <;> omega) | fail) only [go_sem]
  exact hQ
 | succ n ih =>
  intro i hi
  have ih := ih (i + 1) (by omega)
  rw [← six_snoc (by omega)] at ih
  have hlen : ((sixL 83).take i ++ noneL.drop i).length = 256 := by rw [List.length_append,List.length_take,List.length_drop]; omega
  generalize (sixL 83).take i ++ noneL.drop i = m at *
  have hv : (inSix 83 i == decide (97 ≤ 83)) = (((decide ((9 : Int) ≤ (i : Int)) && decide ((i : Int) ≤ 13)) || decide ((i : Int) = 32)) == false) := by
   simp only [inSix,int_nat_le,int_nat_eq]; rfl
  rw [hv] at ih
  cases a1 : decide ((9 : Int) ≤ (i : Int)) <;> cases a2 : decide ((i : Int) ≤ 13) <;> cases a3 : decide ((i : Int) = 32) <;> rw [a1,a2,a3] at ih <;> simp only [Bool.and_true,Bool.and_false,Bool.or_true,Bool.or_false,bq_tf,bq_ff] at ih
  all_goals
   rw [W_loop (L := r11_six_l1) rfl]
   simp (disch := first | assumption | omega | decide | (simp only [lens] <;> omega) | fail) only [go_sem,a1,a2,a3,bq_tf,bq_ff]
   exact ih
end Ab
namespace Ab
open Go (IntKind BinOp UnOp)
theorem rowsOnly_map : ∀ {ps : List PV},rowsOnly (ps.map AV.p) = true
 | [] => rfl
 | p :: ps => by
  have ih := @rowsOnly_map ps
  simp only [rowsOnly,List.map_cons] at ih ⊢
  exact ih
theorem freeze_map {H : Heap} : ∀ {ps : List PV},freeze H (ps.map AV.p) = H
 | [] => rfl
 | p :: ps => by
  have ih := @freeze_map H ps
  simp only [List.map_cons,freeze] at ih ⊢
  exact ih
theorem rowsOnly_map2 {ps qs : List PV} : rowsOnly (ps.map AV.p ++ qs.map AV.p) = true := by rw [← List.map_append]; exact rowsOnly_map
theorem freeze_map2 {H : Heap} {ps qs : List PV} : freeze H (ps.map AV.p ++ qs.map AV.p) = H := by rw [← List.map_append]; exact freeze_map
theorem at_l2 {l : List Blk} {a b : Blk} : (l ++ [a,b])[(l ++ [a]).length]? = some b := by
 rw [show l ++ [a,b] = (l ++ [a]) ++ [b] by simp]; exact at_last rfl
theorem at_l1 {l : List Blk} {a b : Blk} : (l ++ [a,b])[l.length]? = some a := by
 rw [List.getElem?_append_right (Nat.le_refl _),Nat.sub_self]; rfl
theorem set_l2 {l : List Blk} {a b c : Blk} : (l ++ [a,b]).set (l ++ [a]).length c = l ++ [a,c] := by
 rw [show l ++ [a,b] = (l ++ [a]) ++ [b] by simp,set_last rfl]; simp
theorem set_l1 {l : List Blk} {a b c : Blk} : (l ++ [a,b]).set l.length c = l ++ [c,b] := by
 rw [List.set_append_right _ _ (Nat.le_refl _),Nat.sub_self]; rfl
attribute [go_sem] rowsOnly_map freeze_map rowsOnly_map2 freeze_map2
theorem eqCells_bools : ∀ {n : Nat} {l m : List Bool},l.length = n → m.length = n → eqCells (List.replicate n 1) (bools l) (bools m) = some (decide (l = m))
 | 0,[],[],_,_ => rfl
 | n + 1,a :: l,b :: m,hl,hm => by
  have ih := eqCells_bools (n := n) (l := l) (m := m) (by simpa using hl) (by simpa using hm)
  simp only [bools,List.map_cons,List.replicate_succ,eqCells] at ih ⊢
  have e : (a == b && decide (l = m)) = decide (a :: l = b :: m) := by rw [Bool.eq_iff_iff]; simp
  rw [ih,Option.map_some,e]
theorem resM_ex {k f : Nat} {fn : AFn} {args : List AV} {HL : Heap} {K : List AV × Heap → Prop} (hf : Γ.fn f = some (.code fn)) (hl : args.length = fn.np)
  (h : Wp Γ fn.body (envFrom 0 args) HL (EndsK fn.results fun vs h => ∃ r,tidy k (vs,h) = some r ∧ K r)) : ∃ r,resM Γ k f args HL = some r ∧ K r := by
 obtain ⟨n,vs,h,hc,r,ht,hk⟩ := callK hf hl h
 exact ⟨r,resM_of ⟨n,(vs,h),hc,ht⟩,hk⟩
theorem st380 : stillF Γ 1 380 = true := by kernel_rfl
theorem sixB_iff {c : Nat} : sixB c = true ↔ c = 100 ∨ c = 68 ∨ c = 119 ∨ c = 87 ∨ c = 115 ∨ c = 83 := by
 simp only [sixB,Bool.or_eq_true,beq_iff_eq,or_assoc]
def sixR (c : Nat) : List Bool := if sixB c = true then sixL c else noneL
theorem sixR_len {c : Nat} : (sixR c).length = 256 := by
 unfold sixR
 split
 ·exact sixL_len
 ·exact noneL_len
theorem res_six (c : Nat) (hc : c < 256) : res Γ 378 [.int .u8 (c : Int)] = some [setP (sixR c),.bool (sixB c)] := by
 have hz : (bools noneL).length = 256 := by rw [bools_len,noneL_len]
 by_cases hs : sixB c = true
 ·rw [sixR,if_pos hs,hs]
  have hn : (bools (sixL c)).length = 256 := by rw [bools_len,sixL_len]
  rcases sixB_iff.1 hs with rfl | rfl | rfl | rfl | rfl | rfl
  ·refine res_code (fn := r11_six) rfl rfl ?_
   simp (disch := first | assumption | omega | decide | (simp only [lens] <;> omega) | fail) only [go_sem,r11_six]
   refine six100_l1_ok _ _ ?_ 256 0 (by omega)
   simp (disch := first | assumption | omega | decide | (simp only [lens] <;> omega) | fail) only [go_sem]
  ·refine res_code (fn := r11_six) rfl rfl ?_
   simp (disch := first | assumption | omega | decide | (simp only [lens] <;> omega) | fail) only [go_sem,r11_six]
   refine six68_l1_ok _ _ ?_ 256 0 (by omega)
   simp (disch := first | assumption | omega | decide | (simp only [lens] <;> omega) | fail) only [go_sem]
  ·refine res_code (fn := r11_six) rfl rfl ?_
   simp (disch := first | assumption | omega | decide | (simp only [lens] <;> omega) | fail) only [go_sem,r11_six]
   refine six119_l1_ok _ _ ?_ 256 0 (by omega)
   simp (disch := first | assumption | omega | decide | (simp only [lens] <;> omega) | fail) only [go_sem]
  ·refine res_code (fn := r11_six) rfl rfl ?_
   simp (disch := first | assumption | omega | decide | (simp only [lens] <;> omega) | fail) only [go_sem,r11_six]
   refine six87_l1_ok _ _ ?_ 256 0 (by omega)
   simp (disch := first | assumption | omega | decide | (simp only [lens] <;> omega) | fail) only [go_sem]
  ·refine res_code (fn := r11_six) rfl rfl ?_
   simp (disch := first | assumption | omega | decide | (simp only [lens] <;> omega) | fail) only [go_sem,r11_six]
   refine six115_l1_ok _ _ ?_ 256 0 (by omega)
   simp (disch := first | assumption | omega | decide | (simp only [lens] <;> omega) | fail) only [go_sem]
  ·refine res_code (fn := r11_six) rfl rfl ?_
   simp (disch := first | assumption | omega | decide | (simp only [lens] <;> omega) | fail) only [go_sem,r11_six]
   refine six83_l1_ok _ _ ?_ 256 0 (by omega)
   simp (disch := first | assumption | omega | decide | (simp only [lens] <;> omega) | fail) only [go_sem]
 ·rw [sixR,if_neg hs]
  have hs' : sixB c = false := by simpa using hs
  rw [hs']
  rw [sixB_iff] at hs
  have n1 : ¬ (c : Int) = 100 := by omega
  have n2 : ¬ (c : Int) = 68 := by omega
  have n3 : ¬ (c : Int) = 119 := by omega
  have n4 : ¬ (c : Int) = 87 := by omega
  have n5 : ¬ (c : Int) = 115 := by omega
  have n6 : ¬ (c : Int) = 83 := by omega
  refine res_code (fn := r11_six) rfl rfl ?_
  simp (disch := first | assumption | omega | decide | (simp only [lens] <;> omega) | fail) only [go_sem,r11_six]
  rw [W_loop (L := r11_six_l1) rfl]
  simp (disch := first | assumption | omega | decide | (simp only [lens] <;> omega) | fail) only [go_sem]
theorem res_named (c : Nat) (hc : c < 256) : res Γ 384 [.int .u8 (c : Int)] = some [setP (sixR c),.bool (sixB c)] := by
 have hz : (bools noneL).length = 256 := by rw [bools_len,noneL_len]
 have hz' := noneL_len
 have a := fun (l : List Bool) (hl : l.length = 256) (a b : Nat) ha hb => resM_adds l hl a b ha hb
 by_cases hs : sixB c = true
 ·rw [sixR,if_pos hs,hs]
  have hn : (bools (sixL c)).length = 256 := by rw [bools_len,sixL_len]
  have a1 : resM Γ 1 380 [.bx 0 0,.p (.int .u8 48),.p (.int .u8 57)] [setB (noneL)] = some ([],[setB (fillT (noneL) 48 10)]) := a (noneL) noneL_len 48 57 (by omega) (by omega)
  have a2 : resM Γ 1 380 [.bx 0 0,.p (.int .u8 97),.p (.int .u8 122)] [setB (fillT noneL 48 10)] = some ([],[setB (fillT (fillT noneL 48 10) 97 26)]) := a (fillT noneL 48 10) (by rw [fillT_len,noneL_len]) 97 122 (by omega) (by omega)
  have a3 : resM Γ 1 380 [.bx 0 0,.p (.int .u8 65),.p (.int .u8 90)] [setB (fillT (fillT noneL 48 10) 97 26)] = some ([],[setB (fillT (fillT (fillT noneL 48 10) 97 26) 65 26)]) := a (fillT (fillT noneL 48 10) 97 26) (by rw [fillT_len,fillT_len,noneL_len]) 65 90 (by omega) (by omega)
  have a4 : resM Γ 1 380 [.bx 0 0,.p (.int .u8 95),.p (.int .u8 95)] [setB (fillT (fillT (fillT noneL 48 10) 97 26) 65 26)] = some ([],[setB (fillT (fillT (fillT (fillT noneL 48 10) 97 26) 65 26) 95 1)]) := a (fillT (fillT (fillT noneL 48 10) 97 26) 65 26) (by rw [fillT_len,fillT_len,fillT_len,noneL_len]) 95 95 (by omega) (by omega)
  have a5 : resM Γ 1 380 [.bx 0 0,.p (.int .u8 9),.p (.int .u8 13)] [setB (noneL)] = some ([],[setB (fillT (noneL) 9 5)]) := a (noneL) noneL_len 9 13 (by omega) (by omega)
  have a6 : resM Γ 1 380 [.bx 0 0,.p (.int .u8 32),.p (.int .u8 32)] [setB (fillT noneL 9 5)] = some ([],[setB (fillT (fillT noneL 9 5) 32 1)]) := a (fillT noneL 9 5) (by rw [fillT_len,noneL_len]) 32 32 (by omega) (by omega)
  have l1 : (fillT noneL 48 10).length = 256 := by rw [fillT_len,noneL_len]
  have l2 : (fillT (fillT (fillT (fillT noneL 48 10) 97 26) 65 26) 95 1).length = 256 := by rw [fillT_len,fillT_len,fillT_len,fillT_len,noneL_len]
  have l3 : (fillT (fillT noneL 9 5) 32 1).length = 256 := by rw [fillT_len,fillT_len,noneL_len]
  have m1 := res_not _ l1
  have m2 := res_not _ l2
  have m3 := res_not _ l3
  have b1 : (bools (fillT noneL 48 10)).length = 256 := by rw [bools_len,l1]
  have b2 : (bools (fillT (fillT (fillT (fillT noneL 48 10) 97 26) 65 26) 95 1)).length = 256 := by rw [bools_len,l2]
  have b3 : (bools (fillT (fillT noneL 9 5) 32 1)).length = 256 := by rw [bools_len,l3]
  have d1 := six_d; have d2 := six_D; have d3 := six_w; have d4 := six_W; have d5 := six_s; have d6 := six_S
  rw [d2] at m1; rw [d4] at m2; rw [d6] at m3
  generalize hg1 : fillT noneL 48 10 = g1 at *
  generalize hg2 : fillT (fillT (fillT g1 97 26) 65 26) 95 1 = g2 at *
  generalize hg3 : fillT (fillT noneL 9 5) 32 1 = g3 at *
  have hc0 := hc
  rcases sixB_iff.1 hs with rfl | rfl | rfl | rfl | rfl | rfl
  ·refine res_code (fn := rex_named) rfl rfl ?_
   simp (disch := first | assumption | omega | decide | (simp only [lens] <;> omega) | fail) only [go_sem,rex_named,st380,a1,d1]
  ·refine res_code (fn := rex_named) rfl rfl ?_
   simp (disch := first | assumption | omega | decide | (simp only [lens] <;> omega) | fail) only [go_sem,rex_named,st380,a1,m1]
  ·refine res_code (fn := rex_named) rfl rfl ?_
   simp (disch := first | assumption | omega | decide | (simp only [lens] <;> omega) | fail) only [go_sem,rex_named,st380,a1,a2,a3,a4,d3]
  ·refine res_code (fn := rex_named) rfl rfl ?_
   simp (disch := first | assumption | omega | decide | (simp only [lens] <;> omega) | fail) only [go_sem,rex_named,st380,a1,a2,a3,a4,m2]
  ·refine res_code (fn := rex_named) rfl rfl ?_
   simp (disch := first | assumption | omega | decide | (simp only [lens] <;> omega) | fail) only [go_sem,rex_named,st380,a5,a6,d5]
  ·refine res_code (fn := rex_named) rfl rfl ?_
   simp (disch := first | assumption | omega | decide | (simp only [lens] <;> omega) | fail) only [go_sem,rex_named,st380,a5,a6,m3]
 ·rw [sixR,if_neg hs]
  have hs' : sixB c = false := by simpa using hs
  rw [hs']
  rw [sixB_iff] at hs
  have n1 : ¬ (c : Int) = 100 := by omega
  have n2 : ¬ (c : Int) = 68 := by omega
  have n3 : ¬ (c : Int) = 119 := by omega
  have n4 : ¬ (c : Int) = 87 := by omega
  have n5 : ¬ (c : Int) = 115 := by omega
  have n6 : ¬ (c : Int) = 83 := by omega
  refine res_code (fn := rex_named) rfl rfl ?_
  simp (disch := first | assumption | omega | decide | (simp only [lens] <;> omega) | fail) only [go_sem,rex_named]
theorem res_isWord (c : Nat) (hc : c < 256) : res Γ 383 [.int .u8 (c : Int)] = some [.bool (wordN c)] := by
 have hz : (bools noneL).length = 256 := by rw [bools_len,noneL_len]
 have e := res_named 119 (by omega)
 have es : sixR 119 = sixL 119 := rfl
 have eb : sixB 119 = true := rfl
 have e : res Γ 384 [.int .u8 119] = some [setP (sixR 119),.bool (sixB 119)] := e
 rw [es,eb] at e
 have hl := @sixL_len 119
 have hn : (bools (sixL 119)).length = 256 := by rw [bools_len,hl]
 have hg := @sixL_get 119 c hc
 have hv : (inSix 119 c == decide (97 ≤ 119)) = (wordN c || decide (c = 95)) := by
  simp only [inSix]
  show ((wordN c || decide (c = 95)) == true) = _
  cases (wordN c || decide (c = 95)) <;> rfl
 rw [hv] at hg
 generalize sixL 119 = m at *
 cases h1 : wordN c
 ·by_cases h2 : c = 95
  ·rw [h1,decide_eq_true h2,Bool.false_or] at hg
   refine res_code (fn := rex_isWord) rfl rfl ?_
   simp (disch := first | assumption | omega | decide | (simp only [lens] <;> omega) | fail) only [go_sem,rex_isWord,e,hg]
   rw [decide_eq_false (show ¬ (c : Int) ≠ 95 by omega)]
  ·rw [h1,decide_eq_false h2,Bool.false_or] at hg
   refine res_code (fn := rex_isWord) rfl rfl ?_
   simp (disch := first | assumption | omega | decide | (simp only [lens] <;> omega) | fail) only [go_sem,rex_isWord,e,hg]
 ·have h2 : ¬ (c : Int) = 95 := by
   intro h
   have : c = 95 := by omega
   subst this
   exact absurd h1 (by decide)
  rw [h1,Bool.true_or] at hg
  refine res_code (fn := rex_isWord) rfl rfl ?_
  simp (disch := first | assumption | omega | decide | (simp only [lens] <;> omega) | fail) only [go_sem,rex_isWord,e,hg]
  rw [decide_eq_true (show (c : Int) ≠ 95 by omega)]
theorem special_l1_ok (L : List UInt8) (hl : L.length < 1000) (c : Nat) (_hc : c < 256) (Q : Out → Prop) (h1 : (∃ i,i < L.length ∧ (L.getD i 0).toNat = c) → Q (.ret,[(2,.p (.bool true))],[]))
  (h2 : (∀ i,i < L.length → (L.getD i 0).toNat ≠ c) → Q (.nrm,[],[])) : ∀ (n i : Nat),i + n = L.length → (∀ j,j < i → (L.getD j 0).toNat ≠ c) →
  Wp Γ r11_special_l1 [(0,.p (.int .u8 (c : Int))),(3,.p (.str L)),(4,.p (.int .i64 (i : Int)))] [] (InBlk [] 0 Q) := by
 intro n
 induction n with
 | zero =>
  intro i hi hn
  obtain rfl : i = L.length := by omega
  rw [W_loop (L := r11_special_l1) rfl]
  simp (disch := first | assumption | omega | decide | (simp only [lens] <;> omega) | fail) only [go_sem]
  exact h2 hn
 | succ n ih =>
  intro i hi hn
  by_cases h : (L.getD i 0).toNat = c
  ·have hb : byt L i = (c : Int) := by unfold byt; omega
   rw [W_loop (L := r11_special_l1) rfl]
   simp (disch := first | assumption | omega | decide | (simp only [lens] <;> omega) | fail) only [go_sem]
   exact h1 ⟨i,by omega,h⟩
  ·have ih := ih (i + 1) (by omega) (fun j hj => by
    by_cases e : j = i
    ·rw [e]; exact h
    ·exact hn j (by omega))
   have hb : ¬ byt L i = (c : Int) := by unfold byt; omega
   rw [W_loop (L := r11_special_l1) rfl]
   simp (disch := first | assumption | omega | decide | (simp only [lens] <;> omega) | fail) only [go_sem]
   exact ih
def specL : List UInt8 := [92,94,36,46,124,63,42,43,40,41,91]
def specB (c : Nat) : Bool := specL.any fun b => b.toNat == c
theorem specB_iff {c : Nat} : specB c = true ↔ ∃ i,i < specL.length ∧ (specL.getD i 0).toNat = c := by
 unfold specB
 rw [List.any_eq_true]
 constructor
 ·rintro ⟨b,hb,h⟩
  obtain ⟨i,hi,rfl⟩ := List.getElem_of_mem hb
  exact ⟨i,hi,by rw [List.getD_eq_getElem?_getD,List.getElem?_eq_getElem hi]; simpa using h⟩
 ·rintro ⟨i,hi,h⟩
  refine ⟨specL[i],List.getElem_mem hi,?_⟩
  rw [List.getD_eq_getElem?_getD,List.getElem?_eq_getElem hi] at h
  simpa using h
theorem res_special (c : Nat) (hc : c < 256) : res Γ 367 [.int .u8 (c : Int)] = some [.bool (specB c)] := by
 have L := fun Q h1 h2 => special_l1_ok specL (by decide) c hc Q h1 h2 11 0 rfl (fun j hj => by omega)
 cases h : specB c
 ·have hn : ¬ ∃ i,i < specL.length ∧ (specL.getD i 0).toNat = c := by rw [← specB_iff,h]; decide
  refine res_code (fn := r11_special) rfl rfl ?_
  simp (disch := first | assumption | omega | decide | (simp only [lens] <;> omega) | fail) only [go_sem,r11_special]
  refine L _ (fun hh => absurd hh hn) (fun _ => ?_)
  simp (disch := first | assumption | omega | decide | (simp only [lens] <;> omega) | fail) only [go_sem]
 ·have hn := specB_iff.1 h
  refine res_code (fn := r11_special) rfl rfl ?_
  simp (disch := first | assumption | omega | decide | (simp only [lens] <;> omega) | fail) only [go_sem,r11_special]
  refine L _ (fun _ => ?_) (fun hh => by obtain ⟨i,hi,he⟩ := hn; exact absurd he (hh i hi))
  simp (disch := first | assumption | omega | decide | (simp only [lens] <;> omega) | fail) only [go_sem]
end Ab
namespace Ab
def bt (s : List UInt8) (i : Nat) : Nat := (s.getD i 0).toNat
theorem bt_lt {s : List UInt8} {i : Nat} : bt s i < 256 := (s.getD i 0).toNat_lt
def itemS (s : List UInt8) (i : Nat) : Option (Nat × Bool × Nat) :=
 if s.length ≤ i then none
 else if bt s i = 92 then
  if s.length ≤ i + 1 then none
  else if sixB (bt s (i + 1)) = true then some (bt s (i + 1),true,i + 2)
  else if wordN (bt s (i + 1)) = true then none else some (bt s (i + 1),false,i + 2)
 else some (bt s i,false,i + 1)
def sixAt (s : List UInt8) (i : Nat) : Bool := decide (i + 1 < s.length) && decide (bt s i = 92) && sixB (bt s (i + 1))
def rangesS (s : List UInt8) (i : Nat) : Bool := decide (i + 1 < s.length) && decide (bt s i = 45) && !decide (bt s (i + 1) = 93) && !sixAt s (i + 1)
def spanL (a b : Nat) : List Bool := (List.range 256).map fun c => decide (a ≤ c) && decide (c ≤ b)
def classS (s : List UInt8) : Nat → List Bool → Nat → Bool → Option (List Bool × Nat)
 | 0,_,_,_ => none
 | n + 1,all,i,first =>
  if first = false ∧ i < s.length ∧ bt s i = 93 then some (all,i)
  else match itemS s i with
   | none => none
   | some (c,w,j) =>
    if w = true then classS s n (withL all (sixL c)) j false
    else if rangesS s j = true then match itemS s (j + 1) with
     | none => none
     | some (d,_,k) => if d < c then none else classS s n (withL all (spanL c d)) k false
    else classS s n (withL all (spanL c c)) j false
theorem fillT_get : ∀ {n c : Nat} {l : List Bool} {i : Nat},i < l.length → (fillT l c n)[i]? = some (decide (c ≤ i ∧ i < c + n) || l.getD i false)
 | 0,c,l,i,h => by
  simp only [fillT]
  rw [decide_eq_false (by omega),Bool.false_or,List.getD_eq_getElem?_getD,List.getElem?_eq_getElem h]; rfl
 | n + 1,c,l,i,h => by
  simp only [fillT]
  rw [fillT_get (by rw [List.length_set]; exact h)]
  congr 1
  rw [List.getD_eq_getElem?_getD,List.getD_eq_getElem?_getD,List.getElem?_set]
  by_cases e : c = i
  ·subst e
   rw [if_pos rfl,if_pos h,decide_eq_true (show c ≤ c ∧ c < c + (n + 1) by omega)]
   simp
  ·rw [if_neg e]
   congr 1
   rw [decide_eq_decide]; omega
theorem spanL_len {a b : Nat} : (spanL a b).length = 256 := by simp [spanL]
theorem oneL_span {c : Nat} (h : c < 256) : oneL c = spanL c c := by
 refine List.ext_getElem? fun i => ?_
 by_cases hi : i < 256
 ·rw [oneL,List.getElem?_set]
  simp only [spanL,List.getElem?_map,List.getElem?_range hi,Option.map_some]
  by_cases e : c = i
  ·subst e
   rw [if_pos rfl,if_pos (by rw [noneL_len]; exact h)]; simp
  ·rw [if_neg e]
   simp only [noneL,List.getElem?_replicate,hi,if_true]
   congr 1
   rw [← Bool.decide_and,Eq.comm,decide_eq_false_iff_not]; omega
 ·rw [List.getElem?_eq_none (by rw [oneL_len]; omega),List.getElem?_eq_none (by rw [spanL_len]; omega)]
theorem fill_span {c d : Nat} (h : c ≤ d) (hd : d < 256) : fillT (oneL c) c (d + 1 - c) = spanL c d := by
 refine List.ext_getElem? fun i => ?_
 by_cases hi : i < 256
 ·rw [fillT_get (by rw [oneL_len]; exact hi),oneL_span (by omega)]
  simp only [spanL,List.getD_eq_getElem?_getD,List.getElem?_map,List.getElem?_range hi,Option.map_some,Option.getD_some]
  congr 1
  rw [← Bool.decide_and,← Bool.decide_or,← Bool.decide_and,decide_eq_decide]; omega
 ·rw [List.getElem?_eq_none (by rw [fillT_len,oneL_len]; omega),List.getElem?_eq_none (by rw [spanL_len]; omega)]
theorem sixL_ne {c : Nat} (h : sixB c = true) : sixL c ≠ noneL := by
 have : c = 100 ∨ c = 68 ∨ c = 119 ∨ c = 87 ∨ c = 115 ∨ c = 83 := by
  simpa only [sixB,Bool.or_eq_true,beq_iff_eq,or_assoc] using h
 rcases this with rfl | rfl | rfl | rfl | rfl | rfl <;> decide +kernel
end Ab
