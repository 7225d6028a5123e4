import Derived.Test.YtjlcnbpehbgfaaaGreatDoorAbB3
import Derived.Test.YtjlcnbpehbgfaaaGreatDoorAbMem
import Derived.Test.YtjlcnbpehbgfaaaGreatDoorCode
namespace Ab
open Go (IntKind BinOp UnOp World Value Addr Obj undef maxLen Program TypeId)
theorem all2_3 {α β : Type} {R : α → β → Prop} {l : List α} {a b c : β} (h : All2 R l [a,b,c]) : ∃ p q r,l = [p,q,r] ∧ R p a ∧ R q b ∧ R r c := by
 match l,h with
 | [p,q,r],⟨h1,h2,h3,_⟩ => exact ⟨p,q,r,rfl,h1,h2,h3⟩
theorem all2_4 {α β : Type} {R : α → β → Prop} {l : List α} {a b c d : β} (h : All2 R l [a,b,c,d]) : ∃ p q r s,l = [p,q,r,s] ∧ R p a ∧ R q b ∧ R r c ∧ R s d := by
 match l,h with
 | [p,q,r,s],⟨h1,h2,h3,h4,_⟩ => exact ⟨p,q,r,s,rfl,h1,h2,h3,h4⟩
theorem one_cells {p c : PV} (h : p.one = true) (hc : p.cells = [c]) : p = c := by
 cases p <;> simp_all [PV.cells,PV.one]
theorem treeT_string {P : Program} {n : Nat} {p : PV} {t : TypeId} (h : treeT P (n + 1) p t) (ht : P.underlying t = some .string) (ha : aggB P t = some false) : ∃ s,p = .str s ∧ s.length ≤ maxLen := by
 obtain ⟨h1,h2⟩ := h
 rw [ha] at h1
 simp only [okT,ht] at h2
 obtain ⟨s,e,hs⟩ := h2
 exact ⟨s,one_cells (by simpa using h1) e,hs⟩
theorem treeT_int {P : Program} {n : Nat} {p : PV} {t : TypeId} {k : IntKind} (h : treeT P (n + 1) p t) (ht : P.underlying t = some (.int k)) (ha : aggB P t = some false) : ∃ m,p = .int k m ∧ (Go.Lit.int k m).wf = true := by
 obtain ⟨h1,h2⟩ := h
 rw [ha] at h1
 simp only [okT,ht] at h2
 obtain ⟨s,e,hs⟩ := h2
 exact ⟨s,one_cells (by simpa using h1) e,hs⟩
theorem treeT_slice {P : Program} {n : Nat} {p : PV} {t e : TypeId} (h : treeT P (n + 1) p t) (ht : P.underlying t = some (.slice e)) (ha : aggB P t = some false) :
  ∃ k xs,p = .sl k (P.cellsOf e) xs ∧ xs.length ≤ maxLen ∧ ((k = .nil ∧ xs = []) ∨ k = .mem) ∧ ∀ x ∈ xs,treeT P n x e := by
 obtain ⟨h1,h2⟩ := h
 rw [ha] at h1
 simp only [okT,ht] at h2
 obtain ⟨k,xs,e1,hs,hk,hx⟩ := h2
 exact ⟨k,xs,one_cells (by simpa using h1) e1,hs,hk,hx⟩
theorem i64_wf {m : Int} (h : (Go.Lit.int .i64 m).wf = true) : -9223372036854775808 ≤ m ∧ m ≤ 9223372036854775807 := by
 simp [Go.Lit.wf,IntKind.min,IntKind.max,IntKind.bits,IntKind.signed] at h
 omega
theorem treeT_ints {P : Program} {n : Nat} {p : PV} {t e : TypeId} {k : IntKind} (h : treeT P (n + 2) p t) (ht : P.underlying t = some (.slice e)) (ha : aggB P t = some false) (he : P.underlying e = some (.int k)) (hae : aggB P e = some false) (hc : P.cellsOf e = 1) :
  ∃ kk ns,p = .sl kk 1 (ints k ns) ∧ ns.length ≤ maxLen ∧ ((kk = .nil ∧ ns = []) ∨ kk = .mem) ∧ ∀ m ∈ ns,(Go.Lit.int k m).wf = true := by
 obtain ⟨kk,xs,rfl,hl,hk,hx⟩ := treeT_slice h ht ha
 rw [hc]
 have key : ∀ xs : List PV,(∀ x ∈ xs,treeT P (n + 1) x e) → ∃ ns,xs = ints k ns ∧ ∀ m ∈ ns,(Go.Lit.int k m).wf = true := by
  intro xs
  induction xs with
  | nil => exact fun _ => ⟨[],rfl,by simp⟩
  | cons x xs ih =>
   intro hx
   obtain ⟨m,rfl,hm⟩ := treeT_int (hx x (by simp)) he hae
   obtain ⟨ns,rfl,hns⟩ := ih fun y hy => hx y (by simp [hy])
   exact ⟨m :: ns,rfl,by simpa using ⟨hm,hns⟩⟩
 obtain ⟨ns,rfl,hns⟩ := key xs hx
 refine ⟨kk,ns,rfl,by simpa [ints] using hl,?_,hns⟩
 rcases hk with ⟨h1,h2⟩ | h
 ·exact .inl ⟨h1,by simpa [ints] using h2⟩
 ·exact .inr h
theorem treeT_strs {P : Program} {n : Nat} {p : PV} {t e : TypeId} (h : treeT P (n + 2) p t) (ht : P.underlying t = some (.slice e)) (ha : aggB P t = some false) (he : P.underlying e = some .string) (hae : aggB P e = some false) (hc : P.cellsOf e = 1) :
  ∃ kk l,p = .sl kk 1 (strs l) ∧ l.length ≤ maxLen ∧ ((kk = .nil ∧ l = []) ∨ kk = .mem) ∧ ∀ s ∈ l,s.length ≤ maxLen := by
 obtain ⟨kk,xs,rfl,hl,hk,hx⟩ := treeT_slice h ht ha
 rw [hc]
 have key : ∀ xs : List PV,(∀ x ∈ xs,treeT P (n + 1) x e) → ∃ l,xs = strs l ∧ ∀ s ∈ l,s.length ≤ maxLen := by
  intro xs
  induction xs with
  | nil => exact fun _ => ⟨[],rfl,by simp⟩
  | cons x xs ih =>
   intro hx
   obtain ⟨m,rfl,hm⟩ := treeT_string (hx x (by simp)) he hae
   obtain ⟨ns,rfl,hns⟩ := ih fun y hy => hx y (by simp [hy])
   exact ⟨m :: ns,rfl,by simpa using ⟨hm,hns⟩⟩
 obtain ⟨ns,rfl,hns⟩ := key xs hx
 refine ⟨kk,ns,rfl,by simpa [strs] using hl,?_,hns⟩
 rcases hk with ⟨h1,h2⟩ | h
 ·exact .inl ⟨h1,by simpa [strs] using h2⟩
 ·exact .inr h
theorem law_of_res {Γ : Ctx} {f : Nat} {ps : List PV} (h : res Γ f ps = some [.bool true]) : ∃ m h,callOf Γ (ev Γ m) f (ps.map .p) [] = some ([.p (.bool true)],h) := by
 obtain ⟨n,⟨vs,H⟩,h1,h2⟩ := of_res h
 refine ⟨n,H,?_⟩
 rw [h1]
 match vs,h2 with
 | [v],h2 =>
  simp only [mapO_cons,mapO_nil,Option.map_some] at h2
  obtain ⟨x,hx,he⟩ := Option.bind_eq_some_iff.1 h2
  simp only [Option.some.injEq,List.cons.injEq,and_true] at he
  subst he
  congr 3
  cases v with
  | p v => rw [reify_p] at hx; cases hx; rfl
  | own id n => rw [reify_own] at hx; obtain ⟨_,_,h⟩ := Option.map_eq_some_iff.1 hx; cases h
  | bx id off =>
   rw [reify_bx] at hx
   obtain ⟨cs,_,h⟩ := Option.bind_eq_some_iff.1 hx
   split at h
   ·obtain ⟨_,_,h⟩ := Option.map_eq_some_iff.1 h; cases h
   ·cases h
  | el id n i off =>
   rw [reify_el] at hx
   obtain ⟨cs,_,h⟩ := Option.bind_eq_some_iff.1 hx
   obtain ⟨x,_,h⟩ := Option.bind_eq_some_iff.1 h
   split at h <;> cases h
  | mp id => simp [reify] at hx
  | agg cs => rw [reify_agg] at hx; obtain ⟨_,_,h⟩ := Option.map_eq_some_iff.1 hx; cases h
  | clo f cs => rw [reify_clo] at hx; obtain ⟨_,_,h⟩ := Option.map_eq_some_iff.1 hx; cases h
  | tup cs => cases hx
  | nov => cases hx
  | any => cases hx
 | [],h2 => simp [mapO] at h2
 | v :: w :: r,h2 =>
  simp only [mapO_cons] at h2
  obtain ⟨x,hx,he⟩ := Option.bind_eq_some_iff.1 h2
  obtain ⟨y,hy,he⟩ := Option.map_eq_some_iff.1 he
  obtain ⟨z,hz,hy⟩ := Option.bind_eq_some_iff.1 hy
  obtain ⟨u,hu,hy⟩ := Option.map_eq_some_iff.1 hy
  subst hy
  cases he
end Ab
namespace Ab
open Go (IntKind BinOp UnOp World Value Addr Obj undef maxLen Program TypeId)
def structIs (P : Program) (t : TypeId) (l : List TypeId) : Bool := match P.underlying t with
 | some (.struct fs) => fs.toList.map (·.type) == l
 | _ => false
theorem structIs_spec {P : Program} {t : TypeId} {l : List TypeId} (h : structIs P t l = true) : ∃ fs,P.underlying t = some (.struct fs) ∧ fs.toList.map (·.type) = l := by
 unfold structIs at h
 split at h
 ·rename_i fs hf; exact ⟨fs,hf,by simpa using h⟩
 ·cases h
structure SerT (P : Program) (t ts ti tv te tb : TypeId) : Prop where
 s : structIs P t [ts,ti,ti,tv,ti] = true
 str : P.underlying ts = some .string
 int : P.underlying ti = some (.int .i64)
 vals : P.underlying tv = some (.slice te)
 v : structIs P te [tb,ti] = true
 bool : P.underlying tb = some .bool
 cells : P.cellsOf te = 2
theorem not_one {p : PV} (h : p.one = false) : p = .agg p.cells := by cases p <;> first | rfl | cases h
theorem aggB_struct {P : Program} {t : TypeId} {fs} (h : P.underlying t = some (.struct fs)) : aggB P t = some true := by unfold aggB; rw [h]
structure Ser.Ok (k : SK) (s : Ser) : Prop where
 name : s.name.length ≤ maxLen
 start : -9223372036854775808 ≤ s.start ∧ s.start ≤ 9223372036854775807
 step : -9223372036854775808 ≤ s.step ∧ s.step ≤ 9223372036854775807
 cons : -9223372036854775808 ≤ s.cons ∧ s.cons ≤ 9223372036854775807
 len : s.vals.length ≤ maxLen
 kind : (k = .nil ∧ s.vals = []) ∨ k = .mem
 vals : ∀ x ∈ s.vals,-9223372036854775808 ≤ x.2 ∧ x.2 ≤ 9223372036854775807
theorem okT_val {P : Program} {t ts ti tv te tb : TypeId} (T : SerT P t ts ti tv te tb) {n : Nat} {x : PV} (h1 : x.one = !((aggB P te).getD true)) (h : okT P (n + 2) te x.cells) : ∃ y : Bool × Int,x = .agg (valP y) ∧ -9223372036854775808 ≤ y.2 ∧ y.2 ≤ 9223372036854775807 := by
 obtain ⟨fs,h2,h3⟩ := structIs_spec T.v
 rw [aggB_struct h2] at h1
 have e := not_one (by simpa using h1)
 simp only [okT,h2,h3,okFs] at h
 obtain ⟨a,b,e1,ha,c,d,rfl,hc,rfl⟩ := h
 simp only [T.bool] at ha
 simp only [T.int] at hc
 obtain ⟨q,rfl⟩ := ha
 obtain ⟨m,rfl,hm⟩ := hc
 rw [e1] at e
 exact ⟨(q,m),e,i64_wf hm⟩
theorem treeT_series {P : Program} {t ts ti tv te tb : TypeId} (T : SerT P t ts ti tv te tb) {n : Nat} {p : PV} (h : treeT P (n + 4) p t) : ∃ k s,p = s.pv k ∧ Ser.Ok k s := by
 obtain ⟨h1,h2⟩ := h
 obtain ⟨fs,h3,h4⟩ := structIs_spec T.s
 rw [aggB_struct h3] at h1
 have e := not_one (by simpa using h1)
 rw [okT] at h2
 simp only [h3,h4,okFs] at h2
 obtain ⟨a1,b1,e1,g1,a2,b2,rfl,g2,a3,b3,rfl,g3,a4,b4,rfl,g4,a5,b5,rfl,g5,rfl⟩ := h2
 rw [okT] at g1 g2 g3 g4 g5
 simp only [T.str] at g1
 simp only [T.int] at g2 g3 g5
 simp only [T.vals] at g4
 obtain ⟨s,rfl,hs⟩ := g1
 obtain ⟨m2,rfl,hm2⟩ := g2
 obtain ⟨m3,rfl,hm3⟩ := g3
 obtain ⟨m5,rfl,hm5⟩ := g5
 obtain ⟨k,xs,rfl,hl,hk,hx⟩ := g4
 have key : ∀ xs : List PV,(∀ x ∈ xs,x.one = !((aggB P te).getD true) ∧ okT P (n + 2) te x.cells) → ∃ l : List (Bool × Int),xs = vpv l ∧ ∀ x ∈ l,-9223372036854775808 ≤ x.2 ∧ x.2 ≤ 9223372036854775807 := by
  intro xs
  induction xs with
  | nil => exact fun _ => ⟨[],rfl,by simp⟩
  | cons x xs ih =>
   intro hx
   obtain ⟨y,rfl,hy⟩ := okT_val T (hx x (by simp)).1 (hx x (by simp)).2
   obtain ⟨l,rfl,hl⟩ := ih fun z hz => hx z (by simp [hz])
   exact ⟨y :: l,rfl,fun z hz => by
    rcases List.mem_cons.1 hz with rfl | h
    ·exact hy
    ·exact hl z h⟩
 obtain ⟨l,rfl,hv⟩ := key xs hx
 rw [vpv_len] at hl
 refine ⟨k,⟨s,m2,m3,l,m5⟩,?_,hs,i64_wf hm2,i64_wf hm3,i64_wf hm5,hl,?_,hv⟩
 ·rw [e,e1,T.cells]; rfl
 ·rcases hk with ⟨h,h'⟩ | h
  ·refine .inl ⟨h,?_⟩
   have := congrArg List.length h'
   rw [vpv_len] at this
   exact List.eq_nil_of_length_eq_zero this
  ·exact .inr h
end Ab
namespace Ab
open Go (IntKind BinOp UnOp)
def refs2 : AV → List Nat
 | .own id _ | .bx id _ | .el id _ _ _ | .mp id => [id]
 | .agg cs | .tup cs | .clo _ cs => cs.flatMap fun
  | .own id _ | .bx id _ | .el id _ _ _ | .mp id => [id]
  | _ => []
 | _ => []
theorem refs2_p {v} : refs2 (.p v) = [] := rfl
theorem refs2_own {id n} : refs2 (.own id n) = [id] := rfl
theorem refs2_bx {id n} : refs2 (.bx id n) = [id] := rfl
theorem refs2_mp {id} : refs2 (.mp id) = [id] := rfl
theorem refs2_el {id n i o} : refs2 (.el id n i o) = [id] := rfl
attribute [go_sem] refs2_p refs2_own refs2_bx refs2_mp refs2_el
theorem app_tight {H sz x xs y ys} (hm : (x :: xs).length + (y :: ys).length ≤ 1073741824) : appendA H sz (.p (.sl .tight sz (x :: xs))) (y :: ys) = some (.own H.length (x :: xs ++ y :: ys).length,H ++ [.row false sz (x :: xs ++ y :: ys)]) := by
 simp only [appendA]
 rw [if_pos ⟨.inr ⟨trivial,trivial⟩,by simp only [List.length_append,lim]; omega⟩]
attribute [go_sem] app_tight vpv_nil
end Ab
namespace Ab
open Go (IntKind BinOp UnOp)
def serC (x : SK × Ser) : List PV := [.str x.2.name,.int .i64 x.2.start,.int .i64 x.2.step,.sl x.1 2 (vpv x.2.vals),.int .i64 x.2.cons]
def sers (l : List (SK × Ser)) : List PV := l.map fun x => .agg (serC x)
theorem sers_nil : sers [] = [] := rfl
attribute [go_sem] sers_nil
end Ab
namespace Ab
open Go (IntKind BinOp UnOp World Value Addr Obj undef maxLen Program TypeId)
structure ValT (P : Program) (te ti tb : TypeId) : Prop where
 int : P.underlying ti = some (.int .i64)
 v : structIs P te [tb,ti] = true
 bool : P.underlying tb = some .bool
 cells : P.cellsOf te = 2
end Ab
namespace Ab
open Go (IntKind BinOp UnOp)
def mapK (b : Option Blk) : Option (List (PV × AV)) := match b with
 | some (.box (.nov :: .nov :: cs)) => mapIn cs
 | _ => none
theorem flatIn : ∀ (es : List (PV × AV)),mapIn (mapFlat es) = some es
 | [] => rfl
 | (k,v) :: es => by simp [mapFlat,mapIn,flatIn es]
theorem mapK_some {es : List (PV × AV)} : mapK (some (.box (mapCells es))) = some es := flatIn es
def mgK (zero : List PV) (comma : Bool) (m : Option (Option AV)) : Option AV := m.map (mres comma (mkZ zero))
theorem mget_str {H : Heap} {id : Nat} {zero comma} {k : List UInt8} : mgetA H .str zero comma (.mp id) (.p (.str k)) = (mapK H[id]?).bind fun es => mgK zero comma (mfind (.str k) es) := rfl
theorem mget_int {H : Heap} {id : Nat} {zero comma} {ki : IntKind} {k : Int} : mgetA H (.int ki) zero comma (.mp id) (.p (.int ki k)) = (mapK H[id]?).bind fun es => mgK zero comma (mfind (.int ki k) es) := by
 simp only [mgetA,keyIs,decide_true,ifB]; rfl
theorem mgK_some {zero comma} {r : Option AV} : mgK zero comma (some r) = some (mres comma (mkZ zero) r) := rfl
theorem mres_none {z : AV} : mres false z none = z := rfl
theorem mres_some {z v : AV} : mres false z (some v) = v := rfl
theorem mres_noneC {z : AV} : mres true z none = .tup [z,.p (.bool false)] := rfl
theorem mres_someC {z v : AV} : mres true z (some v) = .tup [v,.p (.bool true)] := rfl
theorem mkZ_one {v : PV} : mkZ [v] = .p v := rfl
def msK (H : Heap) (id : Nat) (es' : Option (List (PV × AV))) : Option Heap := es'.map fun es' => H.set id (.box (mapCells es'))
theorem mset_int {H : Heap} {id : Nat} {ki : IntKind} {k : Int} {v : AV} (h : v.ok = true) : msetA H (.int ki) (.mp id) (.p (.int ki k)) v = (mapK H[id]?).bind fun es => msK H id (mput (.int ki k) v es) := by
 simp only [msetA,keyIs,decide_true,h,Bool.and_self,ifB]; rfl
theorem msK_some {H : Heap} {id : Nat} {es' : List (PV × AV)} : msK H id (some es') = some (H.set id (.box (mapCells es'))) := rfl
theorem ok_own {id n} : (AV.own id n).ok = true := rfl
theorem ok_p {v} : (AV.p v).ok = true := rfl
def browK (H : Heap) (sz : Nat) (ag : Bool) (n : Nat) (ps : Option (List PV)) : Option (AV × Heap) := ps.bind fun ps => if ps.length = n * sz ∧ n ≤ lim then some (.own H.length n,H ++ [.row false sz (chunks sz ag n ps)]) else none
theorem brow_K {H : Heap} {sz ag n} {cs : List AV} : browA H sz ag n (some cs) = browK H sz ag n (pures cs) := rfl
theorem browK_pos {H : Heap} {sz ag n} {ps : List PV} (h : ps.length = n * sz) (h' : n ≤ 1073741824) : browK H sz ag n (some ps) = some (.own H.length n,H ++ [.row false sz (chunks sz ag n ps)]) := by
 simp only [browK,Option.bind_some]
 rw [if_pos ⟨h,h'⟩]
section
variable {Γ : Ctx} {env : Env} {H : Heap} {live : List Nat} {Q : Out → Prop} {r : List St} {dst : Option Nat}
theorem L_treeq {q : QOp} (h : q.plain = true) : WpL Γ (⟨dst,none,.inr (.treeq q)⟩ :: r) env H live Q ↔ opX Γ ((evQ Γ noCall (look env) H q).bind fun v => treeA H v) dst r env live Q := by
 rw [L_of]
 unfold opX WpO
 have e : ∀ n,evX Γ (callOf Γ (ev Γ n)) (look env) H (.treeq q) = (evQ Γ noCall (look env) H q).bind fun v => treeA H v := fun n => by
  have : evQ Γ (callOf Γ (ev Γ n)) (look env) H q = evQ Γ noCall (look env) H q := by cases q <;> first | rfl | cases h
  simp only [evX,this]
 simp only [e]
 exact ⟨fun ⟨_,h⟩ => h,fun h => ⟨0,h⟩⟩
theorem L_tree_mov {x} : WpL Γ (⟨dst,none,.inr (.treeq (.mov x))⟩ :: r) env H live Q ↔ opX Γ (treeA H (Arg.ev Γ (look env) x)) dst r env live Q := L_treeq rfl
end
def treeK (q : Option (List PV × Heap)) : Option (AV × Heap) := q.bind fun r => r.1.head?.map fun p => (.p p,r.2)
theorem tree_K {H : Heap} {v : AV} : treeA H v = treeK (treesOf H [v]) := rfl
theorem treeK_some {p : PV} {ps : List PV} {h : Heap} : treeK (some (p :: ps,h)) = some (.p p,h) := rfl
theorem at_last {l : List Blk} {b : Blk} {i : Nat} (h : i = l.length) : (l ++ [b])[i]? = some b := by subst h; exact List.getElem?_concat_length
theorem set_last {l : List Blk} {b c : Blk} {i : Nat} (h : i = l.length) : (l ++ [b]).set i c = l ++ [c] := by
 subst h
 rw [List.set_append_right _ _ (Nat.le_refl _),Nat.sub_self]; rfl
attribute [go_sem] mapK_some mget_str mget_int mgK_some mres_none mres_some mres_noneC mres_someC mkZ_one mset_int msK_some ok_own ok_p brow_K browK_pos L_tree_mov tree_K treeK_some
end Ab
namespace Ab
def fillT (l : List Bool) (c : Nat) : Nat → List Bool
 | 0 => l
 | n + 1 => fillT (l.set c true) (c + 1) n
theorem fillT_len : ∀ {n c : Nat} {l : List Bool},(fillT l c n).length = l.length
 | 0,_,_ => rfl
 | n + 1,c,l => by simp only [fillT]; rw [fillT_len,List.length_set]
def notL (l : List Bool) : List Bool := l.map (!·)
def withL (l o : List Bool) : List Bool := List.zipWith (· || ·) l o
def noneL : List Bool := List.replicate 256 false
def oneL (c : Nat) : List Bool := noneL.set c true
theorem noneL_len : noneL.length = 256 := List.length_replicate
theorem oneL_len {c : Nat} : (oneL c).length = 256 := by rw [oneL,List.length_set,noneL_len]
def runAt (l : List Bool) (c : Nat) : List Int :=
 (if (l.getD c false && (decide (c = 0) || !l.getD (c - 1) false)) = true then [(c : Int)] else []) ++ (if (l.getD c false && (decide (c = 255) || !l.getD (c + 1) false)) = true then [(c : Int)] else [])
def runsL (l : List Bool) (n : Nat) : List Int := (List.range n).flatMap (runAt l)
theorem runsL_succ {l : List Bool} {n : Nat} : runsL l (n + 1) = runsL l n ++ runAt l n := by
 simp [runsL,List.range_succ,List.flatMap_append]
theorem runAt_len {l : List Bool} {c : Nat} : (runAt l c).length ≤ 2 := by
 unfold runAt
 rw [List.length_append]
 split <;> split <;> simp
theorem runsL_len {l : List Bool} : ∀ {n : Nat},(runsL l n).length ≤ 2 * n
 | 0 => by simp [runsL]
 | n + 1 => by
  have := @runsL_len l n
  have := @runAt_len l n
  rw [runsL_succ,List.length_append]; omega
def pairsB (l : List Bool) : List UInt8 := (runsL l 256).map fun i => UInt8.ofNat i.toNat
end Ab
namespace Ab
def wordN (c : Nat) : Bool := (decide (97 ≤ c) && decide (c ≤ 122)) || (decide (65 ≤ c) && decide (c ≤ 90)) || (decide (48 ≤ c) && decide (c ≤ 57))
def sixB (c : Nat) : Bool := c == 100 || c == 68 || c == 119 || c == 87 || c == 115 || c == 83
def inSix (c b : Nat) : Bool := if c = 100 ∨ c = 68 then decide (48 ≤ b) && decide (b ≤ 57) else if c = 119 ∨ c = 87 then wordN b || decide (b = 95) else (decide (9 ≤ b) && decide (b ≤ 13)) || decide (b = 32)
def sixL (c : Nat) : List Bool := (List.range 256).map fun b => inSix c b == decide (97 ≤ c)
theorem sixL_len {c : Nat} : (sixL c).length = 256 := by simp [sixL]
theorem sixL_get {c b : Nat} (h : b < 256) : (sixL c).getD b false = (inSix c b == decide (97 ≤ c)) := by
 simp [sixL,List.getD_eq_getElem?_getD,h]
theorem six_d : fillT noneL 48 10 = sixL 100 := by decide +kernel
theorem six_D : notL (fillT noneL 48 10) = sixL 68 := by decide +kernel
theorem six_w : fillT (fillT (fillT (fillT noneL 48 10) 97 26) 65 26) 95 1 = sixL 119 := by decide +kernel
theorem six_W : notL (fillT (fillT (fillT (fillT noneL 48 10) 97 26) 65 26) 95 1) = sixL 87 := by decide +kernel
theorem six_s : fillT (fillT noneL 9 5) 32 1 = sixL 115 := by decide +kernel
theorem six_S : notL (fillT (fillT noneL 9 5) 32 1) = sixL 83 := by decide +kernel
theorem withL_len {l o : List Bool} (h : l.length = o.length) : (withL l o).length = l.length := by simp [withL,h]
end Ab
namespace Ab
open Go (IntKind BinOp UnOp)
abbrev setB (l : List Bool) : Blk := .box ((bools l).map .p)
abbrev setP (l : List Bool) : PV := .agg (bools l)
theorem take_boolsA {l : List Bool} {i : Nat} (h : i < l.length) : takeA 1 false (((bools l).map AV.p).drop i) = some (.p (.bool (l.getD i false))) := by
 rw [← List.map_drop]
 simp [takeA,bools,List.head?_drop,List.getElem?_eq_getElem h]
theorem rep_none : zero256 = bools noneL := by
 unfold zero256 bools noneL
 rw [List.map_replicate]
attribute [go_sem] take_boolsA rep_none
theorem adds_l1_ok (b : Nat) (hb : b < 256) (Q : Out → Prop) : ∀ (n : Nat) (l : List Bool),l.length = 256 → ∀ (c : Nat),c + n = b + 1 → Q (.nrm,[],[setB (fillT l c n)]) → 
  Wp Γ rex_set_adds_l1 [(0,.bx 0 0),(2,.p (.int .u8 (b : Int))),(6,.p (.int .i64 (c : Int)))] [setB l] (InBlk [] 0 Q) := by
 intro n
 induction n with
 | zero =>
  intro l hl c hc hQ
  rw [W_loop (L := rex_set_adds_l1) rfl]
  simp (disch := first | assumption | omega | decide | (simp only [lens] <;> omega) | fail) only [go_sem]
  exact hQ
 | succ n ih =>
  intro l hl c hc hQ
  have ih := ih (l.set c true) (by rw [List.length_set]; exact hl) (c + 1) (by omega) hQ
  rw [W_loop (L := rex_set_adds_l1) rfl]
  simp (disch := first | assumption | omega | decide | (simp only [lens] <;> omega) | fail) only [go_sem]
  exact ih
theorem resM_adds (l : List Bool) (hl : l.length = 256) (a b : Nat) (ha : a ≤ b) (hb : b < 256) : resM Γ 1 380 [.bx 0 0,.p (.int .u8 (a : Int)),.p (.int .u8 (b : Int))] [setB l] = some ([],[setB (fillT l a (b + 1 - a))]) := by
 refine resM_code (fn := rex_set_adds) rfl rfl ?_
 simp (disch := first | assumption | omega | decide | (simp only [lens] <;> omega) | fail) only [go_sem,rex_set_adds]
 refine adds_l1_ok b hb _ (b + 1 - a) l hl a (by omega) ?_
 simp (disch := first | assumption | omega | decide | (simp only [lens] <;> omega) | fail) only [go_sem]
theorem not_set {l : List Bool} {c : Nat} (h : c < l.length) : (notL (l.take c) ++ l.drop c).set c (!(l.getD c false)) = notL (l.take (c + 1)) ++ l.drop (c + 1) := by
 have e1 : (notL (l.take c)).length = c := by simp [notL]; omega
 have e2 : notL (l.take (c + 1)) = notL (l.take c) ++ [!(l.getD c false)] := by
  unfold notL
  rw [List.take_succ_eq_append_getElem h,List.map_append,List.getD_eq_getElem?_getD,List.getElem?_eq_getElem h]; rfl
 rw [List.set_append_right _ _ (by omega),e1,Nat.sub_self,List.drop_eq_getElem_cons h,List.set_cons_zero,e2,List.append_assoc]
 rfl
theorem not_get {l : List Bool} {c : Nat} (h : c < l.length) : (notL (l.take c) ++ l.drop c).getD c false = l.getD c false := by
 have e1 : (notL (l.take c)).length = c := by simp [notL]; omega
 rw [List.getD_eq_getElem?_getD,List.getElem?_append_right (by omega),e1,Nat.sub_self,List.getElem?_drop,Nat.add_zero,List.getD_eq_getElem?_getD]
theorem not_l1_ok (l : List Bool) (hl : l.length = 256) (R : Blk) (Q : Out → Prop) (hQ : Q (.nrm,[(1,.bx 0 0),(2,.bx 1 0)],[setB (notL l),R])) : ∀ (n c : Nat),c + n = 256 →
  Wp Γ rex_set_not_l1 [(1,.bx 0 0),(2,.bx 1 0),(4,.p (.int .i64 (c : Int)))] [setB (notL (l.take c) ++ l.drop c),R] (InBlk [1,2] 0 Q) := by
 intro n
 induction n with
 | zero =>
  intro c hc
  obtain rfl : c = 256 := by omega
  rw [← hl,List.take_length,List.drop_length,List.append_nil]
  rw [W_loop (L := rex_set_not_l1) rfl]
  simp (disch := first | assumption | omega | decide | (simp only [lens] <;> omega) | fail) only [go_sem]
  exact hQ
 | succ n ih =>
  intro c hc
  have ih := ih (c + 1) (by omega)
  have e1 := @not_set l c (by omega)
  have e2 := @not_get l c (by omega)
  rw [← e1] at ih
  have hlen : (notL (l.take c) ++ l.drop c).length = 256 := by simp [notL]; omega
  generalize notL (l.take c) ++ l.drop c = m at *
  rw [W_loop (L := rex_set_not_l1) rfl]
  simp (disch := first | assumption | omega | decide | (simp only [lens] <;> omega) | fail) only [go_sem,e2]
  exact ih
theorem res_not (l : List Bool) (hl : l.length = 256) : res Γ 371 [setP l] = some [setP (notL l)] := by
 have hn : (bools (notL l)).length = 256 := by simp [notL,hl,bools]
 have hz : (bools noneL).length = 256 := by rw [bools_len,noneL_len]
 refine res_code (fn := rex_set_not) rfl rfl ?_
 simp (disch := first | assumption | omega | decide | (simp only [lens] <;> omega) | fail) only [go_sem,rex_set_not]
 refine not_l1_ok l hl _ _ ?_ 256 0 (by omega)
 simp (disch := first | assumption | omega | decide | (simp only [lens] <;> omega) | fail) only [go_sem]
theorem runAt_eq (l : List Bool) (c : Nat) : runAt l c = (if (l.getD c false && (decide (c = 0) || !l.getD (c - 1) false)) = true then [(c : Int)] else []) ++ (if (l.getD c false && (decide (c = 255) || !l.getD (c + 1) false)) = true then [(c : Int)] else []) := rfl
theorem bytesIn_ints : ∀ {xs : List Int},(∀ x ∈ xs,0 ≤ x ∧ x ≤ 255) → bytesIn (ints .u8 xs) = some (xs.map fun i => UInt8.ofNat i.toNat)
 | [],_ => rfl
 | x :: xs,h => by
  have ih := bytesIn_ints (xs := xs) (fun y hy => h y (by simp [hy]))
  simp only [ints,List.map_cons,bytesIn] at ih ⊢
  rw [ih]; rfl
theorem runAt_mem {l : List Bool} {c : Nat} : ∀ x ∈ runAt l c,x = (c : Int) := by
 intro x hx
 unfold runAt at hx
 rcases List.mem_append.1 hx with h | h <;> split at h <;> simp at h <;> exact h
theorem pairs_bytes (l : List Bool) : bytesIn (ints .u8 (runsL l 256)) = some (pairsB l) := by
 refine bytesIn_ints fun x hx => ?_
 obtain ⟨c,hc,hx⟩ := List.mem_flatMap.1 hx
 have := runAt_mem x hx
 have := List.mem_range.1 hc
 omega
theorem rex_set_pairs_l1_ok (Q : Out → Prop) (l : List Bool) (hl : l.length = 256) (hQ : Q (.nrm,[(3,.own 1 (runsL l 256).length)],[setB l,.row false 1 (ints .u8 (runsL l 256))])) : ∀ (n c : Nat),c + n = 256 →
  Wp Γ rex_set_pairs_l1 [(1,.bx 0 0),(3,.own 1 (runsL l c).length),(5,.p (.int .i64 (c : Int)))] [setB l,.row false 1 (ints .u8 (runsL l c))] (InBlk [3] 0 Q) := by
 intro n
 induction n with
 | zero =>
  intro c hc
  obtain rfl : c = 256 := by omega
  rw [W_loop (L := rex_set_pairs_l1) rfl]
  simp (disch := first | assumption | omega | decide | (simp only [lens] <;> omega) | fail) only [go_sem]
  exact hQ
 | succ n ih =>
  intro c hc
  have ih := ih (c + 1) (by omega)
  have hr := @runsL_len l c
  have e := @runAt_eq l c
  have s1 : ((c : Int) - 1).toNat = c - 1 := by omega
  have s2 : ((c : Int) + 1).toNat = c + 1 := by omega
  rw [runsL_succ] at ih
  generalize runsL l c = r at *
  generalize runAt l c = q at *
  cases h1 : l.getD c false
  ·rw [h1] at e
   simp only [Bool.false_and,Bool.false_eq_true,if_false,List.append_nil] at e
   subst e
   rw [List.append_nil] at ih
   rw [W_loop (L := rex_set_pairs_l1) rfl]
   simp (disch := first | assumption | omega | decide | (simp only [lens] <;> omega) | fail) only [go_sem,h1]
   exact ih
  ·by_cases c0 : c = 0
   ·cases h3 : l.getD (c + 1) false
    ·rw [h1,h3,decide_eq_true c0] at e
     simp only [Bool.true_and,Bool.true_or,Bool.not_false,Bool.or_true,if_true,List.cons_append,List.nil_append] at e
     subst e
     rw [List.length_append] at ih
     rw [W_loop (L := rex_set_pairs_l1) rfl]
     simp (disch := first | assumption | omega | decide | (simp only [lens] <;> omega) | fail) only [go_sem,h1,h3,s2]
     exact ih
    ·rw [h1,h3,decide_eq_true c0,decide_eq_false (show ¬ c = 255 by omega)] at e
     simp only [Bool.true_and,Bool.true_or,Bool.not_true,Bool.or_false,Bool.false_eq_true,if_true,if_false,List.append_nil] at e
     subst e
     rw [List.length_append] at ih
     rw [W_loop (L := rex_set_pairs_l1) rfl]
     simp (disch := first | assumption | omega | decide | (simp only [lens] <;> omega) | fail) only [go_sem,h1,h3,s2]
     exact ih
   ·by_cases c5 : c = 255
    ·cases h2 : l.getD (c - 1) false
     ·rw [h1,h2,decide_eq_false c0,decide_eq_true c5] at e
      simp only [Bool.true_and,Bool.true_or,Bool.not_false,Bool.or_true,if_true,List.cons_append,List.nil_append] at e
      subst e
      rw [List.length_append] at ih
      rw [W_loop (L := rex_set_pairs_l1) rfl]
      simp (disch := first | assumption | omega | decide | (simp only [lens] <;> omega) | fail) only [go_sem,h1,h2,s1]
      exact ih
     ·rw [h1,h2,decide_eq_false c0,decide_eq_true c5] at e
      simp only [Bool.true_and,Bool.true_or,Bool.not_true,Bool.or_false,Bool.false_eq_true,if_true,if_false,List.nil_append] at e
      subst e
      rw [List.length_append] at ih
      rw [W_loop (L := rex_set_pairs_l1) rfl]
      simp (disch := first | assumption | omega | decide | (simp only [lens] <;> omega) | fail) only [go_sem,h1,h2,s1]
      exact ih
    ·rw [h1,decide_eq_false c0,decide_eq_false c5] at e
     simp only [Bool.true_and,Bool.false_or] at e
     cases h2 : l.getD (c - 1) false <;> cases h3 : l.getD (c + 1) false <;> rw [h2,h3] at e <;> simp only [Bool.not_true,Bool.not_false,Bool.false_eq_true,if_true,if_false,List.nil_append,List.append_nil,List.cons_append] at e <;> subst e
     ·rw [List.length_append] at ih
      rw [W_loop (L := rex_set_pairs_l1) rfl]
      simp (disch := first | assumption | omega | decide | (simp only [lens] <;> omega) | fail) only [go_sem,h1,h2,h3,s1,s2]
      exact ih
     ·rw [List.length_append] at ih
      rw [W_loop (L := rex_set_pairs_l1) rfl]
      simp (disch := first | assumption | omega | decide | (simp only [lens] <;> omega) | fail) only [go_sem,h1,h2,h3,s1,s2]
      exact ih
     ·rw [List.length_append] at ih
      rw [W_loop (L := rex_set_pairs_l1) rfl]
      simp (disch := first | assumption | omega | decide | (simp only [lens] <;> omega) | fail) only [go_sem,h1,h2,h3,s1,s2]
      exact ih
     ·rw [List.append_nil] at ih
      rw [W_loop (L := rex_set_pairs_l1) rfl]
      simp (disch := first | assumption | omega | decide | (simp only [lens] <;> omega) | fail) only [go_sem,h1,h2,h3,s1,s2]
      exact ih
theorem res_rex_set_pairs (l : List Bool) (hl : l.length = 256) : res Γ 369 [setP l] = some [.str (pairsB l)] := by
 have hb := pairs_bytes l
 have hr := @runsL_len l 256
 refine res_code (fn := rex_set_pairs) rfl rfl ?_
 simp (disch := first | assumption | omega | decide | (simp only [lens] <;> omega) | fail) only [go_sem,rex_set_pairs]
 refine rex_set_pairs_l1_ok _ l hl ?_ 256 0 (by omega)
 simp (disch := first | assumption | omega | decide | (simp only [lens] <;> omega) | fail) only [go_sem,strOfA,hb]
theorem r11_pairs_l1_ok (Q : Out → Prop) (l : List Bool) (hl : l.length = 256) (hQ : Q (.nrm,[(3,.own 1 (runsL l 256).length)],[setB l,.row false 1 (ints .u8 (runsL l 256))])) : ∀ (n c : Nat),c + n = 256 →
  Wp Γ r11_pairs_l1 [(1,.bx 0 0),(3,.own 1 (runsL l c).length),(4,.p (.int .i64 (c : Int)))] [setB l,.row false 1 (ints .u8 (runsL l c))] (InBlk [3] 0 Q) := by
 intro n
 induction n with
 | zero =>
  intro c hc
  obtain rfl : c = 256 := by omega
  rw [W_loop (L := r11_pairs_l1) rfl]
  simp (disch := first | assumption | omega | decide | (simp only [lens] <;> omega) | fail) only [go_sem]
  exact hQ
 | succ n ih =>
  intro c hc
  have ih := ih (c + 1) (by omega)
  have hr := @runsL_len l c
  have e := @runAt_eq l c
  have s1 : ((c : Int) - 1).toNat = c - 1 := by omega
  have s2 : ((c : Int) + 1).toNat = c + 1 := by omega
  rw [runsL_succ] at ih
  generalize runsL l c = r at *
  generalize runAt l c = q at *
  cases h1 : l.getD c false
  ·rw [h1] at e
   simp only [Bool.false_and,Bool.false_eq_true,if_false,List.append_nil] at e
   subst e
   rw [List.append_nil] at ih
   rw [W_loop (L := r11_pairs_l1) rfl]
   simp (disch := first | assumption | omega | decide | (simp only [lens] <;> omega) | fail) only [go_sem,h1]
   exact ih
  ·by_cases c0 : c = 0
   ·cases h3 : l.getD (c + 1) false
    ·rw [h1,h3,decide_eq_true c0] at e
     simp only [Bool.true_and,Bool.true_or,Bool.not_false,Bool.or_true,if_true,List.cons_append,List.nil_append] at e
     subst e
     rw [List.length_append] at ih
     rw [W_loop (L := r11_pairs_l1) rfl]
     simp (disch := first | assumption | omega | decide | (simp only [lens] <;> omega) | fail) only [go_sem,h1,h3,s2]
     exact ih
    ·rw [h1,h3,decide_eq_true c0,decide_eq_false (show ¬ c = 255 by omega)] at e
     simp only [Bool.true_and,Bool.true_or,Bool.not_true,Bool.or_false,Bool.false_eq_true,if_true,if_false,List.append_nil] at e
     subst e
     rw [List.length_append] at ih
     rw [W_loop (L := r11_pairs_l1) rfl]
     simp (disch := first | assumption | omega | decide | (simp only [lens] <;> omega) | fail) only [go_sem,h1,h3,s2]
     exact ih
   ·by_cases c5 : c = 255
    ·cases h2 : l.getD (c - 1) false
     ·rw [h1,h2,decide_eq_false c0,decide_eq_true c5] at e
      simp only [Bool.true_and,Bool.true_or,Bool.not_false,Bool.or_true,if_true,List.cons_append,List.nil_append] at e
      subst e
      rw [List.length_append] at ih
      rw [W_loop (L := r11_pairs_l1) rfl]
      simp (disch := first | assumption | omega | decide | (simp only [lens] <;> omega) | fail) only [go_sem,h1,h2,s1]
      exact ih
     ·rw [h1,h2,decide_eq_false c0,decide_eq_true c5] at e
      simp only [Bool.true_and,Bool.true_or,Bool.not_true,Bool.or_false,Bool.false_eq_true,if_true,if_false,List.nil_append] at e
      subst e
      rw [List.length_append] at ih
      rw [W_loop (L := r11_pairs_l1) rfl]
      simp (disch := first | assumption | omega | decide | (simp only [lens] <;> omega) | fail) only [go_sem,h1,h2,s1]
      exact ih
    ·rw [h1,decide_eq_false c0,decide_eq_false c5] at e
     simp only [Bool.true_and,Bool.false_or] at e
     cases h2 : l.getD (c - 1) false <;> cases h3 : l.getD (c + 1) false <;> rw [h2,h3] at e <;> simp only [Bool.not_true,Bool.not_false,Bool.false_eq_true,if_true,if_false,List.nil_append,List.append_nil,List.cons_append] at e <;> subst e
     ·rw [List.length_append] at ih
      rw [W_loop (L := r11_pairs_l1) rfl]
      simp (disch := first | assumption | omega | decide | (simp only [lens] <;> omega) | fail) only [go_sem,h1,h2,h3,s1,s2]
      exact ih
     ·rw [List.length_append] at ih
      rw [W_loop (L := r11_pairs_l1) rfl]
      simp (disch := first | assumption | omega | decide | (simp only [lens] <;> omega) | fail) only [go_sem,h1,h2,h3,s1,s2]
      exact ih
     ·rw [List.length_append] at ih
      rw [W_loop (L := r11_pairs_l1) rfl]
      simp (disch := first | assumption | omega | decide | (simp only [lens] <;> omega) | fail) only [go_sem,h1,h2,h3,s1,s2]
      exact ih
     ·rw [List.append_nil] at ih
      rw [W_loop (L := r11_pairs_l1) rfl]
      simp (disch := first | assumption | omega | decide | (simp only [lens] <;> omega) | fail) only [go_sem,h1,h2,h3,s1,s2]
      exact ih
theorem res_r11_pairs (l : List Bool) (hl : l.length = 256) : res Γ 360 [setP l] = some [.str (pairsB l)] := by
 have hb := pairs_bytes l
 have hr := @runsL_len l 256
 refine res_code (fn := r11_pairs) rfl rfl ?_
 simp (disch := first | assumption | omega | decide | (simp only [lens] <;> omega) | fail) only [go_sem,r11_pairs]
 refine r11_pairs_l1_ok _ l hl ?_ 256 0 (by omega)
 simp (disch := first | assumption | omega | decide | (simp only [lens] <;> omega) | fail) only [go_sem,strOfA,hb]
end Ab
namespace Ab
open Go (IntKind BinOp UnOp)
theorem with_snoc {l o : List Bool} {c : Nat} (h : c < l.length) (h' : c < o.length) : (withL (l.take c) (o.take c) ++ l.drop c).set c (l.getD c false || o.getD c false) = withL (l.take (c + 1)) (o.take (c + 1)) ++ l.drop (c + 1) ∧ (withL (l.take c) (o.take c) ++ l.drop c).getD c false = l.getD c false := by
 have e1 : (withL (l.take c) (o.take c)).length = c := by simp [withL]; omega
 have e2 : withL (l.take (c + 1)) (o.take (c + 1)) = withL (l.take c) (o.take c) ++ [l.getD c false || o.getD c false] := by
  unfold withL
  rw [List.take_succ_eq_append_getElem h,List.take_succ_eq_append_getElem h',List.zipWith_append (by simp; omega),List.getD_eq_getElem?_getD,List.getElem?_eq_getElem h,List.getD_eq_getElem?_getD,List.getElem?_eq_getElem h']
  rfl
 constructor
 ·rw [List.set_append_right _ _ (by omega),e1,Nat.sub_self,List.drop_eq_getElem_cons h,List.set_cons_zero,e2,List.append_assoc]
  rfl
 ·rw [List.getD_eq_getElem?_getD,List.getElem?_append_right (by omega),e1,Nat.sub_self,List.getElem?_drop,Nat.add_zero,List.getD_eq_getElem?_getD]
theorem with_l1_ok (l o : List Bool) (hl : l.length = 256) (ho : o.length = 256) (R : Blk) (Q : Out → Prop) (hQ : Q (.nrm,[(2,.bx 0 0),(4,.bx 2 0)],[setB (withL l o),setB o,R])) : ∀ (n c : Nat),c + n = 256 →
  Wp Γ rex_set_with_l1 [(2,.bx 0 0),(3,.bx 1 0),(4,.bx 2 0),(6,.p (.int .i64 (c : Int)))] [setB (withL (l.take c) (o.take c) ++ l.drop c),setB o,R] (InBlk [2,4] 0 Q) := by
 intro n
 induction n with
 | zero =>
  intro c hc
  obtain rfl : c = 256 := by omega
  rw [List.take_of_length_le (by omega),List.take_of_length_le (by omega),List.drop_of_length_le (by omega),List.append_nil]
  rw [W_loop (L := rex_set_with_l1) rfl]
  simp (disch := first | assumption | omega | decide | (simp only [lens] <;> omega) | fail) only [go_sem]
  exact hQ
 | succ n ih =>
  intro c hc
  have ih := ih (c + 1) (by omega)
  obtain ⟨e1,e2⟩ := @with_snoc l o c (by omega) (by omega)
  rw [← e1] at ih
  have hlen : (withL (l.take c) (o.take c) ++ l.drop c).length = 256 := by simp [withL]; omega
  generalize withL (l.take c) (o.take c) ++ l.drop c = m at *
  cases h1 : l.getD c false
  ·rw [h1,Bool.false_or] at ih
   rw [h1] at e2
   rw [W_loop (L := rex_set_with_l1) rfl]
   simp (disch := first | assumption | omega | decide | (simp only [lens] <;> omega) | fail) only [go_sem,e2]
   exact ih
  ·rw [h1,Bool.true_or] at ih
   rw [h1] at e2
   rw [W_loop (L := rex_set_with_l1) rfl]
   simp (disch := first | assumption | omega | decide | (simp only [lens] <;> omega) | fail) only [go_sem,e2]
   exact ih
theorem res_with (l o : List Bool) (hl : l.length = 256) (ho : o.length = 256) : res Γ 379 [setP l,setP o] = some [setP (withL l o)] := by
 have hn : (bools (withL l o)).length = 256 := by rw [bools_len,withL_len (by omega)]; exact hl
 have hz : (bools noneL).length = 256 := by rw [bools_len,noneL_len]
 have h0 : withL (l.take 0) (o.take 0) ++ l.drop 0 = l := rfl
 refine res_code (fn := rex_set_with) rfl rfl ?_
 simp (disch := first | assumption | omega | decide | (simp only [lens] <;> omega) | fail) only [go_sem,rex_set_with]
 refine with_l1_ok l o hl ho _ _ ?_ 256 0 (by omega)
 simp (disch := first | assumption | omega | decide | (simp only [lens] <;> omega) | fail) only [go_sem]
theorem res_one (c : Nat) (hc : c < 256) : res Γ 368 [.int .u8 (c : Int)] = some [setP (oneL c)] := by
 have hn : (bools (oneL c)).length = 256 := by rw [bools_len,oneL_len]
 have hz : (bools noneL).length = 256 := by rw [bools_len,noneL_len]
 have hz' := noneL_len
 have e : noneL.set c true = oneL c := rfl
 refine res_code (fn := rex_one) rfl rfl ?_
 simp (disch := first | assumption | omega | decide | (simp only [lens] <;> omega) | fail) only [go_sem,rex_one,e]
theorem res_word (c : Nat) (hc : c < 256) : res Γ 377 [.int .u8 (c : Int)] = some [.bool (wordN c)] := by
 unfold wordN
 refine res_code (fn := r11_word) rfl rfl ?_
 repeat' (first | (simp (disch := first | assumption | omega | decide | (simp only [lens] <;> omega) | fail) only [go_sem,r11_word]) | refine cond_split (fun hc => ?_) (fun hc => ?_) | refine gd_split_f (fun hc => ?_) (fun hc => ?_) | refine gd_split_t (fun hc => ?_) (fun hc => ?_))
 all_goals (refine congrArg (fun b => some [PV.bool b]) ?_; rw [Bool.eq_iff_iff]; simp only [Bool.or_eq_true,Bool.and_eq_true,decide_eq_true_eq,Bool.false_eq_true,true_iff,false_iff]; omega)
theorem bq_tt : (true == true) = true := rfl
theorem bq_tf : (true == false) = false := rfl
theorem bq_ft : (false == true) = false := rfl
theorem bq_ff : (false == false) = true := rfl
theorem int_nat_le {a b : Nat} : decide (a ≤ b) = decide ((a : Int) ≤ (b : Int)) := by rw [decide_eq_decide]; omega
theorem int_nat_eq {a b : Nat} : decide (a = b) = decide ((a : Int) = (b : Int)) := by rw [decide_eq_decide]; omega
theorem six_snoc {c i : Nat} (h : i < 256) : ((sixL c).take i ++ noneL.drop i).set i (inSix c i == decide (97 ≤ c)) = (sixL c).take (i + 1) ++ noneL.drop (i + 1) := by
 have hl := @sixL_len c
 have hz := noneL_len
 have e1 : ((sixL c).take i).length = i := by rw [List.length_take]; omega
 rw [List.set_append_right _ _ (by omega),e1,Nat.sub_self,List.drop_eq_getElem_cons (by omega),List.set_cons_zero,List.take_succ_eq_append_getElem (by omega),List.append_assoc]
 have := @sixL_get c i h
 rw [List.getD_eq_getElem?_getD,List.getElem?_eq_getElem (by omega)] at this
 simp only [Option.getD_some] at this
 rw [this]
 rfl
theorem six100_l1_ok (R : Blk) (Q : Out → Prop) (hQ : Q (.nrm,[(2,.bx 0 0),(4,.bx 1 0)],[R,setB (sixL 100)])) : ∀ (n i : Nat),i + n = 256 →
  Wp Γ r11_six_l1 [(0,.p (.int .u8 100)),(2,.bx 0 0),(4,.bx 1 0),(5,.p (.int .i64 (i : Int)))] [R,setB ((sixL 100).take i ++ noneL.drop i)] (InBlk [2,4] 0 Q) := by
 have hl := @sixL_len 100
 have hz := noneL_len
 intro n
 induction n with
 | zero =>
  intro i hi
  obtain rfl : i = 256 := by omega
  rw [List.take_of_length_le (by omega),List.drop_of_length_le (by omega),List.append_nil]
  rw [W_loop (L := r11_six_l1) rfl]
  simp (disch := first | assumption | omega | decide | (simp only [lens] <;> omega) | fail) only [go_sem]
  exact hQ
 | succ n ih =>
  intro i hi
  have ih := ih (i + 1) (by omega)
  rw [← six_snoc (by omega)] at ih
  have hlen : ((sixL 100).take i ++ noneL.drop i).length = 256 := by rw [List.length_append,List.length_take,List.length_drop]; omega
  generalize (sixL 100).take i ++ noneL.drop i = m at *
  have hv : (inSix 100 i == decide (97 ≤ 100)) = ((decide ((48 : Int) ≤ (i : Int)) && decide ((i : Int) ≤ 57)) == true) := by
   simp only [inSix,int_nat_le,int_nat_eq]; rfl
  rw [hv] at ih
  cases a1 : decide ((48 : Int) ≤ (i : Int)) <;> cases a2 : decide ((i : Int) ≤ 57) <;> rw [a1,a2] at ih <;> simp only [Bool.and_true,Bool.and_false,bq_tt,bq_ft] at ih
  all_goals
   rw [W_loop (L := r11_six_l1) rfl]
   simp (disch := first | assumption | omega | decide | (simp only [lens] <;> omega) | fail) only [go_sem,a1,a2,bq_tt,bq_ft]
   exact ih
theorem six68_l1_ok (R : Blk) (Q : Out → Prop) (hQ : Q (.nrm,[(2,.bx 0 0),(4,.bx 1 0)],[R,setB (sixL 68)])) : ∀ (n i : Nat),i + n = 256 →
  Wp Γ r11_six_l1 [(0,.p (.int .u8 68)),(2,.bx 0 0),(4,.bx 1 0),(5,.p (.int .i64 (i : Int)))] [R,setB ((sixL 68).take i ++ noneL.drop i)] (InBlk [2,4] 0 Q) := by
 have hl := @sixL_len 68
 have hz := noneL_len
 intro n
 induction n with
 | zero =>
  intro i hi
  obtain rfl : i = 256 := by omega
  rw [List.take_of_length_le (by omega),List.drop_of_length_le (by omega),List.append_nil]
  rw [W_loop (L := r11_six_l1) rfl]
  simp (disch := first | assumption | omega | decide | (simp only [lens] <;> omega) | fail) only [go_sem]
  exact hQ
 | succ n ih =>
  intro i hi
  have ih := ih (i + 1) (by omega)
  rw [← six_snoc (by omega)] at ih
  have hlen : ((sixL 68).take i ++ noneL.drop i).length = 256 := by rw [List.length_append,List.length_take,List.length_drop]; omega
  generalize (sixL 68).take i ++ noneL.drop i = m at *
  have hv : (inSix 68 i == decide (97 ≤ 68)) = ((decide ((48 : Int) ≤ (i : Int)) && decide ((i : Int) ≤ 57)) == false) := by
   simp only [inSix,int_nat_le,int_nat_eq]; rfl
  rw [hv] at ih
  cases a1 : decide ((48 : Int) ≤ (i : Int)) <;> cases a2 : decide ((i : Int) ≤ 57) <;> rw [a1,a2] at ih <;> simp only [Bool.and_true,Bool.and_false,bq_tf,bq_ff] at ih
  all_goals
   rw [W_loop (L := r11_six_l1) rfl]
   simp (disch := first | assumption | omega | decide | (simp only [lens] <;> omega) | fail) only [go_sem,a1,a2,bq_tf,bq_ff]
   exact ih
theorem six119_l1_ok (R : Blk) (Q : Out → Prop) (hQ : Q (.nrm,[(2,.bx 0 0),(4,.bx 1 0)],[R,setB (sixL 119)])) : ∀ (n i : Nat),i + n = 256 →
  Wp Γ r11_six_l1 [(0,.p (.int .u8 119)),(2,.bx 0 0),(4,.bx 1 0),(5,.p (.int .i64 (i : Int)))] [R,setB ((sixL 119).take i ++ noneL.drop i)] (InBlk [2,4] 0 Q) := by
 have hl := @sixL_len 119
 have hz := noneL_len
 intro n
 induction n with
 | zero =>
  intro i hi
  obtain rfl : i = 256 := by omega
  rw [List.take_of_length_le (by omega),List.drop_of_length_le (by omega),List.append_nil]
  rw [W_loop (L := r11_six_l1) rfl]
  simp (disch := first | assumption | omega | decide | (simp only [lens] <;> omega) | fail) only [go_sem]
  exact hQ
 | succ n ih =>
  intro i hi
  have ih := ih (i + 1) (by omega)
  rw [← six_snoc (by omega)] at ih
  have hlen : ((sixL 119).take i ++ noneL.drop i).length = 256 := by rw [List.length_append,List.length_take,List.length_drop]; omega
  generalize (sixL 119).take i ++ noneL.drop i = m at *
  have hw := res_word i (by omega)
  have hv : (inSix 119 i == decide (97 ≤ 119)) = ((wordN i || decide ((i : Int) = 95)) == true) := by
   simp only [inSix,int_nat_le,int_nat_eq]; rfl
  rw [hv] at ih
  cases a1 : wordN i <;> cases a2 : decide ((i : Int) = 95) <;> rw [a1] at hw <;> rw [a1,a2] at ih <;> simp only [Bool.or_true,Bool.or_false,bq_tt,bq_ft] at ih
  all_goals
   rw [W_loop (L := r11_six_l1) rfl]
   simp (disch := first | assumption | omega | decide | (simp only [lens] <;> omega) | fail) only [go_sem,hw,a2,bq_tt,bq_ft]
   exact ih
theorem six87_l1_ok (R : Blk) (Q : Out → Prop) (hQ : Q (.nrm,[(2,.bx 0 0),(4,.bx 1 0)],[R,setB (sixL 87)])) : ∀ (n i : Nat),i + n = 256 →
  Wp Γ r11_six_l1 [(0,.p (.int .u8 87)),(2,.bx 0 0),(4,.bx 1 0),(5,.p (.int .i64 (i : Int)))] [R,setB ((sixL 87).take i ++ noneL.drop i)] (InBlk [2,4] 0 Q) := by
 have hl := @sixL_len 87
 have hz := noneL_len
 intro n
 induction n with
 | zero =>
  intro i hi
  obtain rfl : i = 256 := by omega
  rw [List.take_of_length_le (by omega),List.drop_of_length_le (by omega),List.append_nil]
  rw [W_loop (L := r11_six_l1) rfl]
  simp (disch := first | assumption | omega | decide | (simp only [lens] <;> omega) | fail) only [go_sem]
  exact hQ
 | succ n ih =>
  intro i hi
  have ih := ih (i + 1) (by omega)
  rw [← six_snoc (by omega)] at ih
  have hlen : ((sixL 87).take i ++ noneL.drop i).length = 256 := by rw [List.length_append,List.length_take,List.length_drop]; omega
  generalize (sixL 87).take i ++ noneL.drop i = m at *
  have hw := res_word i (by omega)
  have hv : (inSix 87 i == decide (97 ≤ 87)) = ((wordN i || decide ((i : Int) = 95)) == false) := by
   simp only [inSix,int_nat_le,int_nat_eq]; rfl
  rw [hv] at ih
  cases a1 : wordN i <;> cases a2 : decide ((i : Int) = 95) <;> rw [a1] at hw <;> rw [a1,a2] at ih <;> simp only [Bool.or_true,Bool.or_false,bq_tf,bq_ff] at ih
  all_goals
   rw [W_loop (L := r11_six_l1) rfl]
   simp (disch := first | assumption | omega | decide | (simp only [lens] <;> omega) | fail) only [go_sem,hw,a2,bq_tf,bq_ff]
   exact ih
theorem six115_l1_ok (R : Blk) (Q : Out → Prop) (hQ : Q (.nrm,[(2,.bx 0 0),(4,.bx 1 0)],[R,setB (sixL 115)])) : ∀ (n i : Nat),i + n = 256 →
  Wp Γ r11_six_l1 [(0,.p (.int .u8 115)),(2,.bx 0 0),(4,.bx 1 0),(5,.p (.int .i64 (i : Int)))] [R,setB ((sixL 115).take i ++ noneL.drop i)] (InBlk [2,4] 0 Q) := by
 have hl := @sixL_len 115
 have hz := noneL_len
 intro n
 induction n with
 | zero =>
  intro i hi
  obtain rfl : i = 256 := by omega
  rw [List.take_of_length_le (by omega),List.drop_of_length_le (by omega),List.append_nil]
  rw [W_loop (L := r11_six_l1) rfl]
  simp (disch := first | assumption | omega | decide | (simp only [lens] <;> omega) | fail) only [go_sem]
  exact hQ
 | succ n ih =>
  intro i hi
  have ih := ih (i + 1) (by omega)
  rw [← six_snoc (by omega)] at ih
  have hlen : ((sixL 115).take i ++ noneL.drop i).length = 256 := by rw [List.length_append,List.length_take,List.length_drop]; omega
  generalize (sixL 115).take i ++ noneL.drop i = m at *
  have hv : (inSix 115 i == decide (97 ≤ 115)) = (((decide ((9 : Int) ≤ (i : Int)) && decide ((i : Int) ≤ 13)) || decide ((i : Int) = 32)) == true) := by
   simp only [inSix,int_nat_le,int_nat_eq]; rfl
  rw [hv] at ih
  cases a1 : decide ((9 : Int) ≤ (i : Int)) <;> cases a2 : decide ((i : Int) ≤ 13) <;> cases a3 : decide ((i : Int) = 32) <;> rw [a1,a2,a3] at ih <;> simp only [Bool.and_true,Bool.and_false,Bool.or_true,Bool.or_false,bq_tt,bq_ft] at ih
  all_goals
   rw [W_loop (L := r11_six_l1) rfl]
   simp (disch := first | assumption | omega | decide | (simp only [lens] <;> omega) | fail) only [go_sem,a1,a2,a3,bq_tt,bq_ft]
   exact ih
theorem six83_l1_ok (R : Blk) (Q : Out → Prop) (hQ : Q (.nrm,[(2,.bx 0 0),(4,.bx 1 0)],[R,setB (sixL 83)])) : ∀ (n i : Nat),i + n = 256 →
  Wp Γ r11_six_l1 [(0,.p (.int .u8 83)),(2,.bx 0 0),(4,.bx 1 0),(5,.p (.int .i64 (i : Int)))] [R,setB ((sixL 83).take i ++ noneL.drop i)] (InBlk [2,4] 0 Q) := by
 have hl := @sixL_len 83
 have hz := noneL_len
 intro n
 induction n with
 | zero =>
  intro i hi
  obtain rfl : i = 256 := by omega
  rw [List.take_of_length_le (by omega),List.drop_of_length_le (by omega),List.append_nil]
  rw [W_loop (L := r11_six_l1) rfl]
  simp (disch := first | assumption | omega | decide | (simp only [lens] <;> omega) | fail) only [go_sem]
  exact hQ
 | succ n ih =>
  intro i hi
  have ih := ih (i + 1) (by omega)
  rw [← six_snoc (by omega)] at ih
  have hlen : ((sixL 83).take i ++ noneL.drop i).length = 256 := by rw [List.length_append,List.length_take,List.length_drop]; omega
  generalize (sixL 83).take i ++ noneL.drop i = m at *
  have hv : (inSix 83 i == decide (97 ≤ 83)) = (((decide ((9 : Int) ≤ (i : Int)) && decide ((i : Int) ≤ 13)) || decide ((i : Int) = 32)) == false) := by
   simp only [inSix,int_nat_le,int_nat_eq]; rfl
  rw [hv] at ih
  cases a1 : decide ((9 : Int) ≤ (i : Int)) <;> cases a2 : decide ((i : Int) ≤ 13) <;> cases a3 : decide ((i : Int) = 32) <;> rw [a1,a2,a3] at ih <;> simp only [Bool.and_true,Bool.and_false,Bool.or_true,Bool.or_false,bq_tf,bq_ff] at ih
  all_goals
   rw [W_loop (L := r11_six_l1) rfl]
   simp (disch := first | assumption | omega | decide | (simp only [lens] <;> omega) | fail) only [go_sem,a1,a2,a3,bq_tf,bq_ff]
   exact ih
end Ab
