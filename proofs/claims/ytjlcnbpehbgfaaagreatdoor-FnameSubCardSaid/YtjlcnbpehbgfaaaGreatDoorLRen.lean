import Derived.Test.YtjlcnbpehbgfaaaGreatDoorAbB3
import Derived.Test.YtjlcnbpehbgfaaaGreatDoorLStr
import Derived.Test.YtjlcnbpehbgfaaaGreatDoorLIs
import Derived.Test.YtjlcnbpehbgfaaaGreatDoorAbRel
namespace Ab
open Go (IntKind BinOp UnOp World Value Addr Obj undef maxLen Program TypeId)
theorem all2_3 {α β : Type} {R : α → β → Prop} {l : List α} {a b c : β} (h : All2 R l [a,b,c]) : ∃ p q r,l = [p,q,r] ∧ R p a ∧ R q b ∧ R r c := by
 match l,h with
 | [p,q,r],⟨h1,h2,h3,_⟩ => exact ⟨p,q,r,rfl,h1,h2,h3⟩
theorem all2_4 {α β : Type} {R : α → β → Prop} {l : List α} {a b c d : β} (h : All2 R l [a,b,c,d]) : ∃ p q r s,l = [p,q,r,s] ∧ R p a ∧ R q b ∧ R r c ∧ R s d := by
 match l,h with
 | [p,q,r,s],⟨h1,h2,h3,h4,_⟩ => exact ⟨p,q,r,s,rfl,h1,h2,h3,h4⟩
theorem one_cells {p c : PV} (h : p.one = true) (hc : p.cells = [c]) : p = c := by
 cases p <;> simp_all [PV.cells,PV.one]
theorem treeT_string {P : Program} {n : Nat} {p : PV} {t : TypeId} (h : treeT P (n + 1) p t) (ht : P.underlying t = some .string) (ha : aggB P t = some false) : ∃ s,p = .str s ∧ s.length ≤ maxLen := by
 obtain ⟨h1,h2⟩ := h
 rw [ha] at h1
 simp only [okT,ht] at h2
 obtain ⟨s,e,hs⟩ := h2
 exact ⟨s,one_cells (by simpa using h1) e,hs⟩
theorem treeT_int {P : Program} {n : Nat} {p : PV} {t : TypeId} {k : IntKind} (h : treeT P (n + 1) p t) (ht : P.underlying t = some (.int k)) (ha : aggB P t = some false) : ∃ m,p = .int k m ∧ (Go.Lit.int k m).wf = true := by
 obtain ⟨h1,h2⟩ := h
 rw [ha] at h1
 simp only [okT,ht] at h2
 obtain ⟨s,e,hs⟩ := h2
 exact ⟨s,one_cells (by simpa using h1) e,hs⟩
theorem treeT_slice {P : Program} {n : Nat} {p : PV} {t e : TypeId} (h : treeT P (n + 1) p t) (ht : P.underlying t = some (.slice e)) (ha : aggB P t = some false) :
  ∃ k xs,p = .sl k (P.cellsOf e) xs ∧ xs.length ≤ maxLen ∧ ((k = .nil ∧ xs = []) ∨ k = .mem) ∧ ∀ x ∈ xs,treeT P n x e := by
 obtain ⟨h1,h2⟩ := h
 rw [ha] at h1
 simp only [okT,ht] at h2
 obtain ⟨k,xs,e1,hs,hk,hx⟩ := h2
 exact ⟨k,xs,one_cells (by simpa using h1) e1,hs,hk,hx⟩
theorem i64_wf {m : Int} (h : (Go.Lit.int .i64 m).wf = true) : -9223372036854775808 ≤ m ∧ m ≤ 9223372036854775807 := by
 simp [Go.Lit.wf,IntKind.min,IntKind.max,IntKind.bits,IntKind.signed] at h
 omega
theorem treeT_ints {P : Program} {n : Nat} {p : PV} {t e : TypeId} {k : IntKind} (h : treeT P (n + 2) p t) (ht : P.underlying t = some (.slice e)) (ha : aggB P t = some false) (he : P.underlying e = some (.int k)) (hae : aggB P e = some false) (hc : P.cellsOf e = 1) :
  ∃ kk ns,p = .sl kk 1 (ints k ns) ∧ ns.length ≤ maxLen ∧ ((kk = .nil ∧ ns = []) ∨ kk = .mem) ∧ ∀ m ∈ ns,(Go.Lit.int k m).wf = true := by
 obtain ⟨kk,xs,rfl,hl,hk,hx⟩ := treeT_slice h ht ha
 rw [hc]
 have key : ∀ xs : List PV,(∀ x ∈ xs,treeT P (n + 1) x e) → ∃ ns,xs = ints k ns ∧ ∀ m ∈ ns,(Go.Lit.int k m).wf = true := by
  intro xs
  induction xs with
  | nil => exact fun _ => ⟨[],rfl,by simp⟩
  | cons x xs ih =>
   intro hx
   obtain ⟨m,rfl,hm⟩ := treeT_int (hx x (by simp)) he hae
   obtain ⟨ns,rfl,hns⟩ := ih fun y hy => hx y (by simp [hy])
   exact ⟨m :: ns,rfl,by simpa using ⟨hm,hns⟩⟩
 obtain ⟨ns,rfl,hns⟩ := key xs hx
 refine ⟨kk,ns,rfl,by simpa [ints] using hl,?_,hns⟩
 rcases hk with ⟨h1,h2⟩ | h
 ·exact .inl ⟨h1,by simpa [ints] using h2⟩
 ·exact .inr h
theorem treeT_strs {P : Program} {n : Nat} {p : PV} {t e : TypeId} (h : treeT P (n + 2) p t) (ht : P.underlying t = some (.slice e)) (ha : aggB P t = some false) (he : P.underlying e = some .string) (hae : aggB P e = some false) (hc : P.cellsOf e = 1) :
  ∃ kk l,p = .sl kk 1 (strs l) ∧ l.length ≤ maxLen ∧ ((kk = .nil ∧ l = []) ∨ kk = .mem) ∧ ∀ s ∈ l,s.length ≤ maxLen := by
 obtain ⟨kk,xs,rfl,hl,hk,hx⟩ := treeT_slice h ht ha
 rw [hc]
 have key : ∀ xs : List PV,(∀ x ∈ xs,treeT P (n + 1) x e) → ∃ l,xs = strs l ∧ ∀ s ∈ l,s.length ≤ maxLen := by
  intro xs
  induction xs with
  | nil => exact fun _ => ⟨[],rfl,by simp⟩
  | cons x xs ih =>
   intro hx
   obtain ⟨m,rfl,hm⟩ := treeT_string (hx x (by simp)) he hae
   obtain ⟨ns,rfl,hns⟩ := ih fun y hy => hx y (by simp [hy])
   exact ⟨m :: ns,rfl,by simpa using ⟨hm,hns⟩⟩
 obtain ⟨ns,rfl,hns⟩ := key xs hx
 refine ⟨kk,ns,rfl,by simpa [strs] using hl,?_,hns⟩
 rcases hk with ⟨h1,h2⟩ | h
 ·exact .inl ⟨h1,by simpa [strs] using h2⟩
 ·exact .inr h
theorem law_of_res {Γ : Ctx} {f : Nat} {ps : List PV} (h : res Γ f ps = some [.bool true]) : ∃ m h,callOf Γ (ev Γ m) f (ps.map .p) [] = some ([.p (.bool true)],h) := by
 obtain ⟨n,⟨vs,H⟩,h1,h2⟩ := of_res h
 refine ⟨n,H,?_⟩
 rw [h1]
 match vs,h2 with
 | [v],h2 =>
  simp only [mapO_cons,mapO_nil,Option.map_some] at h2
  obtain ⟨x,hx,he⟩ := Option.bind_eq_some_iff.1 h2
  simp only [Option.some.injEq,List.cons.injEq,and_true] at he
  subst he
  congr 3
  cases v with
  | p v => rw [reify_p] at hx; cases hx; rfl
  | own id n => rw [reify_own] at hx; obtain ⟨_,_,h⟩ := Option.map_eq_some_iff.1 hx; cases h
  | bx id off =>
   rw [reify_bx] at hx
   obtain ⟨cs,_,h⟩ := Option.bind_eq_some_iff.1 hx
   split at h
   ·obtain ⟨_,_,h⟩ := Option.map_eq_some_iff.1 h; cases h
   ·cases h
  | el id n i off =>
   rw [reify_el] at hx
   obtain ⟨cs,_,h⟩ := Option.bind_eq_some_iff.1 hx
   obtain ⟨x,_,h⟩ := Option.bind_eq_some_iff.1 h
   split at h <;> cases h
  | mp id => simp [reify] at hx
  | agg cs => rw [reify_agg] at hx; obtain ⟨_,_,h⟩ := Option.map_eq_some_iff.1 hx; cases h
  | clo f cs => rw [reify_clo] at hx; obtain ⟨_,_,h⟩ := Option.map_eq_some_iff.1 hx; cases h
  | tup cs => cases hx
  | nov => cases hx
  | any => cases hx
 | [],h2 => simp [mapO] at h2
 | v :: w :: r,h2 =>
  simp only [mapO_cons] at h2
  obtain ⟨x,hx,he⟩ := Option.bind_eq_some_iff.1 h2
  obtain ⟨y,hy,he⟩ := Option.map_eq_some_iff.1 he
  obtain ⟨z,hz,hy⟩ := Option.bind_eq_some_iff.1 hy
  obtain ⟨u,hu,hy⟩ := Option.map_eq_some_iff.1 hy
  subst hy
  cases he
end Ab
namespace Ab
open Go (IntKind BinOp UnOp World Value Addr Obj undef maxLen Program TypeId)
def structIs (P : Program) (t : TypeId) (l : List TypeId) : Bool := match P.underlying t with
 | some (.struct fs) => fs.toList.map (·.type) == l
 | _ => false
theorem structIs_spec {P : Program} {t : TypeId} {l : List TypeId} (h : structIs P t l = true) : ∃ fs,P.underlying t = some (.struct fs) ∧ fs.toList.map (·.type) = l := by
 unfold structIs at h
 split at h
 ·rename_i fs hf; exact ⟨fs,hf,by simpa using h⟩
 ·cases h
structure SerT (P : Program) (t ts ti tv te tb : TypeId) : Prop where
 s : structIs P t [ts,ti,ti,tv,ti] = true
 str : P.underlying ts = some .string
 int : P.underlying ti = some (.int .i64)
 vals : P.underlying tv = some (.slice te)
 v : structIs P te [tb,ti] = true
 bool : P.underlying tb = some .bool
 cells : P.cellsOf te = 2
theorem not_one {p : PV} (h : p.one = false) : p = .agg p.cells := by cases p <;> first | rfl | cases h
theorem aggB_struct {P : Program} {t : TypeId} {fs} (h : P.underlying t = some (.struct fs)) : aggB P t = some true := by unfold aggB; rw [h]
structure Ser.Ok (k : SK) (s : Ser) : Prop where
 name : s.name.length ≤ maxLen
 start : -9223372036854775808 ≤ s.start ∧ s.start ≤ 9223372036854775807
 step : -9223372036854775808 ≤ s.step ∧ s.step ≤ 9223372036854775807
 cons : -9223372036854775808 ≤ s.cons ∧ s.cons ≤ 9223372036854775807
 len : s.vals.length ≤ maxLen
 kind : (k = .nil ∧ s.vals = []) ∨ k = .mem
 vals : ∀ x ∈ s.vals,-9223372036854775808 ≤ x.2 ∧ x.2 ≤ 9223372036854775807
theorem okT_val {P : Program} {t ts ti tv te tb : TypeId} (T : SerT P t ts ti tv te tb) {n : Nat} {x : PV} (h1 : x.one = !((aggB P te).getD true)) (h : okT P (n + 2) te x.cells) : ∃ y : Bool × Int,x = .agg (valP y) ∧ -9223372036854775808 ≤ y.2 ∧ y.2 ≤ 9223372036854775807 := by
 obtain ⟨fs,h2,h3⟩ := structIs_spec T.v
 rw [aggB_struct h2] at h1
 have e := not_one (by simpa using h1)
 simp only [okT,h2,h3,okFs] at h
 obtain ⟨a,b,e1,ha,c,d,rfl,hc,rfl⟩ := h
 simp only [T.bool] at ha
 simp only [T.int] at hc
 obtain ⟨q,rfl⟩ := ha
 obtain ⟨m,rfl,hm⟩ := hc
 rw [e1] at e
 exact ⟨(q,m),e,i64_wf hm⟩
theorem treeT_series {P : Program} {t ts ti tv te tb : TypeId} (T : SerT P t ts ti tv te tb) {n : Nat} {p : PV} (h : treeT P (n + 4) p t) : ∃ k s,p = s.pv k ∧ Ser.Ok k s := by
 obtain ⟨h1,h2⟩ := h
 obtain ⟨fs,h3,h4⟩ := structIs_spec T.s
 rw [aggB_struct h3] at h1
 have e := not_one (by simpa using h1)
 rw [okT] at h2
 simp only [h3,h4,okFs] at h2
 obtain ⟨a1,b1,e1,g1,a2,b2,rfl,g2,a3,b3,rfl,g3,a4,b4,rfl,g4,a5,b5,rfl,g5,rfl⟩ := h2
 rw [okT] at g1 g2 g3 g4 g5
 simp only [T.str] at g1
 simp only [T.int] at g2 g3 g5
 simp only [T.vals] at g4
 obtain ⟨s,rfl,hs⟩ := g1
 obtain ⟨m2,rfl,hm2⟩ := g2
 obtain ⟨m3,rfl,hm3⟩ := g3
 obtain ⟨m5,rfl,hm5⟩ := g5
 obtain ⟨k,xs,rfl,hl,hk,hx⟩ := g4
 have key : ∀ xs : List PV,(∀ x ∈ xs,x.one = !((aggB P te).getD true) ∧ okT P (n + 2) te x.cells) → ∃ l : List (Bool × Int),xs = vpv l ∧ ∀ x ∈ l,-9223372036854775808 ≤ x.2 ∧ x.2 ≤ 9223372036854775807 := by
  intro xs
  induction xs with
  | nil => exact fun _ => ⟨[],rfl,by simp⟩
  | cons x xs ih =>
   intro hx
   obtain ⟨y,rfl,hy⟩ := okT_val T (hx x (by simp)).1 (hx x (by simp)).2
   obtain ⟨l,rfl,hl⟩ := ih fun z hz => hx z (by simp [hz])
   exact ⟨y :: l,rfl,fun z hz => by
    rcases List.mem_cons.1 hz with rfl | h
    ·exact hy
    ·exact hl z h⟩
 obtain ⟨l,rfl,hv⟩ := key xs hx
 rw [vpv_len] at hl
 refine ⟨k,⟨s,m2,m3,l,m5⟩,?_,hs,i64_wf hm2,i64_wf hm3,i64_wf hm5,hl,?_,hv⟩
 ·rw [e,e1,T.cells]; rfl
 ·rcases hk with ⟨h,h'⟩ | h
  ·refine .inl ⟨h,?_⟩
   have := congrArg List.length h'
   rw [vpv_len] at this
   exact List.eq_nil_of_length_eq_zero this
  ·exact .inr h
end Ab
namespace Ab
open Go (IntKind BinOp UnOp)
theorem vpv_flatR (l : List Val) : (vpv l).all flat = true := by
 rw [List.all_eq_true]
 intro x hx
 simp only [vpv,aggs,List.mem_map] at hx
 obtain ⟨_,⟨v,_,rfl⟩,rfl⟩ := hx
 rfl
theorem resM_CloneR {kk : SK} (l : List Val) (hl : l.length ≤ 1073741824) : resM Γ 0 49 [.p (.sl kk 2 (vpv l))] [] = some ([.own 0 l.length],[.row false 2 (vpv l)]) := by
 have h := resM_fresh (Γ := Γ) (f := 49) (g := cloneG 2) (ps := [.sl kk 2 (vpv l)]) (sz := 2) (xs := vpv l) rfl (by
  simp only [cloneG]
  rw [if_pos ⟨trivial,by omega,by rw [vpv_len]; exact hl,vpv_flatR l⟩]) (by omega) (by rw [vpv_len]; exact hl)
 rw [vpv_len] at h
 exact h
theorem st49R : stillF Γ 0 49 = true := rfl
theorem res_seriesOwnR {kk : SK} (s : Ser) (hl : s.vals.length ≤ 1073741824) : res Γ 31 [s.pv kk] = some [s.pv .any] := by
 have e := resM_CloneR (kk := kk) s.vals hl
 have hw : (vpv s.vals).length = s.vals.length := vpv_len
 unfold Ser.pv
 refine res_code (fn := series_Own) rfl rfl ?_
 simp (disch := first | assumption | omega | decide | (simp only [lens] <;> omega) | fail) only [go_sem,series_Own,e,st49R]
theorem res_r18OwnR {kk : SK} (s : Ser) (h : s.vals.length ≤ 1073741824) : res Γ 34 [s.pv kk] = some [s.pv .any] := by
 have hv : (vpv s.vals).length ≤ 1073741824 := by rw [vpv_len]; exact h
 have hw : (vpv s.vals).length = s.vals.length := vpv_len
 unfold Ser.pv
 refine res_code (fn := r18_Own) rfl rfl ?_
 simp (disch := first | assumption | omega | decide | (simp only [lens] <;> omega) | fail) only [go_sem,r18_Own]
theorem r18_SameR_l1_ok {k1 k2 : SK} (a : Ser) (hv : a.vals.length ≤ 1073741824) (Q : Out → Prop) : ∀ (k i : Nat),i + k = a.vals.length →
  (∀ H,Q (.nrm,[],H)) →
  Wp Γ r18_Same_l1 [(2,.bx 0 0),(3,.bx 1 0),(5,.p (.int .i64 (i : Int)))] [.box [.p (.str a.name),.p (.int .i64 a.start),.p (.int .i64 a.step),.p (.sl k1 2 (vpv a.vals)),.p (.int .i64 a.cons)],.box [.p (.str a.name),.p (.int .i64 a.start),.p (.int .i64 a.step),.p (.sl k2 2 (vpv a.vals)),.p (.int .i64 a.cons)]] (InBlk [] 0 Q) := by
 intro k
 induction k with
 | zero =>
  intro i hi hQ
  obtain rfl : i = a.vals.length := by omega
  rw [W_loop (L := r18_Same_l1) rfl]
  simp (disch := first | assumption | omega | decide | (simp only [lens] <;> omega) | fail) only [go_sem]
  exact hQ _
 | succ k ih =>
  intro i hi hQ
  rw [W_loop (L := r18_Same_l1) rfl]
  simp (disch := first | assumption | omega | decide | (simp only [lens] <;> omega) | fail) only [go_sem,valP]
  exact ih (i + 1) (by omega) hQ
theorem res_SameR {k1 k2 : SK} (s : Ser) (hv : s.vals.length ≤ 1073741824) : res Γ 28 [s.pv k1,s.pv k2] = some [.bool true] := by
 unfold Ser.pv
 refine res_code (fn := r18_Same) rfl rfl ?_
 simp (disch := first | assumption | omega | decide | (simp only [lens] <;> omega) | fail) only [go_sem,r18_Same,ne_eq,not_true_eq_false]
 refine r18_SameR_l1_ok s hv _ s.vals.length 0 (by omega) (fun H => ?_)
 simp (disch := first | assumption | omega | decide | (simp only [lens] <;> omega) | fail) only [go_sem]
theorem res_same24R {k1 k2 : SK} (s : Ser) (hv : s.vals.length ≤ 1073741824) : res Γ 11 [s.pv k1,s.pv k2] = some [.bool true] := by
 have e := res_SameR (k1 := k1) (k2 := k2) s hv
 unfold Ser.pv at e ⊢
 refine res_code (fn := l24_same) rfl rfl ?_
 simp (disch := first | assumption | omega | decide | (simp only [lens] <;> omega) | fail) only [go_sem,l24_same,e]
def heavyR (s : Ser) : Bool := decide (120 < s.vals.length) || decide (300 < s.name.length)
theorem res_heavyR {k : SK} (s : Ser) (hv : s.vals.length ≤ 9223372036854775807) : res Γ 12 [.sl .tight 5 [s.pv k]] = some [.bool (heavyR s)] := by
 unfold Ser.pv
 refine res_code (fn := l24_heavy) rfl rfl ?_
 simp (disch := first | assumption | omega | decide | (simp only [lens] <;> omega) | fail) only [go_sem,l24_heavy]
 rw [W_loop (L := l24_heavy_l1) rfl]
 repeat' (first | (simp (disch := first | assumption | omega | decide | (simp only [lens] <;> omega) | fail) only [go_sem]) | refine cond_split (fun hc => ?_) (fun hc => ?_) | refine gd_split_f (fun hc => ?_) (fun hc => ?_) | refine gd_split_t (fun hc => ?_) (fun hc => ?_))
 ·have e : heavyR s = true := by simp [heavyR]; omega
  rw [e]
 ·have e : heavyR s = false := by simp [heavyR]; omega
  rw [W_loop (L := l24_heavy_l1) rfl]
  simp (disch := first | assumption | omega | decide | (simp only [lens] <;> omega) | fail) only [go_sem,e]
  rw [decide_eq_false (by omega)]
 ·have e : heavyR s = true := by simp [heavyR]; omega
  rw [e]
def rAlias : List UInt8 := [97,108,105,97,115]
def rNode : List UInt8 := [97,108,105,97,115,66,121,78,111,100,101]
def rSub : List UInt8 := [97,108,105,97,115,83,117,98]
def rCut : List UInt8 := [115,117,98,115,116,114]
def renS (s : Ser) (n : List UInt8) : Ser := ⟨n,s.start,s.step,s.vals,s.cons⟩
def zeroS : PV := .agg [.str [],.int .i64 0,.int .i64 0,.sl .nil 2 [],.int .i64 0]
theorem res_byNode {k kn : SK} (s : Ser) (t : PV) (ns : List Int) (hs : s.name.length ≤ 100000) (hn : ns.length ≤ 1000) (hr : ∀ n ∈ ns,-9223372036854775808 ≤ n ∧ n ≤ 9223372036854775807) :
  res Γ 312 [.agg [.str s.name,.int .i64 s.start,.int .i64 s.step,.sl k 2 (vpv s.vals),.int .i64 s.cons,t,.sl kn 1 (ints .i64 ns)]] = some [.str (joinB [46] (keyB s.name ns)),.int .i64 0] := by
 refine res_code (fn := fname_renaming_byNode) rfl rfl ?_
 simp (disch := first | assumption | omega | decide | (simp only [lens] <;> omega) | fail) only [go_sem,fname_renaming_byNode]
def placeI (i n : Int) : Int := min (if i < 0 then max i (-n) + n else i) n
theorem placeI_bounds {i n : Int} (h : 0 ≤ n) : 0 ≤ placeI i n ∧ placeI i n ≤ n := by
 unfold placeI
 split <;> omega
theorem res_place (i n : Int) (h0 : -9223372036854775808 ≤ i) (h1 : i ≤ 9223372036854775807) (hn : 0 ≤ n) (hn1 : n ≤ 1000000000) : res Γ 324 [.int .i64 i,.int .i64 n] = some [.int .i64 (placeI i n)] := by
 unfold placeI
 by_cases h : i < 0
 ·refine res_code (fn := fname_place) rfl rfl ?_
  simp (disch := first | assumption | omega | decide | (simp only [lens] <;> omega) | fail) only [go_sem,fname_place]
  rw [if_pos h,Int.zero_sub]
 ·refine res_code (fn := fname_place) rfl rfl ?_
  simp (disch := first | assumption | omega | decide | (simp only [lens] <;> omega) | fail) only [go_sem,fname_place]
  rw [if_neg h]
theorem res_held (i n : Int) (h0 : -9223372036854775808 ≤ i) (h1 : i ≤ 9223372036854775807) (hn : 0 ≤ n) (hn1 : n ≤ 1000000000) : res Γ 321 [.int .i64 i,.int .i64 n] = some [.int .i64 (placeI i n)] := by
 unfold placeI
 by_cases h : i < 0
 ·refine res_code (fn := r24_held) rfl rfl ?_
  simp (disch := first | assumption | omega | decide | (simp only [lens] <;> omega) | fail) only [go_sem,r24_held]
  rw [if_pos h,Int.zero_sub]
 ·refine res_code (fn := r24_held) rfl rfl ?_
  simp (disch := first | assumption | omega | decide | (simp only [lens] <;> omega) | fail) only [go_sem,r24_held]
  rw [if_neg h]
def cutB (s : List UInt8) (ns : List Int) : List (List UInt8) :=
 let l := splitB 46 (baseB s)
 let a := placeI (ns.getD 0 0) l.length
 let b := if 1 < ns.length ∧ ns.getD 1 0 ≠ 0 then placeI (ns.getD 1 0) l.length else l.length
 (l.take (max a b).toNat).drop a.toNat
theorem joinB_leR {sep : List UInt8} {B : Nat} : ∀ {l : List (List UInt8)},(∀ x ∈ l,x.length ≤ B) → (joinB sep l).length ≤ l.length * (B + sep.length)
 | [],_ => by simp [joinB]
 | [s],h => by have := h s (by simp); simp [joinB]; omega
 | s :: t :: r,h => by
  have ih := joinB_leR (sep := sep) (B := B) (l := t :: r) fun x hx => h x (by simp only [List.mem_cons] at hx ⊢; exact .inr hx)
  have h1 := h s (by simp)
  have e : joinB sep (s :: t :: r) = s ++ sep ++ joinB sep (t :: r) := rfl
  have e2 : (s :: t :: r).length * (B + sep.length) = (B + sep.length) + (t :: r).length * (B + sep.length) := by
   rw [List.length_cons,Nat.add_mul,Nat.one_mul,Nat.add_comm]
  rw [e,e2,List.length_append,List.length_append]
  omega
theorem cut_join {s : List UInt8} (hs : s.length ≤ 10000) {a b : Nat} : (joinB [46] (((splitB 46 (baseB s)).take a).drop b)).length ≤ 1000000000 ∧ (((splitB 46 (baseB s)).take a).drop b).length < 1000000000 := by
 have h1 := splitB_len 46 (baseB s)
 have h2 : List.count 46 (baseB s) ≤ (baseB s).length := List.count_le_length
 have h3 := baseB_len s
 have h4 : (((splitB 46 (baseB s)).take a).drop b).length ≤ 10001 := by
  rw [List.length_drop,List.length_take]; omega
 refine ⟨?_,by omega⟩
 have h5 := joinB_leR (sep := [46]) (B := 10000) (l := ((splitB 46 (baseB s)).take a).drop b) fun x hx => by
  have := splitB_mem 46 (baseB s) x (List.mem_of_mem_take (List.mem_of_mem_drop hx))
  omega
 have h6 : (((splitB 46 (baseB s)).take a).drop b).length * (10000 + [46].length) ≤ 10001 * 10001 := Nat.mul_le_mul h4 (by simp)
 omega
theorem res_substr {k kn : SK} (s : Ser) (t : PV) (ns : List Int) (hs : s.name.length ≤ 10000) (hn : ns.length ≤ 1000) (h0 : ns ≠ []) (hr : ∀ n ∈ ns,-9223372036854775808 ≤ n ∧ n ≤ 9223372036854775807) :
  res Γ 314 [.agg [.str s.name,.int .i64 s.start,.int .i64 s.step,.sl k 2 (vpv s.vals),.int .i64 s.cons,t,.sl kn 1 (ints .i64 ns)]] = some [.str (joinB [46] (cutB s.name ns)),.int .i64 0] := by
 have h3 := baseB_len s.name
 have h1 := splitB_len 46 (baseB s.name)
 have h2 : List.count 46 (baseB s.name) ≤ (baseB s.name).length := List.count_le_length
 have hj := fun a b => @cut_join s.name hs a b
 unfold cutB
 obtain ⟨l,hl⟩ : ∃ l,splitB 46 (baseB s.name) = l := ⟨_,rfl⟩
 have eP := res_nameParts (baseB s.name) (by omega)
 rw [hl] at h1 eP hj ⊢
 have hpos : 0 < ns.length := List.length_pos_iff.2 h0
 have m0 : ns.getD 0 0 ∈ ns := by rw [List.getD_eq_getElem?_getD,List.getElem?_eq_getElem hpos]; exact List.getElem_mem hpos
 have p0 := res_place (ns.getD 0 0) l.length (hr _ m0).1 (hr _ m0).2 (by omega) (by omega)
 have b0 := placeI_bounds (i := ns.getD 0 0) (n := l.length) (by omega)
 dsimp only
 by_cases c1 : 1 < ns.length
 ·have m1 : ns.getD 1 0 ∈ ns := by rw [List.getD_eq_getElem?_getD,List.getElem?_eq_getElem c1]; exact List.getElem_mem c1
  have p1 := res_place (ns.getD 1 0) l.length (hr _ m1).1 (hr _ m1).2 (by omega) (by omega)
  have b1 := placeI_bounds (i := ns.getD 1 0) (n := l.length) (by omega)
  by_cases c2 : ns.getD 1 0 = 0
  ·rw [if_neg (fun h => h.2 c2)]
   generalize placeI (ns.getD 0 0) l.length = a at *
   have e : (max a (l.length : Int)).toNat = l.length := by omega
   obtain ⟨j1,j2⟩ := hj l.length a.toNat
   rw [e]
   refine res_code (fn := fname_renaming_substr) rfl rfl ?_
   simp (disch := first | assumption | omega | decide | (simp only [lens] <;> omega) | fail) only [go_sem,fname_renaming_substr,eP,p0,c2,ne_eq,not_true_eq_false]
  ·rw [if_pos ⟨c1,c2⟩]
   generalize placeI (ns.getD 0 0) l.length = a at *
   generalize placeI (ns.getD 1 0) l.length = b at *
   obtain ⟨j1,j2⟩ := hj (max a b).toNat a.toNat
   refine res_code (fn := fname_renaming_substr) rfl rfl ?_
   simp (disch := first | assumption | omega | decide | (simp only [lens] <;> omega) | fail) only [go_sem,fname_renaming_substr,eP,p0,p1,c2,ne_eq]
 ·rw [if_neg (fun h => c1 h.1)]
  generalize placeI (ns.getD 0 0) l.length = a at *
  have e : (max a (l.length : Int)).toNat = l.length := by omega
  obtain ⟨j1,j2⟩ := hj l.length a.toNat
  rw [e]
  refine res_code (fn := fname_renaming_substr) rfl rfl ?_
  simp (disch := first | assumption | omega | decide | (simp only [lens] <;> omega) | fail) only [go_sem,fname_renaming_substr,eP,p0]
theorem res_r24cut {k kn : SK} (s : Ser) (ns : List Int) (hs : s.name.length ≤ 10000) (hn : ns.length ≤ 1000) (h0 : ns ≠ []) (hr : ∀ n ∈ ns,-9223372036854775808 ≤ n ∧ n ≤ 9223372036854775807) :
  res Γ 307 [s.pv k,.sl kn 1 (ints .i64 ns)] = some [.str (joinB [46] (cutB s.name ns))] := by
 have h3 := baseB_len s.name
 have h1 := splitB_len 46 (baseB s.name)
 have h2 : List.count 46 (baseB s.name) ≤ (baseB s.name).length := List.count_le_length
 have hj := fun a b => @cut_join s.name hs a b
 unfold cutB
 obtain ⟨l,hl⟩ : ∃ l,splitB 46 (baseB s.name) = l := ⟨_,rfl⟩
 have eP := res_r8Parts (baseB s.name) (by omega)
 rw [hl] at h1 eP hj ⊢
 have hpos : 0 < ns.length := List.length_pos_iff.2 h0
 have m0 : ns.getD 0 0 ∈ ns := by rw [List.getD_eq_getElem?_getD,List.getElem?_eq_getElem hpos]; exact List.getElem_mem hpos
 have p0 := res_held (ns.getD 0 0) l.length (hr _ m0).1 (hr _ m0).2 (by omega) (by omega)
 have b0 := placeI_bounds (i := ns.getD 0 0) (n := l.length) (by omega)
 dsimp only
 unfold Ser.pv
 by_cases c1 : 1 < ns.length
 ·have m1 : ns.getD 1 0 ∈ ns := by rw [List.getD_eq_getElem?_getD,List.getElem?_eq_getElem c1]; exact List.getElem_mem c1
  have p1 := res_held (ns.getD 1 0) l.length (hr _ m1).1 (hr _ m1).2 (by omega) (by omega)
  have b1 := placeI_bounds (i := ns.getD 1 0) (n := l.length) (by omega)
  by_cases c2 : ns.getD 1 0 = 0
  ·rw [if_neg (fun h => h.2 c2)]
   generalize placeI (ns.getD 0 0) l.length = a at *
   have e : (max a (l.length : Int)).toNat = l.length := by omega
   obtain ⟨j1,j2⟩ := hj l.length a.toNat
   rw [e]
   refine res_code (fn := r24_cut) rfl rfl ?_
   simp (disch := first | assumption | omega | decide | (simp only [lens] <;> omega) | fail) only [go_sem,r24_cut,eP,p0,c2,ne_eq,not_true_eq_false]
  ·rw [if_pos ⟨c1,c2⟩]
   generalize placeI (ns.getD 0 0) l.length = a at *
   generalize placeI (ns.getD 1 0) l.length = b at *
   obtain ⟨j1,j2⟩ := hj (max a b).toNat a.toNat
   by_cases c3 : b < a
   ·have e : max a b = a := by omega
    rw [e] at j1 j2 ⊢
    refine res_code (fn := r24_cut) rfl rfl ?_
    simp (disch := first | assumption | omega | decide | (simp only [lens] <;> omega) | fail) only [go_sem,r24_cut,eP,p0,p1,c2,ne_eq]
   ·have e : max a b = b := by omega
    rw [e] at j1 j2 ⊢
    refine res_code (fn := r24_cut) rfl rfl ?_
    simp (disch := first | assumption | omega | decide | (simp only [lens] <;> omega) | fail) only [go_sem,r24_cut,eP,p0,p1,c2,ne_eq]
 ·rw [if_neg (fun h => c1 h.1)]
  generalize placeI (ns.getD 0 0) l.length = a at *
  have e : (max a (l.length : Int)).toNat = l.length := by omega
  obtain ⟨j1,j2⟩ := hj l.length a.toNat
  rw [e]
  refine res_code (fn := r24_cut) rfl rfl ?_
  simp (disch := first | assumption | omega | decide | (simp only [lens] <;> omega) | fail) only [go_sem,r24_cut,eP,p0]
end Ab
