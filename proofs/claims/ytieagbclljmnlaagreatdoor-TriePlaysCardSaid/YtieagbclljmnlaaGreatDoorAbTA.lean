import GoSem.ClaimOpenFrom
import GoSem.ClaimJoined
import Derived.KernelRfl
import Derived.Test.YtieagbclljmnlaaGreatDoorAbB3
import Derived.Test.YtieagbclljmnlaaGreatDoorAbW
namespace Ab
open Go
def wordsF : List Char → List Char → List (List Char)
 | a,[] => [a.reverse]
 | a,c :: r => if c = (Char.ofNat 32) then a.reverse :: wordsF [] r else wordsF (c :: a) r
theorem wordsSigns_ne (l : List Char) : wordsSigns l ≠ [] := by
 cases l with
 | nil => simp [wordsSigns]
 | cons c r =>
  unfold wordsSigns
  split <;> simp_all
  split <;> simp
theorem wordsF_is : ∀ (l a : List Char),wordsF a l = match wordsSigns l with | w :: ws => (a.reverse ++ w) :: ws | [] => [] := by
 intro l
 induction l with
 | nil => intro a; simp [wordsF,wordsSigns]
 | cons c r ih =>
  intro a
  by_cases hc : c = (Char.ofNat 32)
  ·subst hc
   rw [wordsF,if_pos rfl,ih]
   have : wordsSigns ((Char.ofNat 32) :: r) = [] :: wordsSigns r := rfl
   rw [this]
   cases h : wordsSigns r with
   | nil => exact absurd h (wordsSigns_ne r)
   | cons w ws => simp
  ·rw [wordsF,if_neg hc,ih]
   have : wordsSigns (c :: r) = match wordsSigns r with | w :: ws => (c :: w) :: ws | [] => [[c]] := by
    rw [wordsSigns]
    ·cases wordsSigns r <;> rfl
    ·exact hc
   rw [this]
   cases h : wordsSigns r with
   | nil => exact absurd h (wordsSigns_ne r)
   | cons w ws => simp
theorem wordsSigns_is (l : List Char) : wordsSigns l = wordsF [] l := by
 rw [wordsF_is]
 cases h : wordsSigns l with
 | nil => exact absurd h (wordsSigns_ne l)
 | cons w ws => simp
theorem make_cut {P : Program} {r : List (List Char)} (h : behindMainWord (wordsSigns P.initOrder.toList) = [Char.ofNat 99,Char.ofNat 117,Char.ofNat 116] :: r) : P.make = some .cut := by
 unfold Program.make
 rw [h]
 rfl
theorem lifts_cut {P : Program} {r : List (List Char)} (h : behindMainWord (wordsSigns P.initOrder.toList) = [Char.ofNat 99,Char.ofNat 117,Char.ofNat 116] :: r) : P.headLifts = [] := by
 unfold Program.headLifts
 rw [h]
 rfl
theorem final_cut {P : Program} {r : List (List Char)} (h : behindMainWord (wordsSigns P.initOrder.toList) = [Char.ofNat 99,Char.ofNat 117,Char.ofNat 116] :: r) : P.liftsFinal = false := by
 unfold Program.liftsFinal
 rw [lifts_cut h,h]
 rfl
theorem enter_cut {P : Program} {r : List (List Char)} (h : behindMainWord (wordsSigns P.initOrder.toList) = [Char.ofNat 99,Char.ofNat 117,Char.ofNat 116] :: r)
  (h1 : P.laysLater = false) (h2 : P.bearsReflect = false) (h3 : P.doorFits [] = true) : P.mayEnter = true := by
 unfold Program.mayEnter
 rw [h]
 have e : stripLifts liftWords ([Char.ofNat 99,Char.ofNat 117,Char.ofNat 116] :: r) = ([],[Char.ofNat 99,Char.ofNat 117,Char.ofNat 116] :: r) := rfl
 dsimp only
 rw [e,h1,h2]
 dsimp only
 rw [h3]
 rfl
theorem main_har {P : Program} {s : List Char} {r : List (List Char)} (h : wordsSigns P.initOrder.toList = [Char.ofNat 104,Char.ofNat 97,Char.ofNat 114,Char.ofNat 110,Char.ofNat 101,Char.ofNat 115,Char.ofNat 115] :: s :: r) (hs : isSumSigns s = true) : P.mainIs = some (true,s) := by
 unfold Program.mainIs
 rw [h]
 dsimp only
 rw [hs,if_neg (by decide),if_pos (by decide)]
end Ab
namespace Ab
open Go (IntKind BinOp UnOp World Value Addr Obj undef maxLen Program TypeId)
theorem all2_1 {α β : Type} {R : α → β → Prop} {l : List α} {a : β} (h : All2 R l [a]) : ∃ p,l = [p] ∧ R p a := by
 match l,h with
 | [p],⟨h1,_⟩ => exact ⟨p,rfl,h1⟩
theorem one_cells {p c : PV} (h : p.one = true) (hc : p.cells = [c]) : p = c := by
 cases p <;> simp_all [PV.cells,PV.one]
theorem treeT_slice {P : Program} {n : Nat} {p : PV} {t e : TypeId} (h : treeT P (n + 1) p t) (ht : P.underlying t = some (.slice e)) (ha : aggB P t = some false) :
  ∃ k xs,p = .sl k (P.cellsOf e) xs ∧ xs.length ≤ maxLen ∧ ((k = .nil ∧ xs = []) ∨ k = .mem) ∧ ∀ x ∈ xs,treeT P n x e := by
 obtain ⟨h1,h2⟩ := h
 rw [ha] at h1
 simp only [okT,ht] at h2
 obtain ⟨k,xs,e1,hs,hk,hx⟩ := h2
 exact ⟨k,xs,one_cells (by simpa using h1) e1,hs,hk,hx⟩
theorem law_of_res {Γ : Ctx} {f : Nat} {ps : List PV} (h : res Γ f ps = some [.bool true]) : ∃ m h,callOf Γ (ev Γ m) f (ps.map .p) [] = some ([.p (.bool true)],h) := by
 obtain ⟨n,⟨vs,H⟩,h1,h2⟩ := of_res h
 refine ⟨n,H,?_⟩
 rw [h1]
 match vs,h2 with
 | [v],h2 =>
  simp only [mapO_cons,mapO_nil,Option.map_some] at h2
  obtain ⟨x,hx,he⟩ := Option.bind_eq_some_iff.1 h2
  simp only [Option.some.injEq,List.cons.injEq,and_true] at he
  subst he
  congr 3
  cases v with
  | p v => rw [reify_p] at hx; cases hx; rfl
  | own id n => rw [reify_own] at hx; obtain ⟨_,_,h⟩ := Option.map_eq_some_iff.1 hx; cases h
  | bx id off =>
   rw [reify_bx] at hx
   obtain ⟨cs,_,h⟩ := Option.bind_eq_some_iff.1 hx
   split at h
   ·obtain ⟨_,_,h⟩ := Option.map_eq_some_iff.1 h; cases h
   ·cases h
  | el id n i off =>
   rw [reify_el] at hx
   obtain ⟨cs,_,h⟩ := Option.bind_eq_some_iff.1 hx
   obtain ⟨x,_,h⟩ := Option.bind_eq_some_iff.1 h
   split at h <;> cases h
  | mp id => simp [reify] at hx
  | agg cs => rw [reify_agg] at hx; obtain ⟨_,_,h⟩ := Option.map_eq_some_iff.1 hx; cases h
  | clo f cs => rw [reify_clo] at hx; obtain ⟨_,_,h⟩ := Option.map_eq_some_iff.1 hx; cases h
  | tup cs => cases hx
  | nov => cases hx
  | any => cases hx
 | [],h2 => simp [mapO] at h2
 | v :: w :: r,h2 =>
  simp only [mapO_cons] at h2
  obtain ⟨x,hx,he⟩ := Option.bind_eq_some_iff.1 h2
  obtain ⟨y,hy,he⟩ := Option.map_eq_some_iff.1 he
  obtain ⟨z,hz,hy⟩ := Option.bind_eq_some_iff.1 hy
  obtain ⟨u,hu,hy⟩ := Option.map_eq_some_iff.1 hy
  subst hy
  cases he
end Ab
namespace Ab
open Go (IntKind BinOp UnOp World Value Addr Obj undef maxLen Program TypeId)
def structIs (P : Program) (t : TypeId) (l : List TypeId) : Bool := match P.underlying t with
 | some (.struct fs) => fs.toList.map (·.type) == l
 | _ => false
theorem structIs_spec {P : Program} {t : TypeId} {l : List TypeId} (h : structIs P t l = true) : ∃ fs,P.underlying t = some (.struct fs) ∧ fs.toList.map (·.type) = l := by
 unfold structIs at h
 split at h
 ·rename_i fs hf; exact ⟨fs,hf,by simpa using h⟩
 ·cases h
structure SerT (P : Program) (t ts ti tv te tb : TypeId) : Prop where
 s : structIs P t [ts,ti,ti,tv,ti] = true
 str : P.underlying ts = some .string
 int : P.underlying ti = some (.int .i64)
 vals : P.underlying tv = some (.slice te)
 v : structIs P te [tb,ti] = true
 bool : P.underlying tb = some .bool
 cells : P.cellsOf te = 2
theorem not_one {p : PV} (h : p.one = false) : p = .agg p.cells := by cases p <;> first | rfl | cases h
theorem aggB_struct {P : Program} {t : TypeId} {fs} (h : P.underlying t = some (.struct fs)) : aggB P t = some true := by unfold aggB; rw [h]
structure Ser.Ok (k : SK) (s : Ser) : Prop where
 name : s.name.length ≤ maxLen
 start : -9223372036854775808 ≤ s.start ∧ s.start ≤ 9223372036854775807
 step : -9223372036854775808 ≤ s.step ∧ s.step ≤ 9223372036854775807
 cons : -9223372036854775808 ≤ s.cons ∧ s.cons ≤ 9223372036854775807
 len : s.vals.length ≤ maxLen
 kind : (k = .nil ∧ s.vals = []) ∨ k = .mem
 vals : ∀ x ∈ s.vals,-9223372036854775808 ≤ x.2 ∧ x.2 ≤ 9223372036854775807
end Ab
namespace Ab
open Go (IntKind BinOp UnOp)
def serC (x : SK × Ser) : List PV := [.str x.2.name,.int .i64 x.2.start,.int .i64 x.2.step,.sl x.1 2 (vpv x.2.vals),.int .i64 x.2.cons]
def sers (l : List (SK × Ser)) : List PV := l.map fun x => .agg (serC x)
theorem sers_nil : sers [] = [] := rfl
attribute [go_sem] sers_nil
end Ab
namespace Ab
open Go (IntKind BinOp UnOp World Value Addr Obj undef maxLen Program TypeId)
structure ValT (P : Program) (te ti tb : TypeId) : Prop where
 int : P.underlying ti = some (.int .i64)
 v : structIs P te [tb,ti] = true
 bool : P.underlying tb = some .bool
 cells : P.cellsOf te = 2
end Ab
namespace Ab
open Go (IntKind BinOp UnOp World Value Addr Obj undef maxLen Program TypeId)
structure ActT (P : Program) (te ti ts : TypeId) : Prop where
 int : P.underlying ti = some (.int .i64)
 v : structIs P te [ti,ts] = true
 str : P.underlying ts = some .string
 cells : P.cellsOf te = 2
theorem okT_act {P : Program} {te ti ts : TypeId} (T : ActT P te ti ts) {n : Nat} {x : PV} (h1 : x.one = !((aggB P te).getD true)) (h : okT P (n + 2) te x.cells) : ∃ y : Int × List UInt8,x = .agg [.int .i64 y.1,.str y.2] := by
 obtain ⟨fs,h2,h3⟩ := structIs_spec T.v
 rw [aggB_struct h2] at h1
 have e := not_one (by simpa using h1)
 simp only [okT,h2,h3,okFs] at h
 obtain ⟨a,b,e1,ha,c,d,rfl,hc,rfl⟩ := h
 simp only [T.int] at ha
 simp only [T.str] at hc
 obtain ⟨m,rfl,hm⟩ := ha
 obtain ⟨s,rfl,hs⟩ := hc
 rw [e1] at e
 exact ⟨(m,s),e⟩
theorem treeT_acts {P : Program} {t te ti ts : TypeId} (T : ActT P te ti ts) {n : Nat} {p : PV} (h : treeT P (n + 3) p t) (ht : P.underlying t = some (.slice te)) (ha : aggB P t = some false) :
  ∃ k l,p = .sl k 2 (aggs ((l : List (Int × List UInt8)).map fun a => [.int .i64 a.1,.str a.2])) ∧ l.length ≤ maxLen := by
 obtain ⟨k,xs,rfl,hl,hk,hx⟩ := treeT_slice h ht ha
 rw [T.cells]
 have key : ∀ xs : List PV,(∀ x ∈ xs,treeT P (n + 2) x te) → ∃ l : List (Int × List UInt8),xs = aggs (l.map fun a => [.int .i64 a.1,.str a.2]) := by
  intro xs
  induction xs with
  | nil => exact fun _ => ⟨[],rfl⟩
  | cons x xs ih =>
   intro hx
   obtain ⟨g1,g2⟩ := hx x (by simp)
   obtain ⟨fs,h3,h4⟩ := structIs_spec T.v
   obtain ⟨y,rfl⟩ := okT_act T (n := n) (by rw [g1,aggB_struct h3]) g2
   obtain ⟨l,rfl⟩ := ih fun z hz => hx z (by simp [hz])
   exact ⟨y :: l,rfl⟩
 obtain ⟨l,rfl⟩ := key xs hx
 exact ⟨k,l,rfl,by simpa [aggs] using hl⟩
end Ab
