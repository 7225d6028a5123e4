import Derived.Test.YtlgclfmmnifgoaaGreatDoorAbB3
import GoSem.ClaimOpenFrom
import GoSem.ClaimJoined
import Derived.KernelRfl
import Derived.Test.YtlgclfmmnifgoaaGreatDoorAbW2
namespace Ab
open Go (IntKind World Value Addr Obj Program TypeId)
theorem yP {Γ : Ctx} {N : Names} {W : World} (h0 : ∀ n cs,Γ.gl n = some cs → False) (h : ∀ n ∈ Γ.gi,∃ m,W.cell? ⟨N.gl n,0,none⟩ = some (.int .i64 m)) : GlRel Γ N W fun g => g < W.heap.size := by
 refine ⟨fun n cs e => (h0 n cs e).elim,fun n cs e => (h0 n cs e).elim,fun n hn => ?_⟩
 obtain ⟨m,hm⟩ := h n hn
 refine ⟨Nat.lt_of_not_le fun hle => ?_,m,hm⟩
 have e : W.heap[N.gl n]? = none := Array.getElem?_eq_none hle
 simp [World.cell?,e] at hm
end Ab
namespace Ab
open Go
def lL : List Char → List Char → List (List Char)
 | a,[] => [a.reverse]
 | a,c :: r => if c = (Char.ofNat 32) then a.reverse :: lL [] r else lL (c :: a) r
theorem gt (l : List Char) : wordsSigns l ≠ [] := by
 cases l with
 | nil => simp [wordsSigns]
 | cons c r =>
  unfold wordsSigns
  split <;> simp_all
  split <;> simp
theorem yV : ∀ (l a : List Char),lL a l = match wordsSigns l with | w :: ws => (a.reverse ++ w) :: ws | [] => [] := by
 intro l
 induction l with
 | nil => intro a; simp [lL,wordsSigns]
 | cons c r ih =>
  intro a
  by_cases hc : c = (Char.ofNat 32)
  ·subst hc
   rw [lL,if_pos rfl,ih]
   have : wordsSigns ((Char.ofNat 32) :: r) = [] :: wordsSigns r := rfl
   rw [this]
   cases h : wordsSigns r with
   | nil => exact absurd h (gt r)
   | cons w ws => simp
  ·rw [lL,if_neg hc,ih]
   have : wordsSigns (c :: r) = match wordsSigns r with | w :: ws => (c :: w) :: ws | [] => [[c]] := by
    rw [wordsSigns]
    ·cases wordsSigns r <;> rfl
    ·exact hc
   rw [this]
   cases h : wordsSigns r with
   | nil => exact absurd h (gt r)
   | cons w ws => simp
theorem qh (l : List Char) : wordsSigns l = lL [] l := by
 rw [yV]
 cases h : wordsSigns l with
 | nil => exact absurd h (gt l)
 | cons w ws => simp
theorem make_cut {P : Program} {r : List (List Char)} (h : behindMainWord (wordsSigns P.initOrder.toList) = [Char.ofNat 99,Char.ofNat 117,Char.ofNat 116] :: r) : P.make = some .cut := by
 unfold Program.make
 rw [h]
 rfl
theorem BG {P : Program} {r : List (List Char)} (h : behindMainWord (wordsSigns P.initOrder.toList) = [Char.ofNat 99,Char.ofNat 117,Char.ofNat 116] :: r) : P.headLifts = [] := by
 unfold Program.headLifts
 rw [h]
 rfl
theorem AF {P : Program} {r : List (List Char)} (h : behindMainWord (wordsSigns P.initOrder.toList) = [Char.ofNat 99,Char.ofNat 117,Char.ofNat 116] :: r) : P.liftsFinal = false := by
 unfold Program.liftsFinal
 rw [BG h,h]
 rfl
theorem zk {P : Program} {r : List (List Char)} (h : behindMainWord (wordsSigns P.initOrder.toList) = [Char.ofNat 99,Char.ofNat 117,Char.ofNat 116] :: r)
  (h1 : P.laysLater = false) (h2 : P.bearsReflect = false) (h3 : P.doorFits [] = true) : P.mayEnter = true := by
 unfold Program.mayEnter
 rw [h]
 have e : stripLifts liftWords ([Char.ofNat 99,Char.ofNat 117,Char.ofNat 116] :: r) = ([],[Char.ofNat 99,Char.ofNat 117,Char.ofNat 116] :: r) := rfl
 dsimp only
 rw [e,h1,h2]
 dsimp only
 rw [h3]
 rfl
theorem main_har {P : Program} {s : List Char} {r : List (List Char)} (h : wordsSigns P.initOrder.toList = [Char.ofNat 104,Char.ofNat 97,Char.ofNat 114,Char.ofNat 110,Char.ofNat 101,Char.ofNat 115,Char.ofNat 115] :: s :: r) (hs : isSumSigns s = true) : P.mainIs = some (true,s) := by
 unfold Program.mainIs
 rw [h]
 dsimp only
 rw [hs,if_neg (by decide),if_pos (by decide)]
end Ab
namespace Ab
open Go (IntKind BinOp UnOp World Value Addr Obj undef maxLen Program TypeId)
theorem all2_2 {α β : Type} {R : α → β → Prop} {l : List α} {a b : β} (h : All2 R l [a,b]) : ∃ p q,l = [p,q] ∧ R p a ∧ R q b := by
 match l,h with
 | [p,q],⟨h1,h2,_⟩ => exact ⟨p,q,rfl,h1,h2⟩
theorem nq {p c : PV} (h : p.one = true) (hc : p.cells = [c]) : p = c := by
 cases p <;> simp_all [PV.cells,PV.one]
theorem sd {P : Program} {n : Nat} {p : PV} {t : TypeId} (h : nT P (n + 1) p t) (ht : P.underlying t = some .string) (ha : aggB P t = some false) : ∃ s,p = .str s ∧ s.length ≤ maxLen := by
 obtain ⟨h1,h2⟩ := h
 rw [ha] at h1
 simp only [okT,ht] at h2
 obtain ⟨s,e,hs⟩ := h2
 exact ⟨s,nq (by simpa using h1) e,hs⟩
theorem AJ {P : Program} {n : Nat} {p : PV} {t : TypeId} {k : IntKind} (h : nT P (n + 1) p t) (ht : P.underlying t = some (.int k)) (ha : aggB P t = some false) : ∃ m,p = .int k m ∧ (Go.Lit.int k m).wf = true := by
 obtain ⟨h1,h2⟩ := h
 rw [ha] at h1
 simp only [okT,ht] at h2
 obtain ⟨s,e,hs⟩ := h2
 exact ⟨s,nq (by simpa using h1) e,hs⟩
theorem s8 {P : Program} {n : Nat} {p : PV} {t e : TypeId} (h : nT P (n + 1) p t) (ht : P.underlying t = some (.slice e)) (ha : aggB P t = some false) :
  ∃ k xs,p = .sl k (P.cellsOf e) xs ∧ xs.length ≤ maxLen ∧ ((k = .nil ∧ xs = []) ∨ k = .mem) ∧ ∀ x ∈ xs,nT P n x e := by
 obtain ⟨h1,h2⟩ := h
 rw [ha] at h1
 simp only [okT,ht] at h2
 obtain ⟨k,xs,e1,hs,hk,hx⟩ := h2
 exact ⟨k,xs,nq (by simpa using h1) e1,hs,hk,hx⟩
theorem i64_wf {m : Int} (h : (Go.Lit.int .i64 m).wf = true) : -9223372036854775808 ≤ m ∧ m ≤ 9223372036854775807 := by
 simp [Go.Lit.wf,IntKind.min,IntKind.max,IntKind.bits,IntKind.signed] at h
 omega
theorem xQ {P : Program} {n : Nat} {p : PV} {t e : TypeId} (h : nT P (n + 2) p t) (ht : P.underlying t = some (.slice e)) (ha : aggB P t = some false) (he : P.underlying e = some .string) (hae : aggB P e = some false) (hc : P.cellsOf e = 1) :
  ∃ kk l,p = .sl kk 1 (strs l) ∧ l.length ≤ maxLen ∧ ((kk = .nil ∧ l = []) ∨ kk = .mem) ∧ ∀ s ∈ l,s.length ≤ maxLen := by
 obtain ⟨kk,xs,rfl,hl,hk,hx⟩ := s8 h ht ha
 rw [hc]
 have key : ∀ xs : List PV,(∀ x ∈ xs,nT P (n + 1) x e) → ∃ l,xs = strs l ∧ ∀ s ∈ l,s.length ≤ maxLen := by
  intro xs
  induction xs with
  | nil => exact fun _ => ⟨[],rfl,by simp⟩
  | cons x xs ih =>
   intro hx
   obtain ⟨m,rfl,hm⟩ := sd (hx x (by simp)) he hae
   obtain ⟨ns,rfl,hns⟩ := ih fun y hy => hx y (by simp [hy])
   exact ⟨m :: ns,rfl,by simpa using ⟨hm,hns⟩⟩
 obtain ⟨ns,rfl,hns⟩ := key xs hx
 refine ⟨kk,ns,rfl,by simpa [strs] using hl,?_,hns⟩
 rcases hk with ⟨h1,h2⟩ | h
 ·exact .inl ⟨h1,by simpa [strs] using h2⟩
 ·exact .inr h
theorem wJ {Γ : Ctx} {f : Nat} {ps : List PV} (h : res Γ f ps = some [.bool true]) : ∃ m h,callOf Γ (ev Γ m) f (ps.map .p) [] = some ([.p (.bool true)],h) := by
 obtain ⟨n,⟨vs,H⟩,h1,h2⟩ := of_res h
 refine ⟨n,H,?_⟩
 rw [h1]
 match vs,h2 with
 | [v],h2 =>
  simp only [kL,uX,Option.map_some] at h2
  obtain ⟨x,hx,he⟩ := Option.bind_eq_some_iff.1 h2
  simp only [Option.some.injEq,List.cons.injEq,and_true] at he
  subst he
  congr 3
  cases v with
  | p v => rw [BQ] at hx; cases hx; rfl
  | own id n => rw [sf] at hx; obtain ⟨_,_,h⟩ := Option.map_eq_some_iff.1 hx; cases h
  | bx id off =>
   rw [wi] at hx
   obtain ⟨cs,_,h⟩ := Option.bind_eq_some_iff.1 hx
   split at h
   ·obtain ⟨_,_,h⟩ := Option.map_eq_some_iff.1 h; cases h
   ·cases h
  | el id n i off =>
   by_cases hni : n ≤ i
   ·rw [uK hni] at hx
    obtain ⟨cs,_,h⟩ := Option.bind_eq_some_iff.1 hx
    split at h <;> cases h
   ·rw [vR (by omega)] at hx
    obtain ⟨cs,_,h⟩ := Option.bind_eq_some_iff.1 hx
    obtain ⟨x,_,h⟩ := Option.bind_eq_some_iff.1 h
    split at h <;> cases h
  | mp id => simp [aq] at hx
  | agg cs => rw [ro] at hx; obtain ⟨_,_,h⟩ := Option.map_eq_some_iff.1 hx; cases h
  | clo f cs => rw [sG] at hx; obtain ⟨_,_,h⟩ := Option.map_eq_some_iff.1 hx; cases h
  | tup cs => cases hx
  | nov => cases hx
  | any => cases hx
 | [],h2 => simp [mapO] at h2
 | v :: w :: r,h2 =>
  simp only [kL] at h2
  obtain ⟨x,hx,he⟩ := Option.bind_eq_some_iff.1 h2
  obtain ⟨y,hy,he⟩ := Option.map_eq_some_iff.1 he
  obtain ⟨z,hz,hy⟩ := Option.bind_eq_some_iff.1 hy
  obtain ⟨u,hu,hy⟩ := Option.map_eq_some_iff.1 hy
  subst hy
  cases he
end Ab
