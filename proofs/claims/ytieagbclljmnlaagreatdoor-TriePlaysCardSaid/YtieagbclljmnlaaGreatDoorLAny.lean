import Derived.Test.YtieagbclljmnlaaGreatDoorLTrie5
import Derived.Test.YtieagbclljmnlaaGreatDoorAbPrim
import Derived.Test.YtieagbclljmnlaaGreatDoorAbW
namespace Ab
open Go (IntKind BinOp UnOp)
def addKid (N : Tri) (p : Path) (k : List UInt8) (b m : Nat) : Tri := fun q =>
 if q = p then (N p).map fun nd => { nd with kids := nd.kids ++ [(k,b)] } else if q = p ++ [k] then some ⟨b,m,false,[]⟩ else N q
theorem snoc_ne {p : Path} {k : List UInt8} : p ++ [k] ≠ p := fun e => by
 have := congrArg List.length e
 simp at this
def Chg (N N' : Tri) (H H' : Heap) : Prop := H.length ≤ H'.length ∧ (∀ i,i < H.length → ¬ Foot N i → H'[i]? = H[i]?) ∧ ∀ i,Foot N' i → Foot N i ∨ H.length ≤ i
theorem Chg.refl (N : Tri) (H : Heap) : Chg N N H H := ⟨Nat.le_refl _,fun _ _ _ => rfl,fun _ h => .inl h⟩
theorem Chg.trans {N N1 N2 : Tri} {H H1 H2 : Heap} (a : Chg N N1 H H1) (b : Chg N1 N2 H1 H2) : Chg N N2 H H2 :=
 ⟨Nat.le_trans a.1 b.1,fun i hi hf => (b.2.1 i (Nat.lt_of_lt_of_le hi a.1) (fun h => by rcases a.2.2 i h with h | h; exact hf h; omega)).trans (a.2.1 i hi hf),fun i h => by
  rcases b.2.2 i h with h | h
  ·exact a.2.2 i h
  ·have := a.1
   exact .inr (by omega)⟩
theorem lies_addKid {H : Heap} {N : Tri} {r n : Nat} (h : Lies H N r n) {p : Path} {nd : Nd} (hp : N p = some nd) {k : List UInt8} (hk : N (p ++ [k]) = none) :
  Lies ((H ++ [Blk.box (mapCells [])] ++ [Blk.box [.mp H.length,.p (.bool false)]]).set nd.m (Blk.box (mapCells (kidsM nd.kids ++ [(PV.str k,AV.bx (H.length + 1) 0)])))) (addKid N p k (H.length + 1) H.length) r n ∧
  Chg N (addKid N p k (H.length + 1) H.length) H ((H ++ [Blk.box (mapCells [])] ++ [Blk.box [.mp H.length,.p (.bool false)]]).set nd.m (Blk.box (mapCells (kidsM nd.kids ++ [(PV.str k,AV.bx (H.length + 1) 0)])))) := by
 have hml : nd.m < H.length := (List.getElem?_eq_some_iff.1 (h.map p nd hp)).1
 generalize hH' : (H ++ [Blk.box (mapCells [])] ++ [Blk.box [.mp H.length,.p (.bool false)]]).set nd.m (Blk.box (mapCells (kidsM nd.kids ++ [(PV.str k,AV.bx (H.length + 1) 0)]))) = H'
 have o1 : ∀ i,i < H.length → i ≠ nd.m → H'[i]? = H[i]? := fun i hi hne => by
  rw [← hH',List.getElem?_set_ne hne.symm,List.append_assoc,List.getElem?_append_left hi]
 have o2 : H'[nd.m]? = some (Blk.box (mapCells (kidsM nd.kids ++ [(PV.str k,AV.bx (H.length + 1) 0)]))) := by
  rw [← hH',List.getElem?_set_self (by simp; omega)]
 have o3 : H'[H.length]? = some (Blk.box (mapCells [])) := by
  rw [← hH',List.getElem?_set_ne (by omega),List.append_assoc,List.getElem?_append_right (Nat.le_refl _),Nat.sub_self]; rfl
 have o4 : H'[H.length + 1]? = some (Blk.box [.mp H.length,.p (.bool false)]) := by
  rw [← hH',List.getElem?_set_ne (by omega),List.append_assoc,List.getElem?_append_right (by omega),show H.length + 1 - H.length = 1 by omega]; rfl
 have hlen : H.length + 2 = H'.length := by rw [← hH']; simp
 -- the nodes of the new trie
 have a1 : addKid N p k (H.length + 1) H.length p = some { nd with kids := nd.kids ++ [(k,H.length + 1)] } := by simp [addKid,hp]
 have a2 : addKid N p k (H.length + 1) H.length (p ++ [k]) = some ⟨H.length + 1,H.length,false,[]⟩ := by simp [addKid]
 have a3 : ∀ q,q ≠ p → q ≠ p ++ [k] → addKid N p k (H.length + 1) H.length q = N q := fun q h1 h2 => by simp [addKid,h1,h2]
 have hnd : ∀ q nd',addKid N p k (H.length + 1) H.length q = some nd' → (q = p ∧ nd' = { nd with kids := nd.kids ++ [(k,H.length + 1)] }) ∨ (q = p ++ [k] ∧ nd' = ⟨H.length + 1,H.length,false,[]⟩) ∨ (q ≠ p ∧ q ≠ p ++ [k] ∧ N q = some nd') := by
  intro q nd' hq
  by_cases e1 : q = p
  ·subst e1; rw [a1] at hq; cases hq; exact .inl ⟨rfl,rfl⟩
  ·by_cases e2 : q = p ++ [k]
   ·subst e2; rw [a2] at hq; cases hq; exact .inr (.inl ⟨rfl,rfl⟩)
   ·rw [a3 q e1 e2] at hq; exact .inr (.inr ⟨e1,e2,hq⟩)
 -- every node: its places in the old trie,or new ones
 have hpl : ∀ q nd',addKid N p k (H.length + 1) H.length q = some nd' → (q = p ++ [k] ∧ nd'.b = H.length + 1 ∧ nd'.m = H.length) ∨ ∃ nd0,N q = some nd0 ∧ nd'.b = nd0.b ∧ nd'.m = nd0.m := by
  intro q nd' hq
  rcases hnd q nd' hq with ⟨rfl,rfl⟩ | ⟨rfl,rfl⟩ | ⟨_,_,h3⟩
  ·exact .inr ⟨nd,hp,rfl,rfl⟩
  ·exact .inl ⟨rfl,rfl,rfl⟩
  ·exact .inr ⟨nd',h3,rfl,rfl⟩
 have blt : ∀ q nd0,N q = some nd0 → nd0.b < H.length ∧ nd0.m < H.length := fun q nd0 hq => ⟨(List.getElem?_eq_some_iff.1 (h.box q nd0 hq)).1,(List.getElem?_eq_some_iff.1 (h.map q nd0 hq)).1⟩
 refine ⟨⟨?_,fun q nd' hq => ?_,fun q nd' hq => ?_,fun q nd' hq k' b' hk' => ?_,fun q k' nd' hq => ?_,fun q nd' hq => ?_,fun q q' nd' nd2 hq hq' e => ?_,fun q q' nd' nd2 hq hq' e => ?_,fun q q' nd' nd2 hq hq' e => ?_⟩,by omega,fun i hi hf => o1 i hi (fun e => hf ⟨p,nd,hp,.inr e.symm⟩),fun i hi => ?_⟩
 ·obtain ⟨nd0,h0,h1⟩ := h.root
  by_cases e1 : p = []
  ·subst e1
   rw [hp] at h0; cases h0
   exact ⟨_,a1,h1⟩
  ·exact ⟨nd0,(a3 [] (fun e => e1 e.symm) (by simp)).trans h0,h1⟩
 ·rcases hnd q nd' hq with ⟨rfl,rfl⟩ | ⟨rfl,rfl⟩ | ⟨h1,h2,h3⟩
  ·have hb := h.box _ nd hp
   exact (o1 nd.b (blt _ _ hp).1 (h.sep _ _ _ _ hp hp)).trans hb
  ·rw [mark_b (by simp)]
   exact o4
  ·exact (o1 nd'.b (blt _ _ h3).1 (h.sep _ _ _ _ h3 hp)).trans (h.box _ _ h3)
 ·rcases hnd q nd' hq with ⟨rfl,rfl⟩ | ⟨rfl,rfl⟩ | ⟨h1,h2,h3⟩
  ·rw [o2]
   simp [kidsM]
  ·exact o3
  ·exact (o1 nd'.m (blt _ _ h3).2 (fun e => h1 (h.injm _ _ _ _ h3 hp e))).trans (h.map _ _ h3)
 ·rcases hnd q nd' hq with ⟨rfl,rfl⟩ | ⟨rfl,rfl⟩ | ⟨h1,h2,h3⟩
  ·rcases List.mem_append.1 hk' with hk' | hk'
   ·obtain ⟨nd2,h4,h5⟩ := h.kid _ nd hp k' b' hk'
    have hne : k' ≠ k := fun e => by rw [e,hk] at h4; cases h4
    refine ⟨nd2,(a3 _ (fun e => ?_) (fun e => hne (by simpa using e))).trans h4,h5⟩
    exact snoc_ne e
   ·simp only [List.mem_singleton,Prod.mk.injEq] at hk'
    obtain ⟨rfl,rfl⟩ := hk'
    exact ⟨_,a2,rfl⟩
  ·simp at hk'
  ·obtain ⟨nd2,h4,h5⟩ := h.kid q nd' h3 k' b' hk'
   by_cases e1 : q ++ [k'] = p
   ·rw [e1] at h4 ⊢
    rw [hp] at h4; cases h4
    exact ⟨_,a1,h5⟩
   ·by_cases e2 : q ++ [k'] = p ++ [k]
    ·rw [e2,hk] at h4; cases h4
    ·exact ⟨nd2,(a3 _ e1 e2).trans h4,h5⟩
 ·rcases hnd _ nd' hq with ⟨e,rfl⟩ | ⟨e,rfl⟩ | ⟨h1,h2,h3⟩
  ·obtain ⟨nd2,h4,h5⟩ := h.up q k' nd (by rw [e]; exact hp)
   refine ⟨nd2,(a3 q (fun e2 => ?_) (fun e2 => ?_)).trans h4,h5⟩
   ·subst e2; exact snoc_ne e
   ·subst e2
    have := congrArg List.length e
    simp at this
  ·have := List.append_inj' e rfl
   obtain ⟨rfl,e2⟩ := this
   simp only [List.cons.injEq,and_true] at e2
   subst e2
   exact ⟨_,a1,by simp⟩
  ·obtain ⟨nd2,h4,h5⟩ := h.up q k' nd' h3
   by_cases e1 : q = p
   ·subst e1
    rw [hp] at h4; cases h4
    exact ⟨_,a1,by simp [h5]⟩
   ·by_cases e2 : q = p ++ [k]
    ·subst e2; rw [hk] at h4; cases h4
    ·exact ⟨nd2,(a3 q e1 e2).trans h4,h5⟩
 ·rcases hnd q nd' hq with ⟨rfl,rfl⟩ | ⟨rfl,rfl⟩ | ⟨h1,h2,h3⟩
  ·simp only [List.map_append,List.map_cons,List.map_nil]
   refine List.nodup_append.2 ⟨h.nodup _ nd hp,by simp,fun a ha b hb e => ?_⟩
   simp only [List.mem_singleton] at hb
   subst hb; subst e
   obtain ⟨x,hx,rfl⟩ := List.mem_map.1 ha
   obtain ⟨nd2,h4,_⟩ := h.kid _ nd hp x.1 x.2 hx
   rw [hk] at h4; cases h4
  ·simp
  ·exact h.nodup q nd' h3
 ·rcases hpl q nd' hq with ⟨h1,h2,_⟩ | ⟨n1,h1,h2,_⟩ <;> rcases hpl q' nd2 hq' with ⟨h3,h4,_⟩ | ⟨n2,h3,h4,_⟩
  ·rw [h1,h3]
  ·have := (blt _ _ h3).1; omega
  ·have := (blt _ _ h1).1; omega
  ·exact h.injb _ _ _ _ h1 h3 (by omega)
 ·rcases hpl q nd' hq with ⟨h1,_,h2⟩ | ⟨n1,h1,_,h2⟩ <;> rcases hpl q' nd2 hq' with ⟨h3,_,h4⟩ | ⟨n2,h3,_,h4⟩
  ·rw [h1,h3]
  ·have := (blt _ _ h3).2; omega
  ·have := (blt _ _ h1).2; omega
  ·exact h.injm _ _ _ _ h1 h3 (by omega)
 ·rcases hpl q nd' hq with ⟨h1,h2,_⟩ | ⟨n1,h1,h2,_⟩ <;> rcases hpl q' nd2 hq' with ⟨h3,_,h4⟩ | ⟨n2,h3,_,h4⟩
  ·omega
  ·have := (blt _ _ h3).2; omega
  ·have := (blt _ _ h1).1; omega
  ·exact h.sep _ _ _ _ h1 h3 (by omega)
 ·obtain ⟨q,nd',hq,he⟩ := hi
  rcases hpl q nd' hq with ⟨_,h2,h3⟩ | ⟨n1,h1,h2,h3⟩
  ·exact .inr (by omega)
  ·exact .inl ⟨q,n1,h1,by omega⟩
theorem step_ok {H : Heap} {N : Tri} {r n : Nat} (h : Lies H N r n) {p : Path} {nd : Nd} (hp : N p = some nd) (k : List UInt8) :
  ∃ N' H' nd',resW Γ 420 [.bx nd.b 0,.p (.str k)] H = some ([.bx nd'.b 0],H') ∧ Lies H' N' r n ∧ N' (p ++ [k]) = some nd' ∧ (∀ q,(∃ x,N' q = some x) ↔ (∃ x,N q = some x) ∨ q = p ++ [k]) ∧ (∀ q,leafAt N' q = leafAt N q) ∧ Chg N N' H H' := by
 have hb := h.box p nd hp
 have hm := h.map p nd hp
 have hf := h.find hp k
 cases hk : N (p ++ [k]) with
 | some nd' =>
  rw [hk] at hf
  exact ⟨N,H,nd',step_old H nd.b nd.m nd'.b _ k _ hb hm hf,h,hk,fun q => ⟨fun hq => .inl hq,fun hq => by rcases hq with hq | rfl; exact hq; exact ⟨_,hk⟩⟩,fun _ => rfl,.refl _ _⟩
 | none =>
  rw [hk] at hf
  obtain ⟨h1,h2⟩ := lies_addKid h hp hk
  refine ⟨_,_,⟨H.length + 1,H.length,false,[]⟩,step_new H nd.b nd.m _ k _ hb hm hf,h1,by simp [addKid],fun q => ?_,fun q => ?_,h2⟩
  ·by_cases e1 : q = p
   ·subst e1; simp [addKid,hp]
   ·by_cases e2 : q = p ++ [k]
    ·subst e2; simp [addKid]
    ·simp [addKid,e1,e2]
  ·by_cases e1 : q = p
   ·subst e1; simp [leafAt,addKid,hp]
   ·by_cases e2 : q = p ++ [k]
    ·subst e2; simp [leafAt,addKid,hk]
    ·simp [leafAt,addKid,e1,e2]
end Ab
namespace Ab
abbrev Tok := Bool × List Bool
def inT (t : Tok) (c : UInt8) : Bool := t.2.getD c.toNat false
def M1 (t : Tok) (a : List UInt8) : Prop := if t.1 = true then True else ∃ c,a = [c] ∧ inT t c = true
def Mt : List Tok → List UInt8 → Prop
 | [],s => s = []
 | t :: ts,s => ∃ a b,s = a ++ b ∧ M1 t a ∧ Mt ts b
theorem Mt_app {ts us : List Tok} {s : List UInt8} : Mt (ts ++ us) s ↔ ∃ a b,s = a ++ b ∧ Mt ts a ∧ Mt us b := by
 induction ts generalizing s with
 | nil =>
  constructor
  ·exact fun h => ⟨[],s,rfl,rfl,h⟩
  ·rintro ⟨a,b,rfl,ha,hb⟩
   have ha : a = [] := ha
   subst ha; exact hb
 | cons t ts ih =>
  constructor
  ·rintro ⟨a,b,rfl,h1,h2⟩
   obtain ⟨c,d,rfl,h3,h4⟩ := ih.1 h2
   exact ⟨a ++ c,d,(List.append_assoc _ _ _).symm,⟨a,c,rfl,h1,h3⟩,h4⟩
  ·rintro ⟨a,b,rfl,⟨c,d,rfl,h1,h2⟩,h3⟩
   exact ⟨c,d ++ b,List.append_assoc _ _ _,h1,ih.2 ⟨d,b,rfl,h2,h3⟩⟩
theorem Mt_star {t : Tok} {ts : List Tok} {s : List UInt8} (h : t.1 = true) : Mt (t :: ts) s ↔ ∃ j,j ≤ s.length ∧ Mt ts (s.drop j) := by
 constructor
 ·rintro ⟨a,b,rfl,_,h2⟩
  exact ⟨a.length,by simp,by simpa using h2⟩
 ·rintro ⟨j,_,h2⟩
  exact ⟨s.take j,s.drop j,(List.take_append_drop j s).symm,by simp [M1,h],h2⟩
theorem Mt_set {t : Tok} {ts : List Tok} {s : List UInt8} (h : t.1 = false) : Mt (t :: ts) s ↔ ∃ c r,s = c :: r ∧ inT t c = true ∧ Mt ts r := by
 constructor
 ·rintro ⟨a,b,rfl,h1,h2⟩
  simp only [M1,h,Bool.false_eq_true,if_false] at h1
  obtain ⟨c,rfl,hc⟩ := h1
  exact ⟨c,b,rfl,hc,h2⟩
 ·rintro ⟨c,r,rfl,hc,h2⟩
  exact ⟨[c],r,rfl,by simp only [M1,h,Bool.false_eq_true,if_false]; exact ⟨c,rfl,hc⟩,h2⟩
theorem Mt_sets_len {ts : List Tok} {s : List UInt8} (h : ∀ t ∈ ts,t.1 = false) (hm : Mt ts s) : s.length = ts.length := by
 induction ts generalizing s with
 | nil => have hm : s = [] := hm; subst hm; rfl
 | cons t ts ih =>
  obtain ⟨c,r,rfl,_,h2⟩ := (Mt_set (h t (by simp))).1 hm
  rw [List.length_cons,List.length_cons,ih (fun x hx => h x (by simp [hx])) h2]
theorem Mt_nil_iff {ts : List Tok} : Mt ts [] ↔ ∀ t ∈ ts,t.1 = true := by
 induction ts with
 | nil => simp [Mt]
 | cons t ts ih =>
  cases h : t.1
  ·rw [Mt_set h]
   constructor
   ·rintro ⟨c,r,h1,_⟩; cases h1
   ·intro h1; have := h1 t (by simp); rw [h] at this; cases this
  ·rw [Mt_star h]
   constructor
   ·rintro ⟨j,_,h2⟩
    simp only [List.drop_nil] at h2
    intro x hx
    rcases List.mem_cons.1 hx with rfl | hx
    ·exact h
    ·exact ih.1 h2 x hx
   ·exact fun h1 => ⟨0,by simp,by simpa using ih.2 fun x hx => h1 x (by simp [hx])⟩
structure Greedy (T : List Tok) (S : List UInt8) (at_ st from_ i : Nat) : Prop where
 hi : i ≤ S.length
 ha : at_ ≤ T.length
 none : st = 0 → (Mt T S ↔ Mt (T.drop at_) (S.drop i))
 some : 0 < st → st ≤ at_ ∧ from_ ≤ i ∧ at_ - st = i - from_ ∧ (∀ t ∈ (T.take at_).drop st,t.1 = false) ∧ Mt ((T.take at_).drop st) ((S.take i).drop from_) ∧
  (Mt T S ↔ ∃ j,from_ ≤ j ∧ j ≤ S.length ∧ Mt (T.drop st) (S.drop j))
theorem drop_split {α : Type} {l : List α} {a b : Nat} (h : a ≤ b) : l.drop a = (l.take b).drop a ++ l.drop b := by
 conv => lhs; rw [← List.take_append_drop b l]
 by_cases hb : b ≤ l.length
 ·rw [List.drop_append_of_le_length (by rw [List.length_take]; omega)]
 ·rw [List.take_of_length_le (by omega),List.drop_eq_nil_of_le (show l.length ≤ b by omega),List.append_nil,List.append_nil]
theorem greedy_zero {T : List Tok} {S : List UInt8} : Greedy T S 0 0 0 0 := ⟨Nat.zero_le _,Nat.zero_le _,fun _ => by simp,fun h => absurd h (by omega)⟩
theorem greedy_star {T : List Tok} {S : List UInt8} {at_ st from_ i : Nat} (g : Greedy T S at_ st from_ i) {t : Tok} (ht : T[at_]? = some t) (hs : t.1 = true) : Greedy T S (at_ + 1) (at_ + 1) i i := by
 have hlt : at_ < T.length := (List.getElem?_eq_some_iff.1 ht).1
 have hd : T.drop at_ = t :: T.drop (at_ + 1) := by rw [List.drop_eq_getElem_cons hlt,(List.getElem?_eq_some_iff.1 ht).2]
 have key : Mt (T.drop at_) (S.drop i) ↔ ∃ j,i ≤ j ∧ j ≤ S.length ∧ Mt (T.drop (at_ + 1)) (S.drop j) := by
  rw [hd,Mt_star hs]
  constructor
  ·rintro ⟨j,h1,h2⟩
   rw [List.length_drop] at h1
   have := g.hi
   exact ⟨i + j,by omega,by omega,by rw [List.drop_drop] at h2; exact h2⟩
  ·rintro ⟨j,h1,h2,h3⟩
   refine ⟨j - i,by rw [List.length_drop]; omega,?_⟩
   rw [List.drop_drop,show i + (j - i) = j by omega]; exact h3
 refine ⟨g.hi,hlt,fun h => absurd h (by omega),fun _ => ⟨Nat.le_refl _,Nat.le_refl _,by omega,?_,?_,?_⟩⟩
 ·intro x hx
  rw [List.drop_eq_nil_of_le (by rw [List.length_take]; omega)] at hx
  cases hx
 ·rw [List.drop_eq_nil_of_le (by rw [List.length_take]; omega),List.drop_eq_nil_of_le (by rw [List.length_take]; omega)]
  rfl
 ·by_cases h0 : st = 0
  ·rw [g.none h0,key]
  ·obtain ⟨h1,h2,h3,h4,h5,h6⟩ := g.some (by omega)
   rw [h6]
   have es : T.drop st = (T.take at_).drop st ++ T.drop at_ := drop_split h1
   have ln : ((T.take at_).drop st).length = at_ - st := by
    clear h6 key
    rw [List.length_drop,List.length_take]; omega
   constructor
   ·rintro ⟨j,k1,k2,k3⟩
    rw [es,Mt_app] at k3
    obtain ⟨a,b,e,m1,m2⟩ := k3
    have la := Mt_sets_len h4 m1
    rw [ln] at la
    rw [hd,Mt_star hs] at m2
    obtain ⟨q,q1,q2⟩ := m2
    have lb : S.length - j = a.length + b.length := by have := congrArg List.length e; rw [List.length_drop,List.length_append] at this; exact this
    refine ⟨j + a.length + q,by omega,by omega,?_⟩
    have eb : S.drop (j + a.length) = b := by
     rw [← List.drop_drop,e,List.drop_append_of_le_length (Nat.le_refl _),List.drop_length,List.nil_append]
    have eq : S.drop (j + a.length + q) = b.drop q := by rw [← eb,List.drop_drop]
    rw [eq]; exact q2
   ·rintro ⟨j,k1,k2,k3⟩
    refine ⟨from_,Nat.le_refl _,by have := g.hi; omega,?_⟩
    rw [es,Mt_app]
    exact ⟨(S.take i).drop from_,S.drop i,drop_split h2,h5,key.2 ⟨j,k1,k2,k3⟩⟩
theorem greedy_set {T : List Tok} {S : List UInt8} {at_ st from_ i : Nat} (g : Greedy T S at_ st from_ i) {t : Tok} {c : UInt8} (ht : T[at_]? = some t) (hs : t.1 = false) (hc : S[i]? = some c) (hm : inT t c = true) : Greedy T S (at_ + 1) st from_ (i + 1) := by
 have hlt : at_ < T.length := (List.getElem?_eq_some_iff.1 ht).1
 have hli : i < S.length := (List.getElem?_eq_some_iff.1 hc).1
 have hd : T.drop at_ = t :: T.drop (at_ + 1) := by rw [List.drop_eq_getElem_cons hlt,(List.getElem?_eq_some_iff.1 ht).2]
 have hdi : S.drop i = c :: S.drop (i + 1) := by rw [List.drop_eq_getElem_cons hli,(List.getElem?_eq_some_iff.1 hc).2]
 have tt : T.take (at_ + 1) = T.take at_ ++ [t] := by rw [List.take_add_one,ht]; rfl
 have ts : S.take (i + 1) = S.take i ++ [c] := by rw [List.take_add_one,hc]; rfl
 refine ⟨hli,hlt,fun h => ?_,fun h => ?_⟩
 ·rw [g.none h,hd,hdi,Mt_set hs]
  constructor
  ·rintro ⟨x,r,e,_,h2⟩
   cases e; exact h2
  ·exact fun h2 => ⟨c,_,rfl,hm,h2⟩
 ·obtain ⟨h1,h2,h3,h4,h5,h6⟩ := g.some h
  have d1 : (T.take (at_ + 1)).drop st = (T.take at_).drop st ++ [t] := by rw [tt,List.drop_append_of_le_length (by rw [List.length_take]; omega)]
  have d2 : (S.take (i + 1)).drop from_ = (S.take i).drop from_ ++ [c] := by rw [ts,List.drop_append_of_le_length (by rw [List.length_take]; omega)]
  have nf : st ≤ at_ + 1 ∧ from_ ≤ i + 1 ∧ at_ + 1 - st = i + 1 - from_ := by clear h6; omega
  refine ⟨nf.1,nf.2.1,nf.2.2,?_,?_,h6⟩
  ·rw [d1]
   intro x hx
   rcases List.mem_append.1 hx with hx | hx
   ·exact h4 x hx
   ·rw [List.mem_singleton] at hx; subst hx; exact hs
  ·rw [d1,d2,Mt_app]
   exact ⟨_,_,rfl,h5,(Mt_set hs).2 ⟨c,[],rfl,hm,rfl⟩⟩
def Stuck (T : List Tok) (S : List UInt8) (at_ i : Nat) : Prop := (at_ = T.length ∨ ∃ t c,T[at_]? = some t ∧ t.1 = false ∧ S[i]? = some c ∧ inT t c = false) ∧ i < S.length
theorem stuck_no {T : List Tok} {S : List UInt8} {at_ i : Nat} (h : Stuck T S at_ i) : ¬ Mt (T.drop at_) (S.drop i) := by
 obtain ⟨h1,h2⟩ := h
 rcases h1 with h1 | ⟨t,c,ht,hs,hc,hm⟩
 ·subst h1
  rw [List.drop_length]
  intro e
  have e : S.drop i = [] := e
  have := congrArg List.length e
  rw [List.length_drop,List.length_nil] at this
  omega
 ·have hlt : at_ < T.length := (List.getElem?_eq_some_iff.1 ht).1
  have hd : T.drop at_ = t :: T.drop (at_ + 1) := by rw [List.drop_eq_getElem_cons hlt,(List.getElem?_eq_some_iff.1 ht).2]
  have hdi : S.drop i = c :: S.drop (i + 1) := by rw [List.drop_eq_getElem_cons h2,(List.getElem?_eq_some_iff.1 hc).2]
  rw [hd,hdi,Mt_set hs]
  rintro ⟨x,r,e,h3,_⟩
  cases e
  rw [hm] at h3; cases h3
theorem greedy_back {T : List Tok} {S : List UInt8} {at_ st from_ i : Nat} (g : Greedy T S at_ st from_ i) (h0 : 0 < st) (h : Stuck T S at_ i) : Greedy T S st st (from_ + 1) (from_ + 1) := by
 obtain ⟨h1,h2,h3,h4,h5,h6⟩ := g.some h0
 have hn := stuck_no h
 refine ⟨by have := h.2; omega,by have := g.ha; omega,fun h => absurd h (by omega),fun _ => ⟨Nat.le_refl _,Nat.le_refl _,by omega,?_,?_,?_⟩⟩
 ·intro x hx
  rw [List.drop_eq_nil_of_le (by rw [List.length_take]; omega)] at hx
  cases hx
 ·rw [List.drop_eq_nil_of_le (by rw [List.length_take]; omega),List.drop_eq_nil_of_le (by rw [List.length_take]; omega)]
  rfl
 ·rw [h6]
  constructor
  ·rintro ⟨j,k1,k2,k3⟩
   refine ⟨j,?_,k2,k3⟩
   rcases Nat.lt_or_ge from_ j with hj | hj
   ·exact hj
   ·exfalso
    have : j = from_ := by omega
    subst this
    rw [drop_split h1,Mt_app] at k3
    obtain ⟨a,b,e,m1,m2⟩ := k3
    have la := Mt_sets_len h4 m1
    rw [List.length_drop,List.length_take] at la
    have ha := g.ha
    have ij : i = j + a.length := by clear h6; omega
    have eb : S.drop i = b := by
     rw [ij,← List.drop_drop,e,List.drop_append_of_le_length (Nat.le_refl _),List.drop_length,List.nil_append]
    rw [eb] at hn
    exact hn m2
  ·rintro ⟨j,k1,k2,k3⟩
   exact ⟨j,by omega,k2,k3⟩
theorem greedy_fail {T : List Tok} {S : List UInt8} {at_ from_ i : Nat} (g : Greedy T S at_ 0 from_ i) (h : Stuck T S at_ i) : ¬ Mt T S := by
 rw [g.none rfl]; exact stuck_no h
theorem greedy_end {T : List Tok} {S : List UInt8} {at_ st from_ : Nat} (g : Greedy T S at_ st from_ S.length) : Mt T S ↔ ∀ t ∈ T.drop at_,t.1 = true := by
 by_cases h0 : st = 0
 ·rw [g.none h0,List.drop_length,Mt_nil_iff]
 ·obtain ⟨h1,h2,h3,h4,h5,h6⟩ := g.some (by omega)
  rw [h6]
  constructor
  ·rintro ⟨j,k1,k2,k3⟩
   rw [drop_split h1,Mt_app] at k3
   obtain ⟨a,b,e,m1,m2⟩ := k3
   have la := Mt_sets_len h4 m1
   rw [List.length_drop,List.length_take] at la
   have lb : S.length - j = a.length + b.length := by have := congrArg List.length e; rw [List.length_drop,List.length_append] at this; exact this
   have ha := g.ha
   have : b = [] := List.eq_nil_of_length_eq_zero (by omega)
   subst this
   exact Mt_nil_iff.1 m2
  ·intro h
   refine ⟨from_,Nat.le_refl _,h2,?_⟩
   rw [drop_split h1,Mt_app]
   refine ⟨(S.take S.length).drop from_,S.drop S.length,drop_split h2,h5,?_⟩
   rw [List.drop_length]
   exact Mt_nil_iff.2 h
theorem Mt_snoc_star {ts : List Tok} {t : Tok} {s : List UInt8} (h : t.1 = true) : Mt (ts ++ [t]) s ↔ ∃ j,j ≤ s.length ∧ Mt ts (s.take j) := by
 rw [Mt_app]
 constructor
 ·rintro ⟨a,b,rfl,h1,h2⟩
  exact ⟨a.length,by simp,by simpa using h1⟩
 ·rintro ⟨j,_,h1⟩
  exact ⟨s.take j,s.drop j,(List.take_append_drop j s).symm,h1,(Mt_star h).2 ⟨(s.drop j).length,Nat.le_refl _,by rw [List.drop_length]; rfl⟩⟩
theorem place_star {ts : List Tok} {t : Tok} {s : List UInt8} {k : Nat} (h : t.1 = true) (hk : k < s.length) : Mt (ts ++ [t]) (s.take (k + 1)) ↔ Mt ts (s.take (k + 1)) ∨ Mt (ts ++ [t]) (s.take k) := by
 rw [Mt_snoc_star h,Mt_snoc_star h]
 simp only [List.take_take,List.length_take]
 constructor
 ·rintro ⟨j,h1,h2⟩
  by_cases hj : j = k + 1
  ·subst hj; exact .inl (by simpa using h2)
  ·exact .inr ⟨j,by omega,by rw [Nat.min_eq_left (by omega)] at h2 ⊢; exact h2⟩
 ·rintro (h1 | ⟨j,h1,h2⟩)
  ·exact ⟨k + 1,by omega,by simpa using h1⟩
  ·exact ⟨j,by omega,by rw [Nat.min_eq_left (by omega)] at h2 ⊢; exact h2⟩
theorem place_star0 {ts : List Tok} {t : Tok} {s : List UInt8} (h : t.1 = true) : Mt (ts ++ [t]) (s.take 0) ↔ Mt ts (s.take 0) := by
 rw [Mt_snoc_star h]
 constructor
 ·rintro ⟨j,h1,h2⟩; simpa using h2
 ·exact fun h1 => ⟨0,by simp,by simpa using h1⟩
theorem place_set {ts : List Tok} {t : Tok} {s : List UInt8} {k : Nat} {c : UInt8} (h : t.1 = false) (hc : s[k]? = some c) : Mt (ts ++ [t]) (s.take (k + 1)) ↔ Mt ts (s.take k) ∧ inT t c = true := by
 have e : s.take (k + 1) = s.take k ++ [c] := by rw [List.take_add_one,hc]; rfl
 rw [e,Mt_app]
 constructor
 ·rintro ⟨a,b,e2,h1,h2⟩
  obtain ⟨x,r,rfl,hx,hr⟩ := (Mt_set h).1 h2
  have hr : r = [] := hr
  subst hr
  have e3 := List.append_inj' e2 rfl
  obtain ⟨rfl,e4⟩ := e3
  cases e4
  exact ⟨h1,hx⟩
 ·rintro ⟨h1,h2⟩
  exact ⟨_,_,rfl,h1,(Mt_set h).2 ⟨c,[],rfl,h2,rfl⟩⟩
theorem place_set0 {ts : List Tok} {t : Tok} {s : List UInt8} (h : t.1 = false) : ¬ Mt (ts ++ [t]) (s.take 0) := by
 rw [List.take_zero,Mt_app]
 rintro ⟨a,b,e,_,h2⟩
 obtain ⟨x,r,rfl,_,_⟩ := (Mt_set h).1 h2
 cases a <;> cases e
end Ab
namespace Ab
def fillN (acc : List Bool) (a : Nat) : Nat → List Bool
 | 0 => acc
 | k + 1 => (fillN acc a k).set (a + k) true
theorem fillN_len {acc a k} : (fillN acc a k).length = acc.length := by
 induction k with
 | zero => rfl
 | succ k ih => rw [fillN,List.length_set,ih]
theorem fillN_get {acc : List Bool} {a k i : Nat} (hi : i < acc.length) : (fillN acc a k).getD i false = (acc.getD i false || (decide (a ≤ i) && decide (i < a + k))) := by
 induction k with
 | zero => simp only [fillN,Nat.add_zero]; by_cases h : a ≤ i <;> by_cases h2 : i < a <;> simp_all <;> omega
 | succ k ih =>
  have hl := @fillN_len acc a k
  simp only [fillN,List.getD_eq_getElem?_getD] at ih ⊢
  by_cases h : a + k = i
  ·subst h
   rw [List.getElem?_set_self (by omega)]
   simp
  ·rw [List.getElem?_set_ne h,ih]
   congr 1
   by_cases h2 : a ≤ i <;> by_cases h3 : i < a + k <;> simp [h2,h3] <;> omega
def none256 : List Bool := List.replicate 256 false
theorem none256_len : none256.length = 256 := List.length_replicate
theorem none256_get {i : Nat} : none256.getD i false = false := by
 unfold none256
 rw [List.getD_eq_getElem?_getD,List.getElem?_replicate]
 split <;> rfl
def classF : List UInt8 → List Bool → Option (List Bool)
 | [],acc => some acc
 | [a],acc => some (fillN acc a.toNat 1)
 | [a,b],acc => some (fillN (fillN acc a.toNat 1) b.toNat 1)
 | a :: b :: c :: r,acc => if b = 45 then (if c < a then none else classF r (fillN acc a.toNat (c.toNat - a.toNat + 1))) else classF (b :: c :: r) (fillN acc a.toNat 1)
def inF : List UInt8 → UInt8 → Bool
 | [],_ => false
 | [a],x => a == x
 | [a,b],x => a == x || b == x
 | a :: b :: c :: r,x => if b = 45 then ((decide (a ≤ x) && decide (x ≤ c)) || inF r x) else (a == x || inF (b :: c :: r) x)
theorem classF_len : ∀ {l : List UInt8} {acc acc' : List Bool},classF l acc = some acc' → acc'.length = acc.length
 | [],_,_,h => by simp only [classF,Option.some.injEq] at h; rw [← h]
 | [a],_,_,h => by simp only [classF,Option.some.injEq] at h; rw [← h,fillN_len]
 | [a,b],_,_,h => by simp only [classF,Option.some.injEq] at h; rw [← h,fillN_len,fillN_len]
 | a :: b :: c :: r,acc,acc',h => by
  rw [classF] at h
  split at h
  ·split at h
   ·cases h
   ·rw [classF_len h,fillN_len]
  ·rw [classF_len h,fillN_len]
theorem one_get {acc : List Bool} (ha : acc.length = 256) (a x : UInt8) : (fillN acc a.toNat 1).getD x.toNat false = (acc.getD x.toNat false || a == x) := by
 have hx := x.toNat_lt
 rw [fillN_get (by omega)]
 congr 1
 by_cases h : a = x
 ·subst h; simp
 ·have : a.toNat ≠ x.toNat := fun e => h (UInt8.toNat_inj.1 e)
  rw [beq_false_of_ne h]
  by_cases h1 : a.toNat ≤ x.toNat <;> simp [h1] <;> omega
theorem classF_get : ∀ {l : List UInt8} {acc acc' : List Bool},classF l acc = some acc' → acc.length = 256 → ∀ x : UInt8,acc'.getD x.toNat false = (acc.getD x.toNat false || inF l x)
 | [],_,_,h,_,x => by simp only [classF,Option.some.injEq] at h; rw [← h]; simp [inF]
 | [a],_,_,h,ha,x => by simp only [classF,Option.some.injEq] at h; rw [← h,one_get ha]; rfl
 | [a,b],_,_,h,ha,x => by simp only [classF,Option.some.injEq] at h; rw [← h,one_get (by rw [fillN_len,ha]),one_get ha,Bool.or_assoc]; rfl
 | a :: b :: c :: r,acc,acc',h,ha,x => by
  rw [classF] at h
  rw [inF]
  split at h
  ·rename_i hb
   rw [if_pos hb]
   split at h
   ·cases h
   ·rename_i hc
    rw [classF_get h (by rw [fillN_len,ha]) x,← Bool.or_assoc]
    congr 1
    have hx := x.toNat_lt
    rw [fillN_get (by omega)]
    congr 1
    have hca : a.toNat ≤ c.toNat := by
     have := UInt8.not_lt.1 hc
     exact UInt8.le_iff_toNat_le.1 this
    have e1 : decide (a ≤ x) = decide (a.toNat ≤ x.toNat) := decide_eq_decide.2 UInt8.le_iff_toNat_le
    have e2 : decide (x ≤ c) = decide (x.toNat < a.toNat + (c.toNat - a.toNat + 1)) := by
     refine decide_eq_decide.2 ?_
     rw [UInt8.le_iff_toNat_le]; omega
    rw [e1,e2]
  ·rename_i hb
   rw [if_neg hb,classF_get h (by rw [fillN_len,ha]) x,one_get ha,Bool.or_assoc]
def byteOk (c : UInt8) : Bool := (decide (97 ≤ c) && decide (c ≤ 122)) || (decide (65 ≤ c) && decide (c ≤ 90)) || (decide (48 ≤ c) && decide (c ≤ 57)) || c == 95 || c == 45 || c == 58 || c == 35 || c == 37 || c == 64 || c == 61
def toksF : List UInt8 → Option (List Tok)
 | [] => some []
 | c :: r =>
  if c = 42 then (toksF r).map ((true,none256) :: ·)
  else if c = 63 then (toksF r).map ((false,fillN none256 0 256) :: ·)
  else if c = 91 then
   (if ixB r 93 ≤ 0 then none else
    match classF (r.take (ixB r 93).toNat) none256 with
    | none => none
    | some st => (toksF (r.drop ((ixB r 93).toNat + 1))).map ((false,st) :: ·))
  else if byteOk c = true then (toksF r).map ((false,fillN none256 c.toNat 1) :: ·)
  else none
termination_by l => l.length
decreasing_by
 all_goals simp_wf
 all_goals omega
theorem all_get (x : UInt8) : (fillN none256 0 256).getD x.toNat false = true := by
 have hx := x.toNat_lt
 rw [fillN_get (by rw [none256_len]; omega)]
 simp; omega
theorem toks_inT {l : List UInt8} {st : List Bool} (h : classF l none256 = some st) (c : UInt8) : inT (false,st) c = inF l c := by
 unfold inT
 rw [classF_get h none256_len c,none256_get,Bool.false_or]
end Ab
namespace Ab
open Go (IntKind BinOp UnOp)
def tokP (t : Tok) : PV := .ptr (bools (t.1 :: t.2))
def ptrs (l : List Tok) : List PV := l.map tokP
theorem ptrs_len {l} : (ptrs l).length = l.length := by simp [ptrs]
theorem ptrs_one {l : List Tok} {b : Bool} {s : List Bool} : ptrs l ++ [.ptr (bools (b :: s))] = ptrs (l ++ [(b,s)]) := by simp [ptrs,tokP]
theorem ptrs_get {l : List Tok} {i : Nat} (h : i < l.length) : (ptrs l)[i]? = some (tokP (l.getD i (false,[]))) := by simp [ptrs,List.getElem?_eq_getElem h]
theorem iaddr_ptrs {H xs k' k i} (h0 : 0 ≤ i) (h : i < (xs.length : Int)) : iaddrA H 1 (.p (.sl k' 1 (ptrs xs))) (.p (.int k i)) = some (.p (.ptr [tokP (xs.getD i.toNat (false,[]))])) := by
 rw [iaddr_sl h0 (ptrs_get (by omega))]; rfl
theorem tok_any {b : Bool} {l : List Bool} : takeP 1 false (bools (b :: l)) = some (.p (.bool b)) := rfl
theorem nilchk_tok {H : Heap} {t : Tok} : nilchkA H (.p (tokP t)) = some (.p (tokP t)) := rfl
theorem tok_drop1 {t : Tok} : (bools (t.1 :: t.2)).drop 1 = bools t.2 := rfl
theorem tok_drop0 {t : Tok} : (bools (t.1 :: t.2)).drop 0 = bools (t.1 :: t.2) := rfl
attribute [go_sem] ptrs_len ptrs_one iaddr_ptrs nilchk_tok tok_drop1 tok_drop0 tok_any
end Ab
namespace Ab
open Go (IntKind BinOp UnOp)
theorem tn1 {i : Nat} : ((i : Int) + 1).toNat = i + 1 := by omega
theorem tn2 {i : Nat} : ((i : Int) + 2).toNat = i + 2 := by omega
theorem tnA {i n : Nat} : ((i : Int) + (n : Int)).toNat = i + n := by omega
theorem byt_eqG {s : List UInt8} {i : Nat} (b : UInt8) : byt s i = (b.toNat : Int) ↔ s.getD i 0 = b := by
 unfold byt
 exact ⟨fun h => UInt8.toNat_inj.1 (by omega),fun h => by rw [h]⟩
def byteI (n : Int) : Bool := byteOk n.toNat.toUInt8
theorem byteI_byt {s : List UInt8} {i : Nat} : byteI (byt s i) = byteOk (s.getD i 0) := by
 unfold byteI byt
 rw [Int.toNat_natCast,toU8_nat]
theorem ge_u8 {n : Int} {k : Nat} (h0 : 0 ≤ n) (h1 : n < 256) (hk : k < 256) : decide ((k : Int) ≤ n) = decide (UInt8.ofNat k ≤ n.toNat.toUInt8) := by
 refine decide_eq_decide.2 ?_
 rw [UInt8.le_iff_toNat_le]
 have e1 : (UInt8.ofNat k).toNat = k := by simp; omega
 have e2 : n.toNat.toUInt8.toNat = n.toNat := by simp; omega
 rw [e1,e2]; omega
theorem le_u8 {n : Int} {k : Nat} (h0 : 0 ≤ n) (h1 : n < 256) (hk : k < 256) : decide (n ≤ (k : Int)) = decide (n.toNat.toUInt8 ≤ UInt8.ofNat k) := by
 refine decide_eq_decide.2 ?_
 rw [UInt8.le_iff_toNat_le]
 have e1 : (UInt8.ofNat k).toNat = k := by simp; omega
 have e2 : n.toNat.toUInt8.toNat = n.toNat := by simp; omega
 rw [e1,e2]; omega
theorem eq_u8 {n : Int} {k : Nat} (h0 : 0 ≤ n) (h1 : n < 256) (hk : k < 256) : n = (k : Int) ↔ n.toNat.toUInt8 = UInt8.ofNat k := by
 rw [← UInt8.toNat_inj]
 have e1 : (UInt8.ofNat k).toNat = k := by simp; omega
 have e2 : n.toNat.toUInt8.toNat = n.toNat := by simp; omega
 rw [e1,e2]; omega
theorem byteI_iff {n : Int} (h0 : 0 ≤ n) (h1 : n < 256) : byteI n = true ↔ (97 ≤ n ∧ n ≤ 122) ∨ (65 ≤ n ∧ n ≤ 90) ∨ (48 ≤ n ∧ n ≤ 57) ∨ n = 95 ∨ n = 45 ∨ n = 58 ∨ n = 35 ∨ n = 37 ∨ n = 64 ∨ n = 61 := by
 have a1 := decide_eq_decide.1 (ge_u8 h0 h1 (show 97 < 256 by omega)); have a2 := decide_eq_decide.1 (le_u8 h0 h1 (show 122 < 256 by omega))
 have a3 := decide_eq_decide.1 (ge_u8 h0 h1 (show 65 < 256 by omega)); have a4 := decide_eq_decide.1 (le_u8 h0 h1 (show 90 < 256 by omega))
 have a5 := decide_eq_decide.1 (ge_u8 h0 h1 (show 48 < 256 by omega)); have a6 := decide_eq_decide.1 (le_u8 h0 h1 (show 57 < 256 by omega))
 have b1 := eq_u8 h0 h1 (show 95 < 256 by omega); have b2 := eq_u8 h0 h1 (show 45 < 256 by omega); have b3 := eq_u8 h0 h1 (show 58 < 256 by omega); have b4 := eq_u8 h0 h1 (show 35 < 256 by omega)
 have b5 := eq_u8 h0 h1 (show 37 < 256 by omega); have b6 := eq_u8 h0 h1 (show 64 < 256 by omega); have b7 := eq_u8 h0 h1 (show 61 < 256 by omega)
 unfold byteI byteOk
 simp only [Bool.or_eq_true,Bool.and_eq_true,decide_eq_true_eq,beq_iff_eq]
 generalize n.toNat.toUInt8 = c at *
 constructor
 ·rintro (((((((((⟨h,k⟩ | ⟨h,k⟩) | ⟨h,k⟩) | h) | h) | h) | h) | h) | h) | h)
  ·exact .inl ⟨a1.2 h,a2.2 k⟩
  ·exact .inr (.inl ⟨a3.2 h,a4.2 k⟩)
  ·exact .inr (.inr (.inl ⟨a5.2 h,a6.2 k⟩))
  ·exact .inr (.inr (.inr (.inl (b1.2 h))))
  ·exact .inr (.inr (.inr (.inr (.inl (b2.2 h)))))
  ·exact .inr (.inr (.inr (.inr (.inr (.inl (b3.2 h))))))
  ·exact .inr (.inr (.inr (.inr (.inr (.inr (.inl (b4.2 h)))))))
  ·exact .inr (.inr (.inr (.inr (.inr (.inr (.inr (.inl (b5.2 h))))))))
  ·exact .inr (.inr (.inr (.inr (.inr (.inr (.inr (.inr (.inl (b6.2 h)))))))))
  ·exact .inr (.inr (.inr (.inr (.inr (.inr (.inr (.inr (.inr (b7.2 h)))))))))
 ·rintro (⟨h,k⟩ | ⟨h,k⟩ | ⟨h,k⟩ | h | h | h | h | h | h | h)
  ·exact .inl (.inl (.inl (.inl (.inl (.inl (.inl (.inl (.inl ⟨a1.1 h,a2.1 k⟩))))))))
  ·exact .inl (.inl (.inl (.inl (.inl (.inl (.inl (.inl (.inr ⟨a3.1 h,a4.1 k⟩))))))))
  ·exact .inl (.inl (.inl (.inl (.inl (.inl (.inl (.inr ⟨a5.1 h,a6.1 k⟩)))))))
  ·exact .inl (.inl (.inl (.inl (.inl (.inl (.inr (b1.1 h)))))))
  ·exact .inl (.inl (.inl (.inl (.inl (.inr (b2.1 h))))))
  ·exact .inl (.inl (.inl (.inl (.inr (b3.1 h)))))
  ·exact .inl (.inl (.inl (.inr (b4.1 h))))
  ·exact .inl (.inl (.inr (b5.1 h)))
  ·exact .inl (.inr (b6.1 h))
  ·exact .inr (b7.1 h)
theorem byteI_f {n : Int} (h0 : 0 ≤ n) (h1 : n < 256) (h : ¬ ((97 ≤ n ∧ n ≤ 122) ∨ (65 ≤ n ∧ n ≤ 90) ∨ (48 ≤ n ∧ n ≤ 57) ∨ n = 95 ∨ n = 45 ∨ n = 58 ∨ n = 35 ∨ n = 37 ∨ n = 64 ∨ n = 61)) : byteI n = false := by
 cases hb : byteI n
 ·rfl
 ·exact absurd ((byteI_iff h0 h1).1 hb) h
theorem seven_ix {n : Int} (h0 : 0 ≤ n) (h1 : n < 256) : 0 ≤ ixB [95,45,58,35,37,64,61] n.toNat.toUInt8 ↔ (n = 95 ∨ n = 45 ∨ n = 58 ∨ n = 35 ∨ n = 37 ∨ n = 64 ∨ n = 61) := by
 have b1 := eq_u8 h0 h1 (show 95 < 256 by omega); have b2 := eq_u8 h0 h1 (show 45 < 256 by omega); have b3 := eq_u8 h0 h1 (show 58 < 256 by omega); have b4 := eq_u8 h0 h1 (show 35 < 256 by omega)
 have b5 := eq_u8 h0 h1 (show 37 < 256 by omega); have b6 := eq_u8 h0 h1 (show 64 < 256 by omega); have b7 := eq_u8 h0 h1 (show 61 < 256 by omega)
 generalize n.toNat.toUInt8 = c at *
 have key : ∀ l : List UInt8,0 ≤ ixB l c ↔ c ∈ l := by
  intro l
  induction l with
  | nil => simp [ixB]
  | cons b l ih =>
   simp only [ixB,List.mem_cons,beq_iff_eq]
   by_cases hb : b = c
   ·simp [hb]
   ·rw [if_neg hb]
    have hr := @ixB_nn l c
    constructor
    ·intro h
     split at h
     ·omega
     ·exact .inr (ih.1 (by omega))
    ·rintro (h | h)
     ·exact absurd h.symm hb
     ·have := ih.2 h
      rw [if_neg (by omega)]; omega
 rw [key]
 simp only [List.mem_cons,List.not_mem_nil,or_false]
 exact (or_congr b1 (or_congr b2 (or_congr b3 (or_congr b4 (or_congr b5 (or_congr b6 b7)))))).symm
@[go_sem] theorem res_nameIsByte (n : Int) (h0 : 0 ≤ n) (h1 : n < 256) : res Γ 65 [.int .u8 n] = some [.bool (byteI n)] := by
  have h7 := seven_ix h0 h1
  have ht := byteI_iff h0 h1
  have hf := byteI_f h0 h1
  refine res_code (fn := name_isByte) rfl rfl ?_
  repeat' (first | (simp (disch := first | assumption | omega | decide | (simp only [lens] <;> omega) | fail) only [go_sem]) | refine cond_split (fun hc => ?_) (fun hc => ?_) | refine gd_split_f (fun hc => ?_) (fun hc => ?_) | refine gd_split_t (fun hc => ?_) (fun hc => ?_))
  simp (disch := first | assumption | omega | decide | (simp only [lens] <;> omega) | fail) only [go_sem,name_isByte]
  repeat' (first | (simp (disch := first | assumption | omega | decide | (simp only [lens] <;> omega) | fail) only [go_sem]) | refine cond_split (fun hc => ?_) (fun hc => ?_) | refine gd_split_f (fun hc => ?_) (fun hc => ?_) | refine gd_split_t (fun hc => ?_) (fun hc => ?_))
  all_goals first
    | (rw [ht.2 (by omega)]; done)
    | (by_cases h9 : 0 ≤ ixB [95,45,58,35,37,64,61] n.toNat.toUInt8
       · rw [decide_eq_true h9,ht.2 (by have := h7.1 h9; omega)]
       · have h10 := fun h => h9 (h7.2 h)
         rw [decide_eq_false h9,hf (by omega)])
@[go_sem] theorem res_r8Byte (n : Int) (h0 : 0 ≤ n) (h1 : n < 256) : res Γ 43 [.int .u8 n] = some [.bool (byteI n)] := by
  have ht := byteI_iff h0 h1
  have hf := byteI_f h0 h1
  refine res_code (fn := r8_Byte) rfl rfl ?_
  repeat' (first | (simp (disch := first | assumption | omega | decide | (simp only [lens] <;> omega) | fail) only [go_sem,r8_Byte]) | refine cond_split (fun hc => ?_) (fun hc => ?_) | refine gd_split_f (fun hc => ?_) (fun hc => ?_) | refine gd_split_t (fun hc => ?_) (fun hc => ?_))
  all_goals first
    | (rw [ht.2 (by omega)]; done)
    | (by_cases h9 : n = 61
       · rw [decide_eq_true h9,ht.2 (by omega)]
       · rw [decide_eq_false h9,hf (by omega)])
theorem single_cut {s : List UInt8} {i : Nat} (h : i < s.length) : (s.take (i + 1)).drop i = [s.getD i 0] := by
 rw [List.take_add_one,List.getElem?_eq_getElem h,List.drop_append_of_le_length (by rw [List.length_take]; omega),List.drop_eq_nil_of_le (by rw [List.length_take]; omega)]
 simp [List.getElem?_eq_getElem h]
theorem split_one {c : UInt8} (h : c ≠ 46) : splitB 46 [c] = [[c]] := by simp [splitB,h]
theorem byt_self {c : UInt8} : byteI (byt [c] 0) = byteOk c := by rw [byteI_byt]; rfl
@[go_sem] theorem res_nameIs1 (c : UInt8) : res Γ 56 [.str [c]] = some [.bool (byteOk c)] := by
 have hb : 0 ≤ byt [c] 0 := byt_nonneg
 have hb2 : byt [c] 0 < 256 := by have := @byt_le [c] 0; omega
 by_cases h : c = 46
 ·subst h
  have e : splitB 46 [46] = [[],[]] := by decide
  refine res_code (fn := name_Is) rfl rfl ?_
  simp (disch := first | assumption | omega | decide | (simp only [lens] <;> omega) | fail) only [go_sem,name_Is,e]
  rw [W_loop (L := name_Is_l2) rfl]
  simp (disch := first | assumption | omega | decide | (simp only [lens] <;> omega) | fail) only [go_sem,strs,List.map_cons,List.map_nil,iaddr_lit,PV.cells]
  rfl
 ·refine res_code (fn := name_Is) rfl rfl ?_
  simp (disch := first | assumption | omega | decide | (simp only [lens] <;> omega) | fail) only [go_sem,name_Is,split_one h]
  rw [W_loop (L := name_Is_l2) rfl]
  simp (disch := first | assumption | omega | decide | (simp only [lens] <;> omega) | fail) only [go_sem,strs,List.map_cons,List.map_nil,iaddr_lit,PV.cells,List.cons_ne_nil]
  rw [W_loop (L := name_Is_l1) rfl]
  cases hc : byteOk c
  ·simp (disch := first | assumption | omega | decide | (simp only [lens] <;> omega) | fail) only [go_sem,byt_self,hc]
  ·simp (disch := first | assumption | omega | decide | (simp only [lens] <;> omega) | fail) only [go_sem,byt_self,hc]
   rw [W_loop (L := name_Is_l1) rfl]
   simp (disch := first | assumption | omega | decide | (simp only [lens] <;> omega) | fail) only [go_sem]
   rw [W_loop (L := name_Is_l2) rfl]
   simp (disch := first | assumption | omega | decide | (simp only [lens] <;> omega) | fail) only [go_sem]
end Ab
namespace Ab
open Go (IntKind BinOp UnOp)
def ixP (p : UInt8 → Bool) : List UInt8 → Int
 | [] => -1
 | b :: l => if p b then 0 else if ixP p l = -1 then -1 else ixP p l + 1
theorem ixP_none {p : UInt8 → Bool} : ∀ {s : List UInt8},(∀ j,j < s.length → p (s.getD j 0) = false) → ixP p s = -1
 | [],_ => rfl
 | b :: l,h => by
  have h0 := h 0 (by simp)
  have := ixP_none (s := l) (p := p) fun j hj => by have := h (j + 1) (by simpa using hj); simpa using this
  simp only [List.getD_cons_zero] at h0
  simp [ixP,h0,this]
theorem ixP_some {p : UInt8 → Bool} : ∀ {s : List UInt8} {i : Nat},i < s.length → p (s.getD i 0) = true → (∀ j,j < i → p (s.getD j 0) = false) → ixP p s = i
 | [],_,h,_,_ => by simp at h
 | b :: l,0,_,h,_ => by simp only [List.getD_cons_zero] at h; simp [ixP,h]
 | b :: l,i + 1,hi,h,hn => by
  have h0 := hn 0 (by omega)
  have := ixP_some (s := l) (p := p) (i := i) (by simpa using hi) (by simpa using h) fun j hj => by have := hn (j + 1) (by omega); simpa using this
  simp only [List.getD_cons_zero] at h0
  simp only [ixP,h0,this,Bool.false_eq_true,if_false]
  rw [if_neg (by omega)]; omega
theorem ixP_range {p : UInt8 → Bool} : ∀ {s : List UInt8},-1 ≤ ixP p s ∧ ixP p s < s.length
 | [] => by simp [ixP]
 | b :: l => by have := ixP_range (p := p) (s := l); simp only [ixP,List.length_cons]; split <;> (try split) <;> omega
theorem get_mk (s : List UInt8) (j : Nat) : (⟨s.toArray⟩ : ByteArray).get! j = s.getD j 0 := by
 simp only [ByteArray.get!,List.getElem!_toArray,List.getD_eq_getElem?_getD]
 by_cases h : j < s.length
 ·simp [h]
 ·simp [h]; rfl
theorem rune_ascii {s : List UInt8} {i : Nat} (h : (s.getD i 0).toNat < 128) : runeAt s i = ((s.getD i 0).toNat,1) := by
 unfold runeAt Go.Utf8.decode
 simp only [get_mk,Nat.add_zero]
 rw [if_pos h]
theorem rune_other {s : List UInt8} {i : Nat} (hi : i < s.length) (h : ¬ (s.getD i 0).toNat < 128) :
  128 ≤ (runeAt s i).1 ∧ (runeAt s i).1 < 1114112 ∧ 1 ≤ (runeAt s i).2 ∧ i + (runeAt s i).2 ≤ s.length ∧ ∀ j,j < (runeAt s i).2 → 128 ≤ (s.getD (i + j) 0).toNat := by
 have one : 128 ≤ (65533 : Nat) ∧ (65533 : Nat) < 1114112 ∧ 1 ≤ 1 ∧ i + 1 ≤ s.length ∧ ∀ j,j < 1 → 128 ≤ (s.getD (i + j) 0).toNat := by
  refine ⟨by omega,by omega,by omega,by omega,fun j hj => ?_⟩
  obtain rfl : j = 0 := by omega
  simpa using h
 have hsz : (⟨s.toArray⟩ : ByteArray).size = s.length := by simp [ByteArray.size]
 unfold runeAt Go.Utf8.decode
 simp only [get_mk,Nat.add_zero,hsz]
 rw [if_neg h]
 have hc : ∀ k,(decide (i + k < s.length) && (s.getD (i + k) 0).toNat / 64 == 2) = true → i + k < s.length ∧ 128 ≤ (s.getD (i + k) 0).toNat := by
  intro k hk
  simp only [Bool.and_eq_true,decide_eq_true_eq,beq_iff_eq] at hk
  omega
 split
 ·rename_i h2
  simp only [Bool.and_eq_true] at h2
  have h3 := hc 1 (by simpa using h2.2)
  split
  ·refine ⟨by assumption,by simp only; omega,by simp only; omega,by simp only; omega,fun j hj => ?_⟩
   simp only at hj
   match j,hj with
   | 0,_ => simpa using h
   | 1,_ => exact h3.2
  ·exact one
 ·split
  ·rename_i h2
   simp only [Bool.and_eq_true] at h2
   have h3 := hc 1 (by simpa using h2.1.2)
   have h4 := hc 2 (by simpa using h2.2)
   split
   ·rename_i h5
    simp only [Bool.and_eq_true,decide_eq_true_eq] at h5
    refine ⟨by simp only; omega,by simp only; omega,by simp only; omega,by simp only; omega,fun j hj => ?_⟩
    simp only at hj
    match j,hj with
    | 0,_ => simpa using h
    | 1,_ => exact h3.2
    | 2,_ => exact h4.2
   ·exact one
  ·split
   ·rename_i h2
    simp only [Bool.and_eq_true] at h2
    have h3 := hc 1 (by simpa using h2.1.1.2)
    have h4 := hc 2 (by simpa using h2.1.2)
    have h6 := hc 3 (by simpa using h2.2)
    split
    ·rename_i h5
     simp only [Bool.and_eq_true,decide_eq_true_eq,Go.Utf8.valid,Bool.or_eq_true] at h5
     refine ⟨by simp only; omega,by simp only; omega,by simp only; omega,by simp only; omega,fun j hj => ?_⟩
     simp only at hj
     match j,hj with
     | 0,_ => simpa using h
     | 1,_ => exact h3.2
     | 2,_ => exact h4.2
     | 3,_ => exact h6.2
    ·exact one
   ·exact one
theorem enc_last {r : Nat} (h : 128 ≤ r) : 2 ≤ (Go.Utf8.encode r).data.toList.length ∧ (Go.Utf8.encode r).data.toList.length ≤ 4 ∧ 128 ≤ byt (Go.Utf8.encode r).data.toList ((Go.Utf8.encode r).data.toList.length - 1) := by
 have b : ∀ n : Nat,n < 64 → 128 ≤ ((UInt8.ofNat (128 + n)).toNat : Int) := by intro n hn; simp; omega
 unfold Go.Utf8.encode
 have h0 : ∀ c : Nat,¬ c < 128 → 2 ≤ (if c < 128 then (⟨#[UInt8.ofNat c]⟩ : ByteArray) else if c < 2048 then ⟨#[UInt8.ofNat (192 + c / 64),UInt8.ofNat (128 + c % 64)]⟩ else if c < 65536 then ⟨#[UInt8.ofNat (224 + c / 4096),UInt8.ofNat (128 + c / 64 % 64),UInt8.ofNat (128 + c % 64)]⟩ else ⟨#[UInt8.ofNat (240 + c / 262144),UInt8.ofNat (128 + c / 4096 % 64),UInt8.ofNat (128 + c / 64 % 64),UInt8.ofNat (128 + c % 64)]⟩).data.toList.length ∧
   (if c < 128 then (⟨#[UInt8.ofNat c]⟩ : ByteArray) else if c < 2048 then ⟨#[UInt8.ofNat (192 + c / 64),UInt8.ofNat (128 + c % 64)]⟩ else if c < 65536 then ⟨#[UInt8.ofNat (224 + c / 4096),UInt8.ofNat (128 + c / 64 % 64),UInt8.ofNat (128 + c % 64)]⟩ else ⟨#[UInt8.ofNat (240 + c / 262144),UInt8.ofNat (128 + c / 4096 % 64),UInt8.ofNat (128 + c / 64 % 64),UInt8.ofNat (128 + c % 64)]⟩).data.toList.length ≤ 4 ∧
   128 ≤ byt (if c < 128 then (⟨#[UInt8.ofNat c]⟩ : ByteArray) else if c < 2048 then ⟨#[UInt8.ofNat (192 + c / 64),UInt8.ofNat (128 + c % 64)]⟩ else if c < 65536 then ⟨#[UInt8.ofNat (224 + c / 4096),UInt8.ofNat (128 + c / 64 % 64),UInt8.ofNat (128 + c % 64)]⟩ else ⟨#[UInt8.ofNat (240 + c / 262144),UInt8.ofNat (128 + c / 4096 % 64),UInt8.ofNat (128 + c / 64 % 64),UInt8.ofNat (128 + c % 64)]⟩).data.toList
    ((if c < 128 then (⟨#[UInt8.ofNat c]⟩ : ByteArray) else if c < 2048 then ⟨#[UInt8.ofNat (192 + c / 64),UInt8.ofNat (128 + c % 64)]⟩ else if c < 65536 then ⟨#[UInt8.ofNat (224 + c / 4096),UInt8.ofNat (128 + c / 64 % 64),UInt8.ofNat (128 + c % 64)]⟩ else ⟨#[UInt8.ofNat (240 + c / 262144),UInt8.ofNat (128 + c / 4096 % 64),UInt8.ofNat (128 + c / 64 % 64),UInt8.ofNat (128 + c % 64)]⟩).data.toList.length - 1) := by
  intro c hc
  rw [if_neg hc]
  split
  ·exact ⟨by simp,by simp,b _ (by omega)⟩
  ·split
   ·exact ⟨by simp,by simp,b _ (by omega)⟩
   ·exact ⟨by simp,by simp,b _ (by omega)⟩
 by_cases hv : Go.Utf8.valid (r : Int) = true
 ·simp only [hv,if_true,Int.toNat_natCast]
  exact h0 r (by omega)
 ·simp only [hv]
  exact h0 65533 (by omega)
def chrB (chars : List UInt8) : List Bool := (List.range 256).map fun i => chars.any fun c => c.toNat == i
theorem chrB_len {chars} : (chrB chars).length = 256 := by simp [chrB]
theorem chrB_get {chars : List UInt8} {i : Nat} (h : i < 256) : (chrB chars).getD i false = chars.any fun c => c.toNat == i := by
 simp [chrB,h]
theorem chrB_set {chars : List UInt8} {c : UInt8} : (chrB chars).set c.toNat true = chrB (chars ++ [c]) := by
 apply List.ext_getElem
 ·simp [chrB]
 ·intro i h1 h2
  have hi : i < 256 := by simpa [chrB] using h2
  rw [List.getElem_set]
  simp only [chrB,List.getElem_map,List.getElem_range,List.any_append,List.any_cons,List.any_nil,Bool.or_false]
  by_cases h : c.toNat = i
  ·simp [h]
  ·have : (c.toNat == i) = false := by simpa using h
   simp [h,this]
theorem makeASCIISet_l1_ok (s : List UInt8) (hs : s.length < 1000000000) (ha : ∀ b ∈ s,b.toNat < 128) (Q : Out → Prop) : ∀ (rest done : List UInt8) (i : Nat),s.drop i = rest → done.length = i → done ++ rest = s →
  (Q (.nrm,[(2,.bx 0 0)],[.box ((bools (chrB s)).map .p)])) →
  Wp Γ strings_makeASCIISet_l1 [(0,.p (.str s)),(2,.bx 0 0),(4,.p (.int .i64 (i : Int)))] [.box ((bools (chrB done)).map .p)] (InBlk [2] 0 Q) := by
 intro rest
 induction rest with
 | nil =>
  intro done i h1 h2 h3 hQ
  have h4 : s.length ≤ i := by simpa using h1
  rw [List.append_nil] at h3
  subst h3
  rw [W_loop (L := strings_makeASCIISet_l1) rfl]
  simp (disch := first | assumption | omega | decide | (simp only [lens] <;> omega) | fail) only [go_sem]
  exact hQ
 | cons b rest ih =>
  intro done i h1 h2 h3 hQ
  have h4 : i < s.length := by
   by_cases h4 : i < s.length
   ·exact h4
   ·rw [List.drop_of_length_le (by omega)] at h1; cases h1
  have hb : b.toNat < 128 := ha b (by rw [← h3]; simp)
  have e : byt s i = b.toNat := by
   rw [List.drop_eq_getElem_cons h4] at h1
   cases h1
   simp [byt,List.getElem?_eq_getElem h4]
  have hl := @chrB_len done
  rw [W_loop (L := strings_makeASCIISet_l1) rfl]
  simp (disch := first | assumption | omega | decide | (simp only [lens] <;> omega) | fail) only [go_sem,e,chrB_set]
  refine ih (done ++ [b]) (i + 1) ?_ (by simp [h2]) (by simp [h3]) hQ
  rw [List.drop_eq_getElem_cons h4] at h1
  exact (List.cons.inj h1).2
@[go_sem] theorem res_makeASCIISet (s : List UInt8) (hs : s.length < 1000000000) (ha : ∀ b ∈ s,b.toNat < 128) : res Γ 84 [.str s] = some [.agg (bools (chrB s)),.bool true] := by
 have hl := @chrB_len s
 have e0 : zero256 = bools (chrB []) := by
  have e : List.replicate 256 false = chrB [] := by decide +kernel
  rw [← e]; unfold zero256 bools; rw [List.map_replicate]
 refine res_code (fn := strings_makeASCIISet) rfl rfl ?_
 simp (disch := first | assumption | omega | decide | (simp only [lens] <;> omega) | fail) only [go_sem,strings_makeASCIISet]
 rw [e0]
 refine makeASCIISet_l1_ok s hs ha _ s [] 0 rfl rfl rfl ?_
 simp (disch := first | assumption | omega | decide | (simp only [lens] <;> omega) | fail) only [go_sem]
@[go_sem] theorem res_contains (l : List Bool) (c : Int) (hl : l.length = 256) (h0 : 0 ≤ c) (h1 : c < 256) : res Γ 83 [.ptr (bools l),.int .u8 c] = some [.bool (l.getD c.toNat false)] := by
 refine res_code (fn := strings_asciiSet_contains) rfl rfl ?_
 simp (disch := first | assumption | omega | decide | (simp only [lens] <;> omega) | fail) only [go_sem,strings_asciiSet_contains]
theorem ixB_none {s : List UInt8} {c : UInt8} : (∀ b ∈ s,b ≠ c) → ixB s c = -1 := by
 induction s with
 | nil => intro _; rfl
 | cons b l ih =>
  intro h
  have h0 : (b == c) = false := by simpa using h b (by simp)
  simp [ixB,h0,ih fun x hx => h x (by simp [hx])]
theorem mem_drop_ascii {s : List UInt8} {c : Int} {n : Nat} (ha : ∀ b ∈ s,b.toNat < 128) (h0 : 128 ≤ c) (h1 : c < 256) : ixB (s.drop n) c.toNat.toUInt8 = -1 := by
 apply ixB_none
 intro b hb h
 have := ha b (List.mem_of_mem_drop hb)
 rw [h] at this
 simp at this
 omega
def validR (r : Int) : Bool := decide ((0 ≤ r ∧ r < 55296) ∨ (57343 < r ∧ r ≤ 1114111))
@[go_sem] theorem res_ValidRune (r : Int) : res Γ 89 [.int .i32 r] = some [.bool (validR r)] := by
 refine res_code (fn := unicode_utf8_ValidRune) rfl rfl ?_
 repeat' (first | (simp (disch := first | assumption | omega | decide | (simp only [lens] <;> omega) | fail) only [go_sem,unicode_utf8_ValidRune]) | refine cond_split (fun hc => ?_) (fun hc => ?_) | refine gd_split_f (fun hc => ?_) (fun hc => ?_) | refine gd_split_t (fun hc => ?_) (fun hc => ?_))
 all_goals (try simp only [Option.some.injEq,List.cons.injEq,PV.bool.injEq,and_true,validR])
 all_goals (symm; first | (apply decide_eq_true; omega) | (apply decide_eq_false; omega))
theorem IndexRune_l1_ok (s : List UInt8) (_hs : s.length < 1000000000) (ha : ∀ b ∈ s,b.toNat < 128) (Q : Out → Prop) : ∀ (k i : Nat),i + k = s.length →
  (Q (.nrm,[],[.box (iterCells s s.length)])) →
  Wp Γ strings_IndexRune_l1 [(175,.bx 0 0)] [.box (iterCells s i)] (InBlk [] 9 Q) := by
 intro k
 induction k with
 | zero =>
  intro i hi hQ
  obtain rfl : i = s.length := by omega
  rw [W_loop (L := strings_IndexRune_l1) rfl]
  simp (disch := first | assumption | omega | decide | (simp only [lens] <;> omega) | fail) only [go_sem]
  exact hQ
 | succ k ih =>
  intro i hi hQ
  have hb : (s.getD i 0).toNat < 128 := ha _ (by rw [List.getD_eq_getElem?_getD,List.getElem?_eq_getElem (show i < s.length by omega)]; exact List.getElem_mem _)
  have e := rune_ascii hb
  rw [W_loop (L := strings_IndexRune_l1) rfl]
  simp (disch := first | assumption | omega | decide | (simp only [lens] <;> omega) | fail) only [go_sem,e]
  exact ih (i + 1) (by omega) hQ
theorem IndexRune_l5_ok (s sub : List UInt8) (last : Nat) (hs : s.length < 1000000000) (ha : ∀ b ∈ s,b.toNat < 128) (hl : last < sub.length) (_hlast : sub.length ≤ 4) (hb : 128 ≤ byt sub last) (Q : Out → Prop)
  (h1 : Q (.nrm,[],[])) (h2 : Q (.ret,[(4,.p (.int .i64 (-1)))],[])) :
  Wp Γ strings_IndexRune_l5 [(0,.p (.str s)),(7,.p (.str sub)),(8,.p (.int .i64 (last : Int))),(9,.p (.int .i64 (last : Int)))] [] (InBlk [] 1 Q) := by
 have hb2 := @byt_le sub last
 by_cases h : last < s.length
 ·have hs1 : byt s last < 128 := by
   have := ha _ (List.getElem_mem h)
   simp only [byt,List.getD_eq_getElem?_getD,List.getElem?_eq_getElem h,Option.getD_some]
   omega
  have hx := mem_drop_ascii (n := (((last : Nat) : Int) + 1).toNat) ha hb (by omega)
  rw [W_loop (L := strings_IndexRune_l5) rfl]
  simp (disch := first | assumption | omega | decide | (simp only [lens] <;> omega) | fail) only [go_sem,hx]
  exact h2
 ·rw [W_loop (L := strings_IndexRune_l5) rfl]
  simp (disch := first | assumption | omega | decide | (simp only [lens] <;> omega) | fail) only [go_sem]
  exact h1
set_option maxRecDepth 100000 in
theorem res_IndexRune_other (s : List UInt8) (r : Nat) (hs : s.length < 1000000000) (ha : ∀ b ∈ s,b.toNat < 128) (hr : 128 ≤ r) (hr2 : r < 1114112) : res Γ 47 [.str s,.int .i32 r] = some [.int .i64 (-1)] := by
 have hl := enc_last hr
 refine res_code (fn := strings_IndexRune) rfl rfl ?_
 simp (disch := first | assumption | omega | decide | (simp only [lens] <;> omega) | fail) only [go_sem,strings_IndexRune]
 refine cond_split (fun hc => ?_) (fun hc => ?_)
 ·simp (disch := first | assumption | omega | decide | (simp only [lens] <;> omega) | fail) only [go_sem]
  refine IndexRune_l1_ok s hs ha _ s.length 0 (by omega) ?_
  simp (disch := first | assumption | omega | decide | (simp only [lens] <;> omega) | fail) only [go_sem]
 ·simp (disch := first | assumption | omega | decide | (simp only [lens] <;> omega) | fail) only [go_sem]
  have key := @condC_split
  refine key ?_ ?_ <;> clear key <;> intro hc
  ·simp (disch := first | assumption | omega | decide | (simp only [lens] <;> omega) | fail) only [go_sem]
  ·simp (disch := first | assumption | omega | decide | (simp only [lens] <;> omega) | fail) only [go_sem]
   have e : (((Go.Utf8.encode (r : Int)).data.toList.length : Nat) : Int) - 1 = (((Go.Utf8.encode (r : Int)).data.toList.length - 1 : Nat) : Int) := by omega
   rw [e]
   refine IndexRune_l5_ok s _ _ hs ha (by omega) (by omega) hl.2.2 _ ?_ ?_
   ·simp (disch := first | assumption | omega | decide | (simp only [lens] <;> omega) | fail) only [go_sem]
   ·simp (disch := first | assumption | omega | decide | (simp only [lens] <;> omega) | fail) only [go_sem]
set_option maxRecDepth 20000 in
theorem res_IndexRune_ascii (s : List UInt8) (r : Nat) (hr : r < 128) : res Γ 47 [.str s,.int .i32 r] = some [.int .i64 (ixB s r.toUInt8)] := by
 refine res_code (fn := strings_IndexRune) rfl rfl ?_
 simp (disch := first | assumption | omega | decide | (simp only [lens] <;> omega) | fail) only [go_sem,strings_IndexRune,wrap_u8]
theorem IndexAny_l2_ok (s chars : List UInt8) (hs : s.length < 1000000000) (Q : Out → Prop) : ∀ (k i : Nat),i + k = s.length → (∀ j,j < i → chars.contains (s.getD j 0) = false) →
  (ixP chars.contains s < 0 → Q (.nrm,[],[.box ((bools (chrB chars)).map .p)])) → (0 ≤ ixP chars.contains s → Q (.ret,[(4,.p (.int .i64 (ixP chars.contains s)))],[.box ((bools (chrB chars)).map .p)])) →
  Wp Γ strings_IndexAny_l2 [(0,.p (.str s)),(6,.bx 0 0),(8,.p (.int .i64 (i : Int)))] [.box ((bools (chrB chars)).map .p)] (InBlk [] 0 Q) := by
 have hl := @chrB_len chars
 intro k
 induction k with
 | zero =>
  intro i hi hn h1 h2
  obtain rfl : i = s.length := by omega
  rw [W_loop (L := strings_IndexAny_l2) rfl]
  simp (disch := first | assumption | omega | decide | (simp only [lens] <;> omega) | fail) only [go_sem]
  exact h1 (by rw [ixP_none hn]; omega)
 | succ k ih =>
  intro i hi hn h1 h2
  have hb := @byt_nonneg s i
  have hb2 := @byt_le s i
  have e : (chrB chars).getD (byt s i).toNat false = chars.contains (s.getD i 0) := by
   rw [chrB_get (by omega)]
   simp only [byt,Int.toNat_natCast,List.contains_eq_any_beq]
   congr 1
   funext c
   rw [Bool.eq_iff_iff]
   simp only [beq_iff_eq]
   exact ⟨fun h => UInt8.toNat_inj.1 h.symm,fun h => by rw [h]⟩
  rw [W_loop (L := strings_IndexAny_l2) rfl]
  simp (disch := first | assumption | omega | decide | (simp only [lens] <;> omega) | fail) only [go_sem,e]
  refine condC_split (fun hc => ?_) (fun hc => ?_)
  ·simp (disch := first | assumption | omega | decide | (simp only [lens] <;> omega) | fail) only [go_sem]
   rw [ixP_some (by omega) hc hn] at h2
   exact h2 (by omega)
  ·simp (disch := first | assumption | omega | decide | (simp only [lens] <;> omega) | fail) only [go_sem]
   refine ih (i + 1) (by omega) (fun j hj => ?_) h1 h2
   by_cases h : j = i
   ·subst h; exact hc
   ·exact hn j (by omega)
end Ab
