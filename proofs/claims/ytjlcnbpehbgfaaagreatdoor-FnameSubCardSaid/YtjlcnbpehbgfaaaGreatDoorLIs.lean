import Derived.Test.YtjlcnbpehbgfaaaGreatDoorLStr
import Derived.Test.YtjlcnbpehbgfaaaGreatDoorCode
namespace Ab
open Go (IntKind BinOp UnOp)
def splitA (c : UInt8) : List UInt8 → List UInt8 → List (List UInt8)
 | cur,[] => [cur]
 | cur,b :: l => if b = c then cur :: splitA c [] l else splitA c (cur ++ [b]) l
theorem splitA_eq (c : UInt8) : ∀ (l cur : List UInt8),splitA c cur l = match splitB c l with | [] => [cur] | h :: t => (cur ++ h) :: t
 | [],cur => by simp [splitA,splitB]
 | b :: l,cur => by
  by_cases hb : b = c
  ·simp only [splitA,splitB,hb,if_true,List.append_nil]
   rw [splitA_eq c l []]
   have := splitB_len c l
   cases h : splitB c l with
   | nil => rw [h] at this; simp at this
   | cons x y => simp
  ·simp only [splitA,splitB,hb,if_false]
   rw [splitA_eq c l]
   cases h : splitB c l <;> simp
theorem splitA_nil (c : UInt8) (l : List UInt8) : splitA c [] l = splitB c l := by
 rw [splitA_eq]
 have := splitB_len c l
 cases h : splitB c l with
 | nil => rw [h] at this; simp at this
 | cons x y => simp
theorem drop_cons {s : List UInt8} {i : Nat} {b : UInt8} {r : List UInt8} (h : s.drop i = b :: r) : i < s.length ∧ byt s i = (b.toNat : Int) ∧ s.drop (i + 1) = r ∧ s.take (i + 1) = s.take i ++ [b] := by
 have h1 : i < s.length := by
  by_cases h1 : i < s.length
  ·exact h1
  ·rw [List.drop_of_length_le (by omega)] at h; cases h
 rw [List.drop_eq_getElem_cons h1] at h
 cases h
 refine ⟨h1,?_,rfl,?_⟩
 ·simp [byt,List.getElem?_eq_getElem h1]
 ·rw [List.take_add_one,List.getElem?_eq_getElem h1]; rfl
theorem drop_nil {s : List UInt8} {i : Nat} (h : s.drop i = []) : s.length ≤ i := by simpa using h
theorem toNat_eq {b : UInt8} {n : Nat} (hn : n < 256) : ((b.toNat : Int) = (n : Int)) ↔ b = UInt8.ofNat n := by
 constructor
 ·intro h
  have : b.toNat = n := by omega
  rw [← this]; simp
 ·rintro rfl; simp; omega
@[go_sem] theorem res_nameParts (s : List UInt8) (hs : s.length < 900000000) : res Γ 36 [.str s] = some [.sl .any 1 (strs (splitB 46 s))] := by
 refine res_code (fn := name_Parts) rfl rfl ?_
 simp (disch := first | assumption | omega | decide | (simp only [lens] <;> omega) | fail) only [go_sem,name_Parts]
theorem r8_Parts_l1_ok (s : List UInt8) (hs : s.length < 900000000) (Q : Out → Prop) : ∀ (rest cur : List UInt8) (i fr : Nat) (done : List (List UInt8)),s.drop i = rest → (s.take i).drop fr = cur → fr ≤ i → i ≤ s.length → done.length ≤ i →
  (Q (.nrm,[(3,.own 0 (done ++ splitA 46 cur rest).length)],[.row false 1 (strs (done ++ splitA 46 cur rest))])) →
  Wp Γ r8_Parts_l1 [(0,.p (.str s)),(3,.own 0 done.length),(4,.p (.int .i64 fr)),(5,.p (.int .i64 (i : Int)))] [.row false 1 (strs done)] (InBlk [3] 0 Q) := by
 intro rest
 induction rest with
 | nil =>
  intro cur i fr done h1 h2 h3 h4 h5 hQ
  have := drop_nil h1
  obtain rfl : i = s.length := by omega
  rw [W_loop (L := r8_Parts_l1) rfl]
  simp (disch := first | assumption | omega | decide | (simp only [lens] <;> omega) | fail) only [go_sem]
  rw [W_loop (L := r8_Parts_l1) rfl]
  simp (disch := first | assumption | omega | decide | (simp only [lens] <;> omega) | fail) only [go_sem]
  simp only [splitA,← h2,List.length_append,List.length_cons,List.length_nil] at hQ
  exact hQ
 | cons b rest ih =>
  intro cur i fr done h1 h2 h3 h4 h5 hQ
  obtain ⟨h6,h7,h8,h9⟩ := drop_cons h1
  rw [W_loop (L := r8_Parts_l1) rfl]
  simp (disch := first | assumption | omega | decide | (simp only [lens] <;> omega) | fail) only [go_sem,h7]
  refine cond_split (fun hc => ?_) (fun hc => ?_)
  ·have hb : b = 46 := (toNat_eq (n := 46) (by decide)).1 hc
   subst hb
   simp (disch := first | assumption | omega | decide | (simp only [lens] <;> omega) | fail) only [go_sem]
   have e : done.length + 1 = (done ++ [List.drop fr (List.take i s)]).length := by simp
   rw [e]
   exact ih [] (i + 1) (i + 1) _ h8 (by simp) (Nat.le_refl _) (by omega) (by simp; omega) (by simpa [splitA,h2] using hQ)
  ·have hb : b ≠ 46 := fun h => hc (by rw [h]; rfl)
   simp (disch := first | assumption | omega | decide | (simp only [lens] <;> omega) | fail) only [go_sem]
   refine ih (cur ++ [b]) (i + 1) fr done h8 ?_ (by omega) (by omega) (by omega) (by simpa [splitA,hb] using hQ)
   rw [h9,List.drop_append_of_le_length (by simp; omega),h2]
@[go_sem] theorem res_r8Parts (s : List UInt8) (hs : s.length < 900000000) : res Γ 40 [.str s] = some [.sl .any 1 (strs (splitB 46 s))] := by
 refine res_code (fn := r8_Parts) rfl rfl ?_
 simp (disch := first | assumption | omega | decide | (simp only [lens] <;> omega) | fail) only [go_sem,r8_Parts]
 refine r8_Parts_l1_ok s hs _ s [] 0 0 [] rfl (by simp) (by omega) (by omega) (by simp) ?_
 simp (disch := first | assumption | omega | decide | (simp only [lens] <;> omega) | fail) only [go_sem,splitA_nil]
def nodeB (l : List (List UInt8)) (i : Int) : List UInt8 :=
 let j := if i < 0 then i + l.length else i
 if j < 0 ∨ (l.length : Int) ≤ j then [] else l.getD j.toNat []
@[go_sem] theorem res_nameNode (s : List UInt8) (i : Int) (hs : s.length < 900000000) (h0 : -9223372036854775808 ≤ i) (h1 : i ≤ 9223372036854775807) : res Γ 3 [.str s,.int .i64 i] = some [.str (nodeB (splitB 46 s) i)] := by
 have hl := splitB_len 46 s
 have hc := @count_le s 46
 refine res_code (fn := name_Node) rfl rfl ?_
 repeat' (first | (simp (disch := first | assumption | omega | decide | (simp only [lens] <;> omega) | fail) only [go_sem,name_Node]) | refine cond_split (fun hc => ?_) (fun hc => ?_) | refine gd_split_f (fun hc => ?_) (fun hc => ?_) | refine gd_split_t (fun hc => ?_) (fun hc => ?_))
 all_goals (simp only [nodeB,Option.some.injEq,List.cons.injEq,and_true,PV.str.injEq]; split <;> split <;> first | rfl | omega)
@[go_sem] theorem res_r8Node (s : List UInt8) (i : Int) (hs : s.length < 900000000) (h0 : -9223372036854775808 ≤ i) (h1 : i ≤ 9223372036854775807) : res Γ 27 [.str s,.int .i64 i] = some [.str (nodeB (splitB 46 s) i)] := by
 have hl := splitB_len 46 s
 have hc := @count_le s 46
 refine res_code (fn := r8_Node) rfl rfl ?_
 repeat' (first | (simp (disch := first | assumption | omega | decide | (simp only [lens] <;> omega) | fail) only [go_sem,r8_Node]) | refine cond_split (fun hc => ?_) (fun hc => ?_) | refine gd_split_f (fun hc => ?_) (fun hc => ?_) | refine gd_split_t (fun hc => ?_) (fun hc => ?_))
 all_goals (simp only [nodeB,Option.some.injEq,List.cons.injEq,and_true,PV.str.injEq]; split <;> split <;> first | rfl | omega)
end Ab
namespace Ab
abbrev Val := Bool × Int
def maxN : Int := 4611686018427387904
def isV (v : Val) : Bool := if v.1 = true then decide (-maxN ≤ v.2 ∧ v.2 ≤ maxN) else decide (v.2 = 0)
end Ab
namespace Ab
open Go (IntKind BinOp UnOp)
theorem strsIn_strs (l : List (List UInt8)) : strsIn (strs l) = some l := by
 induction l with
 | nil => rfl
 | cons a l ih => simp only [strs,List.map_cons,strsIn] at ih ⊢; rw [ih]; rfl
@[go_sem] theorem res_Join {kk : SK} (l : List (List UInt8)) (sep : List UInt8) (hl : l.length < 1000000000) (hj : (joinB sep l).length ≤ 1000000000) : res Γ 48 [.sl kk 1 (strs l),.str sep] = some [.str (joinB sep l)] := by
 refine res_of (RunP_prim (g := joinG) rfl ?_)
 simp only [joinG,strsIn_strs]
 rw [if_pos ⟨hj,by omega⟩]
end Ab
namespace Ab
open Go (IntKind BinOp UnOp)
theorem joinB_snoc (sep x : List UInt8) : ∀ l : List (List UInt8),l ≠ [] → joinB sep (l ++ [x]) = joinB sep l ++ (sep ++ x)
 | [],h => absurd rfl h
 | [a],_ => by simp [joinB]
 | a :: b :: r,_ => by
  have := joinB_snoc sep x (b :: r) (by simp)
  simp only [List.cons_append,joinB,List.append_assoc] at this ⊢
  rw [this]
theorem joinB_len (sep : List UInt8) (m : Nat) : ∀ l : List (List UInt8),(∀ x ∈ l,x.length ≤ m) → (joinB sep l).length ≤ l.length * (m + sep.length)
 | [],_ => by simp [joinB]
 | [a],h => by have := h a (by simp); simp [joinB]; omega
 | a :: b :: r,h => by
  have h1 := h a (by simp)
  have := joinB_len sep m (b :: r) (fun x hx => h x (by simp at hx ⊢; exact .inr hx))
  simp only [joinB,List.length_append,List.length_cons] at this ⊢
  rw [Nat.add_mul (r.length + 1) 1]
  omega
theorem joinB_take (sep : List UInt8) (l : List (List UInt8)) : ∀ i,(joinB sep (l.take i)).length ≤ (joinB sep l).length := by
 have key : ∀ (b a : List (List UInt8)),(joinB sep a).length ≤ (joinB sep (a ++ b)).length := by
  intro b
  induction b with
  | nil => intro a; simp
  | cons x b ih =>
   intro a
   have h1 := ih (a ++ [x])
   rw [List.append_assoc] at h1
   refine Nat.le_trans ?_ h1
   by_cases ha : a = []
   ·subst ha; simp [joinB]
   ·rw [joinB_snoc sep x a ha]; simp
 intro i
 have := key (l.drop i) (l.take i)
 rwa [List.take_append_drop] at this
theorem take_snoc {α : Type} {l : List α} {i : Nat} (d : α) (h : i < l.length) : l.take (i + 1) = l.take i ++ [l.getD i d] := by
 rw [List.take_add_one,List.getElem?_eq_getElem h]
 simp [List.getElem?_eq_getElem h]
theorem r8_Join_l1_ok {kk : SK} (l : List (List UInt8)) (hl : l.length < 1000000000) (hj : (joinB [46] l).length ≤ 1000000000) (Q : Out → Prop) : ∀ (k i : Nat),i + k = l.length →
  (Q (.nrm,[(3,.p (.str (joinB [46] l)))],[])) →
  Wp Γ r8_Join_l1 [(0,.p (.sl kk 1 (strs l))),(3,.p (.str (joinB [46] (l.take i)))),(4,.p (.int .i64 (i : Int)))] [] (InBlk [3] 0 Q) := by
 intro k
 induction k with
 | zero =>
  intro i hi hQ
  obtain rfl : i = l.length := by omega
  rw [W_loop (L := r8_Join_l1) rfl]
  simp (disch := first | assumption | omega | decide | (simp only [lens] <;> omega) | fail) only [go_sem]
  rw [List.take_length]
  exact hQ
 | succ k ih =>
  intro i hi hQ
  have h1 := joinB_take [46] l i
  have h2 := joinB_take [46] l (i + 1)
  rw [take_snoc [] (by omega)] at h2
  have hne : 0 < i → l.take i ≠ [] := fun h0 h => by have := congrArg List.length h; rw [List.length_take,List.length_nil] at this; omega
  have e : (joinB [46] (l.take (i + 1))) = if i = 0 then l.getD i [] else joinB [46] (l.take i) ++ 46 :: l.getD i [] := by
   rw [take_snoc [] (by omega)]
   split
   ·rename_i h; subst h; simp [joinB]
   ·rw [joinB_snoc _ _ _ (hne (by omega))]; rfl
  rw [W_loop (L := r8_Join_l1) rfl]
  simp (disch := first | assumption | omega | decide | (simp only [lens] <;> omega) | fail) only [go_sem]
  refine cond_split (fun hc => ?_) (fun hc => ?_)
  ·rw [if_neg (by omega)] at e
   rw [joinB_snoc _ _ _ (hne (by omega))] at h2
   simp only [List.length_append,List.length_cons,List.length_nil] at h2
   simp (disch := first | assumption | omega | decide | (simp only [lens] <;> omega) | fail) only [go_sem]
   rw [← e]
   exact ih (i + 1) (by omega) hQ
  ·obtain rfl : i = 0 := by omega
   simp only [List.take_zero,joinB,List.nil_append] at h2 ⊢
   simp (disch := first | assumption | omega | decide | (simp only [lens] <;> omega) | fail) only [go_sem]
   rw [if_pos rfl] at e
   rw [← e]
   exact ih 1 (by omega) hQ
@[go_sem] theorem res_r8Join {kk : SK} (l : List (List UInt8)) (hl : l.length < 1000000000) (hj : (joinB [46] l).length ≤ 1000000000) : res Γ 26 [.sl kk 1 (strs l)] = some [.str (joinB [46] l)] := by
 refine res_code (fn := r8_Join) rfl rfl ?_
 simp (disch := first | assumption | omega | decide | (simp only [lens] <;> omega) | fail) only [go_sem,r8_Join]
 refine r8_Join_l1_ok l hl hj _ l.length 0 (by omega) ?_
 simp (disch := first | assumption | omega | decide | (simp only [lens] <;> omega) | fail) only [go_sem]
@[go_sem] theorem res_nameJoin {kk : SK} (l : List (List UInt8)) (hl : l.length < 1000000000) (hj : (joinB [46] l).length ≤ 1000000000) : res Γ 1 [.sl kk 1 (strs l)] = some [.str (joinB [46] l)] := by
 refine res_code (fn := name_Join) rfl rfl ?_
 simp (disch := first | assumption | omega | decide | (simp only [lens] <;> omega) | fail) only [go_sem,name_Join]
end Ab
namespace Ab
open Go (IntKind BinOp UnOp)
def ixP (p : UInt8 → Bool) : List UInt8 → Int
 | [] => -1
 | b :: l => if p b then 0 else if ixP p l = -1 then -1 else ixP p l + 1
theorem ixP_none {p : UInt8 → Bool} : ∀ {s : List UInt8},(∀ j,j < s.length → p (s.getD j 0) = false) → ixP p s = -1
 | [],_ => rfl
 | b :: l,h => by
  have h0 := h 0 (by simp)
  have := ixP_none (s := l) (p := p) fun j hj => by have := h (j + 1) (by simpa using hj); simpa using this
  simp only [List.getD_cons_zero] at h0
  simp [ixP,h0,this]
theorem ixP_some {p : UInt8 → Bool} : ∀ {s : List UInt8} {i : Nat},i < s.length → p (s.getD i 0) = true → (∀ j,j < i → p (s.getD j 0) = false) → ixP p s = i
 | [],_,h,_,_ => by simp at h
 | b :: l,0,_,h,_ => by simp only [List.getD_cons_zero] at h; simp [ixP,h]
 | b :: l,i + 1,hi,h,hn => by
  have h0 := hn 0 (by omega)
  have := ixP_some (s := l) (p := p) (i := i) (by simpa using hi) (by simpa using h) fun j hj => by have := hn (j + 1) (by omega); simpa using this
  simp only [List.getD_cons_zero] at h0
  simp only [ixP,h0,this,Bool.false_eq_true,if_false]
  rw [if_neg (by omega)]; omega
theorem ixP_range {p : UInt8 → Bool} : ∀ {s : List UInt8},-1 ≤ ixP p s ∧ ixP p s < s.length
 | [] => by simp [ixP]
 | b :: l => by have := ixP_range (p := p) (s := l); simp only [ixP,List.length_cons]; split <;> (try split) <;> omega
theorem get_mk (s : List UInt8) (j : Nat) : (⟨s.toArray⟩ : ByteArray).get! j = s.getD j 0 := by
 simp only [ByteArray.get!,List.getElem!_toArray,List.getD_eq_getElem?_getD]
 by_cases h : j < s.length
 ·simp [h]
 ·simp [h]; rfl
theorem rune_ascii {s : List UInt8} {i : Nat} (h : (s.getD i 0).toNat < 128) : runeAt s i = ((s.getD i 0).toNat,1) := by
 unfold runeAt Go.Utf8.decode
 simp only [get_mk,Nat.add_zero]
 rw [if_pos h]
theorem rune_other {s : List UInt8} {i : Nat} (hi : i < s.length) (h : ¬ (s.getD i 0).toNat < 128) :
  128 ≤ (runeAt s i).1 ∧ (runeAt s i).1 < 1114112 ∧ 1 ≤ (runeAt s i).2 ∧ i + (runeAt s i).2 ≤ s.length ∧ ∀ j,j < (runeAt s i).2 → 128 ≤ (s.getD (i + j) 0).toNat := by
 have one : 128 ≤ (65533 : Nat) ∧ (65533 : Nat) < 1114112 ∧ 1 ≤ 1 ∧ i + 1 ≤ s.length ∧ ∀ j,j < 1 → 128 ≤ (s.getD (i + j) 0).toNat := by
  refine ⟨by omega,by omega,by omega,by omega,fun j hj => ?_⟩
  obtain rfl : j = 0 := by omega
  simpa using h
 have hsz : (⟨s.toArray⟩ : ByteArray).size = s.length := by simp [ByteArray.size]
 unfold runeAt Go.Utf8.decode
 simp only [get_mk,Nat.add_zero,hsz]
 rw [if_neg h]
 have hc : ∀ k,(decide (i + k < s.length) && (s.getD (i + k) 0).toNat / 64 == 2) = true → i + k < s.length ∧ 128 ≤ (s.getD (i + k) 0).toNat := by
  intro k hk
  simp only [Bool.and_eq_true,decide_eq_true_eq,beq_iff_eq] at hk
  omega
 split
 ·rename_i h2
  simp only [Bool.and_eq_true] at h2
  have h3 := hc 1 (by simpa using h2.2)
  split
  ·refine ⟨by assumption,by simp only; omega,by simp only; omega,by simp only; omega,fun j hj => ?_⟩
   simp only at hj
   match j,hj with
   | 0,_ => simpa using h
   | 1,_ => exact h3.2
  ·exact one
 ·split
  ·rename_i h2
   simp only [Bool.and_eq_true] at h2
   have h3 := hc 1 (by simpa using h2.1.2)
   have h4 := hc 2 (by simpa using h2.2)
   split
   ·rename_i h5
    simp only [Bool.and_eq_true,decide_eq_true_eq] at h5
    refine ⟨by simp only; omega,by simp only; omega,by simp only; omega,by simp only; omega,fun j hj => ?_⟩
    simp only at hj
    match j,hj with
    | 0,_ => simpa using h
    | 1,_ => exact h3.2
    | 2,_ => exact h4.2
   ·exact one
  ·split
   ·rename_i h2
    simp only [Bool.and_eq_true] at h2
    have h3 := hc 1 (by simpa using h2.1.1.2)
    have h4 := hc 2 (by simpa using h2.1.2)
    have h6 := hc 3 (by simpa using h2.2)
    split
    ·rename_i h5
     simp only [Bool.and_eq_true,decide_eq_true_eq,Go.Utf8.valid,Bool.or_eq_true] at h5
     refine ⟨by simp only; omega,by simp only; omega,by simp only; omega,by simp only; omega,fun j hj => ?_⟩
     simp only at hj
     match j,hj with
     | 0,_ => simpa using h
     | 1,_ => exact h3.2
     | 2,_ => exact h4.2
     | 3,_ => exact h6.2
    ·exact one
   ·exact one
theorem enc_last {r : Nat} (h : 128 ≤ r) : 2 ≤ (Go.Utf8.encode r).data.toList.length ∧ (Go.Utf8.encode r).data.toList.length ≤ 4 ∧ 128 ≤ byt (Go.Utf8.encode r).data.toList ((Go.Utf8.encode r).data.toList.length - 1) := by
 have b : ∀ n : Nat,n < 64 → 128 ≤ ((UInt8.ofNat (128 + n)).toNat : Int) := by intro n hn; simp; omega
 unfold Go.Utf8.encode
 have h0 : ∀ c : Nat,¬ c < 128 → 2 ≤ (if c < 128 then (⟨#[UInt8.ofNat c]⟩ : ByteArray) else if c < 2048 then ⟨#[UInt8.ofNat (192 + c / 64),UInt8.ofNat (128 + c % 64)]⟩ else if c < 65536 then ⟨#[UInt8.ofNat (224 + c / 4096),UInt8.ofNat (128 + c / 64 % 64),UInt8.ofNat (128 + c % 64)]⟩ else ⟨#[UInt8.ofNat (240 + c / 262144),UInt8.ofNat (128 + c / 4096 % 64),UInt8.ofNat (128 + c / 64 % 64),UInt8.ofNat (128 + c % 64)]⟩).data.toList.length ∧
   (if c < 128 then (⟨#[UInt8.ofNat c]⟩ : ByteArray) else if c < 2048 then ⟨#[UInt8.ofNat (192 + c / 64),UInt8.ofNat (128 + c % 64)]⟩ else if c < 65536 then ⟨#[UInt8.ofNat (224 + c / 4096),UInt8.ofNat (128 + c / 64 % 64),UInt8.ofNat (128 + c % 64)]⟩ else ⟨#[UInt8.ofNat (240 + c / 262144),UInt8.ofNat (128 + c / 4096 % 64),UInt8.ofNat (128 + c / 64 % 64),UInt8.ofNat (128 + c % 64)]⟩).data.toList.length ≤ 4 ∧
   128 ≤ byt (if c < 128 then (⟨#[UInt8.ofNat c]⟩ : ByteArray) else if c < 2048 then ⟨#[UInt8.ofNat (192 + c / 64),UInt8.ofNat (128 + c % 64)]⟩ else if c < 65536 then ⟨#[UInt8.ofNat (224 + c / 4096),UInt8.ofNat (128 + c / 64 % 64),UInt8.ofNat (128 + c % 64)]⟩ else ⟨#[UInt8.ofNat (240 + c / 262144),UInt8.ofNat (128 + c / 4096 % 64),UInt8.ofNat (128 + c / 64 % 64),UInt8.ofNat (128 + c % 64)]⟩).data.toList
    ((if c < 128 then (⟨#[UInt8.ofNat c]⟩ : ByteArray) else if c < 2048 then ⟨#[UInt8.ofNat (192 + c / 64),UInt8.ofNat (128 + c % 64)]⟩ else if c < 65536 then ⟨#[UInt8.ofNat (224 + c / 4096),UInt8.ofNat (128 + c / 64 % 64),UInt8.ofNat (128 + c % 64)]⟩ else ⟨#[UInt8.ofNat (240 + c / 262144),UInt8.ofNat (128 + c / 4096 % 64),UInt8.ofNat (128 + c / 64 % 64),UInt8.ofNat (128 + c % 64)]⟩).data.toList.length - 1) := by
  intro c hc
  rw [if_neg hc]
  split
  ·exact ⟨by simp,by simp,b _ (by omega)⟩
  ·split
   ·exact ⟨by simp,by simp,b _ (by omega)⟩
   ·exact ⟨by simp,by simp,b _ (by omega)⟩
 by_cases hv : Go.Utf8.valid (r : Int) = true
 ·simp only [hv,if_true,Int.toNat_natCast]
  exact h0 r (by omega)
 ·simp only [hv]
  exact h0 65533 (by omega)
def chrB (chars : List UInt8) : List Bool := (List.range 256).map fun i => chars.any fun c => c.toNat == i
theorem chrB_len {chars} : (chrB chars).length = 256 := by simp [chrB]
theorem chrB_get {chars : List UInt8} {i : Nat} (h : i < 256) : (chrB chars).getD i false = chars.any fun c => c.toNat == i := by
 simp [chrB,h]
theorem chrB_set {chars : List UInt8} {c : UInt8} : (chrB chars).set c.toNat true = chrB (chars ++ [c]) := by
 apply List.ext_getElem
 ·simp [chrB]
 ·intro i h1 h2
  have hi : i < 256 := by simpa [chrB] using h2
  rw [List.getElem_set]
  simp only [chrB,List.getElem_map,List.getElem_range,List.any_append,List.any_cons,List.any_nil,Bool.or_false]
  by_cases h : c.toNat = i
  ·simp [h]
  ·have : (c.toNat == i) = false := by simpa using h
   simp [h,this]
theorem makeASCIISet_l1_ok (s : List UInt8) (hs : s.length < 1000000000) (ha : ∀ b ∈ s,b.toNat < 128) (Q : Out → Prop) : ∀ (rest done : List UInt8) (i : Nat),s.drop i = rest → done.length = i → done ++ rest = s →
  (Q (.nrm,[(2,.bx 0 0)],[.box ((bools (chrB s)).map .p)])) →
  Wp Γ strings_makeASCIISet_l1 [(0,.p (.str s)),(2,.bx 0 0),(4,.p (.int .i64 (i : Int)))] [.box ((bools (chrB done)).map .p)] (InBlk [2] 0 Q) := by
 intro rest
 induction rest with
 | nil =>
  intro done i h1 h2 h3 hQ
  have h4 : s.length ≤ i := by simpa using h1
  rw [List.append_nil] at h3
  subst h3
  rw [W_loop (L := strings_makeASCIISet_l1) rfl]
  simp (disch := first | assumption | omega | decide | (simp only [lens] <;> omega) | fail) only [go_sem]
  exact hQ
 | cons b rest ih =>
  intro done i h1 h2 h3 hQ
  have h4 : i < s.length := by
   by_cases h4 : i < s.length
   ·exact h4
   ·rw [List.drop_of_length_le (by omega)] at h1; cases h1
  have hb : b.toNat < 128 := ha b (by rw [← h3]; simp)
  have e : byt s i = b.toNat := by
   rw [List.drop_eq_getElem_cons h4] at h1
   cases h1
   simp [byt,List.getElem?_eq_getElem h4]
  have hl := @chrB_len done
  rw [W_loop (L := strings_makeASCIISet_l1) rfl]
  simp (disch := first | assumption | omega | decide | (simp only [lens] <;> omega) | fail) only [go_sem,e,chrB_set]
  refine ih (done ++ [b]) (i + 1) ?_ (by simp [h2]) (by simp [h3]) hQ
  rw [List.drop_eq_getElem_cons h4] at h1
  exact (List.cons.inj h1).2
@[go_sem] theorem res_makeASCIISet (s : List UInt8) (hs : s.length < 1000000000) (ha : ∀ b ∈ s,b.toNat < 128) : res Γ 84 [.str s] = some [.agg (bools (chrB s)),.bool true] := by
 have hl := @chrB_len s
 have e0 : zero256 = bools (chrB []) := by
  have e : List.replicate 256 false = chrB [] := by decide +kernel
  rw [← e]; unfold zero256 bools; rw [List.map_replicate]
 refine res_code (fn := strings_makeASCIISet) rfl rfl ?_
 simp (disch := first | assumption | omega | decide | (simp only [lens] <;> omega) | fail) only [go_sem,strings_makeASCIISet]
 rw [e0]
 refine makeASCIISet_l1_ok s hs ha _ s [] 0 rfl rfl rfl ?_
 simp (disch := first | assumption | omega | decide | (simp only [lens] <;> omega) | fail) only [go_sem]
@[go_sem] theorem res_contains (l : List Bool) (c : Int) (hl : l.length = 256) (h0 : 0 ≤ c) (h1 : c < 256) : res Γ 83 [.ptr (bools l),.int .u8 c] = some [.bool (l.getD c.toNat false)] := by
 refine res_code (fn := strings_asciiSet_contains) rfl rfl ?_
 simp (disch := first | assumption | omega | decide | (simp only [lens] <;> omega) | fail) only [go_sem,strings_asciiSet_contains]
theorem ixB_none {s : List UInt8} {c : UInt8} : (∀ b ∈ s,b ≠ c) → ixB s c = -1 := by
 induction s with
 | nil => intro _; rfl
 | cons b l ih =>
  intro h
  have h0 : (b == c) = false := by simpa using h b (by simp)
  simp [ixB,h0,ih fun x hx => h x (by simp [hx])]
theorem mem_drop_ascii {s : List UInt8} {c : Int} {n : Nat} (ha : ∀ b ∈ s,b.toNat < 128) (h0 : 128 ≤ c) (h1 : c < 256) : ixB (s.drop n) c.toNat.toUInt8 = -1 := by
 apply ixB_none
 intro b hb h
 have := ha b (List.mem_of_mem_drop hb)
 rw [h] at this
 simp at this
 omega
def validR (r : Int) : Bool := decide ((0 ≤ r ∧ r < 55296) ∨ (57343 < r ∧ r ≤ 1114111))
@[go_sem] theorem res_ValidRune (r : Int) : res Γ 89 [.int .i32 r] = some [.bool (validR r)] := by
 refine res_code (fn := unicode_utf8_ValidRune) rfl rfl ?_
 repeat' (first | (simp (disch := first | assumption | omega | decide | (simp only [lens] <;> omega) | fail) only [go_sem,unicode_utf8_ValidRune]) | refine cond_split (fun hc => ?_) (fun hc => ?_) | refine gd_split_f (fun hc => ?_) (fun hc => ?_) | refine gd_split_t (fun hc => ?_) (fun hc => ?_))
 all_goals (try simp only [Option.some.injEq,List.cons.injEq,PV.bool.injEq,and_true,validR])
 all_goals (symm; first | (apply decide_eq_true; omega) | (apply decide_eq_false; omega))
theorem IndexRune_l1_ok (s : List UInt8) (_hs : s.length < 1000000000) (ha : ∀ b ∈ s,b.toNat < 128) (Q : Out → Prop) : ∀ (k i : Nat),i + k = s.length →
  (Q (.nrm,[],[.box (iterCells s s.length)])) →
  Wp Γ strings_IndexRune_l1 [(175,.bx 0 0)] [.box (iterCells s i)] (InBlk [] 9 Q) := by
 intro k
 induction k with
 | zero =>
  intro i hi hQ
  obtain rfl : i = s.length := by omega
  rw [W_loop (L := strings_IndexRune_l1) rfl]
  simp (disch := first | assumption | omega | decide | (simp only [lens] <;> omega) | fail) only [go_sem]
  exact hQ
 | succ k ih =>
  intro i hi hQ
  have hb : (s.getD i 0).toNat < 128 := ha _ (by rw [List.getD_eq_getElem?_getD,List.getElem?_eq_getElem (show i < s.length by omega)]; exact List.getElem_mem _)
  have e := rune_ascii hb
  rw [W_loop (L := strings_IndexRune_l1) rfl]
  simp (disch := first | assumption | omega | decide | (simp only [lens] <;> omega) | fail) only [go_sem,e]
  exact ih (i + 1) (by omega) hQ
theorem IndexRune_l5_ok (s sub : List UInt8) (last : Nat) (hs : s.length < 1000000000) (ha : ∀ b ∈ s,b.toNat < 128) (hl : last < sub.length) (_hlast : sub.length ≤ 4) (hb : 128 ≤ byt sub last) (Q : Out → Prop)
  (h1 : Q (.nrm,[],[])) (h2 : Q (.ret,[(4,.p (.int .i64 (-1)))],[])) :
  Wp Γ strings_IndexRune_l5 [(0,.p (.str s)),(7,.p (.str sub)),(8,.p (.int .i64 (last : Int))),(9,.p (.int .i64 (last : Int)))] [] (InBlk [] 1 Q) := by
 have hb2 := @byt_le sub last
 by_cases h : last < s.length
 ·have hs1 : byt s last < 128 := by
   have := ha _ (List.getElem_mem h)
   simp only [byt,List.getD_eq_getElem?_getD,List.getElem?_eq_getElem h,Option.getD_some]
   omega
  have hx := mem_drop_ascii (n := (((last : Nat) : Int) + 1).toNat) ha hb (by omega)
  rw [W_loop (L := strings_IndexRune_l5) rfl]
  simp (disch := first | assumption | omega | decide | (simp only [lens] <;> omega) | fail) only [go_sem,hx]
  exact h2
 ·rw [W_loop (L := strings_IndexRune_l5) rfl]
  simp (disch := first | assumption | omega | decide | (simp only [lens] <;> omega) | fail) only [go_sem]
  exact h1
set_option maxRecDepth 100000 in
theorem res_IndexRune_other (s : List UInt8) (r : Nat) (hs : s.length < 1000000000) (ha : ∀ b ∈ s,b.toNat < 128) (hr : 128 ≤ r) (hr2 : r < 1114112) : res Γ 47 [.str s,.int .i32 r] = some [.int .i64 (-1)] := by
 have hl := enc_last hr
 refine res_code (fn := strings_IndexRune) rfl rfl ?_
 simp (disch := first | assumption | omega | decide | (simp only [lens] <;> omega) | fail) only [go_sem,strings_IndexRune]
 refine cond_split (fun hc => ?_) (fun hc => ?_)
 ·simp (disch := first | assumption | omega | decide | (simp only [lens] <;> omega) | fail) only [go_sem]
  refine IndexRune_l1_ok s hs ha _ s.length 0 (by omega) ?_
  simp (disch := first | assumption | omega | decide | (simp only [lens] <;> omega) | fail) only [go_sem]
 ·simp (disch := first | assumption | omega | decide | (simp only [lens] <;> omega) | fail) only [go_sem]
  have key := @condC_split
  refine key ?_ ?_ <;> clear key <;> intro hc
  ·simp (disch := first | assumption | omega | decide | (simp only [lens] <;> omega) | fail) only [go_sem]
  ·simp (disch := first | assumption | omega | decide | (simp only [lens] <;> omega) | fail) only [go_sem]
   have e : (((Go.Utf8.encode (r : Int)).data.toList.length : Nat) : Int) - 1 = (((Go.Utf8.encode (r : Int)).data.toList.length - 1 : Nat) : Int) := by omega
   rw [e]
   refine IndexRune_l5_ok s _ _ hs ha (by omega) (by omega) hl.2.2 _ ?_ ?_
   ·simp (disch := first | assumption | omega | decide | (simp only [lens] <;> omega) | fail) only [go_sem]
   ·simp (disch := first | assumption | omega | decide | (simp only [lens] <;> omega) | fail) only [go_sem]
set_option maxRecDepth 20000 in
theorem res_IndexRune_ascii (s : List UInt8) (r : Nat) (hr : r < 128) : res Γ 47 [.str s,.int .i32 r] = some [.int .i64 (ixB s r.toUInt8)] := by
 refine res_code (fn := strings_IndexRune) rfl rfl ?_
 simp (disch := first | assumption | omega | decide | (simp only [lens] <;> omega) | fail) only [go_sem,strings_IndexRune,wrap_u8]
theorem IndexAny_l2_ok (s chars : List UInt8) (hs : s.length < 1000000000) (Q : Out → Prop) : ∀ (k i : Nat),i + k = s.length → (∀ j,j < i → chars.contains (s.getD j 0) = false) →
  (ixP chars.contains s < 0 → Q (.nrm,[],[.box ((bools (chrB chars)).map .p)])) → (0 ≤ ixP chars.contains s → Q (.ret,[(4,.p (.int .i64 (ixP chars.contains s)))],[.box ((bools (chrB chars)).map .p)])) →
  Wp Γ strings_IndexAny_l2 [(0,.p (.str s)),(6,.bx 0 0),(8,.p (.int .i64 (i : Int)))] [.box ((bools (chrB chars)).map .p)] (InBlk [] 0 Q) := by
 have hl := @chrB_len chars
 intro k
 induction k with
 | zero =>
  intro i hi hn h1 h2
  obtain rfl : i = s.length := by omega
  rw [W_loop (L := strings_IndexAny_l2) rfl]
  simp (disch := first | assumption | omega | decide | (simp only [lens] <;> omega) | fail) only [go_sem]
  exact h1 (by rw [ixP_none hn]; omega)
 | succ k ih =>
  intro i hi hn h1 h2
  have hb := @byt_nonneg s i
  have hb2 := @byt_le s i
  have e : (chrB chars).getD (byt s i).toNat false = chars.contains (s.getD i 0) := by
   rw [chrB_get (by omega)]
   simp only [byt,Int.toNat_natCast,List.contains_eq_any_beq]
   congr 1
   funext c
   rw [Bool.eq_iff_iff]
   simp only [beq_iff_eq]
   exact ⟨fun h => UInt8.toNat_inj.1 h.symm,fun h => by rw [h]⟩
  rw [W_loop (L := strings_IndexAny_l2) rfl]
  simp (disch := first | assumption | omega | decide | (simp only [lens] <;> omega) | fail) only [go_sem,e]
  refine condC_split (fun hc => ?_) (fun hc => ?_)
  ·simp (disch := first | assumption | omega | decide | (simp only [lens] <;> omega) | fail) only [go_sem]
   rw [ixP_some (by omega) hc hn] at h2
   exact h2 (by omega)
  ·simp (disch := first | assumption | omega | decide | (simp only [lens] <;> omega) | fail) only [go_sem]
   refine ih (i + 1) (by omega) (fun j hj => ?_) h1 h2
   by_cases h : j = i
   ·subst h; exact hc
   ·exact hn j (by omega)
end Ab
namespace Ab
open Go (IntKind BinOp UnOp)
theorem ixB_mem {s : List UInt8} {c : UInt8} : 0 ≤ ixB s c ↔ s.contains c = true := by
 induction s with
 | nil => simp [ixB]
 | cons b l ih =>
  have hn := @ixB_nn l c
  simp only [ixB,List.contains_cons,Bool.or_eq_true,← ih,beq_iff_eq]
  by_cases h : b = c
  ·subst h; simp
  ·have h' : ¬ c = b := fun e => h e.symm
   simp only [h,h',if_false,false_or]
   split <;> omega
theorem IndexAny_l1_ok (s chars : List UInt8) (_hs : s.length < 1000000000) (hc : chars.length < 1000000000) (ha : ∀ b ∈ chars,b.toNat < 128) (Q : Out → Prop) : ∀ (k i : Nat),i ≤ s.length → s.length - i ≤ k → (∀ j,j < i → chars.contains (s.getD j 0) = false) →
  (ixP chars.contains s < 0 → ∀ H,Q (.nrm,[],H)) → (0 ≤ ixP chars.contains s → ∀ H,Q (.ret,[(4,.p (.int .i64 (ixP chars.contains s)))],H)) →
  Wp Γ strings_IndexAny_l1 [(1,.p (.str chars)),(45,.bx 0 0)] [.box (iterCells s i)] (InBlk [] 2 Q) := by
 intro k
 induction k with
 | zero =>
  intro i hi hk hn h1 h2
  obtain rfl : i = s.length := by omega
  rw [W_loop (L := strings_IndexAny_l1) rfl]
  simp (disch := first | assumption | omega | decide | (simp only [lens] <;> omega) | fail) only [go_sem]
  exact h1 (by rw [ixP_none hn]; omega) _
 | succ k ih =>
  intro i hi hk hn h1 h2
  by_cases hlt : i < s.length
  ·by_cases hb : (s.getD i 0).toNat < 128
   ·have e := rune_ascii hb
    rw [W_loop (L := strings_IndexAny_l1) rfl]
    simp (disch := first | assumption | omega | decide | (simp only [lens] <;> omega) | fail) only [go_sem,e,res_IndexRune_ascii]
    have e2 : (s.getD i 0).toNat.toUInt8 = s.getD i 0 := by simp
    rw [e2]
    refine cond_split (fun hc => ?_) (fun hc => ?_)
    ·simp (disch := first | assumption | omega | decide | (simp only [lens] <;> omega) | fail) only [go_sem]
     rw [ixP_some hlt (ixB_mem.1 hc) hn] at h2
     exact h2 (by omega) _
    ·simp (disch := first | assumption | omega | decide | (simp only [lens] <;> omega) | fail) only [go_sem]
     refine ih (i + 1) (by omega) (by omega) (fun j hj => ?_) h1 h2
     by_cases h : j = i
     ·subst h
      have := mt ixB_mem.2 hc
      simpa using this
     ·exact hn j (by omega)
   ·obtain ⟨g1,g2,g3,g4,g5⟩ := rune_other hlt hb
    rw [W_loop (L := strings_IndexAny_l1) rfl]
    simp (disch := first | assumption | omega | decide | (simp only [lens] <;> omega) | fail) only [go_sem,res_IndexRune_other]
    refine ih _ (by omega) (by omega) (fun j hj => ?_) h1 h2
    by_cases h : j < i
    ·exact hn j h
    ·have := g5 (j - i) (by omega)
     rw [show i + (j - i) = j by omega] at this
     by_cases hx : chars.contains (s.getD j 0) = true
     ·have := ha _ (List.contains_iff_mem.1 hx)
      omega
     ·simpa using hx
  ·obtain rfl : i = s.length := by omega
   rw [W_loop (L := strings_IndexAny_l1) rfl]
   simp (disch := first | assumption | omega | decide | (simp only [lens] <;> omega) | fail) only [go_sem]
   exact h1 (by rw [ixP_none hn]; omega) _
@[go_sem] theorem res_useASCII (n : Int) : res Γ 85 [.int .i64 n] = some [.bool (decide (8 < n))] := by
 refine res_code (fn := strings_shouldUseASCIISet) rfl rfl ?_
 simp (disch := first | assumption | omega | decide | (simp only [lens] <;> omega) | fail) only [go_sem,strings_shouldUseASCIISet]
theorem ixP_neg {p s} (h : ixP p s < 0) : ixP p s = -1 := by have := @ixP_range p s; omega
set_option maxRecDepth 10000 in
theorem res_IndexAny (s chars : List UInt8) (hs : s.length < 1000000000) (h2 : 2 ≤ chars.length) (hcl : chars.length < 1000000000) (ha : ∀ b ∈ chars,b.toNat < 128) : res Γ 24 [.str s,.str chars] = some [.int .i64 (ixP chars.contains s)] := by
 have hne : ¬ chars = [] := by intro h; subst h; simp at h2
 have hl := @chrB_len chars
 refine res_code (fn := strings_IndexAny) rfl rfl ?_
 simp (disch := first | assumption | omega | decide | (simp only [lens] <;> omega) | fail) only [go_sem,strings_IndexAny]
 refine cond_split (fun hc => ?_) (fun hc => ?_)
 ·simp (disch := first | assumption | omega | decide | (simp only [lens] <;> omega) | fail) only [go_sem]
  refine IndexAny_l2_ok s chars hs _ s.length 0 (by omega) (by omega) (fun h => ?_) (fun h => ?_)
  ·simp (disch := first | assumption | omega | decide | (simp only [lens] <;> omega) | fail) only [go_sem,ixP_neg h]
  ·simp (disch := first | assumption | omega | decide | (simp only [lens] <;> omega) | fail) only [go_sem]
 ·simp (disch := first | assumption | omega | decide | (simp only [lens] <;> omega) | fail) only [go_sem]
  refine IndexAny_l1_ok s chars hs hcl ha _ s.length 0 (by omega) (by omega) (by omega) (fun h H => ?_) (fun h H => ?_)
  ·simp (disch := first | assumption | omega | decide | (simp only [lens] <;> omega) | fail) only [go_sem,ixP_neg h]
  ·simp (disch := first | assumption | omega | decide | (simp only [lens] <;> omega) | fail) only [go_sem]
end Ab
namespace Ab
open Go (IntKind BinOp UnOp)
def baseB (s : List UInt8) : List UInt8 :=
 let t := s.drop (lastB s 40 s.length + 1).toNat
 if 0 ≤ ixP (List.contains [44,41]) t then t.take (ixP (List.contains [44,41]) t).toNat else t
theorem baseB_len (s : List UInt8) : (baseB s).length ≤ s.length := by
 unfold baseB
 simp only
 split <;> simp <;> omega
@[go_sem] theorem res_fnameBase (s : List UInt8) (hs : s.length < 900000000) : res Γ 2 [.str s] = some [.str (baseB s)] := by
 have h1 := lastB_ge s 40 s.length
 have h2 := @ixP_range (List.contains [44,41]) (s.drop (lastB s 40 s.length + 1).toNat)
 rw [List.length_drop] at h2
 have e := fun t (ht : List.length t < 1000000000) => res_IndexAny t [44,41] ht (by decide) (by decide) (by decide)
 refine res_code (fn := fname_Base) rfl rfl ?_
 simp (disch := first | assumption | omega | decide | (simp only [lens] <;> omega) | fail) only [go_sem,fname_Base,e]
 refine cond_split (fun hc => ?_) (fun hc => ?_)
 ·simp (disch := first | assumption | omega | decide | (simp only [lens] <;> omega) | fail) only [go_sem,baseB]
  rw [if_pos hc]
 ·simp (disch := first | assumption | omega | decide | (simp only [lens] <;> omega) | fail) only [go_sem,baseB]
  rw [if_neg hc]
theorem byt_eq {s : List UInt8} {i : Nat} (b : UInt8) : byt s i = (b.toNat : Int) ↔ s.getD i 0 = b := by
 unfold byt
 exact ⟨fun h => UInt8.toNat_inj.1 (by omega),fun h => by rw [h]⟩
theorem r24_Base_l2_ok (s : List UInt8) (hs : s.length < 900000000) (Q : Out → Prop) : ∀ (k i : Nat),i + k = s.length →
  (Q (.nrm,[(0,.p (.str s)),(3,.p (.int .i64 (lastB s 40 s.length + 1)))],[])) →
  Wp Γ r24_Base_l2 [(0,.p (.str s)),(3,.p (.int .i64 (lastB s 40 i + 1))),(4,.p (.int .i64 (i : Int)))] [] (InBlk [0,3] 0 Q) := by
 intro k
 induction k with
 | zero =>
  intro i hi hQ
  obtain rfl : i = s.length := by omega
  rw [W_loop (L := r24_Base_l2) rfl]
  simp (disch := first | assumption | omega | decide | (simp only [lens] <;> omega) | fail) only [go_sem]
  exact hQ
 | succ k ih =>
  intro i hi hQ
  have e : lastB s 40 (i + 1) = if byt s i = 40 then (i : Int) else lastB s 40 i := rfl
  have hr := lastB_ge s 40 i
  rw [W_loop (L := r24_Base_l2) rfl]
  simp (disch := first | assumption | omega | decide | (simp only [lens] <;> omega) | fail) only [go_sem]
  refine cond_split (fun hc => ?_) (fun hc => ?_)
  ·rw [if_pos hc] at e
   simp (disch := first | assumption | omega | decide | (simp only [lens] <;> omega) | fail) only [go_sem]
   have := ih (i + 1) (by omega) hQ
   rw [e] at this
   exact this
  ·rw [if_neg hc] at e
   simp (disch := first | assumption | omega | decide | (simp only [lens] <;> omega) | fail) only [go_sem]
   have := ih (i + 1) (by omega) hQ
   rw [e] at this
   exact this
theorem r24_Base_l1_ok (s : List UInt8) (hs : s.length < 900000000) (Q : Out → Prop) : ∀ (k i : Nat),i + k = s.length → (∀ j,j < i → List.contains [44,41] (s.getD j 0) = false) →
  (ixP (List.contains [44,41]) s < 0 → Q (.nrm,[(0,.p (.str s))],[])) → (0 ≤ ixP (List.contains [44,41]) s → Q (.ret,[(2,.p (.str (s.take (ixP (List.contains [44,41]) s).toNat)))],[])) →
  Wp Γ r24_Base_l1 [(0,.p (.str s)),(5,.p (.int .i64 (i : Int)))] [] (InBlk [0] 2 Q) := by
 intro k
 induction k with
 | zero =>
  intro i hi hn h1 h2
  obtain rfl : i = s.length := by omega
  rw [W_loop (L := r24_Base_l1) rfl]
  simp (disch := first | assumption | omega | decide | (simp only [lens] <;> omega) | fail) only [go_sem]
  exact h1 (by rw [ixP_none hn]; omega)
 | succ k ih =>
  intro i hi hn h1 h2
  have key : List.contains [44,41] (s.getD i 0) = true ↔ (byt s i = 44 ∨ byt s i = 41) := by
   rw [show (44 : Int) = ((44 : UInt8).toNat : Int) from rfl,show (41 : Int) = ((41 : UInt8).toNat : Int) from rfl,byt_eq,byt_eq]
   simp only [List.contains_cons,List.contains_nil,Bool.or_false,Bool.or_eq_true,beq_iff_eq]
  have yes : (byt s i = 44 ∨ byt s i = 41) → Q (.ret,[(2,.p (.str (s.take i)))],[]) := fun h => by
   rw [ixP_some (by omega) (key.2 h) hn] at h2
   exact h2 (by omega)
  rw [W_loop (L := r24_Base_l1) rfl]
  simp (disch := first | assumption | omega | decide | (simp only [lens] <;> omega) | fail) only [go_sem]
  refine gd_split_f (fun hc => ?_) (fun hc => ?_)
  ·simp (disch := first | assumption | omega | decide | (simp only [lens] <;> omega) | fail) only [go_sem]
   refine cond_split (fun hc => ?_) (fun hc => ?_)
   ·simp (disch := first | assumption | omega | decide | (simp only [lens] <;> omega) | fail) only [go_sem]
    exact yes (.inr hc)
   ·simp (disch := first | assumption | omega | decide | (simp only [lens] <;> omega) | fail) only [go_sem]
    refine ih (i + 1) (by omega) (fun j hj => ?_) h1 h2
    by_cases h : j = i
    ·subst h
     rw [Bool.eq_false_iff]
     intro h
     rcases key.1 h with h | h <;> contradiction
    ·exact hn j (by omega)
  ·simp (disch := first | assumption | omega | decide | (simp only [lens] <;> omega) | fail) only [go_sem]
   exact yes (.inl hc)
@[go_sem] theorem res_r24Base (s : List UInt8) (hs : s.length < 900000000) : res Γ 5 [.str s] = some [.str (baseB s)] := by
 have h1 := lastB_ge s 40 s.length
 refine res_code (fn := r24_Base) rfl rfl ?_
 simp (disch := first | assumption | omega | decide | (simp only [lens] <;> omega) | fail) only [go_sem,r24_Base]
 refine r24_Base_l2_ok s hs _ s.length 0 (by omega) ?_
 simp (disch := first | assumption | omega | decide | (simp only [lens] <;> omega) | fail) only [go_sem]
 refine r24_Base_l1_ok (s.drop (lastB s 40 s.length + 1).toNat) (by rw [List.length_drop]; omega) _ (s.drop (lastB s 40 s.length + 1).toNat).length 0 (by omega) (by omega) (fun h => ?_) (fun h => ?_)
 ·simp (disch := first | assumption | omega | decide | (simp only [lens] <;> omega) | fail) only [go_sem,baseB]
  rw [if_neg (by omega)]
 ·simp (disch := first | assumption | omega | decide | (simp only [lens] <;> omega) | fail) only [go_sem,baseB]
  rw [if_pos h]
end Ab
namespace Ab
open Go (IntKind BinOp UnOp)
def keyB (s : List UInt8) (ns : List Int) : List (List UInt8) := ns.map (nodeB (splitB 46 (baseB s)))
theorem keyB_take {s : List UInt8} {ns : List Int} {i : Nat} (h : i < ns.length) : keyB s (ns.take (i + 1)) = keyB s (ns.take i) ++ [nodeB (splitB 46 (baseB s)) (ns.getD i 0)] := by
 rw [take_snoc 0 h]; simp [keyB]
theorem keyB_len {s : List UInt8} {ns : List Int} : (keyB s ns).length = ns.length := by simp [keyB]
theorem i64_at {ns : List Int} (h : ∀ n ∈ ns,-9223372036854775808 ≤ n ∧ n ≤ 9223372036854775807) (i : Nat) : -9223372036854775808 ≤ ns.getD i 0 ∧ ns.getD i 0 ≤ 9223372036854775807 := by
 by_cases hi : i < ns.length
 ·rw [List.getD_eq_getElem?_getD,List.getElem?_eq_getElem hi]; exact h _ (List.getElem_mem hi)
 ·rw [List.getD_eq_getElem?_getD,List.getElem?_eq_none (by omega)]; simp
theorem fname_Key_l1_ok {kk : SK} (s : List UInt8) (x1 x2 x3 x4 : PV) (ns : List Int) (hs : s.length < 900000000) (hn : ns.length < 100000000) (hr : ∀ n ∈ ns,-9223372036854775808 ≤ n ∧ n ≤ 9223372036854775807) (Q : Out → Prop) : ∀ (k i : Nat),i + k = ns.length →
  (∀ H,Q (.nrm,[(5,.own 1 ns.length)],[H,.row false 1 (strs (keyB s ns))])) →
  Wp Γ fname_Key_l1 [(2,.bx 0 0),(5,.own 1 i),(8,.p (.sl kk 1 (ints .i64 ns))),(9,.p (.int .i64 (ns.length : Int))),(10,.p (.int .i64 (i : Int)))] [.box [.p (.str s),.p x1,.p x2,.p x3,.p x4],.row false 1 (strs (keyB s (ns.take i)))] (InBlk [5] 0 Q) := by
 have hb := baseB_len s
 intro k
 induction k with
 | zero =>
  intro i hi hQ
  obtain rfl : i = ns.length := by omega
  rw [W_loop (L := fname_Key_l1) rfl]
  simp (disch := first | assumption | omega | decide | (simp only [lens] <;> omega) | fail) only [go_sem]
  rw [List.take_length]
  exact hQ _
 | succ k ih =>
  intro i hi hQ
  obtain ⟨g1,g2⟩ := i64_at hr i
  have g3 : (keyB s (ns.take i)).length = i := by rw [keyB_len,List.length_take]; omega
  rw [W_loop (L := fname_Key_l1) rfl]
  simp (disch := first | assumption | omega | decide | (simp only [lens] <;> omega) | fail) only [go_sem]
  rw [← keyB_take (by omega)]
  exact ih (i + 1) (by omega) hQ
theorem r24_Key_l1_ok {kk : SK} (s : List UInt8) (x1 x2 x3 x4 : PV) (ns : List Int) (hs : s.length < 900000000) (hn : ns.length < 100000000) (hr : ∀ n ∈ ns,-9223372036854775808 ≤ n ∧ n ≤ 9223372036854775807) (Q : Out → Prop) : ∀ (k i : Nat),i + k = ns.length →
  (∀ H,Q (.nrm,[(5,.own 1 ns.length)],[H,.row false 1 (strs (keyB s ns))])) →
  Wp Γ r24_Key_l1 [(1,.p (.sl kk 1 (ints .i64 ns))),(2,.bx 0 0),(5,.own 1 i),(6,.p (.int .i64 (i : Int)))] [.box [.p (.str s),.p x1,.p x2,.p x3,.p x4],.row false 1 (strs (keyB s (ns.take i)))] (InBlk [5] 0 Q) := by
 have hb := baseB_len s
 intro k
 induction k with
 | zero =>
  intro i hi hQ
  obtain rfl : i = ns.length := by omega
  rw [W_loop (L := r24_Key_l1) rfl]
  simp (disch := first | assumption | omega | decide | (simp only [lens] <;> omega) | fail) only [go_sem]
  rw [List.take_length]
  exact hQ _
 | succ k ih =>
  intro i hi hQ
  obtain ⟨g1,g2⟩ := i64_at hr i
  have g3 : (keyB s (ns.take i)).length = i := by rw [keyB_len,List.length_take]; omega
  rw [W_loop (L := r24_Key_l1) rfl]
  simp (disch := first | assumption | omega | decide | (simp only [lens] <;> omega) | fail) only [go_sem]
  rw [← keyB_take (by omega)]
  exact ih (i + 1) (by omega) hQ
theorem splitB_mem (c : UInt8) : ∀ (s x : List UInt8),x ∈ splitB c s → x.length ≤ s.length
 | [],x,h => by simp [splitB] at h; subst h; simp
 | b :: l,x,h => by
  have ih := splitB_mem c l
  simp only [splitB] at h
  split at h
  ·simp only [List.mem_cons] at h
   rcases h with rfl | h
   ·simp
   ·have := ih x h; simp; omega
  ·cases hh : splitB c l with
   | nil => rw [hh] at h; simp at h; subst h; simp
   | cons a t =>
    rw [hh] at h ih
    simp only [List.mem_cons] at h
    rcases h with rfl | h
    ·have := ih a (by simp); simp; omega
    ·have := ih x (by simp [h]); simp; omega
theorem nodeB_len (s : List UInt8) (i : Int) : (nodeB (splitB 46 s) i).length ≤ s.length := by
 unfold nodeB
 simp only
 generalize (if i < 0 then i + ((splitB 46 s).length : Int) else i) = j
 split
 ·simp
 ·rename_i h
  have hj : j.toNat < (splitB 46 s).length := by omega
  rw [List.getD_eq_getElem?_getD,List.getElem?_eq_getElem hj]
  exact splitB_mem 46 s _ (List.getElem_mem hj)
theorem keyB_join {s : List UInt8} {ns : List Int} (hs : s.length ≤ 100000) (hn : ns.length ≤ 1000) : (joinB [46] (keyB s ns)).length ≤ 1000000000 := by
 have h := joinB_len [46] s.length (keyB s ns) (fun x hx => by
  simp only [keyB,List.mem_map] at hx
  obtain ⟨n,_,rfl⟩ := hx
  exact Nat.le_trans (nodeB_len _ _) (baseB_len s))
 rw [keyB_len] at h
 have : ns.length * (s.length + [46].length) ≤ 1000 * 100001 := Nat.mul_le_mul hn (by simp; omega)
 omega
@[go_sem] theorem res_fnameKey {kk : SK} (s : List UInt8) (x1 x2 x3 x4 : PV) (ns : List Int) (hs : s.length ≤ 100000) (hn : ns.length ≤ 1000) (hr : ∀ n ∈ ns,-9223372036854775808 ≤ n ∧ n ≤ 9223372036854775807) :
  res Γ 6 [.agg [.str s,x1,x2,x3,x4],.sl kk 1 (ints .i64 ns)] = some [.str (joinB [46] (keyB s ns))] := by
 have hj := @keyB_join s ns hs hn
 have hk := @keyB_len s ns
 refine res_code (fn := fname_Key) rfl rfl ?_
 simp (disch := first | assumption | omega | decide | (simp only [lens] <;> omega) | fail) only [go_sem,fname_Key]
 refine fname_Key_l1_ok s x1 x2 x3 x4 ns (by omega) (by omega) hr _ ns.length 0 (by omega) (fun H => ?_)
 simp (disch := first | assumption | omega | decide | (simp only [lens] <;> omega) | fail) only [go_sem]
@[go_sem] theorem res_r24Key {kk : SK} (s : List UInt8) (x1 x2 x3 x4 : PV) (ns : List Int) (hs : s.length ≤ 100000) (hn : ns.length ≤ 1000) (hr : ∀ n ∈ ns,-9223372036854775808 ≤ n ∧ n ≤ 9223372036854775807) :
  res Γ 7 [.agg [.str s,x1,x2,x3,x4],.sl kk 1 (ints .i64 ns)] = some [.str (joinB [46] (keyB s ns))] := by
 have hj := @keyB_join s ns hs hn
 have hk := @keyB_len s ns
 refine res_code (fn := r24_Key) rfl rfl ?_
 simp (disch := first | assumption | omega | decide | (simp only [lens] <;> omega) | fail) only [go_sem,r24_Key]
 refine r24_Key_l1_ok s x1 x2 x3 x4 ns (by omega) (by omega) hr _ ns.length 0 (by omega) (fun H => ?_)
 simp (disch := first | assumption | omega | decide | (simp only [lens] <;> omega) | fail) only [go_sem]
end Ab
namespace Ab
open Go (IntKind BinOp UnOp)
theorem ints_lit {k : IntKind} {a : Int} : [PV.int k a] = ints k [a] := rfl
@[go_sem] theorem res_known24 : res Γ 8 [] = some [.bool true] := by
 have e1 : baseB [115,99,97,108,101,40,97,46,98,44,50,41] = [97,46,98] := by decide +kernel
 have e2 : joinB [46] (keyB [115,99,97,108,101,40,97,46,98,44,50,41] [1]) = [98] := by decide +kernel
 have e3 := res_fnameKey (kk := .tight) [115,99,97,108,101,40,97,46,98,44,50,41] (.int .i64 0) (.int .i64 0) (.sl .nil 2 []) (.int .i64 0) [1] (by decide) (by decide) (by decide)
 rw [e2,← ints_lit] at e3
 refine res_code (fn := l24_known) rfl rfl ?_
 simp (disch := first | assumption | omega | decide | (simp only [lens] <;> omega) | fail) only [go_sem,l24_known,e1,e3]
end Ab
namespace Ab
open Go (IntKind BinOp UnOp)
theorem isV_eq (b : Bool) (n : Int) : isV (b,n) = if b = true then decide (-4611686018427387904 ≤ n ∧ n ≤ 4611686018427387904) else decide (n = 0) := rfl
@[go_sem] theorem res_fixedIs (b : Bool) (n : Int) : res Γ 126 [.agg [.bool b,.int .i64 n]] = some [.bool (isV (b,n))] := by
 refine res_code (fn := fixed_Is) rfl rfl ?_
 cases b
 ·simp (disch := first | assumption | omega | decide | (simp only [lens] <;> omega) | fail) only [go_sem,fixed_Is,isV_eq]
 ·repeat' (first | (simp (disch := first | assumption | omega | decide | (simp only [lens] <;> omega) | fail) only [go_sem,fixed_Is,isV_eq]) | refine cond_split (fun hc => ?_) (fun hc => ?_) | refine gd_split_f (fun hc => ?_) (fun hc => ?_) | refine gd_split_t (fun hc => ?_) (fun hc => ?_))
  all_goals (simp only [Option.some.injEq,List.cons.injEq,PV.bool.injEq,and_true]; first | (symm; apply decide_eq_false; omega) | (rw [Bool.eq_iff_iff]; simp only [decide_eq_true_eq]; omega))
@[go_sem] theorem res_r1Is (b : Bool) (n : Int) : res Γ 120 [.agg [.bool b,.int .i64 n]] = some [.bool (isV (b,n))] := by
 refine res_code (fn := r1_Is) rfl rfl ?_
 cases b
 ·simp (disch := first | assumption | omega | decide | (simp only [lens] <;> omega) | fail) only [go_sem,r1_Is,isV_eq]
 ·repeat' (first | (simp (disch := first | assumption | omega | decide | (simp only [lens] <;> omega) | fail) only [go_sem,r1_Is,isV_eq]) | refine cond_split (fun hc => ?_) (fun hc => ?_) | refine gd_split_f (fun hc => ?_) (fun hc => ?_) | refine gd_split_t (fun hc => ?_) (fun hc => ?_))
  all_goals (simp only [Option.some.injEq,List.cons.injEq,PV.bool.injEq,and_true]; first | (symm; apply decide_eq_false; omega) | (rw [Bool.eq_iff_iff]; simp only [decide_eq_true_eq]; omega))
end Ab
namespace Ab
open Go (IntKind BinOp UnOp)
def sizeS (s : Ser) : Prop := s.name.length ≤ 4096 ∧ 0 ≤ s.start ∧ s.start ≤ 4294967295 ∧ 1 ≤ s.step ∧ s.step ≤ 1099511627776 ∧ s.vals.length ≤ 131072 ∧ 0 ≤ s.cons ∧ s.cons ≤ 5
instance {s : Ser} : Decidable (sizeS s) := by unfold sizeS; infer_instance
def isS (s : Ser) : Bool := decide (sizeS s) && s.vals.all isV
theorem isS_no {s : Ser} (h : ¬ sizeS s) : isS s = false := by unfold isS; rw [decide_eq_false h]; rfl
theorem isS_yes {s : Ser} (h : sizeS s) : isS s = s.vals.all isV := by unfold isS; rw [decide_eq_true h]; rfl
@[go_sem] theorem res_seriesIs1 (b : Bool) (n : Int) : res Γ 119 [.agg [.bool b,.int .i64 n]] = some [.bool (!isV (b,n))] := by
 refine res_code (fn := series_Is_1) rfl rfl ?_
 simp (disch := first | assumption | omega | decide | (simp only [lens] <;> omega) | fail) only [go_sem,series_Is_1]
theorem all_take {l : List Val} {i : Nat} (h : i < l.length) : (l.take (i + 1)).all isV = ((l.take i).all isV && isV (l.getD i (false,0))) := by
 rw [take_snoc' (false,0) h,List.all_append]
 simp only [List.all_cons,List.all_nil,Bool.and_true]
theorem all_bad {l : List Val} {i : Nat} (h : i < l.length) (hv : isV (l.getD i (false,0)) = false) : l.all isV = false := by
 rw [List.all_eq_false]
 refine ⟨l[i],List.getElem_mem h,?_⟩
 rw [List.getD_eq_getElem?_getD,List.getElem?_eq_getElem h] at hv
 simpa using hv
theorem IndexFunc_l1_ok {kk : SK} (l : List Val) (hl : l.length < 1000000000) (Q : Out → Prop) : ∀ (k i : Nat),i + k = l.length → (l.take i).all isV = true →
  (l.all isV = true → Q (.nrm,[],[])) → (l.all isV = false → ∀ j : Nat,Q (.ret,[(4,.p (.int .i64 (j : Int)))],[])) →
  Wp Γ slices_IndexFunc_api_Val_api_Val_l1 [(0,.p (.sl kk 2 (vpv l))),(1,.p (.clo 119 [])),(7,.p (.int .i64 (l.length : Int))),(8,.p (.int .i64 (i : Int)))] [] (InBlk [] 0 Q) := by
 intro k
 induction k with
 | zero =>
  intro i hi ha h1 h2
  obtain rfl : i = l.length := by omega
  rw [List.take_length] at ha
  rw [W_loop (L := slices_IndexFunc_api_Val_api_Val_l1) rfl]
  simp (disch := first | assumption | omega | decide | (simp only [lens] <;> omega) | fail) only [go_sem]
  exact h1 ha
 | succ k ih =>
  intro i hi ha h1 h2
  have e := all_take (l := l) (i := i) (by omega)
  rw [W_loop (L := slices_IndexFunc_api_Val_api_Val_l1) rfl]
  simp (disch := first | assumption | omega | decide | (simp only [lens] <;> omega) | fail) only [go_sem,valP]
  cases hv : isV (l.getD i (false,0))
  ·simp (disch := first | assumption | omega | decide | (simp only [lens] <;> omega) | fail) only [go_sem]
   exact h2 (all_bad (by omega) hv) i
  ·simp (disch := first | assumption | omega | decide | (simp only [lens] <;> omega) | fail) only [go_sem]
   exact ih (i + 1) (by omega) (by rw [e,ha,hv]; rfl) h1 h2
theorem res_IndexFunc {kk : SK} (l : List Val) (hl : l.length < 1000000000) : ∃ r : Int,res Γ 127 [.sl kk 2 (vpv l),.clo 119 []] = some [.int .i64 r] ∧ decide (0 ≤ r) = !(l.all isV) := by
 cases ha : l.all isV
 ·
  have hx : ∃ j : Nat,(j < l.length ∧ isV (l.getD j (false,0)) = false) ∧ ∀ i,i < j → isV (l.getD i (false,0)) = true := by
   have : ∃ j,j < l.length ∧ isV (l.getD j (false,0)) = false := by
    rw [List.all_eq_false] at ha
    obtain ⟨x,hx,hv⟩ := ha
    obtain ⟨j,hj,rfl⟩ := List.getElem_of_mem hx
    exact ⟨j,hj,by rw [List.getD_eq_getElem?_getD,List.getElem?_eq_getElem hj]; simpa using hv⟩
   obtain ⟨j,h1,h2⟩ := this
   induction j using Nat.strongRecOn with
   | ind j ih =>
    by_cases hall : ∀ i,i < j → isV (l.getD i (false,0)) = true
    ·exact ⟨j,⟨h1,h2⟩,hall⟩
    ·simp only [Classical.not_forall] at hall
     obtain ⟨i,hi,hv⟩ := hall
     exact ih i hi (by omega) (by simpa using hv)
  obtain ⟨j,⟨hj1,hj2⟩,hj3⟩ := hx
  refine ⟨j,?_,by simp⟩
  have step : ∀ (d i : Nat) (Q : Out → Prop),i + d = j → Q (.ret,[(4,.p (.int .i64 (j : Int)))],[]) →
    Wp Γ slices_IndexFunc_api_Val_api_Val_l1 [(0,.p (.sl kk 2 (vpv l))),(1,.p (.clo 119 [])),(7,.p (.int .i64 (l.length : Int))),(8,.p (.int .i64 (i : Int)))] [] (InBlk [] 0 Q) := by
   intro d
   induction d with
   | zero =>
    intro i Q hi hQ
    obtain rfl : i = j := by omega
    rw [W_loop (L := slices_IndexFunc_api_Val_api_Val_l1) rfl]
    simp (disch := first | assumption | omega | decide | (simp only [lens] <;> omega) | fail) only [go_sem,valP,hj2]
    exact hQ
   | succ d ih =>
    intro i Q hi hQ
    have hv := hj3 i (by omega)
    rw [W_loop (L := slices_IndexFunc_api_Val_api_Val_l1) rfl]
    simp (disch := first | assumption | omega | decide | (simp only [lens] <;> omega) | fail) only [go_sem,valP,hv]
    exact ih (i + 1) Q (by omega) hQ
  refine res_code (fn := slices_IndexFunc_api_Val_api_Val) rfl rfl ?_
  simp (disch := first | assumption | omega | decide | (simp only [lens] <;> omega) | fail) only [go_sem,slices_IndexFunc_api_Val_api_Val]
  refine step j 0 _ (by omega) ?_
  simp (disch := first | assumption | omega | decide | (simp only [lens] <;> omega) | fail) only [go_sem]
 ·refine ⟨-1,?_,by simp⟩
  refine res_code (fn := slices_IndexFunc_api_Val_api_Val) rfl rfl ?_
  simp (disch := first | assumption | omega | decide | (simp only [lens] <;> omega) | fail) only [go_sem,slices_IndexFunc_api_Val_api_Val]
  refine IndexFunc_l1_ok l hl _ l.length 0 (by omega) rfl (fun h => ?_) (fun h => ?_)
  ·simp (disch := first | assumption | omega | decide | (simp only [lens] <;> omega) | fail) only [go_sem]
  ·rw [ha] at h; cases h
@[go_sem] theorem res_ContainsFunc {kk : SK} (l : List Val) (hl : l.length < 1000000000) : res Γ 118 [.sl kk 2 (vpv l),.clo 119 []] = some [.bool (!l.all isV)] := by
 obtain ⟨r,h1,h2⟩ := res_IndexFunc (kk := kk) l hl
 refine res_code (fn := slices_ContainsFunc_api_Val_api_Val) rfl rfl ?_
 simp (disch := first | assumption | omega | decide | (simp only [lens] <;> omega) | fail) only [go_sem,slices_ContainsFunc_api_Val_api_Val,h1,h2]
theorem res_seriesIs {kk : SK} (s : Ser) (hl : s.vals.length ≤ 9223372036854775807) : res Γ 111 [s.pv kk] = some [.bool (isS s)] := by
 unfold Ser.pv
 refine res_code (fn := series_Is) rfl rfl ?_
 repeat' (first | (simp (disch := first | assumption | omega | decide | (simp only [lens] <;> omega) | fail) only [go_sem,series_Is]) | refine cond_split (fun hc => ?_) (fun hc => ?_) | refine gd_split_f (fun hc => ?_) (fun hc => ?_) | refine gd_split_t (fun hc => ?_) (fun hc => ?_))
 all_goals first
  | (rw [isS_no (by unfold sizeS; omega)]; done)
  | (rw [isS_no (by unfold sizeS; omega),decide_eq_false (by omega)]; done)
  | (rw [isS_yes (by unfold sizeS; omega)]; simp)
  | skip
theorem r18_Is_l1_ok {kk : SK} (s : Ser) (hl : s.vals.length < 1000000000) (Q : Out → Prop) : ∀ (k i : Nat),i + k = s.vals.length → (s.vals.take i).all isV = true →
  (s.vals.all isV = true → ∀ H,Q (.nrm,[],H)) → (s.vals.all isV = false → ∀ H,Q (.ret,[(2,.p (.bool false))],H)) →
  Wp Γ r18_Is_l1 [(1,.bx 0 0),(3,.p (.int .i64 (i : Int)))] [.box [.p (.str s.name),.p (.int .i64 s.start),.p (.int .i64 s.step),.p (.sl kk 2 (vpv s.vals)),.p (.int .i64 s.cons)]] (InBlk [] 0 Q) := by
 intro k
 induction k with
 | zero =>
  intro i hi ha h1 h2
  obtain rfl : i = s.vals.length := by omega
  rw [List.take_length] at ha
  rw [W_loop (L := r18_Is_l1) rfl]
  simp (disch := first | assumption | omega | decide | (simp only [lens] <;> omega) | fail) only [go_sem]
  exact h1 ha _
 | succ k ih =>
  intro i hi ha h1 h2
  have e := all_take (l := s.vals) (i := i) (by omega)
  rw [W_loop (L := r18_Is_l1) rfl]
  simp (disch := first | assumption | omega | decide | (simp only [lens] <;> omega) | fail) only [go_sem,valP]
  cases hv : isV (s.vals.getD i (false,0))
  ·simp (disch := first | assumption | omega | decide | (simp only [lens] <;> omega) | fail) only [go_sem]
   exact h2 (all_bad (by omega) hv) _
  ·simp (disch := first | assumption | omega | decide | (simp only [lens] <;> omega) | fail) only [go_sem]
   exact ih (i + 1) (by omega) (by rw [e,ha,hv]; rfl) h1 h2
theorem res_r18Is {kk : SK} (s : Ser) (hl : s.vals.length ≤ 9223372036854775807) : res Γ 113 [s.pv kk] = some [.bool (isS s)] := by
 unfold Ser.pv
 refine res_code (fn := r18_Is) rfl rfl ?_
 repeat' (first | (simp (disch := first | assumption | omega | decide | (simp only [lens] <;> omega) | fail) only [go_sem,r18_Is]) | refine cond_split (fun hc => ?_) (fun hc => ?_) | refine gd_split_f (fun hc => ?_) (fun hc => ?_) | refine gd_split_t (fun hc => ?_) (fun hc => ?_))
 all_goals first
  | (rw [isS_no (by unfold sizeS; omega)]; done)
  | skip
 all_goals
  have hs : sizeS s := by unfold sizeS; omega
  rw [isS_yes hs]
  refine r18_Is_l1_ok s (by omega) _ s.vals.length 0 (by omega) rfl (fun h H => ?_) (fun h H => ?_)
  ·simp (disch := first | assumption | omega | decide | (simp only [lens] <;> omega) | fail) only [go_sem,h]
  ·simp (disch := first | assumption | omega | decide | (simp only [lens] <;> omega) | fail) only [go_sem,h]
end Ab
