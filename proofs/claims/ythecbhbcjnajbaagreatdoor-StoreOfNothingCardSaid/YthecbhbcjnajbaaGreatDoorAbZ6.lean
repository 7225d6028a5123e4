import Derived.Test.YthecbhbcjnajbaaGreatDoorAbZ8
import Derived.Sort.KeysCollected
namespace Ab
open Go (IntKind BinOp UnOp World Value Addr Obj undef maxLen Program TypeId Oper Op Operand Act Sem Next Result execOp Builtin Calls Ending Exit MapEntry DataW MemPlace Lit)
open Go.RowKit
theorem less_iff : ∀ {a b : List UInt8},bytesLess a b = true ↔ a < b
 | _,[] => by simp [bytesLess,List.not_lt_nil]
 | [],b :: y => by simp [bytesLess,List.nil_lt_cons]
 | a :: x,b :: y => by
  rw [List.cons_lt_cons_iff,← less_iff]
  simp [bytesLess]
theorem insB_perm (s : List UInt8) : ∀ l,(insB s l).Perm (s :: l)
 | [] => .refl _
 | t :: r => by
  unfold insB
  split
  ·exact ((insB_perm s r).cons t).trans (.swap s t r)
  ·exact .refl _
theorem sortB_perm : ∀ l,(sortB l).Perm l
 | [] => .refl _
 | s :: r => (insB_perm s _).trans ((sortB_perm r).cons s)
theorem insB_sorted (s : List UInt8) : ∀ {l : List (List UInt8)},l.Pairwise (· ≤ ·) → (insB s l).Pairwise (· ≤ ·)
 | [],_ => by simp [insB]
 | t :: r,h => by
  obtain ⟨h1,h2⟩ := List.pairwise_cons.1 h
  unfold insB
  split
  ·rename_i hb
   refine List.pairwise_cons.2 ⟨fun x hx => ?_,insB_sorted s h2⟩
   rcases List.mem_cons.1 ((insB_perm s r).mem_iff.1 hx) with rfl | hx
   ·exact List.le_of_lt (less_iff.1 hb)
   ·exact h1 x hx
  ·rename_i hb
   have hst : s ≤ t := by
    have : ¬ t < s := fun e => hb (less_iff.2 e)
    exact this
   refine List.pairwise_cons.2 ⟨fun x hx => ?_,h⟩
   rcases List.mem_cons.1 hx with rfl | hx
   ·exact hst
   ·exact List.le_trans hst (h1 x hx)
theorem sortB_sorted : ∀ l : List (List UInt8),(sortB l).Pairwise (· ≤ ·)
 | [] => .nil
 | s :: r => insB_sorted s (sortB_sorted r)
theorem sortB_eq {l l' : List (List UInt8)} (hp : l.Perm l') : l.mergeSort (fun x y => decide (x ≤ y)) = sortB l' := by
 have tr : ∀ a b c : List UInt8,Go.leB a b = true → Go.leB b c = true → Go.leB a c = true := fun a b c h1 h2 => by simp only [Go.leB,decide_eq_true_eq] at *; exact List.le_trans h1 h2
 have to : ∀ a b : List UInt8,(Go.leB a b || Go.leB b a) = true := fun a b => by simp only [Go.leB,Bool.or_eq_true,decide_eq_true_eq]; exact List.le_total a b
 refine List.Perm.eq_of_pairwise (le := fun a b => Go.leB a b = true) (fun a b _ _ h1 h2 => ?_) (List.pairwise_mergeSort tr to l) ?_ (((List.mergeSort_perm l Go.leB).trans hp).trans (sortB_perm l').symm)
 ·simp only [Go.leB,decide_eq_true_eq] at h1 h2
  exact List.le_antisymm h1 h2
 ·exact (sortB_sorted l').imp fun h => by simpa [Go.leB] using h
structure KeysOk (P : Program) (f K : Nat) (k : TypeId) : Prop where
 key : P.underlying k = some .string
 enters : Enters P f
 some : ∀ (bm b nn : Nat) (D0 : DataW Unit) (R : Value → Option (DataW Unit × List MemPlace)) (w : World),bm < w.heap.size → w.cell? ⟨bm,0,none⟩ = some (.map (some b)) → w.ownsMap P k R b nn D0 → Go.Maps.size D0 ≤ maxLen → Go.Maps.size D0 * 16 ≤ 140737488355328 →
  Calls P f #[.func (.func K) #[] #[.pointer (some ⟨bm,0,none⟩)]] w fun e w' => ∃ (v : Value) (ss : List (List UInt8)),e = .returned v ∧ ss.Perm (Go.strKeys D0) ∧
   w'.ownsRow w.heap.size k 1 v ss.length ((ss.mergeSort (fun x y => decide (x ≤ y))).map Go.Proofs.encStr) ∧ (v = .slice none 0 0 ↔ ss = []) ∧ Below w.heap.size w w'
 none : ∀ (bm : Nat) (w : World),bm < w.heap.size → w.cell? ⟨bm,0,.none⟩ = .some (.map .none) →
  Calls P f #[.func (.func K) #[] #[.pointer (.some ⟨bm,0,.none⟩)]] w fun e w' => e = .returned (.slice .none 0 0) ∧ Below w.heap.size w w'
theorem strKeysIn_spec : ∀ {es : List (PV × AV)} {ss : List (List UInt8)},strKeysIn es = some ss → es.map (·.1) = ss.map .str ∧ ∀ s ∈ ss,s.length ≤ lim
 | [],ss,h => by simp only [strKeysIn,Option.some.injEq] at h; subst h; simp
 | (k,v) :: r,ss,h => by
  cases k <;> simp only [strKeysIn] at h <;> try cases h
  rename_i s0
  split at h
  ·rename_i hl
   obtain ⟨r',h1,rfl⟩ := Option.map_eq_some_iff.1 h
   obtain ⟨h2,h3⟩ := strKeysIn_spec h1
   refine ⟨by simp [h2],fun s hs => ?_⟩
   rcases List.mem_cons.1 hs with rfl | hs
   ·exact hl
   ·exact h3 s hs
  ·cases h
abbrev anyR : Value → Option (DataW Unit × List MemPlace) := fun _ => some (.nil,[])
section
variable {Γ : Ctx} {N : Names} {P : Program} {w : World} {S : Nat → Prop} {μ : Nat → Value} {H : Heap}
theorem mapRel_keys {ν : Nat → Nat} {k : TypeId} (hk : P.underlying k = some .string) : ∀ {es : List (PV × AV)} {l : List MapEntry} {ss : List (List UInt8)},MapRel ν w S μ H es l → strKeysIn es = some ss →
  l.map (Go.WideElems.rg P k anyR) = ss.map (fun s => (Lit.string s,DataW.nil)) ∧ ∀ x ∈ l,∃ y,Go.WideElems.rd P k anyR x = some y
 | [],[],ss,_,h => by simp only [strKeysIn,Option.some.injEq] at h; subst h; simp
 | (kk,v) :: es,e :: l,ss,hm,h => by
  cases kk <;> simp only [strKeysIn] at h <;> try cases h
  rename_i s0
  split at h
  ·rename_i hl
   obtain ⟨r',h1,rfl⟩ := Option.map_eq_some_iff.1 h
   obtain ⟨g1,g2⟩ := mapRel_keys hk hm.2.2.2 h1
   have hkey : Go.keyOf P k e.key = some (.string s0) := by
    have h0 := hm.1
    generalize e.key = z at h0
    cases h0
    have : (⟨s0.toArray⟩ : ByteArray).size ≤ maxLen := by
     show s0.toArray.size ≤ maxLen
     rw [List.size_toArray]
     exact Nat.le_trans hl (by decide)
    simp [Go.keyOf,Go.mapKey,hk,this]
   have hrd : Go.WideElems.rd P k anyR e = some (.string s0,.nil) := by simp [Go.WideElems.rd,hkey]
   refine ⟨by simp [g1,Go.WideElems.rg_of hrd],fun x hx => ?_⟩
   rcases List.mem_cons.1 hx with rfl | hx
   ·exact ⟨_,hrd⟩
   ·exact g2 x hx
  ·cases h
 | [],_ :: _,_,h,_ => h.elim
 | (_,_) :: _,[],_,h,_ => h.elim
theorem strKeys_map {l : List (Lit × DataW Unit)} : Go.strKeys (DataW.map (l.foldr DataW.insert [])) = (l.foldr DataW.insert []).map fun p => Go.strOf p.1 := rfl
theorem owns_of {id g : Nat} {k : TypeId} (hk : P.underlying k = some .string) (hr : Rel N.fn w S μ H) {es : List (PV × AV)} {ss : List (List UInt8)} (hes : mapOf H id = some es) (hss : strKeysIn es = some ss) (hl : es.length ≤ lim) (hg : μ id = .pointer (some ⟨g,0,none⟩)) :
  ∃ D0 : DataW Unit,w.ownsMap P k anyR g es.length D0 ∧ (Go.strKeys D0).Perm ss ∧ Go.Maps.size D0 = es.length := by
 obtain ⟨g',arr,clock,e1,e2,est,e3⟩ := hr.map_of hes
 rw [hg] at e1
 cases e1
 obtain ⟨g1,g2⟩ := mapRel_keys hk e3 hss
 have hsz : arr.size = es.length := by simpa using e3.len
 have hlen : ss.length = es.length := by simpa using (congrArg List.length (strKeysIn_spec hss).1).symm
 refine ⟨_,⟨arr,clock,e2,⟨by rw [hsz]; exact Nat.le_trans hl (by decide),est,g2⟩,by omega,rfl⟩,?_,?_⟩
 ·rw [g1,strKeys_map]
  refine ((Go.WideShapes.sorted_perm _).map _).trans ?_
  rw [List.map_map]
  simp [Function.comp_def,Go.strOf]
 ·show (List.foldr DataW.insert [] _).length = _
  rw [(Go.WideShapes.sorted_perm _).length_eq,g1,List.length_map,hlen]
theorem row_texts {ν : Nat → Nat} {base : Nat} {k : TypeId} {v : Value} {l : List (List UInt8)} {w' : World} (hrow : w'.ownsRow base k 1 v l.length (l.map Go.Proofs.encStr)) (hn : v = .slice none 0 0 ↔ l = []) (hl : l.length ≤ lim) {S : Nat → Prop} (hS : ∀ g,S g → g < base) (hb : base ≤ w'.heap.size) :
  ∃ S' : Nat → Prop,(∀ g,S g → S' g) ∧ (∀ g,S' g → g < w'.heap.size) ∧ (∀ g,S' g → S g ∨ base ≤ g) ∧ RelP ν w' S' (rowS l) v := by
 cases l with
 | nil =>
  obtain rfl := hn.2 rfl
  exact ⟨S,fun _ h => h,fun g h => Nat.lt_of_lt_of_le (hS g h) hb,fun _ h => .inl h,.sl .nil 1 [] none 0 (fun _ _ => undef) (Nat.le_refl _) (Nat.zero_le _) (by simp) (by simp) (by simp) (by simp) (by simp) (by simp)⟩
 | cons s r =>
  obtain ⟨h1,h2 | ⟨g,cap,cur,rfl,hg,hc,h3,h4,h5,h6⟩⟩ := hrow
  ·exact absurd h2.2 (by simp)
  have hlt : g < w'.heap.size := (Array.getElem?_eq_some_iff.1 hc).1
  refine ⟨fun x => S x ∨ x = g,fun _ h => .inl h,fun x h => ?_,fun x h => ?_,?_⟩
  ·rcases h with h | rfl
   ·exact Nat.lt_of_lt_of_le (hS x h) hb
   ·exact hlt
  ·rcases h with h | rfl
   ·exact .inl h
   ·exact .inr hg
  have hlen : ((s :: r).map PV.str).length = (s :: r).length := by simp
  have cell : ∀ (i : Nat) t,(s :: r)[i]? = some t → w'.cell? ⟨g,i,none⟩ = some (.string ⟨t.toArray⟩) := by
   intro i t hi
   have hil := (List.getElem?_eq_some_iff.1 hi).1
   have : cur[i]? = some (.string ⟨t.toArray⟩) := by
    have h7 := congrArg (fun l => l[i]?) h6
    simp only [List.getElem?_map,hi,Option.map_some,List.getElem?_take] at h7
    rw [if_pos (by simpa using hil)] at h7
    simpa using h7
   simp [World.cell?,hc,this]
  have hgoal : RelP ν w' (fun x => S x ∨ x = g) (.sl .any 1 ((s :: r).map .str)) (.slice (some ⟨g,0,none⟩) ((s :: r).map PV.str).length cap) := by
   refine .sl .any 1 ((s :: r).map .str) (some ⟨g,0,none⟩) cap (fun i _ => .string ⟨((s :: r).getD i []).toArray⟩) (by rw [hlen]; exact h3) h4 (fun x hx => ?_) (by simp) (by simp) (fun _ => ⟨_,rfl,.inr rfl⟩) (fun ad he i x j c hx hj => ?_) (fun i x j c hx hj => ?_)
   ·obtain ⟨t,_,rfl⟩ := List.mem_map.1 hx
    exact ⟨rfl,fun c hc => by simp only [PV.cells,List.mem_singleton] at hc; subst hc; rfl⟩
   ·cases he
    rw [List.getElem?_map,Option.map_eq_some_iff] at hx
    obtain ⟨t,ht,rfl⟩ := hx
    match j,hj with
    | 0,_ =>
     have := cell i t ht
     have e : (s :: r).getD i [] = t := by rw [List.getD_eq_getElem?_getD,ht]; rfl
     rw [e,← this]
     congr 1
     by_cases hi : i = 0 <;> simp [Addr.add,hi]
   ·rw [List.getElem?_map,Option.map_eq_some_iff] at hx
    obtain ⟨t,ht,rfl⟩ := hx
    match j,hj with
    | 0,hj =>
     simp only [PV.cells,List.getElem?_cons_zero,Option.some.injEq] at hj
     subst hj
     have e : (s :: r).getD i [] = t := by rw [List.getD_eq_getElem?_getD,ht]; rfl
     rw [e]
     exact .str t
  rw [hlen] at hgoal
  exact hgoal
theorem look_keys {f : Nat} {Ks : List Nat} {k : TypeId} (h : ∀ K ∈ Ks,KeysOk P (N.fn f) (N.fn K) k) : LookOk Γ N P f (keysG Ks) := by
 intro args H rs hg w S μ us hr hgl ha
 unfold keysG at hg
 split at hg
 rotate_left
 ·cases hg
 rename_i kf b
 split at hg
 rotate_left
 ·cases hg
 rename_i hk
 have h := h kf (List.contains_iff_mem.1 hk)
 obtain ⟨cs,hb,hg⟩ := Option.bind_eq_some_iff.1 hg
 match us,ha with
 | [u],⟨hu,_⟩ =>
 cases hu with
 | clo _ _ us q1 q2 q3 =>
 have hu0 := q3 0 (.bx b 0) rfl
 obtain ⟨gb,hgb,hbl,hμ⟩ := hu0.bx_inv
 have hH := boxOf_spec hb
 have hμ := hμ _ hH
 have hus : us = #[.pointer (some ⟨gb,0,none⟩)] := by
  have : us.size = 1 := q1
  obtain ⟨u0,rfl⟩ : ∃ u0,us = #[u0] := by
   refine ⟨us[0],Array.ext (by simp [this]) fun i h1 h2 => ?_⟩
   have : i = 0 := by simp at h2; omega
   subst this; rfl
  simp at hgb
  rw [hgb]
 subst hus
 obtain ⟨g',e1,hrest⟩ := hr.blk b _ hH
 rw [hμ] at e1
 cases e1
 have hbm : gb < w.heap.size := by
  rcases hrest with ⟨arr,t,h2,_⟩ | ⟨_,_,_,h2⟩ | ⟨_,arr,_,_,h2,_⟩ <;> exact (Array.getElem?_eq_some_iff.1 h2).1
 have one : ∀ c,cs = [c] → ∃ x,w.cell? ⟨gb,0,none⟩ = some x ∧ RelV N.fn w S μ H c x := by
  rintro c rfl
  rcases hrest with ⟨arr,t,h2,h3,h4,h5⟩ | ⟨s,pos,h2,_⟩ | ⟨es,arr,clock,h2,_⟩
  ·have h6 : 0 < arr.size := by rw [h3]; simp
   refine ⟨arr[0],by simp [World.cell?,h2,h6],?_⟩
   simpa [h6] using h5 0 c rfl
  ·simp [iterCells] at h2
  ·simp [mapCells] at h2
 unfold keysV at hg
 split at hg
 ·rename_i id
  obtain ⟨es,hes,hg⟩ := Option.bind_eq_some_iff.1 hg
  obtain ⟨ss,hss,hg⟩ := Option.bind_eq_some_iff.1 hg
  simp only [Option.ite_none_right_eq_some,Option.some.injEq] at hg
  obtain ⟨hl,rfl⟩ := hg
  obtain ⟨x,hx1,hx2⟩ := one _ rfl
  obtain ⟨g,rfl,_,hg⟩ := hx2.mp_inv
  have hg := hg _ (mapOf_spec hes)
  obtain ⟨D0,d1,d2,d3⟩ := owns_of h.key hr hes hss hl hg
  have hlen : ss.length = es.length := by simpa using (congrArg List.length (strKeysIn_spec hss).1).symm
  refine .inl ⟨h.enters _ _,(h.some gb g es.length D0 anyR w hbm hx1 d1 (by rw [d3]; exact Nat.le_trans hl (by decide)) (by rw [d3]; exact Nat.le_trans (Nat.mul_le_mul_right 16 hl) (by decide))).mono ?_⟩
  rintro e w' ⟨v,zs,rfl,z1,z2,z3,z4⟩
  rw [sortB_eq (z1.trans d2)] at z2
  have zl : zs.length = ss.length := (z1.trans d2).length_eq
  have sl : (sortB ss).length = ss.length := (sortB_perm ss).length_eq
  rw [show zs.length = (sortB ss).length by omega] at z2
  have znil : v = .slice none 0 0 ↔ sortB ss = [] := by
   rw [z3,← List.length_eq_zero_iff,← List.length_eq_zero_iff,zl,sl]
  obtain ⟨S',s1,s2,s3,s4⟩ := row_texts (ν := N.fn) z2 znil (by omega) hr.lt z4.size
  exact ⟨_,rfl,[v],S',rfl,⟨z4.os,z4.tape,z4.output,z4.size,fun g hg => z4.block g hg⟩,s1,s2,s3,s4,trivial⟩
 ·simp only [Option.some.injEq] at hg
  subst hg
  obtain ⟨x,hx1,hx2⟩ := one _ rfl
  have : x = .map none := by
   have := hx2.p_inv
   cases this
   rfl
  subst this
  refine .inl ⟨h.enters _ _,(h.none gb w hbm hx1).mono ?_⟩
  rintro e w' ⟨rfl,z4⟩
  exact ⟨_,rfl,[.slice none 0 0],S,rfl,⟨z4.os,z4.tape,z4.output,z4.size,fun g hg => z4.block g hg⟩,fun _ h => h,fun g hg => Nat.lt_of_lt_of_le (hr.lt g hg) z4.size,fun _ h => .inl h,.sl .nil 1 [] none 0 (fun _ _ => undef) (Nat.le_refl _) (Nat.zero_le _) (by simp) (by simp) (by simp) (by simp) (by simp) (by simp),trivial⟩
 ·cases hg
end
end Ab
