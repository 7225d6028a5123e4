import Derived.Test.YtlgclfmmnifgoaaGreatDoorAbDrawn
import Derived.Lib.Join
import Derived.Lib.Replace
import Derived.Lib.SlParts
namespace Ab
open Go (IntKind BinOp UnOp World Value Addr Obj undef maxLen Program TypeId Oper Op Operand Act Sem Next Result execOp Builtin Calls Ending Exit)
open Go.RowKit
structure JoinOk (P : Program) (f : Nat) : Prop where
 enters : Enters P f
 none : ∀ (a : Option Addr) (c : Nat) (sep : ByteArray) (w : World),Calls P f #[.slice a 0 c,.string sep] w fun e w' => e = .returned (.string ⟨#[]⟩) ∧ w' = w
 some : ∀ (bk o c : Nat) (xs : List ByteArray) (sep : ByteArray) (w : World),(∀ (j : Nat) x,xs[j]? = some x → w.cell? ⟨bk,o + j,.none⟩ = .some (.string x)) → bk < w.heap.size → xs.length ≤ 140737488355328 → xs.length ≤ c →
  (Go.Lib.join (xs.map (·.data.toList)) sep.data.toList).length ≤ 140737488355328 →
  Calls P f #[.slice (.some ⟨bk,o,.none⟩) xs.length c,.string sep] w fun e w' => e = .returned (.string ⟨(Go.Lib.join (xs.map (·.data.toList)) sep.data.toList).toArray⟩) ∧ Below w.heap.size w w'
theorem mI (sep : List UInt8) : ∀ l : List (List UInt8),Go.Lib.join l sep = bD sep l
 | [] => rfl
 | [a] => by simp [Go.Lib.join,bD,List.intercalate]
 | a :: b :: r => by
  have := mI sep (b :: r)
  simp only [Go.Lib.join,bD,List.intercalate,List.intersperse,List.flatten_cons] at this ⊢
  rw [← this,List.append_assoc]
theorem nm : ∀ {xs : List PV} {l : List (List UInt8)},oc xs = some l → xs = l.map .str
 | [],l,h => by simp only [oc,Option.some.injEq] at h; subst h; rfl
 | x :: xs,l,h => by
  cases x <;> simp only [oc] at h <;> try cases h
  rename_i s
  obtain ⟨r,h1,rfl⟩ := Option.map_eq_some_iff.1 h
  rw [nm h1]; rfl
theorem BC {Γ : Ctx} {N : Names} {P : Program} {f : Nat} (h : JoinOk P (N.fn f)) : ph Γ N P f Bm := by
 intro ps rs hg w S us hS hgl ha
 unfold Bm at hg
 split at hg
 rotate_left
 ·cases hg
 rename_i kk xs sep
 split at hg
 rotate_left
 ·cases hg
 rename_i l hl
 simp only [Option.ite_none_right_eq_some,Option.some.injEq] at hg
 obtain ⟨⟨hb1,hb2⟩,rfl⟩ := hg
 have hx := nm hl
 match us,ha with
 | [u1,u2],⟨h1,h2,_⟩ =>
  rw [h2.str_inv]
  generalize hxs : xs = xs' at h1
  cases h1 with
  | sl _ _ _ a cap ws k1 k2 k3 k4 k5 k6 k7 k8 =>
  subst hxs
  refine .inl ⟨h.enters _ _,?_⟩
  by_cases hne : xs = []
  ·subst hne
   have : l = [] := by cases l with | nil => rfl | cons => simp at hx
   subst this
   refine (h.none a cap ⟨sep.toArray⟩ w).mono ?_
   rintro e w' ⟨rfl,rfl⟩
   exact ⟨_,rfl,[.string ⟨#[]⟩],S,rfl,.refl _,fun _ h => h,hS,fun _ h => .inl h,.str [],trivial⟩
  ·obtain ⟨ad,rfl,hs⟩ := k6 hne
   obtain ⟨bk,o,sp⟩ := ad
   have cell : ∀ (j : Nat) s,l[j]? = some s → w.cell? ((⟨bk,o,sp⟩ : Addr).add j) = some (.string ⟨s.toArray⟩) := by
    intro j s hj
    have e1 : xs[j]? = some (.str s) := by rw [hx,List.getElem?_map,hj]; rfl
    have := k7 _ rfl j (.str s) 0 (.str s) e1 rfl
    rw [(k8 j (.str s) 0 (.str s) e1 rfl).str_inv] at this
    simpa using this
   have hsp : sp = none := by
    cases l with
    | nil => exact absurd hx hne
    | cons s r =>
     have := cell 0 s rfl
     simp only [Addr.add,if_true] at this
     unfold World.cell? at this
     cases sp with
     | none => rfl
     | some x => split at this <;> simp_all
   subst hsp
   have hlen : xs.length = (l.map fun s => (⟨s.toArray⟩ : ByteArray)).length := by rw [hx]; simp
   have hmap : (l.map fun s => (⟨s.toArray⟩ : ByteArray)).map (·.data.toList) = l := by rw [List.map_map]; exact List.map_id l
   rw [hlen]
   refine (h.some bk o cap (l.map fun s => ⟨s.toArray⟩) ⟨sep.toArray⟩ w ?_ (hS _ hs) ?_ ?_ ?_).mono ?_
   ·intro j x hj
    rw [List.getElem?_map,Option.map_eq_some_iff] at hj
    obtain ⟨s,hs,rfl⟩ := hj
    have := cell j s hs
    unfold Addr.add at this
    split at this
    ·rename_i h0; subst h0; exact this
    ·exact this
   ·simp only [List.length_map]; omega
   ·rw [← hlen]; exact k1
   ·rw [hmap,mI]; simp only; omega
   ·rintro e w' ⟨rfl,hw⟩
    rw [hmap,mI]
    exact ⟨_,rfl,[.string ⟨(bD sep l).toArray⟩],S,rfl,⟨hw.os,hw.tape,hw.output,hw.size,fun g hg => hw.block g hg⟩,fun _ h => h,fun g hg => Nat.lt_of_lt_of_le (hS g hg) hw.size,fun _ h => .inl h,.str _,trivial⟩
end Ab
namespace Ab
open Go (IntKind BinOp UnOp World Value Addr Obj undef maxLen Program TypeId Oper Op Operand Act Sem Next Result execOp Builtin Calls Ending Exit)
open Go.RowKit
theorem li (c a : UInt8) (l : List UInt8) : Go.Lib.index (c :: l) [a] = if c = a then 0 else if Go.Lib.index l [a] == -1 then -1 else Go.Lib.index l [a] + 1 := by
 by_cases h : c = a
 ·subst h; simp [Go.Lib.index,List.isPrefixOf]
 ·rw [if_neg h]
  simp only [Go.Lib.index,List.isPrefixOf,Bool.and_true]
  rw [if_neg (by simpa using Ne.symm h)]
theorem ig (a b : UInt8) : ∀ (s : List UInt8) (k : Nat),s.count a ≤ k → Go.Lib.replaceK [a] [b] k s = cO a b s
 | [],0,_ => rfl
 | [],k + 1,_ => by simp [Go.Lib.replaceK,Go.Lib.index,cO]
 | c :: l,k,hk => by
  by_cases h : c = a
  ·subst h
   cases k with
   | zero => simp at hk
   | succ k =>
    have ih := ig c b l k (by simpa using hk)
    rw [Go.Lib.replaceK_hit [c] [b] k (c :: l) 0 (by rw [li]; simp)]
    simp only [List.take_zero,List.nil_append,List.length_singleton,Nat.zero_add,List.drop_succ_cons,List.drop_zero,ih]
    simp [cO]
  ·have hc : l.count a ≤ k := by rwa [List.count_cons_of_ne h] at hk
   have ih := ig a b l k hc
   have e : Go.Lib.replaceK [a] [b] k (c :: l) = c :: Go.Lib.replaceK [a] [b] k l := by
    cases k with
    | zero => rfl
    | succ k =>
     rcases Go.Lib.index_spec l [a] with ⟨hi,_⟩ | ⟨i,hi,_⟩
     ·simp only [Go.Lib.replaceK,li,if_neg h,hi]; simp
     ·rw [Go.Lib.replaceK_hit [a] [b] k (c :: l) (i + 1) (by rw [li,if_neg h,hi,if_neg (by simp)]; simp),Go.Lib.replaceK_hit [a] [b] k l i hi]
      simp []
   rw [e,ih]
   simp [cO,h]
theorem oN (a b : UInt8) (s : List UInt8) : Go.Lib.replaceAll s [a] [b] = cO a b s := by
 unfold Go.Lib.replaceAll Go.Lib.replace
 by_cases h : a = b
 ·subst h
  rw [if_pos (by simp)]
  unfold cO
  conv => lhs; rw [← List.map_id s]
  apply List.map_congr_left
  intro c _
  by_cases hc : c = a <;> simp [hc]
 ·rw [if_neg (by simpa using h)]
  have e : Go.Lib.replaceNum s [a] (-1) = s.count a := by
   unfold Go.Lib.replaceNum
   rw [if_pos (.inl (by omega)),Go.Lib.count_one]
  rw [e]
  exact ig a b s _ (Nat.le_refl _)
structure ReplOk (P : Program) (f g : Nat) : Prop where
 enters : Enters P f
 all : ∀ (s old new : ByteArray) (m : Int) (w : World),s.size < 4294967281 → w.cell? ⟨g,0,none⟩ = some (.int .i64 m) → 1 ≤ old.size → s.size + Go.Lib.countB s old * new.size ≤ 140737488355328 →
  Calls P f #[.string s,.string old,.string new] w fun e w' => e = .returned (.string ⟨(Go.Lib.replaceAll s.data.toList old.data.toList new.data.toList).toArray⟩) ∧ Below w.heap.size w w'
theorem Au {Γ : Ctx} {N : Names} {P : Program} {f gv : Nat} (hgi : gv ∈ Γ.gi) (h : ReplOk P (N.fn f) (N.gl gv)) : ph Γ N P f BI := by
 intro ps rs hg w S us hS hgl ha
 unfold BI at hg
 split at hg
 rotate_left
 ·cases hg
 rename_i s a b
 simp only [Option.ite_none_right_eq_some,Option.some.injEq] at hg
 obtain ⟨hl,rfl⟩ := hg
 match us,ha with
 | [u1,u2,u3],⟨h1,h2,h3,_⟩ =>
  rw [h1.str_inv,h2.str_inv,h3.str_inv]
  obtain ⟨_,m,hm⟩ := hgl.ints gv hgi
  have hs : (⟨s.toArray⟩ : ByteArray).size = s.length := by simp [ByteArray.size]
  have hc : Go.Lib.countB ⟨s.toArray⟩ ⟨#[a]⟩ ≤ s.length + 1 := Go.Lib.count_le s [a]
  refine .inl ⟨h.enters _ _,(h.all ⟨s.toArray⟩ ⟨#[a]⟩ ⟨#[b]⟩ m w (by rw [hs]; omega) hm (by simp [ByteArray.size]) ?_).mono ?_⟩
  ·have e1 : (⟨#[b]⟩ : ByteArray).size = 1 := by simp [ByteArray.size]
   rw [hs,e1]; omega
  ·rintro e w' ⟨rfl,hw⟩
   have e2 : Go.Lib.replaceAll (⟨s.toArray⟩ : ByteArray).data.toList (⟨#[a]⟩ : ByteArray).data.toList (⟨#[b]⟩ : ByteArray).data.toList = cO a b s := oN a b s
   rw [e2]
   exact ⟨_,rfl,[.string ⟨(cO a b s).toArray⟩],S,rfl,⟨hw.os,hw.tape,hw.output,hw.size,fun g hg => hw.block g hg⟩,fun _ h => h,fun g hg => Nat.lt_of_lt_of_le (hS g hg) hw.size,fun _ h => .inl h,.str _,trivial⟩
structure BJoinOk (P : Program) (f : Nat) : Prop where
 enters : Enters P f
 one : ∀ (b o c : Nat) (ad0 : Addr) (c0 : Nat) (l0 : List UInt8) (sv : Value) (w : World),w.cell? ⟨b,o,none⟩ = some (.slice (some ad0) l0.length c0) →
  (∀ (i : Nat) x,l0[i]? = some x → w.cell? (ad0.add i) = some (.int .u8 (x.toNat : Int))) → 0 < l0.length → l0.length ≤ 140737488355328 →
  Calls P f #[.slice (some ⟨b,o,none⟩) 1 c,sv] w fun e w' => ∃ v',e = .returned v' ∧ Go.Lib.FreshBytes w.heap.size w' v' l0 ∧ Below w.heap.size w w'
 oneE : ∀ (b o c : Nat) (p0 : Option Addr) (c0 : Nat) (sv : Value) (w : World),w.cell? ⟨b,o,none⟩ = some (.slice p0 0 c0) →
  Calls P f #[.slice (some ⟨b,o,none⟩) 1 c,sv] w fun e w' => e = .returned (.slice none 0 0) ∧ w' = w
 many : ∀ (b o n c : Nat) (vs : List Value) (ls : List (List UInt8)) (sv : Value) (sep : List UInt8) (w : World),ls.length = n → 2 ≤ n → Go.Lib.PartsAt w ⟨b,o,none⟩ vs ls → n ≤ c → Go.Lib.HoldsBytes w sv sep →
  n ≤ 140737488355328 → Go.Lib.lens ls + sep.length * (n - 1) ≤ 140737488355328 →
  Calls P f #[.slice (some ⟨b,o,none⟩) n c,sv] w fun e w' => ∃ v',e = .returned v' ∧ Go.Lib.FreshBytes w.heap.size w' v' (Go.Lib.join ls sep) ∧ Below w.heap.size w w'
theorem nf : ∀ {xs : List PV} {l : List UInt8},nB xs = some l → xs = ae l
 | [],l,h => by simp only [nB,Option.some.injEq] at h; subst h; rfl
 | x :: xs,l,h => by
  unfold nB at h
  split at h
  ·rename_i e; cases e
  ·rename_i n r e
   cases e
   simp only [Option.ite_none_right_eq_some,Option.map_eq_some_iff] at h
   obtain ⟨⟨h0,h1⟩,l',h2,rfl⟩ := h
   rw [nf h2]
   simp only [ae,List.map_cons,List.cons.injEq,and_true,PV.int.injEq,true_and]
   rw [UInt8.toNat_ofNat']
   omega
  ·cases h
theorem mT : ∀ {xs : List PV} {ls : List (List UInt8)},mS xs = some ls → xs.length = ls.length ∧ ∀ (i : Nat) l,ls[i]? = some l → ∃ k,xs[i]? = some (.sl k 1 (ae l))
 | [],ls,h => by simp only [mS,Option.some.injEq] at h; subst h; simp
 | x :: xs,ls,h => by
  unfold mS at h
  split at h
  ·rename_i e; cases e
  ·rename_i k ys r e
   cases e
   split at h
   rotate_left
   ·cases h
   rename_i l hl
   obtain ⟨ls',h2,rfl⟩ := Option.map_eq_some_iff.1 h
   obtain ⟨h3,h4⟩ := mT h2
   refine ⟨by simp [h3],fun i l' hi => ?_⟩
   cases i with
   | zero => simp only [List.getElem?_cons_zero,Option.some.injEq] at hi; subst hi; exact ⟨k,by rw [nf hl]; rfl⟩
   | succ i => simpa using h4 i l' (by simpa using hi)
  ·cases h
theorem sy : ∀ ls : List (List UInt8),bD [] ls = ls.flatten
 | [] => rfl
 | [a] => by simp [bD]
 | a :: b :: r => by simp only [bD,sy (b :: r)]; simp
theorem rA (ls : List (List UInt8)) : Go.Lib.lens ls = ls.flatten.length := by
 induction ls with
 | nil => rfl
 | cons l r ih => rw [Go.Lib.lens_cons,ih]; simp
theorem uw {ν : Nat → Nat} {w w' : World} {v : Value} {l : List UInt8} {S : Nat → Prop} (hf : Go.Lib.FreshBytes w.heap.size w' v l) (hS : ∀ g,S g → g < w.heap.size) (hsz : w.heap.size ≤ w'.heap.size) :
  ∃ S',(∀ g,S g → S' g) ∧ (∀ g,S' g → g < w'.heap.size) ∧ (∀ g,S' g → S g ∨ w.heap.size ≤ g) ∧ RelP ν w' S' (.sl .any 1 (ae l)) v := by
 obtain ⟨g,cap,zs,rfl,hB,hlc,hcap,hzl,hzr,hb,hcell,_⟩ := hf
 have hlen : (ae l).length = l.length := by simp [ae]
 refine ⟨fun b => S b ∨ (b = g ∧ g < w'.heap.size),fun _ h => .inl h,fun b h => ?_,fun b h => ?_,?_⟩
 ·rcases h with h | ⟨rfl,h⟩
  ·exact Nat.lt_of_lt_of_le (hS b h) hsz
  ·exact h
 ·rcases h with h | ⟨rfl,h⟩
  ·exact .inl h
  ·exact .inr hB
 ·have hr := RelP.sl (ν := ν) (w := w') (S := fun b => S b ∨ (b = g ∧ g < w'.heap.size)) .any 1 (ae l) (some ⟨g,0,none⟩) cap (fun i _ => .int .u8 (zs.getD i 0)) (by rw [hlen]; exact hlc) hcap
   (fun x hx => by obtain ⟨b,_,rfl⟩ := List.mem_map.1 hx; simp [PV.cells,PV.one]) (by simp) (by simp)
   (fun hne => ⟨_,rfl,.inr ⟨rfl,by
    have hpos : 0 < cap := by
     have : 0 < (ae l).length := List.length_pos_iff.2 hne
     omega
    have := hcell 0 hpos
    unfold World.cell? at this
    split at this
    ·rename_i h; exact (Array.getElem?_eq_some_iff.1 h).1
    all_goals (first | cases this | skip)
    all_goals (exfalso; simp_all)⟩⟩)
   (fun ad had i x j c hx hc => by
    cases had
    have hi : i < l.length := by rw [← hlen]; exact (List.getElem?_eq_some_iff.1 hx).1
    have hj : j = 0 := by
     have := (List.getElem?_eq_some_iff.1 hc).1
     obtain ⟨b,_,rfl⟩ := List.mem_map.1 (List.mem_of_getElem? hx)
     simpa [PV.cells] using this
    subst hj
    rw [Go.Addr.add_lit]
    simpa using hcell i (by omega))
   (fun i x j c hx hc => by
    have hi : i < l.length := by rw [← hlen]; exact (List.getElem?_eq_some_iff.1 hx).1
    simp only [ae,List.getElem?_map,Option.map_eq_some_iff] at hx
    obtain ⟨b,hb',rfl⟩ := hx
    have hj : j = 0 := by
     have := (List.getElem?_eq_some_iff.1 hc).1
     simpa [PV.cells] using this
    subst hj
    simp only [PV.cells,List.getElem?_cons_zero,Option.some.injEq] at hc
    subst hc
    have hz : (zs.getD i 0) = (b.toNat : Int) := by
     rw [← hb] at hb'
     simp only [Go.Lib.bytesOf,List.getElem?_map,Option.map_eq_some_iff] at hb'
     obtain ⟨z,hz1,hz2⟩ := hb'
     rw [List.getElem?_take,if_pos hi] at hz1
     have hz3 := hzr z (List.mem_of_getElem? hz1)
     rw [List.getD_eq_getElem?_getD,hz1,Option.getD_some,← hz2,UInt8.toNat_ofNat']
     omega
    rw [hz]
    exact .int _ _)
  rw [hlen] at hr
  exact hr
theorem yQ {Γ : Ctx} {N : Names} {P : Program} {f : Nat} (h : BJoinOk P (N.fn f)) : ph Γ N P f oi := by
 intro ps rs hg w S us hS hgl ha
 unfold oi at hg
 split at hg
 rotate_left
 ·cases hg
 rename_i kk xs
 split at hg
 rotate_left
 ·cases hg
 rename_i ls hl
 simp only [Option.ite_none_right_eq_some,Option.some.injEq] at hg
 obtain ⟨⟨hb1,hb2,hb3⟩,rfl⟩ := hg
 obtain ⟨hx1,hx2⟩ := mT hl
 match us,ha with
 | [u1,u2],⟨h1,h2,_⟩ =>
  have e2 : u2 = .slice none 0 0 := by
   cases h2 with
   | sl _ _ _ a cap ws k1 k2 k3 k4 k5 k6 k7 k8 =>
    obtain ⟨_,rfl,rfl⟩ := k4 (.inl rfl)
    rfl
  subst e2
  generalize hxs : xs = xs' at h1
  cases h1 with
  | sl _ _ _ a cap ws k1 k2 k3 k4 k5 k6 k7 k8 =>
  subst hxs
  have hne : xs ≠ [] := by rintro rfl; simp at hx1; omega
  obtain ⟨ad,rfl,hs⟩ := k6 hne
  obtain ⟨bk,o,sp⟩ := ad
  have part : ∀ (i : Nat) l,ls[i]? = some l → w.cell? ((⟨bk,o,sp⟩ : Addr).add i) = some (ws i 0) ∧ ∃ k,RelP N.fn w S (.sl k 1 (ae l)) (ws i 0) := by
   intro i l hi
   obtain ⟨k,hxi⟩ := hx2 i l hi
   have := k7 _ rfl i _ 0 _ hxi rfl
   simp only [Nat.mul_one,Nat.add_zero] at this
   exact ⟨this,k,k8 i _ 0 _ hxi rfl⟩
  have hold : ∀ (i : Nat) l,ls[i]? = some l → Go.Lib.HoldsBytes w (ws i 0) l := by
   intro i l hi
   obtain ⟨_,k,hr⟩ := part i l hi
   generalize ws i 0 = u at hr
   cases hr with
   | sl _ _ _ a c us q1 q2 q3 q4 q5 q6 q7 q8 =>
    have hlen : (ae l).length = l.length := by simp [ae]
    refine ⟨a,c,by rw [hlen],fun ea => ?_,fun ad ead j x hj => ?_⟩
    ·have := (q4 (.inr ea)).1
     simpa [ae] using this
    ·have e1 : (ae l)[j]? = some (.int .u8 x.toNat) := by simp [ae,hj]
     have := q7 ad ead j _ 0 _ e1 rfl
     rw [(q8 j _ 0 _ e1 rfl).int_inv] at this
     simpa using this
  have hsp : sp = none := by
   match ls,hb3 with
   | l :: r,_ =>
    have := (part 0 l rfl).1
    simp only [Addr.add,if_true] at this
    unfold World.cell? at this
    cases sp with
    | none => rfl
    | some x =>
     obtain ⟨_,k,hr⟩ := part 0 l rfl
     split at this <;> simp_all
  subst hsp
  refine .inl ⟨h.enters _ _,?_⟩
  have fin : ∀ (v : Value) (w' : World),Go.Lib.FreshBytes w.heap.size w' v ls.flatten → Below w.heap.size w w' → ∃ vs S',v = dw vs ∧ Grows w w' ∧ (∀ g,S g → S' g) ∧ (∀ g,S' g → g < w'.heap.size) ∧ (∀ g,S' g → S g ∨ w.heap.size ≤ g) ∧
    All2 (fun u p => RelP N.fn w' S' p u) vs [.sl .any 1 (ae ls.flatten)] := by
   intro v w' hf hw
   obtain ⟨S',s1,s2,s3,s4⟩ := uw (ν := N.fn) hf hS hw.size
   exact ⟨[v],S',rfl,⟨hw.os,hw.tape,hw.output,hw.size,fun g hg => hw.block g hg⟩,s1,s2,s3,s4,trivial⟩
  rcases Nat.lt_or_ge 1 ls.length with hm | hm
  ·rw [hx1]
   refine (h.many bk o ls.length cap ((List.range ls.length).map fun i => ws i 0) ls _ [] w rfl hm ⟨by simp,fun i v hv => ?_,fun i v l hv hi => ?_⟩ (by rw [← hx1]; exact k1) ⟨none,0,rfl,fun _ => rfl,by simp⟩ (by omega) (by rw [rA]; simp only [List.length_nil,Nat.zero_mul,Nat.add_zero]; omega)).mono ?_
   ·rw [List.getElem?_map,Option.map_eq_some_iff] at hv
    obtain ⟨j,hj,rfl⟩ := hv
    obtain ⟨hlt,hj⟩ := List.getElem?_eq_some_iff.1 hj
    simp only [List.length_range] at hlt
    have : j = i := by simpa using hj.symm
    subst this
    exact (part j _ (List.getElem?_eq_getElem hlt)).1
   ·rw [List.getElem?_map,Option.map_eq_some_iff] at hv
    obtain ⟨j,hj,rfl⟩ := hv
    obtain ⟨hlt,hj⟩ := List.getElem?_eq_some_iff.1 hj
    have : j = i := by simpa using hj.symm
    subst this
    exact hold j l hi
   ·rintro e w' ⟨v,rfl,hf,hw⟩
    rw [mI,sy] at hf
    exact ⟨v,rfl,fin v w' hf hw⟩
  ·obtain ⟨l,rfl⟩ : ∃ l,ls = [l] := by
    match ls,hb3,hm with
    | [l],_,_ => exact ⟨l,rfl⟩
   ·have e1 : xs.length = 1 := hx1
    rw [e1]
    have hfl : [l].flatten = l := by simp
    obtain ⟨hc0,_⟩ := part 0 l rfl
    obtain ⟨p,c0,hv0,hp0,hp1⟩ := hold 0 l rfl
    simp only [Addr.add,if_true] at hc0
    rw [hv0] at hc0
    rw [hfl] at fin ⊢
    by_cases h0 : l = []
    ·subst h0
     refine (h.oneE bk o cap p c0 _ w hc0).mono ?_
     rintro e w' ⟨rfl,rfl⟩
     exact ⟨_,rfl,[.slice none 0 0],S,rfl,.refl _,fun _ h => h,hS,fun _ h => .inl h,.sl .any 1 [] none 0 (fun _ _ => undef) (Nat.le_refl _) (Nat.zero_le _) (by simp) (by simp) (by simp) (by simp) (by simp) (by simp),trivial⟩
    ·cases p with
     | none => exact absurd (hp0 rfl) h0
     | some ad0 =>
      have hpos : 0 < l.length := List.length_pos_iff.2 h0
      refine (h.one bk o cap ad0 c0 l _ w hc0 (fun i x hi => hp1 ad0 rfl i x hi) hpos (by simp at hb1; omega)).mono ?_
      rintro e w' ⟨v,rfl,hf,hw⟩
      exact ⟨v,rfl,fin v w' hf hw⟩
structure MCloneOk (P : Program) (f : Nat) : Prop where
 enters : Enters P f
 some : ∀ (b : Nat) (es : Array Go.MapEntry) (clock : Nat) (w : World),w.heap[b]? = some (.map es clock) → Calls P f #[.map (some b)] w fun e w' => e = .returned (.map (some w.heap.size)) ∧ w' = w.alloc (.map es clock)
 none : ∀ (w : World),Calls P f #[.map none] w fun e w' => e = .returned (.map none) ∧ w' = w
theorem Bp {Γ : Ctx} {N : Names} {P : Program} {f : Nat} (h : MCloneOk P (N.fn f)) : HiOk Γ N P f p8 := by
 intro cal _ args H rs H' hg w S μ us hr hgl ha
 simp only [p8,tq] at hg
 split at hg
 ·rename_i id
  obtain ⟨es,hes,he⟩ := Option.map_eq_some_iff.1 hg
  simp only [Prod.mk.injEq] at he
  obtain ⟨rfl,rfl⟩ := he
  match us,ha with
  | [u],⟨hu,_⟩ =>
  obtain ⟨g,rfl,hl,hg'⟩ := hu.mp_inv
  have hb := cg hes
  have e0 := hg' _ hb
  have hbr := hr.blk id _ hb
  refine .inl ⟨h.enters _ _,?_⟩
  obtain ⟨g',arr,clock,e1,e2,hst,e3⟩ := hr.map_of hes
  rw [e0] at e1
  cases e1
  refine (h.some g arr clock w e2).mono ?_
  rintro e w' ⟨rfl,rfl⟩
  have hgr := Grows.alloc w (.map arr clock)
  have hpush : Step N.fn w S μ H (w.alloc (.map arr clock)) S (upd μ H.length (.pointer (some ⟨w.heap.size,0,none⟩))) (H ++ [.box (ah es)]) := by
   refine Step.push hr hgr ⟨w.heap.size,upd_same,.inr (.inr ?_)⟩ (fun g hg => by simp only [au,Option.some.injEq] at hg; omega)
   obtain ⟨g2,h1,⟨cs,t,h2,h3,h4,h5⟩ | ⟨s,pos,h2,h3⟩ | ⟨es',arr',clock',h2,h3,hst',h4,h5⟩⟩ := hbr
   ·exact absurd (h4 .nov (by simp [ah])) (by simp [AV.one])
   ·simp [ah,cv] at h2
   ·rw [e0] at h1
    cases h1
    rw [h3] at e2
    cases e2
    have ee : es' = es := by
     have := congrArg (fun x => jD (x.drop 2)) h2
     simp only [ah,List.drop_succ_cons,List.drop_zero,lz,Option.some.injEq] at this
     exact this.symm
    subst ee
    refine ⟨es',_,_,rfl,Go.heap_alloc_new w _,hst',h4,fun j k v hj => ?_⟩
    obtain ⟨e,q1,q2,q3,q4⟩ := h5 j k v hj
    exact ⟨e,q1,q2.keep (fun _ h => h) (hr.keepS hgr),q3,q4.keep (fun _ h => h) (hr.keepS hgr) db⟩
  exact ⟨_,rfl,[.map (some w.heap.size)],S,_,rfl,hpush.run,hpush.moves,.mp _ w.heap.size _ (by simp) (fun _ _ => upd_same) rfl,trivial⟩
 ·simp only [Option.some.injEq,Prod.mk.injEq] at hg
  obtain ⟨rfl,rfl⟩ := hg
  match us,ha with
  | [u],⟨hu,_⟩ =>
  have e : u = .map Option.none := by
   cases hu with
   | p _ _ hu => cases hu; rfl
  subst e
  refine .inl ⟨h.enters _ _,(h.none w).mono ?_⟩
  rintro e w' ⟨rfl,rfl⟩
  exact ⟨_,rfl,[.map Option.none],S,μ,rfl,.refl hr,.refl,.p _ _ .nilmap,trivial⟩
 ·cases hg
end Ab
