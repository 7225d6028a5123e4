import Derived.Test.YtlgclfmmnifgoaaGreatDoorAbDrawn
import Derived.Laws.IdiomRangeMap
import Derived.Carry
import Derived.ChangeSame
import Derived.RowKit
namespace Ab
open Go (IntKind BinOp UnOp World Value Addr Obj undef maxLen Program TypeId Oper Op Operand Act Sem Next Result execOp Builtin Calls Ending Exit MapEntry)
theorem A6 {P : Program} {w w' : World} {r : Nat} {ty : TypeId} {u : Value} (h : (Go.Instr.next (.pointer (some ⟨r, 0, none⟩)) false ty).run P w = .ok u w') : w'.tape = w.tape := by
 simp only [Go.Instr.next, Go.getObj, Go.Sem.run_bind, Go.Sem.run] at h
 cases h1 : w.heap[r]? with
 | none => simp [h1, Go.Result.andThen] at h
 | some o =>
  cases o <;> simp only [h1, Go.Result.andThen, Go.stuck, Go.Sem.run] at h <;> try (cases h; done)
  rename_i mm since seen last
  cases mm with
  | none => simp only [Go.Sem.run_pure] at h; cases h; rfl
  | some m =>
   simp only [Go.Sem.run_bind, Go.Sem.run] at h
   cases h2 : w.heap[m]? with
   | none => simp [h2, Go.Result.andThen] at h
   | some o2 =>
    cases o2 <;> simp only [h2, Go.Result.andThen, Go.Sem.run] at h <;> try (cases h; done)
    rename_i es clock
    split at h
    ·cases h
    ·simp only [Go.choose, Go.Sem.run_bind, Go.Sem.run] at h
     generalize hq : (Go.Question.mapNext _) = q at h
     have key : ∀ (j : Nat) (w1 : World), w1.tape = w.tape → ∀ (l : Array (Option MapEntry)), (match l[j]? with
       | some (some e) => (do Go.setObj r (.mapIter (some m) since (seen.push e.born) clock); pure (.tuple #[.bool true, e.key, e.val]) : Sem Value)
       | some none => pure (.tuple #[.bool false])
       | none => Go.stuck "Next: no such candidate").run P w1 = .ok u w' → w'.tape = w.tape := by
      intro j w1 ht l hh
      split at hh
      ·simp only [Go.setObj, Go.Sem.run_bind, Go.Sem.run] at hh
       cases h3 : w1.heap[r]? with
       | none => simp [h3, Go.Result.andThen] at hh
       | some o3 =>
        cases o3 <;> simp only [h3, Go.Result.andThen, Go.Sem.run_pure] at hh <;> first | (cases hh; exact ht) | (cases hh)
      ·simp only [Go.Sem.run_pure] at hh; cases hh; exact ht
      ·cases hh
     cases hf : q.forced with
     | true => simp only [hf, if_true, Go.Result.andThen] at h; exact key _ _ rfl _ h
     | false => simp only [hf, Bool.false_eq_true, if_false, Go.Result.andThen] at h; exact key _ { w with drawn := w.drawn + 1 } rfl _ h
def lenV : Value → Nat
 | .slice _ n _ => n
 | _ => 0
def du : List MapEntry → Array Nat → Nat
 | [], _ => 0
 | x :: l, seen => (if seen.contains x.born then lenV x.val else 0) + du l seen
def jf (l : List MapEntry) : Nat := (l.map fun e => lenV e.val).sum
theorem lU : ∀ l : List MapEntry, du l #[] = 0
 | [] => rfl
 | x :: l => by simp [du, lU l]
theorem pB : ∀ (l : List MapEntry) (seen : Array Nat), du l seen ≤ jf l
 | [], _ => Nat.le_refl _
 | x :: l, seen => by
  have := pB l seen
  simp only [du, jf, List.map_cons, List.sum_cons] at this ⊢
  split <;> omega
theorem j2 (seen : Array Nat) (b : Nat) : ∀ (l : List MapEntry), b ∉ l.map (·.born) → du l (seen.push b) = du l seen
 | [], _ => rfl
 | x :: l, h => by
  simp only [List.map_cons, List.mem_cons, not_or] at h
  have hx : (x.born == b) = false := by simpa using Ne.symm h.1
  simp only [du, Go.contains_push, hx, Bool.or_false, j2 seen b l h.2]
theorem lF (seen : Array Nat) (e : MapEntry) (hs : seen.contains e.born = false) : ∀ (l : List MapEntry), (l.map (·.born)).Nodup → e ∈ l → du l (seen.push e.born) = du l seen + lenV e.val
 | x :: l, hn, he => by
  simp only [List.map_cons, List.nodup_cons] at hn
  simp only [du, Go.contains_push]
  by_cases hx : x.born = e.born
  ·have hxe : x = e := by
    rcases List.mem_cons.1 he with h | h
    ·exact h.symm
    ·exact absurd (List.mem_map.2 ⟨e, h, hx.symm⟩) hn.1
   subst hxe
   rw [j2 seen x.born l hn.1, hs]
   simp
   omega
  ·have hm : e ∈ l := by
    rcases List.mem_cons.1 he with h | h
    ·exact absurd (by rw [h]) hx
    ·exact h
   have hb : (x.born == e.born) = false := by simpa using hx
   rw [hb, Bool.or_false, lF seen e hs l hn.2 hm]
   omega
theorem tA (es : Array MapEntry) (seen : Array Nat) (h : (Go.leftOf es seen).size = 0) : du es.toList seen = jf es.toList := by
 have hall : ∀ e ∈ es.toList, seen.contains e.born = true := by
  intro e he
  have h0 : Go.leftOf es seen = #[] := Array.eq_empty_of_size_eq_zero h
  unfold Go.leftOf at h0
  rw [Array.filter_eq_empty_iff] at h0
  simpa using h0 e (by simpa using he)
 generalize es.toList = l at hall
 induction l with
 | nil => rfl
 | cons x l ih =>
  simp only [du, jf, List.map_cons, List.sum_cons, hall x (by simp), if_true]
  rw [ih fun e he => hall e (by simp [he])]
  rfl
structure UsedOk (P : Program) (f : Nat) : Prop where
 enters : Enters P f
 nil : ∀ w : World, Calls P f #[.pointer none] w fun e w' => e = .returned (.int .i64 0) ∧ Grows w w'
 none : ∀ (g : Nat) (arr : Array Value) (t : TypeId) (w : World), w.heap[g]? = some (.cells arr t (0, 0)) → w.cell? ⟨g, 2, none⟩ = some (.map none) → Calls P f #[.pointer (some ⟨g, 0, none⟩)] w fun e w' => e = .returned (.int .i64 0) ∧ Grows w w'
 some : ∀ (g : Nat) (arr : Array Value) (t : TypeId) (bm : Nat) (es : Array MapEntry) (clock : Nat) (w : World), w.heap[g]? = some (.cells arr t (0, 0)) → w.cell? ⟨g, 2, .none⟩ = .some (.map (.some bm)) → w.heap[bm]? = .some (.map es clock) → Go.MapKept.Stamped es clock →
  (∀ x ∈ es.toList, ∃ a n c, x.val = .slice a n c) → jf es.toList ≤ 1000000000000 → Calls P f #[.pointer (.some ⟨g, 0, .none⟩)] w fun e w' => e = .returned (.int .i64 (jf es.toList : Nat)) ∧ Grows w w'
section
variable {Γ : Ctx} {N : Names} {P : Program} {w : World} {S : Nat → Prop} {μ : Nat → Value} {H : Heap}
theorem ta (hr : Rel N.fn w S μ H) {v : AV} {u : Value} {n : Nat} (h : RelV N.fn w S μ H v u) (hl : asLen H false v = some n) : ∃ a c, u = .slice a n c := by
 cases v with
 | p q =>
  cases q <;> simp only [asLen, Option.some.injEq, reduceCtorEq] at hl
  rename_i k sz xs
  subst hl
  have := h.p_inv
  cases this
  exact ⟨_, _, rfl⟩
 | own id m =>
  simp only [asLen, Option.map_eq_some_iff] at hl
  obtain ⟨⟨sz, xs⟩, hb, rfl⟩ := hl
  rw [h.own_inv hb]
  obtain ⟨f, h1, h2⟩ := aO hb
  obtain ⟨_, _, us, ⟨_, r⟩, _⟩ := hr.blk id _ h1
  simp only at h2 r
  rw [h2] at r
  rcases r with ⟨e0, a, ha⟩ | ⟨g, cap, cur, e, hv, _⟩
  ·exact ⟨a, 0, by rw [ha, e0]⟩
  ·exact ⟨_, _, hv⟩
 | _ => simp [asLen] at hl
theorem vA (hr : Rel N.fn w S μ H) : ∀ {es : List (PV × AV)} {l : List MapEntry} {n : Nat}, MapRel N.fn w S μ H es l → lM H es = some n → (∀ x ∈ l, ∃ a n c, x.val = .slice a n c) ∧ jf l = n
 | [], [], n, _, h => by simp only [lM, Option.some.injEq] at h; subst h; exact ⟨by simp, rfl⟩
 | (k, v) :: es, e :: l, n, hm, h => by
  simp only [lM] at h
  split at h
  ·rename_i m hlv
   obtain ⟨n', h1, rfl⟩ := Option.map_eq_some_iff.1 h
   obtain ⟨g1, g2⟩ := vA hr hm.2.2.2 h1
   obtain ⟨a, c, hv⟩ := ta hr hm.2.2.1 hlv
   refine ⟨fun x hx => ?_, ?_⟩
   ·rcases List.mem_cons.1 hx with rfl | hx
    ·exact ⟨a, m, c, hv⟩
    ·exact g1 x hx
   ·simp only [jf, List.map_cons, List.sum_cons, hv, lenV] at g2 ⊢
    omega
  ·cases h
 | [], _ :: _, _, h, _ => h.elim
 | (_, _) :: _, [], _, h, _ => h.elim
theorem zF {f : Nat} (h : UsedOk P (N.fn f)) : Be Γ N P f usedG := by
 intro args H rs hg w S μ us hr hgl ha
 have fin : ∀ (n : Int) (w' : World), Grows w w' → ∃ vs S', (Value.int .i64 n) = dw vs ∧ Grows w w' ∧ (∀ g, S g → S' g) ∧ (∀ g, S' g → g < w'.heap.size) ∧ (∀ g, S' g → S g ∨ w.heap.size ≤ g) ∧ All2 (fun u p => RelP N.fn w' S' p u) vs [.int .i64 n] :=
  fun n w' hw => ⟨[.int .i64 n], S, rfl, hw, fun _ h => h, fun g hg => Nat.lt_of_lt_of_le (hr.lt g hg) hw.size, fun _ h => .inl h, .int _ _, trivial⟩
 unfold usedG at hg
 split at hg
 ·simp only [Option.some.injEq] at hg
  subst hg
  match us, ha with
  | [u], ⟨hu, _⟩ =>
  have e : u = .pointer none := by have := hu.p_inv; cases this; rfl
  subst e
  refine .inl ⟨h.enters _ _, (h.nil w).mono ?_⟩
  rintro e w' ⟨rfl, hw⟩
  exact ⟨_, rfl, fin 0 w' hw⟩
 ·rename_i b
  obtain ⟨cs, hb, hg⟩ := Option.bind_eq_some_iff.1 hg
  match us, ha with
  | [u], ⟨hu, _⟩ =>
  have hb1 := eF hb
  obtain ⟨g, rfl, hl, hμ⟩ := hu.bx_inv
  obtain ⟨g', arr, t, e1, e2, e3, e4, e5⟩ := hr.box_of hb
  rw [hμ cs hb1] at e1
  cases e1
  have cell2 : ∀ c, cs[2]? = some c → ∃ x, w.cell? ⟨g, 2, none⟩ = some x ∧ RelV N.fn w S μ H c x := by
   intro c hc
   have hlt : 2 < arr.size := by rw [e3]; exact (List.getElem?_eq_some_iff.1 hc).1
   exact ⟨arr[2], by simp [World.cell?, e2, hlt], by simpa [hlt] using e5 2 c hc⟩
  unfold usedV at hg
  split at hg
  ·rename_i m
   obtain ⟨es, hes, hg⟩ := Option.bind_eq_some_iff.1 hg
   obtain ⟨n, hn, hg⟩ := Option.bind_eq_some_iff.1 hg
   simp only [Option.ite_none_right_eq_some, Option.some.injEq] at hg
   obtain ⟨hle, rfl⟩ := hg
   obtain ⟨x, hx1, hx2⟩ := cell2 _ rfl
   obtain ⟨gm, rfl, _, hgm⟩ := hx2.mp_inv
   obtain ⟨gm', arr', clock, q1, q2, q3, q4⟩ := hr.map_of hes
   rw [hgm _ (cg hes)] at q1
   cases q1
   obtain ⟨l1, l2⟩ := vA hr q4 hn
   refine .inl ⟨h.enters _ _, (h.some g arr t gm arr' clock w e2 hx1 q2 q3 l1 (by rw [l2]; exact hle)).mono ?_⟩
   rintro e w' ⟨rfl, hw⟩
   rw [l2]
   exact ⟨_, rfl, fin n w' hw⟩
  ·simp only [Option.some.injEq] at hg
   subst hg
   obtain ⟨x, hx1, hx2⟩ := cell2 _ rfl
   have e : x = .map none := by have := hx2.p_inv; cases this; rfl
   subst e
   refine .inl ⟨h.enters _ _, (h.none g arr t w e2 hx1).mono ?_⟩
   rintro e w' ⟨rfl, hw⟩
   exact ⟨_, rfl, fin 0 w' hw⟩
  ·cases hg
 ·cases hg
end
end Ab
namespace Ab
open Go (IntKind BinOp UnOp World Value Addr Obj undef maxLen Program TypeId Oper Op Operand Act Sem Next Result execOp Builtin Calls Ending Exit DataW Lit MemPlace)
def Bq (P : Program) : List Go.Field → Nat → Option Nat
 | [],k => some k
 | f :: fs,k => if f.offset = k then Bq P fs (k + P.cellsOf f.type) else none
def jh (P : Program) : Nat → TypeId → Bool
 | 0,_ => false
 | n + 1,t => match P.underlying t with
  | some .bool | some (.int _) | some .string => true
  | some (.slice e) => jh P n e && decide (0 < P.cellsOf e) && (aggB P e).isSome
  | some (.struct fs) => (match Bq P fs.toList 0 with | some k => k == P.cellsOf t | none => false) && fs.toList.all fun f => jh P n f.type
  | _ => false
def okFs (R : TypeId → List PV → Prop) : List TypeId → List PV → Prop
 | [],pcs => pcs = []
 | t :: ts,pcs => ∃ a b,pcs = a ++ b ∧ R t a ∧ okFs R ts b
def okT (P : Program) : Nat → TypeId → List PV → Prop
 | 0,_,_ => False
 | n + 1,t,pcs => match P.underlying t with
  | some .bool => ∃ b,pcs = [.bool b]
  | some (.int k) => ∃ m,pcs = [.int k m] ∧ (Lit.int k m).wf = true
  | some .string => ∃ s,pcs = [.str s] ∧ s.length ≤ maxLen
  | some (.slice e) => ∃ k xs,pcs = [.sl k (P.cellsOf e) xs] ∧ xs.length ≤ maxLen ∧ ((k = .nil ∧ xs = []) ∨ k = .mem) ∧ ∀ x ∈ xs,x.one = !((aggB P e).getD true) ∧ okT P n e x.cells
  | some (.struct fs) => okFs (okT P n) (fs.toList.map (·.type)) pcs
  | _ => False
section
variable {H : Type} {enc : TypeId × Value → H} {P : Program} {N : Names} {w : World} {sp : Nat → Bool} {held : Bool} {S : Nat → Prop}
structure Trees (ν : Nat → Nat) (w : World) (S : Nat → Prop) (pcs : List PV) (cs : List Value) : Prop where
 len : pcs.length = cs.length
 one : ∀ c ∈ pcs,c.one = true
 rel : ∀ (j : Nat) c,pcs[j]? = some c → RelP ν w S c (cs.getD j undef)
theorem Trees.single {c : PV} {v : Value} (h : RelP N.fn w S c v) (h1 : c.one = true) : Trees N.fn w S [c] [v] :=
 ⟨rfl,by simpa using h1,fun j c' hc => by
  cases j with
  | zero => simp only [List.getElem?_cons_zero,Option.some.injEq] at hc; subst hc; simpa using h
  | succ j => simp at hc⟩
theorem Trees.append {a b : List PV} {cs ds : List Value} (ha : Trees N.fn w S a cs) (hb : Trees N.fn w S b ds) : Trees N.fn w S (a ++ b) (cs ++ ds) := by
 refine ⟨by simp [ha.len,hb.len],fun c hc => ?_,fun j c hc => ?_⟩
 ·rcases List.mem_append.1 hc with h | h
  ·exact ha.one c h
  ·exact hb.one c h
 ·by_cases hj : j < a.length
  ·rw [List.getElem?_append_left hj] at hc
   have := ha.rel j c hc
   rwa [List.getD_eq_getElem?_getD,List.getElem?_append_left (by rw [← ha.len]; exact hj),← List.getD_eq_getElem?_getD]
  ·rw [List.getElem?_append_right (by omega)] at hc
   have := hb.rel _ c hc
   rwa [List.getD_eq_getElem?_getD,List.getElem?_append_right (by rw [← ha.len]; omega),← ha.len,← List.getD_eq_getElem?_getD]
theorem cell?_lt {a : Addr} {v : Value} (h : w.cell? a = some v) : a.block < w.heap.size := by
 have hs := Go.World.cell?_spot h
 unfold World.cell? at h
 cases hg : w.heap[a.block]? with
 | none => simp [hg] at h
 | some o => exact (Array.getElem?_eq_some_iff.1 hg).1
theorem ny (R : TypeId → List PV → Prop) (cs : List Value) (n F : Nat) (ih : ∀ t (cs : List Value) d ps,jh P n t = true → DataW.trod enc P w 0 sp held F t cs = some (d,ps) → ∃ pcs,R t pcs ∧ Trees N.fn w S pcs cs) :
  ∀ (fs : List Go.Field) (k m : Nat) (xs : List (DataW H × List MemPlace)),Bq P fs k = some m → (fs.all fun f => jh P n f.type) = true → m = cs.length →
   fs.mapM (fun f => DataW.trod enc P w 0 sp held F f.type ((cs.drop f.offset).take (P.cellsOf f.type))) = some xs → k ≤ m ∧ ∃ pcs,okFs R (fs.map (·.type)) pcs ∧ Trees N.fn w S pcs (cs.drop k)
 | [],k,m,xs,ht,_,hm,_ => by
  simp only [Bq,Option.some.injEq] at ht
  subst ht
  refine ⟨Nat.le_refl _,[],rfl,?_⟩
  rw [List.drop_of_length_le (by omega)]
  exact ⟨rfl,by simp,by simp⟩
 | f :: fs,k,m,xs,ht,hp,hm,hx => by
  simp only [Bq] at ht
  split at ht
  rotate_left
  ·cases ht
  rename_i hk
  simp only [List.all_cons,Bool.and_eq_true] at hp
  simp only [List.mapM_cons,Option.pure_def,Option.bind_eq_bind,Option.bind_eq_some_iff,Option.some.injEq] at hx
  obtain ⟨⟨d,ps⟩,hd,ys,hys,rfl⟩ := hx
  obtain ⟨hle,pcs,h1,h2⟩ := ny R cs n F ih fs (k + P.cellsOf f.type) m ys ht hp.2 hm hys
  obtain ⟨a,h3,h4⟩ := ih f.type _ d ps hp.1 hd
  refine ⟨by omega,a ++ pcs,⟨a,pcs,rfl,h3,h1⟩,?_⟩
  have := h4.append h2
  rw [hk] at this
  rw [← List.drop_drop,List.take_append_drop] at this
  exact this
theorem kV (hS : ∀ g,g < w.heap.size → S g) : ∀ (F n : Nat) (t : TypeId) (cs : List Value) d ps,jh P n t = true → DataW.trod enc P w 0 sp held F t cs = some (d,ps) → ∃ pcs,okT P n t pcs ∧ Trees N.fn w S pcs cs
 | 0,_,_,_,_,_,_,h => by simp [DataW.trod] at h
 | F + 1,0,_,_,_,_,hp,_ => by cases hp
 | F + 1,n + 1,t,cs,d,ps,hp,h => by
  simp only [jh] at hp
  split at hp
  ·rename_i hu
   obtain ⟨b,rfl,_⟩ := DataW.trod_bool hu h
   exact ⟨_,by rw [okT,hu]; exact ⟨b,rfl⟩,.single (.bool b) rfl⟩
  ·rename_i k hu
   obtain ⟨m,rfl,_,hw⟩ := DataW.trod_int hu h
   exact ⟨_,by rw [okT,hu]; exact ⟨m,rfl,hw⟩,.single (.int k m) rfl⟩
  ·rename_i hu
   obtain ⟨s,rfl,_,hs⟩ := DataW.trod_string hu h
   refine ⟨_,by rw [okT,hu]; exact ⟨s.data.toList,rfl,by rw [Array.length_toList]; exact hs⟩,.single ?_ rfl⟩
   have := RelP.str (ν := N.fn) (w := w) (S := S) s.data.toList
   simpa using this
  ·rename_i e hu
   simp only [Bool.and_eq_true,decide_eq_true_eq] at hp
   obtain ⟨⟨hp,h0⟩,hag⟩ := hp
   obtain ⟨ag,hag⟩ := Option.isSome_iff_exists.1 hag
   rcases DataW.trod_slice hu h with ⟨rfl,_⟩ | ⟨a,len,cap,elems,rest,F',hF,rfl,_,_,hlc,hcm,hel,hget,_⟩
   ·refine ⟨[.sl .nil (P.cellsOf e) []],by rw [okT,hu]; exact ⟨.nil,[],rfl,by simp,.inl ⟨rfl,rfl⟩,by simp⟩,.single ?_ rfl⟩
    exact .sl .nil _ [] none 0 (fun _ _ => undef) (Nat.le_refl _) (Nat.zero_le _) (by simp) (by simp) (by simp) (by simp) (by simp) (by simp)
   ·obtain rfl : F = F' := by omega
    have each : ∀ i,i < len → ∃ (x : PV) (us : List Value),us.length = P.cellsOf e ∧ (∀ j,j < P.cellsOf e → w.cell? ((a.add (i * P.cellsOf e)).add j) = us[j]?) ∧ x.one = !ag ∧ okT P n e x.cells ∧ Trees N.fn w S x.cells us := by
     intro i hi
     have := hget i hi
     rw [List.getElem?_eq_getElem (by omega)] at this
     obtain ⟨us,hus,hd⟩ := Option.bind_eq_some_iff.1 this
     obtain ⟨_,hul,huc⟩ := Go.World.cells?_some hus
     obtain ⟨pcs,hok,htr⟩ := kV hS F n e us _ _ hp hd
     cases ag with
     | true => exact ⟨.agg pcs,us,hul,huc,rfl,hok,htr⟩
     | false =>
      obtain ⟨c,rfl⟩ : ∃ c,pcs = [c] := by
       cases n with
       | zero => exact hok.elim
       | succ n =>
        rw [okT] at hok
        unfold aggB at hag
        split at hok
        ·obtain ⟨_,h⟩ := hok; exact ⟨_,h⟩
        ·obtain ⟨_,h,_⟩ := hok; exact ⟨_,h⟩
        ·obtain ⟨_,h,_⟩ := hok; exact ⟨_,h⟩
        ·obtain ⟨_,_,h,_⟩ := hok; exact ⟨_,h⟩
        ·rename_i hs; rw [hs] at hag; simp at hag
        ·exact hok.elim
      have hone := htr.one c (by simp)
      exact ⟨c,us,hul,huc,hone,by rw [PV.cells_one hone]; exact hok,by rw [PV.cells_one hone]; exact htr⟩
    have : ∃ (xs : List PV) (us : Nat → List Value),xs.length = len ∧ ∀ i x,xs[i]? = some x → (us i).length = P.cellsOf e ∧ (∀ j,j < P.cellsOf e → w.cell? ((a.add (i * P.cellsOf e)).add j) = (us i)[j]?) ∧ x.one = !ag ∧ okT P n e x.cells ∧ Trees N.fn w S x.cells (us i) := by
     refine ⟨(List.range len).map fun i => if hi : i < len then (each i hi).choose else .nilp,fun i => if hi : i < len then (each i hi).choose_spec.choose else [],by simp,fun i x hx => ?_⟩
     simp only [List.getElem?_map,Option.map_eq_some_iff] at hx
     obtain ⟨i',hi',rfl⟩ := hx
     obtain ⟨hlt,he⟩ := List.getElem?_eq_some_iff.1 hi'
     simp only [List.length_range] at hlt
     simp only [List.getElem_range] at he
     subst he
     simp only [hlt,dif_pos]
     exact (each i hlt).choose_spec.choose_spec
    obtain ⟨xs,us,hxl,hxs⟩ := this
    refine ⟨[.sl .mem (P.cellsOf e) xs],by rw [okT,hu]; refine ⟨.mem,xs,rfl,by omega,.inr rfl,fun x hx => ?_⟩; obtain ⟨i,hi⟩ := List.getElem?_of_mem hx; obtain ⟨_,_,h3,h4,_⟩ := hxs i x hi; rw [hag]; exact ⟨h3,h4⟩,.single ?_ rfl⟩
    rw [← hxl]
    refine .sl .mem _ xs (some a) cap (fun i j => (us i).getD j undef) (by omega) hcm (fun x hx => ?_) (by simp) (by simp) (fun hne => ⟨a,rfl,hS _ ?_⟩) (fun ad had i x j c hx hc => ?_) (fun i x j c hx hc => ?_)
    ·obtain ⟨i,hi⟩ := List.getElem?_of_mem hx
     obtain ⟨h1,_,_,_,h5⟩ := hxs i x hi
     exact ⟨by rw [h5.len,h1],h5.one⟩
    ·cases xs with
     | nil => exact absurd rfl hne
     | cons x xs =>
      obtain ⟨h1,h2,_,_,_⟩ := hxs 0 x rfl
      have := h2 0 h0
      rw [List.getElem?_eq_getElem (by omega)] at this
      have := cell?_lt this
      rwa [block_add,block_add] at this
    ·cases had
     obtain ⟨h1,h2,_,_,h5⟩ := hxs i x hx
     have hj : j < P.cellsOf e := by rw [← h1,← h5.len]; exact (List.getElem?_eq_some_iff.1 hc).1
     have := h2 j hj
     rw [add_add] at this
     rw [this,List.getD_eq_getElem?_getD,List.getElem?_eq_getElem (by omega),Option.getD_some]
    ·obtain ⟨_,_,_,_,h5⟩ := hxs i x hx
     exact h5.rel j c hc
  ·rename_i fs hu
   simp only [Bool.and_eq_true] at hp
   obtain ⟨hp1,hp2⟩ := hp
   split at hp1
   ·rename_i k hk
    simp only [beq_iff_eq] at hp1
    obtain ⟨xs,F',hF,_,hl,hxl,hget⟩ := DataW.trod_struct hu h
    obtain rfl : F = F' := by omega
    have hm : fs.toList.mapM (fun f => DataW.trod enc P w 0 sp held F f.type ((cs.drop f.offset).take (P.cellsOf f.type))) = some xs := by
     have key : ∀ (l : List Go.Field) (ys : List (DataW H × List MemPlace)),ys.length = l.length → (∀ (i : Nat) f,l[i]? = some f → DataW.trod enc P w 0 sp held F f.type ((cs.drop f.offset).take (P.cellsOf f.type)) = ys[i]?) →
       l.mapM (fun f => DataW.trod enc P w 0 sp held F f.type ((cs.drop f.offset).take (P.cellsOf f.type))) = some ys := by
      intro l
      induction l with
      | nil => intro ys h1 _; cases ys with | nil => rfl | cons _ _ => simp at h1
      | cons f l ih =>
       intro ys h1 h2
       cases ys with
       | nil => simp at h1
       | cons y ys =>
        have e0 := h2 0 f rfl
        simp only [List.getElem?_cons_zero] at e0
        have e1 := ih ys (by simpa using h1) fun i g hg => by simpa using h2 (i + 1) g (by simpa using hg)
        simp [List.mapM_cons,e0,e1]
     exact key fs.toList xs (by simpa using hxl) fun i f hf => hget i f (by simpa using hf)
    obtain ⟨_,pcs,h1,h2⟩ := ny (N := N) (S := S) (okT P n) cs n F (fun t cs d ps hp hd => kV hS F n t cs d ps hp hd) fs.toList 0 k xs hk hp2 (by omega) hm
    refine ⟨pcs,by rw [okT,hu]; exact h1,by simpa using h2⟩
   ·cases hp1
  ·cases hp
end
end Ab
namespace Ab
open Go (IntKind BinOp UnOp World Value Addr Obj undef maxLen Program TypeId Oper Op Operand Act Sem Next Result execOp Builtin Calls Ending Exit DataW Lit MemPlace)
def nT (P : Program) (n : Nat) (p : PV) (t : TypeId) : Prop := p.one = !((aggB P t).getD true) ∧ okT P n t p.cells
section
variable {H : Type} {enc : TypeId × Value → H} {P : Program} {N : Names} {Γ : Ctx} {W : World}
theorem i7 {r : Go.Reach} {b : Nat} {t : TypeId} {v : Value} (h : Go.Cell.okWide P W r b t v) : v.oneCell' = true := by
 unfold Go.Cell.okWide at h
 split at h <;> first | rfl | (unfold Go.Cell.ok at h; split at h <;> first | rfl | exact h.elim)
theorem ri {v : Value} (h : v.oneCell' = true) : v.cells.toList = [v] := by cases v <;> first | rfl | cases h
theorem arg_tree {S : Nat → Prop} (hS : ∀ g,g < W.heap.size → S g) {n : Nat} {t : TypeId} {v : Value} {d : DataW H} {ps : List MemPlace} {b0 : Nat} {r : Go.Reach} (hp : jh P n t = true) (hv : Value.okWide P W r b0 t v)
  (hd : DataW.Trod enc P W 0 (fun _ => true) true t v d ps) : ∃ p,nT P n p t ∧ RelP N.fn W S p v := by
 obtain ⟨F,hd⟩ := hd
 obtain ⟨pcs,hok,htr⟩ := kV (N := N) hS F n t _ _ _ hp hd
 cases n with
 | zero => cases hp
 | succ n =>
  have leaf : ∀ c,pcs = [c] → aggB P t = some false → v.oneCell' = true → ∃ p,nT P (n + 1) p t ∧ RelP N.fn W S p v := by
   rintro c rfl ha h1
   have hone := htr.one c (by simp)
   refine ⟨c,⟨by rw [hone,ha]; rfl,by rw [PV.cells_one hone]; exact hok⟩,?_⟩
   have := htr.rel 0 c rfl
   rw [ri h1] at this
   simpa using this
  simp only [jh] at hp
  unfold Value.okWide at hv
  have hok' := hok
  rw [okT] at hok'
  split at hp
  ·rename_i hu
   rw [hu] at hv hok'
   obtain ⟨b,h⟩ := hok'
   exact leaf _ h (by simp [aggB,hu]) (i7 hv)
  ·rename_i k hu
   rw [hu] at hv hok'
   obtain ⟨b,h,_⟩ := hok'
   exact leaf _ h (by simp [aggB,hu]) (i7 hv)
  ·rename_i hu
   rw [hu] at hv hok'
   obtain ⟨b,h,_⟩ := hok'
   exact leaf _ h (by simp [aggB,hu]) (i7 hv)
  ·rename_i e hu
   rw [hu] at hv hok'
   obtain ⟨_,_,h,_⟩ := hok'
   exact leaf _ h (by simp [aggB,hu]) (i7 hv)
  ·rename_i fs hu
   rw [hu] at hv
   obtain ⟨cs,rfl,_,_⟩ := hv
   refine ⟨.agg pcs,⟨by simp [aggB,hu,PV.one],hok⟩,.agg pcs cs ?_ htr.one (fun j c hc => ?_)⟩
   ·have := htr.len
    simpa [Value.cells] using this.symm
   ·have := htr.rel j c hc
    rwa [show (Value.agg cs).cells.toList = cs.toList from rfl,getD_toList] at this
  ·cases hp
theorem pr {S : Nat → Prop} (hS : ∀ g,g < W.heap.size → S g) {n : Nat} {b0 : Nat} {r : Go.Reach} : ∀ {ts : List TypeId} {vs : List Value} {ds : List (DataW H)} {ps : List MemPlace},ts.all (jh P n) = true → (∀ (j : Nat) t v,ts[j]? = some t → vs[j]? = some v → Value.okWide P W r b0 t v) →
  DataW.TrodAll enc P W 0 (fun _ => true) true ts vs ds ps → ∃ trees,All2 (nT P n) trees ts ∧ All2 (fun u p => RelP N.fn W S p u) vs trees ∧ ds.length = ts.length
 | [],[],[],_,_,_,_ => ⟨[],trivial,trivial,rfl⟩
 | t :: ts,v :: vs,d :: ds,ps,hp,hv,h => by
  obtain ⟨p,q,h1,h2,_⟩ := h
  simp only [List.all_cons,Bool.and_eq_true] at hp
  obtain ⟨x,hx1,hx2⟩ := arg_tree (N := N) hS hp.1 (hv 0 t v rfl rfl) h1
  obtain ⟨xs,hxs1,hxs2,hl⟩ := pr hS hp.2 (fun j t v ht hv' => hv (j + 1) t v (by simpa using ht) (by simpa using hv')) h2
  exact ⟨x :: xs,⟨hx1,hxs1⟩,⟨hx2,hxs2⟩,by simp [hl]⟩
 | [],[],_ :: _,_,_,_,h => by cases h
 | [],_ :: _,_,_,_,_,h => by simp [DataW.TrodAll] at h
 | _ :: _,[],_,_,_,_,h => by simp [DataW.TrodAll] at h
 | _ :: _,_ :: _,[],_,_,_,h => by simp [DataW.TrodAll] at h
theorem sK (hl : Go.laidOutB P = true) {W' : World} (hg : Grows W W') {sp : Nat → Bool} : ∀ {ts : List TypeId} {vs : List Value} {ds : List (DataW H)} {ps : List MemPlace},ts.all (fun t => P.readableRec t && decide (t < P.types.size)) = true →
  DataW.TrodAll enc P W 0 (fun _ => true) true ts vs ds ps → (∀ x ∈ ps,x.block < W.heap.size) → (∀ x ∈ ps,sp x.block = true) → DataW.TrodAll enc P W' 0 sp true ts vs ds ps
 | [],[],[],_,_,h,_,_ => h
 | t :: ts,v :: vs,d :: ds,ps,hp,h,hlt,hsp => by
  obtain ⟨p,q,h1,h2,rfl⟩ := h
  simp only [List.all_cons,Bool.and_eq_true,decide_eq_true_eq] at hp
  have hb : Go.RowKit.Below W.heap.size W W' := ⟨hg.os,hg.tape,hg.output,hg.size,hg.keep⟩
  exact ⟨p,q,Go.WideElems.Trod_stays hl hp.1.1 hp.1.2 h1 (fun x hx => hb.same (hlt x (by simp [hx]))) (fun x hx => hsp x (by simp [hx])),
   sK hl hg hp.2 h2 (fun x hx => hlt x (by simp [hx])) (fun x hx => hsp x (by simp [hx])),rfl⟩
 | [],[],_ :: _,_,_,h,_,_ => by cases h
 | [],_ :: _,_,_,_,h,_,_ => by simp [DataW.TrodAll] at h
 | _ :: _,[],_,_,_,h,_,_ => by simp [DataW.TrodAll] at h
 | _ :: _,_ :: _,[],_,_,h,_,_ => by simp [DataW.TrodAll] at h
end
end Ab
namespace Ab
open Go (IntKind BinOp UnOp World Value Addr Obj undef maxLen Program TypeId Oper Op Operand Act Sem Next Result execOp Builtin Calls Ending Exit DataW Lit MemPlace ChangeSpec)
theorem zT {H : Type} {enc : TypeId × Value → H} {P : Program} {f : Go.Func} {s : ChangeSpec} {apart fresh handsOn again : Bool} {W W' : World} {args : Array Value} {v : Value} {ds gs : List (DataW H)} {before pa pv : List MemPlace}
  (hW : DataW.Whole enc P f.params.toList s.vars apart W args.toList ds gs before)
  (hres : ∀ (b : Nat) (sp : Nat → Bool) (hd : Bool), DataW.TrodAll enc P W' b sp hd f.resultTypes.toList (v.resultList f.resultTypes.size) (s.fn H (ds ++ gs)).results [])
  (hargs : ∀ sp : Nat → Bool, (∀ p ∈ before, sp p.block = true) → DataW.TrodAll enc P W' 0 sp true f.params.toList args.toList (s.fn H (ds ++ gs)).args pa)
  (hvars : ∀ sp : Nat → Bool, (∀ p ∈ before, sp p.block = true) → DataW.TrodVars enc P W' sp s.vars (s.fn H (ds ++ gs)).vars pv)
  (hps : before = pa ++ pv) (hk : W.keptBut W' (· ∈ before)) (hfz : ∀ p ∈ before, ∀ b off, p = .cell b off → W'.frozen? ⟨b, off, none⟩ = W.frozen? ⟨b, off, none⟩)
  (hok : ∀ (j : Nat) (t : TypeId) (r : Value), f.resultTypes[j]? = some t → (v.resultList f.resultTypes.size)[j]? = some r → Value.okWide P W' .any 0 t r) :
  s.post enc P f apart fresh handsOn again W args v W' := by
 have hold : ∀ p ∈ before, (fun b => decide (b < W.heap.size)) p.block = true := fun p hp => by simpa using hW.lt p hp
 refine ⟨ds, gs, before, [], pa, pv, hW, hres _ _ _, hargs _ hold, hvars _ hold, World.keptBut_mono (fun p hp => ⟨hp, ?_⟩) hk, fun _ => ?_⟩
 ·rw [hps, List.mem_append] at hp
  exact Or.inr hp
 ·obtain ⟨_, _, _, _, _, hz, hn⟩ := hW
  refine ⟨hok, _, _, ([] ++ pa) ++ pv, ⟨[] ++ pa, pv, Go.ChangeShapes.trodAll_append (hargs _ (fun _ _ => rfl)) (hres _ _ _), hvars _ (fun _ _ => rfl), rfl, ?_, ?_⟩, ?_⟩
  ·intro b off hp
   have hp' : MemPlace.cell b off ∈ before := by rw [hps]; simpa using hp
   rw [hfz _ hp' b off rfl]
   exact hz b off hp'
  ·intro ha
   have := hn ha
   rw [hps] at this
   simpa using this
  ·intro p hp _
   rw [hps]
   simpa using hp
section
variable {H : Type} {enc : TypeId × Value → H} {P : Program} {N : Names} {Γ : Ctx} {W : World}
theorem enters_of {f : Nat} {g : Go.Func} (hf : P.funcs[f]? = some g) (hn : (g.name == "runtime.NumGoroutine") = false) (hb : g.body.isNone = false) : Enters P f := fun us w => by
 simp only [beq_eq_false_iff_ne, ne_eq] at hn
 simp only [Go.callFunc, Go.Sem.run_bind, Go.run_program, Go.Result.andThen_ok, hf, hb, Bool.false_eq_true, if_false, beq_iff_eq, hn, Go.Sem.run_pure]
theorem zZ (K : Known Γ N P) {f lf n : Nat} {fn : Go.Func} {tb : TypeId} {s : ChangeSpec} {apart fresh handsOn again : Bool} {args : Array Value} {ds gs : List (DataW H)} {before : List MemPlace} {b0 : Nat} {r : Go.Reach}
  (hN : N.fn lf = f) (hE : Enters P f) (hgl : GlRel Γ N W fun g => g < W.heap.size) (hp : fn.params.toList.all (jh P n) = true) (hrd : fn.params.toList.all (fun t => P.readableRec t && decide (t < P.types.size)) = true)
  (hl : Go.laidOutB P = true) (hres : fn.resultTypes = #[tb]) (htb : P.underlying tb = some .bool) (hvars : s.vars = [])
  (hspec : ∀ ds : List (DataW H), ds.length = fn.params.toList.length → s.fn H ds = { results := [.lit (.bool true)], args := ds })
  (law : ∀ trees, All2 (nT P n) trees fn.params.toList → ∃ m h, callOf Γ (ev Γ m) lf (trees.map .p) [] = some ([.p (.bool true)], h))
  (hval : ∀ (j : Nat) t v, fn.params[j]? = some t → args[j]? = some v → Value.okWide P W r b0 t v) (hW : DataW.Whole enc P fn.params.toList s.vars apart W args.toList ds gs before) :
  Calls P f args W fun e W' => ∃ v, e = .returned v ∧ s.post enc P fn apart fresh handsOn again W args v W' := by
 have hlt := hW.lt
 have hW' := hW
 obtain ⟨p, q, hA, hV, rfl, hz, _⟩ := hW'
 obtain ⟨trees, ht1, ht2, hdl⟩ := pr (N := N) (S := fun g => g < W.heap.size) (fun _ h => h) hp (fun j t v ht hv => hval j t v (by simpa using ht) (by simpa using hv)) hA
 obtain ⟨m, h, hcall⟩ := law trees ht1
 have hrun := y9 K (T := fun g => g < W.heap.size) (fun _ h => h) hgl ht2 hcall (rs := [.bool true]) rfl
 rw [hN] at hrun
 have hvg : gs = [] ∧ q = [] := by
  rw [hvars] at hV
  cases gs <;> simp_all [DataW.TrodVars]
 obtain ⟨rfl, rfl⟩ := hvg
 have hcalls : Calls P f args W fun e W' => ∃ v, e = .returned v ∧ (∃ vs, v = dw vs ∧ Grows W W' ∧ All2 (fun u p => RelP N.fn W' (fun g => g < W.heap.size ∨ (W.heap.size ≤ g ∧ g < W'.heap.size)) p u) vs [.bool true]) := by
  rcases hrun with ⟨_, h⟩ | ⟨v, w', h, _⟩
  ·simpa using h
  ·rw [hE] at h; cases h
 refine hcalls.mono ?_
 rintro e W' ⟨v, rfl, vs, rfl, hg, hv⟩
 match vs, hv with
 | [u], ⟨hu, _⟩ =>
  cases hu
  have hb : Go.RowKit.Below W.heap.size W W' := ⟨hg.os, hg.tape, hg.output, hg.size, hg.keep⟩
  refine ⟨_, rfl, zT (pa := p) (pv := []) hW (fun b sp hd => ?_) (fun sp hsp => ?_) (fun _ _ => ?_) rfl (hb.frame _) (fun x hx b off e => ?_) (Go.RowKit.ok_one hres rfl (Go.RowKit.okWide_bool_mk htb _))⟩
  ·rw [List.append_nil, hspec ds hdl, hres]
   exact ⟨[], [], Go.RowKit.shut_bool htb _, rfl, rfl⟩
  ·rw [List.append_nil, hspec ds hdl]
   exact sK hl hg hrd hA (fun x hx => hlt x (by simp [hx])) (fun x hx => hsp x (by simp [hx]))
  ·rw [List.append_nil, hspec ds hdl, hvars]; rfl
  ·subst e; exact hb.frozen (hlt _ hx)
end
end Ab
