import Derived.Test.YthecbhbcjnajbaaGreatDoorAbX13
import Derived.Test.YthecbhbcjnajbaaGreatDoorAbX11
namespace Ab
open Go (IntKind BinOp UnOp World Value Addr Obj undef maxLen Program TypeId Oper Op Operand Act Sem Next Result execOp Builtin TypeDesc MapEntry)
section
variable {N : Names} {P : Program} {w : World} {S : Nat → Prop} {μ : Nat → Value} {H : Heap}
theorem eqCells_eq : ∀ {ks : List Nat} {a b : List PV} {t : Bool}, eqCells ks a b = some t → (t = true ↔ a = b)
 | [], a, b, t, h => by
  cases a <;> cases b <;> simp only [eqCells, Option.some.injEq, reduceCtorEq] at h
  subst h; simp
 | k :: ks, a, b, t, h => by
  unfold eqCells at h
  split at h
  ·rename_i e; cases e
  ·rename_i e; cases e
   split at h
   ·rename_i hk
    obtain ⟨t', h1, rfl⟩ := Option.map_eq_some_iff.1 h
    have := eqCells_eq h1
    subst hk
    simp [this]
   ·cases h
  ·rename_i e; cases e
   obtain ⟨t', h1, rfl⟩ := Option.map_eq_some_iff.1 h
   have := eqCells_eq h1
   simp [this]
  ·rename_i e; cases e
   obtain ⟨t', h1, rfl⟩ := Option.map_eq_some_iff.1 h
   have := eqCells_eq h1
   simp [this]
  ·cases h
theorem eqCells_self : ∀ {ks : List Nat} {a b : List PV} {t : Bool}, eqCells ks a b = some t → eqCells ks b b = some true ∧ a.length = ks.length
 | [], a, b, t, h => by
  cases a <;> cases b <;> simp only [eqCells, Option.some.injEq, reduceCtorEq] at h
  exact ⟨rfl, rfl⟩
 | k :: ks, a, b, t, h => by
  unfold eqCells at h
  split at h
  ·rename_i e; cases e
  ·rename_i e; cases e
   split at h
   ·obtain ⟨t', h1, rfl⟩ := Option.map_eq_some_iff.1 h
    obtain ⟨h2, h3⟩ := eqCells_self h1
    exact ⟨by simp [eqCells, h2], by simp [h3]⟩
   ·cases h
  ·rename_i e; cases e
   obtain ⟨t', h1, rfl⟩ := Option.map_eq_some_iff.1 h
   obtain ⟨h2, h3⟩ := eqCells_self h1
   exact ⟨by simp [eqCells, h2], by simp [h3]⟩
  ·rename_i e; cases e
   obtain ⟨t', h1, rfl⟩ := Option.map_eq_some_iff.1 h
   obtain ⟨h2, h3⟩ := eqCells_self h1
   exact ⟨by simp [eqCells, h2], by simp [h3]⟩
  ·cases h
def cellV : PV → Value
 | .int k n => .int k n
 | .bool b => .bool b
 | .str s => .string ⟨s.toArray⟩
 | _ => undef
theorem cells_val {ν : Nat → Nat} : ∀ {ks : List Nat} {a b : List PV} {t : Bool}, eqCells ks a b = some t → ∀ {us : Nat → Value}, (∀ j c, a[j]? = some c → RelP ν w S c (us j)) → ∀ j c, a[j]? = some c → us j = cellV c
 | [], a, b, t, h, us, hr, j, c, hc => by
  cases a <;> cases b <;> simp only [eqCells, Option.some.injEq, reduceCtorEq] at h
  simp at hc
 | k :: ks, a, b, t, h, us, hr, j, c, hc => by
  have step : ∀ (x : PV) (a' b' : List PV) (t' : Bool), a = x :: a' → eqCells ks a' b' = some t' → (RelP ν w S x (us 0) → us 0 = cellV x) → us j = cellV c := by
   rintro x a' b' t' rfl h1 h2
   cases j with
   | zero => simp only [List.getElem?_cons_zero, Option.some.injEq] at hc; subst hc; exact h2 (hr 0 _ rfl)
   | succ j => exact cells_val h1 (us := fun j => us (j + 1)) (fun j c hj => hr (j + 1) c (by simpa using hj)) j c (by simpa using hc)
  unfold eqCells at h
  split at h
  ·rename_i e; cases e
  ·rename_i e; cases e
   split at h
   ·obtain ⟨t', h1, rfl⟩ := Option.map_eq_some_iff.1 h
    exact step _ _ _ _ rfl h1 fun h => h.int_inv
   ·cases h
  ·rename_i e; cases e
   obtain ⟨t', h1, rfl⟩ := Option.map_eq_some_iff.1 h
   exact step _ _ _ _ rfl h1 fun h => h.bool_inv
  ·rename_i e; cases e
   obtain ⟨t', h1, rfl⟩ := Option.map_eq_some_iff.1 h
   exact step _ _ _ _ rfl h1 fun h => h.str_inv
  ·cases h
theorem agg_val {ν : Nat → Nat} {ks : List Nat} {a b : List PV} {t : Bool} {u : Value} (h : eqCells ks a b = some t) (hr : RelP ν w S (.agg a) u) : u = .agg (a.map cellV).toArray := by
 cases hr with
 | agg _ us h1 h2 h3 =>
 congr 1
 refine Array.ext (by simpa using h1) fun j hj hj2 => ?_
 have hl : j < a.length := by omega
 have := cells_val h (us := fun j => us.getD j undef) h3 j a[j] (List.getElem?_eq_getElem hl)
 simpa [hj] using this
theorem cellV_inj : ∀ {ks : List Nat} {a b : List PV} {t : Bool}, eqCells ks a b = some t → a.map cellV = b.map cellV → a = b
 | [], a, b, t, h, _ => by
  cases a <;> cases b <;> simp only [eqCells, Option.some.injEq, reduceCtorEq] at h
  rfl
 | k :: ks, a, b, t, h, he => by
  unfold eqCells at h
  split at h
  ·rename_i e; cases e
  ·rename_i e; cases e
   split at h
   ·obtain ⟨t', h1, rfl⟩ := Option.map_eq_some_iff.1 h
    simp only [List.map_cons, List.cons.injEq, cellV, Value.int.injEq] at he
    rw [cellV_inj h1 he.2, he.1.1, he.1.2]
   ·cases h
  ·rename_i e; cases e
   obtain ⟨t', h1, rfl⟩ := Option.map_eq_some_iff.1 h
   simp only [List.map_cons, List.cons.injEq, cellV, Value.bool.injEq] at he
   rw [cellV_inj h1 he.2, he.1]
  ·rename_i e; cases e
   obtain ⟨t', h1, rfl⟩ := Option.map_eq_some_iff.1 h
   simp only [List.map_cons, List.cons.injEq, cellV, Value.string.injEq, ByteArray.mk.injEq] at he
   rw [cellV_inj h1 he.2]
   have := congrArg Array.toList he.1
   simp at this
   rw [this]
  ·cases h
theorem equal_key {kt : TypeId} {ks : List Nat} {asX bs : List PV} {t : Bool} {x y : Value} (ht : eqsT P kt ks = true) (hx : RelP N.fn w S (.agg asX) x) (hy : RelP N.fn w S (.agg bs) y) (he : eqCells ks asX bs = some t) : (Go.Op.equal kt x y).run P w = .ok t w := by
 cases hx with
 | agg _ xs h1 h2 h3 =>
 cases hy with
 | agg _ ys k1 k2 k3 =>
 unfold eqsT at ht
 split at ht
 ·rename_i fs hfs
  simp only [Bool.and_eq_true, Bool.not_eq_true'] at ht
  obtain ⟨⟨hp, hg⟩, hf⟩ := ht
  have hfo : P.fieldsOf kt = fs := by simp [Program.fieldsOf, hfs]
  have hr := run_eqFields (P := P) (w := w) (N := N) (S := S) (d := 9998) (xs := xs) (ys := ys) fs.toList ks 0 asX bs t hf (by omega) (by omega)
   (fun j c hj => by rw [Nat.zero_add]; exact h3 j c hj) (fun j c hj => by rw [Nat.zero_add]; exact k3 j c hj) he
  show (Go.Op.equalIn 10000 kt (.agg xs) (.agg ys)).run P w = .ok t w
  rw [show (10000 : Nat) = 9999 + 1 from rfl, Go.run_equalIn_struct w 9999 kt xs ys (by rw [hfo]; exact hfs) hp, hfo]
  exact hr
 ·cases ht
theorem eqT_struct {kt : TypeId} {ks : List Nat} (ht : eqsT P kt ks = true) : ∃ fs, P.underlying kt = some (.struct fs) ∧ eqFs P fs.toList ks 0 = true := by
 unfold eqsT at ht
 split at ht
 ·rename_i fs hfs
  simp only [Bool.and_eq_true] at ht
  exact ⟨fs, hfs, ht.2⟩
 ·cases ht
theorem find_ask {kt : TypeId} {ks : List Nat} {k : List PV} {u x : Value} {v : AV} (ht : eqsT P kt ks = true) (hr : RelP N.fn w S (.agg k) u) (hkk : eqCells ks k k = some true) (hok : v.ok = true) (hx : RelV N.fn w S μ H v x) : ∀ {es : List (PV × AV)} {l : List MapEntry} (i : Nat) {es' : List (PV × AV)}, MapRel N.fn w S μ H es l → mputS ks k v es = some es' →
  ((Go.Instr.findAsking kt u l i).run P w = .ok none w ∧ (∀ e ∈ l, e.key ≠ u) ∧ ∀ e : MapEntry, e.key = u → e.val = x → MapRel N.fn w S μ H es' (l ++ [e])) ∨
  ∃ j e, (Go.Instr.findAsking kt u l i).run P w = .ok (some (i + j, e.val)) w ∧ l[j]? = some e ∧ e.key = u ∧ ∀ e' : MapEntry, e'.key = u → e'.val = x → MapRel N.fn w S μ H es' (l.set j e')
 | [], [], i, es', _, h => by
  simp only [mputS, Option.some.injEq] at h
  subst h
  refine .inl ⟨by simp [Go.Instr.findAsking], by simp, fun e e1 e2 => ?_⟩
  subst e1 e2
  exact ⟨hr, hok, hx, trivial⟩
 | (k', v') :: es, e :: l, i, es', hm, h => by
  cases k' <;> simp only [mputS, reduceCtorEq] at h
  rename_i k'
  split at h
  ·rename_i he
   simp only [Option.some.injEq] at h
   subst h
   have hq := equal_key ht hr hm.1 he
   have hkey : e.key = u := by
    have := (eqCells_eq he).1 rfl
    subst this
    rw [agg_val he hm.1, agg_val he hr]
   refine .inr ⟨0, e, by simp [Go.Instr.findAsking, hq], rfl, hkey, fun e' e1 e2 => ?_⟩
   subst e1 e2
   exact ⟨hr, hok, hx, hm.2.2.2⟩
  ·rename_i he
   obtain ⟨es1, h1, rfl⟩ := Option.map_eq_some_iff.1 h
   have hq := equal_key ht hr hm.1 he
   have hne : e.key ≠ u := by
    intro e1
    have h2 := agg_val (eqCells_self he).1 hm.1
    rw [e1, agg_val he hr] at h2
    have h3 : k = k' := by
     refine cellV_inj he ?_
     simpa using h2
    have := (eqCells_eq he).2 h3
    cases this
   rcases find_ask ht hr hkk hok hx (i + 1) hm.2.2.2 h1 with ⟨g1, g2, g3⟩ | ⟨j, e2, g1, g2, g3, g4⟩
   ·refine .inl ⟨by simp [Go.Instr.findAsking, hq, g1], fun y hy => ?_, fun y y1 y2 => ⟨hm.1, hm.2.1, hm.2.2.1, g3 y y1 y2⟩⟩
    rcases List.mem_cons.1 hy with rfl | hy
    ·exact hne
    ·exact g2 y hy
   ·exact .inr ⟨j + 1, e2, by simp [Go.Instr.findAsking, hq, g1]; omega, by simpa using g2, g3, fun y y1 y2 => ⟨hm.1, hm.2.1, hm.2.2.1, g4 y y1 y2⟩⟩
  ·cases h
 | [], _ :: _, _, _, hm, _ => hm.elim
 | (_, _) :: _, [], _, _, hm, _ => hm.elim
theorem forIn_ok {g : Go.Field → Unit → Go.Sem (ForInStep Unit)} : ∀ (fs : List Go.Field), (∀ f ∈ fs, (g f ()).run P w = .ok (.yield ()) w) → (forIn fs () g).run P w = .ok () w
 | [], _ => by simp
 | f :: fs, h => by
  simp only [List.forIn_cons, Go.Sem.run_bind, h f (by simp), Go.Result.andThen_ok]
  exact forIn_ok fs fun f hf => h f (by simp [hf])
theorem eqFs_mem : ∀ {fs : List Go.Field} {ks : List Nat} {k : Nat}, eqFs P fs ks k = true → ∀ f ∈ fs, f.name ≠ "_" ∧ f.offset < k + ks.length ∧ ∃ kd, fieldKind P f.type kd = true
 | [], _, _, _, f, hf => by simp at hf
 | g :: fs, [], _, h, _, _ => by simp [eqFs] at h
 | g :: fs, kd :: ks, k, h, f, hf => by
  simp only [eqFs, Bool.and_eq_true, bne_iff_ne, ne_eq, beq_iff_eq] at h
  obtain ⟨⟨⟨hn, ho⟩, ht⟩, hfs⟩ := h
  rcases List.mem_cons.1 hf with rfl | hf
  ·exact ⟨hn, by simp; omega, kd, ht⟩
  ·obtain ⟨h1, h2, h3⟩ := eqFs_mem hfs f hf
   exact ⟨h1, by simp; omega, h3⟩
theorem checkKey_agg {kt : TypeId} {ks : List Nat} {us : Array Value} (ht : eqsT P kt ks = true) (hl : ks.length ≤ us.size) : (Go.Instr.checkKey false 10000 kt (.agg us)).run P w = .ok () w := by
 obtain ⟨fs, hu, hf⟩ := eqT_struct ht
 rw [show (10000 : Nat) = 9998 + 1 + 1 from rfl, Go.Instr.checkKey]
 simp only [Go.Sem.run_bind, Go.run_underlying hu, Go.Result.andThen_ok]
 rw [← Array.forIn_toList]
 rw [forIn_ok (P := P) (w := w) fs.toList fun f hm => ?_]
 ·simp
 ·obtain ⟨h1, h2, kd, h3⟩ := eqFs_mem hf f hm
  have r1 := run_part_scalar (P := P) (w := w) (xs := us) (k := f.offset) h3 (by omega)
  have r2 : (Go.Instr.checkKey false (9998 + 1) f.type (us.getD f.offset undef)).run P w = .ok () w := by
   unfold Go.Instr.checkKey
   unfold fieldKind at h3
   split at h3
   ·split at h3
    ·rename_i hq; simp [Go.run_underlying hq, Go.Result.andThen]
    ·cases h3
   ·split at h3
    ·rename_i hq; simp [Go.run_underlying hq, Go.Result.andThen]
    ·cases h3
   ·split at h3
    ·rename_i hq; simp [Go.run_underlying hq, Go.Result.andThen]
    ·cases h3
   ·cases h3
  simp only [ne_eq, h1, not_false_eq_true, if_true, Go.Sem.run_bind, r1, r2, Go.Result.andThen_ok, Go.Sem.run_pure]
theorem find_keys {kt : TypeId} {ks : List Nat} {us : Array Value} {l : List MapEntry} (ht : eqsT P kt ks = true) : (Go.Instr.findKey kt (.agg us) l).run P w = (Go.Instr.findAsking kt (.agg us) l 0).run P w := by
 obtain ⟨fs, hu, hf⟩ := eqT_struct ht
 simp only [Go.Instr.findKey, Go.Sem.run_bind, Go.run_underlying hu, Go.Result.andThen_ok]
 cases l with
 | nil => simp [Go.Instr.findNow, Go.Instr.findAsking]
 | cons e l => simp [Go.Instr.findNow, Go.Instr.sameNow]
theorem sameBits_cells {n : Nat} : ∀ {ks : List Nat} {a b : List PV} {t : Bool}, eqCells ks a b = some t → ∀ c ∈ a, Go.Instr.sameBits n (cellV c) (cellV c) = true
 | [], a, b, t, h, c, hc => by
  cases a <;> cases b <;> simp only [eqCells, Option.some.injEq, reduceCtorEq] at h
  simp at hc
 | k :: ks, a, b, t, h, c, hc => by
  unfold eqCells at h
  split at h
  ·rename_i e; cases e
  ·rename_i e; cases e
   split at h
   ·obtain ⟨t', h1, rfl⟩ := Option.map_eq_some_iff.1 h
    rcases List.mem_cons.1 hc with rfl | hc
    ·simp [cellV, Go.Instr.sameBits]
    ·exact sameBits_cells h1 c hc
   ·cases h
  ·rename_i e; cases e
   obtain ⟨t', h1, rfl⟩ := Option.map_eq_some_iff.1 h
   rcases List.mem_cons.1 hc with rfl | hc
   ·simp [cellV, Go.Instr.sameBits]
   ·exact sameBits_cells h1 c hc
  ·rename_i e; cases e
   obtain ⟨t', h1, rfl⟩ := Option.map_eq_some_iff.1 h
   rcases List.mem_cons.1 hc with rfl | hc
   ·simp [cellV, Go.Instr.sameBits, Go.MapKept.bytes_beq]
   ·exact sameBits_cells h1 c hc
  ·cases h
theorem keyThatStays_agg {ks : List Nat} {a b : List PV} {t : Bool} (h : eqCells ks a b = some t) : (Go.Instr.keyThatStays (.agg (a.map cellV).toArray) (.agg (a.map cellV).toArray)).run P w = .ok (.agg (a.map cellV).toArray) w := by
 have : Go.Instr.sameBits 10000 (.agg (a.map cellV).toArray) (.agg (a.map cellV).toArray) = true := by
  rw [show (10000 : Nat) = 9999 + 1 from rfl, Go.Instr.sameBits]
  simp only [beq_self_eq_true, Bool.true_and, List.all_eq_true]
  intro x hx
  obtain ⟨y, hy, rfl⟩ : ∃ y ∈ a.map cellV, x = (y, y) := by
   generalize a.map cellV = l at hx ⊢
   induction l with
   | nil => simp at hx
   | cons z l ih =>
    simp only [List.zip_cons_cons, List.mem_cons] at hx
    rcases hx with rfl | hx
    ·exact ⟨z, by simp, rfl⟩
    ·obtain ⟨y, h1, h2⟩ := ih hx
     exact ⟨y, by simp [h1], h2⟩
  obtain ⟨c, hc, rfl⟩ := List.mem_map.1 hy
  exact sameBits_cells h c hc
 simp [Go.Instr.keyThatStays, this]
theorem x_msets (hr : Rel N.fn w S μ H) {T k e : TypeId} {ks : List Nat} {x i y : Value} {x' i' y' : AV} {H' : Heap} (hT : mapT P T = some (k, e)) (ht : eqsT P k ks = true) (hx : RelV N.fn w S μ H x' x) (hi : RelV N.fn w S μ H i' i) (hy : RelV N.fn w S μ H y' y)
  (hv : msetsA H ks x' i' y' = some H') : ∃ w' μ', (Go.Instr.mapUpdate T x i y).run P w = .ok () w' ∧ Step N.fn w S μ H w' S μ' H' := by
 have hu := mapT_spec hT
 unfold msetsA at hv
 split at hv
 rotate_left
 ·cases hv
 rename_i id kv
 simp only [ifB_some, Option.bind_eq_some_iff, Option.map_eq_some_iff, Bool.and_eq_true, beq_iff_eq] at hv
 obtain ⟨⟨hkd, hok⟩, es, hes, es', hp, rfl⟩ := hv
 obtain ⟨g, rfl, hl, hg⟩ := hx.mp_inv
 obtain ⟨g', arr, clock, e1, e2, est, e3⟩ := hr.map_of hes
 have hg := hg _ (mapOf_spec hes)
 rw [hg] at e1
 cases e1
 have hi := hi.p_inv
 have hiv := agg_val hkd hi
 have hck : (Go.Instr.checkKey false 10000 k i).run P w = .ok () w := by
  rw [hiv]
  exact checkKey_agg ht (by have := (eqCells_self hkd).2; simp; omega)
 have hfk : ∀ l, (Go.Instr.findKey k i l).run P w = (Go.Instr.findAsking k i l 0).run P w := by
  intro l
  rw [hiv]
  exact find_keys ht
 have hks : (Go.Instr.keyThatStays i i).run P w = .ok i w := by
  rw [hiv]
  exact keyThatStays_agg hkd
 rcases find_ask ht hi hkd hok hy 0 e3 hp with ⟨h1, h0, h2⟩ | ⟨j, en, h1, h2, h3, h4⟩
 ·have hf := (hfk _).trans h1
  refine ⟨{ w with heap := w.heap.setIfInBounds g (.map (arr.push { key := i, val := y, born := clock }) (clock + 1)) }, _, ?_, map_step hr hes hg e2 (Go.MapKept.stamped_push est h0) fun hw hm => ?_⟩
  ·simp [Go.Instr.mapUpdate, Go.run_underlying hu, Go.MapKept.run_getObj_map e2, hck, hf, Go.MapKept.run_setObj_map _ e2]
  ·rw [Array.toList_push]
   exact (h2 _ rfl rfl).keep (fun _ h => h) hw hm
 ·have hf := (hfk _).trans h1
  have h2a : arr[j]? = some en := by simpa using h2
  refine ⟨{ w with heap := w.heap.setIfInBounds g (.map (arr.modify j fun e => { e with key := i, val := y }) clock) }, _, ?_, map_step hr hes hg e2 (Go.MapKept.stamped_modify est _ _ (fun _ _ => rfl) (fun e' _ he' => by rw [h2a] at he'; cases he'; exact h3.symm)) fun hw hm => ?_⟩
  ·simp [Go.Instr.mapUpdate, Go.run_underlying hu, Go.MapKept.run_getObj_map e2, hck, hf, Go.MapKept.run_setObj_map _ e2, h2a, h3, hks]
  ·have e : (arr.modify j fun e => { e with key := i, val := y }).toList = arr.toList.set j { en with key := i, val := y } := by
    rw [Array.toList_modify]
    refine List.ext_getElem? fun n => ?_
    have hlt := (List.getElem?_eq_some_iff.1 h2).1
    by_cases hn : j = n
    ·subst hn
     have hlt' : j < arr.size := by simpa using hlt
     rw [List.getElem?_modify, List.getElem?_set, if_pos rfl, if_pos hlt, h2]
     simp
    ·simp [hn]
   rw [e]
   exact (h4 _ rfl rfl).keep (fun _ h => h) hw hm
end
end Ab
namespace Ab
open Go (IntKind BinOp UnOp World Value Addr Obj undef maxLen Program TypeId Oper Op Operand Act Sem Next Result execOp Builtin)
def chkArgs (N : Names) : List Operand → List Arg → Bool
 | [],[] => true
 | x :: xs,y :: ys => chkArg N x y && chkArgs N xs ys
 | _,_ => false
def chkO (N : Names) : Option Operand → Option Arg → Bool
 | none,none => true
 | some x,some y => chkArg N x y
 | _,_ => false
def chkParts (N : Names) (pl : Nat → Option (Nat × Nat)) : List (Nat × Operand) → List Parts → Bool
 | [],[] => true
 | x :: xs,y :: ys => (match pl x.1 with | some r => r.1 == y.off && r.2 == y.sz | none => false) && chkArg N x.2 y.arg && chkParts N pl xs ys
 | _,_ => false
def sizeT (P : Program) (T : TypeId) (sz : Nat) : Bool := match P.info? T with | some i => i.size == sz | none => false
def aggT (P : Program) (T : TypeId) (ag : Bool) : Bool := match aggB P T with | some b => b == ag | none => false
def intIs (P : Program) (T : TypeId) (k : IntKind) : Bool := match intT P T with | some k' => k' == k | none => false
def fieldAt (P : Program) (T : TypeId) (k : Nat) : Option Go.Field := (fieldsT P T).bind fun fs => fs[k]?
theorem sizeT_spec {P T sz} (h : sizeT P T sz = true) : (P.info? T).map (·.size) = some sz := by
 unfold sizeT at h
 split at h
 ·rename_i i hi; simp only [beq_iff_eq] at h; simp [hi,h]
 ·cases h
theorem aggT_spec {P T ag} (h : aggT P T ag = true) : aggB P T = some ag := by
 unfold aggT at h
 split at h
 ·rename_i b hb; simp only [beq_iff_eq] at h; rw [hb,h]
 ·cases h
theorem intIs_spec {P T k} (h : intIs P T k = true) : intT P T = some k := by
 unfold intIs at h
 split at h
 ·rename_i b hb; simp only [beq_iff_eq] at h; rw [hb,h]
 ·cases h
theorem fieldAt_spec {P T k f} (h : fieldAt P T k = some f) : ∃ fs,fieldsT P T = some fs ∧ fs[k]? = some f := Option.bind_eq_some_iff.1 h
def callOp (o : Oper) : Option (Go.Callee × List Operand × List TypeId) := match o.op with | .call c => some (c.callee,c.args.toList,c.argTypes.toList) | _ => none
theorem lenkA_spec {H : Heap} {x k v : AV} (h : lenkA H x k = some v) : (asLen H false x).map (fun (n : Nat) => AV.p (.int .i64 (n : Int))) = some v := by
 unfold lenkA at h
 split at h
 ·obtain ⟨cs,_,h2⟩ := Option.bind_eq_some_iff.1 h
  exact (ifB_some.1 h2).2
 ·cases h
theorem loadkA_spec {H : Heap} {sz ag} {x k v : AV} (h : loadkA H sz ag x k = some v) : loadA H sz ag x = some v := by
 unfold loadkA at h
 split at h
 ·split at h
  ·exact h
  ·cases h
 ·cases h
def chkQ (P : Program) (N : Names) (o : Oper) : QOp → Bool
 | .bad => true
 | .mov x => match o.op with | .move y | .assign y => chkArg N y x | _ => false
 | .pick c a b => match o.op with | .pick c' a' b' => chkArg N c' c && chkArg N a' a && chkArg N b' b | _ => false
 | .nilchk x => match o.op with | .nilCheck y => chkArg N y x | _ => false
 | .bin op x y => match o.op with | .binOp op' _ x' y' _ => decide (op' = op) && chkArg N x' x && chkArg N y' y | _ => false
 | .eqs ks neg x y => match o.op with | .binOp op T x' y' _ => decide (op = if neg then .neq else .eql) && (eqsT P T ks || eqaT P T ks) && chkArg N x' x && chkArg N y' y | _ => false
 | .eqk kd neg x y => match o.op with | .binOp op T x' y' _ => decide (op = if neg then .neq else .eql) && eqkT P T kd && chkArg N x' x && chkArg N y' y | _ => false
 | .un op x => match o.op with | .unOp op' _ x' => decide (op' = op) && chkArg N x' x | _ => false
 | .conv k x => match o.op with | .convert s d x' => (intT P s).isSome && intIs P d k && chkArg N x' x | _ => false
 | .same x => match o.op with | .convert s d x' => strT P s && strT P d && chkArg N x' x | _ => false
 | .strOf x => match o.op with | .convert s d x' => (match slT P s with | some e => intIs P e .u8 | none => false) && strT P d && chkArg N x' x | _ => false
 | .runeStr x => match o.op with | .convert s d x' => (intT P s).isSome && strT P d && chkArg N x' x | _ => false
 | .len s x => match callOp o with | some (.builtin .len,[x'],[T]) => (if s then strT P T else (slT P T).isSome) && chkArg N x' x | _ => false
 | .idx x i => match o.op with | .index T x' i' => strT P T && chkArg N x' x && chkArg N i' i | _ => false
 | .aidx sz ag n x i => match o.op with | .index T x' i' => (match arrT P T with | some (n',e) => n' == n && aggT P e ag && sizeT P e sz | none => false) && chkArg N x' x && chkArg N i' i | _ => false
 | .fld off sz ag x => match o.op with | .field T x' k => (match fieldAt P T k with | some f => f.offset == off && aggT P f.type ag && sizeT P f.type sz | none => false) && chkArg N x' x | _ => false
 | .faddr off x => match o.op with | .fieldAddr T x' k => (match fieldAt P T k with | some f => f.offset == off && (P.info? f.type).any (·.size != 0) | none => false) && chkArg N x' x | _ => false
 | .iaddr sz x i => match o.op with | .indexAddr T x' i' => (match slT P T with | some e => sizeT P e sz | none => false) && decide (0 < sz) && chkArg N x' x && chkArg N i' i | _ => false
 | .iaddrA sz n x i => match o.op with | .indexAddr T x' i' => (match arrT P T with | some (n',e) => n' == n && sizeT P e sz | none => false) && chkArg N x' x && chkArg N i' i | _ => false
 | .load sz ag x => match o.op with | .load T x' => aggT P T ag && sizeT P T sz && chkArg N x' x | _ => false
 | .sliceS x lo hi => match o.op with | .slice T x' lo' hi' none => strT P T && chkArg N x' x && chkO N lo' lo && chkO N hi' hi | _ => false
 | .slice sz x lo hi => match o.op with | .slice T x' lo' hi' none => (match slT P T with | some e => sizeT P e sz | none => false) && chkArg N x' x && chkO N lo' lo && chkO N hi' hi | _ => false
 | .build zero parts => match o.op with | .build T ps => zeroT P T zero && fieldsKnown P T && chkParts N (placeT P T) ps.toList parts | _ => false
 | .bslice sz ag n zero parts => match o.op with
  | .buildSlice T n' ps => (match slT P T with | some e => sizeT P e sz && bsZero P e (n * sz) zero | none => false) && n' == n && decide (0 < sz) && (ag || sz == 1) && decide (n * sz ≤ 16777216) && chkParts N (fun i => some (i * sz,sz)) ps.toList parts
  | _ => false
 | .appq sz x y => match callOp o with
  | some (.builtin .append,[x',y'],[T,T']) => T' == T && (match slT P T with | some e => rowT P e sz | none => false) && decide (0 < sz) && chkArg N x' x && chkArg N y' y
  | _ => false
 | .mget kd zero comma x k => match o.op with
  | .lookup T x' k' c => (match mapT P T with | some (kt,e) => (match P.underlying kt with | some d => kdIs kd d | none => false) && zeroV P e zero | none => false) && c == comma && chkArg N x' x && chkArg N k' k
  | _ => false
 | .mlen x => match callOp o with | some (.builtin .len,[x'],[T]) => (mapT P T).isSome && chkArg N x' x | _ => false
 | .wslice sz x lo hi => match o.op with | .slice T x' lo' hi' none => (match slT P T with | some e => sizeT P e sz | none => false) && chkArg N x' x && chkO N lo' lo && chkO N hi' hi | _ => false
 | .lenk x _ => match callOp o with | some (.builtin .len,[x'],[T]) => (slT P T).isSome && chkArg N x' x | _ => false
 | .loadk sz ag x _ => match o.op with | .load T x' => aggT P T ag && sizeT P T sz && chkArg N x' x | _ => false
 | .isnil neg x y => match o.op with | .binOp op T x' y' _ => decide (op = if neg then .neq else .eql) && (slT P T).isSome && chkArg N x' x && chkArg N y' y | _ => false
 | .ext x i => match o.op with | .extract x' i' => i' == i && chkArg N x' x | _ => false
 | .minmax mx xs => match callOp o with | some (.builtin b,xs',_) => decide (b = if mx then .max else .min) && chkArgs N xs' xs | _ => false
 | .clos f caps => match o.op with | .makeFunc (.func f') first caps' => f' == N.fn f && first.toList.isEmpty && chkArgs N caps'.toList caps | _ => false
 | .call f args => match callOp o with | some (.value f',xs',_) => chkArg N f' f && chkArgs N xs' args | _ => false
 | .callr f args => match callOp o with | some (.value f',xs',_) => chkArg N f' f && chkArgs N xs' args | _ => false
 | .mkt sz ag zero n c => match o.op with
  | .makeSlice T n' c' => (match slT P T with | some e => rowT P e sz && zeroT P e zero | none => false) && zero.length == sz && decide (0 < sz) && (ag || sz == 1) && chkArg N n' n && chkArg N c' c
  | _ => false
section
variable {Γ : Ctx} {N : Names} {P : Program} {w : World} {S : Nat → Prop} {μ : Nat → Value} {H : Heap} {σ : Nat → AV} {a : Act}
theorem Env.Rel.args (he : Env.Rel Γ N w S μ H σ a) : ∀ {xs ys},chkArgs N xs ys = true → All2 (fun u v => RelV N.fn w S μ H v u) (xs.map a.eval) (ys.map (Arg.ev Γ σ))
 | [],[],_ => trivial
 | x :: xs,y :: ys,h => by
  simp only [chkArgs,Bool.and_eq_true] at h
  exact ⟨he.arg h.1,he.args h.2⟩
 | [],_ :: _,h => by cases h
 | _ :: _,[],h => by cases h
theorem Env.Rel.opt (he : Env.Rel Γ N w S μ H σ a) : ∀ {x y},chkO N x y = true → RelO N.fn w S μ H (y.map (Arg.ev Γ σ)) (x.map a.eval)
 | none,none,_ => trivial
 | some x,some y,h => he.arg h
 | none,some _,h => by cases h
 | some _,none,h => by cases h
theorem Env.Rel.parts (he : Env.Rel Γ N w S μ H σ a) {pl : Nat → Option (Nat × Nat)} : ∀ {xs ys},chkParts N pl xs ys = true →
  All2 (fun (x : Nat × Value) (y : Nat × Nat × AV) => pl x.1 = some (y.1,y.2.1) ∧ RelV N.fn w S μ H y.2.2 x.2) (xs.map fun x => (x.1,a.eval x.2)) (ys.map fun q => (q.off,q.sz,q.arg.ev Γ σ))
 | [],[],_ => trivial
 | x :: xs,y :: ys,h => by
  simp only [chkParts,Bool.and_eq_true] at h
  obtain ⟨⟨h1,h2⟩,h3⟩ := h
  refine ⟨⟨?_,he.arg h2⟩,he.parts h3⟩
  split at h1
  ·rename_i r hr
   simp only [Bool.and_eq_true,beq_iff_eq] at h1
   rw [hr]
   exact congrArg some (Prod.ext h1.1 h1.2)
  ·cases h1
 | [],_ :: _,h => by cases h
 | _ :: _,[],h => by cases h
def QDone (N : Names) (P : Program) (w : World) (S : Nat → Prop) (μ : Nat → Value) (H : Heap) (o : Oper) (a : Act) (v : AV) : Prop :=
 ∃ u w' S',(execOp a.eval o).run P w = .ok (.value u) w' ∧ Step N.fn w S μ H w' S' μ H ∧ RelV N.fn w' S' μ H v u
theorem QDone.of (hr : Rel N.fn w S μ H) {o : Oper} {v : AV} {r : Sem Value} (he : execOp a.eval o = (do pure (.value (← r)))) (h : ∃ u,r.run P w = .ok u w ∧ RelV N.fn w S μ H v u) : QDone N P w S μ H o a v := by
 obtain ⟨u,h1,h2⟩ := h
 exact ⟨u,w,S,by simp [he,h1],.refl hr,h2⟩
theorem QDone.val (hr : Rel N.fn w S μ H) {o : Oper} {v : AV} {u : Value} (he : execOp a.eval o = pure (.value u)) (h : RelV N.fn w S μ H v u) : QDone N P w S μ H o a v :=
 ⟨u,w,S,by simp [he],.refl hr,h⟩
theorem exec_builtin {o : Oper} {b : Builtin} {xs : List Operand} {Ts : List TypeId} (h : callOp o = some (.builtin b,xs,Ts)) :
  ∃ cs,execOp a.eval o = Go.builtin b Ts.toArray o.type cs (xs.map a.eval).toArray := by
 unfold callOp at h
 split at h
 ·rename_i c hc
  simp only [Option.some.injEq,Prod.mk.injEq] at h
  obtain ⟨h1,h2,h3⟩ := h
  refine ⟨c.args.map fun | .const _ => true | _ => false,?_⟩
  have e1 : Ts.toArray = c.argTypes := by rw [← h3]
  have e2 : (xs.map a.eval).toArray = c.args.map a.eval := by rw [← h2,← Array.toList_map]
  rw [e1,e2]
  simp only [execOp,hc,Go.resolve,h1]
  rfl
 ·cases h
theorem mkt_spec {sz : Nat} {ag : Bool} {zero : List PV} {n c v : AV} (h : mktA sz ag zero n c = some v) : ∃ xs,v = .p (.sl .any sz xs) ∧ mksliceA H sz ag zero n c = some (.own H.length xs.length,H ++ [.row false sz xs]) := by
 unfold mktA at h
 split at h
 ·simp only [Option.ite_none_right_eq_some,Option.some.injEq] at h
  obtain ⟨⟨h1,h2,h3,h4⟩,rfl⟩ := h
  exact ⟨_,rfl,by simp only [mksliceA]; rw [if_pos ⟨h1,h2,h3⟩]; simp⟩
 ·cases h
theorem q_sound {o : Oper} {q : QOp} {v : AV} {call : Nat → List AV → Heap → Option (List AV × Heap)} (hq : q.plain = true) (hc : chkQ P N o q = true) (he : Env.Rel Γ N w S μ H σ a) (hr : Rel N.fn w S μ H)
  (hv : evQ Γ call σ H q = some v) : QDone N P w S μ H o a v := by
 cases q with
 | mov x =>
  simp only [chkQ] at hc
  simp only [evQ,Option.some.injEq] at hv; subst hv
  split at hc
  ·rename_i y hy; exact .val hr (by simp only [execOp,hy]) (he.arg hc)
  ·rename_i y hy; exact .val hr (by simp only [execOp,hy]) (he.arg hc)
  ·cases hc
 | pick c x y =>
  simp only [chkQ] at hc
  split at hc
  ·rename_i c' x' y' hy
   simp only [Bool.and_eq_true] at hc
   obtain ⟨u,h1,h2⟩ := q_pick (P := P) he hc.1.1 hc.1.2 hc.2 hv
   exact ⟨u,w,S,by simp only [execOp,hy]; exact h1,.refl hr,h2⟩
  ·cases hc
 | nilchk x =>
  simp only [chkQ] at hc
  split at hc
  ·rename_i y hy
   have hx := he.arg hc
   obtain ⟨rfl,h⟩ := q_nilchk hx hv
   refine .val hr (u := a.eval y) ?_ hx
   simp only [execOp,hy]
   rcases h with ⟨ad,h⟩ | ⟨f,cs,h⟩ <;> simp only [h]
  ·cases hc
 | bin op x y =>
  simp only [chkQ] at hc
  split at hc
  ·rename_i op' T x' y' _ hy
   simp only [Bool.and_eq_true,decide_eq_true_eq] at hc
   obtain ⟨⟨rfl,h1⟩,h2⟩ := hc
   exact .of hr (by simp only [execOp,hy]) (q_bin (T := T) (he.arg h1) (he.arg h2) hv)
  ·cases hc
 | eqs ks neg x y =>
  simp only [chkQ] at hc
  split at hc
  ·rename_i op' T x' y' _ hy
   simp only [Bool.and_eq_true,decide_eq_true_eq] at hc
   obtain ⟨⟨⟨h0,ht⟩,h1⟩,h2⟩ := hc
   rcases Bool.or_eq_true _ _ ▸ ht with ht | ht
   ·exact .of hr (by simp only [execOp,hy]) (q_eqs h0 ht (he.arg h1) (he.arg h2) hv)
   ·exact .of hr (by simp only [execOp,hy]) (q_eqa h0 ht (he.arg h1) (he.arg h2) hv)
  ·cases hc
 | eqk kd neg x y =>
  simp only [chkQ] at hc
  split at hc
  ·rename_i op' T x' y' _ hy
   simp only [Bool.and_eq_true,decide_eq_true_eq] at hc
   obtain ⟨⟨⟨h0,ht⟩,h1⟩,h2⟩ := hc
   exact .of hr (by simp only [execOp,hy]) (q_eqk h0 ht (he.arg h1) (he.arg h2) hv)
  ·cases hc
 | un op x =>
  simp only [chkQ] at hc
  split at hc
  ·rename_i op' T x' hy
   simp only [Bool.and_eq_true,decide_eq_true_eq] at hc
   obtain ⟨rfl,h1⟩ := hc
   exact .of hr (by simp only [execOp,hy]) (q_un (he.arg h1) hv)
  ·cases hc
 | conv k x =>
  simp only [chkQ] at hc
  split at hc
  ·rename_i s d x' hy
   simp only [Bool.and_eq_true] at hc
   obtain ⟨⟨h1,h2⟩,h3⟩ := hc
   obtain ⟨k0,h1⟩ := Option.isSome_iff_exists.1 h1
   exact .of hr (by simp only [execOp,hy]) (q_conv h1 (intIs_spec h2) (he.arg h3) hv)
  ·cases hc
 | runeStr x =>
  simp only [chkQ] at hc
  split at hc
  ·rename_i s d x' hy
   simp only [Bool.and_eq_true] at hc
   obtain ⟨⟨h1,h2⟩,h3⟩ := hc
   obtain ⟨k0,h1⟩ := Option.isSome_iff_exists.1 h1
   exact .of hr (by simp only [execOp,hy]) (q_runeStr h1 h2 (he.arg h3) hv)
  ·cases hc
 | same x =>
  simp only [chkQ] at hc
  split at hc
  ·rename_i s d x' hy
   simp only [Bool.and_eq_true] at hc
   exact .of hr (by simp only [execOp,hy]) (q_same hc.1.1 hc.1.2 (he.arg hc.2) hv)
  ·cases hc
 | strOf x =>
  simp only [chkQ] at hc
  split at hc
  ·rename_i s d x' hy
   simp only [Bool.and_eq_true] at hc
   obtain ⟨⟨h1,h2⟩,h3⟩ := hc
   split at h1
   ·rename_i e hs
    exact .of hr (by simp only [execOp,hy]) (q_strOf hr hs (intIs_spec h1) h2 (he.arg h3) hv)
   ·cases h1
  ·cases hc
 | len s x =>
  simp only [chkQ] at hc
  split at hc
  ·rename_i x' T hy
   simp only [Bool.and_eq_true] at hc
   obtain ⟨h1,h2⟩ := hc
   obtain ⟨cs,hx⟩ := exec_builtin (a := a) hy
   simp only [evQ,Option.map_eq_some_iff] at hv
   obtain ⟨n,hn,rfl⟩ := hv
   refine .of hr (r := Go.Builtin.len_ #[T] o.type #[a.eval x']) (by rw [hx]; rfl) ⟨_,q_len (t0 := o.type) hr ?_ (he.arg h2) hn,.p _ _ (.int _ _)⟩
   cases s <;> simpa using h1
  ·cases hc
 | idx x i =>
  simp only [chkQ] at hc
  split at hc
  ·rename_i T x' i' hy
   simp only [Bool.and_eq_true] at hc
   exact .of hr (by simp only [execOp,hy]) (q_idx hc.1.1 (he.arg hc.1.2) (he.arg hc.2) hv)
  ·cases hc
 | aidx sz ag n x i =>
  simp only [chkQ] at hc
  split at hc
  ·rename_i T x' i' hy
   simp only [Bool.and_eq_true] at hc
   obtain ⟨⟨h1,h2⟩,h3⟩ := hc
   split at h1
   ·rename_i n' e hT
    simp only [Bool.and_eq_true,beq_iff_eq] at h1
    obtain ⟨⟨rfl,h4⟩,h5⟩ := h1
    exact .of hr (by simp only [execOp,hy]) (q_aidx hT (aggT_spec h4) (sizeT_spec h5) (he.arg h2) (he.arg h3) hv)
   ·cases h1
  ·cases hc
 | fld off sz ag x =>
  simp only [chkQ] at hc
  split at hc
  ·rename_i T x' k hy
   simp only [Bool.and_eq_true] at hc
   obtain ⟨h1,h2⟩ := hc
   split at h1
   ·rename_i f hf
    obtain ⟨fs,hT,hf⟩ := fieldAt_spec hf
    simp only [Bool.and_eq_true,beq_iff_eq] at h1
    obtain ⟨⟨ho,h4⟩,h5⟩ := h1
    exact .of hr (by simp only [execOp,hy]) (q_fld hT hf ho (aggT_spec h4) (sizeT_spec h5) (he.arg h2) hv)
   ·cases h1
  ·cases hc
 | faddr off x =>
  simp only [chkQ] at hc
  split at hc
  ·rename_i T x' k hy
   simp only [Bool.and_eq_true] at hc
   obtain ⟨h1,h2⟩ := hc
   split at h1
   ·rename_i f hf
    obtain ⟨fs,hT,hf⟩ := fieldAt_spec hf
    simp only [Bool.and_eq_true,beq_iff_eq] at h1
    exact .of hr (by simp only [execOp,hy]) (q_faddr hT hf h1.1 h1.2 (he.arg h2) hv)
   ·cases h1
  ·cases hc
 | iaddr sz x i =>
  simp only [chkQ] at hc
  split at hc
  ·rename_i T x' i' hy
   simp only [Bool.and_eq_true,decide_eq_true_eq] at hc
   obtain ⟨⟨⟨h1,h0⟩,h2⟩,h3⟩ := hc
   split at h1
   ·rename_i e hT
    exact .of hr (by simp only [execOp,hy]) (q_iaddr h0 hr hT (sizeT_spec h1) (he.arg h2) (he.arg h3) hv)
   ·cases h1
  ·cases hc
 | iaddrA sz n x i =>
  simp only [chkQ] at hc
  split at hc
  ·rename_i T x' i' hy
   simp only [Bool.and_eq_true] at hc
   obtain ⟨⟨h1,h2⟩,h3⟩ := hc
   split at h1
   ·rename_i n' e hT
    simp only [Bool.and_eq_true,beq_iff_eq] at h1
    obtain ⟨rfl,h5⟩ := h1
    exact .of hr (by simp only [execOp,hy]) (q_iaddrA hT (sizeT_spec h5) (he.arg h2) (he.arg h3) hv)
   ·cases h1
  ·cases hc
 | load sz ag x =>
  simp only [chkQ] at hc
  split at hc
  ·rename_i T x' hy
   simp only [Bool.and_eq_true] at hc
   exact .of hr (by simp only [execOp,hy]) (q_load hr (aggT_spec hc.1.1) (sizeT_spec hc.1.2) (he.arg hc.2) hv)
  ·cases hc
 | wslice sz x lo hi =>
  simp only [chkQ] at hc
  split at hc
  ·rename_i T x' lo' hi' hy
   simp only [Bool.and_eq_true] at hc
   obtain ⟨⟨⟨h1,h2⟩,h3⟩,h4⟩ := hc
   split at h1
   ·rename_i e hT
    have hex : execOp a.eval o = (do pure (.value (← Go.Instr.sliceAt T (a.eval x') (lo'.map a.eval) (hi'.map a.eval) none))) := by simp only [execOp,hy]; rfl
    exact .of hr hex (q_wslice hr hT (sizeT_spec h1) (he.arg h2) (he.opt h3) (he.opt h4) hv)
   ·cases h1
  ·cases hc
 | lenk x k =>
  simp only [chkQ] at hc
  split at hc
  ·rename_i x' T hy
   simp only [Bool.and_eq_true] at hc
   obtain ⟨h1,h2⟩ := hc
   obtain ⟨cs,hx⟩ := exec_builtin (a := a) hy
   simp only [evQ] at hv
   obtain ⟨n,hn,rfl⟩ := Option.map_eq_some_iff.1 (lenkA_spec hv)
   exact .of hr (r := Go.Builtin.len_ #[T] o.type #[a.eval x']) (by rw [hx]; rfl) ⟨_,q_len (t0 := o.type) (s := false) hr (by simpa using h1) (he.arg h2) hn,.p _ _ (.int _ _)⟩
  ·cases hc
 | loadk sz ag x k =>
  simp only [chkQ] at hc
  split at hc
  ·rename_i T x' hy
   simp only [Bool.and_eq_true] at hc
   exact .of hr (by simp only [execOp,hy]) (q_load hr (aggT_spec hc.1.1) (sizeT_spec hc.1.2) (he.arg hc.2) (loadkA_spec hv))
  ·cases hc
 | sliceS x lo hi =>
  simp only [chkQ] at hc
  split at hc
  ·rename_i T x' lo' hi' hy
   simp only [Bool.and_eq_true] at hc
   obtain ⟨⟨⟨h1,h2⟩,h3⟩,h4⟩ := hc
   exact .of hr (by simp only [execOp,hy]; rfl) (q_sliceS h1 (he.arg h2) (he.opt h3) (he.opt h4) hv)
  ·cases hc
 | slice sz x lo hi =>
  simp only [chkQ] at hc
  split at hc
  ·rename_i T x' lo' hi' hy
   simp only [Bool.and_eq_true] at hc
   obtain ⟨⟨⟨h1,h2⟩,h3⟩,h4⟩ := hc
   split at h1
   ·rename_i e hT
    exact .of hr (by simp only [execOp,hy]; rfl) (q_slice hT (sizeT_spec h1) (he.arg h2) (he.opt h3) (he.opt h4) hv)
   ·cases h1
  ·cases hc
 | build zero parts =>
  simp only [chkQ] at hc
  split at hc
  ·rename_i T ps hy
   simp only [Bool.and_eq_true] at hc
   obtain ⟨⟨h1,h2⟩,h3⟩ := hc
   simp only [evQ,Option.map_eq_some_iff] at hv
   obtain ⟨res,hv,rfl⟩ := hv
   refine .of hr (r := Go.Instr.build T (ps.toList.map fun x => (x.1,a.eval x.2)).toArray) ?_ (q_build h1 h2 (he.parts h3) hv)
   simp only [execOp,hy]
   have : (ps.toList.map fun x => (x.1,a.eval x.2)).toArray = ps.map fun x => (x.1,a.eval x.2) := by rw [← Array.toList_map]
   rw [this]
  ·cases hc
 | bslice sz ag n zero parts =>
  simp only [chkQ] at hc
  split at hc
  ·rename_i T n' ps hy
   simp only [Bool.and_eq_true,decide_eq_true_eq,beq_iff_eq,Bool.or_eq_true] at hc
   obtain ⟨⟨⟨⟨⟨h1,rfl⟩,h0⟩,hag⟩,hn⟩,h3⟩ := hc
   split at h1
   ·rename_i e hT
    simp only [Bool.and_eq_true] at h1
    have hag' : ag = false → sz = 1 := fun e => by
     rcases hag with h | h
     ·rw [h] at e; cases e
     ·exact h
    obtain ⟨us,h4,h5⟩ := q_bslice (N := N) (μ := μ) (H := H) (parts := ps.toList.map fun x => (x.1,a.eval x.2)) hr.lt hT (sizeT_spec h1.1) h0 hag' (by omega) h1.2
     (by
      have := he.parts h3
      refine this.imp fun x y hxy => ⟨?_,hxy.2⟩
      simpa using hxy.1) hv
    refine ⟨_,_,_,?_,.grow hr (Grows.alloc w _) (fun g h => .inl h) (fun g h => ?_) (fun g h => ?_),h5⟩
    ·have e1 : (ps.toList.map fun x => (x.1,a.eval x.2)).toArray = ps.map fun x => (x.1,a.eval x.2) := by rw [← Array.toList_map]
     rw [e1] at h4
     simp only [execOp,hy]
     simp [h4]
    ·rcases h with h | h
     ·exact Nat.lt_of_lt_of_le (hr.lt g h) (Grows.alloc w _).size
     ·subst h; simp
    ·rcases h with h | h
     ·exact .inl h
     ·exact .inr (by omega)
   ·cases h1
  ·cases hc
 | appq sz x y =>
  simp only [chkQ] at hc
  split at hc
  ·rename_i x' y' T T' hy
   simp only [Bool.and_eq_true,decide_eq_true_eq,beq_iff_eq] at hc
   obtain ⟨⟨⟨⟨rfl,h1⟩,h0⟩,h2⟩,h3⟩ := hc
   split at h1
   ·rename_i e hT
    obtain ⟨i,z,hi,hsz,hb,hz,hzs⟩ := rowT_spec h1
    obtain ⟨cs,hx⟩ := exec_builtin (a := a) hy
    obtain ⟨u,w',S',h4,h5,h6⟩ := q_appq (ty := o.type) hr (slT_spec hT) hi hz hsz hzs h0 hb (he.arg h2) (he.arg h3) hv
    refine ⟨u,w',S',?_,h5,h6⟩
    have e : execOp a.eval o = (do pure (.value (← Builtin.append_ #[T',T'] o.type #[a.eval x',a.eval y']))) := by rw [hx]; rfl
    simp [e,h4]
   ·cases h1
  ·cases hc
 | mget kd zero comma x k =>
  simp only [chkQ] at hc
  split at hc
  ·rename_i T x' k' c hy
   simp only [Bool.and_eq_true,beq_iff_eq] at hc
   obtain ⟨⟨⟨h1,rfl⟩,h2⟩,h3⟩ := hc
   split at h1
   ·rename_i kt e hT
    simp only [Bool.and_eq_true] at h1
    obtain ⟨h1,h4⟩ := h1
    split at h1
    ·rename_i d hd
     obtain ⟨z,hz,hzr⟩ := zeroV_spec (N := N) (w := w) (S := S) (μ := μ) (H := H) h4
     exact .of hr (by simp only [execOp,hy]) (q_mget hr hT (by rw [hd,kdIs_spec h1]) hz hzr (he.arg h2) (he.arg h3) hv)
    ·cases h1
   ·cases h1
  ·cases hc
 | mlen x =>
  simp only [chkQ] at hc
  split at hc
  ·rename_i x' T hy
   simp only [Bool.and_eq_true] at hc
   obtain ⟨⟨kt,e⟩,hT⟩ := Option.isSome_iff_exists.1 hc.1
   obtain ⟨cs,hx⟩ := exec_builtin (a := a) hy
   refine .of hr (r := Builtin.len_ #[T] o.type #[a.eval x']) ?_ (q_mlen hr hT (he.arg hc.2) hv)
   rw [hx]; rfl
  ·cases hc
 | isnil neg x y =>
  simp only [chkQ] at hc
  split at hc
  ·rename_i op T x' y' T' hy
   simp only [Bool.and_eq_true,decide_eq_true_eq] at hc
   obtain ⟨⟨⟨h0,h1⟩,h2⟩,h3⟩ := hc
   obtain ⟨e,hT⟩ := Option.isSome_iff_exists.1 h1
   exact .of hr (by simp only [execOp,hy]) (q_isnil hr h0 hT (he.arg h2) (he.arg h3) hv)
  ·cases hc
 | ext x i =>
  simp only [chkQ] at hc
  split at hc
  ·rename_i x' i' hy
   simp only [Bool.and_eq_true,beq_iff_eq] at hc
   obtain ⟨rfl,h2⟩ := hc
   exact .of hr (by simp only [execOp,hy]) (q_ext (he.arg h2) hv)
  ·cases hc
 | minmax mx xs =>
  simp only [chkQ] at hc
  split at hc
  ·rename_i b xs' Ts hy
   simp only [Bool.and_eq_true,decide_eq_true_eq] at hc
   obtain ⟨rfl,h2⟩ := hc
   obtain ⟨cs,hx⟩ := exec_builtin (a := a) hy
   have := q_minmax (P := P) (mx := mx) (t0 := o.type) (ts := Ts.toArray) (he.args h2) hv
   refine .of hr (r := if mx then Go.Builtin.max_ Ts.toArray o.type (xs'.map a.eval).toArray else Go.Builtin.min_ Ts.toArray o.type (xs'.map a.eval).toArray) ?_ this
   rw [hx]
   cases mx <;> rfl
  ·cases hc
 | clos f caps =>
  simp only [chkQ] at hc
  split at hc
  ·rename_i f' first caps' hy
   simp only [Bool.and_eq_true,beq_iff_eq,List.isEmpty_iff] at hc
   obtain ⟨⟨rfl,h1⟩,h2⟩ := hc
   have hf : first = #[] := by simpa using h1
   simp only [evQ,ifB] at hv
   split at hv
   ·rename_i hall
    simp only [Option.some.injEq] at hv; subst hv
    have := q_clos (f := f) (he.args h2) (fun c hc => List.all_eq_true.1 hall c hc)
    have e1 : (caps'.toList.map a.eval).toArray = caps'.map a.eval := by rw [← Array.toList_map]
    rw [e1] at this
    refine .of hr (r := pure (.func (.func (N.fn f)) #[] (caps'.map a.eval))) ?_ ⟨_,by simp,this⟩
    simp only [execOp,hy,hf,Go.Instr.makeFunc]
    simp
   ·cases hv
  ·cases hc
 | call f args => cases hq
 | callr f args => cases hq
 | mkt sz ag zero n c =>
  simp only [chkQ] at hc
  split at hc
  ·rename_i T n' c' hy
   simp only [Bool.and_eq_true,decide_eq_true_eq,beq_iff_eq,Bool.or_eq_true] at hc
   obtain ⟨⟨⟨⟨⟨h1,h2⟩,h3⟩,hag⟩,h4⟩,h5⟩ := hc
   split at h1
   ·rename_i e hT
    simp only [Bool.and_eq_true] at h1
    obtain ⟨i,z,hi,hsz,hb,_,_⟩ := rowT_spec h1.1
    have hag' : ag = false → sz = 1 := fun e => by
     rcases hag with h | h
     ·rw [h] at e; cases e
     ·exact h
    simp only [evQ] at hv
    obtain ⟨xs,rfl,hv'⟩ := mkt_spec hv
    obtain ⟨u,w',μ',q1,q2,q3,o',m,cp,rfl,hu⟩ := x_mkslice hr hT hi hsz h1.2 h2 h3 hag' hb (he.arg h4) (he.arg h5) hv'
    have hbk : (H ++ [Blk.row false sz xs])[H.length]? = some (.row false sz xs) := by simp
    have e : u = μ' H.length := q3.own_inv (r := (sz,xs)) (by simp [rowOf])
    refine ⟨u,w.alloc o',fun g => S g ∨ g = w.heap.size,by simp [execOp,hy,q1],.grow hr (Grows.alloc w o') (fun g h => .inl h) (fun g h => ?_) (fun g h => ?_),.p _ _ ?_⟩
    ·rcases h with h | rfl
     ·have := hr.lt g h; simp; omega
     ·simp
    ·rcases h with h | rfl
     ·exact .inl h
     ·exact .inr (Nat.le_refl _)
    ·rw [e]
     refine row_relP q2.rel hbk (fun g h => .inl h) (fun g hg => .inr ?_)
     rw [← e,hu] at hg
     simp only [blkOf] at hg
     split at hg
     ·cases hg
     ·simp only [Option.some.injEq] at hg; exact hg.symm
   ·cases h1
  ·cases hc
 | bad => cases hv
end
end Ab
namespace Ab
open Go (IntKind BinOp UnOp World Value Addr Obj undef maxLen Program TypeId Oper Op Operand Act Sem Next Result execOp Builtin)
def chkX (P : Program) (N : Names) (o : Oper) : XOp → Bool
 | .alloc zero => match o.op with | .alloc T => zeroT P T zero | _ => false
 | .box x => match o.op with | .box _ x' => chkArg N x' x | _ => false
 | .fbox x => match o.op with | .box _ x' => chkArg N x' x | _ => false
 | .store sz x v => match o.op with | .store T x' v' => sizeT P T sz && chkArg N x' x && chkArg N v' v | _ => false
 | .mkslice sz ag zero n c => match o.op with
  | .makeSlice T n' c' => (match slT P T with | some e => rowT P e sz && zeroT P e zero | none => false) && zero.length == sz && decide (0 < sz) && (ag || sz == 1) && chkArg N n' n && chkArg N c' c
  | _ => false
 | .newrow sz => match o.op with | .assign (.const (.slice none 0 0)) => decide (0 < sz) | _ => false
 | .append sz x y | .appt sz x y | .appk sz x y _ => match callOp o with
  | some (.builtin .append,[x',y'],[T,T']) => T' == T && (match slT P T with | some e => rowT P e sz | none => false) && decide (0 < sz) && chkArg N x' x && chkArg N y' y
  | _ => false
 | .slicef sz x lo hi => match o.op with | .slice T x' lo' hi' none => (match slT P T with | some e => sizeT P e sz | none => false) && chkArg N x' x && chkO N lo' lo && chkO N hi' hi | _ => false
 | .copy sz x y => match callOp o with
  | some (.builtin .copy,[x',y'],[T,_]) => sz == 1 && (match slT P T with | some e => sizeT P e 1 | none => false) && chkArg N x' x && chkArg N y' y
  | _ => false
 | .appendS x y => match callOp o with
  | some (.builtin .append,[x',y'],[T,T']) => (match slT P T with | some e => rowT P e 1 | none => false) && strT P T' && chkArg N x' x && chkArg N y' y
  | _ => false
 | .popf sz x hi => match o.op with | .slice T x' none (some hi') none => (match slT P T with | some e => sizeT P e sz | none => false) && chkArg N x' x && chkArg N hi' hi | _ => false
 | .storek sz x v _ => match o.op with | .store T x' v' => sizeT P T sz && chkArg N x' x && chkArg N v' v | _ => false
 | .callk f args _ => match callOp o with | some (.value f',xs',_) => chkArg N f' f && chkArgs N xs' args | _ => false
 | .range x => match o.op with | .range T x' => strT P T && chkArg N x' x | _ => false
 | .next x => match o.op with | .next x' true => chkArg N x' x | _ => false
 | .pureq q => chkQ P N o q
 | .treeq q => q.plain && chkQ P N o q
 | .brow sz ag n zero parts => match o.op with
  | .buildSlice T n' ps => (match slT P T with | some e => sizeT P e sz && bsZero P e (n * sz) zero | none => false) && n' == n && decide (0 < sz) && (ag || sz == 1) && decide (n * sz ≤ 16777216) && chkParts N (fun i => some (i * sz,sz)) ps.toList parts
  | _ => false
 | .mkmap => match o.op with | .makeMap _ none => true | _ => false
 | .mset kd x k v => match o.op with
  | .mapUpdate T x' k' v' => (match mapT P T with | some (kt,_) => (match P.underlying kt with | some d => kdIs kd d | none => false) | none => false) && chkArg N x' x && chkArg N k' k && chkArg N v' v
  | _ => false
 | .msets ks x k v => match o.op with
  | .mapUpdate T x' k' v' => (match mapT P T with | some (kt,_) => eqsT P kt ks | none => false) && chkArg N x' x && chkArg N k' k && chkArg N v' v
  | _ => false
 | .mdel kd x k => match callOp o with
  | some (.builtin .delete,[x',k'],[T,_]) => (match mapT P T with | some (kt,_) => (match P.underlying kt with | some d => kdIs kd d | none => false) | none => false) && chkArg N x' x && chkArg N k' k
  | _ => false
 | .callf f args | .callz f args | .calls f args | .callw f args | .callwk f args _ => match callOp o with | some (.value f',xs',_) => chkArg N f' f && chkArgs N xs' args | _ => false
 | .bslicef sz ag n zero parts | .bslk sz ag n zero parts _ => match o.op with
  | .buildSlice T n' ps => (match slT P T with | some e => sizeT P e sz && bsZero P e (n * sz) zero | none => false) && n' == n && decide (0 < sz) && (ag || sz == 1) && decide (n * sz ≤ 16777216) && chkParts N (fun i => some (i * sz,sz)) ps.toList parts
  | _ => false
 | _ => false
def chkOp (P : Program) (N : Names) (o : Oper) : QOp ⊕ XOp → Bool
 | .inl q => chkQ P N o q
 | .inr x => chkX P N o x
section
variable {Γ : Ctx} {N : Names} {P : Program} {w : World} {S : Nat → Prop} {μ : Nat → Value} {H : Heap} {σ : Nat → AV} {a : Act}
def Yield (r : Result Next) (u : Value) (w : World) : Prop := r = .ok (.value u) w ∨ (r = .ok .skip w ∧ u = undef)
def XDone (N : Names) (P : Program) (w : World) (S : Nat → Prop) (μ : Nat → Value) (H : Heap) (o : Oper) (a : Act) (v : AV) (H' : Heap) : Prop :=
 ∃ u w' S' μ',Yield ((execOp a.eval o).run P w) u w' ∧ Step N.fn w S μ H w' S' μ' H' ∧ RelV N.fn w' S' μ' H' v u
theorem XDone.of {o : Oper} {r : Sem Value} {v : AV} {H' : Heap} (he : execOp a.eval o = (do pure (.value (← r)))) (h : ∃ u w' μ',r.run P w = .ok u w' ∧ Step N.fn w S μ H w' S μ' H' ∧ RelV N.fn w' S μ' H' v u) : XDone N P w S μ H o a v H' := by
 obtain ⟨u,w',μ',h1,h2,h3⟩ := h
 exact ⟨u,w',S,μ',.inl (by simp [he,h1]),h2,h3⟩
def XOp.known : XOp → Bool
 | .callf _ _ | .calls _ _ | .callz _ _ | .callw _ _ | .callwk _ _ _ | .callk _ _ _ | .appt _ _ _ | .appk _ _ _ _ | .bslk _ _ _ _ _ _ | .bslicef _ _ _ _ _ | .fbox _ | .pureq _ | .treeq _ => false
 | _ => true
theorem x_sound {o : Oper} {x : XOp} {v : AV} {H' : Heap} {cal : Nat → List AV → Heap → Option (List AV × Heap)} (hq : x.known = true) (hc : chkX P N o x = true) (he : Env.Rel Γ N w S μ H σ a) (hr : Rel N.fn w S μ H)
  (hv : evX Γ cal σ H x = some (v,H')) : XDone N P w S μ H o a v H' := by
 cases x with
 | alloc zero =>
  simp only [chkX] at hc
  simp only [evX,Option.some.injEq,Prod.mk.injEq] at hv
  obtain ⟨rfl,rfl⟩ := hv
  split at hc
  ·rename_i T hy; exact .of (by simp only [execOp,hy]) (x_alloc hr hc)
  ·cases hc
 | box x =>
  simp only [chkX] at hc
  split at hc
  ·rename_i T x' hy; exact .of (r := Go.Instr.box T (a.eval x')) (by simp only [execOp,hy]) (x_box hr (he.arg hc) hv)
  ·cases hc
 | store sz x y =>
  simp only [chkX] at hc
  simp only [evX,Option.map_eq_some_iff,Prod.mk.injEq] at hv
  obtain ⟨H1,hv,rfl,rfl⟩ := hv
  split at hc
  ·rename_i T x' y' hy
   simp only [Bool.and_eq_true] at hc
   obtain ⟨w',μ',h1,h2⟩ := x_store hr (sizeT_spec hc.1.1) (he.arg hc.1.2) (he.arg hc.2) hv
   exact ⟨undef,w',S,μ',.inr ⟨by simp [execOp,hy,h1],rfl⟩,h2,.nov⟩
  ·cases hc
 | mkslice sz ag zero n c =>
  simp only [chkX] at hc
  split at hc
  ·rename_i T n' c' hy
   simp only [Bool.and_eq_true,decide_eq_true_eq,beq_iff_eq,Bool.or_eq_true] at hc
   obtain ⟨⟨⟨⟨⟨h1,h2⟩,h3⟩,hag⟩,h4⟩,h5⟩ := hc
   split at h1
   ·rename_i e hT
    simp only [Bool.and_eq_true] at h1
    obtain ⟨i,z,hi,hsz,hb,_,_⟩ := rowT_spec h1.1
    have hag' : ag = false → sz = 1 := fun e => by
     rcases hag with h | h
     ·rw [h] at e; cases e
     ·exact h
    obtain ⟨u,w',μ',q1,q2,q3,_⟩ := x_mkslice hr hT hi hsz h1.2 h2 h3 hag' hb (he.arg h4) (he.arg h5) hv
    exact .of (by simp only [execOp,hy]) ⟨u,w',μ',q1,q2,q3⟩
   ·cases h1
  ·cases hc
 | brow sz ag n zero parts =>
  simp only [chkX] at hc
  split at hc
  ·rename_i T n' ps hy
   simp only [Bool.and_eq_true,decide_eq_true_eq,beq_iff_eq,Bool.or_eq_true] at hc
   obtain ⟨⟨⟨⟨⟨h1,rfl⟩,h0⟩,hag⟩,hn⟩,h3⟩ := hc
   split at h1
   ·rename_i e hT
    simp only [Bool.and_eq_true] at h1
    have hag' : ag = false → sz = 1 := fun e => by
     rcases hag with h | h
     ·rw [h] at e; cases e
     ·exact h
    obtain ⟨u,w',μ',h4,h5,h6⟩ := x_brow (N := N) (μ := μ) (H := H) (parts := ps.toList.map fun x => (x.1,a.eval x.2)) hr hT (sizeT_spec h1.1) h0 hag' (by omega) h1.2
     (by
      have := he.parts h3
      refine this.imp fun x y hxy => ⟨?_,hxy.2⟩
      simpa using hxy.1) hv
    refine ⟨u,w',S,μ',.inl ?_,h5,h6⟩
    have e1 : (ps.toList.map fun x => (x.1,a.eval x.2)).toArray = ps.map fun x => (x.1,a.eval x.2) := by rw [← Array.toList_map]
    rw [e1] at h4
    simp only [execOp,hy]
    simp [h4]
   ·cases h1
  ·cases hc
 | mkmap =>
  simp only [chkX] at hc
  simp only [evX,Option.some.injEq,Prod.mk.injEq] at hv
  obtain ⟨rfl,rfl⟩ := hv
  split at hc
  ·rename_i T hy
   exact .of (by simp only [execOp,hy]; rfl) (x_mkmap (T := T) hr)
  ·cases hc
 | mset kd x k v =>
  simp only [chkX] at hc
  simp only [evX,Option.map_eq_some_iff,Prod.mk.injEq] at hv
  obtain ⟨H1,hv,rfl,rfl⟩ := hv
  split at hc
  ·rename_i T x' k' v' hy
   simp only [Bool.and_eq_true] at hc
   obtain ⟨⟨⟨h1,h2⟩,h3⟩,h4⟩ := hc
   split at h1
   ·rename_i kt e hT
    split at h1
    ·rename_i d hd
     obtain ⟨w',μ',h5,h6⟩ := x_mset hr hT (by rw [hd,kdIs_spec h1]) (he.arg h2) (he.arg h3) (he.arg h4) hv
     refine ⟨undef,w',S,μ',.inr ⟨?_,rfl⟩,h6,.nov⟩
     simp only [execOp,hy]
     simp [h5]
    ·cases h1
   ·cases h1
  ·cases hc
 | msets ks x k v =>
  simp only [chkX] at hc
  simp only [evX,Option.map_eq_some_iff,Prod.mk.injEq] at hv
  obtain ⟨H1,hv,rfl,rfl⟩ := hv
  split at hc
  ·rename_i T x' k' v' hy
   simp only [Bool.and_eq_true] at hc
   obtain ⟨⟨⟨h1,h2⟩,h3⟩,h4⟩ := hc
   split at h1
   ·rename_i kt e hT
    obtain ⟨w',μ',h5,h6⟩ := x_msets hr hT h1 (he.arg h2) (he.arg h3) (he.arg h4) hv
    refine ⟨undef,w',S,μ',.inr ⟨?_,rfl⟩,h6,.nov⟩
    simp only [execOp,hy]
    simp [h5]
   ·cases h1
  ·cases hc
 | mdel kd x k =>
  simp only [chkX] at hc
  simp only [evX,Option.map_eq_some_iff,Prod.mk.injEq] at hv
  obtain ⟨H1,hv,rfl,rfl⟩ := hv
  split at hc
  ·rename_i x' k' T T' hy
   simp only [Bool.and_eq_true] at hc
   obtain ⟨⟨h1,h2⟩,h3⟩ := hc
   split at h1
   ·rename_i kt e hT
    split at h1
    ·rename_i d hd
     obtain ⟨w',μ',h5,h6⟩ := x_mdel (ts := #[T,T']) (t0 := o.type) hr hT (by rw [hd,kdIs_spec h1]) (he.arg h2) (he.arg h3) rfl hv
     obtain ⟨cs,hx⟩ := exec_builtin (a := a) hy
     refine ⟨.tuple #[],w',S,μ',.inl ?_,h6,.any _⟩
     have e1 : execOp a.eval o = (do pure (.value (← Builtin.delete_ #[T,T'] o.type #[a.eval x',a.eval k']))) := by rw [hx]; rfl
     simp [e1,h5]
    ·cases h1
   ·cases h1
  ·cases hc
 | newrow sz =>
  simp only [chkX] at hc
  simp only [evX,Option.some.injEq,Prod.mk.injEq] at hv
  obtain ⟨rfl,rfl⟩ := hv
  split at hc
  ·rename_i hy
   obtain ⟨μ',h1,h2⟩ := x_newrow hr (of_decide_eq_true hc)
   exact ⟨_,w,S,μ',.inl (by simp [execOp,hy]; rfl),h1,h2⟩
  ·cases hc
 | append sz x y =>
  simp only [chkX] at hc
  split at hc
  ·rename_i x' y' T T' hy
   simp only [Bool.and_eq_true,decide_eq_true_eq,beq_iff_eq] at hc
   obtain ⟨⟨⟨⟨rfl,h1⟩,h0⟩,h2⟩,h3⟩ := hc
   split at h1
   ·rename_i e hT
    obtain ⟨i,z,hi,hsz,hb,hz,hzs⟩ := rowT_spec h1
    obtain ⟨cs,hx⟩ := exec_builtin (a := a) hy
    simp only [evX,Option.bind_eq_some_iff] at hv
    obtain ⟨ys,hys,hv⟩ := hv
    obtain ⟨news,h4,h5⟩ := elems_src hr h0 (he.arg h3) hys
    obtain ⟨v',w',μ',h6⟩ := x_appendA (ty := o.type) hr (slT_spec hT) hi hz hsz hzs h0 hb (he.arg h2) h4 h5 hv
    refine .of (r := Builtin.append_ #[T',T'] o.type #[a.eval x',a.eval y']) (by rw [hx]; rfl) ⟨v',w',μ',h6⟩
   ·cases h1
  ·cases hc
 | range x =>
  simp only [chkX] at hc
  split at hc
  ·rename_i T x' hy
   simp only [Bool.and_eq_true] at hc
   exact .of (by simp only [execOp,hy]) (x_range hr hc.1 (he.arg hc.2) hv)
  ·cases hc
 | next x =>
  simp only [chkX] at hc
  split at hc
  ·rename_i x' hy
   exact .of (r := Go.Instr.next (a.eval x') true o.type) (by simp only [execOp,hy]) (x_next hr (he.arg hc) hv)
  ·cases hc
 | appendS x y =>
  simp only [chkX] at hc
  split at hc
  ·rename_i x' y' T T' hy
   simp only [Bool.and_eq_true] at hc
   obtain ⟨⟨⟨h1,h0⟩,h2⟩,h3⟩ := hc
   split at h1
   ·rename_i e hT
    obtain ⟨i,z,hi,hsz,hb,hz,hzs⟩ := rowT_spec h1
    obtain ⟨cs,hx⟩ := exec_builtin (a := a) hy
    obtain ⟨v',w',μ',h6⟩ := x_appendS (ty := o.type) hr (slT_spec hT) (strT_spec h0) hi hz hsz hzs hb (he.arg h2) (he.arg h3) hv
    refine .of (r := Builtin.append_ #[T,T'] o.type #[a.eval x',a.eval y']) (by rw [hx]; rfl) ⟨v',w',μ',h6⟩
   ·cases h1
  ·cases hc
 | copy sz x y =>
  simp only [chkX] at hc
  split at hc
  ·rename_i x' y' T T' hy
   simp only [Bool.and_eq_true,beq_iff_eq] at hc
   obtain ⟨⟨⟨rfl,h1⟩,h2⟩,h3⟩ := hc
   split at h1
   ·rename_i e hT
    obtain ⟨cs,hx⟩ := exec_builtin (a := a) hy
    simp only [evX,Option.bind_eq_some_iff] at hv
    obtain ⟨ys,hys,hv⟩ := hv
    obtain ⟨v',w',μ',h6⟩ := x_copy (P := P) (T' := T') (ty := o.type) hr hT (sizeT_spec h1) (he.arg h2) (he.arg h3) hys hv
    refine .of (r := Builtin.copy_ #[T,T'] o.type #[a.eval x',a.eval y']) (by rw [hx]; rfl) ⟨v',w',μ',h6⟩
   ·cases h1
  ·cases hc
 | bytesOf x => cases hc
 | slicef sz x lo hi =>
  simp only [chkX] at hc
  split at hc
  ·rename_i T x' lo' hi' hy
   simp only [Bool.and_eq_true] at hc
   obtain ⟨⟨⟨h1,h2⟩,h3⟩,h4⟩ := hc
   split at h1
   ·rename_i e hT
    obtain ⟨u,w',S',μ',g1,g2,g3⟩ := x_slicef hr hT (sizeT_spec h1) (he.arg h2) (he.opt h3) (he.opt h4) hv
    have hex : execOp a.eval o = (do pure (.value (← Go.Instr.sliceAt T (a.eval x') (lo'.map a.eval) (hi'.map a.eval) none))) := by simp only [execOp,hy]; rfl
    exact ⟨u,w',S',μ',.inl (by simp [hex,g1]),g2,g3⟩
   ·cases h1
  ·cases hc
 | popf sz x hi =>
  simp only [chkX] at hc
  split at hc
  ·rename_i T x' hi' hy
   simp only [Bool.and_eq_true] at hc
   obtain ⟨⟨h1,h2⟩,h3⟩ := hc
   split at h1
   ·rename_i e hT
    obtain ⟨u,w',S',μ',g1,g2,g3⟩ := x_pop hr hT (sizeT_spec h1) (he.arg h2) (he.arg h3) hv
    have hex : execOp a.eval o = (do pure (.value (← Go.Instr.sliceAt T (a.eval x') none (some (a.eval hi')) none))) := by simp only [execOp,hy]; rfl
    exact ⟨u,w',S',μ',.inl (by simp [hex,g1]),g2,g3⟩
   ·cases h1
  ·cases hc
 | storek sz x y ks =>
  simp only [chkX] at hc
  simp only [evX,storekA,Option.map_eq_some_iff,ifB_some,Prod.mk.injEq] at hv
  obtain ⟨H1,⟨_,hv⟩,rfl,rfl⟩ := hv
  split at hc
  ·rename_i T x' y' hy
   simp only [Bool.and_eq_true] at hc
   obtain ⟨w',μ',h1,h2⟩ := x_store hr (sizeT_spec hc.1.1) (he.arg hc.1.2) (he.arg hc.2) hv
   exact ⟨undef,w',S,μ',.inr ⟨by simp [execOp,hy,h1],rfl⟩,h2,.nov⟩
  ·cases hc
 | callk f args ks => cases hq
 | callw f args => cases hq
 | callwk f args ks => cases hq
 | appt sz x y => cases hq
 | appk sz x y ks => cases hq
 | bslk sz ag n zero parts ks => cases hq
 | callf f args => cases hq
 | calls f args => cases hq
 | callz f args => cases hq
 | pureq q => cases hq
 | treeq q => cases hq
 | bslicef sz ag n zero parts => cases hq
 | fbox x => cases hq
end
end Ab
