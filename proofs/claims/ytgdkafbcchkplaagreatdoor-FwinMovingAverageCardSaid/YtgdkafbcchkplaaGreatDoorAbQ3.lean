import Derived.Test.YtgdkafbcchkplaaGreatDoorAbQ2
import Derived.Laws.BytesArg
namespace Ab
/-- Two lists, element by element. -/
def All2 {α β : Type} (R : α → β → Prop) : List α → List β → Prop
  | [], [] => True
  | x :: xs, y :: ys => R x y ∧ All2 R xs ys
  | _, _ => False
theorem All2.imp {α β : Type} {R R' : α → β → Prop} (h : ∀ x y, R x y → R' x y) : ∀ {xs ys}, All2 R xs ys → All2 R' xs ys
  | [], [], _ => trivial
  | _ :: _, _ :: _, ⟨h1, h2⟩ => ⟨h _ _ h1, All2.imp h h2⟩
  | [], _ :: _, h => h.elim
  | _ :: _, [], h => h.elim
open Go (IntKind BinOp UnOp World Value Addr Obj undef maxLen Program TypeId Oper Op Operand Act Sem Next Result execOp Builtin)
section
variable {Γ : Ctx} {N : Names} {P : Program} {w : World} {S : Nat → Prop} {μ : Nat → Value} {H : Heap} {σ : Nat → AV} {a : Act}

theorem foldl_set (off : Nat) : ∀ (l : List Value) (k : Nat) (cs : Array Value), off + k + l.length ≤ cs.size →
    ((l.zipIdx k).foldl (fun cs (x : Value × Nat) => cs.setIfInBounds (off + x.2) x.1) cs).size = cs.size ∧
    ∀ j, ((l.zipIdx k).foldl (fun cs (x : Value × Nat) => cs.setIfInBounds (off + x.2) x.1) cs).getD j undef = if off + k ≤ j ∧ j < off + k + l.length then l.getD (j - (off + k)) undef else cs.getD j undef
  | [], k, cs, _ => ⟨rfl, fun j => by simp; omega⟩
  | v :: l, k, cs, h => by
    simp only [List.length_cons] at h
    obtain ⟨h1, h2⟩ := foldl_set off l (k + 1) (cs.setIfInBounds (off + k) v) (by simp; omega)
    simp only [List.zipIdx_cons, List.foldl_cons]
    refine ⟨by rw [h1]; simp, fun j => ?_⟩
    rw [h2 j]
    by_cases hj : j = off + k
    · subst hj
      rw [if_neg (by omega), if_pos (by simp)]
      have : off + k < cs.size := by omega
      simp [Array.getD_eq_getD_getElem?, this]
    · by_cases hj2 : off + (k + 1) ≤ j ∧ j < off + (k + 1) + l.length
      · rw [if_pos hj2, if_pos (by simp only [List.length_cons]; omega)]
        rw [show j - (off + k) = (j - (off + (k + 1))) + 1 by omega]
        simp
      · rw [if_neg hj2, if_neg (by simp only [List.length_cons]; omega)]
        simp only [Array.getD_eq_getD_getElem?]
        rw [Array.getElem?_setIfInBounds_ne (by omega)]

/-- Cells and what they stand for. -/
structure CellsRel (ν : Nat → Nat) (w : World) (S : Nat → Prop) (μ : Nat → Value) (H : Heap) (cs : List AV) (us : Array Value) : Prop where
  size : us.size = cs.length
  one : ∀ c ∈ cs, c.one = true
  rel : ∀ j c, cs[j]? = some c → RelV ν w S μ H c (us.getD j undef)

theorem fillA_rel (place : Nat → Option (Nat × Nat)) : ∀ (parts : List (Nat × Value)) (parts' : List (Nat × Nat × AV)) (cs res : List AV) (us : Array Value), CellsRel N.fn w S μ H cs us →
    All2 (fun (x : Nat × Value) (y : Nat × Nat × AV) => place x.1 = some (y.1, y.2.1) ∧ RelV N.fn w S μ H y.2.2 x.2) parts parts' → fillA cs parts' = some res →
    ∃ us', Go.Instr.fill place us parts = some us' ∧ CellsRel N.fn w S μ H res us'
  | [], [], cs, res, us, h, _, hv => by
    simp only [fillA, Option.some.injEq] at hv; subst hv
    exact ⟨us, rfl, h⟩
  | (i, v) :: parts, (off, sz, v') :: parts', cs, res, us, h, hf, hv => by
    obtain ⟨⟨hp, hrel⟩, hf⟩ := hf
    simp only [fillA, Option.ite_none_right_eq_some] at hv
    obtain ⟨⟨hok, hsz, hle⟩, hv⟩ := hv
    obtain ⟨c1, c2, c3⟩ := hrel.cells hok
    have hsize : v.cells.size = sz := by rw [c1, hsz]
    have e : (decide (v.cells.size ≠ sz) || decide (off + v.cells.size > us.size)) = false := by
      rw [Bool.or_eq_false_iff]
      exact ⟨decide_eq_false (by omega), decide_eq_false (by rw [hsize, h.size]; omega)⟩
    have hfold : (v.cells.zipIdx.foldl (fun cs (x : Value × Nat) => cs.setIfInBounds (off + x.2) x.1) us) = (v.cells.toList.zipIdx 0).foldl (fun cs (x : Value × Nat) => cs.setIfInBounds (off + x.2) x.1) us := by
      rw [← Array.foldl_toList, Array.toList_zipIdx]
    obtain ⟨f1, f2⟩ := foldl_set off v.cells.toList 0 us (by simp only [Array.length_toList]; rw [hsize, h.size]; omega)
    generalize hmid : (v.cells.toList.zipIdx 0).foldl (fun cs (x : Value × Nat) => cs.setIfInBounds (off + x.2) x.1) us = mid at hfold f1 f2
    have hmidrel : CellsRel N.fn w S μ H (cs.take off ++ v'.cells ++ cs.drop (off + sz)) mid := by
      refine ⟨by rw [f1, h.size]; simp only [List.length_append, List.length_take, List.length_drop]; omega, fun c hc => ?_, fun j c hc => ?_⟩
      · simp only [List.mem_append] at hc
        rcases hc with (hc | hc) | hc
        · exact h.one c (List.mem_of_mem_take hc)
        · exact c2 c hc
        · exact h.one c (List.mem_of_mem_drop hc)
      · rw [f2 j]
        simp only [Nat.add_zero, Array.length_toList, hsize]
        have lt : (cs.take off).length = off := by simp; omega
        by_cases hj1 : j < off
        · rw [if_neg (by omega)]
          rw [List.append_assoc, List.getElem?_append_left (by omega)] at hc
          exact h.rel j c (take_get hc).2
        · by_cases hj2 : j < off + sz
          · rw [if_pos (by omega)]
            rw [List.append_assoc, List.getElem?_append_right (by omega), lt, List.getElem?_append_left (by omega)] at hc
            have := c3 _ c hc
            simpa [Array.getD_eq_getD_getElem?, List.getD] using this
          · rw [if_neg (by omega)]
            rw [List.append_assoc, List.getElem?_append_right (by omega), lt, List.getElem?_append_right (by omega), List.getElem?_drop] at hc
            rw [show off + sz + (j - off - v'.cells.length) = j by omega] at hc
            exact h.rel j c hc
    obtain ⟨us', u1, u2⟩ := fillA_rel place parts parts' _ res mid hmidrel hf hv
    refine ⟨us', ?_, u2⟩
    simp only [Go.Instr.fill, hp, e, Bool.false_eq_true, if_false]
    rw [hfold]
    exact u1
  | [], _ :: _, _, _, _, _, hf, _ => hf.elim
  | _ :: _, [], _, _, _, _, hf, _ => hf.elim

theorem consts_cells {vs : List Value} {ps : List PV} (h : consts vs ps = true) : CellsRel N.fn w S μ H (ps.map .p) vs.toArray := by
  obtain ⟨h1, h2, h3⟩ := consts_rel (ν := N.fn) (w := w) (S := S) h
  refine ⟨by simp [h1], fun c hc => ?_, fun j c hc => ?_⟩
  · obtain ⟨x, hx, rfl⟩ := List.mem_map.1 hc
    exact h2 x hx
  · rw [List.getElem?_map] at hc
    obtain ⟨x, hx, rfl⟩ := Option.map_eq_some_iff.1 hc
    exact .p _ _ (by simpa using h3 j x hx)

/-- The zero value of a type, as cells. -/
def zeroT (P : Program) (T : TypeId) (zero : List PV) : Bool :=
  match (P.info? T).bind (·.zero) with
  | some z => consts z.cells.toList zero
  | none => false
theorem zeroT_spec {T zero} (h : zeroT P T zero = true) : ∃ z, (∀ w, (Go.zeroValue T).run P w = .ok z w) ∧ CellsRel N.fn w S μ H (zero.map .p) z.cells := by
  unfold zeroT at h
  split at h
  · rename_i z hz
    obtain ⟨i, hi, hz⟩ := Option.bind_eq_some_iff.1 hz
    exact ⟨z, fun w => by simp [Go.zeroValue, Go.typeInfo, hi, hz], by have := consts_cells (N := N) (w := w) (S := S) (μ := μ) (H := H) h; simpa using this⟩
  · cases h

/-- Where a struct's fields lie, an array's elements. -/
def placeT (P : Program) (T : TypeId) (i : Nat) : Option (Nat × Nat) :=
  match P.underlying T with
  | some (.struct fs) => (fs[i]?).bind fun f => ((P.info? f.type).map (·.size)).map fun s => (f.offset, s)
  | some (.array _ e) => ((P.info? e).map (·.size)).map fun s => (i * s, s)
  | _ => none
def fieldsKnown (P : Program) (T : TypeId) : Bool :=
  match P.underlying T with
  | some (.struct fs) => fs.all fun f => (P.info? f.type).isSome
  | some (.array _ e) => (P.info? e).isSome
  | _ => false

theorem run_places (fs : Array Go.Field) (h : fs.all (fun f => (P.info? f.type).isSome) = true) :
    ∃ ps : Array (Nat × Nat), (fs.mapM fun (f : Go.Field) => (do pure (f.offset, ← Go.sizeOf f.type) : Sem (Nat × Nat))).run P w = .ok ps w ∧ ∀ i : Nat, ps[i]? = (fs[i]?).bind fun (f : Go.Field) => ((P.info? f.type).map (·.size)).map fun s => (f.offset, s) := by
  have key : ∀ (l : List Go.Field), (∀ f ∈ l, (P.info? f.type).isSome = true) →
      (l.mapM fun (f : Go.Field) => (do pure (f.offset, ← Go.sizeOf f.type) : Sem (Nat × Nat))).run P w = .ok (l.map fun f => (f.offset, ((P.info? f.type).map (·.size)).getD 0)) w := by
    intro l
    induction l with
    | nil => intro _; simp
    | cons f l ih =>
      intro hl
      obtain ⟨i, hi⟩ := Option.isSome_iff_exists.1 (hl f (by simp))
      rw [List.mapM_cons]
      simp only [Go.Sem.run_bind, run_sizeOf (P := P) (w := w) (sz := i.size) (T := f.type) (by rw [hi]; rfl), Go.Result.andThen_ok, Go.Sem.run_pure, ih (fun x hx => hl x (by simp [hx]))]
      simp [hi]
  refine ⟨(fs.toList.map fun f => (f.offset, ((P.info? f.type).map (·.size)).getD 0)).toArray, ?_, fun i => ?_⟩
  · have := key fs.toList (fun f hf => by simpa using Array.all_eq_true'.1 h f (by simpa using hf))
    rw [← Array.toArray_toList (xs := fs), List.mapM_toArray] 
    simp only [Go.Sem.run_map, this]
    simp
  · simp only [List.getElem?_toArray, List.getElem?_map, Array.getElem?_toList]
    cases hf : fs[i]? with
    | none => rfl
    | some f =>
      have : (P.info? f.type).isSome = true := by simpa using Array.all_eq_true'.1 h f (Array.mem_of_getElem? hf)
      obtain ⟨j, hj⟩ := Option.isSome_iff_exists.1 this
      simp [hj]

theorem q_build {T : TypeId} {zero : List PV} {parts : List (Nat × Value)} {parts' : List (Nat × Nat × AV)} {res : List AV} (hz : zeroT P T zero = true) (hk : fieldsKnown P T = true)
    (hp : All2 (fun (x : Nat × Value) (y : Nat × Nat × AV) => placeT P T x.1 = some (y.1, y.2.1) ∧ RelV N.fn w S μ H y.2.2 x.2) parts parts') (hv : fillA (zero.map .p) parts' = some res) :
    ∃ u, (Go.Instr.build T parts.toArray).run P w = .ok u w ∧ RelV N.fn w S μ H (mkAgg res) u := by
  obtain ⟨z, z1, z2⟩ := zeroT_spec (N := N) (w := w) (S := S) (μ := μ) (H := H) hz
  unfold fieldsKnown at hk
  split at hk
  · rename_i fs hfs
    obtain ⟨ps, p1, p2⟩ := run_places (w := w) fs hk
    have e : ∀ i : Nat, ps[i]? = placeT P T i := fun i => by rw [p2 i]; simp [placeT, hfs]
    obtain ⟨us', f1, f2⟩ := fillA_rel (fun i => ps[i]?) parts parts' _ res z.cells z2 (All2.imp (fun x y h => ⟨by rw [e]; exact h.1, h.2⟩) hp) hv
    refine ⟨.agg us', ?_, RelV.mkAgg f2.size f2.one f2.rel⟩
    simp only [Go.Instr.build, Go.Sem.run_bind, z1, Go.Result.andThen_ok, Go.run_underlying hfs, p1, f1, Go.Sem.run_pure]
  · rename_i n e hfs
    obtain ⟨i, hi⟩ := Option.isSome_iff_exists.1 hk
    obtain ⟨us', f1, f2⟩ := fillA_rel (fun k => some (k * i.size, i.size)) parts parts' _ res z.cells z2 (All2.imp (fun x y h => ⟨by rw [← h.1]; simp [placeT, hfs, hi], h.2⟩) hp) hv
    refine ⟨.agg us', ?_, RelV.mkAgg f2.size f2.one f2.rel⟩
    simp [Go.Instr.build, z1, Go.run_underlying hfs, run_sizeOf (P := P) (w := w) (T := e) (sz := i.size) (by rw [hi]; rfl), f1]
  · cases hk

/-! Slices that are written out -/
theorem pures_cells {cs : List AV} {ps : List PV} {us : Array Value} (hp : pures cs = some ps) (h : CellsRel N.fn w S μ H cs us) :
    us.size = ps.length ∧ (∀ c ∈ ps, c.one = true) ∧ ∀ j c, ps[j]? = some c → RelP N.fn w S c (us.getD j undef) := by
  have e := pures_spec hp
  subst e
  refine ⟨by simpa using h.size, fun c hc => h.one (.p c) (List.mem_map_of_mem hc), fun j c hc => ?_⟩
  exact (h.rel j (.p c) (by rw [List.getElem?_map, hc]; rfl)).p_inv

theorem chunks_spec {sz : Nat} {ag : Bool} (hag : ag = false → sz = 1) : ∀ (n : Nat) (ps : List PV), ps.length = n * sz → (∀ c ∈ ps, c.one = true) →
    (chunks sz ag n ps).length = n ∧ ∀ i x, (chunks sz ag n ps)[i]? = some x → x.cells.length = sz ∧ (∀ c ∈ x.cells, c.one = true) ∧ ∀ j c, x.cells[j]? = some c → ps[i * sz + j]? = some c
  | 0, ps, _, _ => ⟨rfl, by simp [chunks]⟩
  | n + 1, ps, h, h1 => by
    have hl : ps.length = n * sz + sz := by rw [h, Nat.add_mul, Nat.one_mul]
    obtain ⟨i1, i2⟩ := chunks_spec hag n (ps.drop sz) (by simp; omega) (fun c hc => h1 c (List.mem_of_mem_drop hc))
    refine ⟨by simp [chunks, i1], fun i x hx => ?_⟩
    cases i with
    | zero =>
      simp only [chunks, List.getElem?_cons_zero, Option.some.injEq] at hx
      cases ag with
      | true =>
        simp only [if_true] at hx
        subst hx
        refine ⟨by simp [PV.cells]; omega, fun c hc => h1 c (List.mem_of_mem_take hc), fun j c hc => ?_⟩
        simp only [PV.cells] at hc
        simpa using (take_get hc).2
      | false =>
        have := hag rfl
        subst this
        simp only [Bool.false_eq_true, if_false] at hx
        match ps, hl, h1 with
        | c0 :: ps, _, h1 =>
          simp only [List.headD_cons] at hx
          subst hx
          have ho := h1 c0 (by simp)
          rw [PV.cells_one ho]
          refine ⟨rfl, by simpa using ho, fun j c hc => ?_⟩
          cases j with
          | zero => simpa using hc
          | succ j => simp at hc
        | [], hl, _ => simp at hl
    | succ i =>
      simp only [chunks, List.getElem?_cons_succ] at hx
      obtain ⟨k1, k2, k3⟩ := i2 i x hx
      refine ⟨k1, k2, fun j c hc => ?_⟩
      have := k3 j c hc
      rw [List.getElem?_drop] at this
      rwa [show (i + 1) * sz + j = sz + (i * sz + j) by rw [Nat.add_mul, Nat.one_mul]; omega]

/-- A block of cells that are trees, as a slice. -/
theorem RelP.ofBlock {ν : Nat → Nat} {w' : World} {S' : Nat → Prop} {sz n cap g : Nat} {e : TypeId} {ag : Bool} {ps : List PV} {us : Array Value} {fr : Nat × Nat} {k : SK} (hag : ag = false → sz = 1) (hlen : ps.length = n * sz) (hk : k ≠ .nil)
    (hcap : n ≤ cap) (hm : cap ≤ maxLen) (ht : k = .tight → cap = n) (hS : S' g) (hw : w'.heap[g]? = some (.cells us e fr)) (hu : n * sz ≤ us.size) (h1 : ∀ c ∈ ps, c.one = true)
    (h2 : ∀ (j : Nat) c, ps[j]? = some c → RelP ν w' S' c (us.getD j undef)) : RelP ν w' S' (.sl k sz (chunks sz ag n ps)) (.slice (some ⟨g, 0, none⟩) n cap) := by
  obtain ⟨c1, c2⟩ := chunks_spec (ag := ag) hag n ps hlen h1
  have key : RelP ν w' S' (.sl k sz (chunks sz ag n ps)) (.slice (some ⟨g, 0, none⟩) (chunks sz ag n ps).length cap) := by
    refine .sl _ _ _ _ _ (fun i j => us.getD (i * sz + j) undef) (by omega) hm (fun x hx => ?_) (fun h => absurd h hk) (fun h => ⟨rfl, fun h => by rw [ht h, c1]⟩) (fun _ => ⟨_, rfl, hS⟩) (fun ad had i x j c hx hc => ?_) (fun i x j c hx hc => ?_)
    · obtain ⟨i, hi⟩ := List.getElem?_of_mem hx
      exact ⟨(c2 i x hi).1, (c2 i x hi).2.1⟩
    · cases had
      have h3 := (c2 i x hx).2.2 j c hc
      have hlt : i * sz + j < us.size := by
        have := (List.getElem?_eq_some_iff.1 h3).1
        omega
      rw [Addr.add_lit, Go.cell_of_row w' g _ us e fr hw]
      simp [hlt]
    · exact h2 _ _ ((c2 i x hx).2.2 j c hc)
  rwa [c1] at key

def bsZero (P : Program) (e : TypeId) (m : Nat) (zero : List PV) : Bool :=
  match (P.info? e).bind (·.zero) with
  | some z => consts (if m = 0 then #[] else (Array.range m).map fun i => z.cells[i % z.cells.size]!).toList zero
  | none => false

theorem q_bslice {T e : TypeId} {sz n : Nat} {ag : Bool} {zero : List PV} {parts : List (Nat × Value)} {parts' : List (Nat × Nat × AV)} {v : AV} (hS : ∀ g, S g → g < w.heap.size) (hT : slT P T = some e) (hs : (P.info? e).map (·.size) = some sz)
    (h0sz : 0 < sz) (hag : ag = false → sz = 1) (hn : n * sz ≤ 2 ^ 24) (hz : bsZero P e (n * sz) zero = true)
    (hp : All2 (fun (x : Nat × Value) (y : Nat × Nat × AV) => (x.1 * sz, sz) = (y.1, y.2.1) ∧ RelV N.fn w S μ H y.2.2 x.2) parts parts') (hv : bsliceA sz ag n (fillA (zero.map .p) parts') = some v) :
    ∃ us, (Go.Instr.buildSlice T n parts.toArray).run P w = .ok (.slice (some ⟨w.heap.size, 0, none⟩) n n) (w.alloc (.cells us e)) ∧
      RelV N.fn (w.alloc (.cells us e)) (fun g => S g ∨ g = w.heap.size) μ H v (.slice (some ⟨w.heap.size, 0, none⟩) n n) := by
  unfold bsliceA at hv
  obtain ⟨cs, hf, hv⟩ := Option.bind_eq_some_iff.1 hv
  obtain ⟨ps, hps, hv⟩ := Option.bind_eq_some_iff.1 hv
  simp only [Option.ite_none_right_eq_some, Option.some.injEq] at hv
  obtain ⟨hlen, rfl⟩ := hv
  unfold bsZero at hz
  split at hz
  rotate_left
  · cases hz
  rename_i z hzz
  obtain ⟨i, hi, hzi⟩ := Option.bind_eq_some_iff.1 hzz
  have hzc := consts_cells (N := N) (w := w) (S := S) (μ := μ) (H := H) hz
  rw [Array.toArray_toList] at hzc
  obtain ⟨us, f1, f2⟩ := fillA_rel (fun k => some (k * sz, sz)) parts parts' _ cs _ hzc (All2.imp (fun x y h => ⟨by rw [← h.1], h.2⟩) hp) hf
  obtain ⟨p1, p2, p3⟩ := pures_cells hps f2
  refine ⟨us, ?_, .p _ _ (RelP.ofBlock hag hlen (by simp) (Nat.le_refl _) ?_ (fun _ => rfl) (.inr rfl) (Go.heap_alloc_new w _) (by omega) p2 (fun j c hc => (p3 j c hc).keep (fun _ h => .inl h) (fun g hg => Go.RowKit.Below.heap_alloc w _ g (hS g hg))))⟩
  · have hn' : ¬ (n * sz > 2 ^ 24) := by omega
    simp only [Go.Instr.buildSlice, Go.Sem.run_bind, Go.run_underlying (slT_spec hT), Go.Result.andThen_ok, run_sizeOf hs, if_neg hn']
    by_cases h0 : n * sz = 0
    · rw [if_pos h0] at f1
      simp only [h0, if_true]
      rw [Go.Sem.run_bind]
      simp only [Go.Sem.run_pure, Go.Result.andThen_ok]
      have e0 : (Array.range 0).map (fun x => (#[] : Array Value)[x % (#[] : Array Value).size]!) = #[] := by simp
      rw [e0, f1]
      simp [Go.newRow]
    · rw [if_neg h0] at f1
      simp only [h0, if_false, Go.Sem.run_bind, Go.zeroValue, Go.typeInfo, hi, Go.Sem.run_pure, Go.Result.andThen_ok, hzi, Go.run_program]
      rw [f1]
      simp [Go.newRow]
  · have : n * 1 ≤ n * sz := Nat.mul_le_mul_left _ h0sz
    simp only [maxLen]
    omega

/-! min, max, function values, bytes as a string -/
theorem q_minmax {mx : Bool} {as : List Value} {as' : List AV} {v : AV} {t0 : TypeId} {ts : Array TypeId} (ha : All2 (fun x y => RelV N.fn w S μ H y x) as as') (hv : minmax mx as' = some v) :
    ∃ u, (if mx then Go.Builtin.max_ ts t0 as.toArray else Go.Builtin.min_ ts t0 as.toArray).run P w = .ok u w ∧ RelV N.fn w S μ H v u := by
  unfold minmax at hv
  split at hv
  · match as, ha with
    | [x, y], ⟨h1, h2, _⟩ =>
      rw [RelV.int_inv h1, RelV.int_inv h2]
      simp only [Option.some.injEq] at hv; subst hv
      cases mx
      · exact ⟨_, by simp [Go.Builtin.min_, Go.Builtin.min2], .p _ _ (.int _ _)⟩
      · refine ⟨_, ?_, .p _ _ (.int _ _)⟩
        simp [Go.Builtin.max_, Go.Builtin.max2]
  · match as, ha with
    | [x, y, z], ⟨h1, h2, h3, _⟩ =>
      rw [RelV.int_inv h1, RelV.int_inv h2, RelV.int_inv h3]
      simp only [Option.some.injEq] at hv; subst hv
      cases mx
      · exact ⟨_, by simp [Go.Builtin.min_, Go.Builtin.min2], .p _ _ (.int _ _)⟩
      · refine ⟨_, ?_, .p _ _ (.int _ _)⟩
        simp [Go.Builtin.max_, Go.Builtin.max2]
  · cases hv

theorem q_clos {f : Nat} {cs : List AV} {us : List Value} (ha : All2 (fun x y => RelV N.fn w S μ H y x) us cs) (h1 : ∀ c ∈ cs, c.one = true) : RelV N.fn w S μ H (closA f cs) (.func (.func (N.fn f)) #[] us.toArray) := by
  have key : ∀ {us : List Value} {cs : List AV}, All2 (fun x y => RelV N.fn w S μ H y x) us cs → us.length = cs.length ∧ ∀ j c, cs[j]? = some c → RelV N.fn w S μ H c (us.getD j undef) := by
    intro us
    induction us with
    | nil => intro cs h; cases cs with
      | nil => exact ⟨rfl, by simp⟩
      | cons => exact h.elim
    | cons u us ih => intro cs h; cases cs with
      | nil => exact h.elim
      | cons c cs =>
        obtain ⟨k1, k2⟩ := ih h.2
        refine ⟨by simp [k1], fun j c' hc => ?_⟩
        cases j with
        | zero => simp only [List.getElem?_cons_zero, Option.some.injEq] at hc; subst hc; simpa using h.1
        | succ j => simpa using k2 j c' (by simpa using hc)
  obtain ⟨k1, k2⟩ := key ha
  unfold closA
  split
  · rename_i ps hp
    have e := pures_spec hp
    subst e
    refine .p _ _ (.clo _ _ _ (by simpa using k1) (fun c hc => h1 (.p c) (List.mem_map_of_mem hc)) (fun j c hc => ?_))
    have := k2 j (.p c) (by rw [List.getElem?_map, hc]; rfl)
    simpa using this.p_inv
  · exact .clo _ _ _ (by simpa using k1) h1 (fun j c hc => by simpa using k2 j c hc)


theorem bytesIn_spec : ∀ {xs : List PV} {s}, bytesIn xs = some s → ∃ ns : List Int, xs = ns.map (PV.int .u8) ∧ s = ns.map fun n => UInt8.ofNat n.toNat
  | [], s, h => by simp only [bytesIn, Option.some.injEq] at h; subst h; exact ⟨[], rfl, rfl⟩
  | x :: xs, s, h => by
    unfold bytesIn at h
    split at h
    · rename_i e; cases e
    · rename_i n r e
      cases e
      obtain ⟨s', h1, rfl⟩ := Option.map_eq_some_iff.1 h
      obtain ⟨ns, h2, h3⟩ := bytesIn_spec h1
      exact ⟨n :: ns, by rw [h2]; rfl, by rw [h3]; rfl⟩
    · cases h

theorem foldl_bytes : ∀ (ns : List Int) (l : List UInt8), ns.foldl (fun r n => r.push (UInt8.ofNat n.toNat)) (ByteArray.mk l.toArray) = ⟨(l ++ ns.map fun n => UInt8.ofNat n.toNat).toArray⟩
  | [], l => by simp
  | n :: ns, l => by
    have e : (ByteArray.mk l.toArray).push (UInt8.ofNat n.toNat) = ⟨(l ++ [UInt8.ofNat n.toNat]).toArray⟩ := by
      apply ByteArray.ext
      simp [ByteArray.push]
    rw [List.foldl_cons, e, foldl_bytes ns]
    simp

theorem run_bytes_of {s e d : TypeId} {x : Option Addr} {n cap : Nat} {ns : List Int} (hs : slT P s = some e) (he : intT P e = some .u8) (hd : strT P d = true) (hn : ns.length = n)
    (hx : ∀ ad, x = some ad → ∀ j v, ns[j]? = some v → w.cell? (ad.add j) = some (.int .u8 v)) (h0 : x = none → n = 0) :
    (Go.convert s d (.slice x n cap)).run P w = .ok (.string ⟨(ns.map fun n => UInt8.ofNat n.toNat).toArray⟩) w := by
  rw [Go.run_convert_bytes_string w s d e x n cap (slT_spec hs) (intT_spec he) (strT_spec hd)]
  cases x with
  | none =>
    have := h0 rfl
    subst this
    have : ns = [] := List.eq_nil_of_length_eq_zero hn
    subst this
    simp [Go.Conv.bytesToString]
    rfl
  | some ad =>
    have hl := Go.run_loadCells_list (P := P) w ad (ns.map (Value.int .u8)) (fun j v hj => by
      rw [List.getElem?_map] at hj
      obtain ⟨m, hm, rfl⟩ := Option.map_eq_some_iff.1 hj
      exact hx ad rfl j m hm)
    rw [List.length_map, hn] at hl
    rw [Go.run_bytesToString w ad n cap ns hl]
    have := foldl_bytes ns []
    simp only [List.nil_append] at this
    rw [← this]
    rfl

theorem q_strOf {s e d : TypeId} {x : Value} {x' v : AV} (hr : Rel N.fn w S μ H) (hs : slT P s = some e) (he : intT P e = some .u8) (hd : strT P d = true) (hx : RelV N.fn w S μ H x' x) (hv : strOfA H x' = some v) :
    ∃ u, (Go.convert s d x).run P w = .ok u w ∧ RelV N.fn w S μ H v u := by
  unfold strOfA at hv
  split at hv
  · rename_i k sz xs
    simp only [Option.ite_none_right_eq_some] at hv
    obtain ⟨rfl, hv⟩ := hv
    obtain ⟨t, ht, rfl⟩ := Option.map_eq_some_iff.1 hv
    obtain ⟨ns, rfl, rfl⟩ := bytesIn_spec ht
    have hx := hx.p_inv
    generalize hxs : ns.map (PV.int .u8) = xs at hx
    cases hx with
    | sl _ _ _ a cap us h1 h2 h3 h4 h5 h6 h7 h8 =>
    subst hxs
    refine ⟨_, run_bytes_of hs he hd (by simp) (fun ad had j m hj => ?_) (fun ha => ?_), .p _ _ (.str _)⟩
    · have g1 : (ns.map (PV.int .u8))[j]? = some (.int .u8 m) := by rw [List.getElem?_map, hj]; rfl
      have g2 := h7 ad had j _ 0 _ g1 rfl
      rw [(h8 j _ 0 _ g1 rfl).int_inv] at g2
      simpa using g2
    · by_cases hne : ns = []
      · subst hne; rfl
      · obtain ⟨ad, e1, _⟩ := h6 (by simpa using hne)
        rw [ha] at e1; cases e1
  · rename_i id n
    obtain ⟨⟨sz, xs⟩, hb, hv⟩ := Option.bind_eq_some_iff.1 hv
    simp only [Option.ite_none_right_eq_some] at hv
    obtain ⟨rfl, hv⟩ := hv
    obtain ⟨t, ht, rfl⟩ := Option.map_eq_some_iff.1 hv
    obtain ⟨ns, rfl, rfl⟩ := bytesIn_spec ht
    rw [hx.own_inv hb]
    obtain ⟨f, h1, h2⟩ := rowOf_spec hb
    obtain ⟨_, _, us, h3, h4, h5, _⟩ := hr.blk id _ h1
    have h3' := h3
    obtain ⟨hl, h3⟩ := h3
    simp only [List.length_map] at h2 h3 hl h3'
    rcases h3 with ⟨h6, a0, h7⟩ | ⟨g, cap, cur, e', h6, _⟩
    · rw [h7]
      have : ns = [] := List.eq_nil_of_length_eq_zero h6
      subst this
      exact ⟨_, run_bytes_of (ns := []) hs he hd rfl (by simp) (fun _ => rfl), .p _ _ (.str _)⟩
    · rw [h6]
      refine ⟨_, run_bytes_of hs he hd rfl (fun ad had j m hj => ?_) (by simp), .p _ _ (.str _)⟩
      cases had
      have hlt : j < ns.length := (List.getElem?_eq_some_iff.1 hj).1
      rw [Addr.add_lit, Nat.zero_add, row_cell h3' h6 (by omega)]
      have := h5 j (.int .u8 m) 0 _ (by rw [List.getElem?_map, hj]; rfl) rfl
      simpa using this.int_inv
  · cases hv
end
end Ab
