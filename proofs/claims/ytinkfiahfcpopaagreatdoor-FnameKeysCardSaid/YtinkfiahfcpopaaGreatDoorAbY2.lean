import Derived.Test.YtinkfiahfcpopaaGreatDoorAbX8
namespace Ab
open Go (IntKind BinOp UnOp World Value Addr Obj undef maxLen Program TypeId Oper Op Operand Act Sem Next Result execOp Builtin TypeDesc MapEntry)
section
variable {N : Names} {P : Program} {w w' : World} {S S' : Nat → Prop} {μ μ' : Nat → Value} {H H' : Heap}
theorem MapRel.keep {ν : Nat → Nat} (hS : ∀ g, S g → S' g) (hw : ∀ g, S g → w'.heap[g]? = w.heap[g]?) (hm : Moves μ H μ' H') : ∀ {es : List (PV × AV)} {l : List MapEntry}, MapRel ν w S μ H es l → MapRel ν w' S' μ' H' es l
  | [], [], _ => trivial
  | (_, _) :: es, e :: l, h => ⟨h.1.keep hS hw, h.2.1, h.2.2.1.keep hS hw hm, MapRel.keep hS hw hm h.2.2.2⟩
  | [], _ :: _, h => h.elim
  | (_, _) :: _, [], h => h.elim
theorem key_eq {ν : Nat → Nat} {k k' : PV} {u u' : Value} (hr : RelP ν w S k u) (hr' : RelP ν w S k' u') (he : keyEq k k' = some true) : u' = u := by
  cases k <;> cases k' <;> simp only [keyEq, Option.ite_none_right_eq_some, Option.some.injEq, reduceCtorEq] at he
  · obtain ⟨rfl, hb⟩ := he
    have hb := eq_of_beq hb
    subst hb
    cases hr; cases hr'; rfl
  · have hb := eq_of_beq he
    subst hb
    cases hr; cases hr'; rfl
  · have hb := eq_of_beq he
    subst hb
    cases hr; cases hr'; rfl
theorem put_now {ν : Nat → Nat} {kd : KD} {k : PV} {u : Value} {v : AV} {x : Value} (hk : keyIs kd k = true) (hr : RelP ν w S k u) (hok : v.ok = true) (hx : RelV ν w S μ H v x) : ∀ {es : List (PV × AV)} {l : List MapEntry} (i : Nat) {es' : List (PV × AV)}, MapRel ν w S μ H es l → mput k v es = some es' →
    (Go.Instr.findNow kd.desc u l i = some none ∧ ∀ e : MapEntry, e.key = u → e.val = x → MapRel ν w S μ H es' (l ++ [e])) ∨
    ∃ j e, Go.Instr.findNow kd.desc u l i = some (some (i + j, e.val)) ∧ l[j]? = some e ∧ e.key = u ∧ ∀ e' : MapEntry, e'.key = u → e'.val = x → MapRel ν w S μ H es' (l.set j e')
  | [], [], i, es', _, h => by
    simp only [mput, Option.some.injEq] at h
    subst h
    exact .inl ⟨rfl, fun e h1 h2 => ⟨by rw [h1]; exact hr, hok, by rw [h2]; exact hx, trivial⟩⟩
  | (k', v') :: es, e :: l, i, es', hm, h => by
    simp only [mput] at h
    split at h
    · rename_i he
      simp only [Option.some.injEq] at h
      subst h
      have hs := same_now hk hr hm.1 he
      exact .inr ⟨0, e, by simp [Go.Instr.findNow, hs], rfl, key_eq hr hm.1 he, fun e' h1 h2 => ⟨by rw [h1]; exact hr, hok, by rw [h2]; exact hx, hm.2.2.2⟩⟩
    · rename_i he
      obtain ⟨es2, h2, rfl⟩ := Option.map_eq_some_iff.1 h
      have hs := same_now hk hr hm.1 he
      rcases put_now hk hr hok hx (i + 1) hm.2.2.2 h2 with ⟨g1, g2⟩ | ⟨j, e', g1, g2, g3, g4⟩
      · exact .inl ⟨by simpa [Go.Instr.findNow, hs] using g1, fun e1 a b => ⟨hm.1, hm.2.1, hm.2.2.1, g2 e1 a b⟩⟩
      · exact .inr ⟨j + 1, e', by simp [Go.Instr.findNow, hs, g1]; omega, by simpa using g2, g3, fun e1 a b => ⟨hm.1, hm.2.1, hm.2.2.1, g4 e1 a b⟩⟩
    · cases h
  | [], _ :: _, _, _, hm, _ => hm.elim
  | (_, _) :: _, [], _, _, hm, _ => hm.elim
theorem drop_now {ν : Nat → Nat} {kd : KD} {k : PV} {u : Value} (hk : keyIs kd k = true) (hr : RelP ν w S k u) : ∀ {es : List (PV × AV)} {l : List MapEntry} (i : Nat) {es' : List (PV × AV)}, MapRel ν w S μ H es l → mdrop k es = some es' →
    (Go.Instr.findNow kd.desc u l i = some none ∧ es' = es) ∨
    ∃ j e, Go.Instr.findNow kd.desc u l i = some (some (i + j, e.val)) ∧ l[j]? = some e ∧ MapRel ν w S μ H es' (l.eraseIdx j)
  | [], [], i, es', _, h => by
    simp only [mdrop, Option.some.injEq] at h
    subst h
    exact .inl ⟨rfl, rfl⟩
  | (k', v') :: es, e :: l, i, es', hm, h => by
    simp only [mdrop] at h
    split at h
    · rename_i he
      simp only [Option.some.injEq] at h
      subst h
      have hs := same_now hk hr hm.1 he
      exact .inr ⟨0, e, by simp [Go.Instr.findNow, hs], rfl, hm.2.2.2⟩
    · rename_i he
      obtain ⟨es2, h2, rfl⟩ := Option.map_eq_some_iff.1 h
      have hs := same_now hk hr hm.1 he
      rcases drop_now hk hr (i + 1) hm.2.2.2 h2 with ⟨g1, rfl⟩ | ⟨j, e', g1, g2, g3⟩
      · exact .inl ⟨by simpa [Go.Instr.findNow, hs] using g1, rfl⟩
      · exact .inr ⟨j + 1, e', by simp [Go.Instr.findNow, hs, g1]; omega, by simpa using g2, hm.1, hm.2.1, hm.2.2.1, g3⟩
    · cases h
  | [], _ :: _, _, _, hm, _ => hm.elim
  | (_, _) :: _, [], _, _, hm, _ => hm.elim
theorem MapRel.get_all {ν : Nat → Nat} {es : List (PV × AV)} {arr : Array MapEntry} (h : MapRel ν w S μ H es arr.toList) : arr.size = es.length ∧ ∀ (j : Nat) k v, es[j]? = some (k, v) → ∃ e, arr[j]? = some e ∧ RelP ν w S k e.key ∧ v.ok = true ∧ RelV ν w S μ H v e.val :=
  ⟨by simpa using h.len, fun j k v hj => by simpa using h.get j k v hj⟩
theorem x_mkmap (hr : Rel N.fn w S μ H) {T : TypeId} : ∃ u w' μ', (Go.Instr.makeMap T none).run P w = .ok u w' ∧ Step N.fn w S μ H w' S μ' (H ++ [.box (mapCells [])]) ∧ RelV N.fn w' S μ' (H ++ [.box (mapCells [])]) (.mp H.length) u := by
  refine ⟨.map (some w.heap.size), w.alloc (.map #[] 0), upd μ H.length (.pointer (some ⟨w.heap.size, 0, none⟩)), ?_, Step.push hr (Grows.alloc w _) ?_ ?_, ?_⟩
  · simp [Go.Instr.makeMap]
  · exact ⟨w.heap.size, upd_same, .inr (.inr ⟨[], #[], 0, rfl, Go.heap_alloc_new w _, rfl, fun j k v hj => by simp at hj⟩)⟩
  · intro g hg
    simp only [blkOf, Option.some.injEq] at hg
    omega
  · exact .mp _ w.heap.size _ (by simp) (fun _ _ => upd_same) rfl
theorem map_step (hr : Rel N.fn w S μ H) {id g : Nat} {es es' : List (PV × AV)} {arr arr' : Array MapEntry} {c c' : Nat} (hes : mapOf H id = some es) (hg : μ id = .pointer (some ⟨g, 0, none⟩)) (hh : w.heap[g]? = some (.map arr c))
    (hm : ∀ {w' : World} {μ' : Nat → Value} {H' : Heap}, (∀ k, S k → w'.heap[k]? = w.heap[k]?) → Moves μ H μ' H' → MapRel N.fn w' S μ' H' es' arr'.toList) :
    Step N.fn w S μ H { w with heap := w.heap.setIfInBounds g (.map arr' c') } S (upd μ id (.pointer (some ⟨g, 0, none⟩))) (H.set id (.box (mapCells es'))) := by
  have hb := mapOf_spec hes
  have hgl : g < w.heap.size := (Array.getElem?_eq_some_iff.1 hh).1
  have hmv : Moves μ H (upd μ id (.pointer (some ⟨g, 0, none⟩))) (H.set id (.box (mapCells es'))) := moves_set_box hb hg.symm
  have hk : ∀ k, k < w.heap.size → blkOf (μ id) ≠ some k → ({ w with heap := w.heap.setIfInBounds g (.map arr' c') } : World).heap[k]? = w.heap[k]? := by
    intro k _ hne
    rw [hg] at hne
    have : g ≠ k := fun e => hne (by rw [e]; rfl)
    simp [Array.getElem?_setIfInBounds_ne this]
  have keepS : ∀ k, S k → ({ w with heap := w.heap.setIfInBounds g (.map arr' c') } : World).heap[k]? = w.heap[k]? := fun k hk' =>
    hk k (hr.lt k hk') (fun e => hr.apart k (alive_iff.2 ⟨id, _, hb, .inl ⟨_, rfl⟩, e⟩) hk')
  obtain ⟨g1, g2⟩ := (hm keepS hmv).get_all
  refine Step.set hr hb (.inl ⟨_, rfl⟩) rfl rfl rfl (by simp) hk hmv ?_ (fun k h => .inl (by rw [hg]; exact h))
  exact ⟨g, upd_same, .inr (.inr ⟨es', arr', c', rfl, by simp [hgl], g1, g2⟩)⟩
theorem x_mset (hr : Rel N.fn w S μ H) {T k e : TypeId} {kd : KD} {x i y : Value} {x' i' y' : AV} {H' : Heap} (hT : mapT P T = some (k, e)) (hk : P.underlying k = some kd.desc) (hx : RelV N.fn w S μ H x' x) (hi : RelV N.fn w S μ H i' i) (hy : RelV N.fn w S μ H y' y)
    (hv : msetA H kd x' i' y' = some H') : ∃ w' μ', (Go.Instr.mapUpdate T x i y).run P w = .ok () w' ∧ Step N.fn w S μ H w' S μ' H' := by
  have hu := mapT_spec hT
  unfold msetA at hv
  split at hv
  rotate_left
  · cases hv
  rename_i id kv
  simp only [ifB_some, Option.bind_eq_some_iff, Option.map_eq_some_iff, Bool.and_eq_true] at hv
  obtain ⟨⟨hkd, hok⟩, es, hes, es', hp, rfl⟩ := hv
  have hkey := key_is hkd hi.p_inv
  obtain ⟨g, rfl, hl, hg⟩ := hx.mp_inv
  obtain ⟨g', arr, clock, e1, e2, e3⟩ := hr.map_of hes
  have hg := hg _ (mapOf_spec hes)
  rw [hg] at e1
  cases e1
  rcases put_now hkd hi.p_inv hok hy 0 e3 hp with ⟨h1, h2⟩ | ⟨j, en, h1, h2, h3, h4⟩
  · have hf := Go.MapKept.run_findKey (w := w) hk h1
    refine ⟨{ w with heap := w.heap.setIfInBounds g (.map (arr.push { key := i, val := y, born := clock }) (clock + 1)) }, _, ?_, map_step hr hes hg e2 fun hw hm => ?_⟩
    · simp [Go.Instr.mapUpdate, Go.run_underlying hu, Go.MapKept.run_getObj_map e2, Go.MapKept.run_checkKey hk hkey, hf, Go.MapKept.run_setObj_map _ e2]
    · rw [Array.toList_push]
      exact (h2 _ rfl rfl).keep (fun _ h => h) hw hm
  · have hf := Go.MapKept.run_findKey (w := w) hk h1
    have h2a : arr[j]? = some en := by simpa using h2
    have hks := Go.MapKept.run_keyThatStays (P := P) (w := w) hkey
    refine ⟨{ w with heap := w.heap.setIfInBounds g (.map (arr.modify j fun e => { e with key := i, val := y }) clock) }, _, ?_, map_step hr hes hg e2 fun hw hm => ?_⟩
    · simp [Go.Instr.mapUpdate, Go.run_underlying hu, Go.MapKept.run_getObj_map e2, Go.MapKept.run_checkKey hk hkey, hf, Go.MapKept.run_setObj_map _ e2, h2a, h3, hks]
    · have e : (arr.modify j fun e => { e with key := i, val := y }).toList = arr.toList.set j { en with key := i, val := y } := by
        rw [Array.toList_modify]
        refine List.ext_getElem? fun n => ?_
        have hlt := (List.getElem?_eq_some_iff.1 h2).1
        by_cases hn : j = n
        · subst hn
          have hlt' : j < arr.size := by simpa using hlt
          rw [List.getElem?_modify, List.getElem?_set, if_pos rfl, if_pos hlt, h2]
          simp
        · simp [List.getElem?_modify, hn]
      rw [e]
      exact (h4 _ rfl rfl).keep (fun _ h => h) hw hm
theorem x_mdel (hr : Rel N.fn w S μ H) {T k e : TypeId} {kd : KD} {ts : Array TypeId} {t0 : TypeId} {x i : Value} {x' i' : AV} {H' : Heap} (hT : mapT P T = some (k, e)) (hk : P.underlying k = some kd.desc) (hx : RelV N.fn w S μ H x' x) (hi : RelV N.fn w S μ H i' i) (hts : ts[0]? = some T)
    (hv : mdelA H kd x' i' = some H') : ∃ w' μ', (Builtin.delete_ ts t0 #[x, i]).run P w = .ok (.tuple #[]) w' ∧ Step N.fn w S μ H w' S μ' H' := by
  have hu := mapT_spec hT
  unfold mdelA at hv
  split at hv
  rotate_left
  · cases hv
  rename_i id kv
  simp only [ifB_some, Option.bind_eq_some_iff, Option.map_eq_some_iff] at hv
  obtain ⟨hkd, es, hes, es', hp, rfl⟩ := hv
  have hkey := key_is hkd hi.p_inv
  obtain ⟨g, rfl, hl, hg⟩ := hx.mp_inv
  obtain ⟨g', arr, clock, e1, e2, e3⟩ := hr.map_of hes
  have hg := hg _ (mapOf_spec hes)
  rw [hg] at e1
  cases e1
  rcases drop_now hkd hi.p_inv 0 e3 hp with ⟨h1, rfl⟩ | ⟨j, en, h1, h2, h4⟩
  · have hf := Go.MapKept.run_findKey (w := w) hk h1
    refine ⟨{ w with heap := w.heap.setIfInBounds g (.map arr clock) }, _, ?_, map_step hr hes hg e2 fun hw hm => e3.keep (fun _ h => h) hw hm⟩
    simp [Builtin.delete_, hts, Go.run_underlying hu, Go.MapKept.run_getObj_map e2, Go.MapKept.run_checkKey hk hkey, hf, Go.MapKept.run_setObj_map _ e2]
  · have hf := Go.MapKept.run_findKey (w := w) hk h1
    refine ⟨{ w with heap := w.heap.setIfInBounds g (.map (arr.eraseIdxIfInBounds j) clock) }, _, ?_, map_step hr hes hg e2 fun hw hm => ?_⟩
    · simp [Builtin.delete_, hts, Go.run_underlying hu, Go.MapKept.run_getObj_map e2, Go.MapKept.run_checkKey hk hkey, hf, Go.MapKept.run_setObj_map _ e2]
    · have e : (arr.eraseIdxIfInBounds j).toList = arr.toList.eraseIdx j := by simp
      rw [e]
      exact h4.keep (fun _ h => h) hw hm
theorem q_mlen (hr : Rel N.fn w S μ H) {T k e t0 : TypeId} {x : Value} {x' v : AV} (hT : mapT P T = some (k, e)) (hx : RelV N.fn w S μ H x' x) (hv : mlenA H x' = some v) : ∃ u, (Builtin.len_ #[T] t0 #[x]).run P w = .ok u w ∧ RelV N.fn w S μ H v u := by
  have hu := mapT_spec hT
  unfold mlenA at hv
  split at hv
  · simp only [Option.some.injEq] at hv; subst hv
    have hx := hx.p_inv
    cases hx
    exact ⟨.int .i64 0, by simp [Builtin.len_, Go.run_underlying hu, Go.goInt], .p _ _ (.int _ _)⟩
  · rename_i id
    obtain ⟨es, hes, rfl⟩ := Option.map_eq_some_iff.1 hv
    obtain ⟨g, rfl, hl, hg⟩ := hx.mp_inv
    obtain ⟨g', arr, clock, e1, e2, e3⟩ := hr.map_of hes
    rw [hg _ (mapOf_spec hes)] at e1
    cases e1
    have hl := e3.get_all.1
    refine ⟨.int .i64 (es.length : Nat), ?_, .p _ _ (.int _ _)⟩
    simp [Builtin.len_, Go.run_underlying hu, Go.goInt, Go.MapKept.run_getObj_map e2, hl]
  · cases hv
theorem q_isnil {a : Act} (hr : Rel N.fn w S μ H) {op : BinOp} {T e : TypeId} {neg : Bool} {x y : Operand} {x' y' v : AV} (hop : op = if neg then .neq else .eql) (ht : slT P T = some e) (hx : RelV N.fn w S μ H x' (a.eval x)) (hy : RelV N.fn w S μ H y' (a.eval y))
    (hv : isnilA H neg x' y' = some v) : ∃ u, (do Go.eqGuard op T x y (a.eval x) (a.eval y); Go.binOp op T (a.eval x) (a.eval y)).run P w = .ok u w ∧ RelV N.fn w S μ H v u := by
  unfold isnilA at hv
  split at hv
  · rename_i id n sz xs
    obtain ⟨r, hb, hv⟩ := Option.bind_eq_some_iff.1 hv
    simp only [Option.ite_none_right_eq_some, Option.some.injEq] at hv
    obtain ⟨hn, rfl⟩ := hv
    subst hop
    have e1 := hx.own_inv hb
    have e2 := hy.p_inv
    generalize a.eval x = vx at *
    generalize a.eval y = vy at *
    cases e2 with
    | sl _ _ _ a2 c2 us2 _ _ _ k5 _ _ _ _ =>
    obtain ⟨_, rfl, _⟩ := k5 (.inl rfl)
    obtain ⟨f, h1, h2⟩ := rowOf_spec hb
    obtain ⟨_, _, us, h3, _⟩ := hr.blk id _ h1
    obtain ⟨_, h3⟩ := h3
    rw [h2] at h3
    rcases h3 with ⟨h0, _⟩ | ⟨g, cap, cur, e', h4, _⟩
    · omega
    · rw [e1, h4]
      refine ⟨.bool neg, ?_, .p _ _ (.bool _)⟩
      simp only [Go.Sem.run_bind, run_eqGuard_plain (u := .slice (some ⟨g, 0, none⟩) n cap) rfl, Go.Result.andThen_ok]
      have := run_eq_plain (P := P) (w := w) (T := T) (u := .slice (some ⟨g, 0, none⟩) n cap) (v := .slice none xs.length c2) neg rfl rfl (eqIn_sl (slT_spec ht) _ _ _ _ _)
      simpa using this
  · exact q_eqk (kd := 4) hop (by simp [eqkT, slT_spec ht]) hx hy hv
def kdIs : KD → TypeDesc → Bool
  | .int k, .int k' => decide (k' = k)
  | .bool, .bool => true
  | .str, .string => true
  | _, _ => false
theorem kdIs_spec {kd : KD} {d : TypeDesc} (h : kdIs kd d = true) : d = kd.desc := by
  cases kd <;> cases d <;> simp only [kdIs, decide_eq_true_eq, Bool.false_eq_true] at h
  · subst h; rfl
  · rfl
  · rfl
theorem zeroV_spec {T : TypeId} {zero : List PV} (h : zeroV P T zero = true) : ∃ z, (Go.zeroValue T).run P w = .ok z w ∧ RelV N.fn w S μ H (mkZ zero) z := by
  unfold zeroV at h
  split at h
  · rename_i z p hz
    obtain ⟨i, hi, hzi⟩ := Option.bind_eq_some_iff.1 hz
    simp only [Bool.and_eq_true] at h
    exact ⟨z, by simp [Go.zeroValue, Go.typeInfo, hi, hzi], .p _ _ (constOk_rel h.2)⟩
  · rename_i cs hz hno
    obtain ⟨i, hi, hzi⟩ := Option.bind_eq_some_iff.1 hz
    refine ⟨.agg cs, by simp [Go.zeroValue, Go.typeInfo, hi, hzi], ?_⟩
    have hc := consts_rel (ν := N.fn) (w := w) (S := S) h
    have e : ∀ zz : List PV, (∀ p, zz = [p] → False) → mkZ zz = .p (.agg zz) := by
      intro zz hno
      unfold mkZ
      split
      · exact (hno _ rfl).elim
      · rfl
    rw [e _ hno]
    exact .p _ _ (.agg _ _ (by simpa using hc.1) hc.2.1 (fun j c hj => by rw [← getD_toList]; exact hc.2.2 j c hj))
  · cases h
theorem x_brow (hr : Rel N.fn w S μ H) {T e : TypeId} {sz n : Nat} {ag : Bool} {zero : List PV} {parts : List (Nat × Value)} {parts' : List (Nat × Nat × AV)} {r : AV × Heap} (hT : slT P T = some e) (hs : (P.info? e).map (·.size) = some sz)
    (h0sz : 0 < sz) (hag : ag = false → sz = 1) (hn : n * sz ≤ 2 ^ 24) (hz : bsZero P e (n * sz) zero = true)
    (hp : All2 (fun (x : Nat × Value) (y : Nat × Nat × AV) => (x.1 * sz, sz) = (y.1, y.2.1) ∧ RelV N.fn w S μ H y.2.2 x.2) parts parts') (hv : browA H sz ag n (fillA (zero.map .p) parts') = some r) :
    ∃ u w' μ', (Go.Instr.buildSlice T n parts.toArray).run P w = .ok u w' ∧ Step N.fn w S μ H w' S μ' r.2 ∧ RelV N.fn w' S μ' r.2 r.1 u := by
  unfold browA at hv
  obtain ⟨cs, hf, hv⟩ := Option.bind_eq_some_iff.1 hv
  obtain ⟨ps, hps, hv⟩ := Option.bind_eq_some_iff.1 hv
  simp only [Option.ite_none_right_eq_some, Option.some.injEq] at hv
  obtain ⟨⟨hlen, hlim⟩, rfl⟩ := hv
  unfold bsZero at hz
  split at hz
  rotate_left
  · cases hz
  rename_i z hzz
  obtain ⟨i, hi, hzi⟩ := Option.bind_eq_some_iff.1 hzz
  have hzc := consts_cells (N := N) (w := w) (S := S) (μ := μ) (H := H) hz
  rw [Array.toArray_toList] at hzc
  obtain ⟨us, f1, f2⟩ := fillA_rel (fun k => some (k * sz, sz)) parts parts' _ cs _ hzc (All2.imp (fun x y h => ⟨by rw [← h.1], h.2⟩) hp) hf
  obtain ⟨p1, p2, p3⟩ := pures_cells hps f2
  obtain ⟨c1, c2⟩ := chunks_spec (ag := ag) hag n ps hlen p2
  have hus : us.toList.length = n * sz := by rw [Array.length_toList, ← hlen]; omega
  have hrow : RowAt (w.alloc (.cells us e)) (.slice (some ⟨w.heap.size, 0, none⟩) n n) sz (chunks sz ag n ps).length us.toList := by
    rw [c1]
    refine ⟨hus, ?_⟩
    by_cases h0 : n = 0
    · subst h0
      exact .inl ⟨rfl, _, rfl⟩
    · refine .inr ⟨w.heap.size, n, us, e, rfl, by omega, Go.heap_alloc_new w _, Nat.le_refl _, by simp only [maxLen]; have : lim = 1073741824 := rfl; omega, by simpa using hus, ?_⟩
      rw [← hus, List.take_length]
  obtain ⟨μ', s1, s2⟩ := step_newrow hr (Grows.alloc w (.cells us e)) h0sz (xs := chunks sz ag n ps) (by rw [c1]; exact hlim) hrow ⟨fun x hx => by
      obtain ⟨i, hi⟩ := List.getElem?_of_mem hx
      exact ⟨(c2 i x hi).1, (c2 i x hi).2.1⟩, fun i x j c hx hc => by
      have h3 := (c2 i x hx).2.2 j c hc
      have := (p3 _ c h3).keep (fun _ h => h) (fun g hg => Go.RowKit.Below.heap_alloc w (.cells us e) g (hr.lt g hg))
      rwa [getD_array] at this⟩ (fun g hg => by
      simp only [blkOf] at hg
      split at hg
      · cases hg
      · simp only [Option.some.injEq] at hg; omega)
  refine ⟨_, _, μ', ?_, s1, by rw [c1] at s2; exact s2⟩
  have hn' : ¬ (n * sz > 2 ^ 24) := by omega
  simp only [Go.Instr.buildSlice, Go.Sem.run_bind, Go.run_underlying (slT_spec hT), Go.Result.andThen_ok, run_sizeOf hs, if_neg hn']
  by_cases h0 : n * sz = 0
  · rw [if_pos h0] at f1
    simp only [h0, if_true]
    rw [Go.Sem.run_bind]
    simp only [Go.Sem.run_pure, Go.Result.andThen_ok]
    have e0 : (Array.range 0).map (fun x => (#[] : Array Value)[x % (#[] : Array Value).size]!) = #[] := by simp
    rw [e0, f1]
    simp [Go.newRow]
  · rw [if_neg h0] at f1
    simp only [h0, if_false, Go.Sem.run_bind, Go.zeroValue, Go.typeInfo, hi, Go.Sem.run_pure, Go.Result.andThen_ok, hzi, Go.run_program]
    rw [f1]
    simp [Go.newRow]
end
end Ab
namespace Ab
open Go (IntKind BinOp UnOp World Value Addr Obj undef maxLen Program TypeId Oper Op Operand Act Sem Next Result execOp Builtin)

def chkArgs (N : Names) : List Operand → List Arg → Bool
  | [], [] => true
  | x :: xs, y :: ys => chkArg N x y && chkArgs N xs ys
  | _, _ => false
def chkO (N : Names) : Option Operand → Option Arg → Bool
  | none, none => true
  | some x, some y => chkArg N x y
  | _, _ => false
def chkParts (N : Names) (pl : Nat → Option (Nat × Nat)) : List (Nat × Operand) → List Parts → Bool
  | [], [] => true
  | x :: xs, y :: ys => (match pl x.1 with | some r => r.1 == y.off && r.2 == y.sz | none => false) && chkArg N x.2 y.arg && chkParts N pl xs ys
  | _, _ => false
def sizeT (P : Program) (T : TypeId) (sz : Nat) : Bool := match P.info? T with | some i => i.size == sz | none => false
def aggT (P : Program) (T : TypeId) (ag : Bool) : Bool := match aggB P T with | some b => b == ag | none => false
def intIs (P : Program) (T : TypeId) (k : IntKind) : Bool := match intT P T with | some k' => k' == k | none => false
def fieldAt (P : Program) (T : TypeId) (k : Nat) : Option Go.Field := (fieldsT P T).bind fun fs => fs[k]?

theorem sizeT_spec {P T sz} (h : sizeT P T sz = true) : (P.info? T).map (·.size) = some sz := by
  unfold sizeT at h
  split at h
  · rename_i i hi; simp only [beq_iff_eq] at h; simp [hi, h]
  · cases h
theorem aggT_spec {P T ag} (h : aggT P T ag = true) : aggB P T = some ag := by
  unfold aggT at h
  split at h
  · rename_i b hb; simp only [beq_iff_eq] at h; rw [hb, h]
  · cases h
theorem intIs_spec {P T k} (h : intIs P T k = true) : intT P T = some k := by
  unfold intIs at h
  split at h
  · rename_i b hb; simp only [beq_iff_eq] at h; rw [hb, h]
  · cases h
theorem fieldAt_spec {P T k f} (h : fieldAt P T k = some f) : ∃ fs, fieldsT P T = some fs ∧ fs[k]? = some f := Option.bind_eq_some_iff.1 h

def callOp (o : Oper) : Option (Go.Callee × List Operand × List TypeId) := match o.op with | .call c => some (c.callee, c.args.toList, c.argTypes.toList) | _ => none

def chkQ (P : Program) (N : Names) (o : Oper) : QOp → Bool
  | .bad => true
  | .mov x => match o.op with | .move y | .assign y => chkArg N y x | _ => false
  | .pick c a b => match o.op with | .pick c' a' b' => chkArg N c' c && chkArg N a' a && chkArg N b' b | _ => false
  | .nilchk x => match o.op with | .nilCheck y => chkArg N y x | _ => false
  | .bin op x y => match o.op with | .binOp op' _ x' y' _ => decide (op' = op) && chkArg N x' x && chkArg N y' y | _ => false
  | .eqs ks neg x y => match o.op with | .binOp op T x' y' _ => decide (op = if neg then .neq else .eql) && eqsT P T ks && chkArg N x' x && chkArg N y' y | _ => false
  | .eqk kd neg x y => match o.op with | .binOp op T x' y' _ => decide (op = if neg then .neq else .eql) && eqkT P T kd && chkArg N x' x && chkArg N y' y | _ => false
  | .un op x => match o.op with | .unOp op' _ x' => decide (op' = op) && chkArg N x' x | _ => false
  | .conv k x => match o.op with | .convert s d x' => (intT P s).isSome && intIs P d k && chkArg N x' x | _ => false
  | .same x => match o.op with | .convert s d x' => strT P s && strT P d && chkArg N x' x | _ => false
  | .strOf x => match o.op with | .convert s d x' => (match slT P s with | some e => intIs P e .u8 | none => false) && strT P d && chkArg N x' x | _ => false
  | .runeStr x => match o.op with | .convert s d x' => (intT P s).isSome && strT P d && chkArg N x' x | _ => false
  | .len s x => match callOp o with | some (.builtin .len, [x'], [T]) => (if s then strT P T else (slT P T).isSome) && chkArg N x' x | _ => false
  | .idx x i => match o.op with | .index T x' i' => strT P T && chkArg N x' x && chkArg N i' i | _ => false
  | .aidx sz ag n x i => match o.op with | .index T x' i' => (match arrT P T with | some (n', e) => n' == n && aggT P e ag && sizeT P e sz | none => false) && chkArg N x' x && chkArg N i' i | _ => false
  | .fld off sz ag x => match o.op with | .field T x' k => (match fieldAt P T k with | some f => f.offset == off && aggT P f.type ag && sizeT P f.type sz | none => false) && chkArg N x' x | _ => false
  | .faddr off x => match o.op with | .fieldAddr T x' k => (match fieldAt P T k with | some f => f.offset == off && (P.info? f.type).any (·.size != 0) | none => false) && chkArg N x' x | _ => false
  | .iaddr sz x i => match o.op with | .indexAddr T x' i' => (match slT P T with | some e => sizeT P e sz | none => false) && decide (0 < sz) && chkArg N x' x && chkArg N i' i | _ => false
  | .iaddrA sz n x i => match o.op with | .indexAddr T x' i' => (match arrT P T with | some (n', e) => n' == n && sizeT P e sz | none => false) && chkArg N x' x && chkArg N i' i | _ => false
  | .load sz ag x => match o.op with | .load T x' => aggT P T ag && sizeT P T sz && chkArg N x' x | _ => false
  | .sliceS x lo hi => match o.op with | .slice T x' lo' hi' none => strT P T && chkArg N x' x && chkO N lo' lo && chkO N hi' hi | _ => false
  | .slice sz x lo hi => match o.op with | .slice T x' lo' hi' none => (match slT P T with | some e => sizeT P e sz | none => false) && chkArg N x' x && chkO N lo' lo && chkO N hi' hi | _ => false
  | .build zero parts => match o.op with | .build T ps => zeroT P T zero && fieldsKnown P T && chkParts N (placeT P T) ps.toList parts | _ => false
  | .bslice sz ag n zero parts => match o.op with
    | .buildSlice T n' ps => (match slT P T with | some e => sizeT P e sz && bsZero P e (n * sz) zero | none => false) && n' == n && decide (0 < sz) && (ag || sz == 1) && decide (n * sz ≤ 16777216) && chkParts N (fun i => some (i * sz, sz)) ps.toList parts
    | _ => false
  | .appq sz x y => match callOp o with
    | some (.builtin .append, [x', y'], [T, T']) => T' == T && (match slT P T with | some e => rowT P e sz | none => false) && decide (0 < sz) && chkArg N x' x && chkArg N y' y
    | _ => false
  | .mget kd zero comma x k => match o.op with
    | .lookup T x' k' c => (match mapT P T with | some (kt, e) => (match P.underlying kt with | some d => kdIs kd d | none => false) && zeroV P e zero | none => false) && c == comma && chkArg N x' x && chkArg N k' k
    | _ => false
  | .mlen x => match callOp o with | some (.builtin .len, [x'], [T]) => (mapT P T).isSome && chkArg N x' x | _ => false
  | .isnil neg x y => match o.op with | .binOp op T x' y' _ => decide (op = if neg then .neq else .eql) && (slT P T).isSome && chkArg N x' x && chkArg N y' y | _ => false
  | .ext x i => match o.op with | .extract x' i' => i' == i && chkArg N x' x | _ => false
  | .minmax mx xs => match callOp o with | some (.builtin b, xs', _) => decide (b = if mx then .max else .min) && chkArgs N xs' xs | _ => false
  | .clos f caps => match o.op with | .makeFunc (.func f') first caps' => f' == N.fn f && first.toList.isEmpty && chkArgs N caps'.toList caps | _ => false
  | .call f args => match callOp o with | some (.value f', xs', _) => chkArg N f' f && chkArgs N xs' args | _ => false

section
variable {Γ : Ctx} {N : Names} {P : Program} {w : World} {S : Nat → Prop} {μ : Nat → Value} {H : Heap} {σ : Nat → AV} {a : Act}

theorem Env.Rel.args (he : Env.Rel Γ N w S μ H σ a) : ∀ {xs ys}, chkArgs N xs ys = true → All2 (fun u v => RelV N.fn w S μ H v u) (xs.map a.eval) (ys.map (Arg.ev Γ σ))
  | [], [], _ => trivial
  | x :: xs, y :: ys, h => by
    simp only [chkArgs, Bool.and_eq_true] at h
    exact ⟨he.arg h.1, he.args h.2⟩
  | [], _ :: _, h => by cases h
  | _ :: _, [], h => by cases h
theorem Env.Rel.opt (he : Env.Rel Γ N w S μ H σ a) : ∀ {x y}, chkO N x y = true → RelO N.fn w S μ H (y.map (Arg.ev Γ σ)) (x.map a.eval)
  | none, none, _ => trivial
  | some x, some y, h => he.arg h
  | none, some _, h => by cases h
  | some _, none, h => by cases h
theorem Env.Rel.parts (he : Env.Rel Γ N w S μ H σ a) {pl : Nat → Option (Nat × Nat)} : ∀ {xs ys}, chkParts N pl xs ys = true →
    All2 (fun (x : Nat × Value) (y : Nat × Nat × AV) => pl x.1 = some (y.1, y.2.1) ∧ RelV N.fn w S μ H y.2.2 x.2) (xs.map fun x => (x.1, a.eval x.2)) (ys.map fun q => (q.off, q.sz, q.arg.ev Γ σ))
  | [], [], _ => trivial
  | x :: xs, y :: ys, h => by
    simp only [chkParts, Bool.and_eq_true] at h
    obtain ⟨⟨h1, h2⟩, h3⟩ := h
    refine ⟨⟨?_, he.arg h2⟩, he.parts h3⟩
    split at h1
    · rename_i r hr
      simp only [Bool.and_eq_true, beq_iff_eq] at h1
      rw [hr]
      exact congrArg some (Prod.ext h1.1 h1.2)
    · cases h1
  | [], _ :: _, h => by cases h
  | _ :: _, [], h => by cases h

def QDone (N : Names) (P : Program) (w : World) (S : Nat → Prop) (μ : Nat → Value) (H : Heap) (o : Oper) (a : Act) (v : AV) : Prop :=
  ∃ u w' S', (execOp a.eval o).run P w = .ok (.value u) w' ∧ Step N.fn w S μ H w' S' μ H ∧ RelV N.fn w' S' μ H v u

theorem QDone.of (hr : Rel N.fn w S μ H) {o : Oper} {v : AV} {r : Sem Value} (he : execOp a.eval o = (do pure (.value (← r)))) (h : ∃ u, r.run P w = .ok u w ∧ RelV N.fn w S μ H v u) : QDone N P w S μ H o a v := by
  obtain ⟨u, h1, h2⟩ := h
  exact ⟨u, w, S, by simp [he, h1], .refl hr, h2⟩
theorem QDone.val (hr : Rel N.fn w S μ H) {o : Oper} {v : AV} {u : Value} (he : execOp a.eval o = pure (.value u)) (h : RelV N.fn w S μ H v u) : QDone N P w S μ H o a v :=
  ⟨u, w, S, by simp [he], .refl hr, h⟩

theorem exec_builtin {o : Oper} {b : Builtin} {xs : List Operand} {Ts : List TypeId} (h : callOp o = some (.builtin b, xs, Ts)) :
    ∃ cs, execOp a.eval o = Go.builtin b Ts.toArray o.type cs (xs.map a.eval).toArray := by
  unfold callOp at h
  split at h
  · rename_i c hc
    simp only [Option.some.injEq, Prod.mk.injEq] at h
    obtain ⟨h1, h2, h3⟩ := h
    refine ⟨c.args.map fun | .const _ => true | _ => false, ?_⟩
    have e1 : Ts.toArray = c.argTypes := by rw [← h3]
    have e2 : (xs.map a.eval).toArray = c.args.map a.eval := by rw [← h2, ← Array.toList_map]
    rw [e1, e2]
    simp only [execOp, hc, Go.resolve, h1]
    rfl
  · cases h

theorem q_sound {o : Oper} {q : QOp} {v : AV} {call : Nat → List AV → Heap → Option (List AV × Heap)} (hq : ∀ f args, q ≠ .call f args) (hc : chkQ P N o q = true) (he : Env.Rel Γ N w S μ H σ a) (hr : Rel N.fn w S μ H)
    (hv : evQ Γ call σ H q = some v) : QDone N P w S μ H o a v := by
  cases q with
  | mov x =>
    simp only [chkQ] at hc
    simp only [evQ, Option.some.injEq] at hv; subst hv
    split at hc
    · rename_i y hy; exact .val hr (by simp only [execOp, hy]) (he.arg hc)
    · rename_i y hy; exact .val hr (by simp only [execOp, hy]) (he.arg hc)
    · cases hc
  | pick c x y =>
    simp only [chkQ] at hc
    split at hc
    · rename_i c' x' y' hy
      simp only [Bool.and_eq_true] at hc
      obtain ⟨u, h1, h2⟩ := q_pick (P := P) he hc.1.1 hc.1.2 hc.2 hv
      exact ⟨u, w, S, by simp only [execOp, hy]; exact h1, .refl hr, h2⟩
    · cases hc
  | nilchk x =>
    simp only [chkQ] at hc
    split at hc
    · rename_i y hy
      have hx := he.arg hc
      obtain ⟨rfl, h⟩ := q_nilchk hx hv
      refine .val hr (u := a.eval y) ?_ hx
      simp only [execOp, hy]
      rcases h with ⟨ad, h⟩ | ⟨f, cs, h⟩ <;> simp only [h]
    · cases hc
  | bin op x y =>
    simp only [chkQ] at hc
    split at hc
    · rename_i op' T x' y' _ hy
      simp only [Bool.and_eq_true, decide_eq_true_eq] at hc
      obtain ⟨⟨rfl, h1⟩, h2⟩ := hc
      exact .of hr (by simp only [execOp, hy]) (q_bin (T := T) (he.arg h1) (he.arg h2) hv)
    · cases hc
  | eqs ks neg x y =>
    simp only [chkQ] at hc
    split at hc
    · rename_i op' T x' y' _ hy
      simp only [Bool.and_eq_true, decide_eq_true_eq] at hc
      obtain ⟨⟨⟨h0, ht⟩, h1⟩, h2⟩ := hc
      exact .of hr (by simp only [execOp, hy]) (q_eqs h0 ht (he.arg h1) (he.arg h2) hv)
    · cases hc
  | eqk kd neg x y =>
    simp only [chkQ] at hc
    split at hc
    · rename_i op' T x' y' _ hy
      simp only [Bool.and_eq_true, decide_eq_true_eq] at hc
      obtain ⟨⟨⟨h0, ht⟩, h1⟩, h2⟩ := hc
      exact .of hr (by simp only [execOp, hy]) (q_eqk h0 ht (he.arg h1) (he.arg h2) hv)
    · cases hc
  | un op x =>
    simp only [chkQ] at hc
    split at hc
    · rename_i op' T x' hy
      simp only [Bool.and_eq_true, decide_eq_true_eq] at hc
      obtain ⟨rfl, h1⟩ := hc
      exact .of hr (by simp only [execOp, hy]) (q_un (he.arg h1) hv)
    · cases hc
  | conv k x =>
    simp only [chkQ] at hc
    split at hc
    · rename_i s d x' hy
      simp only [Bool.and_eq_true] at hc
      obtain ⟨⟨h1, h2⟩, h3⟩ := hc
      obtain ⟨k0, h1⟩ := Option.isSome_iff_exists.1 h1
      exact .of hr (by simp only [execOp, hy]) (q_conv h1 (intIs_spec h2) (he.arg h3) hv)
    · cases hc
  | runeStr x =>
    simp only [chkQ] at hc
    split at hc
    · rename_i s d x' hy
      simp only [Bool.and_eq_true] at hc
      obtain ⟨⟨h1, h2⟩, h3⟩ := hc
      obtain ⟨k0, h1⟩ := Option.isSome_iff_exists.1 h1
      exact .of hr (by simp only [execOp, hy]) (q_runeStr h1 h2 (he.arg h3) hv)
    · cases hc
  | same x =>
    simp only [chkQ] at hc
    split at hc
    · rename_i s d x' hy
      simp only [Bool.and_eq_true] at hc
      exact .of hr (by simp only [execOp, hy]) (q_same hc.1.1 hc.1.2 (he.arg hc.2) hv)
    · cases hc
  | strOf x =>
    simp only [chkQ] at hc
    split at hc
    · rename_i s d x' hy
      simp only [Bool.and_eq_true] at hc
      obtain ⟨⟨h1, h2⟩, h3⟩ := hc
      split at h1
      · rename_i e hs
        exact .of hr (by simp only [execOp, hy]) (q_strOf hr hs (intIs_spec h1) h2 (he.arg h3) hv)
      · cases h1
    · cases hc
  | len s x =>
    simp only [chkQ] at hc
    split at hc
    · rename_i x' T hy
      simp only [Bool.and_eq_true] at hc
      obtain ⟨h1, h2⟩ := hc
      obtain ⟨cs, hx⟩ := exec_builtin (a := a) hy
      simp only [evQ, Option.map_eq_some_iff] at hv
      obtain ⟨n, hn, rfl⟩ := hv
      refine .of hr (r := Go.Builtin.len_ #[T] o.type #[a.eval x']) (by rw [hx]; rfl) ⟨_, q_len (t0 := o.type) hr ?_ (he.arg h2) hn, .p _ _ (.int _ _)⟩
      cases s <;> simpa using h1
    · cases hc
  | idx x i =>
    simp only [chkQ] at hc
    split at hc
    · rename_i T x' i' hy
      simp only [Bool.and_eq_true] at hc
      exact .of hr (by simp only [execOp, hy]) (q_idx hc.1.1 (he.arg hc.1.2) (he.arg hc.2) hv)
    · cases hc
  | aidx sz ag n x i =>
    simp only [chkQ] at hc
    split at hc
    · rename_i T x' i' hy
      simp only [Bool.and_eq_true] at hc
      obtain ⟨⟨h1, h2⟩, h3⟩ := hc
      split at h1
      · rename_i n' e hT
        simp only [Bool.and_eq_true, beq_iff_eq] at h1
        obtain ⟨⟨rfl, h4⟩, h5⟩ := h1
        exact .of hr (by simp only [execOp, hy]) (q_aidx hT (aggT_spec h4) (sizeT_spec h5) (he.arg h2) (he.arg h3) hv)
      · cases h1
    · cases hc
  | fld off sz ag x =>
    simp only [chkQ] at hc
    split at hc
    · rename_i T x' k hy
      simp only [Bool.and_eq_true] at hc
      obtain ⟨h1, h2⟩ := hc
      split at h1
      · rename_i f hf
        obtain ⟨fs, hT, hf⟩ := fieldAt_spec hf
        simp only [Bool.and_eq_true, beq_iff_eq] at h1
        obtain ⟨⟨ho, h4⟩, h5⟩ := h1
        exact .of hr (by simp only [execOp, hy]) (q_fld hT hf ho (aggT_spec h4) (sizeT_spec h5) (he.arg h2) hv)
      · cases h1
    · cases hc
  | faddr off x =>
    simp only [chkQ] at hc
    split at hc
    · rename_i T x' k hy
      simp only [Bool.and_eq_true] at hc
      obtain ⟨h1, h2⟩ := hc
      split at h1
      · rename_i f hf
        obtain ⟨fs, hT, hf⟩ := fieldAt_spec hf
        simp only [Bool.and_eq_true, beq_iff_eq] at h1
        exact .of hr (by simp only [execOp, hy]) (q_faddr hT hf h1.1 h1.2 (he.arg h2) hv)
      · cases h1
    · cases hc
  | iaddr sz x i =>
    simp only [chkQ] at hc
    split at hc
    · rename_i T x' i' hy
      simp only [Bool.and_eq_true, decide_eq_true_eq] at hc
      obtain ⟨⟨⟨h1, h0⟩, h2⟩, h3⟩ := hc
      split at h1
      · rename_i e hT
        exact .of hr (by simp only [execOp, hy]) (q_iaddr h0 hr hT (sizeT_spec h1) (he.arg h2) (he.arg h3) hv)
      · cases h1
    · cases hc
  | iaddrA sz n x i =>
    simp only [chkQ] at hc
    split at hc
    · rename_i T x' i' hy
      simp only [Bool.and_eq_true] at hc
      obtain ⟨⟨h1, h2⟩, h3⟩ := hc
      split at h1
      · rename_i n' e hT
        simp only [Bool.and_eq_true, beq_iff_eq] at h1
        obtain ⟨rfl, h5⟩ := h1
        exact .of hr (by simp only [execOp, hy]) (q_iaddrA hT (sizeT_spec h5) (he.arg h2) (he.arg h3) hv)
      · cases h1
    · cases hc
  | load sz ag x =>
    simp only [chkQ] at hc
    split at hc
    · rename_i T x' hy
      simp only [Bool.and_eq_true] at hc
      exact .of hr (by simp only [execOp, hy]) (q_load hr (aggT_spec hc.1.1) (sizeT_spec hc.1.2) (he.arg hc.2) hv)
    · cases hc
  | sliceS x lo hi =>
    simp only [chkQ] at hc
    split at hc
    · rename_i T x' lo' hi' hy
      simp only [Bool.and_eq_true] at hc
      obtain ⟨⟨⟨h1, h2⟩, h3⟩, h4⟩ := hc
      exact .of hr (by simp only [execOp, hy]; rfl) (q_sliceS h1 (he.arg h2) (he.opt h3) (he.opt h4) hv)
    · cases hc
  | slice sz x lo hi =>
    simp only [chkQ] at hc
    split at hc
    · rename_i T x' lo' hi' hy
      simp only [Bool.and_eq_true] at hc
      obtain ⟨⟨⟨h1, h2⟩, h3⟩, h4⟩ := hc
      split at h1
      · rename_i e hT
        exact .of hr (by simp only [execOp, hy]; rfl) (q_slice hT (sizeT_spec h1) (he.arg h2) (he.opt h3) (he.opt h4) hv)
      · cases h1
    · cases hc
  | build zero parts =>
    simp only [chkQ] at hc
    split at hc
    · rename_i T ps hy
      simp only [Bool.and_eq_true] at hc
      obtain ⟨⟨h1, h2⟩, h3⟩ := hc
      simp only [evQ, Option.map_eq_some_iff] at hv
      obtain ⟨res, hv, rfl⟩ := hv
      refine .of hr (r := Go.Instr.build T (ps.toList.map fun x => (x.1, a.eval x.2)).toArray) ?_ (q_build h1 h2 (he.parts h3) hv)
      simp only [execOp, hy]
      have : (ps.toList.map fun x => (x.1, a.eval x.2)).toArray = ps.map fun x => (x.1, a.eval x.2) := by rw [← Array.toList_map]
      rw [this]
    · cases hc
  | bslice sz ag n zero parts =>
    simp only [chkQ] at hc
    split at hc
    · rename_i T n' ps hy
      simp only [Bool.and_eq_true, decide_eq_true_eq, beq_iff_eq, Bool.or_eq_true] at hc
      obtain ⟨⟨⟨⟨⟨h1, rfl⟩, h0⟩, hag⟩, hn⟩, h3⟩ := hc
      split at h1
      · rename_i e hT
        simp only [Bool.and_eq_true] at h1
        have hag' : ag = false → sz = 1 := fun e => by
          rcases hag with h | h
          · rw [h] at e; cases e
          · exact h
        obtain ⟨us, h4, h5⟩ := q_bslice (N := N) (μ := μ) (H := H) (parts := ps.toList.map fun x => (x.1, a.eval x.2)) hr.lt hT (sizeT_spec h1.1) h0 hag' (by omega) h1.2
          (by
            have := he.parts h3
            refine this.imp fun x y hxy => ⟨?_, hxy.2⟩
            simpa using hxy.1) hv
        refine ⟨_, _, _, ?_, .grow hr (Grows.alloc w _) (fun g h => .inl h) (fun g h => ?_) (fun g h => ?_), h5⟩
        · have e1 : (ps.toList.map fun x => (x.1, a.eval x.2)).toArray = ps.map fun x => (x.1, a.eval x.2) := by rw [← Array.toList_map]
          rw [e1] at h4
          simp only [execOp, hy]
          simp [h4]
        · rcases h with h | h
          · exact Nat.lt_of_lt_of_le (hr.lt g h) (Grows.alloc w _).size
          · subst h; simp
        · rcases h with h | h
          · exact .inl h
          · exact .inr (by omega)
      · cases h1
    · cases hc
  | appq sz x y =>
    simp only [chkQ] at hc
    split at hc
    · rename_i x' y' T T' hy
      simp only [Bool.and_eq_true, decide_eq_true_eq, beq_iff_eq] at hc
      obtain ⟨⟨⟨⟨rfl, h1⟩, h0⟩, h2⟩, h3⟩ := hc
      split at h1
      · rename_i e hT
        obtain ⟨i, z, hi, hsz, hb, hz, hzs⟩ := rowT_spec h1
        obtain ⟨cs, hx⟩ := exec_builtin (a := a) hy
        obtain ⟨u, w', S', h4, h5, h6⟩ := q_appq (ty := o.type) hr (slT_spec hT) hi hz hsz hzs h0 hb (he.arg h2) (he.arg h3) hv
        refine ⟨u, w', S', ?_, h5, h6⟩
        have e : execOp a.eval o = (do pure (.value (← Builtin.append_ #[T', T'] o.type #[a.eval x', a.eval y']))) := by rw [hx]; rfl
        simp [e, h4]
      · cases h1
    · cases hc
  | mget kd zero comma x k =>
    simp only [chkQ] at hc
    split at hc
    · rename_i T x' k' c hy
      simp only [Bool.and_eq_true, beq_iff_eq] at hc
      obtain ⟨⟨⟨h1, rfl⟩, h2⟩, h3⟩ := hc
      split at h1
      · rename_i kt e hT
        simp only [Bool.and_eq_true] at h1
        obtain ⟨h1, h4⟩ := h1
        split at h1
        · rename_i d hd
          obtain ⟨z, hz, hzr⟩ := zeroV_spec (N := N) (w := w) (S := S) (μ := μ) (H := H) h4
          exact .of hr (by simp only [execOp, hy]) (q_mget hr hT (by rw [hd, kdIs_spec h1]) hz hzr (he.arg h2) (he.arg h3) hv)
        · cases h1
      · cases h1
    · cases hc
  | mlen x =>
    simp only [chkQ] at hc
    split at hc
    · rename_i x' T hy
      simp only [Bool.and_eq_true] at hc
      obtain ⟨⟨kt, e⟩, hT⟩ := Option.isSome_iff_exists.1 hc.1
      obtain ⟨cs, hx⟩ := exec_builtin (a := a) hy
      refine .of hr (r := Builtin.len_ #[T] o.type #[a.eval x']) ?_ (q_mlen hr hT (he.arg hc.2) hv)
      rw [hx]; rfl
    · cases hc
  | isnil neg x y =>
    simp only [chkQ] at hc
    split at hc
    · rename_i op T x' y' T' hy
      simp only [Bool.and_eq_true, decide_eq_true_eq] at hc
      obtain ⟨⟨⟨h0, h1⟩, h2⟩, h3⟩ := hc
      obtain ⟨e, hT⟩ := Option.isSome_iff_exists.1 h1
      exact .of hr (by simp only [execOp, hy]) (q_isnil hr h0 hT (he.arg h2) (he.arg h3) hv)
    · cases hc
  | ext x i =>
    simp only [chkQ] at hc
    split at hc
    · rename_i x' i' hy
      simp only [Bool.and_eq_true, beq_iff_eq] at hc
      obtain ⟨rfl, h2⟩ := hc
      exact .of hr (by simp only [execOp, hy]) (q_ext (he.arg h2) hv)
    · cases hc
  | minmax mx xs =>
    simp only [chkQ] at hc
    split at hc
    · rename_i b xs' Ts hy
      simp only [Bool.and_eq_true, decide_eq_true_eq] at hc
      obtain ⟨rfl, h2⟩ := hc
      obtain ⟨cs, hx⟩ := exec_builtin (a := a) hy
      have := q_minmax (P := P) (mx := mx) (t0 := o.type) (ts := Ts.toArray) (he.args h2) hv
      refine .of hr (r := if mx then Go.Builtin.max_ Ts.toArray o.type (xs'.map a.eval).toArray else Go.Builtin.min_ Ts.toArray o.type (xs'.map a.eval).toArray) ?_ this
      rw [hx]
      cases mx <;> rfl
    · cases hc
  | clos f caps =>
    simp only [chkQ] at hc
    split at hc
    · rename_i f' first caps' hy
      simp only [Bool.and_eq_true, beq_iff_eq, List.isEmpty_iff] at hc
      obtain ⟨⟨rfl, h1⟩, h2⟩ := hc
      have hf : first = #[] := by simpa using h1
      simp only [evQ, ifB] at hv
      split at hv
      · rename_i hall
        simp only [Option.some.injEq] at hv; subst hv
        have := q_clos (f := f) (he.args h2) (fun c hc => List.all_eq_true.1 hall c hc)
        have e1 : (caps'.toList.map a.eval).toArray = caps'.map a.eval := by rw [← Array.toList_map]
        rw [e1] at this
        refine .of hr (r := pure (.func (.func (N.fn f)) #[] (caps'.map a.eval))) ?_ ⟨_, by simp, this⟩
        simp only [execOp, hy, hf, Go.Instr.makeFunc]
        simp
      · cases hv
    · cases hc
  | call f args => exact absurd rfl (hq f args)
  | bad => cases hv
end
end Ab
namespace Ab
open Go (IntKind BinOp UnOp World Value Addr Obj undef maxLen Program TypeId Oper Op Operand Act Sem Next Result execOp Builtin)

def chkX (P : Program) (N : Names) (o : Oper) : XOp → Bool
  | .alloc zero => match o.op with | .alloc T => zeroT P T zero | _ => false
  | .box x => match o.op with | .box _ x' => chkArg N x' x | _ => false
  | .fbox x => match o.op with | .box _ x' => chkArg N x' x | _ => false
  | .store sz x v => match o.op with | .store T x' v' => sizeT P T sz && chkArg N x' x && chkArg N v' v | _ => false
  | .mkslice sz ag zero n c => match o.op with
    | .makeSlice T n' c' => (match slT P T with | some e => rowT P e sz && zeroT P e zero | none => false) && zero.length == sz && decide (0 < sz) && (ag || sz == 1) && chkArg N n' n && chkArg N c' c
    | _ => false
  | .newrow sz => match o.op with | .assign (.const (.slice none 0 0)) => decide (0 < sz) | _ => false
  | .append sz x y => match callOp o with
    | some (.builtin .append, [x', y'], [T, T']) => T' == T && (match slT P T with | some e => rowT P e sz | none => false) && decide (0 < sz) && chkArg N x' x && chkArg N y' y
    | _ => false
  | .slicef sz x lo hi => match o.op with | .slice T x' lo' hi' none => (match slT P T with | some e => sizeT P e sz | none => false) && chkArg N x' x && chkO N lo' lo && chkO N hi' hi | _ => false
  | .range x => match o.op with | .range T x' => strT P T && chkArg N x' x | _ => false
  | .next x => match o.op with | .next x' true => chkArg N x' x | _ => false
  | .pureq q => chkQ P N o q
  | .treeq q => (match q with | .call _ _ => false | _ => true) && chkQ P N o q
  | .brow sz ag n zero parts => match o.op with
    | .buildSlice T n' ps => (match slT P T with | some e => sizeT P e sz && bsZero P e (n * sz) zero | none => false) && n' == n && decide (0 < sz) && (ag || sz == 1) && decide (n * sz ≤ 16777216) && chkParts N (fun i => some (i * sz, sz)) ps.toList parts
    | _ => false
  | .mkmap => match o.op with | .makeMap _ none => true | _ => false
  | .mset kd x k v => match o.op with
    | .mapUpdate T x' k' v' => (match mapT P T with | some (kt, _) => (match P.underlying kt with | some d => kdIs kd d | none => false) | none => false) && chkArg N x' x && chkArg N k' k && chkArg N v' v
    | _ => false
  | .mdel kd x k => match callOp o with
    | some (.builtin .delete, [x', k'], [T, _]) => (match mapT P T with | some (kt, _) => (match P.underlying kt with | some d => kdIs kd d | none => false) | none => false) && chkArg N x' x && chkArg N k' k
    | _ => false
  | .callf f args | .callz f args | .calls f args => match callOp o with | some (.value f', xs', _) => chkArg N f' f && chkArgs N xs' args | _ => false
  | .bslicef sz ag n zero parts => match o.op with
    | .buildSlice T n' ps => (match slT P T with | some e => sizeT P e sz && bsZero P e (n * sz) zero | none => false) && n' == n && decide (0 < sz) && (ag || sz == 1) && decide (n * sz ≤ 16777216) && chkParts N (fun i => some (i * sz, sz)) ps.toList parts
    | _ => false
  | _ => false

def chkOp (P : Program) (N : Names) (o : Oper) : QOp ⊕ XOp → Bool
  | .inl q => chkQ P N o q
  | .inr x => chkX P N o x

section
variable {Γ : Ctx} {N : Names} {P : Program} {w : World} {S : Nat → Prop} {μ : Nat → Value} {H : Heap} {σ : Nat → AV} {a : Act}

def Yield (r : Result Next) (u : Value) (w : World) : Prop := r = .ok (.value u) w ∨ (r = .ok .skip w ∧ u = undef)

def XDone (N : Names) (P : Program) (w : World) (S : Nat → Prop) (μ : Nat → Value) (H : Heap) (o : Oper) (a : Act) (v : AV) (H' : Heap) : Prop :=
  ∃ u w' S' μ', Yield ((execOp a.eval o).run P w) u w' ∧ Step N.fn w S μ H w' S' μ' H' ∧ RelV N.fn w' S' μ' H' v u

theorem XDone.of {o : Oper} {r : Sem Value} {v : AV} {H' : Heap} (he : execOp a.eval o = (do pure (.value (← r)))) (h : ∃ u w' μ', r.run P w = .ok u w' ∧ Step N.fn w S μ H w' S μ' H' ∧ RelV N.fn w' S μ' H' v u) : XDone N P w S μ H o a v H' := by
  obtain ⟨u, w', μ', h1, h2, h3⟩ := h
  exact ⟨u, w', S, μ', .inl (by simp [he, h1]), h2, h3⟩

def XOp.known : XOp → Bool
  | .callf _ _ | .calls _ _ | .callz _ _ | .bslicef _ _ _ _ _ | .fbox _ | .pureq _ | .treeq _ => false
  | _ => true

theorem x_sound {o : Oper} {x : XOp} {v : AV} {H' : Heap} {cal : Nat → List AV → Heap → Option (List AV × Heap)} (hq : x.known = true) (hc : chkX P N o x = true) (he : Env.Rel Γ N w S μ H σ a) (hr : Rel N.fn w S μ H)
    (hv : evX Γ cal σ H x = some (v, H')) : XDone N P w S μ H o a v H' := by
  cases x with
  | alloc zero =>
    simp only [chkX] at hc
    simp only [evX, Option.some.injEq, Prod.mk.injEq] at hv
    obtain ⟨rfl, rfl⟩ := hv
    split at hc
    · rename_i T hy; exact .of (by simp only [execOp, hy]) (x_alloc hr hc)
    · cases hc
  | box x =>
    simp only [chkX] at hc
    split at hc
    · rename_i T x' hy; exact .of (r := Go.Instr.box T (a.eval x')) (by simp only [execOp, hy]) (x_box hr (he.arg hc) hv)
    · cases hc
  | store sz x y =>
    simp only [chkX] at hc
    simp only [evX, Option.map_eq_some_iff, Prod.mk.injEq] at hv
    obtain ⟨H1, hv, rfl, rfl⟩ := hv
    split at hc
    · rename_i T x' y' hy
      simp only [Bool.and_eq_true] at hc
      obtain ⟨w', μ', h1, h2⟩ := x_store hr (sizeT_spec hc.1.1) (he.arg hc.1.2) (he.arg hc.2) hv
      exact ⟨undef, w', S, μ', .inr ⟨by simp [execOp, hy, h1], rfl⟩, h2, .nov⟩
    · cases hc
  | mkslice sz ag zero n c =>
    simp only [chkX] at hc
    split at hc
    · rename_i T n' c' hy
      simp only [Bool.and_eq_true, decide_eq_true_eq, beq_iff_eq, Bool.or_eq_true] at hc
      obtain ⟨⟨⟨⟨⟨h1, h2⟩, h3⟩, hag⟩, h4⟩, h5⟩ := hc
      split at h1
      · rename_i e hT
        simp only [Bool.and_eq_true] at h1
        obtain ⟨i, z, hi, hsz, hb, _, _⟩ := rowT_spec h1.1
        have hag' : ag = false → sz = 1 := fun e => by
          rcases hag with h | h
          · rw [h] at e; cases e
          · exact h
        exact .of (by simp only [execOp, hy]) (x_mkslice hr hT hi hsz h1.2 h2 h3 hag' hb (he.arg h4) (he.arg h5) hv)
      · cases h1
    · cases hc
  | brow sz ag n zero parts =>
    simp only [chkX] at hc
    split at hc
    · rename_i T n' ps hy
      simp only [Bool.and_eq_true, decide_eq_true_eq, beq_iff_eq, Bool.or_eq_true] at hc
      obtain ⟨⟨⟨⟨⟨h1, rfl⟩, h0⟩, hag⟩, hn⟩, h3⟩ := hc
      split at h1
      · rename_i e hT
        simp only [Bool.and_eq_true] at h1
        have hag' : ag = false → sz = 1 := fun e => by
          rcases hag with h | h
          · rw [h] at e; cases e
          · exact h
        obtain ⟨u, w', μ', h4, h5, h6⟩ := x_brow (N := N) (μ := μ) (H := H) (parts := ps.toList.map fun x => (x.1, a.eval x.2)) hr hT (sizeT_spec h1.1) h0 hag' (by omega) h1.2
          (by
            have := he.parts h3
            refine this.imp fun x y hxy => ⟨?_, hxy.2⟩
            simpa using hxy.1) hv
        refine ⟨u, w', S, μ', .inl ?_, h5, h6⟩
        have e1 : (ps.toList.map fun x => (x.1, a.eval x.2)).toArray = ps.map fun x => (x.1, a.eval x.2) := by rw [← Array.toList_map]
        rw [e1] at h4
        simp only [execOp, hy]
        simp [h4]
      · cases h1
    · cases hc
  | mkmap =>
    simp only [chkX] at hc
    simp only [evX, Option.some.injEq, Prod.mk.injEq] at hv
    obtain ⟨rfl, rfl⟩ := hv
    split at hc
    · rename_i T hy
      exact .of (by simp only [execOp, hy]; rfl) (x_mkmap (T := T) hr)
    · cases hc
  | mset kd x k v =>
    simp only [chkX] at hc
    simp only [evX, Option.map_eq_some_iff, Prod.mk.injEq] at hv
    obtain ⟨H1, hv, rfl, rfl⟩ := hv
    split at hc
    · rename_i T x' k' v' hy
      simp only [Bool.and_eq_true] at hc
      obtain ⟨⟨⟨h1, h2⟩, h3⟩, h4⟩ := hc
      split at h1
      · rename_i kt e hT
        split at h1
        · rename_i d hd
          obtain ⟨w', μ', h5, h6⟩ := x_mset hr hT (by rw [hd, kdIs_spec h1]) (he.arg h2) (he.arg h3) (he.arg h4) hv
          refine ⟨undef, w', S, μ', .inr ⟨?_, rfl⟩, h6, .nov⟩
          simp only [execOp, hy]
          simp [h5]
        · cases h1
      · cases h1
    · cases hc
  | mdel kd x k =>
    simp only [chkX] at hc
    simp only [evX, Option.map_eq_some_iff, Prod.mk.injEq] at hv
    obtain ⟨H1, hv, rfl, rfl⟩ := hv
    split at hc
    · rename_i x' k' T T' hy
      simp only [Bool.and_eq_true] at hc
      obtain ⟨⟨h1, h2⟩, h3⟩ := hc
      split at h1
      · rename_i kt e hT
        split at h1
        · rename_i d hd
          obtain ⟨w', μ', h5, h6⟩ := x_mdel (ts := #[T, T']) (t0 := o.type) hr hT (by rw [hd, kdIs_spec h1]) (he.arg h2) (he.arg h3) rfl hv
          obtain ⟨cs, hx⟩ := exec_builtin (a := a) hy
          refine ⟨.tuple #[], w', S, μ', .inl ?_, h6, .any _⟩
          have e1 : execOp a.eval o = (do pure (.value (← Builtin.delete_ #[T, T'] o.type #[a.eval x', a.eval k']))) := by rw [hx]; rfl
          simp [e1, h5]
        · cases h1
      · cases h1
    · cases hc
  | newrow sz =>
    simp only [chkX] at hc
    simp only [evX, Option.some.injEq, Prod.mk.injEq] at hv
    obtain ⟨rfl, rfl⟩ := hv
    split at hc
    · rename_i hy
      obtain ⟨μ', h1, h2⟩ := x_newrow hr (of_decide_eq_true hc)
      exact ⟨_, w, S, μ', .inl (by simp [execOp, hy]; rfl), h1, h2⟩
    · cases hc
  | append sz x y =>
    simp only [chkX] at hc
    split at hc
    · rename_i x' y' T T' hy
      simp only [Bool.and_eq_true, decide_eq_true_eq, beq_iff_eq] at hc
      obtain ⟨⟨⟨⟨rfl, h1⟩, h0⟩, h2⟩, h3⟩ := hc
      split at h1
      · rename_i e hT
        obtain ⟨i, z, hi, hsz, hb, hz, hzs⟩ := rowT_spec h1
        obtain ⟨cs, hx⟩ := exec_builtin (a := a) hy
        simp only [evX, Option.bind_eq_some_iff] at hv
        obtain ⟨ys, hys, hv⟩ := hv
        obtain ⟨news, h4, h5⟩ := elems_src hr h0 (he.arg h3) hys
        obtain ⟨v', w', μ', h6⟩ := x_appendA (ty := o.type) hr (slT_spec hT) hi hz hsz hzs h0 hb (he.arg h2) h4 h5 hv
        refine .of (r := Builtin.append_ #[T', T'] o.type #[a.eval x', a.eval y']) (by rw [hx]; rfl) ⟨v', w', μ', h6⟩
      · cases h1
    · cases hc
  | range x =>
    simp only [chkX] at hc
    split at hc
    · rename_i T x' hy
      simp only [Bool.and_eq_true] at hc
      exact .of (by simp only [execOp, hy]) (x_range hr hc.1 (he.arg hc.2) hv)
    · cases hc
  | next x =>
    simp only [chkX] at hc
    split at hc
    · rename_i x' hy
      exact .of (r := Go.Instr.next (a.eval x') true o.type) (by simp only [execOp, hy]) (x_next hr (he.arg hc) hv)
    · cases hc
  | appendS x y => cases hc
  | copy sz x y => cases hc
  | bytesOf x => cases hc
  | slicef sz x lo hi =>
    simp only [chkX] at hc
    split at hc
    · rename_i T x' lo' hi' hy
      simp only [Bool.and_eq_true] at hc
      obtain ⟨⟨⟨h1, h2⟩, h3⟩, h4⟩ := hc
      split at h1
      · rename_i e hT
        obtain ⟨u, w', S', μ', g1, g2, g3⟩ := x_slicef hr hT (sizeT_spec h1) (he.arg h2) (he.opt h3) (he.opt h4) hv
        have hex : execOp a.eval o = (do pure (.value (← Go.Instr.sliceAt T (a.eval x') (lo'.map a.eval) (hi'.map a.eval) none))) := by simp only [execOp, hy]; rfl
        exact ⟨u, w', S', μ', .inl (by simp [hex, g1]), g2, g3⟩
      · cases h1
    · cases hc
  | callf f args => cases hq
  | calls f args => cases hq
  | callz f args => cases hq
  | pureq q => cases hq
  | treeq q => cases hq
  | bslicef sz ag n zero parts => cases hq
  | fbox x => cases hq
end
end Ab
