import Derived.Test.YtgdkafbcchkplaaGreatDoorAbX3
import Derived.Laws.MakeOwn
namespace Ab
open Go (IntKind BinOp UnOp World Value Addr Obj undef maxLen Program TypeId Oper Op Operand Act Sem Next Result execOp Builtin)
section
variable {Γ : Ctx} {N : Names} {P : Program} {w : World} {S T : Nat → Prop} {μ : Nat → Value} {H : Heap}

theorem RelP.more {ν : Nat → Nat} {v u} (h : RelP ν w S v u) (hS : ∀ g, S g → T g) : RelP ν w T v u := h.keep hS (fun _ _ => rfl)

/-- A row as a tree. -/
theorem row_relP (hr : Rel N.fn w S μ H) {id : Nat} {f : Bool} {sz : Nat} {xs : List PV} (hb : H[id]? = some (.row f sz xs)) (hS : ∀ g, S g → T g) (hT : ∀ g, blkOf (μ id) = some g → T g) : RelP N.fn w T (.sl .any sz xs) (μ id) := by
  obtain ⟨h0, _, us, h1, h2, h3, _⟩ := hr.blk id _ hb
  have h1' := h1
  obtain ⟨hl, h1⟩ := h1
  rcases h1 with ⟨e0, a, ha⟩ | ⟨g, cap, cur, e, hv, hc, hg, hn, hm, hcs, ht⟩
  · have : xs = [] := List.eq_nil_of_length_eq_zero e0
    subst this
    rw [ha]
    exact .sl .any sz [] a 0 (fun _ _ => undef) (Nat.le_refl _) (Nat.zero_le _) (by simp) (by simp) (by simp) (by simp) (by simp) (by simp)
  · have hTg : T g := hT g (by rw [hv]; simp only [blkOf]; rw [if_neg (by omega)])
    rw [hv]
    refine .sl .any sz xs _ cap (fun i j => us.getD (i * sz + j) undef) hn hm h2 (by simp) (by simp) (fun _ => ⟨_, rfl, hTg⟩) (fun ad had i x j c hx hc => ?_) (fun i x j c hx hc => (h3 i x j c hx hc).more hS)
    cases had
    have hj : j < sz := by rw [← (h2 x (List.mem_of_getElem? hx)).1]; exact (List.getElem?_eq_some_iff.1 hc).1
    have hi : i < xs.length := (List.getElem?_eq_some_iff.1 hx).1
    rw [Go.Addr.add_lit, Nat.zero_add]
    refine row_cell h1' hv ?_
    calc i * sz + j < i * sz + sz := by omega
      _ = (i + 1) * sz := by rw [Nat.add_mul, Nat.one_mul]
      _ ≤ xs.length * sz := Nat.mul_le_mul_right _ hi

theorem mapO_spec {α β : Type} {f : α → Option β} : ∀ {l : List α} {r : List β}, mapO f l = some r → r.length = l.length ∧ ∀ (j : Nat) x, r[j]? = some x → ∃ a, l[j]? = some a ∧ f a = some x
  | [], r, h => by simp only [mapO, Option.some.injEq] at h; subst h; simp
  | a :: l, r, h => by
    simp only [mapO] at h
    cases hf : f a with
    | none => simp [hf] at h
    | some x =>
      simp only [hf] at h
      cases hm : mapO f l with
      | none => simp [hm] at h
      | some xs =>
        simp only [hm, Option.some.injEq] at h
        subst h
        obtain ⟨h1, h2⟩ := mapO_spec hm
        refine ⟨by simp [h1], fun j y hy => ?_⟩
        cases j with
        | zero => simp only [List.getElem?_cons_zero, Option.some.injEq] at hy; subst hy; exact ⟨a, rfl, hf⟩
        | succ j => simpa using h2 j y (by simpa using hy)

theorem reify_one {d : Nat} {v : AV} {p : PV} (h : reify H d v = some p) (h1 : v.one = true) : p.one = true := by
  cases d with
  | zero =>
    cases v <;> simp only [reify, Option.some.injEq, reduceCtorEq] at h
    subst h; exact h1
  | succ d =>
    cases v with
    | p v => simp only [reify, Option.some.injEq] at h; subst h; exact h1
    | own id n => simp only [reify, Option.map_eq_some_iff] at h; obtain ⟨_, _, rfl⟩ := h; rfl
    | bx id off =>
      simp only [reify, Option.bind_eq_some_iff, Option.ite_none_right_eq_some, Option.map_eq_some_iff] at h
      obtain ⟨_, _, _, _, _, rfl⟩ := h; rfl
    | el id n i off =>
      simp only [reify, Option.bind_eq_some_iff, Option.ite_none_right_eq_some, Option.some.injEq] at h
      obtain ⟨_, _, _, _, _, rfl⟩ := h; rfl
    | clo f cs => simp only [reify, Option.map_eq_some_iff] at h; obtain ⟨_, _, rfl⟩ := h; rfl
    | agg => cases h1
    | tup => cases h1
    | nov => cases h1
    | any => cases h1

theorem getD_array {us : Array Value} {j : Nat} : us.getD j undef = us.toList.getD j undef := getD_toList.symm

/-- A value as a tree, all that it leads to being stable for the while. -/
theorem reify_rel (hr : Rel N.fn w S μ H) (hS : ∀ g, S g → T g) (hT : ∀ (id : Nat) b g, H[id]? = some b → blkOf (μ id) = some g → T g) : ∀ (d : Nat) {v : AV} {u : Value} {p : PV}, RelV N.fn w S μ H v u → reify H d v = some p → RelP N.fn w T p u := by
  intro d
  induction d with
  | zero =>
    intro v u p h hp
    cases v <;> simp only [reify, Option.some.injEq, reduceCtorEq] at hp
    subst hp
    exact h.p_inv.more hS
  | succ d ih =>
    intro v u p h hp
    have cells : ∀ {cs : List AV} {us : Array Value} {ps : List PV}, mapO (reify H d) cs = some ps → us.size = cs.length → (∀ c ∈ cs, c.one = true) → (∀ j c, cs[j]? = some c → RelV N.fn w S μ H c (us.getD j undef)) →
        us.size = ps.length ∧ (∀ c ∈ ps, c.one = true) ∧ ∀ (j : Nat) c, ps[j]? = some c → RelP N.fn w T c (us.getD j undef) := by
      intro cs us ps hm h1 h2 h3
      obtain ⟨m1, m2⟩ := mapO_spec hm
      refine ⟨by rw [m1, h1], fun c hc => ?_, fun j c hc => ?_⟩
      · obtain ⟨j, hj⟩ := List.getElem?_of_mem hc
        obtain ⟨a, ha, hf⟩ := m2 j c hj
        exact reify_one hf (h2 a (List.mem_of_getElem? ha))
      · obtain ⟨a, ha, hf⟩ := m2 j c hc
        exact ih (h3 j a ha) hf
    cases v with
    | p v => simp only [reify, Option.some.injEq] at hp; subst hp; exact h.p_inv.more hS
    | own id n =>
      simp only [reify, Option.map_eq_some_iff] at hp
      obtain ⟨⟨sz, xs⟩, hb, rfl⟩ := hp
      rw [h.own_inv hb]
      obtain ⟨f, h1, _⟩ := rowOf_spec hb
      exact row_relP hr h1 hS (fun g hg => hT id _ g h1 hg)
    | bx id off =>
      simp only [reify, Option.bind_eq_some_iff, Option.ite_none_right_eq_some, Option.map_eq_some_iff] at hp
      obtain ⟨cs, hb, hlt, ps, hm, rfl⟩ := hp
      have hb0 := hb
      have hb := boxOf_spec hb
      obtain ⟨g, rfl, hl, hg⟩ := h.bx_inv
      obtain ⟨g', arr, t, e1, e2, e3, e4, e5⟩ := hr.box_of hb0
      rw [hg cs hb] at e1
      cases e1
      obtain ⟨m1, m2⟩ := mapO_spec hm
      have get : ∀ (j : Nat) c, ps[j]? = some c → ∃ a, cs[off + j]? = some a ∧ reify H d a = some c := by
        intro j c hc
        obtain ⟨a, ha, hf⟩ := m2 j c hc
        rw [List.getElem?_drop] at ha
        exact ⟨a, ha, hf⟩
      refine .ptr ps _ (fun j => arr.getD (off + j) undef) (fun e => ?_) (hT id _ g hb (by rw [hg cs hb]; rfl)) (fun c hc => ?_) (fun j c hc => ?_) (fun j c hc => ?_)
      · rw [e] at m1; simp at m1; omega
      · obtain ⟨j, hj⟩ := List.getElem?_of_mem hc
        obtain ⟨a, ha, hf⟩ := get j c hj
        exact reify_one hf (e4 a (List.mem_of_getElem? ha))
      · obtain ⟨a, ha, _⟩ := get j c hc
        have hlt : off + j < arr.size := by rw [e3]; exact (List.getElem?_eq_some_iff.1 ha).1
        rw [Go.Addr.add_lit, Go.cell_of_row w g _ arr t _ e2]
        simp [hlt]
      · obtain ⟨a, ha, hf⟩ := get j c hc
        exact ih (e5 _ a ha) hf
    | el id n i off =>
      simp only [reify, Option.bind_eq_some_iff, Option.ite_none_right_eq_some, Option.some.injEq] at hp
      obtain ⟨⟨sz, xs⟩, hb, x, hx, hlt, rfl⟩ := hp
      obtain ⟨f, h1, h2⟩ := rowOf_spec hb
      simp only at h2 hx
      have hi : i < n := by rw [← h2]; exact (List.getElem?_eq_some_iff.1 hx).1
      obtain ⟨f', sz', xs', g, cap, k1, k2, k3, k4, rfl⟩ := h.el_inv (by simp [elOk, hb, hi])
      rw [h1] at k1
      cases k1
      have hb' := hr.blk id _ h1
      obtain ⟨_, _, us, r1, r2, r3, _⟩ := hb'
      rw [h2] at r1
      have hxm := r2 x (List.mem_of_getElem? hx)
      refine .ptr _ _ (fun j => us.getD (i * sz + (off + j)) undef) (fun e => ?_) ?_ (fun c hc => hxm.2 c (List.mem_of_mem_drop hc)) (fun j c hc => ?_) (fun j c hc => ?_)
      · rw [List.drop_eq_nil_iff] at e; omega
      · refine hT id _ g h1 ?_
        rw [k4]
        simp only [blkOf]
        obtain ⟨_, r1⟩ := r1
        rcases r1 with ⟨h0, _⟩ | ⟨g', cap', _, _, hv, hc, _⟩
        · omega
        · rw [k4] at hv; cases hv; rw [if_neg (by omega)]
      · rw [List.getElem?_drop] at hc
        have hlt2 : off + j < sz := by rw [← show x.cells.length = sz from hxm.1]; exact (List.getElem?_eq_some_iff.1 hc).1
        rw [Go.Addr.add_lit, Nat.add_assoc]
        refine row_cell r1 k4 ?_
        calc i * sz + (off + j) < i * sz + sz := by omega
          _ = (i + 1) * sz := by rw [Nat.add_mul, Nat.one_mul]
          _ ≤ n * sz := Nat.mul_le_mul_right _ hi
      · rw [List.getElem?_drop] at hc
        exact (r3 i x _ c hx hc).more hS
    | agg cs =>
      simp only [reify, Option.map_eq_some_iff] at hp
      obtain ⟨ps, hm, rfl⟩ := hp
      cases h with
      | agg _ us h1 h2 h3 =>
      obtain ⟨k1, k2, k3⟩ := cells hm h1 h2 h3
      exact .agg ps us k1 k2 k3
    | clo f cs =>
      simp only [reify, Option.map_eq_some_iff] at hp
      obtain ⟨ps, hm, rfl⟩ := hp
      cases h with
      | clo _ _ us h1 h2 h3 =>
      obtain ⟨k1, k2, k3⟩ := cells hm h1 h2 h3
      exact .clo f ps us k1 k2 k3
    | tup => simp [reify] at hp
    | nov => simp [reify] at hp
    | any => simp [reify] at hp

theorem flat1_rel {ν : Nat → Nat} {w' : World} {S' : Nat → Prop} {p : PV} {u : Value} (hf : flat1 p = true) (h : RelP ν w S p u) : RelP ν w' S' p u := by
  cases h with
  | int => exact .int _ _
  | bool => exact .bool _
  | str => exact .str _
  | nilp => exact .nilp
  | nilfn => exact .nilfn
  | nilmap => exact .nilmap
  | sl k sz xs a cap us h1 h2 h3 h4 h5 h6 h7 h8 =>
    cases k with
    | nil =>
      obtain ⟨rfl, rfl, rfl⟩ := h4 rfl
      exact .sl .nil sz [] none 0 us (Nat.le_refl _) (Nat.zero_le _) (by simp) (by simp) (by simp) (by simp) (by simp) (by simp)
    | tight => cases hf
    | any => cases hf
    | mem => cases hf
  | clo => cases hf
  | ptr => cases hf
  | agg => cases hf
theorem flat_rel {ν : Nat → Nat} {w' : World} {S' : Nat → Prop} {p : PV} {u : Value} (hf : flat p = true) (h : RelP ν w S p u) : RelP ν w' S' p u := by
  cases p with
  | agg cs =>
    cases h with
    | agg _ us h1 h2 h3 =>
    simp only [flat, List.all_eq_true] at hf
    exact .agg cs us h1 h2 (fun j c hc => flat1_rel (hf c (List.mem_of_getElem? hc)) (h3 j c hc))
  | _ => exact flat1_rel hf h

/-! A row is changed no more. -/
theorem step_freeze1 (hr : Rel N.fn w S μ H) {id : Nat} {f : Bool} {sz : Nat} {xs : List PV} (hb : H[id]? = some (.row f sz xs)) :
    Step N.fn w S μ H w (fun g => S g ∨ blkOf (μ id) = some g) μ (H.set id (.row true sz xs)) := by
  have hlt := (List.getElem?_eq_some_iff.1 hb).1
  have get : ∀ (i : Nat) b, (H.set id (.row true sz xs))[i]? = some b → (i = id ∧ b = .row true sz xs) ∨ (i ≠ id ∧ H[i]? = some b) := by
    intro i b h
    simp only [List.getElem?_set, hlt, if_true] at h
    split at h
    · rename_i e; subst e; simp only [Option.some.injEq] at h; exact .inl ⟨rfl, h.symm⟩
    · rename_i e; exact .inr ⟨Ne.symm e, h⟩
  have hm : Moves μ H μ (H.set id (.row true sz xs)) := by
    refine ⟨by simp, fun i f' sz' ys hl h => ?_, fun i cs hl h => ?_⟩
    · rcases get i _ h with ⟨rfl, e⟩ | ⟨_, h⟩
      · cases e; exact ⟨f, xs, hb, Nat.le_refl _, fun _ => rfl⟩
      · exact ⟨f', ys, h, Nat.le_refl _, fun _ => rfl⟩
    · rcases get i _ h with ⟨rfl, e⟩ | ⟨_, h⟩
      · cases e
      · exact ⟨cs, h, rfl⟩
  have al : ∀ (i : Nat) b, (H.set id (.row true sz xs))[i]? = some b → isAlive b → i ≠ id ∧ H[i]? = some b := by
    intro i b h ha
    rcases get i b h with ⟨rfl, rfl⟩ | h
    · rcases ha with ⟨cs, e⟩ | ⟨a, b, e⟩ <;> cases e
    · exact h
  have alg : ∀ g, alive μ (H.set id (.row true sz xs)) g → alive μ H g := by
    intro g ha
    obtain ⟨i, b, h1, h2, h3⟩ := alive_iff.1 ha
    exact alive_iff.2 ⟨i, b, (al i b h1 h2).2, h2, h3⟩
  refine ⟨⟨fun g h => ?_, fun i b h => ?_, fun g ha hs => ?_, fun i j g hi hj ai aj => ?_⟩, ⟨rfl, rfl, rfl, Nat.le_refl _, fun _ _ _ => rfl, fun g h => .inl h, fun g h _ => ?_, fun g h _ => alg g h⟩, hm⟩
  · rcases h with h | h
    · exact hr.lt g h
    · exact hr.blk_lt hb h
  · have old : ∀ b', H[i]? = some b' → BlkRel N.fn w (fun g => S g ∨ blkOf (μ id) = some g) μ (H.set id (.row true sz xs)) i b' := fun b' hb' => (hr.blk i b' hb').keep (fun _ h => .inl h) (fun _ _ => rfl) hm rfl (fun _ _ => rfl)
    rcases get i b h with ⟨rfl, rfl⟩ | ⟨_, h⟩
    · obtain ⟨h0, hl, us, h1, h2, h3, _⟩ := old _ hb
      exact ⟨h0, hl, us, h1, h2, h3, fun _ g hg => .inr hg⟩
    · exact old b h
  · rcases hs with hs | hs
    · exact hr.apart g (alg g ha) hs
    · obtain ⟨i, b, h1, h2, h3⟩ := alive_iff.1 ha
      obtain ⟨hne, h4⟩ := al i b h1 h2
      cases f with
      | false => exact hne (hr.inj' h4 hb h2 (.inr ⟨sz, xs, rfl⟩) h3 hs)
      | true =>
        obtain ⟨_, _, us, _, _, _, h5⟩ := hr.blk id _ hb
        exact hr.apart g (alg g ha) (h5 rfl g hs)
  · have conv : ∀ k : Nat, ((∃ cs, (H.set id (.row true sz xs))[k]? = some (Blk.box cs)) ∨ ∃ sz' ys, (H.set id (.row true sz xs))[k]? = some (Blk.row false sz' ys)) → (∃ cs, H[k]? = some (Blk.box cs)) ∨ ∃ sz' ys, H[k]? = some (Blk.row false sz' ys) := by
      rintro k (⟨cs, h⟩ | ⟨sz', ys, h⟩)
      · exact .inl ⟨cs, (al k _ h (.inl ⟨cs, rfl⟩)).2⟩
      · exact .inr ⟨sz', ys, (al k _ h (.inr ⟨sz', ys, rfl⟩)).2⟩
    exact hr.inj i j g hi hj (conv i ai) (conv j aj)
  · rcases h with h | h
    · exact .inl h
    · cases f with
      | false => exact .inr (alive_iff.2 ⟨id, _, hb, .inr ⟨sz, xs, rfl⟩, h⟩)
      | true =>
        obtain ⟨_, _, us, _, _, _, h5⟩ := hr.blk id _ hb
        exact .inl (h5 rfl g h)

theorem Moves.trans {μ1 μ2 H1 H2} (a : Moves μ H μ1 H1) (b : Moves μ1 H1 μ2 H2) : Moves μ H μ2 H2 where
  len := Nat.le_trans a.len b.len
  row id f sz xs hl h := by
    obtain ⟨f1, xs1, h1, l1, e1⟩ := b.row id f sz xs (Nat.lt_of_lt_of_le hl a.len) h
    obtain ⟨f2, xs2, h2, l2, e2⟩ := a.row id f1 sz xs1 hl h1
    exact ⟨f2, xs2, h2, Nat.le_trans l2 l1, fun h => (e1 (by omega)).trans (e2 (by omega))⟩
  box id cs hl h := by
    obtain ⟨cs1, h1, e1⟩ := b.box id cs (Nat.lt_of_lt_of_le hl a.len) h
    obtain ⟨cs2, h2, e2⟩ := a.box id cs1 hl h1
    exact ⟨cs2, h2, e1.trans e2⟩

theorem Step.trans {w1 S1 μ1 H1 w2 S2 μ2 H2} (a : Step N.fn w S μ H w1 S1 μ1 H1) (b : Step N.fn w1 S1 μ1 H1 w2 S2 μ2 H2) : Step N.fn w S μ H w2 S2 μ2 H2 := ⟨b.rel, a.ext.trans b.ext, a.moves.trans b.moves⟩
theorem Step.refl (hr : Rel N.fn w S μ H) : Step N.fn w S μ H w S μ H := ⟨hr, Ext.refl, .refl⟩

/-- Rows are changed no more; those that are named are stable then. -/
theorem step_freeze : ∀ (cs : List AV) {S : Nat → Prop} {H : Heap}, Rel N.fn w S μ H → ∃ S', Step N.fn w S μ H w S' μ (freeze H cs) ∧
    (∀ (id : Nat) f sz xs, H[id]? = some (.row f sz xs) → ∃ f', (freeze H cs)[id]? = some (.row f' sz xs) ∧ ((∃ n, AV.own id n ∈ cs) ∨ f = true → f' = true))
  | [], S, H, hr => ⟨S, .refl hr, fun id f sz xs h => ⟨f, h, fun e => by simpa using e⟩⟩
  | c :: cs, S, H, hr => by
    by_cases hc : ∃ id n f sz xs, c = .own id n ∧ H[id]? = some (.row f sz xs)
    · obtain ⟨id, n, f, sz, xs, rfl, hb⟩ := hc
      have hs := step_freeze1 hr hb
      obtain ⟨S', h1, h2⟩ := step_freeze cs hs.rel
      have e : freeze H (.own id n :: cs) = freeze (H.set id (.row true sz xs)) cs := by simp [freeze, hb]
      rw [e]
      refine ⟨S', hs.trans h1, fun i f' sz' ys h => ?_⟩
      have hlt := (List.getElem?_eq_some_iff.1 hb).1
      by_cases he : i = id
      · subst he
        rw [hb] at h; cases h
        obtain ⟨f2, h3, h4⟩ := h2 i true sz xs (by simp [hlt])
        exact ⟨f2, h3, fun _ => h4 (.inr rfl)⟩
      · obtain ⟨f2, h3, h4⟩ := h2 i f' sz' ys (by rw [List.getElem?_set_ne (Ne.symm he)]; exact h)
        refine ⟨f2, h3, fun hh => h4 ?_⟩
        rcases hh with ⟨m, hm⟩ | hh
        · simp only [List.mem_cons, AV.own.injEq] at hm
          rcases hm with ⟨rfl, _⟩ | hm
          · exact absurd rfl he
          · exact .inl ⟨m, hm⟩
        · exact .inr hh
    · have e : freeze H (c :: cs) = freeze H cs := by
        cases c <;> try rfl
        rename_i id n
        simp only [freeze]
        cases hb : H[id]? with
        | none => rfl
        | some b =>
          cases b with
          | box => rfl
          | row f sz xs => exact absurd ⟨id, n, f, sz, xs, rfl, hb⟩ hc
      rw [e]
      obtain ⟨S', h1, h2⟩ := step_freeze cs hr
      refine ⟨S', h1, fun i f sz xs h => ?_⟩
      obtain ⟨f', h3, h4⟩ := h2 i f sz xs h
      refine ⟨f', h3, fun hh => h4 ?_⟩
      rcases hh with ⟨m, hm⟩ | hh
      · rcases List.mem_cons.1 hm with hm | hm
        · exact absurd ⟨i, m, f, sz, xs, hm.symm, h⟩ hc
        · exact .inl ⟨m, hm⟩
      · exact .inr hh
end
end Ab
