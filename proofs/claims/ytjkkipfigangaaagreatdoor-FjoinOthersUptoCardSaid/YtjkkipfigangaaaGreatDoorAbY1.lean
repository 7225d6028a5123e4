import Derived.Test.YtjkkipfigangaaaGreatDoorAbX3
import Derived.Laws.MakeOwn
import Derived.Test.YtjkkipfigangaaaGreatDoorAbBase
namespace Ab
open Go (IntKind BinOp UnOp World Value Addr Obj undef maxLen Program TypeId Oper Op Operand Act Sem Next Result execOp Builtin)
section
variable {Γ : Ctx} {N : Names} {P : Program} {w : World} {S T : Nat → Prop} {μ : Nat → Value} {H : Heap}

theorem RelP.more {ν : Nat → Nat} {v u} (h : RelP ν w S v u) (hS : ∀ g, S g → T g) : RelP ν w T v u := h.keep hS (fun _ _ => rfl)

theorem row_relP (hr : Rel N.fn w S μ H) {id : Nat} {f : Bool} {sz : Nat} {xs : List PV} (hb : H[id]? = some (.row f sz xs)) (hS : ∀ g, S g → T g) (hT : ∀ g, blkOf (μ id) = some g → T g) : RelP N.fn w T (.sl .any sz xs) (μ id) := by
  obtain ⟨h0, _, us, h1, h2, h3, _⟩ := hr.blk id _ hb
  have h1' := h1
  obtain ⟨hl, h1⟩ := h1
  rcases h1 with ⟨e0, a, ha⟩ | ⟨g, cap, cur, e, hv, hc, hg, hn, hm, hcs, ht⟩
  · have : xs = [] := List.eq_nil_of_length_eq_zero e0
    subst this
    rw [ha]
    exact .sl .any sz [] a 0 (fun _ _ => undef) (Nat.le_refl _) (Nat.zero_le _) (by simp) (by simp) (by simp) (by simp) (by simp) (by simp)
  · have hTg : T g := hT g (by rw [hv]; simp only [blkOf]; rw [if_neg (by omega)])
    rw [hv]
    refine .sl .any sz xs _ cap (fun i j => us.getD (i * sz + j) undef) hn hm h2 (by simp) (by simp) (fun _ => ⟨_, rfl, hTg⟩) (fun ad had i x j c hx hc => ?_) (fun i x j c hx hc => (h3 i x j c hx hc).more hS)
    cases had
    have hj : j < sz := by rw [← (h2 x (List.mem_of_getElem? hx)).1]; exact (List.getElem?_eq_some_iff.1 hc).1
    have hi : i < xs.length := (List.getElem?_eq_some_iff.1 hx).1
    rw [Go.Addr.add_lit, Nat.zero_add]
    refine row_cell h1' hv ?_
    calc i * sz + j < i * sz + sz := by omega
      _ = (i + 1) * sz := by rw [Nat.add_mul, Nat.one_mul]
      _ ≤ xs.length * sz := Nat.mul_le_mul_right _ hi

theorem mapO_spec {α β : Type} {f : α → Option β} : ∀ {l : List α} {r : List β}, mapO f l = some r → r.length = l.length ∧ ∀ (j : Nat) x, r[j]? = some x → ∃ a, l[j]? = some a ∧ f a = some x
  | [], r, h => by simp only [mapO, Option.some.injEq] at h; subst h; simp
  | a :: l, r, h => by
    simp only [mapO] at h
    cases hf : f a with
    | none => simp [hf] at h
    | some x =>
      simp only [hf] at h
      cases hm : mapO f l with
      | none => simp [hm] at h
      | some xs =>
        simp only [hm, Option.some.injEq] at h
        subst h
        obtain ⟨h1, h2⟩ := mapO_spec hm
        refine ⟨by simp [h1], fun j y hy => ?_⟩
        cases j with
        | zero => simp only [List.getElem?_cons_zero, Option.some.injEq] at hy; subst hy; exact ⟨a, rfl, hf⟩
        | succ j => simpa using h2 j y (by simpa using hy)

theorem reify_one {d : Nat} {v : AV} {p : PV} (h : reify H d v = some p) (h1 : v.one = true) : p.one = true := by
  cases d with
  | zero =>
    cases v <;> simp only [reify, Option.some.injEq, reduceCtorEq] at h
    subst h; exact h1
  | succ d =>
    cases v with
    | p v => simp only [reify, Option.some.injEq] at h; subst h; exact h1
    | own id n => simp only [reify, Option.map_eq_some_iff] at h; obtain ⟨_, _, rfl⟩ := h; rfl
    | bx id off =>
      simp only [reify, Option.bind_eq_some_iff, Option.ite_none_right_eq_some, Option.map_eq_some_iff] at h
      obtain ⟨_, _, _, _, _, rfl⟩ := h; rfl
    | el id n i off =>
      simp only [reify, Option.bind_eq_some_iff, Option.ite_none_right_eq_some, Option.some.injEq] at h
      obtain ⟨_, _, _, _, _, rfl⟩ := h; rfl
    | clo f cs => simp only [reify, Option.map_eq_some_iff] at h; obtain ⟨_, _, rfl⟩ := h; rfl
    | agg => cases h1
    | tup => cases h1
    | nov => cases h1
    | any => cases h1

theorem getD_array {us : Array Value} {j : Nat} : us.getD j undef = us.toList.getD j undef := getD_toList.symm

theorem reify_rel (hr : Rel N.fn w S μ H) (hS : ∀ g, S g → T g) (hT : ∀ (id : Nat) b g, H[id]? = some b → blkOf (μ id) = some g → T g) : ∀ (d : Nat) {v : AV} {u : Value} {p : PV}, RelV N.fn w S μ H v u → reify H d v = some p → RelP N.fn w T p u := by
  intro d
  induction d with
  | zero =>
    intro v u p h hp
    cases v <;> simp only [reify, Option.some.injEq, reduceCtorEq] at hp
    subst hp
    exact h.p_inv.more hS
  | succ d ih =>
    intro v u p h hp
    have cells : ∀ {cs : List AV} {us : Array Value} {ps : List PV}, mapO (reify H d) cs = some ps → us.size = cs.length → (∀ c ∈ cs, c.one = true) → (∀ j c, cs[j]? = some c → RelV N.fn w S μ H c (us.getD j undef)) →
        us.size = ps.length ∧ (∀ c ∈ ps, c.one = true) ∧ ∀ (j : Nat) c, ps[j]? = some c → RelP N.fn w T c (us.getD j undef) := by
      intro cs us ps hm h1 h2 h3
      obtain ⟨m1, m2⟩ := mapO_spec hm
      refine ⟨by rw [m1, h1], fun c hc => ?_, fun j c hc => ?_⟩
      · obtain ⟨j, hj⟩ := List.getElem?_of_mem hc
        obtain ⟨a, ha, hf⟩ := m2 j c hj
        exact reify_one hf (h2 a (List.mem_of_getElem? ha))
      · obtain ⟨a, ha, hf⟩ := m2 j c hc
        exact ih (h3 j a ha) hf
    cases v with
    | p v => simp only [reify, Option.some.injEq] at hp; subst hp; exact h.p_inv.more hS
    | own id n =>
      simp only [reify, Option.map_eq_some_iff] at hp
      obtain ⟨⟨sz, xs⟩, hb, rfl⟩ := hp
      rw [h.own_inv hb]
      obtain ⟨f, h1, _⟩ := rowOf_spec hb
      exact row_relP hr h1 hS (fun g hg => hT id _ g h1 hg)
    | bx id off =>
      simp only [reify, Option.bind_eq_some_iff, Option.ite_none_right_eq_some, Option.map_eq_some_iff] at hp
      obtain ⟨cs, hb, hlt, ps, hm, rfl⟩ := hp
      have hb0 := hb
      have hb := boxOf_spec hb
      obtain ⟨g, rfl, hl, hg⟩ := h.bx_inv
      obtain ⟨g', arr, t, e1, e2, e3, e4, e5⟩ := hr.box_of hb0
      rw [hg cs hb] at e1
      cases e1
      obtain ⟨m1, m2⟩ := mapO_spec hm
      have get : ∀ (j : Nat) c, ps[j]? = some c → ∃ a, cs[off + j]? = some a ∧ reify H d a = some c := by
        intro j c hc
        obtain ⟨a, ha, hf⟩ := m2 j c hc
        rw [List.getElem?_drop] at ha
        exact ⟨a, ha, hf⟩
      refine .ptr ps _ (fun j => arr.getD (off + j) undef) (fun e => ?_) (hT id _ g hb (by rw [hg cs hb]; rfl)) (fun c hc => ?_) (fun j c hc => ?_) (fun j c hc => ?_)
      · rw [e] at m1; simp at m1; omega
      · obtain ⟨j, hj⟩ := List.getElem?_of_mem hc
        obtain ⟨a, ha, hf⟩ := get j c hj
        exact reify_one hf (e4 a (List.mem_of_getElem? ha))
      · obtain ⟨a, ha, _⟩ := get j c hc
        have hlt : off + j < arr.size := by rw [e3]; exact (List.getElem?_eq_some_iff.1 ha).1
        rw [Go.Addr.add_lit, Go.cell_of_row w g _ arr t _ e2]
        simp [hlt]
      · obtain ⟨a, ha, hf⟩ := get j c hc
        exact ih (e5 _ a ha) hf
    | el id n i off =>
      simp only [reify, Option.bind_eq_some_iff, Option.ite_none_right_eq_some, Option.some.injEq] at hp
      obtain ⟨⟨sz, xs⟩, hb, x, hx, hlt, rfl⟩ := hp
      obtain ⟨f, h1, h2⟩ := rowOf_spec hb
      simp only at h2 hx
      have hi : i < n := by rw [← h2]; exact (List.getElem?_eq_some_iff.1 hx).1
      obtain ⟨f', sz', xs', g, cap, k1, k2, k3, k4, rfl⟩ := h.el_inv (by simp [elOk, hb, hi])
      rw [h1] at k1
      cases k1
      have hb' := hr.blk id _ h1
      obtain ⟨_, _, us, r1, r2, r3, _⟩ := hb'
      rw [h2] at r1
      have hxm := r2 x (List.mem_of_getElem? hx)
      refine .ptr _ _ (fun j => us.getD (i * sz + (off + j)) undef) (fun e => ?_) ?_ (fun c hc => hxm.2 c (List.mem_of_mem_drop hc)) (fun j c hc => ?_) (fun j c hc => ?_)
      · rw [List.drop_eq_nil_iff] at e; omega
      · refine hT id _ g h1 ?_
        rw [k4]
        simp only [blkOf]
        obtain ⟨_, r1⟩ := r1
        rcases r1 with ⟨h0, _⟩ | ⟨g', cap', _, _, hv, hc, _⟩
        · omega
        · rw [k4] at hv; cases hv; rw [if_neg (by omega)]
      · rw [List.getElem?_drop] at hc
        have hlt2 : off + j < sz := by rw [← show x.cells.length = sz from hxm.1]; exact (List.getElem?_eq_some_iff.1 hc).1
        rw [Go.Addr.add_lit, Nat.add_assoc]
        refine row_cell r1 k4 ?_
        calc i * sz + (off + j) < i * sz + sz := by omega
          _ = (i + 1) * sz := by rw [Nat.add_mul, Nat.one_mul]
          _ ≤ n * sz := Nat.mul_le_mul_right _ hi
      · rw [List.getElem?_drop] at hc
        exact (r3 i x _ c hx hc).more hS
    | agg cs =>
      simp only [reify, Option.map_eq_some_iff] at hp
      obtain ⟨ps, hm, rfl⟩ := hp
      cases h with
      | agg _ us h1 h2 h3 =>
      obtain ⟨k1, k2, k3⟩ := cells hm h1 h2 h3
      exact .agg ps us k1 k2 k3
    | clo f cs =>
      simp only [reify, Option.map_eq_some_iff] at hp
      obtain ⟨ps, hm, rfl⟩ := hp
      cases h with
      | clo _ _ us h1 h2 h3 =>
      obtain ⟨k1, k2, k3⟩ := cells hm h1 h2 h3
      exact .clo f ps us k1 k2 k3
    | tup => simp [reify] at hp
    | nov => simp [reify] at hp
    | any => simp [reify] at hp

theorem flat1_rel {ν : Nat → Nat} {w' : World} {S' : Nat → Prop} {p : PV} {u : Value} (hf : flat1 p = true) (h : RelP ν w S p u) : RelP ν w' S' p u := by
  cases h with
  | int => exact .int _ _
  | bool => exact .bool _
  | str => exact .str _
  | nilp => exact .nilp
  | nilfn => exact .nilfn
  | nilmap => exact .nilmap
  | sl k sz xs a cap us h1 h2 h3 h4 h5 h6 h7 h8 =>
    cases k with
    | nil =>
      obtain ⟨rfl, rfl, rfl⟩ := h4 (.inl rfl)
      exact .sl .nil sz [] none 0 us (Nat.le_refl _) (Nat.zero_le _) (by simp) (by simp) (by simp) (by simp) (by simp) (by simp)
    | tight => cases hf
    | any => cases hf
    | mem => cases hf
  | clo => cases hf
  | ptr => cases hf
  | agg => cases hf
theorem flat_rel {ν : Nat → Nat} {w' : World} {S' : Nat → Prop} {p : PV} {u : Value} (hf : flat p = true) (h : RelP ν w S p u) : RelP ν w' S' p u := by
  cases p with
  | agg cs =>
    cases h with
    | agg _ us h1 h2 h3 =>
    simp only [flat, List.all_eq_true] at hf
    exact .agg cs us h1 h2 (fun j c hc => flat1_rel (hf c (List.mem_of_getElem? hc)) (h3 j c hc))
  | _ => exact flat1_rel hf h

theorem step_freeze1 (hr : Rel N.fn w S μ H) {id : Nat} {f : Bool} {sz : Nat} {xs : List PV} (hb : H[id]? = some (.row f sz xs)) :
    Step N.fn w S μ H w (fun g => S g ∨ blkOf (μ id) = some g) μ (H.set id (.row true sz xs)) := by
  have hlt := (List.getElem?_eq_some_iff.1 hb).1
  have get : ∀ (i : Nat) b, (H.set id (.row true sz xs))[i]? = some b → (i = id ∧ b = .row true sz xs) ∨ (i ≠ id ∧ H[i]? = some b) := by
    intro i b h
    simp only [List.getElem?_set, hlt, if_true] at h
    split at h
    · rename_i e; subst e; simp only [Option.some.injEq] at h; exact .inl ⟨rfl, h.symm⟩
    · rename_i e; exact .inr ⟨Ne.symm e, h⟩
  have hm : Moves μ H μ (H.set id (.row true sz xs)) := by
    refine ⟨by simp, fun i f' sz' ys hl h => ?_, fun i cs hl h => ?_⟩
    · rcases get i _ h with ⟨rfl, e⟩ | ⟨_, h⟩
      · cases e; exact ⟨f, xs, hb, Nat.le_refl _, fun _ => rfl⟩
      · exact ⟨f', ys, h, Nat.le_refl _, fun _ => rfl⟩
    · rcases get i _ h with ⟨rfl, e⟩ | ⟨_, h⟩
      · cases e
      · exact ⟨cs, h, rfl⟩
  have al : ∀ (i : Nat) b, (H.set id (.row true sz xs))[i]? = some b → isAlive b → i ≠ id ∧ H[i]? = some b := by
    intro i b h ha
    rcases get i b h with ⟨rfl, rfl⟩ | h
    · rcases ha with ⟨cs, e⟩ | ⟨a, b, e⟩ <;> cases e
    · exact h
  have alg : ∀ g, alive μ (H.set id (.row true sz xs)) g → alive μ H g := by
    intro g ha
    obtain ⟨i, b, h1, h2, h3⟩ := alive_iff.1 ha
    exact alive_iff.2 ⟨i, b, (al i b h1 h2).2, h2, h3⟩
  refine ⟨⟨fun g h => ?_, fun i b h => ?_, fun g ha hs => ?_, fun i j g hi hj ai aj => ?_⟩, ⟨rfl, rfl, rfl, Nat.le_refl _, fun _ _ _ => rfl, fun g h => .inl h, fun g h _ => ?_, fun g h _ => alg g h⟩, hm⟩
  · rcases h with h | h
    · exact hr.lt g h
    · exact hr.blk_lt hb h
  · have old : ∀ b', H[i]? = some b' → BlkRel N.fn w (fun g => S g ∨ blkOf (μ id) = some g) μ (H.set id (.row true sz xs)) i b' := fun b' hb' => (hr.blk i b' hb').keep (fun _ h => .inl h) (fun _ _ => rfl) hm rfl (fun _ _ => rfl)
    rcases get i b h with ⟨rfl, rfl⟩ | ⟨_, h⟩
    · obtain ⟨h0, hl, us, h1, h2, h3, _⟩ := old _ hb
      exact ⟨h0, hl, us, h1, h2, h3, fun _ g hg => .inr hg⟩
    · exact old b h
  · rcases hs with hs | hs
    · exact hr.apart g (alg g ha) hs
    · obtain ⟨i, b, h1, h2, h3⟩ := alive_iff.1 ha
      obtain ⟨hne, h4⟩ := al i b h1 h2
      cases f with
      | false => exact hne (hr.inj' h4 hb h2 (.inr ⟨sz, xs, rfl⟩) h3 hs)
      | true =>
        obtain ⟨_, _, us, _, _, _, h5⟩ := hr.blk id _ hb
        exact hr.apart g (alg g ha) (h5 rfl g hs)
  · have conv : ∀ k : Nat, ((∃ cs, (H.set id (.row true sz xs))[k]? = some (Blk.box cs)) ∨ ∃ sz' ys, (H.set id (.row true sz xs))[k]? = some (Blk.row false sz' ys)) → (∃ cs, H[k]? = some (Blk.box cs)) ∨ ∃ sz' ys, H[k]? = some (Blk.row false sz' ys) := by
      rintro k (⟨cs, h⟩ | ⟨sz', ys, h⟩)
      · exact .inl ⟨cs, (al k _ h (.inl ⟨cs, rfl⟩)).2⟩
      · exact .inr ⟨sz', ys, (al k _ h (.inr ⟨sz', ys, rfl⟩)).2⟩
    exact hr.inj i j g hi hj (conv i ai) (conv j aj)
  · rcases h with h | h
    · exact .inl h
    · cases f with
      | false => exact .inr (alive_iff.2 ⟨id, _, hb, .inr ⟨sz, xs, rfl⟩, h⟩)
      | true =>
        obtain ⟨_, _, us, _, _, _, h5⟩ := hr.blk id _ hb
        exact .inl (h5 rfl g h)

theorem Moves.trans {μ1 μ2 H1 H2} (a : Moves μ H μ1 H1) (b : Moves μ1 H1 μ2 H2) : Moves μ H μ2 H2 where
  len := Nat.le_trans a.len b.len
  row id f sz xs hl h := by
    obtain ⟨f1, xs1, h1, l1, e1⟩ := b.row id f sz xs (Nat.lt_of_lt_of_le hl a.len) h
    obtain ⟨f2, xs2, h2, l2, e2⟩ := a.row id f1 sz xs1 hl h1
    exact ⟨f2, xs2, h2, Nat.le_trans l2 l1, fun h => (e1 (by omega)).trans (e2 (by omega))⟩
  box id cs hl h := by
    obtain ⟨cs1, h1, e1⟩ := b.box id cs (Nat.lt_of_lt_of_le hl a.len) h
    obtain ⟨cs2, h2, e2⟩ := a.box id cs1 hl h1
    exact ⟨cs2, h2, e1.trans e2⟩

theorem Step.trans {w1 S1 μ1 H1 w2 S2 μ2 H2} (a : Step N.fn w S μ H w1 S1 μ1 H1) (b : Step N.fn w1 S1 μ1 H1 w2 S2 μ2 H2) : Step N.fn w S μ H w2 S2 μ2 H2 := ⟨b.rel, a.ext.trans b.ext, a.moves.trans b.moves⟩
theorem Step.refl (hr : Rel N.fn w S μ H) : Step N.fn w S μ H w S μ H := ⟨hr, Ext.refl, .refl⟩

theorem step_freeze : ∀ (cs : List AV) {S : Nat → Prop} {H : Heap}, Rel N.fn w S μ H → ∃ S', Step N.fn w S μ H w S' μ (freeze H cs) ∧
    (∀ (id : Nat) f sz xs, H[id]? = some (.row f sz xs) → ∃ f', (freeze H cs)[id]? = some (.row f' sz xs) ∧ ((∃ n, AV.own id n ∈ cs) ∨ f = true → f' = true))
  | [], S, H, hr => ⟨S, .refl hr, fun id f sz xs h => ⟨f, h, fun e => by simpa using e⟩⟩
  | c :: cs, S, H, hr => by
    by_cases hc : ∃ id n f sz xs, c = .own id n ∧ H[id]? = some (.row f sz xs)
    · obtain ⟨id, n, f, sz, xs, rfl, hb⟩ := hc
      have hs := step_freeze1 hr hb
      obtain ⟨S', h1, h2⟩ := step_freeze cs hs.rel
      have e : freeze H (.own id n :: cs) = freeze (H.set id (.row true sz xs)) cs := by simp [freeze, hb]
      rw [e]
      refine ⟨S', hs.trans h1, fun i f' sz' ys h => ?_⟩
      have hlt := (List.getElem?_eq_some_iff.1 hb).1
      by_cases he : i = id
      · subst he
        rw [hb] at h; cases h
        obtain ⟨f2, h3, h4⟩ := h2 i true sz xs (by simp [hlt])
        exact ⟨f2, h3, fun _ => h4 (.inr rfl)⟩
      · obtain ⟨f2, h3, h4⟩ := h2 i f' sz' ys (by rw [List.getElem?_set_ne (Ne.symm he)]; exact h)
        refine ⟨f2, h3, fun hh => h4 ?_⟩
        rcases hh with ⟨m, hm⟩ | hh
        · simp only [List.mem_cons, AV.own.injEq] at hm
          rcases hm with ⟨rfl, _⟩ | hm
          · exact absurd rfl he
          · exact .inl ⟨m, hm⟩
        · exact .inr hh
    · have e : freeze H (c :: cs) = freeze H cs := by
        cases c <;> try rfl
        rename_i id n
        simp only [freeze]
        cases hb : H[id]? with
        | none => rfl
        | some b =>
          cases b with
          | box => rfl
          | dead => rfl
          | row f sz xs => exact absurd ⟨id, n, f, sz, xs, rfl, hb⟩ hc
      rw [e]
      obtain ⟨S', h1, h2⟩ := step_freeze cs hr
      refine ⟨S', h1, fun i f sz xs h => ?_⟩
      obtain ⟨f', h3, h4⟩ := h2 i f sz xs h
      refine ⟨f', h3, fun hh => h4 ?_⟩
      rcases hh with ⟨m, hm⟩ | hh
      · rcases List.mem_cons.1 hm with hm | hm
        · exact absurd ⟨i, m, f, sz, xs, hm.symm, h⟩ hc
        · exact .inl ⟨m, hm⟩
      · exact .inr hh
end
end Ab
namespace Ab
open Go (IntKind BinOp UnOp World Value Addr Obj undef maxLen Program TypeId Oper Op Operand Act Sem Next Result execOp Builtin)
section
variable {Γ : Ctx} {N : Names} {P : Program} {w : World} {S T : Nat → Prop} {μ : Nat → Value} {H : Heap}

theorem run_askRoom (b : Nat) : (Go.askRoom b).run P w = .ok () w := by
  unfold Go.askRoom
  split
  · simp [Go.mark, Sem.run]
  · simp

theorem replicate_flat {ν : Nat → Nat} {x : PV} {cells : Array Value} {n sz : Nat} (hx : x.cells.length = sz) (h1 : ∀ c ∈ x.cells, c.one = true) (hc : cells.size = sz) (_h0 : 0 < sz)
    (hr : ∀ (j : Nat) c, x.cells[j]? = some c → RelP ν w S c (cells.getD j undef)) {us : List Value} (hu : ∀ t, t < n * sz → us.getD t undef = cells.getD (t % sz) undef) :
    FlatRel ν w S sz (List.replicate n x) us := by
  refine ⟨fun y hy => ?_, fun i y j c hy hc' => ?_⟩
  · rw [List.eq_of_mem_replicate hy]; exact ⟨hx, h1⟩
  · obtain ⟨hi, e⟩ := List.getElem?_eq_some_iff.1 hy
    simp only [List.length_replicate] at hi
    simp only [List.getElem_replicate] at e
    subst e
    have hj : j < sz := by rw [← hx]; exact (List.getElem?_eq_some_iff.1 hc').1
    have hlt : i * sz + j < n * sz := by
      calc i * sz + j < i * sz + sz := by omega
        _ = (i + 1) * sz := by rw [Nat.add_mul, Nat.one_mul]
        _ ≤ n * sz := Nat.mul_le_mul_right _ hi
    rw [hu _ hlt, Nat.add_comm, Nat.add_mul_mod_self_right, Nat.mod_eq_of_lt hj]
    exact hr j c hc'

theorem x_mkslice (hr : Rel N.fn w S μ H) {t e : TypeId} {i : Go.TypeInfo} {sz : Nat} {ag : Bool} {zero : List PV} {n c : Value} {n' c' : AV} {r : AV × Heap} (hT : slT P t = some e) (hi : P.info? e = some i) (hsz : i.size = sz) (hz : zeroT P e zero = true)
    (hzl : zero.length = sz) (h0 : 0 < sz) (hag : ag = false → sz = 1) (hb : i.bytes ≤ 65536) (hn : RelV N.fn w S μ H n' n) (hc : RelV N.fn w S μ H c' c) (hv : mksliceA H sz ag zero n' c' = some r) :
    ∃ u w' μ', (Go.Instr.makeSlice t n c).run P w = .ok u w' ∧ Step N.fn w S μ H w' S μ' r.2 ∧ RelV N.fn w' S μ' r.2 r.1 u := by
  have lim_eq : lim = 1073741824 := rfl
  unfold zeroT at hz
  split at hz
  rotate_left
  · cases hz
  rename_i z hzz
  obtain ⟨i', hi', hzi⟩ := Option.bind_eq_some_iff.1 hzz
  rw [hi] at hi'; cases hi'
  obtain ⟨z1, z2, z3⟩ := consts_rel (ν := N.fn) (w := w) (S := S) hz
  have hzs : z.cells.size = sz := by rw [← hzl, ← z1]; simp
  unfold mksliceA at hv
  split at hv
  rotate_left
  · cases hv
  rename_i k1 n k2 c
  rw [hn.int_inv, hc.int_inv]
  -- the run
  have run : ∀ m cp : Nat, m ≤ cp → cp ≤ lim → n = m → c = cp → (Go.Instr.makeSlice t (.int k1 n) (.int k2 c)).run P w =
      .ok (.slice (some ⟨w.heap.size, 0, none⟩) m cp) (w.alloc (.cells ((Array.range (cp * sz)).map (z.cells[· % z.cells.size]!)) e)) := by
    intro m cp h1 h2 e1 e2
    subst e1 e2
    have w1 : IntKind.i64.wrap (m : Int) = m := wrap_i64 (by omega) (by omega)
    have w2 : IntKind.i64.wrap (cp : Int) = cp := wrap_i64 (by omega) (by omega)
    have big : ¬ ((i.bytes : Int) * (cp : Int) > 2 ^ 48) := by
      have : i.bytes * cp ≤ 65536 * 1073741824 := Nat.mul_le_mul hb (by omega)
      have h3 : ((i.bytes * cp : Nat) : Int) ≤ (65536 * 1073741824 : Nat) := by exact_mod_cast this
      rw [Int.natCast_mul] at h3
      have h4 : ((65536 * 1073741824 : Nat) : Int) ≤ 2 ^ 48 := by decide
      omega
    have n1 : ¬ ((cp : Int) < 0) := by omega
    have n2 : ¬ ((m : Int) < 0) := by omega
    have n3 : ¬ ((m : Int) > cp) := by omega
    have cnd : (decide ((cp : Int) < 0) || decide ((i.bytes : Int) * (cp : Int) > 2 ^ 48) || decide ((m : Int) < 0) || decide ((m : Int) > cp)) = false := by
      simp only [Bool.or_eq_false_iff]
      exact ⟨⟨⟨decide_eq_false n1, decide_eq_false big⟩, decide_eq_false n2⟩, decide_eq_false n3⟩
    simp only [Go.Instr.makeSlice, Go.Sem.run_bind, Go.run_underlying (slT_spec hT), Go.Result.andThen_ok, Go.asInt, Go.asIntOf, Go.Sem.run_pure, Go.typeInfo, hi, Go.run_program, w1, w2]
    simp only [cnd, Bool.false_eq_true, if_false, Go.Sem.run_bind, run_askRoom, Go.Result.andThen_ok, Go.sizeOf, Go.typeInfo, Go.run_program, hi, Go.Sem.run_pure, hsz, Int.toNat_natCast]
    by_cases h5 : cp * sz = 0
    · have e0 : ∀ f : Nat → Value, (Array.range 0).map f = #[] := fun f => by simp
      simp only [h5, if_true, e0]
      simp [Go.newRow]
    · simp only [h5, if_false, Go.Sem.run_bind, Go.zeroValue, Go.typeInfo, Go.run_program, hi, Go.Sem.run_pure, Go.Result.andThen_ok, hzi]
      simp [Go.newRow]
  have get : ∀ cp t' : Nat, t' < cp * sz → ((Array.range (cp * sz)).map (z.cells[· % z.cells.size]!)).getD t' undef = z.cells.getD (t' % sz) undef := by
    intro cp t' ht
    have hm : t' % sz < z.cells.size := by rw [hzs]; exact Nat.mod_lt _ h0
    rw [Array.getD_eq_getD_getElem?, Array.getD_eq_getD_getElem?, Array.getElem?_map, Array.getElem?_range, if_pos ht, hzs]
    simp only [Option.map_some, Option.getD_some]
    rw [getElem!_pos z.cells _ hm, Array.getElem?_eq_getElem hm, Option.getD_some]
  have xc : (if ag = true then PV.agg zero else zero.headD .nilp).cells = zero := by
    cases ag with
    | true => rfl
    | false =>
      have := hag rfl
      match zero, hzl with
      | [q], _ => exact PV.cells_one (z2 q (by simp))
      | [], h => simp at h; omega
      | _ :: _ :: _, h => simp at h; omega
  have mk : ∀ m cp : Nat, m ≤ cp → cp ≤ lim → n = m → c = cp → ∀ xs, xs = List.replicate m (if ag = true then PV.agg zero else zero.headD .nilp) →
      ∃ u w' μ', (Go.Instr.makeSlice t (.int k1 n) (.int k2 c)).run P w = .ok u w' ∧ Step N.fn w S μ H w' S μ' (H ++ [.row false sz xs]) ∧ RelV N.fn w' S μ' (H ++ [.row false sz xs]) (.own H.length m) u := by
    intro m cp h1 h2 e1 e2 xs hxs
    have hxl : xs.length = m := by rw [hxs]; simp
    have hg := Grows.alloc w (.cells ((Array.range (cp * sz)).map (z.cells[· % z.cells.size]!)) e)
    have hle : m * sz ≤ cp * sz := Nat.mul_le_mul_right _ h1
    have hrow : RowAt (w.alloc (.cells ((Array.range (cp * sz)).map (z.cells[· % z.cells.size]!)) e)) (.slice (some ⟨w.heap.size, 0, none⟩) m cp) sz m (((Array.range (cp * sz)).map (z.cells[· % z.cells.size]!)).toList.take (m * sz)) := by
      refine ⟨by simp only [List.length_take, Array.length_toList, Array.size_map, Array.size_range]; omega, ?_⟩
      by_cases hcp : cp = 0
      · exact .inl ⟨by omega, _, by subst hcp; rw [show m = 0 by omega]⟩
      · exact .inr ⟨w.heap.size, cp, _, e, rfl, by omega, Go.heap_alloc_new w _, h1, by simp only [maxLen]; omega, by simp, rfl⟩
    have hflat : FlatRel N.fn (w.alloc (.cells ((Array.range (cp * sz)).map (z.cells[· % z.cells.size]!)) e)) S sz xs (((Array.range (cp * sz)).map (z.cells[· % z.cells.size]!)).toList.take (m * sz)) := by
      rw [hxs]
      refine (replicate_flat (by rw [xc, hzl]) (fun c hc => z2 c (by rw [xc] at hc; exact hc)) hzs h0 (fun j c hc => ?_) (fun t' ht => ?_)).keep (hr.keepS hg)
      · rw [xc] at hc
        have := z3 j c hc
        rwa [getD_toList] at this
      · rw [List.getD_eq_getElem?_getD, List.getElem?_take, if_pos ht, ← List.getD_eq_getElem?_getD, getD_toList]
        exact get cp t' (by omega)
    rw [← hxl] at hrow
    obtain ⟨μ', s1, s2⟩ := step_newrow hr hg h0 (by omega) hrow (by rw [hxl]; exact hflat) (fun g hg => by
      simp only [blkOf] at hg
      split at hg
      · cases hg
      · simp only [Option.some.injEq] at hg; omega)
    rw [hxl] at s2
    exact ⟨_, _, μ', run m cp h1 h2 e1 e2, s1, s2⟩
  split at hv
  · rename_i hc1
    obtain ⟨g1, g2, g3⟩ := hc1
    simp only [Option.some.injEq] at hv
    subst hv
    have e1 : n = (n.toNat : Int) := by omega
    exact mk n.toNat n.toNat (Nat.le_refl _) (by omega) e1 (by omega) _ rfl
  · simp only [Option.ite_none_right_eq_some, Option.some.injEq] at hv
    obtain ⟨⟨g1, g2, g3⟩, rfl⟩ := hv
    exact mk 0 c.toNat (Nat.zero_le _) (by omega) (by simpa using g1) (by omega) _ (by simp)
end
end Ab
namespace Ab
open Go (IntKind BinOp UnOp World Value Addr Obj undef maxLen Program TypeId Oper Op Operand Act Sem Next Result execOp Builtin)
section
variable {Γ : Ctx} {N : Names} {P : Program} {w : World} {S : Nat → Prop} {μ : Nat → Value} {H : Heap}

theorem x_range (hr : Rel N.fn w S μ H) {T : TypeId} {x : Value} {x' : AV} {r : AV × Heap} (hT : strT P T = true) (hx : RelV N.fn w S μ H x' x) (hv : rangeA H x' = some r) :
    ∃ u w' μ', (Go.Instr.range T x).run P w = .ok u w' ∧ Step N.fn w S μ H w' S μ' r.2 ∧ RelV N.fn w' S μ' r.2 r.1 u := by
  unfold rangeA at hv
  split at hv
  rotate_left
  · cases hv
  rename_i s
  simp only [Option.some.injEq] at hv
  subst hv
  rw [hx.str_inv]
  refine ⟨.pointer (some ⟨w.heap.size, 0, none⟩), w.alloc (.stringIter ⟨s.toArray⟩ 0), upd μ H.length (.pointer (some ⟨w.heap.size, 0, none⟩)), ?_, Step.push hr (Grows.alloc w _) ?_ ?_, ?_⟩
  · simp [Go.Instr.range, Go.run_underlying (strT_spec hT), Go.newObj, Go.Sem.run]
  · exact ⟨w.heap.size, upd_same, .inr ⟨s, 0, rfl, Go.heap_alloc_new w _⟩⟩
  · intro g hg
    simp only [blkOf, Option.some.injEq] at hg
    omega
  · exact .bx _ _ w.heap.size _ (by simp) (fun _ _ => upd_same) rfl

theorem x_next (hr : Rel N.fn w S μ H) {ty : TypeId} {x : Value} {x' : AV} {r : AV × Heap} (hx : RelV N.fn w S μ H x' x) (hv : nextA H x' = some r) :
    ∃ u w' μ', (Go.Instr.next x true ty).run P w = .ok u w' ∧ Step N.fn w S μ H w' S μ' r.2 ∧ RelV N.fn w' S μ' r.2 r.1 u := by
  unfold nextA at hv
  split at hv
  rotate_left
  · cases hv
  rename_i id
  split at hv
  rotate_left
  · cases hv
  rename_i s pos hb
  obtain ⟨g, rfl, hl, hg⟩ := hx.bx_inv
  obtain ⟨g', h1, ⟨arr, t, h2, h3, h4, h5⟩ | ⟨s', pos', h2, h3⟩⟩ := hr.blk id _ hb
  · exact absurd (h4 .nov (by simp)) (by simp [AV.one])
  simp only [iterCells, List.cons.injEq, AV.p.injEq, PV.str.injEq, PV.int.injEq, and_true, true_and] at h2
  obtain ⟨rfl, rfl⟩ := h2
  rw [hg _ hb] at h1
  cases h1
  by_cases hlt : (pos' : Int) < s.length
  · have hlt' : pos' < s.length := by omega
    rw [if_pos hlt] at hv
    simp only [Option.some.injEq, Int.toNat_natCast] at hv
    subst hv
    have hm : Moves μ H (upd μ id (.pointer (some ⟨g, 0, none⟩))) (H.set id (.box (iterCells s (pos' + (runeAt s pos').2)))) := moves_set_box hb (hg _ hb).symm
    have hk : ∀ k, k < w.heap.size → blkOf (μ id) ≠ some k → ({ w with heap := w.heap.setIfInBounds g (.stringIter ⟨s.toArray⟩ (pos' + (runeAt s pos').2)) } : World).heap[k]? = w.heap[k]? := by
      intro k _ hne
      rw [hg _ hb] at hne
      have : g ≠ k := fun e => hne (by rw [e]; rfl)
      simp [Array.getElem?_setIfInBounds_ne this]
    have hgl : g < w.heap.size := (Array.getElem?_eq_some_iff.1 h3).1
    refine ⟨.tuple #[.bool true, .int .i64 pos', .int .i32 (runeAt s pos').1], { w with heap := w.heap.setIfInBounds g (.stringIter ⟨s.toArray⟩ (pos' + (runeAt s pos').2)) }, upd μ id (.pointer (some ⟨g, 0, none⟩)), ?_, ?_, ?_⟩
    · have hsz : (ByteArray.mk s.toArray).size = s.length := size_mk s
      simp [Go.Instr.next, Go.getObj, Go.setObj, Go.Sem.run, h3, hsz, hlt', runeAt, Go.goInt]
    · refine Step.set hr hb (.inl ⟨_, rfl⟩) rfl rfl rfl (by simp) hk hm ?_ (fun k h => .inl (by rw [hg _ hb]; exact h))
      exact ⟨g, upd_same, .inr ⟨s, _, rfl, by simp [hgl]⟩⟩
    · refine .tup _ _ (by simp) fun j c hc => ?_
      match j with
      | 0 => simp only [List.getElem?_cons_zero, Option.some.injEq] at hc; subst hc; exact .p _ _ (.bool _)
      | 1 => simp only [List.getElem?_cons_succ, List.getElem?_cons_zero, Option.some.injEq] at hc; subst hc; exact .p _ _ (.int _ _)
      | 2 => simp only [List.getElem?_cons_succ, List.getElem?_cons_zero, Option.some.injEq] at hc; subst hc; exact .p _ _ (.int _ _)
      | j + 3 => simp at hc
  · have hlt' : ¬ pos' < s.length := by omega
    rw [if_neg hlt] at hv
    simp only [Option.some.injEq] at hv
    subst hv
    refine ⟨.tuple #[.bool false], w, μ, ?_, .refl hr, ?_⟩
    · have hsz : (ByteArray.mk s.toArray).size = s.length := size_mk s
      simp [Go.Instr.next, Go.getObj, Go.Sem.run, h3, hsz, hlt']
    · refine .tup _ _ (by simp) fun j c hc => ?_
      match j with
      | 0 => simp only [List.getElem?_cons_zero, Option.some.injEq] at hc; subst hc; exact .p _ _ (.bool _)
      | j + 1 => simp at hc

theorem RelO.step {w' : World} {S' : Nat → Prop} {μ' : Nat → Value} {H' : Heap} (hr : Rel N.fn w S μ H) (hs : Step N.fn w S μ H w' S' μ' H') : ∀ {o : Option AV} {u : Option Value}, RelO N.fn w S μ H o u → RelO N.fn w' S' μ' H' o u := by
  intro o u h
  unfold RelO at *
  split at h
  · exact h
  · exact RelV.keep hs.ext.more (fun g hg => hs.ext.keep g (hr.lt g hg) (hr.stable hg).2) hs.moves h
  · exact h

theorem x_slicef {T e : TypeId} {sz : Nat} {x : Value} {x' : AV} {r : AV × Heap} {lo hi : Option AV} {lo' hi' : Option Value} (hr : Rel N.fn w S μ H) (hT : slT P T = some e) (hs : (P.info? e).map (·.size) = some sz)
    (hx : RelV N.fn w S μ H x' x) (hlo : RelO N.fn w S μ H lo lo') (hhi : RelO N.fn w S μ H hi hi') (hv : slicefA H sz x' lo hi = some r) :
    ∃ u w' S' μ', (Go.Instr.sliceAt T x lo' hi' none).run P w = .ok u w' ∧ Step N.fn w S μ H w' S' μ' r.2 ∧ RelV N.fn w' S' μ' r.2 r.1 u := by
  unfold slicefA at hv
  split at hv
  · rename_i id n
    obtain ⟨rr, hrr, hv⟩ := Option.bind_eq_some_iff.1 hv
    obtain ⟨v, hv', rfl⟩ := Option.map_eq_some_iff.1 hv
    obtain ⟨S', hst, hrow⟩ := step_freeze [.own id n] hr
    obtain ⟨fz, hb, hn⟩ := rowOf_spec hrr
    obtain ⟨f1, hb1, hf1⟩ := hrow id fz rr.1 rr.2 hb
    have := hf1 (.inl ⟨n, by simp⟩)
    subst this
    have hp : RelP N.fn w S' (.sl .any rr.1 rr.2) (μ id) := by
      refine row_relP hr hb hst.ext.more fun g hg => ?_
      obtain ⟨_, _, us, _, _, _, h4⟩ := hst.rel.blk id _ hb1
      exact h4 rfl g hg
    have hx1 : x = μ id := hx.own_inv hrr
    rw [hx1]
    obtain ⟨u, h1, h2⟩ := q_slice hT hs (RelV.p (μ := μ) (H := freeze H [.own id n]) _ _ hp) (RelO.step hr hst hlo) (RelO.step hr hst hhi) hv'
    exact ⟨u, w, S', μ, h1, hst, h2⟩
  · obtain ⟨v, hv', rfl⟩ := Option.map_eq_some_iff.1 hv
    obtain ⟨u, h1, h2⟩ := q_slice hT hs hx hlo hhi hv'
    exact ⟨u, w, S, μ, h1, .refl hr, h2⟩
end
end Ab
namespace Ab
open Go (IntKind BinOp UnOp World Value Addr Obj undef maxLen Program TypeId Oper Op Operand Act Sem Next Result execOp Builtin)
def rowT (P : Program) (e : TypeId) (sz : Nat) : Bool :=
  match P.info? e with
  | some i => i.size == sz && decide (i.bytes ≤ 65536) && (match i.zero with | some z => z.cells.size == sz | none => false)
  | none => false
theorem rowT_spec {P e sz} (h : rowT P e sz = true) : ∃ i z, P.info? e = some i ∧ i.size = sz ∧ i.bytes ≤ 65536 ∧ i.zero = some z ∧ z.cells.size = sz := by
  unfold rowT at h
  split at h
  · rename_i i hi
    simp only [Bool.and_eq_true, beq_iff_eq, decide_eq_true_eq] at h
    obtain ⟨⟨h1, h2⟩, h3⟩ := h
    split at h3
    · rename_i z hz
      simp only [beq_iff_eq] at h3
      exact ⟨i, z, hi, h1, h2, hz, h3⟩
    · cases h3
  · cases h

section
variable {Γ : Ctx} {N : Names} {P : Program} {w : World} {S : Nat → Prop} {μ : Nat → Value} {H : Heap}
theorem q_appq (hr : Rel N.fn w S μ H) {t ty e : TypeId} {i : Go.TypeInfo} {z : Value} {sz : Nat} {x y : Value} {x' y' v : AV} (ht : P.underlying t = some (.slice e)) (hi : P.info? e = some i) (hz : i.zero = some z)
    (hsz : i.size = sz) (hzs : z.cells.size = sz) (h0 : 0 < sz) (hb : i.bytes ≤ 65536) (hx : RelV N.fn w S μ H x' x) (hy : RelV N.fn w S μ H y' y) (hv : appqA sz x' y' = some v) :
    ∃ u w' S', (Builtin.append_ #[t, t] ty #[x, y]).run P w = .ok u w' ∧ Step N.fn w S μ H w' S' μ H ∧ RelV N.fn w' S' μ H v u := by
  unfold appqA at hv
  split at hv
  rotate_left
  · cases hv
  rename_i k sz' k2 sz2 ys
  simp only [Option.ite_none_right_eq_some, Option.some.injEq] at hv
  obtain ⟨⟨hk, hk2, hlim⟩, rfl⟩ := hv
  obtain ⟨news, g1, g2⟩ := elems_src hr h0 hy (ys := ys) (by simp only [elemsOf]; rw [if_pos hk2])
  have hx := hx.p_inv
  cases hx with
  | sl _ _ _ a cap us h1 h2 h3 h4 h5 h6 h7 h8 =>
  have hcap : cap = 0 := by
    rcases hk with h | ⟨h, _⟩
    · exact (h4 (.inl h)).2.2
    · exact (h5 (.inl h)).2 h
  subst hcap
  have hrow : RowAt w (.slice a 0 0) sz 0 [] := ⟨by simp, .inl ⟨rfl, a, rfl⟩⟩
  obtain ⟨v', w', r1, r2, r3, r4, r5, r6, r7, r8, r9⟩ := run_append_row (ty := ty) ht hi hz hsz hzs h0 hrow g1 (by omega) hb
  have hg : Grows w w' := ⟨r3, r4, r5, r6, fun g hg => r7 g hg (by cases a <;> simp [blkOf])⟩
  have hnew : ∀ g, blkOf v' = some g → w.heap.size ≤ g := fun g hg => by
    rcases r8 g hg with h | h
    · cases a <;> simp [blkOf] at h
    · exact h
  rw [Nat.zero_add, List.nil_append] at r2
  obtain ⟨μ', s1, s2⟩ := step_newrow hr hg h0 hlim r2 (g2.keep (hr.keepS hg)) hnew
  have hb' : (H ++ [Blk.row false sz ys])[H.length]? = some (.row false sz ys) := by rw [List.getElem?_append_right (Nat.le_refl _), Nat.sub_self]; rfl
  have he : v' = μ' H.length := s2.own_inv (r := (sz, ys)) (by simp [rowOf])
  have rp := row_relP (T := fun g => S g ∨ (w.heap.size ≤ g ∧ g < w'.heap.size)) s1.rel hb' (fun g h => .inl h) (fun g h => .inr ⟨hnew g (by rw [he]; exact h), s1.rel.blk_lt hb' h⟩)
  rw [← he] at rp
  exact ⟨v', w', fun g => S g ∨ (w.heap.size ≤ g ∧ g < w'.heap.size), r1, .grow hr hg (fun g h => .inl h) (fun g h => h.elim (fun h => Nat.lt_of_lt_of_le (hr.lt g h) hg.size) (fun h => h.2)) (fun g h => h.elim .inl (fun h => .inr h.1)), .p _ _ rp⟩
end
end Ab
namespace Ab
open Go (IntKind BinOp UnOp World Value Addr Obj undef maxLen Program TypeId Oper Op Operand Act Sem Next Result execOp Builtin)

def chkArgs (N : Names) : List Operand → List Arg → Bool
  | [], [] => true
  | x :: xs, y :: ys => chkArg N x y && chkArgs N xs ys
  | _, _ => false
def chkO (N : Names) : Option Operand → Option Arg → Bool
  | none, none => true
  | some x, some y => chkArg N x y
  | _, _ => false
def chkParts (N : Names) (pl : Nat → Option (Nat × Nat)) : List (Nat × Operand) → List Parts → Bool
  | [], [] => true
  | x :: xs, y :: ys => (match pl x.1 with | some r => r.1 == y.off && r.2 == y.sz | none => false) && chkArg N x.2 y.arg && chkParts N pl xs ys
  | _, _ => false
def sizeT (P : Program) (T : TypeId) (sz : Nat) : Bool := match P.info? T with | some i => i.size == sz | none => false
def aggT (P : Program) (T : TypeId) (ag : Bool) : Bool := match aggB P T with | some b => b == ag | none => false
def intIs (P : Program) (T : TypeId) (k : IntKind) : Bool := match intT P T with | some k' => k' == k | none => false
def fieldAt (P : Program) (T : TypeId) (k : Nat) : Option Go.Field := (fieldsT P T).bind fun fs => fs[k]?

theorem sizeT_spec {P T sz} (h : sizeT P T sz = true) : (P.info? T).map (·.size) = some sz := by
  unfold sizeT at h
  split at h
  · rename_i i hi; simp only [beq_iff_eq] at h; simp [hi, h]
  · cases h
theorem aggT_spec {P T ag} (h : aggT P T ag = true) : aggB P T = some ag := by
  unfold aggT at h
  split at h
  · rename_i b hb; simp only [beq_iff_eq] at h; rw [hb, h]
  · cases h
theorem intIs_spec {P T k} (h : intIs P T k = true) : intT P T = some k := by
  unfold intIs at h
  split at h
  · rename_i b hb; simp only [beq_iff_eq] at h; rw [hb, h]
  · cases h
theorem fieldAt_spec {P T k f} (h : fieldAt P T k = some f) : ∃ fs, fieldsT P T = some fs ∧ fs[k]? = some f := Option.bind_eq_some_iff.1 h

def callOp (o : Oper) : Option (Go.Callee × List Operand × List TypeId) := match o.op with | .call c => some (c.callee, c.args.toList, c.argTypes.toList) | _ => none

def chkQ (P : Program) (N : Names) (o : Oper) : QOp → Bool
  | .bad => true
  | .mov x => match o.op with | .move y | .assign y => chkArg N y x | _ => false
  | .pick c a b => match o.op with | .pick c' a' b' => chkArg N c' c && chkArg N a' a && chkArg N b' b | _ => false
  | .nilchk x => match o.op with | .nilCheck y => chkArg N y x | _ => false
  | .bin op x y => match o.op with | .binOp op' _ x' y' _ => decide (op' = op) && chkArg N x' x && chkArg N y' y | _ => false
  | .eqs ks neg x y => match o.op with | .binOp op T x' y' _ => decide (op = if neg then .neq else .eql) && eqsT P T ks && chkArg N x' x && chkArg N y' y | _ => false
  | .eqk kd neg x y => match o.op with | .binOp op T x' y' _ => decide (op = if neg then .neq else .eql) && eqkT P T kd && chkArg N x' x && chkArg N y' y | _ => false
  | .un op x => match o.op with | .unOp op' _ x' => decide (op' = op) && chkArg N x' x | _ => false
  | .conv k x => match o.op with | .convert s d x' => (intT P s).isSome && intIs P d k && chkArg N x' x | _ => false
  | .same x => match o.op with | .convert s d x' => strT P s && strT P d && chkArg N x' x | _ => false
  | .strOf x => match o.op with | .convert s d x' => (match slT P s with | some e => intIs P e .u8 | none => false) && strT P d && chkArg N x' x | _ => false
  | .runeStr x => match o.op with | .convert s d x' => (intT P s).isSome && strT P d && chkArg N x' x | _ => false
  | .len s x => match callOp o with | some (.builtin .len, [x'], [T]) => (if s then strT P T else (slT P T).isSome) && chkArg N x' x | _ => false
  | .idx x i => match o.op with | .index T x' i' => strT P T && chkArg N x' x && chkArg N i' i | _ => false
  | .aidx sz ag n x i => match o.op with | .index T x' i' => (match arrT P T with | some (n', e) => n' == n && aggT P e ag && sizeT P e sz | none => false) && chkArg N x' x && chkArg N i' i | _ => false
  | .fld off sz ag x => match o.op with | .field T x' k => (match fieldAt P T k with | some f => f.offset == off && aggT P f.type ag && sizeT P f.type sz | none => false) && chkArg N x' x | _ => false
  | .faddr off x => match o.op with | .fieldAddr T x' k => (match fieldAt P T k with | some f => f.offset == off && (P.info? f.type).any (·.size != 0) | none => false) && chkArg N x' x | _ => false
  | .iaddr sz x i => match o.op with | .indexAddr T x' i' => (match slT P T with | some e => sizeT P e sz | none => false) && decide (0 < sz) && chkArg N x' x && chkArg N i' i | _ => false
  | .iaddrA sz n x i => match o.op with | .indexAddr T x' i' => (match arrT P T with | some (n', e) => n' == n && sizeT P e sz | none => false) && chkArg N x' x && chkArg N i' i | _ => false
  | .load sz ag x => match o.op with | .load T x' => aggT P T ag && sizeT P T sz && chkArg N x' x | _ => false
  | .sliceS x lo hi => match o.op with | .slice T x' lo' hi' none => strT P T && chkArg N x' x && chkO N lo' lo && chkO N hi' hi | _ => false
  | .slice sz x lo hi => match o.op with | .slice T x' lo' hi' none => (match slT P T with | some e => sizeT P e sz | none => false) && chkArg N x' x && chkO N lo' lo && chkO N hi' hi | _ => false
  | .build zero parts => match o.op with | .build T ps => zeroT P T zero && fieldsKnown P T && chkParts N (placeT P T) ps.toList parts | _ => false
  | .bslice sz ag n zero parts => match o.op with
    | .buildSlice T n' ps => (match slT P T with | some e => sizeT P e sz && bsZero P e (n * sz) zero | none => false) && n' == n && decide (0 < sz) && (ag || sz == 1) && decide (n * sz ≤ 16777216) && chkParts N (fun i => some (i * sz, sz)) ps.toList parts
    | _ => false
  | .appq sz x y => match callOp o with
    | some (.builtin .append, [x', y'], [T, T']) => T' == T && (match slT P T with | some e => rowT P e sz | none => false) && decide (0 < sz) && chkArg N x' x && chkArg N y' y
    | _ => false
  | .ext x i => match o.op with | .extract x' i' => i' == i && chkArg N x' x | _ => false
  | .minmax mx xs => match callOp o with | some (.builtin b, xs', _) => decide (b = if mx then .max else .min) && chkArgs N xs' xs | _ => false
  | .clos f caps => match o.op with | .makeFunc (.func f') first caps' => f' == N.fn f && first.toList.isEmpty && chkArgs N caps'.toList caps | _ => false
  | .call f args => match callOp o with | some (.value f', xs', _) => chkArg N f' f && chkArgs N xs' args | _ => false

section
variable {Γ : Ctx} {N : Names} {P : Program} {w : World} {S : Nat → Prop} {μ : Nat → Value} {H : Heap} {σ : Nat → AV} {a : Act}

theorem Env.Rel.args (he : Env.Rel Γ N w S μ H σ a) : ∀ {xs ys}, chkArgs N xs ys = true → All2 (fun u v => RelV N.fn w S μ H v u) (xs.map a.eval) (ys.map (Arg.ev Γ σ))
  | [], [], _ => trivial
  | x :: xs, y :: ys, h => by
    simp only [chkArgs, Bool.and_eq_true] at h
    exact ⟨he.arg h.1, he.args h.2⟩
  | [], _ :: _, h => by cases h
  | _ :: _, [], h => by cases h
theorem Env.Rel.opt (he : Env.Rel Γ N w S μ H σ a) : ∀ {x y}, chkO N x y = true → RelO N.fn w S μ H (y.map (Arg.ev Γ σ)) (x.map a.eval)
  | none, none, _ => trivial
  | some x, some y, h => he.arg h
  | none, some _, h => by cases h
  | some _, none, h => by cases h
theorem Env.Rel.parts (he : Env.Rel Γ N w S μ H σ a) {pl : Nat → Option (Nat × Nat)} : ∀ {xs ys}, chkParts N pl xs ys = true →
    All2 (fun (x : Nat × Value) (y : Nat × Nat × AV) => pl x.1 = some (y.1, y.2.1) ∧ RelV N.fn w S μ H y.2.2 x.2) (xs.map fun x => (x.1, a.eval x.2)) (ys.map fun q => (q.off, q.sz, q.arg.ev Γ σ))
  | [], [], _ => trivial
  | x :: xs, y :: ys, h => by
    simp only [chkParts, Bool.and_eq_true] at h
    obtain ⟨⟨h1, h2⟩, h3⟩ := h
    refine ⟨⟨?_, he.arg h2⟩, he.parts h3⟩
    split at h1
    · rename_i r hr
      simp only [Bool.and_eq_true, beq_iff_eq] at h1
      rw [hr]
      exact congrArg some (Prod.ext h1.1 h1.2)
    · cases h1
  | [], _ :: _, h => by cases h
  | _ :: _, [], h => by cases h

def QDone (N : Names) (P : Program) (w : World) (S : Nat → Prop) (μ : Nat → Value) (H : Heap) (o : Oper) (a : Act) (v : AV) : Prop :=
  ∃ u w' S', (execOp a.eval o).run P w = .ok (.value u) w' ∧ Step N.fn w S μ H w' S' μ H ∧ RelV N.fn w' S' μ H v u

theorem QDone.of (hr : Rel N.fn w S μ H) {o : Oper} {v : AV} {r : Sem Value} (he : execOp a.eval o = (do pure (.value (← r)))) (h : ∃ u, r.run P w = .ok u w ∧ RelV N.fn w S μ H v u) : QDone N P w S μ H o a v := by
  obtain ⟨u, h1, h2⟩ := h
  exact ⟨u, w, S, by simp [he, h1], .refl hr, h2⟩
theorem QDone.val (hr : Rel N.fn w S μ H) {o : Oper} {v : AV} {u : Value} (he : execOp a.eval o = pure (.value u)) (h : RelV N.fn w S μ H v u) : QDone N P w S μ H o a v :=
  ⟨u, w, S, by simp [he], .refl hr, h⟩

theorem exec_builtin {o : Oper} {b : Builtin} {xs : List Operand} {Ts : List TypeId} (h : callOp o = some (.builtin b, xs, Ts)) :
    ∃ cs, execOp a.eval o = Go.builtin b Ts.toArray o.type cs (xs.map a.eval).toArray := by
  unfold callOp at h
  split at h
  · rename_i c hc
    simp only [Option.some.injEq, Prod.mk.injEq] at h
    obtain ⟨h1, h2, h3⟩ := h
    refine ⟨c.args.map fun | .const _ => true | _ => false, ?_⟩
    have e1 : Ts.toArray = c.argTypes := by rw [← h3]
    have e2 : (xs.map a.eval).toArray = c.args.map a.eval := by rw [← h2, ← Array.toList_map]
    rw [e1, e2]
    simp only [execOp, hc, Go.resolve, h1]
    rfl
  · cases h

theorem q_sound {o : Oper} {q : QOp} {v : AV} {call : Nat → List AV → Heap → Option (List AV × Heap)} (hq : ∀ f args, q ≠ .call f args) (hc : chkQ P N o q = true) (he : Env.Rel Γ N w S μ H σ a) (hr : Rel N.fn w S μ H)
    (hv : evQ Γ call σ H q = some v) : QDone N P w S μ H o a v := by
  cases q with
  | mov x =>
    simp only [chkQ] at hc
    simp only [evQ, Option.some.injEq] at hv; subst hv
    split at hc
    · rename_i y hy; exact .val hr (by simp only [execOp, hy]) (he.arg hc)
    · rename_i y hy; exact .val hr (by simp only [execOp, hy]) (he.arg hc)
    · cases hc
  | pick c x y =>
    simp only [chkQ] at hc
    split at hc
    · rename_i c' x' y' hy
      simp only [Bool.and_eq_true] at hc
      obtain ⟨u, h1, h2⟩ := q_pick (P := P) he hc.1.1 hc.1.2 hc.2 hv
      exact ⟨u, w, S, by simp only [execOp, hy]; exact h1, .refl hr, h2⟩
    · cases hc
  | nilchk x =>
    simp only [chkQ] at hc
    split at hc
    · rename_i y hy
      have hx := he.arg hc
      obtain ⟨rfl, h⟩ := q_nilchk hx hv
      refine .val hr (u := a.eval y) ?_ hx
      simp only [execOp, hy]
      rcases h with ⟨ad, h⟩ | ⟨f, cs, h⟩ <;> simp only [h]
    · cases hc
  | bin op x y =>
    simp only [chkQ] at hc
    split at hc
    · rename_i op' T x' y' _ hy
      simp only [Bool.and_eq_true, decide_eq_true_eq] at hc
      obtain ⟨⟨rfl, h1⟩, h2⟩ := hc
      exact .of hr (by simp only [execOp, hy]) (q_bin (T := T) (he.arg h1) (he.arg h2) hv)
    · cases hc
  | eqs ks neg x y =>
    simp only [chkQ] at hc
    split at hc
    · rename_i op' T x' y' _ hy
      simp only [Bool.and_eq_true, decide_eq_true_eq] at hc
      obtain ⟨⟨⟨h0, ht⟩, h1⟩, h2⟩ := hc
      exact .of hr (by simp only [execOp, hy]) (q_eqs h0 ht (he.arg h1) (he.arg h2) hv)
    · cases hc
  | eqk kd neg x y =>
    simp only [chkQ] at hc
    split at hc
    · rename_i op' T x' y' _ hy
      simp only [Bool.and_eq_true, decide_eq_true_eq] at hc
      obtain ⟨⟨⟨h0, ht⟩, h1⟩, h2⟩ := hc
      exact .of hr (by simp only [execOp, hy]) (q_eqk h0 ht (he.arg h1) (he.arg h2) hv)
    · cases hc
  | un op x =>
    simp only [chkQ] at hc
    split at hc
    · rename_i op' T x' hy
      simp only [Bool.and_eq_true, decide_eq_true_eq] at hc
      obtain ⟨rfl, h1⟩ := hc
      exact .of hr (by simp only [execOp, hy]) (q_un (he.arg h1) hv)
    · cases hc
  | conv k x =>
    simp only [chkQ] at hc
    split at hc
    · rename_i s d x' hy
      simp only [Bool.and_eq_true] at hc
      obtain ⟨⟨h1, h2⟩, h3⟩ := hc
      obtain ⟨k0, h1⟩ := Option.isSome_iff_exists.1 h1
      exact .of hr (by simp only [execOp, hy]) (q_conv h1 (intIs_spec h2) (he.arg h3) hv)
    · cases hc
  | runeStr x =>
    simp only [chkQ] at hc
    split at hc
    · rename_i s d x' hy
      simp only [Bool.and_eq_true] at hc
      obtain ⟨⟨h1, h2⟩, h3⟩ := hc
      obtain ⟨k0, h1⟩ := Option.isSome_iff_exists.1 h1
      exact .of hr (by simp only [execOp, hy]) (q_runeStr h1 h2 (he.arg h3) hv)
    · cases hc
  | same x =>
    simp only [chkQ] at hc
    split at hc
    · rename_i s d x' hy
      simp only [Bool.and_eq_true] at hc
      exact .of hr (by simp only [execOp, hy]) (q_same hc.1.1 hc.1.2 (he.arg hc.2) hv)
    · cases hc
  | strOf x =>
    simp only [chkQ] at hc
    split at hc
    · rename_i s d x' hy
      simp only [Bool.and_eq_true] at hc
      obtain ⟨⟨h1, h2⟩, h3⟩ := hc
      split at h1
      · rename_i e hs
        exact .of hr (by simp only [execOp, hy]) (q_strOf hr hs (intIs_spec h1) h2 (he.arg h3) hv)
      · cases h1
    · cases hc
  | len s x =>
    simp only [chkQ] at hc
    split at hc
    · rename_i x' T hy
      simp only [Bool.and_eq_true] at hc
      obtain ⟨h1, h2⟩ := hc
      obtain ⟨cs, hx⟩ := exec_builtin (a := a) hy
      simp only [evQ, Option.map_eq_some_iff] at hv
      obtain ⟨n, hn, rfl⟩ := hv
      refine .of hr (r := Go.Builtin.len_ #[T] o.type #[a.eval x']) (by rw [hx]; rfl) ⟨_, q_len (t0 := o.type) hr ?_ (he.arg h2) hn, .p _ _ (.int _ _)⟩
      cases s <;> simpa using h1
    · cases hc
  | idx x i =>
    simp only [chkQ] at hc
    split at hc
    · rename_i T x' i' hy
      simp only [Bool.and_eq_true] at hc
      exact .of hr (by simp only [execOp, hy]) (q_idx hc.1.1 (he.arg hc.1.2) (he.arg hc.2) hv)
    · cases hc
  | aidx sz ag n x i =>
    simp only [chkQ] at hc
    split at hc
    · rename_i T x' i' hy
      simp only [Bool.and_eq_true] at hc
      obtain ⟨⟨h1, h2⟩, h3⟩ := hc
      split at h1
      · rename_i n' e hT
        simp only [Bool.and_eq_true, beq_iff_eq] at h1
        obtain ⟨⟨rfl, h4⟩, h5⟩ := h1
        exact .of hr (by simp only [execOp, hy]) (q_aidx hT (aggT_spec h4) (sizeT_spec h5) (he.arg h2) (he.arg h3) hv)
      · cases h1
    · cases hc
  | fld off sz ag x =>
    simp only [chkQ] at hc
    split at hc
    · rename_i T x' k hy
      simp only [Bool.and_eq_true] at hc
      obtain ⟨h1, h2⟩ := hc
      split at h1
      · rename_i f hf
        obtain ⟨fs, hT, hf⟩ := fieldAt_spec hf
        simp only [Bool.and_eq_true, beq_iff_eq] at h1
        obtain ⟨⟨ho, h4⟩, h5⟩ := h1
        exact .of hr (by simp only [execOp, hy]) (q_fld hT hf ho (aggT_spec h4) (sizeT_spec h5) (he.arg h2) hv)
      · cases h1
    · cases hc
  | faddr off x =>
    simp only [chkQ] at hc
    split at hc
    · rename_i T x' k hy
      simp only [Bool.and_eq_true] at hc
      obtain ⟨h1, h2⟩ := hc
      split at h1
      · rename_i f hf
        obtain ⟨fs, hT, hf⟩ := fieldAt_spec hf
        simp only [Bool.and_eq_true, beq_iff_eq] at h1
        exact .of hr (by simp only [execOp, hy]) (q_faddr hT hf h1.1 h1.2 (he.arg h2) hv)
      · cases h1
    · cases hc
  | iaddr sz x i =>
    simp only [chkQ] at hc
    split at hc
    · rename_i T x' i' hy
      simp only [Bool.and_eq_true, decide_eq_true_eq] at hc
      obtain ⟨⟨⟨h1, h0⟩, h2⟩, h3⟩ := hc
      split at h1
      · rename_i e hT
        exact .of hr (by simp only [execOp, hy]) (q_iaddr h0 hr hT (sizeT_spec h1) (he.arg h2) (he.arg h3) hv)
      · cases h1
    · cases hc
  | iaddrA sz n x i =>
    simp only [chkQ] at hc
    split at hc
    · rename_i T x' i' hy
      simp only [Bool.and_eq_true] at hc
      obtain ⟨⟨h1, h2⟩, h3⟩ := hc
      split at h1
      · rename_i n' e hT
        simp only [Bool.and_eq_true, beq_iff_eq] at h1
        obtain ⟨rfl, h5⟩ := h1
        exact .of hr (by simp only [execOp, hy]) (q_iaddrA hT (sizeT_spec h5) (he.arg h2) (he.arg h3) hv)
      · cases h1
    · cases hc
  | load sz ag x =>
    simp only [chkQ] at hc
    split at hc
    · rename_i T x' hy
      simp only [Bool.and_eq_true] at hc
      exact .of hr (by simp only [execOp, hy]) (q_load hr (aggT_spec hc.1.1) (sizeT_spec hc.1.2) (he.arg hc.2) hv)
    · cases hc
  | sliceS x lo hi =>
    simp only [chkQ] at hc
    split at hc
    · rename_i T x' lo' hi' hy
      simp only [Bool.and_eq_true] at hc
      obtain ⟨⟨⟨h1, h2⟩, h3⟩, h4⟩ := hc
      exact .of hr (by simp only [execOp, hy]; rfl) (q_sliceS h1 (he.arg h2) (he.opt h3) (he.opt h4) hv)
    · cases hc
  | slice sz x lo hi =>
    simp only [chkQ] at hc
    split at hc
    · rename_i T x' lo' hi' hy
      simp only [Bool.and_eq_true] at hc
      obtain ⟨⟨⟨h1, h2⟩, h3⟩, h4⟩ := hc
      split at h1
      · rename_i e hT
        exact .of hr (by simp only [execOp, hy]; rfl) (q_slice hT (sizeT_spec h1) (he.arg h2) (he.opt h3) (he.opt h4) hv)
      · cases h1
    · cases hc
  | build zero parts =>
    simp only [chkQ] at hc
    split at hc
    · rename_i T ps hy
      simp only [Bool.and_eq_true] at hc
      obtain ⟨⟨h1, h2⟩, h3⟩ := hc
      simp only [evQ, Option.map_eq_some_iff] at hv
      obtain ⟨res, hv, rfl⟩ := hv
      refine .of hr (r := Go.Instr.build T (ps.toList.map fun x => (x.1, a.eval x.2)).toArray) ?_ (q_build h1 h2 (he.parts h3) hv)
      simp only [execOp, hy]
      have : (ps.toList.map fun x => (x.1, a.eval x.2)).toArray = ps.map fun x => (x.1, a.eval x.2) := by rw [← Array.toList_map]
      rw [this]
    · cases hc
  | bslice sz ag n zero parts =>
    simp only [chkQ] at hc
    split at hc
    · rename_i T n' ps hy
      simp only [Bool.and_eq_true, decide_eq_true_eq, beq_iff_eq, Bool.or_eq_true] at hc
      obtain ⟨⟨⟨⟨⟨h1, rfl⟩, h0⟩, hag⟩, hn⟩, h3⟩ := hc
      split at h1
      · rename_i e hT
        simp only [Bool.and_eq_true] at h1
        have hag' : ag = false → sz = 1 := fun e => by
          rcases hag with h | h
          · rw [h] at e; cases e
          · exact h
        obtain ⟨us, h4, h5⟩ := q_bslice (N := N) (μ := μ) (H := H) (parts := ps.toList.map fun x => (x.1, a.eval x.2)) hr.lt hT (sizeT_spec h1.1) h0 hag' (by omega) h1.2
          (by
            have := he.parts h3
            refine this.imp fun x y hxy => ⟨?_, hxy.2⟩
            simpa using hxy.1) hv
        refine ⟨_, _, _, ?_, .grow hr (Grows.alloc w _) (fun g h => .inl h) (fun g h => ?_) (fun g h => ?_), h5⟩
        · have e1 : (ps.toList.map fun x => (x.1, a.eval x.2)).toArray = ps.map fun x => (x.1, a.eval x.2) := by rw [← Array.toList_map]
          rw [e1] at h4
          simp only [execOp, hy]
          simp [h4]
        · rcases h with h | h
          · exact Nat.lt_of_lt_of_le (hr.lt g h) (Grows.alloc w _).size
          · subst h; simp
        · rcases h with h | h
          · exact .inl h
          · exact .inr (by omega)
      · cases h1
    · cases hc
  | appq sz x y =>
    simp only [chkQ] at hc
    split at hc
    · rename_i x' y' T T' hy
      simp only [Bool.and_eq_true, decide_eq_true_eq, beq_iff_eq] at hc
      obtain ⟨⟨⟨⟨rfl, h1⟩, h0⟩, h2⟩, h3⟩ := hc
      split at h1
      · rename_i e hT
        obtain ⟨i, z, hi, hsz, hb, hz, hzs⟩ := rowT_spec h1
        obtain ⟨cs, hx⟩ := exec_builtin (a := a) hy
        obtain ⟨u, w', S', h4, h5, h6⟩ := q_appq (ty := o.type) hr (slT_spec hT) hi hz hsz hzs h0 hb (he.arg h2) (he.arg h3) hv
        refine ⟨u, w', S', ?_, h5, h6⟩
        have e : execOp a.eval o = (do pure (.value (← Builtin.append_ #[T', T'] o.type #[a.eval x', a.eval y']))) := by rw [hx]; rfl
        simp [e, h4]
      · cases h1
    · cases hc
  | ext x i =>
    simp only [chkQ] at hc
    split at hc
    · rename_i x' i' hy
      simp only [Bool.and_eq_true, beq_iff_eq] at hc
      obtain ⟨rfl, h2⟩ := hc
      exact .of hr (by simp only [execOp, hy]) (q_ext (he.arg h2) hv)
    · cases hc
  | minmax mx xs =>
    simp only [chkQ] at hc
    split at hc
    · rename_i b xs' Ts hy
      simp only [Bool.and_eq_true, decide_eq_true_eq] at hc
      obtain ⟨rfl, h2⟩ := hc
      obtain ⟨cs, hx⟩ := exec_builtin (a := a) hy
      have := q_minmax (P := P) (mx := mx) (t0 := o.type) (ts := Ts.toArray) (he.args h2) hv
      refine .of hr (r := if mx then Go.Builtin.max_ Ts.toArray o.type (xs'.map a.eval).toArray else Go.Builtin.min_ Ts.toArray o.type (xs'.map a.eval).toArray) ?_ this
      rw [hx]
      cases mx <;> rfl
    · cases hc
  | clos f caps =>
    simp only [chkQ] at hc
    split at hc
    · rename_i f' first caps' hy
      simp only [Bool.and_eq_true, beq_iff_eq, List.isEmpty_iff] at hc
      obtain ⟨⟨rfl, h1⟩, h2⟩ := hc
      have hf : first = #[] := by simpa using h1
      simp only [evQ, ifB] at hv
      split at hv
      · rename_i hall
        simp only [Option.some.injEq] at hv; subst hv
        have := q_clos (f := f) (he.args h2) (fun c hc => List.all_eq_true.1 hall c hc)
        have e1 : (caps'.toList.map a.eval).toArray = caps'.map a.eval := by rw [← Array.toList_map]
        rw [e1] at this
        refine .of hr (r := pure (.func (.func (N.fn f)) #[] (caps'.map a.eval))) ?_ ⟨_, by simp, this⟩
        simp only [execOp, hy, hf, Go.Instr.makeFunc]
        simp
      · cases hv
    · cases hc
  | call f args => exact absurd rfl (hq f args)
  | bad => cases hv
end
end Ab
