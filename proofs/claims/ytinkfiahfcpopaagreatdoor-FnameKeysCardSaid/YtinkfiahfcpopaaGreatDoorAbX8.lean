import Derived.Test.YtinkfiahfcpopaaGreatDoorAbX3
import Derived.Laws.MakeOwn
import Derived.Test.YtinkfiahfcpopaaGreatDoorAbBase
import Derived.MapKept
namespace Ab
open Go (IntKind BinOp UnOp World Value Addr Obj undef maxLen Program TypeId Oper Op Operand Act Sem Next Result execOp Builtin)
section
variable {Γ : Ctx} {N : Names} {P : Program} {w : World} {S T : Nat → Prop} {μ : Nat → Value} {H : Heap}

theorem RelP.more {ν : Nat → Nat} {v u} (h : RelP ν w S v u) (hS : ∀ g, S g → T g) : RelP ν w T v u := h.keep hS (fun _ _ => rfl)

theorem row_relP (hr : Rel N.fn w S μ H) {id : Nat} {f : Bool} {sz : Nat} {xs : List PV} (hb : H[id]? = some (.row f sz xs)) (hS : ∀ g, S g → T g) (hT : ∀ g, blkOf (μ id) = some g → T g) : RelP N.fn w T (.sl .any sz xs) (μ id) := by
  obtain ⟨h0, _, us, h1, h2, h3, _⟩ := hr.blk id _ hb
  have h1' := h1
  obtain ⟨hl, h1⟩ := h1
  rcases h1 with ⟨e0, a, ha⟩ | ⟨g, cap, cur, e, hv, hc, hg, hn, hm, hcs, ht⟩
  · have : xs = [] := List.eq_nil_of_length_eq_zero e0
    subst this
    rw [ha]
    exact .sl .any sz [] a 0 (fun _ _ => undef) (Nat.le_refl _) (Nat.zero_le _) (by simp) (by simp) (by simp) (by simp) (by simp) (by simp)
  · have hTg : T g := hT g (by rw [hv]; simp only [blkOf]; rw [if_neg (by omega)])
    rw [hv]
    refine .sl .any sz xs _ cap (fun i j => us.getD (i * sz + j) undef) hn hm h2 (by simp) (by simp) (fun _ => ⟨_, rfl, hTg⟩) (fun ad had i x j c hx hc => ?_) (fun i x j c hx hc => (h3 i x j c hx hc).more hS)
    cases had
    have hj : j < sz := by rw [← (h2 x (List.mem_of_getElem? hx)).1]; exact (List.getElem?_eq_some_iff.1 hc).1
    have hi : i < xs.length := (List.getElem?_eq_some_iff.1 hx).1
    rw [Go.Addr.add_lit, Nat.zero_add]
    refine row_cell h1' hv ?_
    calc i * sz + j < i * sz + sz := by omega
      _ = (i + 1) * sz := by rw [Nat.add_mul, Nat.one_mul]
      _ ≤ xs.length * sz := Nat.mul_le_mul_right _ hi

theorem mapO_spec {α β : Type} {f : α → Option β} : ∀ {l : List α} {r : List β}, mapO f l = some r → r.length = l.length ∧ ∀ (j : Nat) x, r[j]? = some x → ∃ a, l[j]? = some a ∧ f a = some x
  | [], r, h => by simp only [mapO, Option.some.injEq] at h; subst h; simp
  | a :: l, r, h => by
    simp only [mapO] at h
    cases hf : f a with
    | none => simp [hf] at h
    | some x =>
      simp only [hf] at h
      cases hm : mapO f l with
      | none => simp [hm] at h
      | some xs =>
        simp only [hm, Option.some.injEq] at h
        subst h
        obtain ⟨h1, h2⟩ := mapO_spec hm
        refine ⟨by simp [h1], fun j y hy => ?_⟩
        cases j with
        | zero => simp only [List.getElem?_cons_zero, Option.some.injEq] at hy; subst hy; exact ⟨a, rfl, hf⟩
        | succ j => simpa using h2 j y (by simpa using hy)

theorem reify_one {d : Nat} {v : AV} {p : PV} (h : reify H d v = some p) (h1 : v.one = true) : p.one = true := by
  cases d with
  | zero =>
    cases v <;> simp only [reify, Option.some.injEq, reduceCtorEq] at h
    subst h; exact h1
  | succ d =>
    cases v with
    | p v => simp only [reify, Option.some.injEq] at h; subst h; exact h1
    | own id n => simp only [reify, Option.map_eq_some_iff] at h; obtain ⟨_, _, rfl⟩ := h; rfl
    | bx id off =>
      simp only [reify, Option.bind_eq_some_iff, Option.ite_none_right_eq_some, Option.map_eq_some_iff] at h
      obtain ⟨_, _, _, _, _, rfl⟩ := h; rfl
    | el id n i off =>
      simp only [reify, Option.bind_eq_some_iff, Option.ite_none_right_eq_some, Option.some.injEq] at h
      obtain ⟨_, _, _, _, _, rfl⟩ := h; rfl
    | mp id => simp [reify] at h
    | clo f cs => simp only [reify, Option.map_eq_some_iff] at h; obtain ⟨_, _, rfl⟩ := h; rfl
    | agg => cases h1
    | tup => cases h1
    | nov => cases h1
    | any => cases h1

theorem getD_array {us : Array Value} {j : Nat} : us.getD j undef = us.toList.getD j undef := getD_toList.symm

theorem reify_rel (hr : Rel N.fn w S μ H) (hS : ∀ g, S g → T g) (hT : ∀ (id : Nat) b g, H[id]? = some b → blkOf (μ id) = some g → T g) : ∀ (d : Nat) {v : AV} {u : Value} {p : PV}, RelV N.fn w S μ H v u → reify H d v = some p → RelP N.fn w T p u := by
  intro d
  induction d with
  | zero =>
    intro v u p h hp
    cases v <;> simp only [reify, Option.some.injEq, reduceCtorEq] at hp
    subst hp
    exact h.p_inv.more hS
  | succ d ih =>
    intro v u p h hp
    have cells : ∀ {cs : List AV} {us : Array Value} {ps : List PV}, mapO (reify H d) cs = some ps → us.size = cs.length → (∀ c ∈ cs, c.one = true) → (∀ j c, cs[j]? = some c → RelV N.fn w S μ H c (us.getD j undef)) →
        us.size = ps.length ∧ (∀ c ∈ ps, c.one = true) ∧ ∀ (j : Nat) c, ps[j]? = some c → RelP N.fn w T c (us.getD j undef) := by
      intro cs us ps hm h1 h2 h3
      obtain ⟨m1, m2⟩ := mapO_spec hm
      refine ⟨by rw [m1, h1], fun c hc => ?_, fun j c hc => ?_⟩
      · obtain ⟨j, hj⟩ := List.getElem?_of_mem hc
        obtain ⟨a, ha, hf⟩ := m2 j c hj
        exact reify_one hf (h2 a (List.mem_of_getElem? ha))
      · obtain ⟨a, ha, hf⟩ := m2 j c hc
        exact ih (h3 j a ha) hf
    cases v with
    | p v => simp only [reify, Option.some.injEq] at hp; subst hp; exact h.p_inv.more hS
    | own id n =>
      simp only [reify, Option.map_eq_some_iff] at hp
      obtain ⟨⟨sz, xs⟩, hb, rfl⟩ := hp
      rw [h.own_inv hb]
      obtain ⟨f, h1, _⟩ := rowOf_spec hb
      exact row_relP hr h1 hS (fun g hg => hT id _ g h1 hg)
    | bx id off =>
      simp only [reify, Option.bind_eq_some_iff, Option.ite_none_right_eq_some, Option.map_eq_some_iff] at hp
      obtain ⟨cs, hb, hlt, ps, hm, rfl⟩ := hp
      have hb0 := hb
      have hb := boxOf_spec hb
      obtain ⟨g, rfl, hl, hg⟩ := h.bx_inv
      obtain ⟨g', arr, t, e1, e2, e3, e4, e5⟩ := hr.box_of hb0
      rw [hg cs hb] at e1
      cases e1
      obtain ⟨m1, m2⟩ := mapO_spec hm
      have get : ∀ (j : Nat) c, ps[j]? = some c → ∃ a, cs[off + j]? = some a ∧ reify H d a = some c := by
        intro j c hc
        obtain ⟨a, ha, hf⟩ := m2 j c hc
        rw [List.getElem?_drop] at ha
        exact ⟨a, ha, hf⟩
      refine .ptr ps _ (fun j => arr.getD (off + j) undef) (fun e => ?_) (hT id _ g hb (by rw [hg cs hb]; rfl)) (fun c hc => ?_) (fun j c hc => ?_) (fun j c hc => ?_)
      · rw [e] at m1; simp at m1; omega
      · obtain ⟨j, hj⟩ := List.getElem?_of_mem hc
        obtain ⟨a, ha, hf⟩ := get j c hj
        exact reify_one hf (e4 a (List.mem_of_getElem? ha))
      · obtain ⟨a, ha, _⟩ := get j c hc
        have hlt : off + j < arr.size := by rw [e3]; exact (List.getElem?_eq_some_iff.1 ha).1
        rw [Go.Addr.add_lit, Go.cell_of_row w g _ arr t _ e2]
        simp [hlt]
      · obtain ⟨a, ha, hf⟩ := get j c hc
        exact ih (e5 _ a ha) hf
    | mp id => simp [reify] at hp
    | el id n i off =>
      simp only [reify, Option.bind_eq_some_iff, Option.ite_none_right_eq_some, Option.some.injEq] at hp
      obtain ⟨⟨sz, xs⟩, hb, x, hx, hlt, rfl⟩ := hp
      obtain ⟨f, h1, h2⟩ := rowOf_spec hb
      simp only at h2 hx
      have hi : i < n := by rw [← h2]; exact (List.getElem?_eq_some_iff.1 hx).1
      obtain ⟨f', sz', xs', g, cap, k1, k2, k3, k4, rfl⟩ := h.el_inv (by simp [elOk, hb, hi])
      rw [h1] at k1
      cases k1
      have hb' := hr.blk id _ h1
      obtain ⟨_, _, us, r1, r2, r3, _⟩ := hb'
      rw [h2] at r1
      have hxm := r2 x (List.mem_of_getElem? hx)
      refine .ptr _ _ (fun j => us.getD (i * sz + (off + j)) undef) (fun e => ?_) ?_ (fun c hc => hxm.2 c (List.mem_of_mem_drop hc)) (fun j c hc => ?_) (fun j c hc => ?_)
      · rw [List.drop_eq_nil_iff] at e; omega
      · refine hT id _ g h1 ?_
        rw [k4]
        simp only [blkOf]
        obtain ⟨_, r1⟩ := r1
        rcases r1 with ⟨h0, _⟩ | ⟨g', cap', _, _, hv, hc, _⟩
        · omega
        · rw [k4] at hv; cases hv; rw [if_neg (by omega)]
      · rw [List.getElem?_drop] at hc
        have hlt2 : off + j < sz := by rw [← show x.cells.length = sz from hxm.1]; exact (List.getElem?_eq_some_iff.1 hc).1
        rw [Go.Addr.add_lit, Nat.add_assoc]
        refine row_cell r1 k4 ?_
        calc i * sz + (off + j) < i * sz + sz := by omega
          _ = (i + 1) * sz := by rw [Nat.add_mul, Nat.one_mul]
          _ ≤ n * sz := Nat.mul_le_mul_right _ hi
      · rw [List.getElem?_drop] at hc
        exact (r3 i x _ c hx hc).more hS
    | agg cs =>
      simp only [reify, Option.map_eq_some_iff] at hp
      obtain ⟨ps, hm, rfl⟩ := hp
      cases h with
      | agg _ us h1 h2 h3 =>
      obtain ⟨k1, k2, k3⟩ := cells hm h1 h2 h3
      exact .agg ps us k1 k2 k3
    | clo f cs =>
      simp only [reify, Option.map_eq_some_iff] at hp
      obtain ⟨ps, hm, rfl⟩ := hp
      cases h with
      | clo _ _ us h1 h2 h3 =>
      obtain ⟨k1, k2, k3⟩ := cells hm h1 h2 h3
      exact .clo f ps us k1 k2 k3
    | tup => simp [reify] at hp
    | nov => simp [reify] at hp
    | any => simp [reify] at hp

theorem flat1_rel {ν : Nat → Nat} {w' : World} {S' : Nat → Prop} {p : PV} {u : Value} (hf : flat1 p = true) (h : RelP ν w S p u) : RelP ν w' S' p u := by
  cases h with
  | int => exact .int _ _
  | bool => exact .bool _
  | str => exact .str _
  | nilp => exact .nilp
  | nilfn => exact .nilfn
  | nilmap => exact .nilmap
  | sl k sz xs a cap us h1 h2 h3 h4 h5 h6 h7 h8 =>
    cases k with
    | nil =>
      obtain ⟨rfl, rfl, rfl⟩ := h4 (.inl rfl)
      exact .sl .nil sz [] none 0 us (Nat.le_refl _) (Nat.zero_le _) (by simp) (by simp) (by simp) (by simp) (by simp) (by simp)
    | tight => cases hf
    | any => cases hf
    | mem => cases hf
  | clo => cases hf
  | ptr => cases hf
  | agg => cases hf
theorem flat_rel {ν : Nat → Nat} {w' : World} {S' : Nat → Prop} {p : PV} {u : Value} (hf : flat p = true) (h : RelP ν w S p u) : RelP ν w' S' p u := by
  cases p with
  | agg cs =>
    cases h with
    | agg _ us h1 h2 h3 =>
    simp only [flat, List.all_eq_true] at hf
    exact .agg cs us h1 h2 (fun j c hc => flat1_rel (hf c (List.mem_of_getElem? hc)) (h3 j c hc))
  | _ => exact flat1_rel hf h

theorem step_freeze1 (hr : Rel N.fn w S μ H) {id : Nat} {f : Bool} {sz : Nat} {xs : List PV} (hb : H[id]? = some (.row f sz xs)) :
    Step N.fn w S μ H w (fun g => S g ∨ blkOf (μ id) = some g) μ (H.set id (.row true sz xs)) := by
  have hlt := (List.getElem?_eq_some_iff.1 hb).1
  have get : ∀ (i : Nat) b, (H.set id (.row true sz xs))[i]? = some b → (i = id ∧ b = .row true sz xs) ∨ (i ≠ id ∧ H[i]? = some b) := by
    intro i b h
    simp only [List.getElem?_set, hlt, if_true] at h
    split at h
    · rename_i e; subst e; simp only [Option.some.injEq] at h; exact .inl ⟨rfl, h.symm⟩
    · rename_i e; exact .inr ⟨Ne.symm e, h⟩
  have hm : Moves μ H μ (H.set id (.row true sz xs)) := by
    refine ⟨by simp, fun i f' sz' ys hl h => ?_, fun i cs hl h => ?_⟩
    · rcases get i _ h with ⟨rfl, e⟩ | ⟨_, h⟩
      · cases e; exact ⟨f, xs, hb, Nat.le_refl _, fun _ => rfl⟩
      · exact ⟨f', ys, h, Nat.le_refl _, fun _ => rfl⟩
    · rcases get i _ h with ⟨rfl, e⟩ | ⟨_, h⟩
      · cases e
      · exact ⟨cs, h, rfl⟩
  have al : ∀ (i : Nat) b, (H.set id (.row true sz xs))[i]? = some b → isAlive b → i ≠ id ∧ H[i]? = some b := by
    intro i b h ha
    rcases get i b h with ⟨rfl, rfl⟩ | h
    · rcases ha with ⟨cs, e⟩ | ⟨a, b, e⟩ <;> cases e
    · exact h
  have alg : ∀ g, alive μ (H.set id (.row true sz xs)) g → alive μ H g := by
    intro g ha
    obtain ⟨i, b, h1, h2, h3⟩ := alive_iff.1 ha
    exact alive_iff.2 ⟨i, b, (al i b h1 h2).2, h2, h3⟩
  refine ⟨⟨fun g h => ?_, fun i b h => ?_, fun g ha hs => ?_, fun i j g hi hj ai aj => ?_⟩, ⟨rfl, rfl, rfl, Nat.le_refl _, fun _ _ _ => rfl, fun g h => .inl h, fun g h _ => ?_, fun g h _ => alg g h⟩, hm⟩
  · rcases h with h | h
    · exact hr.lt g h
    · exact hr.blk_lt hb h
  · have old : ∀ b', H[i]? = some b' → BlkRel N.fn w (fun g => S g ∨ blkOf (μ id) = some g) μ (H.set id (.row true sz xs)) i b' := fun b' hb' => (hr.blk i b' hb').keep (fun _ h => .inl h) (fun _ _ => rfl) hm rfl (fun _ _ => rfl)
    rcases get i b h with ⟨rfl, rfl⟩ | ⟨_, h⟩
    · obtain ⟨h0, hl, us, h1, h2, h3, _⟩ := old _ hb
      exact ⟨h0, hl, us, h1, h2, h3, fun _ g hg => .inr hg⟩
    · exact old b h
  · rcases hs with hs | hs
    · exact hr.apart g (alg g ha) hs
    · obtain ⟨i, b, h1, h2, h3⟩ := alive_iff.1 ha
      obtain ⟨hne, h4⟩ := al i b h1 h2
      cases f with
      | false => exact hne (hr.inj' h4 hb h2 (.inr ⟨sz, xs, rfl⟩) h3 hs)
      | true =>
        obtain ⟨_, _, us, _, _, _, h5⟩ := hr.blk id _ hb
        exact hr.apart g (alg g ha) (h5 rfl g hs)
  · have conv : ∀ k : Nat, ((∃ cs, (H.set id (.row true sz xs))[k]? = some (Blk.box cs)) ∨ ∃ sz' ys, (H.set id (.row true sz xs))[k]? = some (Blk.row false sz' ys)) → (∃ cs, H[k]? = some (Blk.box cs)) ∨ ∃ sz' ys, H[k]? = some (Blk.row false sz' ys) := by
      rintro k (⟨cs, h⟩ | ⟨sz', ys, h⟩)
      · exact .inl ⟨cs, (al k _ h (.inl ⟨cs, rfl⟩)).2⟩
      · exact .inr ⟨sz', ys, (al k _ h (.inr ⟨sz', ys, rfl⟩)).2⟩
    exact hr.inj i j g hi hj (conv i ai) (conv j aj)
  · rcases h with h | h
    · exact .inl h
    · cases f with
      | false => exact .inr (alive_iff.2 ⟨id, _, hb, .inr ⟨sz, xs, rfl⟩, h⟩)
      | true =>
        obtain ⟨_, _, us, _, _, _, h5⟩ := hr.blk id _ hb
        exact .inl (h5 rfl g h)

theorem Moves.trans {μ1 μ2 H1 H2} (a : Moves μ H μ1 H1) (b : Moves μ1 H1 μ2 H2) : Moves μ H μ2 H2 where
  len := Nat.le_trans a.len b.len
  row id f sz xs hl h := by
    obtain ⟨f1, xs1, h1, l1, e1⟩ := b.row id f sz xs (Nat.lt_of_lt_of_le hl a.len) h
    obtain ⟨f2, xs2, h2, l2, e2⟩ := a.row id f1 sz xs1 hl h1
    exact ⟨f2, xs2, h2, Nat.le_trans l2 l1, fun h => (e1 (by omega)).trans (e2 (by omega))⟩
  box id cs hl h := by
    obtain ⟨cs1, h1, e1⟩ := b.box id cs (Nat.lt_of_lt_of_le hl a.len) h
    obtain ⟨cs2, h2, e2⟩ := a.box id cs1 hl h1
    exact ⟨cs2, h2, e1.trans e2⟩

theorem Step.trans {w1 S1 μ1 H1 w2 S2 μ2 H2} (a : Step N.fn w S μ H w1 S1 μ1 H1) (b : Step N.fn w1 S1 μ1 H1 w2 S2 μ2 H2) : Step N.fn w S μ H w2 S2 μ2 H2 := ⟨b.rel, a.ext.trans b.ext, a.moves.trans b.moves⟩
theorem Step.refl (hr : Rel N.fn w S μ H) : Step N.fn w S μ H w S μ H := ⟨hr, Ext.refl, .refl⟩

theorem step_freeze : ∀ (cs : List AV) {S : Nat → Prop} {H : Heap}, Rel N.fn w S μ H → ∃ S', Step N.fn w S μ H w S' μ (freeze H cs) ∧
    (∀ (id : Nat) f sz xs, H[id]? = some (.row f sz xs) → ∃ f', (freeze H cs)[id]? = some (.row f' sz xs) ∧ ((∃ n, AV.own id n ∈ cs) ∨ f = true → f' = true))
  | [], S, H, hr => ⟨S, .refl hr, fun id f sz xs h => ⟨f, h, fun e => by simpa using e⟩⟩
  | c :: cs, S, H, hr => by
    by_cases hc : ∃ id n f sz xs, c = .own id n ∧ H[id]? = some (.row f sz xs)
    · obtain ⟨id, n, f, sz, xs, rfl, hb⟩ := hc
      have hs := step_freeze1 hr hb
      obtain ⟨S', h1, h2⟩ := step_freeze cs hs.rel
      have e : freeze H (.own id n :: cs) = freeze (H.set id (.row true sz xs)) cs := by simp [freeze, hb]
      rw [e]
      refine ⟨S', hs.trans h1, fun i f' sz' ys h => ?_⟩
      have hlt := (List.getElem?_eq_some_iff.1 hb).1
      by_cases he : i = id
      · subst he
        rw [hb] at h; cases h
        obtain ⟨f2, h3, h4⟩ := h2 i true sz xs (by simp [hlt])
        exact ⟨f2, h3, fun _ => h4 (.inr rfl)⟩
      · obtain ⟨f2, h3, h4⟩ := h2 i f' sz' ys (by rw [List.getElem?_set_ne (Ne.symm he)]; exact h)
        refine ⟨f2, h3, fun hh => h4 ?_⟩
        rcases hh with ⟨m, hm⟩ | hh
        · simp only [List.mem_cons, AV.own.injEq] at hm
          rcases hm with ⟨rfl, _⟩ | hm
          · exact absurd rfl he
          · exact .inl ⟨m, hm⟩
        · exact .inr hh
    · have e : freeze H (c :: cs) = freeze H cs := by
        cases c <;> try rfl
        rename_i id n
        simp only [freeze]
        cases hb : H[id]? with
        | none => rfl
        | some b =>
          cases b with
          | box => rfl
          | dead => rfl
          | row f sz xs => exact absurd ⟨id, n, f, sz, xs, rfl, hb⟩ hc
      rw [e]
      obtain ⟨S', h1, h2⟩ := step_freeze cs hr
      refine ⟨S', h1, fun i f sz xs h => ?_⟩
      obtain ⟨f', h3, h4⟩ := h2 i f sz xs h
      refine ⟨f', h3, fun hh => h4 ?_⟩
      rcases hh with ⟨m, hm⟩ | hh
      · rcases List.mem_cons.1 hm with hm | hm
        · exact absurd ⟨i, m, f, sz, xs, hm.symm, h⟩ hc
        · exact .inl ⟨m, hm⟩
      · exact .inr hh
end
end Ab
namespace Ab
open Go (IntKind BinOp UnOp World Value Addr Obj undef maxLen Program TypeId Oper Op Operand Act Sem Next Result execOp Builtin)
section
variable {Γ : Ctx} {N : Names} {P : Program} {w : World} {S T : Nat → Prop} {μ : Nat → Value} {H : Heap}

theorem run_askRoom (b : Nat) : (Go.askRoom b).run P w = .ok () w := by
  unfold Go.askRoom
  split
  · simp [Go.mark, Sem.run]
  · simp

theorem replicate_flat {ν : Nat → Nat} {x : PV} {cells : Array Value} {n sz : Nat} (hx : x.cells.length = sz) (h1 : ∀ c ∈ x.cells, c.one = true) (hc : cells.size = sz) (_h0 : 0 < sz)
    (hr : ∀ (j : Nat) c, x.cells[j]? = some c → RelP ν w S c (cells.getD j undef)) {us : List Value} (hu : ∀ t, t < n * sz → us.getD t undef = cells.getD (t % sz) undef) :
    FlatRel ν w S sz (List.replicate n x) us := by
  refine ⟨fun y hy => ?_, fun i y j c hy hc' => ?_⟩
  · rw [List.eq_of_mem_replicate hy]; exact ⟨hx, h1⟩
  · obtain ⟨hi, e⟩ := List.getElem?_eq_some_iff.1 hy
    simp only [List.length_replicate] at hi
    simp only [List.getElem_replicate] at e
    subst e
    have hj : j < sz := by rw [← hx]; exact (List.getElem?_eq_some_iff.1 hc').1
    have hlt : i * sz + j < n * sz := by
      calc i * sz + j < i * sz + sz := by omega
        _ = (i + 1) * sz := by rw [Nat.add_mul, Nat.one_mul]
        _ ≤ n * sz := Nat.mul_le_mul_right _ hi
    rw [hu _ hlt, Nat.add_comm, Nat.add_mul_mod_self_right, Nat.mod_eq_of_lt hj]
    exact hr j c hc'

theorem x_mkslice (hr : Rel N.fn w S μ H) {t e : TypeId} {i : Go.TypeInfo} {sz : Nat} {ag : Bool} {zero : List PV} {n c : Value} {n' c' : AV} {r : AV × Heap} (hT : slT P t = some e) (hi : P.info? e = some i) (hsz : i.size = sz) (hz : zeroT P e zero = true)
    (hzl : zero.length = sz) (h0 : 0 < sz) (hag : ag = false → sz = 1) (hb : i.bytes ≤ 65536) (hn : RelV N.fn w S μ H n' n) (hc : RelV N.fn w S μ H c' c) (hv : mksliceA H sz ag zero n' c' = some r) :
    ∃ u w' μ', (Go.Instr.makeSlice t n c).run P w = .ok u w' ∧ Step N.fn w S μ H w' S μ' r.2 ∧ RelV N.fn w' S μ' r.2 r.1 u := by
  have lim_eq : lim = 1073741824 := rfl
  unfold zeroT at hz
  split at hz
  rotate_left
  · cases hz
  rename_i z hzz
  obtain ⟨i', hi', hzi⟩ := Option.bind_eq_some_iff.1 hzz
  rw [hi] at hi'; cases hi'
  obtain ⟨z1, z2, z3⟩ := consts_rel (ν := N.fn) (w := w) (S := S) hz
  have hzs : z.cells.size = sz := by rw [← hzl, ← z1]; simp
  unfold mksliceA at hv
  split at hv
  rotate_left
  · cases hv
  rename_i k1 n k2 c
  rw [hn.int_inv, hc.int_inv]
  -- the run
  have run : ∀ m cp : Nat, m ≤ cp → cp ≤ lim → n = m → c = cp → (Go.Instr.makeSlice t (.int k1 n) (.int k2 c)).run P w =
      .ok (.slice (some ⟨w.heap.size, 0, none⟩) m cp) (w.alloc (.cells ((Array.range (cp * sz)).map (z.cells[· % z.cells.size]!)) e)) := by
    intro m cp h1 h2 e1 e2
    subst e1 e2
    have w1 : IntKind.i64.wrap (m : Int) = m := wrap_i64 (by omega) (by omega)
    have w2 : IntKind.i64.wrap (cp : Int) = cp := wrap_i64 (by omega) (by omega)
    have big : ¬ ((i.bytes : Int) * (cp : Int) > 2 ^ 48) := by
      have : i.bytes * cp ≤ 65536 * 1073741824 := Nat.mul_le_mul hb (by omega)
      have h3 : ((i.bytes * cp : Nat) : Int) ≤ (65536 * 1073741824 : Nat) := by exact_mod_cast this
      rw [Int.natCast_mul] at h3
      have h4 : ((65536 * 1073741824 : Nat) : Int) ≤ 2 ^ 48 := by decide
      omega
    have n1 : ¬ ((cp : Int) < 0) := by omega
    have n2 : ¬ ((m : Int) < 0) := by omega
    have n3 : ¬ ((m : Int) > cp) := by omega
    have cnd : (decide ((cp : Int) < 0) || decide ((i.bytes : Int) * (cp : Int) > 2 ^ 48) || decide ((m : Int) < 0) || decide ((m : Int) > cp)) = false := by
      simp only [Bool.or_eq_false_iff]
      exact ⟨⟨⟨decide_eq_false n1, decide_eq_false big⟩, decide_eq_false n2⟩, decide_eq_false n3⟩
    simp only [Go.Instr.makeSlice, Go.Sem.run_bind, Go.run_underlying (slT_spec hT), Go.Result.andThen_ok, Go.asInt, Go.asIntOf, Go.Sem.run_pure, Go.typeInfo, hi, Go.run_program, w1, w2]
    simp only [cnd, Bool.false_eq_true, if_false, Go.Sem.run_bind, run_askRoom, Go.Result.andThen_ok, Go.sizeOf, Go.typeInfo, Go.run_program, hi, Go.Sem.run_pure, hsz, Int.toNat_natCast]
    by_cases h5 : cp * sz = 0
    · have e0 : ∀ f : Nat → Value, (Array.range 0).map f = #[] := fun f => by simp
      simp only [h5, if_true, e0]
      simp [Go.newRow]
    · simp only [h5, if_false, Go.Sem.run_bind, Go.zeroValue, Go.typeInfo, Go.run_program, hi, Go.Sem.run_pure, Go.Result.andThen_ok, hzi]
      simp [Go.newRow]
  have get : ∀ cp t' : Nat, t' < cp * sz → ((Array.range (cp * sz)).map (z.cells[· % z.cells.size]!)).getD t' undef = z.cells.getD (t' % sz) undef := by
    intro cp t' ht
    have hm : t' % sz < z.cells.size := by rw [hzs]; exact Nat.mod_lt _ h0
    rw [Array.getD_eq_getD_getElem?, Array.getD_eq_getD_getElem?, Array.getElem?_map, Array.getElem?_range, if_pos ht, hzs]
    simp only [Option.map_some, Option.getD_some]
    rw [getElem!_pos z.cells _ hm, Array.getElem?_eq_getElem hm, Option.getD_some]
  have xc : (if ag = true then PV.agg zero else zero.headD .nilp).cells = zero := by
    cases ag with
    | true => rfl
    | false =>
      have := hag rfl
      match zero, hzl with
      | [q], _ => exact PV.cells_one (z2 q (by simp))
      | [], h => simp at h; omega
      | _ :: _ :: _, h => simp at h; omega
  have mk : ∀ m cp : Nat, m ≤ cp → cp ≤ lim → n = m → c = cp → ∀ xs, xs = List.replicate m (if ag = true then PV.agg zero else zero.headD .nilp) →
      ∃ u w' μ', (Go.Instr.makeSlice t (.int k1 n) (.int k2 c)).run P w = .ok u w' ∧ Step N.fn w S μ H w' S μ' (H ++ [.row false sz xs]) ∧ RelV N.fn w' S μ' (H ++ [.row false sz xs]) (.own H.length m) u := by
    intro m cp h1 h2 e1 e2 xs hxs
    have hxl : xs.length = m := by rw [hxs]; simp
    have hg := Grows.alloc w (.cells ((Array.range (cp * sz)).map (z.cells[· % z.cells.size]!)) e)
    have hle : m * sz ≤ cp * sz := Nat.mul_le_mul_right _ h1
    have hrow : RowAt (w.alloc (.cells ((Array.range (cp * sz)).map (z.cells[· % z.cells.size]!)) e)) (.slice (some ⟨w.heap.size, 0, none⟩) m cp) sz m (((Array.range (cp * sz)).map (z.cells[· % z.cells.size]!)).toList.take (m * sz)) := by
      refine ⟨by simp only [List.length_take, Array.length_toList, Array.size_map, Array.size_range]; omega, ?_⟩
      by_cases hcp : cp = 0
      · exact .inl ⟨by omega, _, by subst hcp; rw [show m = 0 by omega]⟩
      · exact .inr ⟨w.heap.size, cp, _, e, rfl, by omega, Go.heap_alloc_new w _, h1, by simp only [maxLen]; omega, by simp, rfl⟩
    have hflat : FlatRel N.fn (w.alloc (.cells ((Array.range (cp * sz)).map (z.cells[· % z.cells.size]!)) e)) S sz xs (((Array.range (cp * sz)).map (z.cells[· % z.cells.size]!)).toList.take (m * sz)) := by
      rw [hxs]
      refine (replicate_flat (by rw [xc, hzl]) (fun c hc => z2 c (by rw [xc] at hc; exact hc)) hzs h0 (fun j c hc => ?_) (fun t' ht => ?_)).keep (hr.keepS hg)
      · rw [xc] at hc
        have := z3 j c hc
        rwa [getD_toList] at this
      · rw [List.getD_eq_getElem?_getD, List.getElem?_take, if_pos ht, ← List.getD_eq_getElem?_getD, getD_toList]
        exact get cp t' (by omega)
    rw [← hxl] at hrow
    obtain ⟨μ', s1, s2⟩ := step_newrow hr hg h0 (by omega) hrow (by rw [hxl]; exact hflat) (fun g hg => by
      simp only [blkOf] at hg
      split at hg
      · cases hg
      · simp only [Option.some.injEq] at hg; omega)
    rw [hxl] at s2
    exact ⟨_, _, μ', run m cp h1 h2 e1 e2, s1, s2⟩
  split at hv
  · rename_i hc1
    obtain ⟨g1, g2, g3⟩ := hc1
    simp only [Option.some.injEq] at hv
    subst hv
    have e1 : n = (n.toNat : Int) := by omega
    exact mk n.toNat n.toNat (Nat.le_refl _) (by omega) e1 (by omega) _ rfl
  · simp only [Option.ite_none_right_eq_some, Option.some.injEq] at hv
    obtain ⟨⟨g1, g2, g3⟩, rfl⟩ := hv
    exact mk 0 c.toNat (Nat.zero_le _) (by omega) (by simpa using g1) (by omega) _ (by simp)
end
end Ab
namespace Ab
open Go (IntKind BinOp UnOp World Value Addr Obj undef maxLen Program TypeId Oper Op Operand Act Sem Next Result execOp Builtin)
section
variable {Γ : Ctx} {N : Names} {P : Program} {w : World} {S : Nat → Prop} {μ : Nat → Value} {H : Heap}

theorem x_range (hr : Rel N.fn w S μ H) {T : TypeId} {x : Value} {x' : AV} {r : AV × Heap} (hT : strT P T = true) (hx : RelV N.fn w S μ H x' x) (hv : rangeA H x' = some r) :
    ∃ u w' μ', (Go.Instr.range T x).run P w = .ok u w' ∧ Step N.fn w S μ H w' S μ' r.2 ∧ RelV N.fn w' S μ' r.2 r.1 u := by
  unfold rangeA at hv
  split at hv
  rotate_left
  · cases hv
  rename_i s
  simp only [Option.some.injEq] at hv
  subst hv
  rw [hx.str_inv]
  refine ⟨.pointer (some ⟨w.heap.size, 0, none⟩), w.alloc (.stringIter ⟨s.toArray⟩ 0), upd μ H.length (.pointer (some ⟨w.heap.size, 0, none⟩)), ?_, Step.push hr (Grows.alloc w _) ?_ ?_, ?_⟩
  · simp [Go.Instr.range, Go.run_underlying (strT_spec hT), Go.newObj, Go.Sem.run]
  · exact ⟨w.heap.size, upd_same, .inr (.inl ⟨s, 0, rfl, Go.heap_alloc_new w _⟩)⟩
  · intro g hg
    simp only [blkOf, Option.some.injEq] at hg
    omega
  · exact .bx _ _ w.heap.size _ (by simp) (fun _ _ => upd_same) rfl

theorem x_next (hr : Rel N.fn w S μ H) {ty : TypeId} {x : Value} {x' : AV} {r : AV × Heap} (hx : RelV N.fn w S μ H x' x) (hv : nextA H x' = some r) :
    ∃ u w' μ', (Go.Instr.next x true ty).run P w = .ok u w' ∧ Step N.fn w S μ H w' S μ' r.2 ∧ RelV N.fn w' S μ' r.2 r.1 u := by
  unfold nextA at hv
  split at hv
  rotate_left
  · cases hv
  rename_i id
  split at hv
  rotate_left
  · cases hv
  rename_i s pos hb
  obtain ⟨g, rfl, hl, hg⟩ := hx.bx_inv
  obtain ⟨g', h1, ⟨arr, t, h2, h3, h4, h5⟩ | ⟨s', pos', h2, h3⟩ | ⟨es, arr, clock, h2, _⟩⟩ := hr.blk id _ hb
  · exact absurd (h4 .nov (by simp)) (by simp [AV.one])
  rotate_left
  · simp [mapCells] at h2
  simp only [iterCells, List.cons.injEq, AV.p.injEq, PV.str.injEq, PV.int.injEq, and_true, true_and] at h2
  obtain ⟨rfl, rfl⟩ := h2
  rw [hg _ hb] at h1
  cases h1
  by_cases hlt : (pos' : Int) < s.length
  · have hlt' : pos' < s.length := by omega
    rw [if_pos hlt] at hv
    simp only [Option.some.injEq, Int.toNat_natCast] at hv
    subst hv
    have hm : Moves μ H (upd μ id (.pointer (some ⟨g, 0, none⟩))) (H.set id (.box (iterCells s (pos' + (runeAt s pos').2)))) := moves_set_box hb (hg _ hb).symm
    have hk : ∀ k, k < w.heap.size → blkOf (μ id) ≠ some k → ({ w with heap := w.heap.setIfInBounds g (.stringIter ⟨s.toArray⟩ (pos' + (runeAt s pos').2)) } : World).heap[k]? = w.heap[k]? := by
      intro k _ hne
      rw [hg _ hb] at hne
      have : g ≠ k := fun e => hne (by rw [e]; rfl)
      simp [Array.getElem?_setIfInBounds_ne this]
    have hgl : g < w.heap.size := (Array.getElem?_eq_some_iff.1 h3).1
    refine ⟨.tuple #[.bool true, .int .i64 pos', .int .i32 (runeAt s pos').1], { w with heap := w.heap.setIfInBounds g (.stringIter ⟨s.toArray⟩ (pos' + (runeAt s pos').2)) }, upd μ id (.pointer (some ⟨g, 0, none⟩)), ?_, ?_, ?_⟩
    · have hsz : (ByteArray.mk s.toArray).size = s.length := size_mk s
      simp [Go.Instr.next, Go.getObj, Go.setObj, Go.Sem.run, h3, hsz, hlt', runeAt, Go.goInt]
    · refine Step.set hr hb (.inl ⟨_, rfl⟩) rfl rfl rfl (by simp) hk hm ?_ (fun k h => .inl (by rw [hg _ hb]; exact h))
      exact ⟨g, upd_same, .inr (.inl ⟨s, _, rfl, by simp [hgl]⟩)⟩
    · refine .tup _ _ (by simp) fun j c hc => ?_
      match j with
      | 0 => simp only [List.getElem?_cons_zero, Option.some.injEq] at hc; subst hc; exact .p _ _ (.bool _)
      | 1 => simp only [List.getElem?_cons_succ, List.getElem?_cons_zero, Option.some.injEq] at hc; subst hc; exact .p _ _ (.int _ _)
      | 2 => simp only [List.getElem?_cons_succ, List.getElem?_cons_zero, Option.some.injEq] at hc; subst hc; exact .p _ _ (.int _ _)
      | j + 3 => simp at hc
  · have hlt' : ¬ pos' < s.length := by omega
    rw [if_neg hlt] at hv
    simp only [Option.some.injEq] at hv
    subst hv
    refine ⟨.tuple #[.bool false], w, μ, ?_, .refl hr, ?_⟩
    · have hsz : (ByteArray.mk s.toArray).size = s.length := size_mk s
      simp [Go.Instr.next, Go.getObj, Go.Sem.run, h3, hsz, hlt']
    · refine .tup _ _ (by simp) fun j c hc => ?_
      match j with
      | 0 => simp only [List.getElem?_cons_zero, Option.some.injEq] at hc; subst hc; exact .p _ _ (.bool _)
      | j + 1 => simp at hc

theorem RelO.step {w' : World} {S' : Nat → Prop} {μ' : Nat → Value} {H' : Heap} (hr : Rel N.fn w S μ H) (hs : Step N.fn w S μ H w' S' μ' H') : ∀ {o : Option AV} {u : Option Value}, RelO N.fn w S μ H o u → RelO N.fn w' S' μ' H' o u := by
  intro o u h
  unfold RelO at *
  split at h
  · exact h
  · exact RelV.keep hs.ext.more (fun g hg => hs.ext.keep g (hr.lt g hg) (hr.stable hg).2) hs.moves h
  · exact h

theorem x_slicef {T e : TypeId} {sz : Nat} {x : Value} {x' : AV} {r : AV × Heap} {lo hi : Option AV} {lo' hi' : Option Value} (hr : Rel N.fn w S μ H) (hT : slT P T = some e) (hs : (P.info? e).map (·.size) = some sz)
    (hx : RelV N.fn w S μ H x' x) (hlo : RelO N.fn w S μ H lo lo') (hhi : RelO N.fn w S μ H hi hi') (hv : slicefA H sz x' lo hi = some r) :
    ∃ u w' S' μ', (Go.Instr.sliceAt T x lo' hi' none).run P w = .ok u w' ∧ Step N.fn w S μ H w' S' μ' r.2 ∧ RelV N.fn w' S' μ' r.2 r.1 u := by
  unfold slicefA at hv
  split at hv
  · rename_i id n
    obtain ⟨rr, hrr, hv⟩ := Option.bind_eq_some_iff.1 hv
    obtain ⟨v, hv', rfl⟩ := Option.map_eq_some_iff.1 hv
    obtain ⟨S', hst, hrow⟩ := step_freeze [.own id n] hr
    obtain ⟨fz, hb, hn⟩ := rowOf_spec hrr
    obtain ⟨f1, hb1, hf1⟩ := hrow id fz rr.1 rr.2 hb
    have := hf1 (.inl ⟨n, by simp⟩)
    subst this
    have hp : RelP N.fn w S' (.sl .any rr.1 rr.2) (μ id) := by
      refine row_relP hr hb hst.ext.more fun g hg => ?_
      obtain ⟨_, _, us, _, _, _, h4⟩ := hst.rel.blk id _ hb1
      exact h4 rfl g hg
    have hx1 : x = μ id := hx.own_inv hrr
    rw [hx1]
    obtain ⟨u, h1, h2⟩ := q_slice hT hs (RelV.p (μ := μ) (H := freeze H [.own id n]) _ _ hp) (RelO.step hr hst hlo) (RelO.step hr hst hhi) hv'
    exact ⟨u, w, S', μ, h1, hst, h2⟩
  · obtain ⟨v, hv', rfl⟩ := Option.map_eq_some_iff.1 hv
    obtain ⟨u, h1, h2⟩ := q_slice hT hs hx hlo hhi hv'
    exact ⟨u, w, S, μ, h1, .refl hr, h2⟩
end
end Ab
namespace Ab
open Go (IntKind BinOp UnOp World Value Addr Obj undef maxLen Program TypeId Oper Op Operand Act Sem Next Result execOp Builtin)
def rowT (P : Program) (e : TypeId) (sz : Nat) : Bool :=
  match P.info? e with
  | some i => i.size == sz && decide (i.bytes ≤ 65536) && (match i.zero with | some z => z.cells.size == sz | none => false)
  | none => false
theorem rowT_spec {P e sz} (h : rowT P e sz = true) : ∃ i z, P.info? e = some i ∧ i.size = sz ∧ i.bytes ≤ 65536 ∧ i.zero = some z ∧ z.cells.size = sz := by
  unfold rowT at h
  split at h
  · rename_i i hi
    simp only [Bool.and_eq_true, beq_iff_eq, decide_eq_true_eq] at h
    obtain ⟨⟨h1, h2⟩, h3⟩ := h
    split at h3
    · rename_i z hz
      simp only [beq_iff_eq] at h3
      exact ⟨i, z, hi, h1, h2, hz, h3⟩
    · cases h3
  · cases h

section
variable {Γ : Ctx} {N : Names} {P : Program} {w : World} {S : Nat → Prop} {μ : Nat → Value} {H : Heap}
theorem q_appq (hr : Rel N.fn w S μ H) {t ty e : TypeId} {i : Go.TypeInfo} {z : Value} {sz : Nat} {x y : Value} {x' y' v : AV} (ht : P.underlying t = some (.slice e)) (hi : P.info? e = some i) (hz : i.zero = some z)
    (hsz : i.size = sz) (hzs : z.cells.size = sz) (h0 : 0 < sz) (hb : i.bytes ≤ 65536) (hx : RelV N.fn w S μ H x' x) (hy : RelV N.fn w S μ H y' y) (hv : appqA sz x' y' = some v) :
    ∃ u w' S', (Builtin.append_ #[t, t] ty #[x, y]).run P w = .ok u w' ∧ Step N.fn w S μ H w' S' μ H ∧ RelV N.fn w' S' μ H v u := by
  unfold appqA at hv
  split at hv
  rotate_left
  · cases hv
  rename_i k sz' k2 sz2 ys
  simp only [Option.ite_none_right_eq_some, Option.some.injEq] at hv
  obtain ⟨⟨hk, hk2, hlim⟩, rfl⟩ := hv
  obtain ⟨news, g1, g2⟩ := elems_src hr h0 hy (ys := ys) (by simp only [elemsOf]; rw [if_pos hk2])
  have hx := hx.p_inv
  cases hx with
  | sl _ _ _ a cap us h1 h2 h3 h4 h5 h6 h7 h8 =>
  have hcap : cap = 0 := by
    rcases hk with h | ⟨h, _⟩
    · exact (h4 (.inl h)).2.2
    · exact (h5 (.inl h)).2 h
  subst hcap
  have hrow : RowAt w (.slice a 0 0) sz 0 [] := ⟨by simp, .inl ⟨rfl, a, rfl⟩⟩
  obtain ⟨v', w', r1, r2, r3, r4, r5, r6, r7, r8, r9⟩ := run_append_row (ty := ty) ht hi hz hsz hzs h0 hrow g1 (by omega) hb
  have hg : Grows w w' := ⟨r3, r4, r5, r6, fun g hg => r7 g hg (by cases a <;> simp [blkOf])⟩
  have hnew : ∀ g, blkOf v' = some g → w.heap.size ≤ g := fun g hg => by
    rcases r8 g hg with h | h
    · cases a <;> simp [blkOf] at h
    · exact h
  rw [Nat.zero_add, List.nil_append] at r2
  obtain ⟨μ', s1, s2⟩ := step_newrow hr hg h0 hlim r2 (g2.keep (hr.keepS hg)) hnew
  have hb' : (H ++ [Blk.row false sz ys])[H.length]? = some (.row false sz ys) := by rw [List.getElem?_append_right (Nat.le_refl _), Nat.sub_self]; rfl
  have he : v' = μ' H.length := s2.own_inv (r := (sz, ys)) (by simp [rowOf])
  have rp := row_relP (T := fun g => S g ∨ (w.heap.size ≤ g ∧ g < w'.heap.size)) s1.rel hb' (fun g h => .inl h) (fun g h => .inr ⟨hnew g (by rw [he]; exact h), s1.rel.blk_lt hb' h⟩)
  rw [← he] at rp
  exact ⟨v', w', fun g => S g ∨ (w.heap.size ≤ g ∧ g < w'.heap.size), r1, .grow hr hg (fun g h => .inl h) (fun g h => h.elim (fun h => Nat.lt_of_lt_of_le (hr.lt g h) hg.size) (fun h => h.2)) (fun g h => h.elim .inl (fun h => .inr h.1)), .p _ _ rp⟩
end
end Ab
namespace Ab
open Go (IntKind BinOp UnOp World Value Addr Obj undef maxLen Program TypeId Oper Op Operand Act Sem Next Result execOp Builtin TypeDesc MapEntry)
def KD.desc : KD → TypeDesc
  | .int k => .int k
  | .bool => .bool
  | .str => .string
section
variable {N : Names} {P : Program} {w : World} {S : Nat → Prop} {μ : Nat → Value} {H : Heap}
theorem key_is {ν : Nat → Nat} {kd : KD} {k : PV} {u : Value} (h : keyIs kd k = true) (hr : RelP ν w S k u) : Go.MapKept.IsKey kd.desc u := by
  cases hr <;> cases kd <;> simp only [keyIs, decide_eq_true_eq, Bool.false_eq_true] at h <;> first | exact trivial | exact h
theorem str_beq (a b : List UInt8) : ((⟨a.toArray⟩ : ByteArray) == ⟨b.toArray⟩) = (a == b) := by
  by_cases h : a = b
  · subst h
    rw [(Go.MapKept.bytes_beq _ _).2 rfl]
    simp
  · have h2 : ((⟨a.toArray⟩ : ByteArray) == ⟨b.toArray⟩) = false := by
      rw [Bool.eq_false_iff]
      intro e
      apply h
      have := congrArg (fun x : ByteArray => x.data.toList) ((Go.MapKept.bytes_beq _ _).1 e)
      simpa using this
    rw [h2]
    simp [h]
def MapRel (ν : Nat → Nat) (w : World) (S : Nat → Prop) (μ : Nat → Value) (H : Heap) : List (PV × AV) → List MapEntry → Prop
  | [], [] => True
  | (k, v) :: es, e :: l => RelP ν w S k e.key ∧ v.ok = true ∧ RelV ν w S μ H v e.val ∧ MapRel ν w S μ H es l
  | _, _ => False
theorem MapRel.of {ν : Nat → Nat} : ∀ {es : List (PV × AV)} {l : List MapEntry}, l.length = es.length → (∀ (j : Nat) k v, es[j]? = some (k, v) → ∃ e, l[j]? = some e ∧ RelP ν w S k e.key ∧ v.ok = true ∧ RelV ν w S μ H v e.val) → MapRel ν w S μ H es l
  | [], [], _, _ => trivial
  | [], _ :: _, h, _ => by simp at h
  | _ :: _, [], h, _ => by simp at h
  | (k, v) :: es, e :: l, h, g => by
    obtain ⟨e', h1, h2, h3, h4⟩ := g 0 k v rfl
    cases h1
    exact ⟨h2, h3, h4, MapRel.of (by simpa using h) fun j k v hj => by simpa using g (j + 1) k v (by simpa using hj)⟩
theorem MapRel.len {ν : Nat → Nat} : ∀ {es : List (PV × AV)} {l : List MapEntry}, MapRel ν w S μ H es l → l.length = es.length
  | [], [], _ => rfl
  | (_, _) :: es, e :: l, h => by simp [MapRel.len h.2.2.2]
  | [], _ :: _, h => h.elim
  | (_, _) :: _, [], h => h.elim
theorem MapRel.get {ν : Nat → Nat} : ∀ {es : List (PV × AV)} {l : List MapEntry}, MapRel ν w S μ H es l → ∀ (j : Nat) k v, es[j]? = some (k, v) → ∃ e, l[j]? = some e ∧ RelP ν w S k e.key ∧ v.ok = true ∧ RelV ν w S μ H v e.val
  | [], [], _, j, k, v, hj => by simp at hj
  | (k0, v0) :: es, e :: l, h, j, k, v, hj => by
    cases j with
    | zero =>
      simp only [List.getElem?_cons_zero, Option.some.injEq, Prod.mk.injEq] at hj
      obtain ⟨rfl, rfl⟩ := hj
      exact ⟨e, rfl, h.1, h.2.1, h.2.2.1⟩
    | succ j => simpa using MapRel.get h.2.2.2 j k v (by simpa using hj)
  | [], _ :: _, h, _, _, _, _ => h.elim
  | (_, _) :: _, [], h, _, _, _, _ => h.elim
theorem same_now {ν : Nat → Nat} {kd : KD} {k k' : PV} {u u' : Value} {b : Bool} (hk : keyIs kd k = true) (hr : RelP ν w S k u) (hr' : RelP ν w S k' u') (he : keyEq k k' = some b) : Go.Instr.sameNow kd.desc u u' = some b := by
  cases k <;> cases k' <;> simp only [keyEq, Option.ite_none_right_eq_some, Option.some.injEq, reduceCtorEq] at he
  · obtain ⟨rfl, rfl⟩ := he
    cases hr; cases hr'
    cases kd <;> simp only [keyIs, Bool.false_eq_true] at hk
    simp [KD.desc, Go.Instr.sameNow]
  · subst he
    cases hr; cases hr'
    cases kd <;> simp only [keyIs, Bool.false_eq_true] at hk
    simp [KD.desc, Go.Instr.sameNow]
  · subst he
    cases hr; cases hr'
    cases kd <;> simp only [keyIs, Bool.false_eq_true] at hk
    simp only [KD.desc, Go.Instr.sameNow, str_beq]
theorem find_now {ν : Nat → Nat} {kd : KD} {k : PV} {u : Value} (hk : keyIs kd k = true) (hr : RelP ν w S k u) : ∀ {es : List (PV × AV)} {l : List MapEntry} (i : Nat) {r : Option AV}, MapRel ν w S μ H es l → mfind k es = some r →
    match r with
    | none => Go.Instr.findNow kd.desc u l i = some none
    | some v => ∃ j e, Go.Instr.findNow kd.desc u l i = some (some (i + j, e.val)) ∧ l[j]? = some e ∧ v.ok = true ∧ RelV ν w S μ H v e.val ∧ e.key = u
  | [], [], i, r, _, h => by
    simp only [mfind, Option.some.injEq] at h
    subst h
    rfl
  | (k', v) :: es, e :: l, i, r, hm, h => by
    simp only [mfind] at h
    split at h
    · rename_i he
      simp only [Option.some.injEq] at h
      subst h
      have hs := same_now hk hr hm.1 he
      refine ⟨0, e, by simp [Go.Instr.findNow, hs], rfl, hm.2.1, hm.2.2.1, ?_⟩
      have hr' := hm.1
      revert hr' he hr
      cases k <;> cases k' <;> simp only [keyEq, Option.ite_none_right_eq_some, Option.some.injEq, reduceCtorEq, false_implies, implies_true, forall_const]
      · intro a b c
        obtain ⟨rfl, hb⟩ := b
        have hb := eq_of_beq hb
        subst hb
        cases a
        generalize e.key = z at c
        cases c
        rfl
      · intro a b c
        have hb := eq_of_beq b
        subst hb
        cases a
        generalize e.key = z at c
        cases c
        rfl
      · intro a b c
        have hb := eq_of_beq b
        subst hb
        cases a
        generalize e.key = z at c
        cases c
        rfl
    · rename_i he
      have hs := same_now hk hr hm.1 he
      have ih := find_now hk hr (i + 1) hm.2.2.2 h
      cases r with
      | none => simpa [Go.Instr.findNow, hs] using ih
      | some v' =>
        obtain ⟨j, e', h1, h2, h3⟩ := ih
        exact ⟨j + 1, e', by simp [Go.Instr.findNow, hs, h1]; omega, by simpa using h2, h3⟩
    · cases h
  | [], _ :: _, _, _, hm, _ => hm.elim
  | (_, _) :: _, [], _, _, hm, _ => hm.elim

theorem mapIn_flat : ∀ {cs : List AV} {es : List (PV × AV)}, mapIn cs = some es → cs = mapFlat es
  | [], es, h => by
    simp only [mapIn, Option.some.injEq] at h
    subst h; rfl
  | [c], es, h => by
    cases c <;> simp [mapIn] at h
  | c :: v :: r, es, h => by
    cases c with
    | p k =>
      simp only [mapIn, Option.map_eq_some_iff] at h
      obtain ⟨es', h1, rfl⟩ := h
      rw [mapIn_flat h1]; rfl
    | _ => simp [mapIn] at h
theorem flat_mapIn : ∀ (es : List (PV × AV)), mapIn (mapFlat es) = some es
  | [] => rfl
  | (k, v) :: es => by simp [mapFlat, mapIn, flat_mapIn es]
theorem mapOf_spec {id : Nat} {es : List (PV × AV)} (h : mapOf H id = some es) : H[id]? = some (.box (mapCells es)) := by
  unfold mapOf at h
  split at h
  · rename_i cs hb
    rw [hb, mapIn_flat h]; rfl
  · cases h
theorem Rel.map_of (hr : Rel N.fn w S μ H) {id : Nat} {es : List (PV × AV)} (h : mapOf H id = some es) : ∃ g arr clock, μ id = .pointer (some ⟨g, 0, none⟩) ∧ w.heap[g]? = some (.map arr clock) ∧ MapRel N.fn w S μ H es arr.toList := by
  have hb := mapOf_spec h
  obtain ⟨g, h1, ⟨cs, t, h2, h3, h4, h5⟩ | ⟨s, pos, h2, h3⟩ | ⟨es', arr, clock, h2, h3, h4, h5⟩⟩ := hr.blk id _ hb
  · exact absurd (h4 .nov (by simp [mapCells])) (by simp [AV.one])
  · simp [mapCells, iterCells] at h2
  · have e : es' = es := by
      have := congrArg (fun x => mapIn (x.drop 2)) h2
      simp only [mapCells, List.drop_succ_cons, List.drop_zero, flat_mapIn, Option.some.injEq] at this
      exact this.symm
    subst e
    exact ⟨g, arr, clock, h1, h3, MapRel.of (by simpa using h4) fun j k v hj => by simpa using h5 j k v hj⟩
theorem RelV.mp_inv {ν : Nat → Nat} {id : Nat} {u : Value} (h : RelV ν w S μ H (.mp id) u) : ∃ g, u = .map (some g) ∧ id < H.length ∧ ∀ cs, H[id]? = some (.box cs) → μ id = .pointer (some ⟨g, 0, none⟩) := by
  cases h with | mp _ g _ h1 h2 h3 => exact ⟨g, h3, h1, h2⟩
def mapT (P : Program) (T : TypeId) : Option (TypeId × TypeId) := match P.underlying T with | some (.map k e) => some (k, e) | _ => none
theorem mapT_spec {T k e} (h : mapT P T = some (k, e)) : P.underlying T = some (.map k e) := by
  unfold mapT at h
  split at h
  · rename_i hu; simp only [Option.some.injEq, Prod.mk.injEq] at h; obtain ⟨rfl, rfl⟩ := h; exact hu
  · cases h
def zeroV (P : Program) (T : TypeId) (zero : List PV) : Bool :=
  match (P.info? T).bind (·.zero), zero with
  | some z, [p] => z.oneCell' && constOk z p
  | some (.agg cs), zero => consts cs.toList zero
  | _, _ => false
theorem q_mget (hr : Rel N.fn w S μ H) {T k e : TypeId} {kd : KD} {zero : List PV} {comma : Bool} {x i : Value} {x' i' v : AV} {z : Value} (hT : mapT P T = some (k, e)) (hk : P.underlying k = some kd.desc) (hz : (Go.zeroValue e).run P w = .ok z w) (hzr : RelV N.fn w S μ H (mkZ zero) z)
    (hx : RelV N.fn w S μ H x' x) (hi : RelV N.fn w S μ H i' i) (hv : mgetA H kd zero comma x' i' = some v) : ∃ u, (Go.Instr.lookup T x i comma).run P w = .ok u w ∧ RelV N.fn w S μ H v u := by
  have hu := mapT_spec hT
  have res : ∀ {r : Option AV} {u : Value} {b : Bool}, (match r with | none => b = false ∧ u = z | some v => b = true ∧ RelV N.fn w S μ H v u) → RelV N.fn w S μ H (mres comma (mkZ zero) r) (if comma then .tuple #[u, .bool b] else u) := by
    intro r u b h
    cases r with
    | none =>
      obtain ⟨rfl, rfl⟩ := h
      cases comma
      · exact hzr
      · refine .tup _ _ rfl fun j c hc => ?_
        match j, hc with
        | 0, hc => simp only [List.getElem?_cons_zero, Option.some.injEq] at hc; subst hc; exact hzr
        | 1, hc => simp only [List.getElem?_cons_succ, List.getElem?_cons_zero, Option.some.injEq] at hc; subst hc; exact .p _ _ (.bool _)
        | j + 2, hc => simp at hc
    | some v =>
      obtain ⟨rfl, h⟩ := h
      cases comma
      · exact h
      · refine .tup _ _ rfl fun j c hc => ?_
        match j, hc with
        | 0, hc => simp only [List.getElem?_cons_zero, Option.some.injEq] at hc; subst hc; exact h
        | 1, hc => simp only [List.getElem?_cons_succ, List.getElem?_cons_zero, Option.some.injEq] at hc; subst hc; exact .p _ _ (.bool _)
        | j + 2, hc => simp at hc
  unfold mgetA at hv
  split at hv
  · rename_i kv
    simp only [ifB_some, Option.some.injEq] at hv
    obtain ⟨hkd, rfl⟩ := hv
    have hkey := key_is hkd hi.p_inv
    have hx := hx.p_inv
    cases hx
    have hf : (Go.Instr.findKey k i []).run P w = .ok none w := Go.MapKept.run_findKey hk rfl
    refine ⟨if comma then .tuple #[z, .bool false] else z, ?_, res (r := none) ⟨rfl, rfl⟩⟩
    simp [Go.Instr.lookup, Go.run_underlying hu, Go.MapKept.run_checkKey hk hkey, hf, hz]
  · rename_i id kv
    simp only [ifB_some, Option.bind_eq_some_iff, Option.map_eq_some_iff] at hv
    obtain ⟨hkd, es, hes, r, hf, rfl⟩ := hv
    have hkey := key_is hkd hi.p_inv
    obtain ⟨g, rfl, hl, hg⟩ := hx.mp_inv
    obtain ⟨g', arr, clock, e1, e2, e3⟩ := hr.map_of hes
    rw [hg _ (mapOf_spec hes)] at e1
    cases e1
    have hfn := find_now hkd hi.p_inv 0 e3 hf
    cases r with
    | none =>
      have hf := Go.MapKept.run_findKey (w := w) hk hfn
      refine ⟨if comma then .tuple #[z, .bool false] else z, ?_, res (r := none) ⟨rfl, rfl⟩⟩
      simp [Go.Instr.lookup, Go.run_underlying hu, Go.MapKept.run_getObj_map e2, Go.MapKept.run_checkKey hk hkey, hf, hz]
    | some v0 =>
      obtain ⟨j, en, h1, h2, h3, h4, h5⟩ := hfn
      have hf := Go.MapKept.run_findKey (w := w) hk h1
      refine ⟨if comma then .tuple #[en.val, .bool true] else en.val, ?_, res (r := some v0) ⟨rfl, h4⟩⟩
      simp [Go.Instr.lookup, Go.run_underlying hu, Go.MapKept.run_getObj_map e2, Go.MapKept.run_checkKey hk hkey, hf]
  · cases hv
end
end Ab
