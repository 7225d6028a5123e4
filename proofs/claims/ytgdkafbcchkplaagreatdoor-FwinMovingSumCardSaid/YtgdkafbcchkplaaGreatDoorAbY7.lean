/- A loop's head: blocks that nothing leads to are forgotten, the others get new numbers. -/
import Derived.Test.YtgdkafbcchkplaaGreatDoorAbY6
namespace Ab
open Go (IntKind BinOp UnOp World Value Addr Obj undef maxLen Program TypeId Oper Op Operand Act Sem Next Result execOp Builtin Calls Ending Exit)

theorem place_spec : ∀ {L : List Nat} {id i : Nat}, place L id = some i → L[i]? = some id
  | x :: r, id, i, h => by
    simp only [place] at h
    split at h
    · rename_i e; simp only [Option.some.injEq] at h; subst h; subst e; rfl
    · obtain ⟨j, hj, rfl⟩ := Option.map_eq_some_iff.1 h
      simpa using place_spec hj
  | [], _, _, h => by cases h

theorem reach_nodup {H : Heap} : ∀ (n : Nat) (todo acc : List Nat), acc.Nodup → (reach H n todo acc).Nodup
  | 0, _, acc, h => by simpa [reach] using h
  | _ + 1, [], acc, h => by simpa [reach] using h
  | n + 1, id :: r, acc, h => by
    unfold reach
    split
    · exact reach_nodup n r acc h
    · rename_i hc
      refine reach_nodup n _ _ (List.nodup_append.2 ⟨h, by simp, fun a ha b hb e => ?_⟩)
      simp only [List.mem_singleton] at hb
      subst hb; subst e
      exact hc (by simpa using ha)

section
variable {N : Names} {w : World} {S : Nat → Prop} {μ : Nat → Value} {H H' : Heap} {L : List Nat}

def picked (μ : Nat → Value) (L : List Nat) : Nat → Value := fun i => match L[i]? with | some id => μ id | none => undef

theorem pick_get (hp : Heap.pick H L = some H') {i : Nat} {b' : Blk} (hb : H'[i]? = some b') : ∃ id b, L[i]? = some id ∧ H[id]? = some b ∧ Blk.ren (place L) b = some b' := by
  obtain ⟨_, h⟩ := mapO_spec hp
  obtain ⟨id, h1, h2⟩ := h i b' hb
  obtain ⟨b, h3, h4⟩ := Option.bind_eq_some_iff.1 h2
  exact ⟨id, b, h1, h3, h4⟩

theorem ren_one {r : Nat → Option Nat} {d : Nat} {v v' : AV} (h : AV.ren r d v = some v') (h1 : v.one = true) : v'.one = true := by
  cases v <;> simp only [AV.one, Bool.false_eq_true] at h1
  case p v => cases d <;> (simp only [AV.ren, Option.some.injEq] at h; subst h; exact h1)
  case own => cases d <;> (simp only [AV.ren, Option.map_eq_some_iff] at h; obtain ⟨_, _, rfl⟩ := h; rfl)
  case bx => cases d <;> (simp only [AV.ren, Option.map_eq_some_iff] at h; obtain ⟨_, _, rfl⟩ := h; rfl)
  case el => cases d <;> (simp only [AV.ren, Option.map_eq_some_iff] at h; obtain ⟨_, _, rfl⟩ := h; rfl)
  case clo f cs =>
    cases d with
    | zero => simp [AV.ren] at h
    | succ d =>
      rw [show AV.ren r (d + 1) (.clo f cs) = (mapO (AV.ren r d) cs).map (.clo f) from rfl, Option.map_eq_some_iff] at h
      obtain ⟨_, _, rfl⟩ := h; rfl

theorem ren_cells {r : Nat → Option Nat} {d : Nat} {μ' : Nat → Value} {cs cs' : List AV} {us : Array Value} (hm : mapO (AV.ren r d) cs = some cs') (h1 : us.size = cs.length) (h3 : ∀ j c, cs[j]? = some c → RelV N.fn w S μ H c (us.getD j undef))
    (ih : ∀ {v v' u}, RelV N.fn w S μ H v u → AV.ren r d v = some v' → RelV N.fn w S μ' H' v' u) :
    us.size = cs'.length ∧ ((∀ c ∈ cs, c.one = true) → ∀ c ∈ cs', c.one = true) ∧ ∀ (j : Nat) c, cs'[j]? = some c → RelV N.fn w S μ' H' c (us.getD j undef) := by
  obtain ⟨hl, hg⟩ := mapO_spec hm
  refine ⟨by rw [h1, hl], fun ho c hc => ?_, fun j c hc => ?_⟩
  · obtain ⟨j, hj⟩ := List.getElem?_of_mem hc
    obtain ⟨x, hx, hx'⟩ := hg j c hj
    exact ren_one hx' (ho x (List.mem_of_getElem? hx))
  · obtain ⟨x, hx, hx'⟩ := hg j c hc
    exact ih (h3 j x hx) hx'

theorem ren_rel (hp : Heap.pick H L = some H') : ∀ (d : Nat) {v v' : AV} {u : Value}, RelV N.fn w S μ H v u → AV.ren (place L) d v = some v' → RelV N.fn w S (picked μ L) H' v' u := by
  have hlen : H'.length = L.length := (mapO_spec hp).1
  have at_ : ∀ {id i : Nat}, place L id = some i → i < H'.length ∧ picked μ L i = μ id ∧ ∀ b', H'[i]? = some b' → ∃ b, H[id]? = some b ∧ Blk.ren (place L) b = some b' := fun {id i} h => by
    have hi := place_spec h
    refine ⟨by rw [hlen]; exact (List.getElem?_eq_some_iff.1 hi).1, by simp [picked, hi], fun b' hb => ?_⟩
    obtain ⟨id', b, h1, h2, h3⟩ := pick_get hp hb
    rw [hi] at h1; cases h1
    exact ⟨b, h2, h3⟩
  have leaf : ∀ (d : Nat) {v v' : AV} {u : Value}, RelV N.fn w S μ H v u → AV.ren (place L) d v = some v' → (∀ cs, v ≠ .agg cs) → (∀ cs, v ≠ .tup cs) → (∀ f cs, v ≠ .clo f cs) → RelV N.fn w S (picked μ L) H' v' u := by
    intro d v v' u h hr h1 h2 h3
    cases h with
    | p v u h => cases d <;> (simp only [AV.ren, Option.some.injEq] at hr; subst hr; exact .p _ _ h)
    | own id n u hl h h1 =>
      have hr : (place L id).map (AV.own · n) = some v' := by cases d <;> simpa only [AV.ren] using hr
      obtain ⟨i, hi, rfl⟩ := Option.map_eq_some_iff.1 hr
      obtain ⟨a1, a2, a3⟩ := at_ hi
      refine .own i n u a1 (fun f sz xs e => ?_) h1
      obtain ⟨b, hb, hb'⟩ := a3 _ e
      cases b with
      | box cs => simp only [Blk.ren, Option.map_eq_some_iff] at hb'; obtain ⟨_, _, hb'⟩ := hb'; cases hb'
      | row f' sz' xs' =>
        simp only [Blk.ren, Option.some.injEq] at hb'; cases hb'
        rw [a2]; exact h f sz xs hb
    | bx id off g u hl h h1 =>
      have hr : (place L id).map (AV.bx · off) = some v' := by cases d <;> simpa only [AV.ren] using hr
      obtain ⟨i, hi, rfl⟩ := Option.map_eq_some_iff.1 hr
      obtain ⟨a1, a2, a3⟩ := at_ hi
      refine .bx i off g u a1 (fun cs e => ?_) h1
      obtain ⟨b, hb, hb'⟩ := a3 _ e
      cases b with
      | box cs' => rw [a2]; exact h cs' hb
      | row f' sz' xs' => simp only [Blk.ren, Option.some.injEq] at hb'; cases hb'
    | el id n i' off u hl h h1 =>
      have hr : (place L id).map (AV.el · n i' off) = some v' := by cases d <;> simpa only [AV.ren] using hr
      obtain ⟨i, hi, rfl⟩ := Option.map_eq_some_iff.1 hr
      obtain ⟨a1, a2, a3⟩ := at_ hi
      refine .el i n i' off u a1 (fun f sz xs e => ?_) h1
      obtain ⟨b, hb, hb'⟩ := a3 _ e
      cases b with
      | box cs => simp only [Blk.ren, Option.map_eq_some_iff] at hb'; obtain ⟨_, _, hb'⟩ := hb'; cases hb'
      | row f' sz' xs' =>
        simp only [Blk.ren, Option.some.injEq] at hb'; cases hb'
        rw [a2]; exact h f sz xs hb
    | nov => cases d <;> (simp only [AV.ren, Option.some.injEq] at hr; subst hr; exact .nov)
    | any u => cases d <;> (simp only [AV.ren, Option.some.injEq] at hr; subst hr; exact .any _)
    | agg cs => exact absurd rfl (h1 cs)
    | tup cs => exact absurd rfl (h2 cs)
    | clo f cs => exact absurd rfl (h3 f cs)
  intro d
  induction d with
  | zero =>
    intro v v' u h hr
    refine leaf 0 h hr ?_ ?_ ?_
    · rintro cs rfl; simp [AV.ren] at hr
    · rintro cs rfl; simp [AV.ren] at hr
    · rintro f cs rfl; simp [AV.ren] at hr
  | succ d ih =>
    intro v v' u h hr
    by_cases ha : ∃ cs, v = .agg cs
    · obtain ⟨cs, rfl⟩ := ha
      rw [show AV.ren (place L) (d + 1) (.agg cs) = (mapO (AV.ren (place L) d) cs).map .agg from rfl, Option.map_eq_some_iff] at hr
      obtain ⟨cs', hm, rfl⟩ := hr
      cases h with
      | agg _ us h1 h2 h3 =>
        obtain ⟨g1, g2, g3⟩ := ren_cells hm h1 h3 ih
        exact .agg cs' us g1 (g2 h2) g3
    · by_cases ht : ∃ cs, v = .tup cs
      · obtain ⟨cs, rfl⟩ := ht
        rw [show AV.ren (place L) (d + 1) (.tup cs) = (mapO (AV.ren (place L) d) cs).map .tup from rfl, Option.map_eq_some_iff] at hr
        obtain ⟨cs', hm, rfl⟩ := hr
        cases h with
        | tup _ us h1 h3 =>
          obtain ⟨g1, g2, g3⟩ := ren_cells hm h1 h3 ih
          exact .tup cs' us g1 g3
      · by_cases hc : ∃ f cs, v = .clo f cs
        · obtain ⟨f, cs, rfl⟩ := hc
          rw [show AV.ren (place L) (d + 1) (.clo f cs) = (mapO (AV.ren (place L) d) cs).map (.clo f) from rfl, Option.map_eq_some_iff] at hr
          obtain ⟨cs', hm, rfl⟩ := hr
          cases h with
          | clo _ _ us h1 h2 h3 =>
            obtain ⟨g1, g2, g3⟩ := ren_cells hm h1 h3 ih
            exact .clo f cs' us g1 (g2 h2) g3
        · exact leaf (d + 1) h hr (fun cs e => ha ⟨cs, e⟩) (fun cs e => ht ⟨cs, e⟩) (fun f cs e => hc ⟨f, cs, e⟩)

theorem alive_picked (hp : Heap.pick H L = some H') {i : Nat} {b' : Blk} (hb : H'[i]? = some b') (ha : isAlive b') : ∃ id b, L[i]? = some id ∧ H[id]? = some b ∧ isAlive b ∧ picked μ L i = μ id := by
  obtain ⟨id, b, h1, h2, h3⟩ := pick_get hp hb
  refine ⟨id, b, h1, h2, ?_, by simp [picked, h1]⟩
  cases b with
  | box cs => exact .inl ⟨cs, rfl⟩
  | row f sz xs =>
    simp only [Blk.ren, Option.some.injEq] at h3; subst h3
    rcases ha with ⟨_, h⟩ | ⟨sz', xs', h⟩
    · cases h
    · cases h; exact .inr ⟨_, _, rfl⟩

theorem run_pick (hr : Rel N.fn w S μ H) (hL : L.Nodup) (hp : Heap.pick H L = some H') : Run N.fn w S μ H w S (picked μ L) H' := by
  have hal : ∀ g, alive (picked μ L) H' g → alive μ H g := fun g h => by
    obtain ⟨i, b', h1, h2, h3⟩ := alive_iff.1 h
    obtain ⟨id, b, _, h5, h6, h7⟩ := alive_picked (μ := μ) hp h1 h2
    exact alive_iff.2 ⟨id, b, h5, h6, by rw [← h7]; exact h3⟩
  refine ⟨⟨hr.lt, fun i b' hb => ?_, fun g h => hr.apart g (hal g h), fun i j g hi hj ai aj => ?_⟩, ⟨rfl, rfl, rfl, Nat.le_refl _, fun _ _ _ => rfl, fun _ h => h, fun _ h _ => .inl h, fun g h _ => hal g h⟩⟩
  · obtain ⟨id, b, h1, h2, h3⟩ := pick_get hp hb
    have hb0 := hr.blk id b h2
    have hμ : picked μ L i = μ id := by simp [picked, h1]
    cases b with
    | box cs =>
      simp only [Blk.ren, Option.map_eq_some_iff] at h3
      obtain ⟨cs', hm, rfl⟩ := h3
      obtain ⟨g, e1, ⟨us, t, e2, e3, e4, e5⟩ | ⟨s, pos, rfl, e2⟩⟩ := hb0
      · obtain ⟨g1, g2, g3⟩ := ren_cells hm e3 e5 (ren_rel hp 3)
        exact ⟨g, by rw [hμ]; exact e1, .inl ⟨us, t, e2, g1, g2 e4, g3⟩⟩
      · simp only [iterCells, mapO, AV.ren, Option.some.injEq] at hm
        subst hm
        exact ⟨g, by rw [hμ]; exact e1, .inr ⟨s, pos, rfl, e2⟩⟩
    | row f sz xs =>
      simp only [Blk.ren, Option.some.injEq] at h3; subst h3
      simp only [BlkRel, hμ]
      exact hb0
  · have tr : ∀ i : Nat, ((∃ cs, H'[i]? = some (Blk.box cs)) ∨ ∃ sz xs, H'[i]? = some (Blk.row false sz xs)) → ∃ b', H'[i]? = some b' ∧ isAlive b' := by
      rintro i (⟨cs, h⟩ | ⟨sz, xs, h⟩)
      · exact ⟨_, h, .inl ⟨cs, rfl⟩⟩
      · exact ⟨_, h, .inr ⟨sz, xs, rfl⟩⟩
    obtain ⟨b1, h1, a1⟩ := tr i ai
    obtain ⟨b2, h2, a2⟩ := tr j aj
    obtain ⟨id1, c1, l1, k1, al1, m1⟩ := alive_picked (μ := μ) hp h1 a1
    obtain ⟨id2, c2, l2, k2, al2, m2⟩ := alive_picked (μ := μ) hp h2 a2
    have := hr.inj' k1 k2 al1 al2 (by rw [← m1]; exact hi) (by rw [← m2]; exact hj)
    subst this
    obtain ⟨x1, y1⟩ := List.getElem?_eq_some_iff.1 l1
    obtain ⟨x2, y2⟩ := List.getElem?_eq_some_iff.1 l2
    have pw := List.pairwise_iff_getElem.1 hL
    rcases Nat.lt_trichotomy i j with h | h | h
    · exact absurd (y1.trans y2.symm) (pw i j x1 x2 h)
    · exact h
    · exact absurd (y2.trans y1.symm) (pw j i x2 x1 h)
end

theorem look_prune {live : List Nat} {env : Env} {t : Nat} : look (prune live env) t = if t ∈ live then look env t else .any := by
  unfold prune
  induction live with
  | nil => simp [look]
  | cons x l ih =>
    simp only [List.map_cons, look, List.mem_cons]
    by_cases h : x = t
    · subst h; simp
    · rw [if_neg h, ih]
      simp [Ne.symm h]

theorem look_ren {r : Nat → Option Nat} : ∀ {e e' : Env} {t : Nat}, renEnv r e = some e' → look e' t = .any ∨ ∃ v, look e t = v ∧ AV.ren r 3 v = some (look e' t)
  | [], e', t, h => by simp only [renEnv, mapO, Option.some.injEq] at h; subst h; exact .inl rfl
  | (s, v) :: e, e', t, h => by
    simp only [renEnv, mapO] at h
    split at h
    · rename_i x hx
      split at h
      · rename_i xs hxs
        simp only [Option.some.injEq] at h; subst h
        obtain ⟨v', hv', rfl⟩ := Option.map_eq_some_iff.1 hx
        simp only [look]
        by_cases hs : s = t
        · simp only [hs, if_true]; exact .inr ⟨v, rfl, hv'⟩
        · simp only [hs, if_false]; exact look_ren hxs
      · cases h
    · cases h

section
variable {Γ : Ctx} {N : Names} {w : World} {S : Nat → Prop} {μ : Nat → Value} {H : Heap} {a : Act} {env : Env}

theorem Env.Rel.prune (he : Env.Rel Γ N w S μ H (look env) a) (live : List Nat) : Env.Rel Γ N w S μ H (look (Ab.prune live env)) a :=
  ⟨fun t => by
    rw [look_prune]
    split
    · exact he.env t
    · exact .any _, he.gl⟩

theorem norm_sound (hr : Ab.Rel N.fn w S μ H) (he : Env.Rel Γ N w S μ H (look env) a) {live : List Nat} {gc : Bool} {e : Env} {h : Heap} (hn : norm live gc env H = some (e, h)) :
    ∃ μ', Run N.fn w S μ H w S μ' h ∧ Env.Rel Γ N w S μ' h (look e) a := by
  simp only [norm] at hn
  split at hn
  · split at hn
    · rename_i e' H' h1 h2
      simp only [Option.some.injEq, Prod.mk.injEq] at hn
      obtain ⟨rfl, rfl⟩ := hn
      refine ⟨_, run_pick hr (reach_nodup _ _ _ (by simp)) h2, fun t => ?_, he.gl⟩
      rcases look_ren (t := t) h1 with h | ⟨v, hv, h⟩
      · rw [h]; exact .any _
      · refine ren_rel h2 3 ?_ h
        rw [← hv]
        exact (he.prune live).env t
    · cases hn
  · simp only [Option.some.injEq, Prod.mk.injEq] at hn
    obtain ⟨rfl, rfl⟩ := hn
    exact ⟨μ, .refl hr, he.prune live⟩
end
end Ab
