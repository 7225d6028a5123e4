import Derived.Test.YtgdkafbcchkplaaGreatDoorPSer
import Derived.Lib.Join
import Derived.Lib.ItoaNum
import Derived.Lib.LaidTab
import Derived.Sort.Grow
import Derived.Deep.Draws
/- strings.Join, by its contract. -/
namespace Ab
open Go (IntKind BinOp UnOp World Value Addr Obj undef maxLen Program TypeId Oper Op Operand Act Sem Next Result execOp Builtin Calls Ending Exit)
open Go.RowKit
structure JoinOk (P : Program) (f : Nat) : Prop where
  enters : Enters P f
  none : ∀ (a : Option Addr) (c : Nat) (sep : ByteArray) (w : World), Calls P f #[.slice a 0 c, .string sep] w fun e w' => e = .returned (.string ⟨#[]⟩) ∧ w' = w
  some : ∀ (bk o c : Nat) (xs : List ByteArray) (sep : ByteArray) (w : World), (∀ (j : Nat) x, xs[j]? = some x → w.cell? ⟨bk, o + j, .none⟩ = .some (.string x)) → bk < w.heap.size → xs.length ≤ 140737488355328 → xs.length ≤ c →
    (Go.Lib.join (xs.map (·.data.toList)) sep.data.toList).length ≤ 140737488355328 →
    Calls P f #[.slice (.some ⟨bk, o, .none⟩) xs.length c, .string sep] w fun e w' => e = .returned (.string ⟨(Go.Lib.join (xs.map (·.data.toList)) sep.data.toList).toArray⟩) ∧ Below w.heap.size w w'

theorem joinB_eq (sep : List UInt8) : ∀ l : List (List UInt8), Go.Lib.join l sep = joinB sep l
  | [] => rfl
  | [a] => by simp [Go.Lib.join, joinB, List.intercalate]
  | a :: b :: r => by
    have := joinB_eq sep (b :: r)
    simp only [Go.Lib.join, joinB, List.intercalate, List.intersperse, List.flatten_cons] at this ⊢
    rw [← this, List.append_assoc]
theorem strsIn_spec : ∀ {xs : List PV} {l : List (List UInt8)}, strsIn xs = some l → xs = l.map .str
  | [], l, h => by simp only [strsIn, Option.some.injEq] at h; subst h; rfl
  | x :: xs, l, h => by
    cases x <;> simp only [strsIn] at h <;> try cases h
    rename_i s
    obtain ⟨r, h1, rfl⟩ := Option.map_eq_some_iff.1 h
    rw [strsIn_spec h1]; rfl

theorem prim_join {Γ : Ctx} {N : Names} {P : Program} {f : Nat} (h : JoinOk P (N.fn f)) : PrimOk Γ N P f joinG := by
  intro ps rs hg w S us hS hgl ha
  unfold joinG at hg
  split at hg
  rotate_left
  · cases hg
  rename_i kk xs sep
  split at hg
  rotate_left
  · cases hg
  rename_i l hl
  simp only [Option.ite_none_right_eq_some, Option.some.injEq] at hg
  obtain ⟨⟨hb1, hb2⟩, rfl⟩ := hg
  have hx := strsIn_spec hl
  match us, ha with
  | [u1, u2], ⟨h1, h2, _⟩ =>
    rw [h2.str_inv]
    generalize hxs : xs = xs' at h1
    cases h1 with
    | sl _ _ _ a cap ws k1 k2 k3 k4 k5 k6 k7 k8 =>
    subst hxs
    refine .inl ⟨h.enters _ _, ?_⟩
    by_cases hne : xs = []
    · subst hne
      have : l = [] := by cases l with | nil => rfl | cons => simp at hx
      subst this
      refine (h.none a cap ⟨sep.toArray⟩ w).mono ?_
      rintro e w' ⟨rfl, rfl⟩
      exact ⟨_, rfl, [.string ⟨#[]⟩], S, rfl, .refl _, fun _ h => h, hS, fun _ h => .inl h, .str [], trivial⟩
    · obtain ⟨ad, rfl, hs⟩ := k6 hne
      obtain ⟨bk, o, sp⟩ := ad
      have cell : ∀ (j : Nat) s, l[j]? = some s → w.cell? ((⟨bk, o, sp⟩ : Addr).add j) = some (.string ⟨s.toArray⟩) := by
        intro j s hj
        have e1 : xs[j]? = some (.str s) := by rw [hx, List.getElem?_map, hj]; rfl
        have := k7 _ rfl j (.str s) 0 (.str s) e1 rfl
        rw [(k8 j (.str s) 0 (.str s) e1 rfl).str_inv] at this
        simpa using this
      have hsp : sp = none := by
        cases l with
        | nil => exact absurd hx hne
        | cons s r =>
          have := cell 0 s rfl
          simp only [Addr.add, if_true] at this
          unfold World.cell? at this
          cases sp with
          | none => rfl
          | some x => split at this <;> simp_all
      subst hsp
      have hlen : xs.length = (l.map fun s => (⟨s.toArray⟩ : ByteArray)).length := by rw [hx]; simp
      have hmap : (l.map fun s => (⟨s.toArray⟩ : ByteArray)).map (·.data.toList) = l := by rw [List.map_map]; exact List.map_id l
      rw [hlen]
      refine (h.some bk o cap (l.map fun s => ⟨s.toArray⟩) ⟨sep.toArray⟩ w ?_ (hS _ hs) ?_ ?_ ?_).mono ?_
      · intro j x hj
        rw [List.getElem?_map, Option.map_eq_some_iff] at hj
        obtain ⟨s, hs, rfl⟩ := hj
        have := cell j s hs
        unfold Addr.add at this
        split at this
        · rename_i h0; subst h0; exact this
        · exact this
      · simp only [List.length_map]; omega
      · rw [← hlen]; exact k1
      · rw [hmap, joinB_eq]; simp only; omega
      · rintro e w' ⟨rfl, hw⟩
        rw [hmap, joinB_eq]
        exact ⟨_, rfl, [.string ⟨(joinB sep l).toArray⟩], S, rfl, ⟨hw.os, hw.tape, hw.output, hw.size, fun g hg => hw.block g hg⟩, fun _ h => h, fun g hg => Nat.lt_of_lt_of_le (hS g hg) hw.size, fun _ h => .inl h, .str _, trivial⟩
end Ab
/- Tables that the program's start lays; strconv.Itoa, by its contract. -/
namespace Ab
open Go (IntKind BinOp UnOp World Value Addr Obj undef maxLen Program TypeId Oper Op Operand Act Sem Next Result execOp Builtin Calls Ending Exit)

/-- A table of numbers, in memory and as a tree. -/
theorem glRel_tab {Γ : Ctx} {N : Names} {P : Program} {W : World} {gv : Nat} {name : String} {k : IntKind} {zs : List Int}
    (hΓ : ∀ n cs, Γ.gl n = some cs → n = gv ∧ cs = zs.map (.int k)) (hz : zs ≠ []) (hg : P.globalNamed name = some (N.gl gv)) (ht : Go.Lib.TabIs P W name k zs) : GlRel Γ N W fun g => g < W.heap.size := by
  have hv : ∃ e fr, W.heap[N.gl gv]? = some (.cells (zs.map fun z => Value.int k z).toArray e fr) := by
    unfold Go.Lib.TabIs World.var? at ht
    rw [hg, Option.bind_some] at ht
    split at ht
    · rename_i cs e fr h
      simp only [Option.some.injEq] at ht
      subst ht
      exact ⟨e, fr, h⟩
    · cases ht
  obtain ⟨e, fr, hv⟩ := hv
  constructor
  · intro n cs hn
    obtain ⟨rfl, rfl⟩ := hΓ n cs hn
    refine .ptr _ _ (fun j => .int k (zs.getD j 0)) (by simpa using hz) (Array.getElem?_eq_some_iff.1 hv).1 (fun c hc => ?_) (fun j c hc => ?_) (fun j c hc => ?_)
    · obtain ⟨z, _, rfl⟩ := List.mem_map.1 hc
      rfl
    · have hj : j < zs.length := by
        have := (List.getElem?_eq_some_iff.1 hc).1
        simpa using this
      have e1 : ((⟨N.gl n, 0, none⟩ : Addr).add j) = ⟨N.gl n, j, none⟩ := by
        unfold Addr.add
        split
        · rename_i h; rw [h]
        · simp
      rw [e1]
      unfold World.cell?
      simp only [hv]
      simp [hj]
    · rw [List.getElem?_map, Option.map_eq_some_iff] at hc
      obtain ⟨z, hz, rfl⟩ := hc
      rw [List.getD_eq_getElem?_getD, hz]
      exact .int _ _
  · intro n cs hn
    obtain ⟨rfl, rfl⟩ := hΓ n cs hn
    exact ⟨_, e, fr, hv, by simp⟩

/-- .. and back. -/
theorem tab_of_glRel {Γ : Ctx} {N : Names} {P : Program} {W : World} {S : Nat → Prop} {gv : Nat} {name : String} {k : IntKind} {zs : List Int}
    (hΓ : Γ.gl gv = some (zs.map (.int k))) (hg : P.globalNamed name = some (N.gl gv)) (h : GlRel Γ N W S) : Go.Lib.TabIs P W name k zs := by
  obtain ⟨us, e, fr, h1, h2⟩ := h.whole _ _ hΓ
  have hr := h.rel _ _ hΓ
  unfold Go.Lib.TabIs World.var?
  rw [hg, Option.bind_some, h1]
  simp only [Option.some.injEq]
  generalize hcs : zs.map (PV.int k) = cs at hr
  cases hr with
  | ptr _ _ vs g0 g1 g2 g3 g4 =>
  subst hcs
  apply Array.ext
  · simpa using h2
  · intro j hj1 hj2
    have hj : j < zs.length := by simpa using hj2
    have e1 : ((⟨N.gl gv, 0, none⟩ : Addr).add j) = ⟨N.gl gv, j, none⟩ := by
      unfold Addr.add
      split
      · rename_i h; rw [h]
      · simp
    have hc : (zs.map (PV.int k))[j]? = some (.int k zs[j]) := by simp [hj]
    have a1 := g3 j _ hc
    have a2 := g4 j _ hc
    rw [a2.int_inv, e1] at a1
    unfold World.cell? at a1
    simp only [h1] at a1
    simp only [Option.isSome_none, Bool.false_eq_true, if_false] at a1
    rw [Array.getElem?_eq_getElem hj1] at a1
    simpa using a1

theorem itoaB_eq (n : Int) : Go.Lib.itoa n = itoaB n := by
  have key : ∀ u : Nat, Go.Lib.decDigits u = decB u := by
    intro u
    induction u using Nat.strongRecOn with
    | ind u ih =>
      unfold Go.Lib.decDigits decB
      split
      · rfl
      · rw [ih (u / 10) (by omega)]
  unfold Go.Lib.itoa itoaB
  rw [key, key]

structure ItoaOk (P : Program) (f : Nat) : Prop where
  enters : Enters P f
  run : ∀ (n : Int), -9223372036854775808 ≤ n → n ≤ 9223372036854775807 → ∀ w : World, Go.Lib.TabIs P w "internal/strconv.uint64pow10" .u64 Go.Lib.pow10Tab →
    Calls P f #[.int .i64 n] w fun e w' => e = .returned (.string ⟨(Go.Lib.itoa n).toArray⟩) ∧ ∃ k os, w' = Go.Sort.grow (w.drewN k) os

theorem prim_itoa {Γ : Ctx} {N : Names} {P : Program} {f gv : Nat} (hΓ : Γ.gl gv = some (Go.Lib.pow10Tab.map (.int .u64))) (hg : P.globalNamed "internal/strconv.uint64pow10" = some (N.gl gv)) (h : ItoaOk P (N.fn f)) : PrimOk Γ N P f itoaG := by
  intro ps rs hgq w S us hS hgl ha
  unfold itoaG at hgq
  split at hgq
  rotate_left
  · cases hgq
  rename_i n
  simp only [Option.ite_none_right_eq_some, Option.some.injEq] at hgq
  obtain ⟨⟨h0, h1⟩, rfl⟩ := hgq
  match us, ha with
  | [u1], ⟨hu, _⟩ =>
    rw [hu.int_inv]
    refine .inl ⟨h.enters _ _, (h.run n h0 h1 w (tab_of_glRel hΓ hg hgl)).mono ?_⟩
    rintro e w' ⟨rfl, k, os, rfl⟩
    refine ⟨_, rfl, [.string ⟨(itoaB n).toArray⟩], S, by rw [itoaB_eq]; rfl, ⟨rfl, rfl, rfl, ?_, fun g hg => ?_⟩, fun _ h => h, fun g hg => ?_, fun _ h => .inl h, .str _, trivial⟩
    · simp [Go.Sort.grow, Go.World.drewN]
    · simp only [Go.Sort.grow, Go.World.drewN]
      rw [Array.getElem?_append_left hg]
    · have := hS g hg
      simp only [Go.Sort.grow, Go.World.drewN, Array.size_append]
      omega
end Ab
