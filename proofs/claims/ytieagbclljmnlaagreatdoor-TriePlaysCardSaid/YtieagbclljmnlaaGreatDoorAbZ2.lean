import Derived.Test.YtieagbclljmnlaaGreatDoorAbZ6
import Derived.Lib.Join
namespace Ab
open Go (IntKind BinOp UnOp World Value Addr Obj undef maxLen Program TypeId Oper Op Operand Act Sem Next Result execOp Builtin Calls Ending Exit)
open Go.RowKit
structure JoinOk (P : Program) (f : Nat) : Prop where
 enters : Enters P f
 none : ∀ (a : Option Addr) (c : Nat) (sep : ByteArray) (w : World),Calls P f #[.slice a 0 c,.string sep] w fun e w' => e = .returned (.string ⟨#[]⟩) ∧ w' = w
 some : ∀ (bk o c : Nat) (xs : List ByteArray) (sep : ByteArray) (w : World),(∀ (j : Nat) x,xs[j]? = some x → w.cell? ⟨bk,o + j,.none⟩ = .some (.string x)) → bk < w.heap.size → xs.length ≤ 140737488355328 → xs.length ≤ c →
  (Go.Lib.join (xs.map (·.data.toList)) sep.data.toList).length ≤ 140737488355328 →
  Calls P f #[.slice (.some ⟨bk,o,.none⟩) xs.length c,.string sep] w fun e w' => e = .returned (.string ⟨(Go.Lib.join (xs.map (·.data.toList)) sep.data.toList).toArray⟩) ∧ Below w.heap.size w w'
theorem joinB_eq (sep : List UInt8) : ∀ l : List (List UInt8),Go.Lib.join l sep = joinB sep l
 | [] => rfl
 | [a] => by simp [Go.Lib.join,joinB,List.intercalate]
 | a :: b :: r => by
  have := joinB_eq sep (b :: r)
  simp only [Go.Lib.join,joinB,List.intercalate,List.intersperse,List.flatten_cons] at this ⊢
  rw [← this,List.append_assoc]
theorem strsIn_spec : ∀ {xs : List PV} {l : List (List UInt8)},strsIn xs = some l → xs = l.map .str
 | [],l,h => by simp only [strsIn,Option.some.injEq] at h; subst h; rfl
 | x :: xs,l,h => by
  cases x <;> simp only [strsIn] at h <;> try cases h
  rename_i s
  obtain ⟨r,h1,rfl⟩ := Option.map_eq_some_iff.1 h
  rw [strsIn_spec h1]; rfl
theorem prim_join {Γ : Ctx} {N : Names} {P : Program} {f : Nat} (h : JoinOk P (N.fn f)) : PrimOk Γ N P f joinG := by
 intro ps rs hg w S us hS hgl ha
 unfold joinG at hg
 split at hg
 rotate_left
 ·cases hg
 rename_i kk xs sep
 split at hg
 rotate_left
 ·cases hg
 rename_i l hl
 simp only [Option.ite_none_right_eq_some,Option.some.injEq] at hg
 obtain ⟨⟨hb1,hb2⟩,rfl⟩ := hg
 have hx := strsIn_spec hl
 match us,ha with
 | [u1,u2],⟨h1,h2,_⟩ =>
  rw [h2.str_inv]
  generalize hxs : xs = xs' at h1
  cases h1 with
  | sl _ _ _ a cap ws k1 k2 k3 k4 k5 k6 k7 k8 =>
  subst hxs
  refine .inl ⟨h.enters _ _,?_⟩
  by_cases hne : xs = []
  ·subst hne
   have : l = [] := by cases l with | nil => rfl | cons => simp at hx
   subst this
   refine (h.none a cap ⟨sep.toArray⟩ w).mono ?_
   rintro e w' ⟨rfl,rfl⟩
   exact ⟨_,rfl,[.string ⟨#[]⟩],S,rfl,.refl _,fun _ h => h,hS,fun _ h => .inl h,.str [],trivial⟩
  ·obtain ⟨ad,rfl,hs⟩ := k6 hne
   obtain ⟨bk,o,sp⟩ := ad
   have cell : ∀ (j : Nat) s,l[j]? = some s → w.cell? ((⟨bk,o,sp⟩ : Addr).add j) = some (.string ⟨s.toArray⟩) := by
    intro j s hj
    have e1 : xs[j]? = some (.str s) := by rw [hx,List.getElem?_map,hj]; rfl
    have := k7 _ rfl j (.str s) 0 (.str s) e1 rfl
    rw [(k8 j (.str s) 0 (.str s) e1 rfl).str_inv] at this
    simpa using this
   have hsp : sp = none := by
    cases l with
    | nil => exact absurd hx hne
    | cons s r =>
     have := cell 0 s rfl
     simp only [Addr.add,if_true] at this
     unfold World.cell? at this
     cases sp with
     | none => rfl
     | some x => split at this <;> simp_all
   subst hsp
   have hlen : xs.length = (l.map fun s => (⟨s.toArray⟩ : ByteArray)).length := by rw [hx]; simp
   have hmap : (l.map fun s => (⟨s.toArray⟩ : ByteArray)).map (·.data.toList) = l := by rw [List.map_map]; exact List.map_id l
   rw [hlen]
   refine (h.some bk o cap (l.map fun s => ⟨s.toArray⟩) ⟨sep.toArray⟩ w ?_ (hS _ hs) ?_ ?_ ?_).mono ?_
   ·intro j x hj
    rw [List.getElem?_map,Option.map_eq_some_iff] at hj
    obtain ⟨s,hs,rfl⟩ := hj
    have := cell j s hs
    unfold Addr.add at this
    split at this
    ·rename_i h0; subst h0; exact this
    ·exact this
   ·simp only [List.length_map]; omega
   ·rw [← hlen]; exact k1
   ·rw [hmap,joinB_eq]; simp only; omega
   ·rintro e w' ⟨rfl,hw⟩
    rw [hmap,joinB_eq]
    exact ⟨_,rfl,[.string ⟨(joinB sep l).toArray⟩],S,rfl,⟨hw.os,hw.tape,hw.output,hw.size,fun g hg => hw.block g hg⟩,fun _ h => h,fun g hg => Nat.lt_of_lt_of_le (hS g hg) hw.size,fun _ h => .inl h,.str _,trivial⟩
end Ab
