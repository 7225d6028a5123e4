import Derived.Test.YtjlcnbpehbgfaaaGreatDoorAbB3
import Derived.Test.YtjlcnbpehbgfaaaGreatDoorAbPrim
import Derived.Shelf.SlSortCmp.NoneTotal
import Derived.Test.YtjlcnbpehbgfaaaGreatDoorCode
import Derived.Test.YtjlcnbpehbgfaaaGreatDoorAbRel
namespace Ab
open Go (IntKind BinOp UnOp World Value Addr Obj undef maxLen Program TypeId Oper Op Operand Act Sem Next Result execOp Builtin Calls Ending Exit)
open Go.Sort Go.RowKit Go.Proofs
theorem relf {ν : Nat → Nat} {w : World} {S S' : Nat → Prop} {x c : PV} {j : Nat} {u : Value} (hf : flat x = true) (hc : x.cells[j]? = some c) (h : RelP ν w S c u) : RelP ν w S' c u := by
 refine flat1_rel ?_ h
 cases x with
 | agg cs => exact List.all_eq_true.1 hf c (List.mem_of_getElem? hc)
 | _ =>
  cases j with
  | zero => simp only [PV.cells,List.getElem?_cons_zero,Option.some.injEq] at hc; subst hc; exact hf
  | succ j => simp [PV.cells] at hc
def encV (n : Int) : List Value := [.bool true,.int .i64 n]
structure SortOk (P : Program) (f c : Nat) : Prop where
 enters : Enters P f
 none : ∀ p cap fv w,Calls P f #[.slice p 0 cap,fv] w fun e w' => e = .returned (.tuple #[]) ∧ w' = w
 some : ∀ (blk cap : Nat) (d : Array Int) (w : World),HoldsK encV 2 w blk 0 d → blk < w.heap.size → d.size < 4611686018427387904 →
  Calls P f #[.slice (some ⟨blk,0,Option.none⟩) d.size cap,.func (.func c) #[] #[]] w fun e w' => e = .returned (.tuple #[]) ∧ ∃ n os,w' = sortWorldK encV 2 w blk 0 n (d.toList.mergeSort fun x y => !(ltOf fun x y : Int => Go.Lib.compareInt x y) y x).toArray os
section
variable {Γ : Ctx} {N : Names} {P : Program} {f c : Nat}
def onlyΓ (f : Nat) (fn : AFn) : Ctx := ⟨fun k => if k = f then some (.code fn) else none,fun _ => none⟩
theorem known_only {fn : AFn} (hm : P.follows .mixedOrders = true) {g : Go.Func} (hg : P.funcs[N.fn f]? = some g) (hc : chkF P N g fn = true) : Known (onlyΓ f fn) N P where
 mixed := hm
 code k fn' h := by
  simp only [onlyΓ] at h
  split at h
  ·rename_i e; subst e; simp only [Option.some.injEq,Fn.code.injEq] at h; subst h; exact ⟨g,hg,hc⟩
  ·cases h
 prim k g h := by simp only [onlyΓ] at h; split at h <;> cases h
 fresh k g h := by simp only [onlyΓ] at h; split at h <;> cases h
 upd k g h := by simp only [onlyΓ] at h; split at h <;> cases h
structure CloneOk (P : Program) (N : Names) (f n : Nat) (fn : AFn) : Prop where
 mixed : P.follows .mixedOrders = true
 chk : ∃ g,P.funcs[N.fn f]? = some g ∧ chkF P N g fn = true
 pos : 0 < n
 nil : ∃ m h,callOf (onlyΓ f fn) (ev (onlyΓ f fn) m) f [.p (.sl .nil n [])] [] = some ([.p (.sl .nil n [])],h)
 mem : ∀ xs : List PV,xs.length ≤ lim → ∃ m h,callOf (onlyΓ f fn) (ev (onlyΓ f fn) m) f [.p (.sl .mem n xs)] [] = some ([.own 0 xs.length],h) ∧ h[0]? = some (.row false n xs)
theorem fresh_clone {n : Nat} {fn : AFn} (h : CloneOk P N f n fn) : FreshOk Γ N P f (cloneG n) := by
 intro ps r hg w S us hS hgl ha
 obtain ⟨g,hg1,hg2⟩ := h.chk
 have K := known_only (f := f) h.mixed hg1 hg2
 have hgl0 : GlRel (onlyΓ f fn) N w S := ⟨(fun k cs hk => by cases hk),(fun k cs hk => by cases hk)⟩
 unfold cloneG at hg
 split at hg
 rotate_left
 ·cases hg
 rename_i k sz xs
 simp only [Option.ite_none_right_eq_some,Option.some.injEq] at hg
 obtain ⟨⟨rfl,h0,hlim,hflat⟩,rfl⟩ := hg
 match us,ha with
 | [u],⟨hu,_⟩ =>
 have no : ∀ g,¬ alive (fun _ => undef) [] g := fun g h => by obtain ⟨id,h1,h2⟩ := h; simp at h2
 have hu2 := hu
 generalize hxs : xs = xs' at hu2
 cases hu2 with
 | sl _ _ _ a cap ws k1 k2 k3 k4 k5 k6 k7 k8 =>
 subst hxs
 by_cases ha : a = none
 ·subst ha
  obtain ⟨e1,_,e3⟩ := k4 (.inr rfl)
  subst e1 e3
  obtain ⟨m,hh,hc⟩ := h.nil
  have hn : RelP N.fn w S (.sl .nil sz []) (.slice none 0 0) := .sl .nil sz [] none 0 (fun _ _ => undef) (Nat.le_refl _) (Nat.zero_le _) (by simp) (by simp) (by simp) (by simp) (by simp) (by simp)
  refine (all_ok K m f _ _ _ _ hc w S (fun _ => undef) [.slice none 0 0] (rel_nil hS) hgl0 ⟨.p _ _ hn,trivial⟩).mono ?_
  rintro v w' ⟨vs,S',μ',rfl,hrun,_,hvs⟩
  match vs,hvs with
  | [v],⟨hv,_⟩ =>
  have hv := hv.p_inv
  have ev : v = .slice none 0 0 := by
   generalize hz : ([] : List PV) = zs at hv
   cases hv with
   | sl _ _ _ a cap _ _ _ _ q4 _ _ _ _ => subst hz; obtain ⟨_,rfl,rfl⟩ := q4 (.inl rfl); rfl
  subst ev
  exact ⟨[],⟨hrun.ext.os,hrun.ext.tape,hrun.ext.output,hrun.ext.size,fun g hg => hrun.ext.keep g hg (no g)⟩,⟨by simp,.inl ⟨rfl,none,rfl⟩⟩,rfl,⟨by simp,by simp⟩,fun g hg => by simp [resVal,blkOf] at hg⟩
 ·obtain ⟨m,hh,hc,hrow⟩ := h.mem xs hlim
  have hm : RelP N.fn w S (.sl .mem sz xs) (.slice a xs.length cap) := .sl .mem sz xs a cap ws k1 k2 k3 (fun h => by rcases h with h | h; cases h; exact absurd h ha) (fun _ => ⟨by cases a <;> simp_all,fun h => by cases h⟩) k6 k7 k8
  refine (all_ok K m f _ _ _ _ hc w S (fun _ => undef) [.slice a xs.length cap] (rel_nil hS) hgl0 ⟨.p _ _ hm,trivial⟩).mono ?_
  rintro v w' ⟨vs,S',μ',rfl,hrun,_,hvs⟩
  match vs,hvs with
  | [v],⟨hv,_⟩ =>
  have hv1 := hv.one rfl
  cases hv with
  | own _ _ _ _ q1 q2 =>
  have ev : v = μ' 0 := (q1 _ _ _ hrow).2 rfl
  obtain ⟨_,_,cells,b1,b2,b3,_⟩ := hrun.rel.blk 0 _ hrow
  subst ev
  refine ⟨cells,⟨hrun.ext.os,hrun.ext.tape,hrun.ext.output,hrun.ext.size,fun g hg => hrun.ext.keep g hg (no g)⟩,b1,hv1,⟨b2,fun i x j c hx hc => ?_⟩,fun g hg => ?_⟩
  ·exact relf (List.all_eq_true.1 hflat x (List.mem_of_getElem? hx)) hc (b3 i x j c hx hc)
  ·rcases Nat.lt_or_ge g w.heap.size with hl | hl
   ·exact absurd (hrun.ext.own g ⟨0,hg,.inr ⟨sz,xs,hrow⟩⟩ hl) (no g)
   ·exact hl
end
end Ab
namespace Ab
theorem clone_nil {f : Nat} : ∃ m h,callOf (onlyΓ f slices_Clone_api_Val_api_Val) (ev (onlyΓ f slices_Clone_api_Val_api_Val) m) f [.p (.sl .nil 2 [])] [] = some ([.p (.sl .nil 2 [])],h) := by
 obtain ⟨n,vs,h,h1,h2⟩ := callK (Γ := onlyΓ f slices_Clone_api_Val_api_Val) (f := f) (fn := slices_Clone_api_Val_api_Val) (args := [.p (.sl .nil 2 [])]) (HL := []) (K := fun vs _ => vs = [.p (.sl .nil 2 [])]) (by simp [onlyΓ]) rfl (by
  simp (disch := first | assumption | omega | decide | (simp only [lens] <;> omega) | fail) only [go_sem,slices_Clone_api_Val_api_Val])
 exact ⟨n,h,by rw [h1,h2]⟩
theorem clone_mem {f : Nat} (xs : List PV) (hx : xs.length ≤ lim) : ∃ m h,callOf (onlyΓ f slices_Clone_api_Val_api_Val) (ev (onlyΓ f slices_Clone_api_Val_api_Val) m) f [.p (.sl .mem 2 xs)] [] = some ([.own 0 xs.length],h) ∧ h[0]? = some (.row false 2 xs) := by
 have hx : xs.length ≤ 1073741824 := hx
 obtain ⟨n,vs,h,h1,h2,h3⟩ := callK (Γ := onlyΓ f slices_Clone_api_Val_api_Val) (f := f) (fn := slices_Clone_api_Val_api_Val) (args := [.p (.sl .mem 2 xs)]) (HL := []) (K := fun vs h => vs = [.own 0 xs.length] ∧ h[0]? = some (.row false 2 xs)) (by simp [onlyΓ]) rfl (by
  simp (disch := first | assumption | omega | decide | (simp only [lens] <;> omega) | fail) only [go_sem,slices_Clone_api_Val_api_Val])
 exact ⟨n,h,by rw [h1,h2],h3⟩
end Ab
