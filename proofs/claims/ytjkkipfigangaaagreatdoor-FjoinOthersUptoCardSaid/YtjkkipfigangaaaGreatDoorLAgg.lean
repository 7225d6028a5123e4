import GoSem.ClaimOpenFrom
import GoSem.ClaimJoined
import Derived.KernelRfl
import Derived.Test.YtjkkipfigangaaaGreatDoorAbB3
import Derived.Test.YtjkkipfigangaaaGreatDoorAbRow
import Derived.Test.YtjkkipfigangaaaGreatDoorAbRel
import Derived.Test.YtjkkipfigangaaaGreatDoorCode
namespace Ab
open Go
def wordsF : List Char → List Char → List (List Char)
  | a, [] => [a.reverse]
  | a, c :: r => if c = (Char.ofNat 32) then a.reverse :: wordsF [] r else wordsF (c :: a) r
theorem wordsSigns_ne (l : List Char) : wordsSigns l ≠ [] := by
  cases l with
  | nil => simp [wordsSigns]
  | cons c r =>
    unfold wordsSigns
    split <;> simp_all
    split <;> simp
theorem wordsF_is : ∀ (l a : List Char), wordsF a l = match wordsSigns l with | w :: ws => (a.reverse ++ w) :: ws | [] => [] := by
  intro l
  induction l with
  | nil => intro a; simp [wordsF, wordsSigns]
  | cons c r ih =>
    intro a
    by_cases hc : c = (Char.ofNat 32)
    · subst hc
      rw [wordsF, if_pos rfl, ih]
      have : wordsSigns ((Char.ofNat 32) :: r) = [] :: wordsSigns r := rfl
      rw [this]
      cases h : wordsSigns r with
      | nil => exact absurd h (wordsSigns_ne r)
      | cons w ws => simp
    · rw [wordsF, if_neg hc, ih]
      have : wordsSigns (c :: r) = match wordsSigns r with | w :: ws => (c :: w) :: ws | [] => [[c]] := by
        rw [wordsSigns]
        · cases wordsSigns r <;> rfl
        · exact hc
      rw [this]
      cases h : wordsSigns r with
      | nil => exact absurd h (wordsSigns_ne r)
      | cons w ws => simp
theorem wordsSigns_is (l : List Char) : wordsSigns l = wordsF [] l := by
  rw [wordsF_is]
  cases h : wordsSigns l with
  | nil => exact absurd h (wordsSigns_ne l)
  | cons w ws => simp
theorem make_cut {P : Program} {r : List (List Char)} (h : behindMainWord (wordsSigns P.initOrder.toList) = [Char.ofNat 99,Char.ofNat 117,Char.ofNat 116] :: r) : P.make = some .cut := by
  unfold Program.make
  rw [h]
  rfl
theorem lifts_cut {P : Program} {r : List (List Char)} (h : behindMainWord (wordsSigns P.initOrder.toList) = [Char.ofNat 99,Char.ofNat 117,Char.ofNat 116] :: r) : P.headLifts = [] := by
  unfold Program.headLifts
  rw [h]
  rfl
theorem final_cut {P : Program} {r : List (List Char)} (h : behindMainWord (wordsSigns P.initOrder.toList) = [Char.ofNat 99,Char.ofNat 117,Char.ofNat 116] :: r) : P.liftsFinal = false := by
  unfold Program.liftsFinal
  rw [lifts_cut h, h]
  rfl
theorem enter_cut {P : Program} {r : List (List Char)} (h : behindMainWord (wordsSigns P.initOrder.toList) = [Char.ofNat 99,Char.ofNat 117,Char.ofNat 116] :: r)
    (h1 : P.laysLater = false) (h2 : P.bearsReflect = false) (h3 : P.doorFits [] = true) : P.mayEnter = true := by
  unfold Program.mayEnter
  rw [h]
  have e : stripLifts liftWords ([Char.ofNat 99,Char.ofNat 117,Char.ofNat 116] :: r) = ([], [Char.ofNat 99,Char.ofNat 117,Char.ofNat 116] :: r) := rfl
  dsimp only
  rw [e, h1, h2]
  dsimp only
  rw [h3]
  rfl
theorem main_har {P : Program} {s : List Char} {r : List (List Char)} (h : wordsSigns P.initOrder.toList = [Char.ofNat 104,Char.ofNat 97,Char.ofNat 114,Char.ofNat 110,Char.ofNat 101,Char.ofNat 115,Char.ofNat 115] :: s :: r) (hs : isSumSigns s = true) : P.mainIs = some (true, s) := by
  unfold Program.mainIs
  rw [h]
  dsimp only
  rw [hs, if_neg (by decide), if_pos (by decide)]
end Ab
namespace Ab
open Go (IntKind BinOp UnOp World Value Addr Obj undef maxLen Program TypeId Oper Op Operand Act Sem Next Result execOp Builtin Calls Ending Exit DataW Lit MemPlace ChangeSpec)
section
variable {H : Type} {enc : TypeId × Value → H} {P : Program} {N : Names} {Γ : Ctx} {W : World}
theorem slice_of_tree {n : Nat} {t : TypeId} {k : SK} {sz : Nat} {xs : List PV} (h : treeT P n (.sl k sz xs) t) : ∃ e, P.underlying t = some (.slice e) := by
  obtain ⟨h1, h2⟩ := h
  cases n with
  | zero => exact h2.elim
  | succ n =>
    rw [okT] at h2
    split at h2
    · obtain ⟨_, h⟩ := h2; simp [PV.cells] at h
    · obtain ⟨_, h, _⟩ := h2; simp [PV.cells] at h
    · obtain ⟨_, h, _⟩ := h2; simp [PV.cells] at h
    · rename_i e hu; exact ⟨e, hu⟩
    · rename_i fs hu; simp [aggB, hu, PV.one] at h1
    · exact h2.elim
theorem rows_upto {S : Nat → Prop} {n B : Nat} : ∀ {ts : List TypeId} {vs : List Value} {ds : List (DataW H)} {ps : List MemPlace} {trees : List PV},
    DataW.TrodAll enc P W 0 (fun _ => true) true ts vs ds ps → All2 (treeT P n) trees ts → All2 (fun u p => RelP N.fn W S p u) vs trees → (∀ d ∈ ds, ∀ es sp, d = .slice es sp → es.length ≤ B) →
    ∀ x ∈ trees, ∀ k sz xs, x = .sl k sz xs → xs.length ≤ B
  | [], [], _, _, [], _, _, _, _ => fun x hx => by cases hx
  | t :: ts, v :: vs, d :: ds, ps, x :: xs, h, ht, hr, hz => by
    obtain ⟨p, q, h1, h2, _⟩ := h
    obtain ⟨ht1, ht2⟩ := ht
    obtain ⟨hr1, hr2⟩ := hr
    intro y hy k sz l e
    rcases List.mem_cons.1 hy with rfl | hy
    · subst e
      obtain ⟨e, hu⟩ := slice_of_tree ht1
      cases hr1
      obtain ⟨F, h1⟩ := h1
      rcases DataW.trod_slice hu h1 with ⟨hc, _⟩ | ⟨a, len, cap, elems, rest, F', hF, hc, hd, _, _, _, hel, _⟩
      · rw [cells_single rfl] at hc
        simp only [List.cons.injEq, Value.slice.injEq, and_true] at hc
        omega
      · rw [cells_single rfl] at hc
        simp only [List.cons.injEq, Value.slice.injEq, and_true] at hc
        simp only [Prod.mk.injEq] at hd
        have := hz d (by simp) _ _ hd.1
        rw [List.length_map] at this
        omega
    · exact rows_upto h2 ht2 hr2 (fun d hd => hz d (by simp [hd])) y hy k sz l e
theorem law_calls_upto (K : Known Γ N P) {f lf n B : Nat} {fn : Go.Func} {tb : TypeId} {s : ChangeSpec} {apart fresh handsOn again : Bool} {args : Array Value} {ds gs : List (DataW H)} {before : List MemPlace} {b0 : Nat} {r : Go.Reach}
    (hN : N.fn lf = f) (hE : Enters P f) (hgl : GlRel Γ N W fun g => g < W.heap.size) (hp : fn.params.toList.all (plainT P n) = true) (hrd : fn.params.toList.all (fun t => P.readableRec t && decide (t < P.types.size)) = true)
    (hl : Go.laidOutB P = true) (hres : fn.resultTypes = #[tb]) (htb : P.underlying tb = some .bool) (hvars : s.vars = [])
    (hspec : ∀ ds : List (DataW H), ds.length = fn.params.toList.length → s.fn H ds = { results := [.lit (.bool true)], args := ds })
    (law : ∀ trees, All2 (treeT P n) trees fn.params.toList → (∀ x ∈ trees, ∀ k sz xs, x = PV.sl k sz xs → xs.length ≤ B) → ∃ m h, callOf Γ (ev Γ m) lf (trees.map .p) [] = some ([.p (.bool true)], h))
    (hval : ∀ (j : Nat) t v, fn.params[j]? = some t → args[j]? = some v → Value.okWide P W r b0 t v) (hW : DataW.Whole enc P fn.params.toList s.vars apart W args.toList ds gs before)
    (hz : ∀ d ∈ ds ++ gs, ∀ es sp, d = .slice es sp → es.length ≤ B) :
    Calls P f args W fun e W' => ∃ v, e = .returned v ∧ s.post enc P fn apart fresh handsOn again W args v W' := by
  have hlt := hW.lt
  have hW' := hW
  obtain ⟨p, q, hA, hV, rfl, hzz, _⟩ := hW'
  obtain ⟨trees, ht1, ht2, hdl⟩ := args_trees (N := N) (S := fun g => g < W.heap.size) (fun _ h => h) hp (fun j t v ht hv => hval j t v (by simpa using ht) (by simpa using hv)) hA
  obtain ⟨m, h, hcall⟩ := law trees ht1 (rows_upto hA ht1 ht2 fun d hd => hz d (by simp [hd]))
  have hrun := run_sound K (T := fun g => g < W.heap.size) (fun _ h => h) hgl ht2 hcall (rs := [.bool true]) rfl
  rw [hN] at hrun
  have hvg : gs = [] ∧ q = [] := by
    rw [hvars] at hV
    cases gs <;> simp_all [DataW.TrodVars]
  obtain ⟨rfl, rfl⟩ := hvg
  have hcalls : Calls P f args W fun e W' => ∃ v, e = .returned v ∧ (∃ vs, v = resVal vs ∧ Grows W W' ∧ All2 (fun u p => RelP N.fn W' (fun g => g < W.heap.size ∨ (W.heap.size ≤ g ∧ g < W'.heap.size)) p u) vs [.bool true]) := by
    rcases hrun with ⟨_, h⟩ | ⟨v, w', h, _⟩
    · simpa using h
    · rw [hE] at h; cases h
  refine hcalls.mono ?_
  rintro e W' ⟨v, rfl, vs, rfl, hg, hv⟩
  match vs, hv with
  | [u], ⟨hu, _⟩ =>
    cases hu
    have hb : Go.RowKit.Below W.heap.size W W' := ⟨hg.os, hg.tape, hg.output, hg.size, hg.keep⟩
    refine ⟨_, rfl, post_same (pa := p) (pv := []) hW (fun b sp hd => ?_) (fun sp hsp => ?_) (fun _ _ => ?_) rfl (hb.frame _) (fun x hx b off e => ?_) (Go.RowKit.ok_one hres rfl (Go.RowKit.okWide_bool_mk htb _))⟩
    · rw [List.append_nil, hspec ds hdl, hres]
      exact ⟨[], [], Go.RowKit.shut_bool htb _, rfl, rfl⟩
    · rw [List.append_nil, hspec ds hdl]
      exact args_stay hl hg hrd hA (fun x hx => hlt x (by simp [hx])) (fun x hx => hsp x (by simp [hx]))
    · rw [List.append_nil, hspec ds hdl, hvars]; rfl
    · subst e; exact hb.frozen (hlt _ hx)
end
end Ab
namespace Ab
open Go (IntKind BinOp UnOp World Value Addr Obj undef maxLen Program TypeId)

theorem all2_2 {α β : Type} {R : α → β → Prop} {l : List α} {a b : β} (h : All2 R l [a, b]) : ∃ p q, l = [p, q] ∧ R p a ∧ R q b := by
  match l, h with
  | [p, q], ⟨h1, h2, _⟩ => exact ⟨p, q, rfl, h1, h2⟩
theorem one_cells {p c : PV} (h : p.one = true) (hc : p.cells = [c]) : p = c := by
  cases p <;> simp_all [PV.cells, PV.one]
theorem treeT_string {P : Program} {n : Nat} {p : PV} {t : TypeId} (h : treeT P (n + 1) p t) (ht : P.underlying t = some .string) (ha : aggB P t = some false) : ∃ s, p = .str s ∧ s.length ≤ maxLen := by
  obtain ⟨h1, h2⟩ := h
  rw [ha] at h1
  simp only [okT, ht] at h2
  obtain ⟨s, e, hs⟩ := h2
  exact ⟨s, one_cells (by simpa using h1) e, hs⟩
theorem treeT_slice {P : Program} {n : Nat} {p : PV} {t e : TypeId} (h : treeT P (n + 1) p t) (ht : P.underlying t = some (.slice e)) (ha : aggB P t = some false) :
    ∃ k xs, p = .sl k (P.cellsOf e) xs ∧ xs.length ≤ maxLen ∧ ((k = .nil ∧ xs = []) ∨ k = .mem) ∧ ∀ x ∈ xs, treeT P n x e := by
  obtain ⟨h1, h2⟩ := h
  rw [ha] at h1
  simp only [okT, ht] at h2
  obtain ⟨k, xs, e1, hs, hk, hx⟩ := h2
  exact ⟨k, xs, one_cells (by simpa using h1) e1, hs, hk, hx⟩
theorem i64_wf {m : Int} (h : (Go.Lit.int .i64 m).wf = true) : -9223372036854775808 ≤ m ∧ m ≤ 9223372036854775807 := by
  simp [Go.Lit.wf, IntKind.min, IntKind.max, IntKind.bits, IntKind.signed] at h
  omega
theorem law_of_res {Γ : Ctx} {f : Nat} {ps : List PV} (h : res Γ f ps = some [.bool true]) : ∃ m h, callOf Γ (ev Γ m) f (ps.map .p) [] = some ([.p (.bool true)], h) := by
  obtain ⟨n, ⟨vs, H⟩, h1, h2⟩ := of_res h
  refine ⟨n, H, ?_⟩
  rw [h1]
  match vs, h2 with
  | [v], h2 =>
    simp only [mapO_cons, mapO_nil, Option.map_some] at h2
    obtain ⟨x, hx, he⟩ := Option.bind_eq_some_iff.1 h2
    simp only [Option.some.injEq, List.cons.injEq, and_true] at he
    subst he
    congr 3
    cases v with
    | p v => rw [reify_p] at hx; cases hx; rfl
    | own id n => rw [reify_own] at hx; obtain ⟨_, _, h⟩ := Option.map_eq_some_iff.1 hx; cases h
    | bx id off =>
      rw [reify_bx] at hx
      obtain ⟨cs, _, h⟩ := Option.bind_eq_some_iff.1 hx
      split at h
      · obtain ⟨_, _, h⟩ := Option.map_eq_some_iff.1 h; cases h
      · cases h
    | el id n i off =>
      rw [reify_el] at hx
      obtain ⟨cs, _, h⟩ := Option.bind_eq_some_iff.1 hx
      obtain ⟨x, _, h⟩ := Option.bind_eq_some_iff.1 h
      split at h <;> cases h
    | agg cs => rw [reify_agg] at hx; obtain ⟨_, _, h⟩ := Option.map_eq_some_iff.1 hx; cases h
    | clo f cs => rw [reify_clo] at hx; obtain ⟨_, _, h⟩ := Option.map_eq_some_iff.1 hx; cases h
    | tup cs => cases hx
    | nov => cases hx
    | any => cases hx
  | [], h2 => simp [mapO] at h2
  | v :: w :: r, h2 =>
    simp only [mapO_cons] at h2
    obtain ⟨x, hx, he⟩ := Option.bind_eq_some_iff.1 h2
    obtain ⟨y, hy, he⟩ := Option.map_eq_some_iff.1 he
    obtain ⟨z, hz, hy⟩ := Option.bind_eq_some_iff.1 hy
    obtain ⟨u, hu, hy⟩ := Option.map_eq_some_iff.1 hy
    subst hy
    cases he
end Ab
namespace Ab
open Go (IntKind BinOp UnOp World Value Addr Obj undef maxLen Program TypeId)
def structIs (P : Program) (t : TypeId) (l : List TypeId) : Bool := match P.underlying t with
  | some (.struct fs) => fs.toList.map (·.type) == l
  | _ => false
theorem structIs_spec {P : Program} {t : TypeId} {l : List TypeId} (h : structIs P t l = true) : ∃ fs, P.underlying t = some (.struct fs) ∧ fs.toList.map (·.type) = l := by
  unfold structIs at h
  split at h
  · rename_i fs hf; exact ⟨fs, hf, by simpa using h⟩
  · cases h
structure SerT (P : Program) (t ts ti tv te tb : TypeId) : Prop where
  s : structIs P t [ts, ti, ti, tv, ti] = true
  str : P.underlying ts = some .string
  int : P.underlying ti = some (.int .i64)
  vals : P.underlying tv = some (.slice te)
  v : structIs P te [tb, ti] = true
  bool : P.underlying tb = some .bool
  cells : P.cellsOf te = 2
theorem not_one {p : PV} (h : p.one = false) : p = .agg p.cells := by cases p <;> first | rfl | cases h
theorem aggB_struct {P : Program} {t : TypeId} {fs} (h : P.underlying t = some (.struct fs)) : aggB P t = some true := by unfold aggB; rw [h]
structure Ser.Ok (k : SK) (s : Ser) : Prop where
  name : s.name.length ≤ maxLen
  start : -9223372036854775808 ≤ s.start ∧ s.start ≤ 9223372036854775807
  step : -9223372036854775808 ≤ s.step ∧ s.step ≤ 9223372036854775807
  cons : -9223372036854775808 ≤ s.cons ∧ s.cons ≤ 9223372036854775807
  len : s.vals.length ≤ maxLen
  kind : (k = .nil ∧ s.vals = []) ∨ k = .mem
  vals : ∀ x ∈ s.vals, -9223372036854775808 ≤ x.2 ∧ x.2 ≤ 9223372036854775807
theorem okT_val {P : Program} {t ts ti tv te tb : TypeId} (T : SerT P t ts ti tv te tb) {n : Nat} {x : PV} (h1 : x.one = !((aggB P te).getD true)) (h : okT P (n + 2) te x.cells) : ∃ y : Bool × Int, x = .agg (valP y) ∧ -9223372036854775808 ≤ y.2 ∧ y.2 ≤ 9223372036854775807 := by
  obtain ⟨fs, h2, h3⟩ := structIs_spec T.v
  rw [aggB_struct h2] at h1
  have e := not_one (by simpa using h1)
  simp only [okT, h2, h3, okFs] at h
  obtain ⟨a, b, e1, ha, c, d, rfl, hc, rfl⟩ := h
  simp only [T.bool] at ha
  simp only [T.int] at hc
  obtain ⟨q, rfl⟩ := ha
  obtain ⟨m, rfl, hm⟩ := hc
  rw [e1] at e
  exact ⟨(q, m), e, i64_wf hm⟩
theorem treeT_series {P : Program} {t ts ti tv te tb : TypeId} (T : SerT P t ts ti tv te tb) {n : Nat} {p : PV} (h : treeT P (n + 4) p t) : ∃ k s, p = s.pv k ∧ Ser.Ok k s := by
  obtain ⟨h1, h2⟩ := h
  obtain ⟨fs, h3, h4⟩ := structIs_spec T.s
  rw [aggB_struct h3] at h1
  have e := not_one (by simpa using h1)
  rw [okT] at h2
  simp only [h3, h4, okFs] at h2
  obtain ⟨a1, b1, e1, g1, a2, b2, rfl, g2, a3, b3, rfl, g3, a4, b4, rfl, g4, a5, b5, rfl, g5, rfl⟩ := h2
  rw [okT] at g1 g2 g3 g4 g5
  simp only [T.str] at g1
  simp only [T.int] at g2 g3 g5
  simp only [T.vals] at g4
  obtain ⟨s, rfl, hs⟩ := g1
  obtain ⟨m2, rfl, hm2⟩ := g2
  obtain ⟨m3, rfl, hm3⟩ := g3
  obtain ⟨m5, rfl, hm5⟩ := g5
  obtain ⟨k, xs, rfl, hl, hk, hx⟩ := g4
  have key : ∀ xs : List PV, (∀ x ∈ xs, x.one = !((aggB P te).getD true) ∧ okT P (n + 2) te x.cells) → ∃ l : List (Bool × Int), xs = vpv l ∧ ∀ x ∈ l, -9223372036854775808 ≤ x.2 ∧ x.2 ≤ 9223372036854775807 := by
    intro xs
    induction xs with
    | nil => exact fun _ => ⟨[], rfl, by simp⟩
    | cons x xs ih =>
      intro hx
      obtain ⟨y, rfl, hy⟩ := okT_val T (hx x (by simp)).1 (hx x (by simp)).2
      obtain ⟨l, rfl, hl⟩ := ih fun z hz => hx z (by simp [hz])
      exact ⟨y :: l, rfl, fun z hz => by
        rcases List.mem_cons.1 hz with rfl | h
        · exact hy
        · exact hl z h⟩
  obtain ⟨l, rfl, hv⟩ := key xs hx
  rw [vpv_len] at hl
  refine ⟨k, ⟨s, m2, m3, l, m5⟩, ?_, hs, i64_wf hm2, i64_wf hm3, i64_wf hm5, hl, ?_, hv⟩
  · rw [e, e1, T.cells]; rfl
  · rcases hk with ⟨h, h'⟩ | h
    · refine .inl ⟨h, ?_⟩
      have := congrArg List.length h'
      rw [vpv_len] at this
      exact List.eq_nil_of_length_eq_zero this
    · exact .inr h
end Ab
namespace Ab
open Go (IntKind BinOp UnOp)
def refs2 : AV → List Nat
  | .own id _ | .bx id _ | .el id _ _ _ => [id]
  | .agg cs | .tup cs | .clo _ cs => cs.flatMap fun
    | .own id _ | .bx id _ | .el id _ _ _ => [id]
    | _ => []
  | _ => []
theorem refs_agg {cs : List AV} : AV.refs (.agg cs) = cs.flatMap refs2 := by
  simp only [AV.refs]; rfl
theorem refs_tup {cs : List AV} : AV.refs (.tup cs) = cs.flatMap refs2 := by
  simp only [AV.refs]; rfl
theorem refs_clo {f : Nat} {cs : List AV} : AV.refs (.clo f cs) = cs.flatMap refs2 := by
  simp only [AV.refs]; rfl
theorem refs2_p {v} : refs2 (.p v) = [] := rfl
theorem refs2_own {id n} : refs2 (.own id n) = [id] := rfl
theorem refs2_bx {id n} : refs2 (.bx id n) = [id] := rfl
theorem refs2_el {id n i o} : refs2 (.el id n i o) = [id] := rfl
attribute [go_sem] refs_agg refs_tup refs_clo refs2_p refs2_own refs2_bx refs2_el
theorem app_tight {H sz x xs y ys} (hm : (x :: xs).length + (y :: ys).length ≤ 1073741824) : appendA H sz (.p (.sl .tight sz (x :: xs))) (y :: ys) = some (.own H.length (x :: xs ++ y :: ys).length, H ++ [.row false sz (x :: xs ++ y :: ys)]) := by
  simp only [appendA]
  rw [if_pos ⟨.inr ⟨trivial, trivial⟩, by simp only [List.length_append, lim]; omega⟩]
attribute [go_sem] app_tight vpv_nil
end Ab
namespace Ab
open Go (IntKind BinOp UnOp)
def noSer : SK × Ser := (.nil, ⟨[], 0, 0, [], 0⟩)
def serC (x : SK × Ser) : List PV := [.str x.2.name, .int .i64 x.2.start, .int .i64 x.2.step, .sl x.1 2 (vpv x.2.vals), .int .i64 x.2.cons]
def sers (l : List (SK × Ser)) : List PV := l.map fun x => .agg (serC x)
theorem sers_len {l} : (sers l).length = l.length := by simp [sers]
theorem sers_nil : sers [] = [] := rfl
theorem sers_app {l l'} : sers l ++ sers l' = sers (l ++ l') := by simp [sers]
theorem sers_one {l k nm st sp v cs} : sers l ++ [.agg [.str nm, .int .i64 st, .int .i64 sp, .sl k 2 (vpv v), .int .i64 cs]] = sers (l ++ [(k, ⟨nm, st, sp, v, cs⟩)]) := by simp [sers, serC]
theorem sers_get {l : List (SK × Ser)} {i : Nat} (h : i < l.length) : (sers l)[i]? = some (.agg (serC (l.getD i noSer))) := by simp [sers, List.getElem?_eq_getElem h]
theorem sers_take {l n} : (sers l).take n = sers (l.take n) := by simp [sers, List.map_take]
theorem sers_drop {l n} : (sers l).drop n = sers (l.drop n) := by simp [sers, List.map_drop]
theorem iaddr_sers {H xs k' k i} (h0 : 0 ≤ i) (h : i < (xs.length : Int)) : iaddrA H 5 (.p (.sl k' 5 (sers xs))) (.p (.int k i)) = some (.p (.ptr (serC (xs.getD i.toNat noSer)))) := by
  rw [iaddr_sl h0 (sers_get (by omega))]; rfl
theorem loadK_sers {f sz s ag} {l : List (SK × Ser)} {n i off : Nat} (h : l.length = n) (h' : i < n) : loadK (some (.row f sz (sers l))) s ag n i off = takeP s ag ((serC (l.getD i noSer)).drop off) := by
  simp only [loadK, sers_len, h, if_true, sers_get (show i < l.length by omega), Option.bind_some, PV.cells]
attribute [go_sem] sers_len sers_app sers_one sers_take sers_drop iaddr_sers loadK_sers sers_nil
end Ab
namespace Ab
open Go (IntKind BinOp UnOp World Value Addr Obj undef maxLen Program TypeId)
structure ValT (P : Program) (te ti tb : TypeId) : Prop where
  int : P.underlying ti = some (.int .i64)
  v : structIs P te [tb, ti] = true
  bool : P.underlying tb = some .bool
  cells : P.cellsOf te = 2
theorem treeT_sers {P : Program} {t e ts ti tv te tb : TypeId} (T : SerT P e ts ti tv te tb) {n : Nat} {p : PV} (h : treeT P (n + 5) p t) (ht : P.underlying t = some (.slice e)) (ha : aggB P t = some false) (hc : P.cellsOf e = 5) :
    ∃ k l, p = .sl k 5 (sers l) ∧ l.length ≤ maxLen ∧ ((k = .nil ∧ l = []) ∨ k = .mem) ∧ ∀ x ∈ l, Ser.Ok x.1 x.2 := by
  obtain ⟨k, xs, rfl, hl, hk, hx⟩ := treeT_slice h ht ha
  rw [hc]
  have key : ∀ xs : List PV, (∀ x ∈ xs, treeT P (n + 4) x e) → ∃ l : List (SK × Ser), xs = sers l ∧ ∀ x ∈ l, Ser.Ok x.1 x.2 := by
    intro xs
    induction xs with
    | nil => exact fun _ => ⟨[], rfl, by simp⟩
    | cons x xs ih =>
      intro hx
      obtain ⟨k, s, rfl, hs⟩ := treeT_series T (hx x (by simp))
      obtain ⟨l, rfl, hl⟩ := ih fun z hz => hx z (by simp [hz])
      exact ⟨(k, s) :: l, rfl, fun z hz => by
        rcases List.mem_cons.1 hz with rfl | h
        · exact hs
        · exact hl z h⟩
  obtain ⟨l, rfl, hv⟩ := key xs hx
  refine ⟨k, l, rfl, by simpa [sers] using hl, ?_, hv⟩
  rcases hk with ⟨h, h'⟩ | h
  · exact .inl ⟨h, by simpa [sers] using h'⟩
  · exact .inr h
end Ab
namespace Ab
open Go
theorem tabIs_of_laid {P : Program} {W : World} {name : String} {k : IntKind} {zs : List Int} {g : Nat} {t e : TypeId} {n : Nat}
    (hg : P.globalNamed name = some g) (hty : (P.globals[g]?).map (·.type) = some t) (ht : P.underlying t = some (.array n e)) (he : P.underlying e = some (.int k)) (hce : P.cellsOf e = 1) (hct : P.cellsOf t = n) :
    ∀ {laid : List (String × DataW Unit)} {ps : List MemPlace}, DataW.LaidVars P W laid ps → ∀ i : Nat, laid[i]? = some (name, Lib.tabData k zs) → Lib.TabIs P W name k zs
  | [], _, _, i, h => by simp at h
  | (n0, d0) :: r, _, ⟨g', t', cs, fuel, p, q, hg', ht', hvar, hd, hr, _⟩, i, h => by
    cases i with
    | zero =>
      simp only [List.getElem?_cons_zero, Option.some.injEq, Prod.mk.injEq] at h
      obtain ⟨rfl, rfl⟩ := h
      obtain rfl := Option.some.inj (hg.symm.trans hg')
      obtain rfl := Option.some.inj (hty.symm.trans ht')
      unfold Lib.TabIs
      rw [hvar, ← Lib.cells_of_tab ht he hce hct hd]
    | succ i => exact tabIs_of_laid hg hty ht he hce hct hr i (by simpa using h)
end Ab
namespace Ab
abbrev Val := Bool × Int
def maxN : Int := 4611686018427387904
def noV : Val := (false, 0)
def isV (v : Val) : Bool := if v.1 = true then decide (-maxN ≤ v.2 ∧ v.2 ≤ maxN) else decide (v.2 = 0)
def knV (v : Val) : Bool := v.1 && isV v
def ofV (n : Int) : Val := if -maxN ≤ n ∧ n ≤ maxN then (true, n) else noV
def intV (n : Int) : Val := if -maxN ≤ n * 1000000 ∧ n * 1000000 ≤ maxN then (true, n * 1000000) else noV
def sumV (a b : Val) : Val := if knV a = true ∧ knV b = true then ofV (a.2 + b.2) else noV
def addV (l : List Val) : Val := l.foldl sumV (ofV 0)
def lessV (a b : Val) : Bool := knV a && knV b && decide (a.2 < b.2)
def knL (l : List Val) : List Val := l.filter knV
def mdV (a b c : Int) : Option Int :=
  if c = 0 then none else
    let q := (a.natAbs * b.natAbs) / c.natAbs
    let r := (a.natAbs * b.natAbs) % c.natAbs
    let q' := if c.natAbs - r ≤ r then q + 1 else q
    if (q' : Int) ≤ maxN then some (if ((decide (a < 0) != decide (b < 0)) != decide (c < 0)) = true then -(q' : Int) else q') else none
def valV : Option Int → Val
  | some n => ofV n
  | none => noV
def mulV (a b : Val) : Val := if knV a = true ∧ knV b = true then valV (mdV a.2 b.2 1000000) else noV
def divV (a b : Val) : Val := if knV a = true ∧ knV b = true then valV (mdV a.2 1000000 b.2) else noV
def maxV (b : Val) (l : List Val) : Val := l.foldl (fun b v => if b.2 < v.2 then v else b) b
def minV (b : Val) (l : List Val) : Val := l.foldl (fun b v => if v.2 < b.2 then v else b) b
def aggV (kind : Int) (l : List Val) : Val :=
  match knL l with
  | [] => noV
  | b :: k =>
    if kind = 1 then divV (addV (b :: k)) (intV ((b :: k).length : Nat)) else
    if kind = 2 then addV (b :: k) else
    if kind = 3 then (b :: k).getLastD noV else
    if kind = 4 then maxV b k else
    if kind = 5 then minV b k else noV
theorem knV_iff {v : Val} : knV v = true ↔ v.1 = true ∧ -maxN ≤ v.2 ∧ v.2 ≤ maxN := by
  unfold knV isV
  constructor
  · intro h
    simp only [Bool.and_eq_true] at h
    obtain ⟨h1, h2⟩ := h
    rw [if_pos h1] at h2
    exact ⟨h1, by simpa using h2⟩
  · rintro ⟨h1, h2⟩
    simp [h1, h2]
theorem knV_bound {v : Val} (h : knV v = true) : -4611686018427387904 ≤ v.2 ∧ v.2 ≤ 4611686018427387904 := (knV_iff.1 h).2
theorem knL_mem {l : List Val} {v : Val} (h : v ∈ knL l) : knV v = true := (List.mem_filter.1 h).2
end Ab
namespace Ab
open Go (IntKind BinOp UnOp)
theorem isV_eq (b : Bool) (n : Int) : isV (b, n) = if b = true then decide (-4611686018427387904 ≤ n ∧ n ≤ 4611686018427387904) else decide (n = 0) := rfl
@[go_sem] theorem res_fixedIs (b : Bool) (n : Int) : res Γ 126 [.agg [.bool b, .int .i64 n]] = some [.bool (isV (b, n))] := by
  refine res_code (fn := fixed_Is) rfl rfl ?_
  cases b
  · simp (disch := first | assumption | omega | decide | (simp only [lens] <;> omega) | fail) only [go_sem, fixed_Is, isV_eq]
  · repeat' (first | (simp (disch := first | assumption | omega | decide | (simp only [lens] <;> omega) | fail) only [go_sem, fixed_Is, isV_eq]) | refine cond_split (fun hc => ?_) (fun hc => ?_) | refine gd_split_f (fun hc => ?_) (fun hc => ?_) | refine gd_split_t (fun hc => ?_) (fun hc => ?_))
    all_goals (simp only [Option.some.injEq, List.cons.injEq, PV.bool.injEq, and_true]; first | (symm; apply decide_eq_false; omega) | (rw [Bool.eq_iff_iff]; simp only [decide_eq_true_eq]; omega))
@[go_sem] theorem res_r1Is (b : Bool) (n : Int) : res Γ 120 [.agg [.bool b, .int .i64 n]] = some [.bool (isV (b, n))] := by
  refine res_code (fn := r1_Is) rfl rfl ?_
  cases b
  · simp (disch := first | assumption | omega | decide | (simp only [lens] <;> omega) | fail) only [go_sem, r1_Is, isV_eq]
  · repeat' (first | (simp (disch := first | assumption | omega | decide | (simp only [lens] <;> omega) | fail) only [go_sem, r1_Is, isV_eq]) | refine cond_split (fun hc => ?_) (fun hc => ?_) | refine gd_split_f (fun hc => ?_) (fun hc => ?_) | refine gd_split_t (fun hc => ?_) (fun hc => ?_))
    all_goals (simp only [Option.some.injEq, List.cons.injEq, PV.bool.injEq, and_true]; first | (symm; apply decide_eq_false; omega) | (rw [Bool.eq_iff_iff]; simp only [decide_eq_true_eq]; omega))
@[go_sem] theorem res_fixedKnown (b : Bool) (n : Int) : res Γ 146 [.agg [.bool b, .int .i64 n]] = some [.bool (knV (b, n))] := by
  refine res_code (fn := fixed_known) rfl rfl ?_
  cases b
  · simp (disch := first | assumption | omega | decide | (simp only [lens] <;> omega) | fail) only [go_sem, fixed_known, knV]
  · simp (disch := first | assumption | omega | decide | (simp only [lens] <;> omega) | fail) only [go_sem, fixed_known, knV]
@[go_sem] theorem res_r1Known (b : Bool) (n : Int) : res Γ 135 [.agg [.bool b, .int .i64 n]] = some [.bool (knV (b, n))] := by
  refine res_code (fn := r1_Known) rfl rfl ?_
  cases b
  · simp (disch := first | assumption | omega | decide | (simp only [lens] <;> omega) | fail) only [go_sem, r1_Known, knV]
  · simp (disch := first | assumption | omega | decide | (simp only [lens] <;> omega) | fail) only [go_sem, r1_Known, knV]
@[go_sem] theorem res_r1two (b : Bool) (n : Int) (c : Bool) (m : Int) : res Γ 141 [.agg [.bool b, .int .i64 n], .agg [.bool c, .int .i64 m]] = some [.bool (knV (b, n) && knV (c, m))] := by
  refine res_code (fn := r1_two) rfl rfl ?_
  simp (disch := first | assumption | omega | decide | (simp only [lens] <;> omega) | fail) only [go_sem, r1_two]
  cases h : knV (b, n)
  · simp (disch := first | assumption | omega | decide | (simp only [lens] <;> omega) | fail) only [go_sem]
  · simp (disch := first | assumption | omega | decide | (simp only [lens] <;> omega) | fail) only [go_sem]
theorem ofV_in {n : Int} (h : -4611686018427387904 ≤ n ∧ n ≤ 4611686018427387904) : ofV n = (true, n) := by unfold ofV maxN; rw [if_pos h]
theorem ofV_out {n : Int} (h : ¬ (-4611686018427387904 ≤ n ∧ n ≤ 4611686018427387904)) : ofV n = (false, 0) := by unfold ofV maxN noV; rw [if_neg h]
@[go_sem] theorem res_fixedOf (n : Int) : res Γ 143 [.int .i64 n] = some [.agg [.bool (ofV n).1, .int .i64 (ofV n).2]] := by
  refine res_code (fn := fixed_Of) rfl rfl ?_
  by_cases h : -4611686018427387904 ≤ n ∧ n ≤ 4611686018427387904
  · have e : isV (true, n) = true := by simp [isV, maxN, h]
    simp (disch := first | assumption | omega | decide | (simp only [lens] <;> omega) | fail) only [go_sem, fixed_Of, e, ofV_in]
  · have e : isV (true, n) = false := by rw [isV_eq, if_pos rfl]; exact decide_eq_false h
    simp (disch := first | assumption | omega | decide | (simp only [lens] <;> omega) | fail) only [go_sem, fixed_Of, e, ofV_out]
@[go_sem] theorem res_r1Of (n : Int) : res Γ 134 [.int .i64 n] = some [.agg [.bool (ofV n).1, .int .i64 (ofV n).2]] := by
  refine res_code (fn := r1_Of) rfl rfl ?_
  by_cases h : -4611686018427387904 ≤ n ∧ n ≤ 4611686018427387904
  · simp (disch := first | assumption | omega | decide | (simp only [lens] <;> omega) | fail) only [go_sem, r1_Of, ofV_in]
  · repeat' (first | (simp (disch := first | assumption | omega | decide | (simp only [lens] <;> omega) | fail) only [go_sem, r1_Of, ofV_out]) | refine cond_split (fun hc => ?_) (fun hc => ?_) | refine gd_split_f (fun hc => ?_) (fun hc => ?_) | refine gd_split_t (fun hc => ?_) (fun hc => ?_))
theorem knV_pair {b : Bool} {n : Int} (h : knV (b, n) = true) : b = true ∧ -4611686018427387904 ≤ n ∧ n ≤ 4611686018427387904 := knV_iff.1 h
theorem sumV_no1 {a b : Val} (h : knV a = false) : sumV a b = (false, 0) := by unfold sumV; rw [if_neg (by rw [h]; simp)]; rfl
theorem sumV_no2 {a b : Val} (h : knV b = false) : sumV a b = (false, 0) := by unfold sumV; rw [if_neg (by rw [h]; simp)]; rfl
theorem sumV_yes {a b : Val} (h : knV a = true) (h' : knV b = true) : sumV a b = ofV (a.2 + b.2) := by unfold sumV; rw [if_pos ⟨h, h'⟩]
@[go_sem] theorem res_fixedSum (b : Bool) (n : Int) (c : Bool) (m : Int) : res Γ 142 [.agg [.bool b, .int .i64 n], .agg [.bool c, .int .i64 m]] = some [.agg [.bool (sumV (b, n) (c, m)).1, .int .i64 (sumV (b, n) (c, m)).2]] := by
  refine res_code (fn := fixed_sum) rfl rfl ?_
  cases h : knV (b, n)
  · simp (disch := first | assumption | omega | decide | (simp only [lens] <;> omega) | fail) only [go_sem, fixed_sum, h, sumV_no1 h]
  · cases h' : knV (c, m)
    · simp (disch := first | assumption | omega | decide | (simp only [lens] <;> omega) | fail) only [go_sem, fixed_sum, h, h', sumV_no2 h']
    · obtain ⟨_, g1, g2⟩ := knV_pair h
      obtain ⟨_, g3, g4⟩ := knV_pair h'
      repeat' (first | (simp (disch := first | assumption | omega | decide | (simp only [lens] <;> omega) | fail) only [go_sem, fixed_sum, h, h', sumV_yes h h']) | refine cond_split (fun hc => ?_) (fun hc => ?_) | refine gd_split_f (fun hc => ?_) (fun hc => ?_) | refine gd_split_t (fun hc => ?_) (fun hc => ?_))
      all_goals rw [ofV_out (by omega)]
@[go_sem] theorem res_r1plus (b : Bool) (n : Int) (c : Bool) (m : Int) : res Γ 133 [.agg [.bool b, .int .i64 n], .agg [.bool c, .int .i64 m]] = some [.agg [.bool (sumV (b, n) (c, m)).1, .int .i64 (sumV (b, n) (c, m)).2]] := by
  refine res_code (fn := r1_plus) rfl rfl ?_
  cases h : knV (b, n)
  · simp (disch := first | assumption | omega | decide | (simp only [lens] <;> omega) | fail) only [go_sem, r1_plus, h, sumV_no1 h]
  · cases h' : knV (c, m)
    · simp (disch := first | assumption | omega | decide | (simp only [lens] <;> omega) | fail) only [go_sem, r1_plus, h, h', sumV_no2 h']
    · obtain ⟨_, g1, g2⟩ := knV_pair h
      obtain ⟨_, g3, g4⟩ := knV_pair h'
      repeat' (first | (simp (disch := first | assumption | omega | decide | (simp only [lens] <;> omega) | fail) only [go_sem, r1_plus, h, h', sumV_yes h h']) | refine cond_split (fun hc => ?_) (fun hc => ?_) | refine gd_split_f (fun hc => ?_) (fun hc => ?_) | refine gd_split_t (fun hc => ?_) (fun hc => ?_))
      all_goals rw [ofV_out (by omega)]
@[go_sem] theorem res_fixedLess (b : Bool) (n : Int) (c : Bool) (m : Int) : res Γ 139 [.agg [.bool b, .int .i64 n], .agg [.bool c, .int .i64 m]] = some [.bool (lessV (b, n) (c, m))] := by
  refine res_code (fn := fixed_Less) rfl rfl ?_
  cases h : knV (b, n)
  · simp (disch := first | assumption | omega | decide | (simp only [lens] <;> omega) | fail) only [go_sem, fixed_Less, h, lessV]
  · cases h' : knV (c, m)
    · simp (disch := first | assumption | omega | decide | (simp only [lens] <;> omega) | fail) only [go_sem, fixed_Less, h, h', lessV]
    · simp (disch := first | assumption | omega | decide | (simp only [lens] <;> omega) | fail) only [go_sem, fixed_Less, h, h', lessV]
end Ab
namespace Ab
open Go (IntKind BinOp UnOp)
def sizeS (s : Ser) : Prop := s.name.length ≤ 4096 ∧ 0 ≤ s.start ∧ s.start ≤ 4294967295 ∧ 1 ≤ s.step ∧ s.step ≤ 1099511627776 ∧ s.vals.length ≤ 131072 ∧ 0 ≤ s.cons ∧ s.cons ≤ 5
instance {s : Ser} : Decidable (sizeS s) := by unfold sizeS; infer_instance
def isS (s : Ser) : Bool := decide (sizeS s) && s.vals.all isV
theorem isS_no {s : Ser} (h : ¬ sizeS s) : isS s = false := by unfold isS; rw [decide_eq_false h]; rfl
theorem isS_yes {s : Ser} (h : sizeS s) : isS s = s.vals.all isV := by unfold isS; rw [decide_eq_true h]; rfl
@[go_sem] theorem res_seriesIs1 (b : Bool) (n : Int) : res Γ 119 [.agg [.bool b, .int .i64 n]] = some [.bool (!isV (b, n))] := by
  refine res_code (fn := series_Is_1) rfl rfl ?_
  simp (disch := first | assumption | omega | decide | (simp only [lens] <;> omega) | fail) only [go_sem, series_Is_1]
theorem all_take {l : List Val} {i : Nat} (h : i < l.length) : (l.take (i + 1)).all isV = ((l.take i).all isV && isV (l.getD i (false, 0))) := by
  rw [take_snoc' (false, 0) h, List.all_append]
  simp only [List.all_cons, List.all_nil, Bool.and_true]
theorem all_bad {l : List Val} {i : Nat} (h : i < l.length) (hv : isV (l.getD i (false, 0)) = false) : l.all isV = false := by
  rw [List.all_eq_false]
  refine ⟨l[i], List.getElem_mem h, ?_⟩
  rw [List.getD_eq_getElem?_getD, List.getElem?_eq_getElem h] at hv
  simpa using hv
theorem IndexFunc_l1_ok {kk : SK} (l : List Val) (hl : l.length < 1000000000) (Q : Out → Prop) : ∀ (k i : Nat), i + k = l.length → (l.take i).all isV = true →
    (l.all isV = true → Q (.nrm, [], [])) → (l.all isV = false → ∀ j : Nat, Q (.ret, [(4, .p (.int .i64 (j : Int)))], [])) →
    Wp Γ slices_IndexFunc_api_Val_api_Val_l1 [(0, .p (.sl kk 2 (vpv l))), (1, .p (.clo 119 [])), (7, .p (.int .i64 (l.length : Int))), (8, .p (.int .i64 (i : Int)))] [] (InBlk [] 0 Q) := by
  intro k
  induction k with
  | zero =>
    intro i hi ha h1 h2
    obtain rfl : i = l.length := by omega
    rw [List.take_length] at ha
    rw [W_loop (L := slices_IndexFunc_api_Val_api_Val_l1) rfl]
    simp (disch := first | assumption | omega | decide | (simp only [lens] <;> omega) | fail) only [go_sem]
    exact h1 ha
  | succ k ih =>
    intro i hi ha h1 h2
    have e := all_take (l := l) (i := i) (by omega)
    rw [W_loop (L := slices_IndexFunc_api_Val_api_Val_l1) rfl]
    simp (disch := first | assumption | omega | decide | (simp only [lens] <;> omega) | fail) only [go_sem, valP]
    cases hv : isV (l.getD i (false, 0))
    · simp (disch := first | assumption | omega | decide | (simp only [lens] <;> omega) | fail) only [go_sem]
      exact h2 (all_bad (by omega) hv) i
    · simp (disch := first | assumption | omega | decide | (simp only [lens] <;> omega) | fail) only [go_sem]
      exact ih (i + 1) (by omega) (by rw [e, ha, hv]; rfl) h1 h2
theorem res_IndexFunc {kk : SK} (l : List Val) (hl : l.length < 1000000000) : ∃ r : Int, res Γ 127 [.sl kk 2 (vpv l), .clo 119 []] = some [.int .i64 r] ∧ decide (0 ≤ r) = !(l.all isV) := by
  cases ha : l.all isV
  · -- which one is not told
    have hx : ∃ j : Nat, (j < l.length ∧ isV (l.getD j (false, 0)) = false) ∧ ∀ i, i < j → isV (l.getD i (false, 0)) = true := by
      have : ∃ j, j < l.length ∧ isV (l.getD j (false, 0)) = false := by
        rw [List.all_eq_false] at ha
        obtain ⟨x, hx, hv⟩ := ha
        obtain ⟨j, hj, rfl⟩ := List.getElem_of_mem hx
        exact ⟨j, hj, by rw [List.getD_eq_getElem?_getD, List.getElem?_eq_getElem hj]; simpa using hv⟩
      obtain ⟨j, h1, h2⟩ := this
      induction j using Nat.strongRecOn with
      | ind j ih =>
        by_cases hall : ∀ i, i < j → isV (l.getD i (false, 0)) = true
        · exact ⟨j, ⟨h1, h2⟩, hall⟩
        · simp only [Classical.not_forall] at hall
          obtain ⟨i, hi, hv⟩ := hall
          exact ih i hi (by omega) (by simpa using hv)
    obtain ⟨j, ⟨hj1, hj2⟩, hj3⟩ := hx
    refine ⟨j, ?_, by simp⟩
    have step : ∀ (d i : Nat) (Q : Out → Prop), i + d = j → Q (.ret, [(4, .p (.int .i64 (j : Int)))], []) →
        Wp Γ slices_IndexFunc_api_Val_api_Val_l1 [(0, .p (.sl kk 2 (vpv l))), (1, .p (.clo 119 [])), (7, .p (.int .i64 (l.length : Int))), (8, .p (.int .i64 (i : Int)))] [] (InBlk [] 0 Q) := by
      intro d
      induction d with
      | zero =>
        intro i Q hi hQ
        obtain rfl : i = j := by omega
        rw [W_loop (L := slices_IndexFunc_api_Val_api_Val_l1) rfl]
        simp (disch := first | assumption | omega | decide | (simp only [lens] <;> omega) | fail) only [go_sem, valP, hj2]
        exact hQ
      | succ d ih =>
        intro i Q hi hQ
        have hv := hj3 i (by omega)
        rw [W_loop (L := slices_IndexFunc_api_Val_api_Val_l1) rfl]
        simp (disch := first | assumption | omega | decide | (simp only [lens] <;> omega) | fail) only [go_sem, valP, hv]
        exact ih (i + 1) Q (by omega) hQ
    refine res_code (fn := slices_IndexFunc_api_Val_api_Val) rfl rfl ?_
    simp (disch := first | assumption | omega | decide | (simp only [lens] <;> omega) | fail) only [go_sem, slices_IndexFunc_api_Val_api_Val]
    refine step j 0 _ (by omega) ?_
    simp (disch := first | assumption | omega | decide | (simp only [lens] <;> omega) | fail) only [go_sem]
  · refine ⟨-1, ?_, by simp⟩
    refine res_code (fn := slices_IndexFunc_api_Val_api_Val) rfl rfl ?_
    simp (disch := first | assumption | omega | decide | (simp only [lens] <;> omega) | fail) only [go_sem, slices_IndexFunc_api_Val_api_Val]
    refine IndexFunc_l1_ok l hl _ l.length 0 (by omega) rfl (fun h => ?_) (fun h => ?_)
    · simp (disch := first | assumption | omega | decide | (simp only [lens] <;> omega) | fail) only [go_sem]
    · rw [ha] at h; cases h
@[go_sem] theorem res_ContainsFunc {kk : SK} (l : List Val) (hl : l.length < 1000000000) : res Γ 118 [.sl kk 2 (vpv l), .clo 119 []] = some [.bool (!l.all isV)] := by
  obtain ⟨r, h1, h2⟩ := res_IndexFunc (kk := kk) l hl
  refine res_code (fn := slices_ContainsFunc_api_Val_api_Val) rfl rfl ?_
  simp (disch := first | assumption | omega | decide | (simp only [lens] <;> omega) | fail) only [go_sem, slices_ContainsFunc_api_Val_api_Val, h1, h2]
theorem res_seriesIs {kk : SK} (s : Ser) (hl : s.vals.length ≤ 9223372036854775807) : res Γ 111 [s.pv kk] = some [.bool (isS s)] := by
  unfold Ser.pv
  refine res_code (fn := series_Is) rfl rfl ?_
  repeat' (first | (simp (disch := first | assumption | omega | decide | (simp only [lens] <;> omega) | fail) only [go_sem, series_Is]) | refine cond_split (fun hc => ?_) (fun hc => ?_) | refine gd_split_f (fun hc => ?_) (fun hc => ?_) | refine gd_split_t (fun hc => ?_) (fun hc => ?_))
  all_goals first
    | (rw [isS_no (by unfold sizeS; omega)]; done)
    | (rw [isS_no (by unfold sizeS; omega), decide_eq_false (by omega)]; done)
    | (rw [isS_yes (by unfold sizeS; omega)]; simp)
    | skip
theorem r18_Is_l1_ok {kk : SK} (s : Ser) (hl : s.vals.length < 1000000000) (Q : Out → Prop) : ∀ (k i : Nat), i + k = s.vals.length → (s.vals.take i).all isV = true →
    (s.vals.all isV = true → ∀ H, Q (.nrm, [], H)) → (s.vals.all isV = false → ∀ H, Q (.ret, [(2, .p (.bool false))], H)) →
    Wp Γ r18_Is_l1 [(1, .bx 0 0), (3, .p (.int .i64 (i : Int)))] [.box [.p (.str s.name), .p (.int .i64 s.start), .p (.int .i64 s.step), .p (.sl kk 2 (vpv s.vals)), .p (.int .i64 s.cons)]] (InBlk [] 0 Q) := by
  intro k
  induction k with
  | zero =>
    intro i hi ha h1 h2
    obtain rfl : i = s.vals.length := by omega
    rw [List.take_length] at ha
    rw [W_loop (L := r18_Is_l1) rfl]
    simp (disch := first | assumption | omega | decide | (simp only [lens] <;> omega) | fail) only [go_sem]
    exact h1 ha _
  | succ k ih =>
    intro i hi ha h1 h2
    have e := all_take (l := s.vals) (i := i) (by omega)
    rw [W_loop (L := r18_Is_l1) rfl]
    simp (disch := first | assumption | omega | decide | (simp only [lens] <;> omega) | fail) only [go_sem, valP]
    cases hv : isV (s.vals.getD i (false, 0))
    · simp (disch := first | assumption | omega | decide | (simp only [lens] <;> omega) | fail) only [go_sem]
      exact h2 (all_bad (by omega) hv) _
    · simp (disch := first | assumption | omega | decide | (simp only [lens] <;> omega) | fail) only [go_sem]
      exact ih (i + 1) (by omega) (by rw [e, ha, hv]; rfl) h1 h2
theorem res_r18Is {kk : SK} (s : Ser) (hl : s.vals.length ≤ 9223372036854775807) : res Γ 113 [s.pv kk] = some [.bool (isS s)] := by
  unfold Ser.pv
  refine res_code (fn := r18_Is) rfl rfl ?_
  repeat' (first | (simp (disch := first | assumption | omega | decide | (simp only [lens] <;> omega) | fail) only [go_sem, r18_Is]) | refine cond_split (fun hc => ?_) (fun hc => ?_) | refine gd_split_f (fun hc => ?_) (fun hc => ?_) | refine gd_split_t (fun hc => ?_) (fun hc => ?_))
  all_goals first
    | (rw [isS_no (by unfold sizeS; omega)]; done)
    | skip
  all_goals
    have hs : sizeS s := by unfold sizeS; omega
    rw [isS_yes hs]
    refine r18_Is_l1_ok s (by omega) _ s.vals.length 0 (by omega) rfl (fun h H => ?_) (fun h H => ?_)
    · simp (disch := first | assumption | omega | decide | (simp only [lens] <;> omega) | fail) only [go_sem, h]
    · simp (disch := first | assumption | omega | decide | (simp only [lens] <;> omega) | fail) only [go_sem, h]
end Ab
namespace Ab
def consV (s : Ser) : Int := if s.cons = 0 then 1 else s.cons
def plcS (s : Ser) (t : Int) : Nat := if t ≤ s.start then 0 else min s.vals.length ((t - s.start - 1) / s.step + 1).toNat
theorem plcS_le (s : Ser) (t : Int) : plcS s t ≤ s.vals.length := by unfold plcS; split <;> omega
theorem plcS_iff {s : Ser} {t : Int} {i : Nat} (hs : 1 ≤ s.step) (hi : i < s.vals.length) : i < plcS s t ↔ s.start + i * s.step < t := by
  unfold plcS
  split
  · rename_i h
    have : 0 ≤ (i : Int) * s.step := Int.mul_nonneg (by omega) (by omega)
    omega
  · rename_i h
    have e : (i : Int) ≤ (t - s.start - 1) / s.step ↔ i * s.step ≤ t - s.start - 1 := Int.le_ediv_iff_mul_le (by omega)
    have h0 : 0 ≤ (t - s.start - 1) / s.step := Int.ediv_nonneg (by omega) (by omega)
    omega
theorem plcS_mono {s : Ser} (hs : 1 ≤ s.step) {t u : Int} (h : t ≤ u) : plcS s t ≤ plcS s u := by
  unfold plcS
  split
  · omega
  · rename_i h1
    rw [if_neg (by omega)]
    have : (t - s.start - 1) / s.step ≤ (u - s.start - 1) / s.step := Int.ediv_le_ediv (by omega) (by omega)
    omega
def withinV (s : Ser) (t u : Int) : List Val := (s.vals.take (plcS s u)).drop (plcS s t)
def fitV (s : Ser) (start step : Int) (n : Nat) : List Val := (List.range n).map fun (k : Nat) => aggV (consV s) (withinV s (start + k * step) (start + k * step + step))
theorem fitV_succ {s start step n} : fitV s start step (n + 1) = fitV s start step n ++ [aggV (consV s) (withinV s (start + n * step) (start + n * step + step))] := by simp [fitV, List.range_succ]
theorem fitV_len {s start step n} : (fitV s start step n).length = n := by simp [fitV]
def fitS (s : Ser) (start step : Int) (n : Nat) : Ser := ⟨s.name, start, step, fitV s start step n, s.cons⟩
def endS (s : Ser) : Int := s.start + s.vals.length * s.step
end Ab
namespace Ab
def commonV (a b : Nat) : Nat := if Nat.lcm a b ≤ 16777216 then Nat.lcm a b else 0
theorem lcm_eq {a b : Nat} (ha : 0 < a) : Nat.lcm a b = a / Nat.gcd a b * b := by
  unfold Nat.lcm
  have hg : 0 < Nat.gcd a b := Nat.gcd_pos_of_pos_left b ha
  obtain ⟨k, hk⟩ := Nat.gcd_dvd_left a b
  have e : a / Nat.gcd a b = k := by
    conv => lhs; arg 1; rw [hk]
    exact Nat.mul_div_cancel_left k hg
  rw [e]
  conv => lhs; arg 1; arg 1; rw [hk]
  rw [Nat.mul_assoc]
  exact Nat.mul_div_cancel_left _ hg
theorem lcm_eq' {a b : Nat} (hb : 0 < b) : Nat.lcm a b = a * (b / Nat.gcd b a) := by
  rw [Nat.lcm_comm, lcm_eq hb, Nat.mul_comm]
theorem common_lt {a b : Nat} (ha : 0 < a) (hb : 0 < b) : 16777216 / b < a / Nat.gcd a b ↔ ¬ Nat.lcm a b ≤ 16777216 := by
  rw [lcm_eq ha, Nat.div_lt_iff_lt_mul hb]
  omega
theorem common_lt' {a b : Nat} (ha : 0 < a) (hb : 0 < b) : 16777216 / a < b / Nat.gcd b a ↔ ¬ Nat.lcm a b ≤ 16777216 := by
  rw [lcm_eq' hb, Nat.div_lt_iff_lt_mul ha, Nat.mul_comm (b / _) a]
  omega
theorem lcm_pos' {a b : Nat} (ha : 0 < a) (hb : 0 < b) : 0 < Nat.lcm a b := Nat.lcm_pos ha hb
def stepT (st : Nat) (s : Ser) : Nat := if st = 0 then 0 else commonV st s.step.toNat
def stepJ (l : List Ser) : Nat := l.foldl stepT 1
def startJ (m : Int) (l : List Ser) : Int := l.foldl (fun m s => min m s.start) m
def endJ (l : List Ser) : Int := l.foldl (fun m s => max m (endS s)) 0
theorem stepT_zero (l : List Ser) : l.foldl stepT 0 = 0 := by
  induction l with
  | nil => rfl
  | cons s l ih => rw [List.foldl_cons]; exact ih
theorem stepJ_snoc {l : List Ser} {s : Ser} : stepJ (l ++ [s]) = stepT (stepJ l) s := by unfold stepJ; rw [List.foldl_append]; rfl
theorem startJ_snoc {m : Int} {l : List Ser} {s : Ser} : startJ m (l ++ [s]) = min (startJ m l) s.start := by unfold startJ; rw [List.foldl_append]; rfl
theorem endJ_snoc {l : List Ser} {s : Ser} : endJ (l ++ [s]) = max (endJ l) (endS s) := by unfold endJ; rw [List.foldl_append]; rfl
theorem stepJ_le (l : List Ser) : stepJ l ≤ 16777216 := by
  have : ∀ (l : List Ser) (a : Nat), a ≤ 16777216 → l.foldl stepT a ≤ 16777216 := by
    intro l
    induction l with
    | nil => exact fun a h => h
    | cons s l ih =>
      intro a h
      rw [List.foldl_cons]
      refine ih _ ?_
      unfold stepT commonV
      split
      · omega
      · split <;> omega
  exact this l 1 (by omega)
theorem startJ_le {m : Int} {l : List Ser} : startJ m l ≤ m ∧ ∀ s ∈ l, startJ m l ≤ s.start := by
  induction l generalizing m with
  | nil => exact ⟨Int.le_refl _, fun s h => by cases h⟩
  | cons s l ih =>
    obtain ⟨h1, h2⟩ := ih (m := min m s.start)
    have e : startJ m (s :: l) = startJ (min m s.start) l := rfl
    rw [e]
    refine ⟨by omega, fun x hx => ?_⟩
    rcases List.mem_cons.1 hx with rfl | hx
    · omega
    · exact h2 x hx
theorem startJ_ge {m : Int} {l : List Ser} (hm : 0 ≤ m) (h : ∀ s ∈ l, 0 ≤ s.start) : 0 ≤ startJ m l := by
  induction l generalizing m with
  | nil => exact hm
  | cons s l ih =>
    have e : startJ m (s :: l) = startJ (min m s.start) l := rfl
    rw [e]
    exact ih (by have := h s (by simp); omega) fun x hx => h x (by simp [hx])
theorem startJ_cons {m : Int} {s : Ser} {l : List Ser} (h : s.start ≤ m) : startJ m (s :: l) = startJ s.start (s :: l) := by
  have e : ∀ m, startJ m (s :: l) = startJ (min m s.start) l := fun _ => rfl
  rw [e, e, Int.min_eq_right h, Int.min_self]
theorem endJ_ge {l : List Ser} : 0 ≤ endJ l ∧ ∀ s ∈ l, endS s ≤ endJ l := by
  have : ∀ (l : List Ser) (a : Int), a ≤ l.foldl (fun m s => max m (endS s)) a ∧ ∀ s ∈ l, endS s ≤ l.foldl (fun m s => max m (endS s)) a := by
    intro l
    induction l with
    | nil => exact fun a => ⟨Int.le_refl _, fun s h => by cases h⟩
    | cons s l ih =>
      intro a
      rw [List.foldl_cons]
      obtain ⟨h1, h2⟩ := ih (max a (endS s))
      refine ⟨by omega, fun x hx => ?_⟩
      rcases List.mem_cons.1 hx with rfl | hx
      · omega
      · exact h2 x hx
  exact this l 0
theorem endJ_le {l : List Ser} {B : Int} (hB : 0 ≤ B) (h : ∀ s ∈ l, endS s ≤ B) : endJ l ≤ B := by
  have : ∀ (l : List Ser) (a : Int), a ≤ B → (∀ s ∈ l, endS s ≤ B) → l.foldl (fun m s => max m (endS s)) a ≤ B := by
    intro l
    induction l with
    | nil => exact fun a h _ => h
    | cons s l ih =>
      intro a ha h
      rw [List.foldl_cons]
      exact ih _ (by have := h s (by simp); omega) fun x hx => h x (by simp [hx])
  exact this l 0 hB h
def begJ (l : List Ser) : Int := startJ 4294967295 l - startJ 4294967295 l % (stepJ l : Int)
def manyJ (l : List Ser) : Int := (endJ l - begJ l + (stepJ l : Int) - 1) / (stepJ l : Int)
def errJ (l : List Ser) : Int := if l.all isS = false then 1 else if l = [] then 0 else if stepJ l = 0 then 13 else if 131072 < manyJ l then 13 else 0
def joinJ (l : List (SK × Ser)) : List (SK × Ser) := l.map fun x => (if (manyJ (l.map (·.2))).toNat = 0 then .nil else .any, fitS x.2 (begJ (l.map (·.2))) (stepJ (l.map (·.2))) (manyJ (l.map (·.2))).toNat)
end Ab
namespace Ab
open Go (IntKind BinOp UnOp)
theorem knL_take {l : List Val} {i : Nat} (h : i < l.length) : knL (l.take (i + 1)) = if knV (l.getD i (false, 0)) = true then knL (l.take i) ++ [l.getD i (false, 0)] else knL (l.take i) := by
  rw [take_snoc' (false, 0) h]
  unfold knL
  rw [List.filter_append]
  split
  · rename_i hk; rw [List.filter_cons_of_pos hk]; rfl
  · rename_i hk; rw [List.filter_cons_of_neg hk]; simp
theorem knL_len (l : List Val) : (knL l).length ≤ l.length := List.length_filter_le _ _
theorem knL_take_len (l : List Val) (i : Nat) : (knL (l.take i)).length ≤ i := by
  have := knL_len (l.take i)
  rw [List.length_take] at this
  omega
theorem agg_Known_l1_ok {kk : SK} (l : List Val) (hl : l.length < 1000000000) (Q : Out → Prop) : ∀ (k i : Nat) (T : Heap), i + k = l.length →
    (∀ T, Q (.nrm, [(3, .own 0 (knL l).length)], .row false 2 (vpv (knL l)) :: T)) →
    Wp Γ agg_Known_l1 [(3, .own 0 (knL (l.take i)).length), (6, .p (.sl kk 2 (vpv l))), (7, .p (.int .i64 (l.length : Int))), (8, .p (.int .i64 (i : Int)))] (.row false 2 (vpv (knL (l.take i))) :: T) (InBlk [3] 0 Q) := by
  intro k
  induction k with
  | zero =>
    intro i T hi hQ
    obtain rfl : i = l.length := by omega
    rw [W_loop (L := agg_Known_l1) rfl]
    simp (disch := first | assumption | omega | decide | (simp only [lens] <;> omega) | fail) only [go_sem]
    rw [List.take_length]
    exact hQ _
  | succ k ih =>
    intro i T hi hQ
    have g := knL_take_len l i
    have e := knL_take (l := l) (i := i) (by omega)
    have hw : (vpv (knL (l.take i))).length = (knL (l.take i)).length := vpv_len
    rw [W_loop (L := agg_Known_l1) rfl]
    simp (disch := first | assumption | omega | decide | (simp only [lens] <;> omega) | fail) only [go_sem, valP]
    generalize hx : l.getD i (false, 0) = x at e ⊢
    obtain ⟨b, n⟩ := x
    cases b
    · have hk : knV (false, n) = false := rfl
      rw [hk, if_neg (by simp)] at e
      simp (disch := first | assumption | omega | decide | (simp only [lens] <;> omega) | fail) only [go_sem]
      rw [← e]
      exact ih (i + 1) _ (by omega) hQ
    · cases hv : isV (true, n)
      · have hk : knV (true, n) = false := by simp [knV, hv]
        rw [hk, if_neg (by simp)] at e
        simp (disch := first | assumption | omega | decide | (simp only [lens] <;> omega) | fail) only [go_sem, hv]
        rw [← e]
        exact ih (i + 1) _ (by omega) hQ
      · have hk : knV (true, n) = true := by simp [knV, hv]
        rw [hk, if_pos rfl] at e
        simp (disch := first | assumption | omega | decide | (simp only [lens] <;> omega) | fail) only [go_sem, hv]
        rw [← e, show (knL (l.take i)).length + 1 = (knL (l.take (i + 1))).length by rw [e]; simp]
        exact ih (i + 1) _ (by omega) hQ
@[go_sem] theorem res_aggKnown {kk : SK} (l : List Val) (hl : l.length < 1000000000) : res Γ 140 [.sl kk 2 (vpv l)] = some [.sl .any 2 (vpv (knL l))] := by
  have hw : (vpv (knL l)).length = (knL l).length := vpv_len
  refine res_code (fn := agg_Known) rfl rfl ?_
  simp (disch := first | assumption | omega | decide | (simp only [lens] <;> omega) | fail) only [go_sem, agg_Known]
  refine agg_Known_l1_ok l hl _ l.length 0 [] (by omega) (fun T => ?_)
  simp (disch := first | assumption | omega | decide | (simp only [lens] <;> omega) | fail) only [go_sem]
theorem r6_Known_l1_ok {kk : SK} (l : List Val) (hl : l.length < 1000000000) (Q : Out → Prop) : ∀ (k i : Nat), i + k = l.length →
    (Q (.nrm, [(3, .own 0 (knL l).length)], [.row false 2 (vpv (knL l))])) →
    Wp Γ r6_Known_l1 [(0, .p (.sl kk 2 (vpv l))), (3, .own 0 (knL (l.take i)).length), (4, .p (.int .i64 (i : Int)))] [.row false 2 (vpv (knL (l.take i)))] (InBlk [3] 0 Q) := by
  intro k
  induction k with
  | zero =>
    intro i hi hQ
    obtain rfl : i = l.length := by omega
    rw [W_loop (L := r6_Known_l1) rfl]
    simp (disch := first | assumption | omega | decide | (simp only [lens] <;> omega) | fail) only [go_sem]
    rw [List.take_length]
    exact hQ
  | succ k ih =>
    intro i hi hQ
    have g := knL_take_len l i
    have e := knL_take (l := l) (i := i) (by omega)
    have hw : (vpv (knL (l.take i))).length = (knL (l.take i)).length := vpv_len
    rw [W_loop (L := r6_Known_l1) rfl]
    simp (disch := first | assumption | omega | decide | (simp only [lens] <;> omega) | fail) only [go_sem, valP]
    cases hk : knV (l.getD i (false, 0))
    · rw [hk, if_neg (by simp)] at e
      simp (disch := first | assumption | omega | decide | (simp only [lens] <;> omega) | fail) only [go_sem]
      rw [← e]
      exact ih (i + 1) (by omega) hQ
    · rw [hk, if_pos rfl] at e
      simp (disch := first | assumption | omega | decide | (simp only [lens] <;> omega) | fail) only [go_sem, valP]
      rw [← e, show (knL (l.take i)).length + 1 = (knL (l.take (i + 1))).length by rw [e]; simp]
      exact ih (i + 1) (by omega) hQ
@[go_sem] theorem res_r6Known {kk : SK} (l : List Val) (hl : l.length < 1000000000) : res Γ 131 [.sl kk 2 (vpv l)] = some [.sl .any 2 (vpv (knL l))] := by
  have hw : (vpv (knL l)).length = (knL l).length := vpv_len
  refine res_code (fn := r6_Known) rfl rfl ?_
  simp (disch := first | assumption | omega | decide | (simp only [lens] <;> omega) | fail) only [go_sem, r6_Known]
  refine r6_Known_l1_ok l hl _ l.length 0 (by omega) ?_
  simp (disch := first | assumption | omega | decide | (simp only [lens] <;> omega) | fail) only [go_sem]
end Ab
