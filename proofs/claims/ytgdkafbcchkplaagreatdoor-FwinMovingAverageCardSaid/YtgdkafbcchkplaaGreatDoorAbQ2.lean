import Derived.Test.YtgdkafbcchkplaaGreatDoorAbQ
namespace Ab
open Go (IntKind BinOp UnOp World Value Addr Obj undef maxLen Program TypeId Oper Op Operand Act Sem Next Result execOp Builtin)
section
variable {Γ : Ctx} {N : Names} {P : Program} {w : World} {S : Nat → Prop} {μ : Nat → Value} {H : Heap} {σ : Nat → AV} {a : Act}

theorem q_bin {op : BinOp} {T : TypeId} {x y : Operand} {x' y' v : AV} (hx : RelV N.fn w S μ H x' (a.eval x)) (hy : RelV N.fn w S μ H y' (a.eval y)) (hv : binAV op x' y' = some v) :
    ∃ u, (do Go.eqGuard op T x y (a.eval x) (a.eval y); Go.binOp op T (a.eval x) (a.eval y)).run P w = .ok u w ∧ RelV N.fn w S μ H v u := by
  unfold binAV at hv
  split at hv
  · obtain ⟨r, hr, rfl⟩ := Option.map_eq_some_iff.1 hv
    unfold binPV at hr
    split at hr
    · split at hr
      · rename_i hk
        rw [hx.int_inv, hy.int_inv]
        obtain ⟨u, h1, h2⟩ := run_binInt (P := P) (w := w) (N := N) (S := S) (T := T) hk hr
        refine ⟨u, ?_, .p _ _ h2⟩
        have e : ∀ k k' m n, (Go.eqGuard op T x y (Value.int k m) (Value.int k' n)).run P w = .ok () w := by intro k k' m n; cases op <;> simp [Go.eqGuard]
        simp only [Go.Sem.run_bind, e, Go.Result.andThen_ok]
        exact h1
      · cases hr
    · rw [hx.str_inv, hy.str_inv]
      obtain ⟨u, h1, h2⟩ := run_binStr (P := P) (w := w) (N := N) (S := S) (T := T) hr
      refine ⟨u, ?_, .p _ _ h2⟩
      have e : ∀ s t, (Go.eqGuard op T x y (Value.string s) (Value.string t)).run P w = .ok () w := by intro s t; cases op <;> simp [Go.eqGuard]
      simp only [Go.Sem.run_bind, e, Go.Result.andThen_ok]
      exact h1
    · cases hr
  · cases hv

theorem q_un {op : UnOp} {x : Value} {x' v : AV} (hx : RelV N.fn w S μ H x' x) (hv : unA op x' = some v) : ∃ u, (Go.Op.unary op x).run P w = .ok u w ∧ RelV N.fn w S μ H v u := by
  unfold unA at hv
  split at hv
  · obtain ⟨r, hr, rfl⟩ := Option.map_eq_some_iff.1 hv
    unfold unPV at hr
    split at hr
    · simp only [Option.some.injEq] at hr; subst hr
      rw [hx.int_inv]
      exact ⟨_, by simp [Go.Op.unary, Go.Op.intArith]; rfl, .p _ _ (by simpa using RelP.int _ _)⟩
    · simp only [Option.some.injEq] at hr; subst hr
      rw [hx.int_inv]
      exact ⟨_, by simp [Go.Op.unary, Go.Op.intBits], .p _ _ (.int _ _)⟩
    · simp only [Option.some.injEq] at hr; subst hr
      rw [hx.bool_inv]
      exact ⟨_, by simp [Go.Op.unary], .p _ _ (.bool _)⟩
    · cases hr
  · cases hv

def intT (P : Program) (T : TypeId) : Option IntKind := match P.underlying T with | some (.int k) => some k | _ => none
def strT (P : Program) (T : TypeId) : Bool := match P.underlying T with | some .string => true | _ => false
def slT (P : Program) (T : TypeId) : Option TypeId := match P.underlying T with | some (.slice e) => some e | _ => none
theorem intT_spec {T k} (h : intT P T = some k) : P.underlying T = some (.int k) := by
  unfold intT at h; split at h
  · simp only [Option.some.injEq] at h; subst h; assumption
  · cases h
theorem strT_spec {T} (h : strT P T = true) : P.underlying T = some .string := by
  unfold strT at h; split at h
  · assumption
  · cases h
theorem slT_spec {T e} (h : slT P T = some e) : P.underlying T = some (.slice e) := by
  unfold slT at h; split at h
  · simp only [Option.some.injEq] at h; subst h; assumption
  · cases h

theorem q_runeStr {s d : TypeId} {k0 : IntKind} {x : Value} {x' v : AV} (hs : intT P s = some k0) (hd : strT P d = true) (hx : RelV N.fn w S μ H x' x) (hv : runeStrA x' = some v) :
    ∃ u, (Go.convert s d x).run P w = .ok u w ∧ RelV N.fn w S μ H v u := by
  unfold runeStrA at hv
  split at hv
  · simp only [Option.some.injEq] at hv; subst hv
    rw [hx.int_inv]
    exact ⟨.string (Go.Utf8.encode _), by simp [Go.convert, Go.run_underlying (intT_spec hs), Go.run_underlying (strT_spec hd), Go.Conv.intToString], .p _ _ (.str _)⟩
  · cases hv
theorem q_conv {s d : TypeId} {k k0 : IntKind} {x : Value} {x' v : AV} (hs : intT P s = some k0) (hd : intT P d = some k) (hx : RelV N.fn w S μ H x' x) (hv : convA k x' = some v) :
    ∃ u, (Go.convert s d x).run P w = .ok u w ∧ RelV N.fn w S μ H v u := by
  unfold convA at hv
  split at hv
  · simp only [Option.some.injEq] at hv; subst hv
    rw [hx.int_inv]
    exact ⟨_, by simp [Go.convert, Go.run_underlying (intT_spec hs), Go.run_underlying (intT_spec hd), Go.Conv.intToInt], .p _ _ (.int _ _)⟩
  · cases hv
theorem q_same {s d : TypeId} {x : Value} {x' v : AV} (hs : strT P s = true) (hd : strT P d = true) (hx : RelV N.fn w S μ H x' x) (hv : sameA x' = some v) :
    ∃ u, (Go.convert s d x).run P w = .ok u w ∧ RelV N.fn w S μ H v u := by
  unfold sameA at hv
  split at hv
  · simp only [Option.some.injEq] at hv; subst hv
    rw [hx.str_inv]
    exact ⟨_, by simp [Go.convert, Go.run_underlying (strT_spec hs), Go.run_underlying (strT_spec hd)], .p _ _ (.str _)⟩
  · cases hv

theorem RelV.own_inv {ν id n u r} (h : RelV ν w S μ H (.own id n) u) (hr : rowOf H id n = some r) : u = μ id := by
  obtain ⟨f, h1, h2⟩ := rowOf_spec hr
  cases h with | own _ _ _ _ h _ => exact (h f _ _ h1).2 h2.symm

theorem q_len {T : TypeId} {x : Value} {x' : AV} {n : Nat} {t0 : TypeId} {s : Bool} (hr : Rel N.fn w S μ H) (hT : if s then strT P T = true else (slT P T).isSome = true) (hx : RelV N.fn w S μ H x' x)
    (hv : asLen H s x' = some n) : (Go.Builtin.len_ #[T] t0 #[x]).run P w = .ok (.int .i64 n) w := by
  unfold asLen at hv
  split at hv
  · simp only [Option.some.injEq] at hv; subst hv
    rw [hx.str_inv]
    simp only [if_true] at hT
    simp [Go.Builtin.len_, Go.run_underlying (strT_spec hT), Go.goInt, size_mk]
  · simp only [Option.some.injEq] at hv; subst hv
    simp only [Bool.false_eq_true, if_false] at hT
    obtain ⟨e, he⟩ := Option.isSome_iff_exists.1 hT
    have e1 := hx.p_inv
    cases e1
    simp [Go.Builtin.len_, Go.run_underlying (slT_spec he), Go.goInt]
  · rename_i id m
    obtain ⟨r, hb, he⟩ := Option.map_eq_some_iff.1 hv
    subst he
    simp only [Bool.false_eq_true, if_false] at hT
    obtain ⟨e, he⟩ := Option.isSome_iff_exists.1 hT
    rw [hx.own_inv hb]
    obtain ⟨f, h1, h2⟩ := rowOf_spec hb
    obtain ⟨_, _, us, h3, _⟩ := hr.blk id _ h1
    obtain ⟨_, h3⟩ := h3
    rw [h2] at h3
    rcases h3 with ⟨rfl, a0, h4⟩ | ⟨g, cap, cur, e', h4, _⟩ <;> rw [h4] <;> simp [Go.Builtin.len_, Go.run_underlying (slT_spec he), Go.goInt]
  · cases hv

theorem q_idx {T : TypeId} {x i : Value} {x' i' v : AV} (hT : strT P T = true) (hx : RelV N.fn w S μ H x' x) (hi : RelV N.fn w S μ H i' i) (hv : idxA x' i' = some v) :
    ∃ u, (Go.Instr.index T x i).run P w = .ok u w ∧ RelV N.fn w S μ H v u := by
  unfold idxA at hv
  split at hv
  · split at hv
    · rename_i s k i hi0
      obtain ⟨b, hb, rfl⟩ := Option.map_eq_some_iff.1 hv
      rw [hx.str_inv, hi.int_inv]
      have hlt : i.toNat < s.length := (List.getElem?_eq_some_iff.1 hb).1
      have e : (ByteArray.mk s.toArray)[i.toNat]? = some b := by
        rw [getElem?_pos _ _ (by rw [size_mk]; exact hlt)]
        have : s[i.toNat] = b := (List.getElem?_eq_some_iff.1 hb).2
        rw [← this]
        rfl
      exact ⟨_, by simp [Go.Instr.index, Go.asIntOf, Go.run_underlying (strT_spec hT), hi0, e], .p _ _ (.int _ _)⟩
    · cases hv
  · cases hv

theorem list_getD {α : Type} {l : List α} {j : Nat} {d : α} : l.toArray.getD j d = l.getD j d := by
  simp [List.getD]

theorem extract_getD {us : Array Value} {i j n : Nat} (hj : j < n) (h : i + n ≤ us.size) : (us.extract i (i + n)).getD j undef = us.getD (i + j) undef := by
  have h1 : j < (us.extract i (i + n)).size := by simp; omega
  rw [Array.getD_eq_getD_getElem?, Array.getD_eq_getD_getElem?, Array.getElem?_extract]
  rw [if_pos (by omega)]

/-- A part of an aggregate that is a tree. -/
theorem part_takeP {T : TypeId} {sz off : Nat} {ag : Bool} {cs : List PV} {us : Array Value} {v : AV} (ht : aggB P T = some ag) (hs : (P.info? T).map (·.size) = some sz)
    (h1 : us.size = cs.length) (h2 : ∀ c ∈ cs, c.one = true) (h3 : ∀ j c, cs[j]? = some c → RelP N.fn w S c (us.getD j undef)) (hv : takeP sz ag (cs.drop off) = some v) :
    ∃ u, (Go.part T us off).run P w = .ok u w ∧ RelV N.fn w S μ H v u := by
  unfold takeP at hv
  cases ag
  · simp only [Bool.false_eq_true, if_false, Option.map_eq_some_iff] at hv
    obtain ⟨c, hc, rfl⟩ := hv
    rw [List.head?_drop] at hc
    have hlt : off < us.size := by rw [h1]; exact (List.getElem?_eq_some_iff.1 hc).1
    exact ⟨_, run_part_one ht hlt, .p _ _ (h3 _ _ hc)⟩
  · simp only [if_true] at hv
    split at hv
    · rename_i hl
      simp only [Option.some.injEq] at hv
      subst hv
      rw [List.length_drop] at hl
      refine ⟨_, run_part_agg ht hs, .p _ _ (.agg _ _ ?_ (fun c hc => h2 c (List.mem_of_mem_drop (List.mem_of_mem_take hc))) (fun j c hc => ?_))⟩
      · simp only [Array.size_extract, List.length_take, List.length_drop]
        omega
      · obtain ⟨hj, hc'⟩ := take_get hc
        rw [List.getElem?_drop] at hc'
        by_cases hle : off + sz ≤ us.size
        · rw [extract_getD hj hle]; exact h3 _ _ hc'
        · have : off + j < us.size := by rw [h1]; exact (List.getElem?_eq_some_iff.1 hc').1
          omega
    · cases hv
theorem part_takeA {T : TypeId} {sz off : Nat} {ag : Bool} {cs : List AV} {us : Array Value} {v : AV} (ht : aggB P T = some ag) (hs : (P.info? T).map (·.size) = some sz)
    (h1 : us.size = cs.length) (h2 : ∀ c ∈ cs, c.one = true) (h3 : ∀ j c, cs[j]? = some c → RelV N.fn w S μ H c (us.getD j undef)) (hv : takeA sz ag (cs.drop off) = some v) :
    ∃ u, (Go.part T us off).run P w = .ok u w ∧ RelV N.fn w S μ H v u := by
  unfold takeA at hv
  cases ag
  · simp only [Bool.false_eq_true, if_false] at hv
    rw [List.head?_drop] at hv
    have hlt : off < us.size := by rw [h1]; exact (List.getElem?_eq_some_iff.1 hv).1
    exact ⟨_, run_part_one ht hlt, h3 _ _ hv⟩
  · simp only [if_true] at hv
    split at hv
    · rename_i hl
      simp only [Option.some.injEq] at hv
      subst hv
      rw [List.length_drop] at hl
      refine ⟨_, run_part_agg ht hs, RelV.mkAgg ?_ (fun c hc => h2 c (List.mem_of_mem_drop (List.mem_of_mem_take hc))) (fun j c hc => ?_)⟩
      · simp only [Array.size_extract, List.length_take, List.length_drop]
        omega
      · obtain ⟨hj, hc'⟩ := take_get hc
        rw [List.getElem?_drop] at hc'
        by_cases hle : off + sz ≤ us.size
        · rw [extract_getD hj hle]; exact h3 _ _ hc'
        · have : off + j < us.size := by rw [h1]; exact (List.getElem?_eq_some_iff.1 hc').1
          omega
    · cases hv

def arrT (P : Program) (T : TypeId) : Option (Nat × TypeId) := match P.underlying T with | some (.array n e) => some (n, e) | _ => none
theorem arrT_spec {T n e} (h : arrT P T = some (n, e)) : P.underlying T = some (.array n e) := by
  unfold arrT at h; split at h
  · simp only [Option.some.injEq, Prod.mk.injEq] at h; obtain ⟨rfl, rfl⟩ := h; assumption
  · cases h
theorem run_sizeOf {T sz} (hs : (P.info? T).map (·.size) = some sz) : (Go.sizeOf T).run P w = .ok sz w := by
  obtain ⟨i, hi, hsz⟩ := Option.map_eq_some_iff.1 hs
  simp [Go.sizeOf, Go.typeInfo, hi, hsz]

theorem q_aidx {T e : TypeId} {sz n : Nat} {ag : Bool} {x i : Value} {x' i' v : AV} (hT : arrT P T = some (n, e)) (ht : aggB P e = some ag) (hs : (P.info? e).map (·.size) = some sz)
    (hx : RelV N.fn w S μ H x' x) (hi : RelV N.fn w S μ H i' i) (hv : aidxA sz ag n x' i' = some v) :
    ∃ u, (Go.Instr.index T x i).run P w = .ok u w ∧ RelV N.fn w S μ H v u := by
  unfold aidxA at hv
  split at hv
  · rename_i cs k i
    split at hv
    · rename_i hc
      obtain ⟨hi0, hin, hlen⟩ := hc
      rw [hi.int_inv]
      cases hx with
      | p _ _ hx => cases hx with
        | agg _ us h1 h2 h3 =>
        obtain ⟨u, h4, h5⟩ := part_takeP (P := P) (N := N) (w := w) (S := S) (μ := μ) (H := H) ht hs h1 h2 h3 hv
        refine ⟨u, ?_, h5⟩
        simp [Go.Instr.index, Go.asIntOf, Go.run_underlying (arrT_spec hT), hi0, hin, run_sizeOf hs, h4]
    · cases hv
  · cases hv

def fieldsT (P : Program) (T : TypeId) : Option (Array Go.Field) := match P.underlying T with | some (.struct fs) => some fs | _ => none
theorem fieldsT_spec {T fs} (h : fieldsT P T = some fs) : P.underlying T = some (.struct fs) := by
  unfold fieldsT at h; split at h
  · simp only [Option.some.injEq] at h; subst h; assumption
  · cases h

theorem q_fld {T : TypeId} {fs : Array Go.Field} {f : Go.Field} {k off sz : Nat} {ag : Bool} {x : Value} {x' v : AV} (hT : fieldsT P T = some fs) (hf : fs[k]? = some f) (ho : f.offset = off)
    (ht : aggB P f.type = some ag) (hs : (P.info? f.type).map (·.size) = some sz) (hx : RelV N.fn w S μ H x' x) (hv : fldA off sz ag x' = some v) :
    ∃ u, (Go.Instr.field T x k).run P w = .ok u w ∧ RelV N.fn w S μ H v u := by
  subst ho
  unfold fldA at hv
  split at hv
  · cases hx with
    | p _ _ hx => cases hx with
      | agg _ us h1 h2 h3 =>
      obtain ⟨u, h4, h5⟩ := part_takeP (P := P) (N := N) (w := w) (S := S) (μ := μ) (H := H) ht hs h1 h2 h3 hv
      exact ⟨u, by simp [Go.Instr.field, Go.run_underlying (fieldsT_spec hT), hf, Go.asAgg, h4], h5⟩
  · cases hx with
    | agg _ us h1 h2 h3 =>
    obtain ⟨u, h4, h5⟩ := part_takeA (P := P) (N := N) (w := w) (S := S) (μ := μ) (H := H) ht hs h1 h2 h3 hv
    exact ⟨u, by simp [Go.Instr.field, Go.run_underlying (fieldsT_spec hT), hf, Go.asAgg, h4], h5⟩
  · cases hv

theorem add_drop_ptr {ad : Addr} {cs : List PV} {us : Nat → Value} {off : Nat} (h0 : off < cs.length) (h1 : S ad.block) (h2 : ∀ c ∈ cs, c.one = true) (h3 : ∀ j c, cs[j]? = some c → w.cell? (ad.add j) = some (us j))
    (h4 : ∀ j c, cs[j]? = some c → RelP N.fn w S c (us j)) : RelP N.fn w S (.ptr (cs.drop off)) (.pointer (some (ad.add off))) := by
  refine .ptr _ _ (fun j => us (off + j)) (fun e => ?_) (by rw [block_add]; exact h1) (fun c hc => h2 c (List.mem_of_mem_drop hc)) (fun j c hc => ?_) (fun j c hc => ?_)
  · rw [List.drop_eq_nil_iff] at e; omega
  · rw [List.getElem?_drop] at hc; rw [add_add]; exact h3 _ _ hc
  · rw [List.getElem?_drop] at hc; exact h4 _ _ hc

theorem q_faddr {T : TypeId} {fs : Array Go.Field} {f : Go.Field} {k off : Nat} {x : Value} {x' v : AV} (hT : fieldsT P T = some fs) (hf : fs[k]? = some f) (ho : f.offset = off)
    (hs : (P.info? f.type).any (·.size != 0) = true) (hx : RelV N.fn w S μ H x' x) (hv : faddrA H off x' = some v) :
    ∃ u, (Go.Instr.fieldAt T x k).run P w = .ok u w ∧ RelV N.fn w S μ H v u := by
  subst ho
  obtain ⟨i, hi, hsz⟩ : ∃ i, P.info? f.type = some i ∧ ¬ i.size = 0 := by
    cases h : P.info? f.type with
    | none => simp [h] at hs
    | some i => simp [h] at hs; exact ⟨i, rfl, hs⟩
  have key : ∀ ad : Addr, (Go.Instr.fieldAt T (.pointer (some ad)) k).run P w = .ok (.pointer (some (ad.add f.offset))) w := by
    intro ad
    simp [Go.Instr.fieldAt, Go.run_underlying (fieldsT_spec hT), hf, Go.Instr.sureAddr, Go.fieldPlace, Go.sizeOf, Go.typeInfo, hi, hsz]
  unfold faddrA at hv
  split at hv
  · split at hv
    · rename_i hl
      simp only [Option.some.injEq] at hv; subst hv
      cases hx with
      | p _ _ hx => cases hx with
        | ptr cells ad us h0 h1 h2 h3 h4 => exact ⟨_, key ad, .p _ _ (add_drop_ptr hl h1 h2 h3 h4)⟩
    · cases hv
  · simp only [Option.some.injEq] at hv; subst hv
    obtain ⟨g, rfl, hl, hg⟩ := hx.bx_inv
    exact ⟨_, key _, .bx _ _ g _ hl hg (by rw [Addr.add_lit])⟩
  · rename_i id n i o
    unfold ifB at hv
    split at hv
    · rename_i hok
      simp only [Option.some.injEq] at hv; subst hv
      obtain ⟨f', sz, xs, g, cap, h1, h2, h3, h4, rfl⟩ := hx.el_inv hok
      refine ⟨_, key _, .el _ _ _ _ _ (List.getElem?_eq_some_iff.1 h1).1 (fun f2 sz2 xs2 e => ?_) rfl⟩
      rw [h1] at e; cases e
      exact ⟨Nat.le_of_eq h2.symm, fun _ _ => ⟨g, cap, h4, by rw [Addr.add_lit, Nat.add_assoc]⟩⟩
    · cases hv
  · cases hv

theorem q_iaddr {T e : TypeId} {sz : Nat} {x i : Value} {x' i' v : AV} (h0sz : 0 < sz) (hr : Rel N.fn w S μ H) (hT : slT P T = some e) (hs : (P.info? e).map (·.size) = some sz)
    (hx : RelV N.fn w S μ H x' x) (hi : RelV N.fn w S μ H i' i) (hv : iaddrA H sz x' i' = some v) :
    ∃ u, (Go.Instr.indexAt T x i).run P w = .ok u w ∧ RelV N.fn w S μ H v u := by
  have key : ∀ (ad : Addr) (n cap : Nat) (k : IntKind) (i : Int), 0 ≤ i → i < n → (Go.Instr.indexAt T (.slice (some ad) n cap) (.int k i)).run P w = .ok (.pointer (some (ad.add (i.toNat * sz)))) w := by
    intro ad n cap k i h0 h1
    simp [Go.Instr.indexAt, Go.asIntOf, Go.run_underlying (slT_spec hT), h0, h1, run_sizeOf hs]
  unfold iaddrA at hv
  split at hv
  · rename_i k sz' xs k i
    split at hv
    · rename_i hc
      obtain ⟨rfl, h0⟩ := hc
      obtain ⟨y, hy, rfl⟩ := Option.map_eq_some_iff.1 hv
      rw [hi.int_inv]
      have hlt := (List.getElem?_eq_some_iff.1 hy).1
      cases hx with
      | p _ _ hx => cases hx with
        | sl _ _ _ a cap us h1 h2 h3 h4 h5 h6 h7 h8 =>
        obtain ⟨ad, rfl, hS⟩ := h6 (by rintro rfl; simp at hlt)
        refine ⟨_, key ad _ cap k i h0 (by omega), .p _ _ ?_⟩
        have hm := h3 y (List.mem_of_getElem? hy)
        refine .ptr _ _ (fun j => us i.toNat j) ?_ (by rw [block_add]; exact hS) hm.2 (fun j c hc => ?_) (fun j c hc => h8 _ _ _ _ hy hc)
        · intro e; have := hm.1; rw [e] at this; simp at this; omega
        · rw [add_add]; exact h7 ad rfl _ _ _ _ hy hc
    · cases hv
  · rename_i id n k i
    obtain ⟨⟨sz', xs⟩, hb, hv⟩ := Option.bind_eq_some_iff.1 hv
    simp only [Option.ite_none_right_eq_some, Option.some.injEq] at hv
    obtain ⟨⟨rfl, h0, h1⟩, rfl⟩ := hv
    have hu := hx.own_inv hb
    obtain ⟨f, h2, h3⟩ := rowOf_spec hb
    obtain ⟨_, _, us, h4, _⟩ := hr.blk id _ h2
    obtain ⟨_, h5⟩ := h4
    rw [h3] at h5
    rw [hi.int_inv, hu]
    rcases h5 with ⟨rfl, _⟩ | ⟨g, cap, cur, e', h6, _⟩
    · omega
    · rw [h6]
      refine ⟨_, key _ _ _ _ _ h0 h1, .el _ _ _ _ _ (List.getElem?_eq_some_iff.1 h2).1 (fun f2 sz2 xs2 e => ?_) rfl⟩
      rw [h2] at e; cases e
      exact ⟨Nat.le_of_eq h3.symm, fun _ _ => ⟨g, cap, h6, by rw [Addr.add_lit]; simp⟩⟩
  · cases hv

theorem q_iaddrA {T e : TypeId} {sz n : Nat} {x i : Value} {x' i' v : AV} (hT : arrT P T = some (n, e)) (hs : (P.info? e).map (·.size) = some sz)
    (hx : RelV N.fn w S μ H x' x) (hi : RelV N.fn w S μ H i' i) (hv : iaddrAA sz n x' i' = some v) :
    ∃ u, (Go.Instr.indexAt T x i).run P w = .ok u w ∧ RelV N.fn w S μ H v u := by
  have key : ∀ (ad : Addr) (k : IntKind) (i : Int), 0 ≤ i → i < n → (Go.Instr.indexAt T (.pointer (some ad)) (.int k i)).run P w = .ok (.pointer (some (ad.add (i.toNat * sz)))) w := by
    intro ad k i h0 h1
    simp [Go.Instr.indexAt, Go.asIntOf, Go.Instr.sureAddr, Go.run_underlying (arrT_spec hT), h0, h1, run_sizeOf hs]
  unfold iaddrAA at hv
  split at hv
  · simp only [Option.ite_none_right_eq_some, Option.some.injEq] at hv
    obtain ⟨⟨h0, h1, h2⟩, rfl⟩ := hv
    rw [hi.int_inv]
    cases hx with
    | p _ _ hx => cases hx with
      | ptr cells ad us _ k1 k2 k3 k4 => exact ⟨_, key ad _ _ h0 h1, .p _ _ (add_drop_ptr h2 k1 k2 k3 k4)⟩
  · simp only [Option.ite_none_right_eq_some, Option.some.injEq] at hv
    obtain ⟨⟨h0, h1⟩, rfl⟩ := hv
    rw [hi.int_inv]
    obtain ⟨g, rfl, hl, hg⟩ := hx.bx_inv
    exact ⟨_, key _ _ _ h0 h1, .bx _ _ g _ hl hg (by rw [Addr.add_lit])⟩
  · cases hv

/-! Slicing -/
def RelO (ν : Nat → Nat) (w : World) (S : Nat → Prop) (μ : Nat → Value) (H : Heap) (o : Option AV) (u : Option Value) : Prop :=
  match o, u with | none, none => True | some x, some y => RelV ν w S μ H x y | _, _ => False

theorem run_sliceBounds {sl : Bool} {n cap l h : Nat} {lo hi : Option AV} {lo' hi' : Option Value} (hlo : RelO N.fn w S μ H lo lo') (hhi : RelO N.fn w S μ H hi hi') (hc : n ≤ cap)
    (h1 : bound n n hi = some h) (h2 : bound h 0 lo = some l) : (Go.Instr.sliceBounds sl n cap lo' hi' none).run P w = .ok (l, h, cap) w ∧ l ≤ h ∧ h ≤ n := by
  have bnd : ∀ {m d : Nat} {o : Option AV} {r : Nat}, bound m d o = some r → (o = none → r = d) ∧ (o ≠ none → r ≤ m) := by
    intro m d o r hb
    unfold bound at hb
    split at hb
    · exact ⟨fun _ => by simpa using hb.symm, fun h => by simp at h⟩
    · simp only [Option.ite_none_right_eq_some, Option.some.injEq] at hb
      obtain ⟨⟨h0, h1⟩, rfl⟩ := hb
      exact ⟨fun h => by simp at h, fun _ => by omega⟩
    · cases hb
  have key : ∀ {m m' d : Nat} {o : Option AV} {y : Value} {r : Nat} (code : Go.BoundsCode), m ≤ m' → RelO N.fn w S μ H o (some y) → bound m d o = some r → (Go.Instr.sliceBound y m' code).run P w = .ok r w := by
    intro m m' d o y r code hm hr hb
    unfold bound at hb
    split at hb
    · exact hr.elim
    · simp only [Option.ite_none_right_eq_some, Option.some.injEq] at hb
      obtain ⟨⟨h0, h1⟩, rfl⟩ := hb
      rw [RelV.int_inv hr]
      have h2 : (‹Int› : Int) ≤ m' := by omega
      simp [Go.Instr.sliceBound, Go.asIntOf, h0, h2]
    · cases hb
  have hle : h ≤ n := by
    cases hi with
    | none => exact Nat.le_of_eq ((bnd h1).1 rfl)
    | some x => exact (bnd h1).2 (by simp)
  have lle : l ≤ h := by
    cases lo with
    | none => rw [(bnd h2).1 rfl]; exact Nat.zero_le _
    | some x => exact (bnd h2).2 (by simp)
  refine ⟨?_, lle, hle⟩
  have e1 : ∀ y, hi' = some y → (Go.Instr.sliceBound y cap (if sl = true then .sliceAcap else .sliceAlen)).run P w = .ok h w := fun y hy => by subst hy; exact key _ hc hhi h1
  have e2 : ∀ y, lo' = some y → (Go.Instr.sliceBound y h .sliceB).run P w = .ok l w := fun y hy => by subst hy; exact key _ (Nat.le_refl _) hlo h2
  have e3 : hi' = none → h = n := by
    rintro rfl
    cases hi with
    | none => exact (bnd h1).1 rfl
    | some x => exact hhi.elim
  have e4 : lo' = none → l = 0 := by
    rintro rfl
    cases lo with
    | none => exact (bnd h2).1 rfl
    | some x => exact hlo.elim
  cases hi' with
  | none =>
    have := e3 rfl
    subst this
    cases lo' with
    | none => have := e4 rfl; subst this; simp [Go.Instr.sliceBounds]
    | some y => simp [Go.Instr.sliceBounds, e2 y rfl]
  | some z =>
    cases lo' with
    | none => have := e4 rfl; subst this; simp [Go.Instr.sliceBounds, e1 z rfl]
    | some y => simp [Go.Instr.sliceBounds, e1 z rfl, e2 y rfl]

theorem mk_extract (s : List UInt8) (l h : Nat) : (ByteArray.mk s.toArray).extract l h = ⟨((s.take h).drop l).toArray⟩ := by
  apply ByteArray.ext
  simp [ByteArray.data_extract, List.extract_eq_take_drop, List.drop_take]

theorem q_sliceS {T : TypeId} {x : Value} {x' v : AV} {lo hi : Option AV} {lo' hi' : Option Value} (hT : strT P T = true) (hx : RelV N.fn w S μ H x' x) (hlo : RelO N.fn w S μ H lo lo') (hhi : RelO N.fn w S μ H hi hi')
    (hv : sliceSA x' lo hi = some v) : ∃ u, (Go.Instr.sliceAt T x lo' hi' none).run P w = .ok u w ∧ RelV N.fn w S μ H v u := by
  unfold sliceSA at hv
  split at hv
  · rename_i s
    obtain ⟨h, h1, hv⟩ := Option.bind_eq_some_iff.1 hv
    obtain ⟨l, h2, rfl⟩ := Option.map_eq_some_iff.1 hv
    obtain ⟨h3, h4, h5⟩ := run_sliceBounds (P := P) (sl := false) (cap := s.length) hlo hhi (Nat.le_refl _) h1 h2
    rw [hx.str_inv]
    refine ⟨.string ⟨((s.take h).drop l).toArray⟩, ?_, .p _ _ (.str _)⟩
    simp [Go.Instr.sliceAt, Go.Instr.slice, Go.run_underlying (strT_spec hT), size_mk, h3, mk_extract]
  · cases hv

/-- A piece of a slice that is a tree. -/
theorem RelP.piece {xs : List PV} {k : SK} {sz cap l h : Nat} {a0 : Option Addr} (hx : RelP N.fn w S (.sl k sz xs) (.slice a0 xs.length cap)) (h4 : l ≤ h) (h5 : h ≤ xs.length) :
    RelP N.fn w S (.sl k.cut sz ((xs.take h).drop l)) (.slice (if cap = l then a0 else a0.map (·.add (l * sz))) (h - l) (cap - l)) := by
  generalize hv : Value.slice a0 xs.length cap = v0 at hx
  cases hx with
  | sl _ _ _ a1 cap1 us h1 h2 h3 hn4 hn5 h6 h7 h8 =>
  cases hv
  have el : ((xs.take h).drop l).length = h - l := by simp; omega
  have get : ∀ i x, ((xs.take h).drop l)[i]? = some x → xs[l + i]? = some x ∧ l + i < h := by
    intro i x hx
    rw [List.getElem?_drop] at hx
    obtain ⟨a, b⟩ := take_get hx
    exact ⟨b, a⟩
  rw [← el]
  refine .sl _ _ _ _ _ (fun i j => us (l + i) j) (by omega) (by omega) (fun x hx => h3 x (List.mem_of_mem_take (List.mem_of_mem_drop hx)))
    (fun hk => by
      have hk' : k = .nil := by cases k <;> simp [SK.cut] at hk ⊢
      obtain ⟨g1, g2, g3⟩ := hn4 hk'
      subst g1 g2 g3
      simp)
    (fun hk => by
      have hk' : k = .tight ∨ k = .mem := by cases k <;> simp [SK.cut] at hk ⊢
      refine ⟨?_, fun hk => by cases k <;> simp [SK.cut] at hk⟩
      have := (hn5 hk').1
      split
      · exact this
      · simpa using this) (fun hne => ?_) (fun ad had i x j c hx hc => ?_) (fun i x j c hx hc => h8 _ _ _ _ (get i x hx).1 hc)
  · have hlt : l < h := by
      rcases Nat.lt_or_ge l h with h | h
      · exact h
      · exfalso; apply hne; apply List.eq_nil_of_length_eq_zero; omega
    obtain ⟨ad, rfl, hS⟩ := h6 (by rintro rfl; simp at h5; omega)
    rw [if_neg (by omega)]
    exact ⟨_, rfl, by rw [block_add]; exact hS⟩
  · obtain ⟨hx1, hx2⟩ := get i x hx
    have hlen : l + i < xs.length := (List.getElem?_eq_some_iff.1 hx1).1
    obtain ⟨ad0, rfl, _⟩ := h6 (by rintro rfl; simp at hlen)
    rw [if_neg (by omega)] at had
    simp only [Option.map_some, Option.some.injEq] at had
    subst had
    rw [add_add, ← Nat.add_assoc, ← Nat.add_mul]
    exact h7 ad0 rfl _ _ _ _ hx1 hc

theorem q_slice {T e : TypeId} {sz : Nat} {x : Value} {x' v : AV} {lo hi : Option AV} {lo' hi' : Option Value} (hT : slT P T = some e) (hs : (P.info? e).map (·.size) = some sz)
    (hx : RelV N.fn w S μ H x' x) (hlo : RelO N.fn w S μ H lo lo') (hhi : RelO N.fn w S μ H hi hi') (hv : sliceA sz x' lo hi = some v) :
    ∃ u, (Go.Instr.sliceAt T x lo' hi' none).run P w = .ok u w ∧ RelV N.fn w S μ H v u := by
  unfold sliceA at hv
  split at hv
  · rename_i k sz' xs
    simp only [Option.ite_none_right_eq_some] at hv
    obtain ⟨rfl, hv⟩ := hv
    obtain ⟨h, h1, hv⟩ := Option.bind_eq_some_iff.1 hv
    obtain ⟨l, h2, rfl⟩ := Option.map_eq_some_iff.1 hv
    have hx := hx.p_inv
    have hx2 := hx
    cases hx with
    | sl _ _ _ a0 cap us k1 k2 _ _ _ _ _ _ =>
    obtain ⟨h3, h4, h5⟩ := run_sliceBounds (P := P) (sl := true) (cap := cap) hlo hhi k1 h1 h2
    refine ⟨_, ?_, .p _ _ (hx2.piece h4 h5)⟩
    simp [Go.Instr.sliceAt, Go.Instr.slice, Go.run_underlying (slT_spec hT), h3, run_sizeOf hs]
  · cases hv

theorem q_ext {x : Value} {x' v : AV} {i : Nat} (hx : RelV N.fn w S μ H x' x) (hv : extA i x' = some v) : ∃ u, (Go.Instr.extract x i).run P w = .ok u w ∧ RelV N.fn w S μ H v u := by
  unfold extA at hv
  split at hv
  · cases hx with
    | tup _ us h1 h2 =>
    have hlt : i < us.size := by rw [h1]; exact (List.getElem?_eq_some_iff.1 hv).1
    exact ⟨us.getD i undef, by simp [Go.Instr.extract, hlt], h2 _ _ hv⟩
  · cases hv
end
end Ab
