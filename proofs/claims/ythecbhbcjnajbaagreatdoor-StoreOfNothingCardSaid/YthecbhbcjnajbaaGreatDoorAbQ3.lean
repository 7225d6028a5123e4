import Derived.Test.YthecbhbcjnajbaaGreatDoorAbQ
import Derived.Laws.BytesArg
namespace Ab
open Go (IntKind BinOp UnOp World Value Addr Obj undef maxLen Program TypeId Oper Op Operand Act Sem Next Result execOp Builtin)
section
variable {Γ : Ctx} {N : Names} {P : Program} {w : World} {S : Nat → Prop} {μ : Nat → Value} {H : Heap} {σ : Nat → AV} {a : Act}
theorem q_bin {op : BinOp} {T : TypeId} {x y : Operand} {x' y' v : AV} (hx : RelV N.fn w S μ H x' (a.eval x)) (hy : RelV N.fn w S μ H y' (a.eval y)) (hv : binAV op x' y' = some v) :
  ∃ u,(do Go.eqGuard op T x y (a.eval x) (a.eval y); Go.binOp op T (a.eval x) (a.eval y)).run P w = .ok u w ∧ RelV N.fn w S μ H v u := by
 unfold binAV at hv
 split at hv
 ·obtain ⟨r,hr,rfl⟩ := Option.map_eq_some_iff.1 hv
  unfold binPV at hr
  split at hr
  ·split at hr
   ·rename_i hk
    rw [hx.int_inv,hy.int_inv]
    obtain ⟨u,h1,h2⟩ := run_binInt (P := P) (w := w) (N := N) (S := S) (T := T) hk hr
    refine ⟨u,?_,.p _ _ h2⟩
    have e : ∀ k k' m n,(Go.eqGuard op T x y (Value.int k m) (Value.int k' n)).run P w = .ok () w := by intro k k' m n; cases op <;> simp [Go.eqGuard]
    simp only [Go.Sem.run_bind,e,Go.Result.andThen_ok]
    exact h1
   ·cases hr
  ·rw [hx.str_inv,hy.str_inv]
   obtain ⟨u,h1,h2⟩ := run_binStr (P := P) (w := w) (N := N) (S := S) (T := T) hr
   refine ⟨u,?_,.p _ _ h2⟩
   have e : ∀ s t,(Go.eqGuard op T x y (Value.string s) (Value.string t)).run P w = .ok () w := by intro s t; cases op <;> simp [Go.eqGuard]
   simp only [Go.Sem.run_bind,e,Go.Result.andThen_ok]
   exact h1
  ·cases hr
 ·cases hv
theorem q_un {op : UnOp} {x : Value} {x' v : AV} (hx : RelV N.fn w S μ H x' x) (hv : unA op x' = some v) : ∃ u,(Go.Op.unary op x).run P w = .ok u w ∧ RelV N.fn w S μ H v u := by
 unfold unA at hv
 split at hv
 ·obtain ⟨r,hr,rfl⟩ := Option.map_eq_some_iff.1 hv
  unfold unPV at hr
  split at hr
  ·simp only [Option.some.injEq] at hr; subst hr
   rw [hx.int_inv]
   exact ⟨_,by simp [Go.Op.unary,Go.Op.intArith]; rfl,.p _ _ (by simpa using RelP.int _ _)⟩
  ·simp only [Option.some.injEq] at hr; subst hr
   rw [hx.int_inv]
   exact ⟨_,by simp [Go.Op.unary,Go.Op.intBits],.p _ _ (.int _ _)⟩
  ·simp only [Option.some.injEq] at hr; subst hr
   rw [hx.bool_inv]
   exact ⟨_,by simp [Go.Op.unary],.p _ _ (.bool _)⟩
  ·cases hr
 ·cases hv
def intT (P : Program) (T : TypeId) : Option IntKind := match P.underlying T with | some (.int k) => some k | _ => none
def strT (P : Program) (T : TypeId) : Bool := match P.underlying T with | some .string => true | _ => false
def slT (P : Program) (T : TypeId) : Option TypeId := match P.underlying T with | some (.slice e) => some e | _ => none
theorem intT_spec {T k} (h : intT P T = some k) : P.underlying T = some (.int k) := by
 unfold intT at h; split at h
 ·simp only [Option.some.injEq] at h; subst h; assumption
 ·cases h
theorem strT_spec {T} (h : strT P T = true) : P.underlying T = some .string := by
 unfold strT at h; split at h
 ·assumption
 ·cases h
theorem slT_spec {T e} (h : slT P T = some e) : P.underlying T = some (.slice e) := by
 unfold slT at h; split at h
 ·simp only [Option.some.injEq] at h; subst h; assumption
 ·cases h
theorem q_runeStr {s d : TypeId} {k0 : IntKind} {x : Value} {x' v : AV} (hs : intT P s = some k0) (hd : strT P d = true) (hx : RelV N.fn w S μ H x' x) (hv : runeStrA x' = some v) :
  ∃ u,(Go.convert s d x).run P w = .ok u w ∧ RelV N.fn w S μ H v u := by
 unfold runeStrA at hv
 split at hv
 ·simp only [Option.some.injEq] at hv; subst hv
  rw [hx.int_inv]
  exact ⟨.string (Go.Utf8.encode _),by simp [Go.convert,Go.run_underlying (intT_spec hs),Go.run_underlying (strT_spec hd),Go.Conv.intToString],.p _ _ (.str _)⟩
 ·cases hv
theorem q_conv {s d : TypeId} {k k0 : IntKind} {x : Value} {x' v : AV} (hs : intT P s = some k0) (hd : intT P d = some k) (hx : RelV N.fn w S μ H x' x) (hv : convA k x' = some v) :
  ∃ u,(Go.convert s d x).run P w = .ok u w ∧ RelV N.fn w S μ H v u := by
 unfold convA at hv
 split at hv
 ·simp only [Option.some.injEq] at hv; subst hv
  rw [hx.int_inv]
  exact ⟨_,by simp [Go.convert,Go.run_underlying (intT_spec hs),Go.run_underlying (intT_spec hd),Go.Conv.intToInt],.p _ _ (.int _ _)⟩
 ·cases hv
theorem q_same {s d : TypeId} {x : Value} {x' v : AV} (hs : strT P s = true) (hd : strT P d = true) (hx : RelV N.fn w S μ H x' x) (hv : sameA x' = some v) :
  ∃ u,(Go.convert s d x).run P w = .ok u w ∧ RelV N.fn w S μ H v u := by
 unfold sameA at hv
 split at hv
 ·simp only [Option.some.injEq] at hv; subst hv
  rw [hx.str_inv]
  exact ⟨_,by simp [Go.convert,Go.run_underlying (strT_spec hs),Go.run_underlying (strT_spec hd)],.p _ _ (.str _)⟩
 ·cases hv
theorem RelV.own_inv {ν id n u r} (h : RelV ν w S μ H (.own id n) u) (hr : rowOf H id n = some r) : u = μ id := by
 obtain ⟨f,h1,h2⟩ := rowOf_spec hr
 cases h with | own _ _ _ _ h _ => exact (h f _ _ h1).2 h2.symm
theorem q_len {T : TypeId} {x : Value} {x' : AV} {n : Nat} {t0 : TypeId} {s : Bool} (hr : Rel N.fn w S μ H) (hT : if s then strT P T = true else (slT P T).isSome = true) (hx : RelV N.fn w S μ H x' x)
  (hv : asLen H s x' = some n) : (Go.Builtin.len_ #[T] t0 #[x]).run P w = .ok (.int .i64 n) w := by
 unfold asLen at hv
 split at hv
 ·simp only [Option.some.injEq] at hv; subst hv
  rw [hx.str_inv]
  simp only [if_true] at hT
  simp [Go.Builtin.len_,Go.run_underlying (strT_spec hT),Go.goInt,size_mk]
 ·simp only [Option.some.injEq] at hv; subst hv
  simp only [Bool.false_eq_true,if_false] at hT
  obtain ⟨e,he⟩ := Option.isSome_iff_exists.1 hT
  have e1 := hx.p_inv
  cases e1
  simp [Go.Builtin.len_,Go.run_underlying (slT_spec he),Go.goInt]
 ·rename_i id m
  obtain ⟨r,hb,he⟩ := Option.map_eq_some_iff.1 hv
  subst he
  simp only [Bool.false_eq_true,if_false] at hT
  obtain ⟨e,he⟩ := Option.isSome_iff_exists.1 hT
  rw [hx.own_inv hb]
  obtain ⟨f,h1,h2⟩ := rowOf_spec hb
  obtain ⟨_,_,us,h3,_⟩ := hr.blk id _ h1
  obtain ⟨_,h3⟩ := h3
  rw [h2] at h3
  rcases h3 with ⟨rfl,a0,h4⟩ | ⟨g,cap,cur,e',h4,_⟩ <;> rw [h4] <;> simp [Go.Builtin.len_,Go.run_underlying (slT_spec he),Go.goInt]
 ·cases hv
theorem q_idx {T : TypeId} {x i : Value} {x' i' v : AV} (hT : strT P T = true) (hx : RelV N.fn w S μ H x' x) (hi : RelV N.fn w S μ H i' i) (hv : idxA x' i' = some v) :
  ∃ u,(Go.Instr.index T x i).run P w = .ok u w ∧ RelV N.fn w S μ H v u := by
 unfold idxA at hv
 split at hv
 ·split at hv
  ·rename_i s k i hi0
   obtain ⟨b,hb,rfl⟩ := Option.map_eq_some_iff.1 hv
   rw [hx.str_inv,hi.int_inv]
   have hlt : i.toNat < s.length := (List.getElem?_eq_some_iff.1 hb).1
   have e : (ByteArray.mk s.toArray)[i.toNat]? = some b := by
    rw [getElem?_pos _ _ (by rw [size_mk]; exact hlt)]
    have : s[i.toNat] = b := (List.getElem?_eq_some_iff.1 hb).2
    rw [← this]
    rfl
   exact ⟨_,by simp [Go.Instr.index,Go.asIntOf,Go.run_underlying (strT_spec hT),hi0,e],.p _ _ (.int _ _)⟩
  ·cases hv
 ·cases hv
theorem list_getD {α : Type} {l : List α} {j : Nat} {d : α} : l.toArray.getD j d = l.getD j d := by
 simp [List.getD]
theorem extract_getD {us : Array Value} {i j n : Nat} (hj : j < n) (h : i + n ≤ us.size) : (us.extract i (i + n)).getD j undef = us.getD (i + j) undef := by
 have h1 : j < (us.extract i (i + n)).size := by simp; omega
 rw [Array.getD_eq_getD_getElem?,Array.getD_eq_getD_getElem?,Array.getElem?_extract]
 rw [if_pos (by omega)]
theorem part_takeP {T : TypeId} {sz off : Nat} {ag : Bool} {cs : List PV} {us : Array Value} {v : AV} (ht : aggB P T = some ag) (hs : (P.info? T).map (·.size) = some sz)
  (h1 : us.size = cs.length) (h2 : ∀ c ∈ cs,c.one = true) (h3 : ∀ j c,cs[j]? = some c → RelP N.fn w S c (us.getD j undef)) (hv : takeP sz ag (cs.drop off) = some v) :
  ∃ u,(Go.part T us off).run P w = .ok u w ∧ RelV N.fn w S μ H v u := by
 unfold takeP at hv
 cases ag
 ·simp only [Bool.false_eq_true,if_false,Option.map_eq_some_iff] at hv
  obtain ⟨c,hc,rfl⟩ := hv
  rw [List.head?_drop] at hc
  have hlt : off < us.size := by rw [h1]; exact (List.getElem?_eq_some_iff.1 hc).1
  exact ⟨_,run_part_one ht hlt,.p _ _ (h3 _ _ hc)⟩
 ·simp only [if_true] at hv
  split at hv
  ·rename_i hl
   simp only [Option.some.injEq] at hv
   subst hv
   rw [List.length_drop] at hl
   refine ⟨_,run_part_agg ht hs,.p _ _ (.agg _ _ ?_ (fun c hc => h2 c (List.mem_of_mem_drop (List.mem_of_mem_take hc))) (fun j c hc => ?_))⟩
   ·simp only [Array.size_extract,List.length_take,List.length_drop]
    omega
   ·obtain ⟨hj,hc'⟩ := take_get hc
    rw [List.getElem?_drop] at hc'
    by_cases hle : off + sz ≤ us.size
    ·rw [extract_getD hj hle]; exact h3 _ _ hc'
    ·have : off + j < us.size := by rw [h1]; exact (List.getElem?_eq_some_iff.1 hc').1
     omega
  ·cases hv
theorem part_takeA {T : TypeId} {sz off : Nat} {ag : Bool} {cs : List AV} {us : Array Value} {v : AV} (ht : aggB P T = some ag) (hs : (P.info? T).map (·.size) = some sz)
  (h1 : us.size = cs.length) (h2 : ∀ c ∈ cs,c.one = true) (h3 : ∀ j c,cs[j]? = some c → RelV N.fn w S μ H c (us.getD j undef)) (hv : takeA sz ag (cs.drop off) = some v) :
  ∃ u,(Go.part T us off).run P w = .ok u w ∧ RelV N.fn w S μ H v u := by
 unfold takeA at hv
 cases ag
 ·simp only [Bool.false_eq_true,if_false] at hv
  rw [List.head?_drop] at hv
  have hlt : off < us.size := by rw [h1]; exact (List.getElem?_eq_some_iff.1 hv).1
  exact ⟨_,run_part_one ht hlt,h3 _ _ hv⟩
 ·simp only [if_true] at hv
  split at hv
  ·rename_i hl
   simp only [Option.some.injEq] at hv
   subst hv
   rw [List.length_drop] at hl
   refine ⟨_,run_part_agg ht hs,RelV.mkAgg ?_ (fun c hc => h2 c (List.mem_of_mem_drop (List.mem_of_mem_take hc))) (fun j c hc => ?_)⟩
   ·simp only [Array.size_extract,List.length_take,List.length_drop]
    omega
   ·obtain ⟨hj,hc'⟩ := take_get hc
    rw [List.getElem?_drop] at hc'
    by_cases hle : off + sz ≤ us.size
    ·rw [extract_getD hj hle]; exact h3 _ _ hc'
    ·have : off + j < us.size := by rw [h1]; exact (List.getElem?_eq_some_iff.1 hc').1
     omega
  ·cases hv
def arrT (P : Program) (T : TypeId) : Option (Nat × TypeId) := match P.underlying T with | some (.array n e) => some (n,e) | _ => none
theorem arrT_spec {T n e} (h : arrT P T = some (n,e)) : P.underlying T = some (.array n e) := by
 unfold arrT at h; split at h
 ·simp only [Option.some.injEq,Prod.mk.injEq] at h; obtain ⟨rfl,rfl⟩ := h; assumption
 ·cases h
theorem run_sizeOf {T sz} (hs : (P.info? T).map (·.size) = some sz) : (Go.sizeOf T).run P w = .ok sz w := by
 obtain ⟨i,hi,hsz⟩ := Option.map_eq_some_iff.1 hs
 simp [Go.sizeOf,Go.typeInfo,hi,hsz]
theorem q_aidx {T e : TypeId} {sz n : Nat} {ag : Bool} {x i : Value} {x' i' v : AV} (hT : arrT P T = some (n,e)) (ht : aggB P e = some ag) (hs : (P.info? e).map (·.size) = some sz)
  (hx : RelV N.fn w S μ H x' x) (hi : RelV N.fn w S μ H i' i) (hv : aidxA sz ag n x' i' = some v) :
  ∃ u,(Go.Instr.index T x i).run P w = .ok u w ∧ RelV N.fn w S μ H v u := by
 unfold aidxA at hv
 split at hv
 ·rename_i cs k i
  split at hv
  ·rename_i hc
   obtain ⟨hi0,hin,hlen⟩ := hc
   rw [hi.int_inv]
   cases hx with
   | p _ _ hx => cases hx with
    | agg _ us h1 h2 h3 =>
    obtain ⟨u,h4,h5⟩ := part_takeP (P := P) (N := N) (w := w) (S := S) (μ := μ) (H := H) ht hs h1 h2 h3 hv
    refine ⟨u,?_,h5⟩
    simp [Go.Instr.index,Go.asIntOf,Go.run_underlying (arrT_spec hT),hi0,hin,run_sizeOf hs,h4]
  ·cases hv
 ·cases hv
def fieldsT (P : Program) (T : TypeId) : Option (Array Go.Field) := match P.underlying T with | some (.struct fs) => some fs | _ => none
theorem fieldsT_spec {T fs} (h : fieldsT P T = some fs) : P.underlying T = some (.struct fs) := by
 unfold fieldsT at h; split at h
 ·simp only [Option.some.injEq] at h; subst h; assumption
 ·cases h
theorem q_fld {T : TypeId} {fs : Array Go.Field} {f : Go.Field} {k off sz : Nat} {ag : Bool} {x : Value} {x' v : AV} (hT : fieldsT P T = some fs) (hf : fs[k]? = some f) (ho : f.offset = off)
  (ht : aggB P f.type = some ag) (hs : (P.info? f.type).map (·.size) = some sz) (hx : RelV N.fn w S μ H x' x) (hv : fldA off sz ag x' = some v) :
  ∃ u,(Go.Instr.field T x k).run P w = .ok u w ∧ RelV N.fn w S μ H v u := by
 subst ho
 unfold fldA at hv
 split at hv
 ·cases hx with
  | p _ _ hx => cases hx with
   | agg _ us h1 h2 h3 =>
   obtain ⟨u,h4,h5⟩ := part_takeP (P := P) (N := N) (w := w) (S := S) (μ := μ) (H := H) ht hs h1 h2 h3 hv
   exact ⟨u,by simp [Go.Instr.field,Go.run_underlying (fieldsT_spec hT),hf,Go.asAgg,h4],h5⟩
 ·cases hx with
  | agg _ us h1 h2 h3 =>
  obtain ⟨u,h4,h5⟩ := part_takeA (P := P) (N := N) (w := w) (S := S) (μ := μ) (H := H) ht hs h1 h2 h3 hv
  exact ⟨u,by simp [Go.Instr.field,Go.run_underlying (fieldsT_spec hT),hf,Go.asAgg,h4],h5⟩
 ·cases hv
theorem add_drop_ptr {ad : Addr} {cs : List PV} {us : Nat → Value} {off : Nat} (h0 : off < cs.length) (h1 : S ad.block) (h2 : ∀ c ∈ cs,c.one = true) (h3 : ∀ j c,cs[j]? = some c → w.cell? (ad.add j) = some (us j))
  (h4 : ∀ j c,cs[j]? = some c → RelP N.fn w S c (us j)) : RelP N.fn w S (.ptr (cs.drop off)) (.pointer (some (ad.add off))) := by
 refine .ptr _ _ (fun j => us (off + j)) (fun e => ?_) (by rw [block_add]; exact h1) (fun c hc => h2 c (List.mem_of_mem_drop hc)) (fun j c hc => ?_) (fun j c hc => ?_)
 ·rw [List.drop_eq_nil_iff] at e; omega
 ·rw [List.getElem?_drop] at hc; rw [add_add]; exact h3 _ _ hc
 ·rw [List.getElem?_drop] at hc; exact h4 _ _ hc
theorem q_faddr {T : TypeId} {fs : Array Go.Field} {f : Go.Field} {k off : Nat} {x : Value} {x' v : AV} (hT : fieldsT P T = some fs) (hf : fs[k]? = some f) (ho : f.offset = off)
  (hs : (P.info? f.type).any (·.size != 0) = true) (hx : RelV N.fn w S μ H x' x) (hv : faddrA H off x' = some v) :
  ∃ u,(Go.Instr.fieldAt T x k).run P w = .ok u w ∧ RelV N.fn w S μ H v u := by
 subst ho
 obtain ⟨i,hi,hsz⟩ : ∃ i,P.info? f.type = some i ∧ ¬ i.size = 0 := by
  cases h : P.info? f.type with
  | none => simp [h] at hs
  | some i => simp [h] at hs; exact ⟨i,rfl,hs⟩
 have key : ∀ ad : Addr,(Go.Instr.fieldAt T (.pointer (some ad)) k).run P w = .ok (.pointer (some (ad.add f.offset))) w := by
  intro ad
  simp [Go.Instr.fieldAt,Go.run_underlying (fieldsT_spec hT),hf,Go.Instr.sureAddr,Go.fieldPlace,Go.sizeOf,Go.typeInfo,hi,hsz]
 unfold faddrA at hv
 split at hv
 ·split at hv
  ·rename_i hl
   simp only [Option.some.injEq] at hv; subst hv
   cases hx with
   | p _ _ hx => cases hx with
    | ptr cells ad us h0 h1 h2 h3 h4 => exact ⟨_,key ad,.p _ _ (add_drop_ptr hl h1 h2 h3 h4)⟩
  ·cases hv
 ·simp only [Option.some.injEq] at hv; subst hv
  obtain ⟨g,rfl,hl,hg⟩ := hx.bx_inv
  exact ⟨_,key _,.bx _ _ g _ hl hg (by rw [Addr.add_lit])⟩
 ·rename_i id n i o
  unfold ifB at hv
  split at hv
  ·rename_i hok
   simp only [Option.some.injEq] at hv; subst hv
   obtain ⟨f',sz,xs,g,cap,h1,h2,h3,h4,rfl⟩ := hx.el_inv hok
   refine ⟨_,key _,.el _ _ _ _ _ (List.getElem?_eq_some_iff.1 h1).1 (fun f2 sz2 xs2 e => ?_) rfl⟩
   rw [h1] at e; cases e
   exact ⟨Nat.le_of_eq h2.symm,fun _ => ⟨fun _ => ⟨g,cap,h4,by rw [Addr.add_lit,Nat.add_assoc]⟩,fun hh => by omega⟩⟩
  ·cases hv
 ·cases hv
theorem q_iaddr {T e : TypeId} {sz : Nat} {x i : Value} {x' i' v : AV} (h0sz : 0 < sz) (hr : Rel N.fn w S μ H) (hT : slT P T = some e) (hs : (P.info? e).map (·.size) = some sz)
  (hx : RelV N.fn w S μ H x' x) (hi : RelV N.fn w S μ H i' i) (hv : iaddrA H sz x' i' = some v) :
  ∃ u,(Go.Instr.indexAt T x i).run P w = .ok u w ∧ RelV N.fn w S μ H v u := by
 have key : ∀ (ad : Addr) (n cap : Nat) (k : IntKind) (i : Int),0 ≤ i → i < n → (Go.Instr.indexAt T (.slice (some ad) n cap) (.int k i)).run P w = .ok (.pointer (some (ad.add (i.toNat * sz)))) w := by
  intro ad n cap k i h0 h1
  simp [Go.Instr.indexAt,Go.asIntOf,Go.run_underlying (slT_spec hT),h0,h1,run_sizeOf hs]
 unfold iaddrA at hv
 split at hv
 ·rename_i k sz' xs k i
  split at hv
  ·rename_i hc
   obtain ⟨rfl,h0⟩ := hc
   obtain ⟨y,hy,rfl⟩ := Option.map_eq_some_iff.1 hv
   rw [hi.int_inv]
   have hlt := (List.getElem?_eq_some_iff.1 hy).1
   cases hx with
   | p _ _ hx => cases hx with
    | sl _ _ _ a cap us h1 h2 h3 h4 h5 h6 h7 h8 =>
    obtain ⟨ad,rfl,hS⟩ := h6 (by rintro rfl; simp at hlt)
    refine ⟨_,key ad _ cap k i h0 (by omega),.p _ _ ?_⟩
    have hm := h3 y (List.mem_of_getElem? hy)
    refine .ptr _ _ (fun j => us i.toNat j) ?_ (by rw [block_add]; exact hS) hm.2 (fun j c hc => ?_) (fun j c hc => h8 _ _ _ _ hy hc)
    ·intro e; have := hm.1; rw [e] at this; simp at this; omega
    ·rw [add_add]; exact h7 ad rfl _ _ _ _ hy hc
  ·cases hv
 ·rename_i id n k i
  obtain ⟨⟨sz',xs⟩,hb,hv⟩ := Option.bind_eq_some_iff.1 hv
  simp only [Option.ite_none_right_eq_some,Option.some.injEq] at hv
  obtain ⟨⟨rfl,h0,h1⟩,rfl⟩ := hv
  have hu := hx.own_inv hb
  obtain ⟨f,h2,h3⟩ := rowOf_spec hb
  obtain ⟨_,_,us,h4,_⟩ := hr.blk id _ h2
  obtain ⟨_,h5⟩ := h4
  rw [h3] at h5
  rw [hi.int_inv,hu]
  rcases h5 with ⟨rfl,_⟩ | ⟨g,cap,cur,e',h6,_⟩
  ·omega
  ·rw [h6]
   refine ⟨_,key _ _ _ _ _ h0 h1,.el _ _ _ _ _ (List.getElem?_eq_some_iff.1 h2).1 (fun f2 sz2 xs2 e => ?_) rfl⟩
   rw [h2] at e; cases e
   exact ⟨Nat.le_of_eq h3.symm,fun _ => ⟨fun _ => ⟨g,cap,h6,by rw [Addr.add_lit]; simp⟩,fun hh => by omega⟩⟩
 ·cases hv
theorem q_iaddrA {T e : TypeId} {sz n : Nat} {x i : Value} {x' i' v : AV} (hT : arrT P T = some (n,e)) (hs : (P.info? e).map (·.size) = some sz)
  (hx : RelV N.fn w S μ H x' x) (hi : RelV N.fn w S μ H i' i) (hv : iaddrAA sz n x' i' = some v) :
  ∃ u,(Go.Instr.indexAt T x i).run P w = .ok u w ∧ RelV N.fn w S μ H v u := by
 have key : ∀ (ad : Addr) (k : IntKind) (i : Int),0 ≤ i → i < n → (Go.Instr.indexAt T (.pointer (some ad)) (.int k i)).run P w = .ok (.pointer (some (ad.add (i.toNat * sz)))) w := by
  intro ad k i h0 h1
  simp [Go.Instr.indexAt,Go.asIntOf,Go.Instr.sureAddr,Go.run_underlying (arrT_spec hT),h0,h1,run_sizeOf hs]
 unfold iaddrAA at hv
 split at hv
 ·simp only [Option.ite_none_right_eq_some,Option.some.injEq] at hv
  obtain ⟨⟨h0,h1,h2⟩,rfl⟩ := hv
  rw [hi.int_inv]
  cases hx with
  | p _ _ hx => cases hx with
   | ptr cells ad us _ k1 k2 k3 k4 => exact ⟨_,key ad _ _ h0 h1,.p _ _ (add_drop_ptr h2 k1 k2 k3 k4)⟩
 ·simp only [Option.ite_none_right_eq_some,Option.some.injEq] at hv
  obtain ⟨⟨h0,h1⟩,rfl⟩ := hv
  rw [hi.int_inv]
  obtain ⟨g,rfl,hl,hg⟩ := hx.bx_inv
  exact ⟨_,key _ _ _ h0 h1,.bx _ _ g _ hl hg (by rw [Addr.add_lit])⟩
 ·cases hv
def RelO (ν : Nat → Nat) (w : World) (S : Nat → Prop) (μ : Nat → Value) (H : Heap) (o : Option AV) (u : Option Value) : Prop :=
 match o,u with | none,none => True | some x,some y => RelV ν w S μ H x y | _,_ => False
theorem run_sliceBounds {sl : Bool} {n cap l h : Nat} {lo hi : Option AV} {lo' hi' : Option Value} (hlo : RelO N.fn w S μ H lo lo') (hhi : RelO N.fn w S μ H hi hi') (hc : n ≤ cap)
  (h1 : bound n n hi = some h) (h2 : bound h 0 lo = some l) : (Go.Instr.sliceBounds sl n cap lo' hi' none).run P w = .ok (l,h,cap) w ∧ l ≤ h ∧ h ≤ n := by
 have bnd : ∀ {m d : Nat} {o : Option AV} {r : Nat},bound m d o = some r → (o = none → r = d) ∧ (o ≠ none → r ≤ m) := by
  intro m d o r hb
  unfold bound at hb
  split at hb
  ·exact ⟨fun _ => by simpa using hb.symm,fun h => by simp at h⟩
  ·simp only [Option.ite_none_right_eq_some,Option.some.injEq] at hb
   obtain ⟨⟨h0,h1⟩,rfl⟩ := hb
   exact ⟨fun h => by simp at h,fun _ => by omega⟩
  ·cases hb
 have key : ∀ {m m' d : Nat} {o : Option AV} {y : Value} {r : Nat} (code : Go.BoundsCode),m ≤ m' → RelO N.fn w S μ H o (some y) → bound m d o = some r → (Go.Instr.sliceBound y m' code).run P w = .ok r w := by
  intro m m' d o y r code hm hr hb
  unfold bound at hb
  split at hb
  ·exact hr.elim
  ·simp only [Option.ite_none_right_eq_some,Option.some.injEq] at hb
   obtain ⟨⟨h0,h1⟩,rfl⟩ := hb
   rw [RelV.int_inv hr]
   have h2 : (‹Int› : Int) ≤ m' := by omega
   simp [Go.Instr.sliceBound,Go.asIntOf,h0,h2]
  ·cases hb
 have hle : h ≤ n := by
  cases hi with
  | none => exact Nat.le_of_eq ((bnd h1).1 rfl)
  | some x => exact (bnd h1).2 (by simp)
 have lle : l ≤ h := by
  cases lo with
  | none => rw [(bnd h2).1 rfl]; exact Nat.zero_le _
  | some x => exact (bnd h2).2 (by simp)
 refine ⟨?_,lle,hle⟩
 have e1 : ∀ y,hi' = some y → (Go.Instr.sliceBound y cap (if sl = true then .sliceAcap else .sliceAlen)).run P w = .ok h w := fun y hy => by subst hy; exact key _ hc hhi h1
 have e2 : ∀ y,lo' = some y → (Go.Instr.sliceBound y h .sliceB).run P w = .ok l w := fun y hy => by subst hy; exact key _ (Nat.le_refl _) hlo h2
 have e3 : hi' = none → h = n := by
  rintro rfl
  cases hi with
  | none => exact (bnd h1).1 rfl
  | some x => exact hhi.elim
 have e4 : lo' = none → l = 0 := by
  rintro rfl
  cases lo with
  | none => exact (bnd h2).1 rfl
  | some x => exact hlo.elim
 cases hi' with
 | none =>
  have := e3 rfl
  subst this
  cases lo' with
  | none => have := e4 rfl; subst this; simp [Go.Instr.sliceBounds]
  | some y => simp [Go.Instr.sliceBounds,e2 y rfl]
 | some z =>
  cases lo' with
  | none => have := e4 rfl; subst this; simp [Go.Instr.sliceBounds,e1 z rfl]
  | some y => simp [Go.Instr.sliceBounds,e1 z rfl,e2 y rfl]
theorem mk_extract (s : List UInt8) (l h : Nat) : (ByteArray.mk s.toArray).extract l h = ⟨((s.take h).drop l).toArray⟩ := by
 apply ByteArray.ext
 simp [ByteArray.data_extract,List.extract_eq_take_drop,List.drop_take]
theorem q_sliceS {T : TypeId} {x : Value} {x' v : AV} {lo hi : Option AV} {lo' hi' : Option Value} (hT : strT P T = true) (hx : RelV N.fn w S μ H x' x) (hlo : RelO N.fn w S μ H lo lo') (hhi : RelO N.fn w S μ H hi hi')
  (hv : sliceSA x' lo hi = some v) : ∃ u,(Go.Instr.sliceAt T x lo' hi' none).run P w = .ok u w ∧ RelV N.fn w S μ H v u := by
 unfold sliceSA at hv
 split at hv
 ·rename_i s
  obtain ⟨h,h1,hv⟩ := Option.bind_eq_some_iff.1 hv
  obtain ⟨l,h2,rfl⟩ := Option.map_eq_some_iff.1 hv
  obtain ⟨h3,h4,h5⟩ := run_sliceBounds (P := P) (sl := false) (cap := s.length) hlo hhi (Nat.le_refl _) h1 h2
  rw [hx.str_inv]
  refine ⟨.string ⟨((s.take h).drop l).toArray⟩,?_,.p _ _ (.str _)⟩
  simp [Go.Instr.sliceAt,Go.Instr.slice,Go.run_underlying (strT_spec hT),size_mk,h3,mk_extract]
 ·cases hv
theorem RelP.piece {xs : List PV} {k : SK} {sz cap l h : Nat} {a0 : Option Addr} (hx : RelP N.fn w S (.sl k sz xs) (.slice a0 xs.length cap)) (h4 : l ≤ h) (h5 : h ≤ xs.length) :
  RelP N.fn w S (.sl k.cut sz ((xs.take h).drop l)) (.slice (if cap = l then a0 else a0.map (·.add (l * sz))) (h - l) (cap - l)) := by
 generalize hv : Value.slice a0 xs.length cap = v0 at hx
 cases hx with
 | sl _ _ _ a1 cap1 us h1 h2 h3 hn4 hn5 h6 h7 h8 =>
 cases hv
 have el : ((xs.take h).drop l).length = h - l := by simp; omega
 have get : ∀ i x,((xs.take h).drop l)[i]? = some x → xs[l + i]? = some x ∧ l + i < h := by
  intro i x hx
  rw [List.getElem?_drop] at hx
  obtain ⟨a,b⟩ := take_get hx
  exact ⟨b,a⟩
 rw [← el]
 refine .sl _ _ _ _ _ (fun i j => us (l + i) j) (by omega) (by omega) (fun x hx => h3 x (List.mem_of_mem_take (List.mem_of_mem_drop hx)))
  (fun hk => by
   have hk' : k = .nil ∨ a0 = none := by
    rcases hk with hk | hk
    ·left; cases k <;> simp [SK.cut] at hk ⊢
    ·right; split at hk
     ·exact hk
     ·simpa using hk
   obtain ⟨g1,g2,g3⟩ := hn4 hk'
   subst g1 g2 g3
   simp)
  (fun hk => by
   have hk' : k = .tight ∨ k = .mem := by cases k <;> simp [SK.cut] at hk ⊢
   refine ⟨?_,fun hk => by cases k <;> simp [SK.cut] at hk⟩
   have := (hn5 hk').1
   split
   ·exact this
   ·simpa using this) (fun hne => ?_) (fun ad had i x j c hx hc => ?_) (fun i x j c hx hc => h8 _ _ _ _ (get i x hx).1 hc)
 ·have hlt : l < h := by
   rcases Nat.lt_or_ge l h with h | h
   ·exact h
   ·exfalso; apply hne; apply List.eq_nil_of_length_eq_zero; omega
  obtain ⟨ad,rfl,hS⟩ := h6 (by rintro rfl; simp at h5; omega)
  rw [if_neg (by omega)]
  exact ⟨_,rfl,by rw [block_add]; exact hS⟩
 ·obtain ⟨hx1,hx2⟩ := get i x hx
  have hlen : l + i < xs.length := (List.getElem?_eq_some_iff.1 hx1).1
  obtain ⟨ad0,rfl,_⟩ := h6 (by rintro rfl; simp at hlen)
  rw [if_neg (by omega)] at had
  simp only [Option.map_some,Option.some.injEq] at had
  subst had
  rw [add_add,← Nat.add_assoc,← Nat.add_mul]
  exact h7 ad0 rfl _ _ _ _ hx1 hc
theorem q_slice {T e : TypeId} {sz : Nat} {x : Value} {x' v : AV} {lo hi : Option AV} {lo' hi' : Option Value} (hT : slT P T = some e) (hs : (P.info? e).map (·.size) = some sz)
  (hx : RelV N.fn w S μ H x' x) (hlo : RelO N.fn w S μ H lo lo') (hhi : RelO N.fn w S μ H hi hi') (hv : sliceA sz x' lo hi = some v) :
  ∃ u,(Go.Instr.sliceAt T x lo' hi' none).run P w = .ok u w ∧ RelV N.fn w S μ H v u := by
 unfold sliceA at hv
 split at hv
 ·rename_i k sz' xs
  simp only [Option.ite_none_right_eq_some] at hv
  obtain ⟨rfl,hv⟩ := hv
  obtain ⟨h,h1,hv⟩ := Option.bind_eq_some_iff.1 hv
  obtain ⟨l,h2,rfl⟩ := Option.map_eq_some_iff.1 hv
  have hx := hx.p_inv
  have hx2 := hx
  cases hx with
  | sl _ _ _ a0 cap us k1 k2 _ _ _ _ _ _ =>
  obtain ⟨h3,h4,h5⟩ := run_sliceBounds (P := P) (sl := true) (cap := cap) hlo hhi k1 h1 h2
  refine ⟨_,?_,.p _ _ (hx2.piece h4 h5)⟩
  simp [Go.Instr.sliceAt,Go.Instr.slice,Go.run_underlying (slT_spec hT),h3,run_sizeOf hs]
 ·cases hv
theorem q_ext {x : Value} {x' v : AV} {i : Nat} (hx : RelV N.fn w S μ H x' x) (hv : extA i x' = some v) : ∃ u,(Go.Instr.extract x i).run P w = .ok u w ∧ RelV N.fn w S μ H v u := by
 unfold extA at hv
 split at hv
 ·cases hx with
  | tup _ us h1 h2 =>
  have hlt : i < us.size := by rw [h1]; exact (List.getElem?_eq_some_iff.1 hv).1
  exact ⟨us.getD i undef,by simp [Go.Instr.extract,hlt],h2 _ _ hv⟩
 ·cases hv
end
end Ab
namespace Ab
def All2 {α β : Type} (R : α → β → Prop) : List α → List β → Prop
 | [],[] => True
 | x :: xs,y :: ys => R x y ∧ All2 R xs ys
 | _,_ => False
theorem All2.imp {α β : Type} {R R' : α → β → Prop} (h : ∀ x y,R x y → R' x y) : ∀ {xs ys},All2 R xs ys → All2 R' xs ys
 | [],[],_ => trivial
 | _ :: _,_ :: _,⟨h1,h2⟩ => ⟨h _ _ h1,All2.imp h h2⟩
 | [],_ :: _,h => h.elim
 | _ :: _,[],h => h.elim
open Go (IntKind BinOp UnOp World Value Addr Obj undef maxLen Program TypeId Oper Op Operand Act Sem Next Result execOp Builtin)
section
variable {Γ : Ctx} {N : Names} {P : Program} {w : World} {S : Nat → Prop} {μ : Nat → Value} {H : Heap} {σ : Nat → AV} {a : Act}
theorem foldl_set (off : Nat) : ∀ (l : List Value) (k : Nat) (cs : Array Value),off + k + l.length ≤ cs.size →
  ((l.zipIdx k).foldl (fun cs (x : Value × Nat) => cs.setIfInBounds (off + x.2) x.1) cs).size = cs.size ∧
  ∀ j,((l.zipIdx k).foldl (fun cs (x : Value × Nat) => cs.setIfInBounds (off + x.2) x.1) cs).getD j undef = if off + k ≤ j ∧ j < off + k + l.length then l.getD (j - (off + k)) undef else cs.getD j undef
 | [],k,cs,_ => ⟨rfl,fun j => by simp; omega⟩
 | v :: l,k,cs,h => by
  simp only [List.length_cons] at h
  obtain ⟨h1,h2⟩ := foldl_set off l (k + 1) (cs.setIfInBounds (off + k) v) (by simp; omega)
  simp only [List.zipIdx_cons,List.foldl_cons]
  refine ⟨by rw [h1]; simp,fun j => ?_⟩
  rw [h2 j]
  by_cases hj : j = off + k
  ·subst hj
   rw [if_neg (by omega),if_pos (by simp)]
   have : off + k < cs.size := by omega
   simp [Array.getD_eq_getD_getElem?,this]
  ·by_cases hj2 : off + (k + 1) ≤ j ∧ j < off + (k + 1) + l.length
   ·rw [if_pos hj2,if_pos (by simp only [List.length_cons]; omega)]
    rw [show j - (off + k) = (j - (off + (k + 1))) + 1 by omega]
    simp
   ·rw [if_neg hj2,if_neg (by simp only [List.length_cons]; omega)]
    simp only [Array.getD_eq_getD_getElem?]
    rw [Array.getElem?_setIfInBounds_ne (by omega)]
structure CellsRel (ν : Nat → Nat) (w : World) (S : Nat → Prop) (μ : Nat → Value) (H : Heap) (cs : List AV) (us : Array Value) : Prop where
 size : us.size = cs.length
 one : ∀ c ∈ cs,c.one = true
 rel : ∀ j c,cs[j]? = some c → RelV ν w S μ H c (us.getD j undef)
theorem fillA_rel (place : Nat → Option (Nat × Nat)) : ∀ (parts : List (Nat × Value)) (parts' : List (Nat × Nat × AV)) (cs res : List AV) (us : Array Value),CellsRel N.fn w S μ H cs us →
  All2 (fun (x : Nat × Value) (y : Nat × Nat × AV) => place x.1 = some (y.1,y.2.1) ∧ RelV N.fn w S μ H y.2.2 x.2) parts parts' → fillA cs parts' = some res →
  ∃ us',Go.Instr.fill place us parts = some us' ∧ CellsRel N.fn w S μ H res us'
 | [],[],cs,res,us,h,_,hv => by
  simp only [fillA,Option.some.injEq] at hv; subst hv
  exact ⟨us,rfl,h⟩
 | (i,v) :: parts,(off,sz,v') :: parts',cs,res,us,h,hf,hv => by
  obtain ⟨⟨hp,hrel⟩,hf⟩ := hf
  simp only [fillA,Option.ite_none_right_eq_some] at hv
  obtain ⟨⟨hok,hsz,hle⟩,hv⟩ := hv
  obtain ⟨c1,c2,c3⟩ := hrel.cells hok
  have hsize : v.cells.size = sz := by rw [c1,hsz]
  have e : (decide (v.cells.size ≠ sz) || decide (off + v.cells.size > us.size)) = false := by
   rw [Bool.or_eq_false_iff]
   exact ⟨decide_eq_false (by omega),decide_eq_false (by rw [hsize,h.size]; omega)⟩
  have hfold : (v.cells.zipIdx.foldl (fun cs (x : Value × Nat) => cs.setIfInBounds (off + x.2) x.1) us) = (v.cells.toList.zipIdx 0).foldl (fun cs (x : Value × Nat) => cs.setIfInBounds (off + x.2) x.1) us := by
   rw [← Array.foldl_toList,Array.toList_zipIdx]
  obtain ⟨f1,f2⟩ := foldl_set off v.cells.toList 0 us (by simp only [Array.length_toList]; rw [hsize,h.size]; omega)
  generalize hmid : (v.cells.toList.zipIdx 0).foldl (fun cs (x : Value × Nat) => cs.setIfInBounds (off + x.2) x.1) us = mid at hfold f1 f2
  have hmidrel : CellsRel N.fn w S μ H (cs.take off ++ v'.cells ++ cs.drop (off + sz)) mid := by
   refine ⟨by rw [f1,h.size]; simp only [List.length_append,List.length_take,List.length_drop]; omega,fun c hc => ?_,fun j c hc => ?_⟩
   ·simp only [List.mem_append] at hc
    rcases hc with (hc | hc) | hc
    ·exact h.one c (List.mem_of_mem_take hc)
    ·exact c2 c hc
    ·exact h.one c (List.mem_of_mem_drop hc)
   ·rw [f2 j]
    simp only [Nat.add_zero,Array.length_toList,hsize]
    have lt : (cs.take off).length = off := by simp; omega
    by_cases hj1 : j < off
    ·rw [if_neg (by omega)]
     rw [List.append_assoc,List.getElem?_append_left (by omega)] at hc
     exact h.rel j c (take_get hc).2
    ·by_cases hj2 : j < off + sz
     ·rw [if_pos (by omega)]
      rw [List.append_assoc,List.getElem?_append_right (by omega),lt,List.getElem?_append_left (by omega)] at hc
      have := c3 _ c hc
      simpa [Array.getD_eq_getD_getElem?,List.getD] using this
     ·rw [if_neg (by omega)]
      rw [List.append_assoc,List.getElem?_append_right (by omega),lt,List.getElem?_append_right (by omega),List.getElem?_drop] at hc
      rw [show off + sz + (j - off - v'.cells.length) = j by omega] at hc
      exact h.rel j c hc
  obtain ⟨us',u1,u2⟩ := fillA_rel place parts parts' _ res mid hmidrel hf hv
  refine ⟨us',?_,u2⟩
  simp only [Go.Instr.fill,hp,e,Bool.false_eq_true,if_false]
  rw [hfold]
  exact u1
 | [],_ :: _,_,_,_,_,hf,_ => hf.elim
 | _ :: _,[],_,_,_,_,hf,_ => hf.elim
theorem consts_cells {vs : List Value} {ps : List PV} (h : consts vs ps = true) : CellsRel N.fn w S μ H (ps.map .p) vs.toArray := by
 obtain ⟨h1,h2,h3⟩ := consts_rel (ν := N.fn) (w := w) (S := S) h
 refine ⟨by simp [h1],fun c hc => ?_,fun j c hc => ?_⟩
 ·obtain ⟨x,hx,rfl⟩ := List.mem_map.1 hc
  exact h2 x hx
 ·rw [List.getElem?_map] at hc
  obtain ⟨x,hx,rfl⟩ := Option.map_eq_some_iff.1 hc
  exact .p _ _ (by simpa using h3 j x hx)
def zeroT (P : Program) (T : TypeId) (zero : List PV) : Bool :=
 match (P.info? T).bind (·.zero) with
 | some z => consts z.cells.toList zero
 | none => false
theorem zeroT_spec {T zero} (h : zeroT P T zero = true) : ∃ z,(∀ w,(Go.zeroValue T).run P w = .ok z w) ∧ CellsRel N.fn w S μ H (zero.map .p) z.cells := by
 unfold zeroT at h
 split at h
 ·rename_i z hz
  obtain ⟨i,hi,hz⟩ := Option.bind_eq_some_iff.1 hz
  exact ⟨z,fun w => by simp [Go.zeroValue,Go.typeInfo,hi,hz],by have := consts_cells (N := N) (w := w) (S := S) (μ := μ) (H := H) h; simpa using this⟩
 ·cases h
def placeT (P : Program) (T : TypeId) (i : Nat) : Option (Nat × Nat) :=
 match P.underlying T with
 | some (.struct fs) => (fs[i]?).bind fun f => ((P.info? f.type).map (·.size)).map fun s => (f.offset,s)
 | some (.array _ e) => ((P.info? e).map (·.size)).map fun s => (i * s,s)
 | _ => none
def fieldsKnown (P : Program) (T : TypeId) : Bool :=
 match P.underlying T with
 | some (.struct fs) => fs.all fun f => (P.info? f.type).isSome
 | some (.array _ e) => (P.info? e).isSome
 | _ => false
theorem run_places (fs : Array Go.Field) (h : fs.all (fun f => (P.info? f.type).isSome) = true) :
  ∃ ps : Array (Nat × Nat),(fs.mapM fun (f : Go.Field) => (do pure (f.offset,← Go.sizeOf f.type) : Sem (Nat × Nat))).run P w = .ok ps w ∧ ∀ i : Nat,ps[i]? = (fs[i]?).bind fun (f : Go.Field) => ((P.info? f.type).map (·.size)).map fun s => (f.offset,s) := by
 have key : ∀ (l : List Go.Field),(∀ f ∈ l,(P.info? f.type).isSome = true) →
   (l.mapM fun (f : Go.Field) => (do pure (f.offset,← Go.sizeOf f.type) : Sem (Nat × Nat))).run P w = .ok (l.map fun f => (f.offset,((P.info? f.type).map (·.size)).getD 0)) w := by
  intro l
  induction l with
  | nil => intro _; simp
  | cons f l ih =>
   intro hl
   obtain ⟨i,hi⟩ := Option.isSome_iff_exists.1 (hl f (by simp))
   rw [List.mapM_cons]
   simp only [Go.Sem.run_bind,run_sizeOf (P := P) (w := w) (sz := i.size) (T := f.type) (by rw [hi]; rfl),Go.Result.andThen_ok,Go.Sem.run_pure,ih (fun x hx => hl x (by simp [hx]))]
   simp [hi]
 refine ⟨(fs.toList.map fun f => (f.offset,((P.info? f.type).map (·.size)).getD 0)).toArray,?_,fun i => ?_⟩
 ·have := key fs.toList (fun f hf => by simpa using Array.all_eq_true'.1 h f (by simpa using hf))
  rw [← Array.toArray_toList (xs := fs),List.mapM_toArray] 
  simp only [Go.Sem.run_map,this]
  simp
 ·simp only [List.getElem?_toArray,List.getElem?_map,Array.getElem?_toList]
  cases hf : fs[i]? with
  | none => rfl
  | some f =>
   have : (P.info? f.type).isSome = true := by simpa using Array.all_eq_true'.1 h f (Array.mem_of_getElem? hf)
   obtain ⟨j,hj⟩ := Option.isSome_iff_exists.1 this
   simp [hj]
theorem q_build {T : TypeId} {zero : List PV} {parts : List (Nat × Value)} {parts' : List (Nat × Nat × AV)} {res : List AV} (hz : zeroT P T zero = true) (hk : fieldsKnown P T = true)
  (hp : All2 (fun (x : Nat × Value) (y : Nat × Nat × AV) => placeT P T x.1 = some (y.1,y.2.1) ∧ RelV N.fn w S μ H y.2.2 x.2) parts parts') (hv : fillA (zero.map .p) parts' = some res) :
  ∃ u,(Go.Instr.build T parts.toArray).run P w = .ok u w ∧ RelV N.fn w S μ H (mkAgg res) u := by
 obtain ⟨z,z1,z2⟩ := zeroT_spec (N := N) (w := w) (S := S) (μ := μ) (H := H) hz
 unfold fieldsKnown at hk
 split at hk
 ·rename_i fs hfs
  obtain ⟨ps,p1,p2⟩ := run_places (w := w) fs hk
  have e : ∀ i : Nat,ps[i]? = placeT P T i := fun i => by rw [p2 i]; simp [placeT,hfs]
  obtain ⟨us',f1,f2⟩ := fillA_rel (fun i => ps[i]?) parts parts' _ res z.cells z2 (All2.imp (fun x y h => ⟨by rw [e]; exact h.1,h.2⟩) hp) hv
  refine ⟨.agg us',?_,RelV.mkAgg f2.size f2.one f2.rel⟩
  simp only [Go.Instr.build,Go.Sem.run_bind,z1,Go.Result.andThen_ok,Go.run_underlying hfs,p1,f1,Go.Sem.run_pure]
 ·rename_i n e hfs
  obtain ⟨i,hi⟩ := Option.isSome_iff_exists.1 hk
  obtain ⟨us',f1,f2⟩ := fillA_rel (fun k => some (k * i.size,i.size)) parts parts' _ res z.cells z2 (All2.imp (fun x y h => ⟨by rw [← h.1]; simp [placeT,hfs,hi],h.2⟩) hp) hv
  refine ⟨.agg us',?_,RelV.mkAgg f2.size f2.one f2.rel⟩
  simp [Go.Instr.build,z1,Go.run_underlying hfs,run_sizeOf (P := P) (w := w) (T := e) (sz := i.size) (by rw [hi]; rfl),f1]
 ·cases hk
theorem pures_cells {cs : List AV} {ps : List PV} {us : Array Value} (hp : pures cs = some ps) (h : CellsRel N.fn w S μ H cs us) :
  us.size = ps.length ∧ (∀ c ∈ ps,c.one = true) ∧ ∀ j c,ps[j]? = some c → RelP N.fn w S c (us.getD j undef) := by
 have e := pures_spec hp
 subst e
 refine ⟨by simpa using h.size,fun c hc => h.one (.p c) (List.mem_map_of_mem hc),fun j c hc => ?_⟩
 exact (h.rel j (.p c) (by rw [List.getElem?_map,hc]; rfl)).p_inv
theorem chunks_spec {sz : Nat} {ag : Bool} (hag : ag = false → sz = 1) : ∀ (n : Nat) (ps : List PV),ps.length = n * sz → (∀ c ∈ ps,c.one = true) →
  (chunks sz ag n ps).length = n ∧ ∀ i x,(chunks sz ag n ps)[i]? = some x → x.cells.length = sz ∧ (∀ c ∈ x.cells,c.one = true) ∧ ∀ j c,x.cells[j]? = some c → ps[i * sz + j]? = some c
 | 0,ps,_,_ => ⟨rfl,by simp [chunks]⟩
 | n + 1,ps,h,h1 => by
  have hl : ps.length = n * sz + sz := by rw [h,Nat.add_mul,Nat.one_mul]
  obtain ⟨i1,i2⟩ := chunks_spec hag n (ps.drop sz) (by simp; omega) (fun c hc => h1 c (List.mem_of_mem_drop hc))
  refine ⟨by simp [chunks,i1],fun i x hx => ?_⟩
  cases i with
  | zero =>
   simp only [chunks,List.getElem?_cons_zero,Option.some.injEq] at hx
   cases ag with
   | true =>
    simp only [if_true] at hx
    subst hx
    refine ⟨by simp [PV.cells]; omega,fun c hc => h1 c (List.mem_of_mem_take hc),fun j c hc => ?_⟩
    simp only [PV.cells] at hc
    simpa using (take_get hc).2
   | false =>
    have := hag rfl
    subst this
    simp only [Bool.false_eq_true,if_false] at hx
    match ps,hl,h1 with
    | c0 :: ps,_,h1 =>
     simp only [List.headD_cons] at hx
     subst hx
     have ho := h1 c0 (by simp)
     rw [PV.cells_one ho]
     refine ⟨rfl,by simpa using ho,fun j c hc => ?_⟩
     cases j with
     | zero => simpa using hc
     | succ j => simp at hc
    | [],hl,_ => simp at hl
  | succ i =>
   simp only [chunks,List.getElem?_cons_succ] at hx
   obtain ⟨k1,k2,k3⟩ := i2 i x hx
   refine ⟨k1,k2,fun j c hc => ?_⟩
   have := k3 j c hc
   rw [List.getElem?_drop] at this
   rwa [show (i + 1) * sz + j = sz + (i * sz + j) by rw [Nat.add_mul,Nat.one_mul]; omega]
theorem RelP.ofBlock {ν : Nat → Nat} {w' : World} {S' : Nat → Prop} {sz n cap g : Nat} {e : TypeId} {ag : Bool} {ps : List PV} {us : Array Value} {fr : Nat × Nat} {k : SK} (hag : ag = false → sz = 1) (hlen : ps.length = n * sz) (hk : k ≠ .nil)
  (hcap : n ≤ cap) (hm : cap ≤ maxLen) (ht : k = .tight → cap = n) (hS : S' g) (hw : w'.heap[g]? = some (.cells us e fr)) (hu : n * sz ≤ us.size) (h1 : ∀ c ∈ ps,c.one = true)
  (h2 : ∀ (j : Nat) c,ps[j]? = some c → RelP ν w' S' c (us.getD j undef)) : RelP ν w' S' (.sl k sz (chunks sz ag n ps)) (.slice (some ⟨g,0,none⟩) n cap) := by
 obtain ⟨c1,c2⟩ := chunks_spec (ag := ag) hag n ps hlen h1
 have key : RelP ν w' S' (.sl k sz (chunks sz ag n ps)) (.slice (some ⟨g,0,none⟩) (chunks sz ag n ps).length cap) := by
  refine .sl _ _ _ _ _ (fun i j => us.getD (i * sz + j) undef) (by omega) hm (fun x hx => ?_) (fun h => h.elim (fun h => absurd h hk) (fun h => by cases h)) (fun h => ⟨rfl,fun h => by rw [ht h,c1]⟩) (fun _ => ⟨_,rfl,hS⟩) (fun ad had i x j c hx hc => ?_) (fun i x j c hx hc => ?_)
  ·obtain ⟨i,hi⟩ := List.getElem?_of_mem hx
   exact ⟨(c2 i x hi).1,(c2 i x hi).2.1⟩
  ·cases had
   have h3 := (c2 i x hx).2.2 j c hc
   have hlt : i * sz + j < us.size := by
    have := (List.getElem?_eq_some_iff.1 h3).1
    omega
   rw [Addr.add_lit,Go.cell_of_row w' g _ us e fr hw]
   simp [hlt]
  ·exact h2 _ _ ((c2 i x hx).2.2 j c hc)
 rwa [c1] at key
def bsZero (P : Program) (e : TypeId) (m : Nat) (zero : List PV) : Bool :=
 match (P.info? e).bind (·.zero) with
 | some z => consts (if m = 0 then #[] else (Array.range m).map fun i => z.cells[i % z.cells.size]!).toList zero
 | none => false
theorem q_bslice {T e : TypeId} {sz n : Nat} {ag : Bool} {zero : List PV} {parts : List (Nat × Value)} {parts' : List (Nat × Nat × AV)} {v : AV} (hS : ∀ g,S g → g < w.heap.size) (hT : slT P T = some e) (hs : (P.info? e).map (·.size) = some sz)
  (h0sz : 0 < sz) (hag : ag = false → sz = 1) (hn : n * sz ≤ 2 ^ 24) (hz : bsZero P e (n * sz) zero = true)
  (hp : All2 (fun (x : Nat × Value) (y : Nat × Nat × AV) => (x.1 * sz,sz) = (y.1,y.2.1) ∧ RelV N.fn w S μ H y.2.2 x.2) parts parts') (hv : bsliceA sz ag n (fillA (zero.map .p) parts') = some v) :
  ∃ us,(Go.Instr.buildSlice T n parts.toArray).run P w = .ok (.slice (some ⟨w.heap.size,0,none⟩) n n) (w.alloc (.cells us e)) ∧
   RelV N.fn (w.alloc (.cells us e)) (fun g => S g ∨ g = w.heap.size) μ H v (.slice (some ⟨w.heap.size,0,none⟩) n n) := by
 unfold bsliceA at hv
 obtain ⟨cs,hf,hv⟩ := Option.bind_eq_some_iff.1 hv
 obtain ⟨ps,hps,hv⟩ := Option.bind_eq_some_iff.1 hv
 simp only [Option.ite_none_right_eq_some,Option.some.injEq] at hv
 obtain ⟨hlen,rfl⟩ := hv
 unfold bsZero at hz
 split at hz
 rotate_left
 ·cases hz
 rename_i z hzz
 obtain ⟨i,hi,hzi⟩ := Option.bind_eq_some_iff.1 hzz
 have hzc := consts_cells (N := N) (w := w) (S := S) (μ := μ) (H := H) hz
 rw [Array.toArray_toList] at hzc
 obtain ⟨us,f1,f2⟩ := fillA_rel (fun k => some (k * sz,sz)) parts parts' _ cs _ hzc (All2.imp (fun x y h => ⟨by rw [← h.1],h.2⟩) hp) hf
 obtain ⟨p1,p2,p3⟩ := pures_cells hps f2
 refine ⟨us,?_,.p _ _ (RelP.ofBlock hag hlen (by simp) (Nat.le_refl _) ?_ (fun _ => rfl) (.inr rfl) (Go.heap_alloc_new w _) (by omega) p2 (fun j c hc => (p3 j c hc).keep (fun _ h => .inl h) (fun g hg => Go.RowKit.Below.heap_alloc w _ g (hS g hg))))⟩
 ·have hn' : ¬ (n * sz > 2 ^ 24) := by omega
  simp only [Go.Instr.buildSlice,Go.Sem.run_bind,Go.run_underlying (slT_spec hT),Go.Result.andThen_ok,run_sizeOf hs,if_neg hn']
  by_cases h0 : n * sz = 0
  ·rw [if_pos h0] at f1
   simp only [h0,if_true]
   rw [Go.Sem.run_bind]
   simp only [Go.Sem.run_pure,Go.Result.andThen_ok]
   have e0 : (Array.range 0).map (fun x => (#[] : Array Value)[x % (#[] : Array Value).size]!) = #[] := by simp
   rw [e0,f1]
   simp [Go.newRow]
  ·rw [if_neg h0] at f1
   simp only [h0,if_false,Go.Sem.run_bind,Go.zeroValue,Go.typeInfo,hi,Go.Sem.run_pure,Go.Result.andThen_ok,hzi,Go.run_program]
   rw [f1]
   simp [Go.newRow]
 ·have : n * 1 ≤ n * sz := Nat.mul_le_mul_left _ h0sz
  simp only [maxLen]
  omega
theorem q_minmax {mx : Bool} {asX : List Value} {asX' : List AV} {v : AV} {t0 : TypeId} {ts : Array TypeId} (ha : All2 (fun x y => RelV N.fn w S μ H y x) asX asX') (hv : minmax mx asX' = some v) :
  ∃ u,(if mx then Go.Builtin.max_ ts t0 asX.toArray else Go.Builtin.min_ ts t0 asX.toArray).run P w = .ok u w ∧ RelV N.fn w S μ H v u := by
 unfold minmax at hv
 split at hv
 ·match asX,ha with
  | [x,y],⟨h1,h2,_⟩ =>
   rw [RelV.int_inv h1,RelV.int_inv h2]
   simp only [Option.some.injEq] at hv; subst hv
   cases mx
   ·exact ⟨_,by simp [Go.Builtin.min_,Go.Builtin.min2],.p _ _ (.int _ _)⟩
   ·refine ⟨_,?_,.p _ _ (.int _ _)⟩
    simp [Go.Builtin.max_,Go.Builtin.max2]
 ·match asX,ha with
  | [x,y,z],⟨h1,h2,h3,_⟩ =>
   rw [RelV.int_inv h1,RelV.int_inv h2,RelV.int_inv h3]
   simp only [Option.some.injEq] at hv; subst hv
   cases mx
   ·exact ⟨_,by simp [Go.Builtin.min_,Go.Builtin.min2],.p _ _ (.int _ _)⟩
   ·refine ⟨_,?_,.p _ _ (.int _ _)⟩
    simp [Go.Builtin.max_,Go.Builtin.max2]
 ·cases hv
theorem q_clos {f : Nat} {cs : List AV} {us : List Value} (ha : All2 (fun x y => RelV N.fn w S μ H y x) us cs) (h1 : ∀ c ∈ cs,c.one = true) : RelV N.fn w S μ H (closA f cs) (.func (.func (N.fn f)) #[] us.toArray) := by
 have key : ∀ {us : List Value} {cs : List AV},All2 (fun x y => RelV N.fn w S μ H y x) us cs → us.length = cs.length ∧ ∀ j c,cs[j]? = some c → RelV N.fn w S μ H c (us.getD j undef) := by
  intro us
  induction us with
  | nil => intro cs h; cases cs with
   | nil => exact ⟨rfl,by simp⟩
   | cons => exact h.elim
  | cons u us ih => intro cs h; cases cs with
   | nil => exact h.elim
   | cons c cs =>
    obtain ⟨k1,k2⟩ := ih h.2
    refine ⟨by simp [k1],fun j c' hc => ?_⟩
    cases j with
    | zero => simp only [List.getElem?_cons_zero,Option.some.injEq] at hc; subst hc; simpa using h.1
    | succ j => simpa using k2 j c' (by simpa using hc)
 obtain ⟨k1,k2⟩ := key ha
 unfold closA
 split
 ·rename_i ps hp
  have e := pures_spec hp
  subst e
  refine .p _ _ (.clo _ _ _ (by simpa using k1) (fun c hc => h1 (.p c) (List.mem_map_of_mem hc)) (fun j c hc => ?_))
  have := k2 j (.p c) (by rw [List.getElem?_map,hc]; rfl)
  simpa using this.p_inv
 ·exact .clo _ _ _ (by simpa using k1) h1 (fun j c hc => by simpa using k2 j c hc)
theorem bytesIn_spec : ∀ {xs : List PV} {s},bytesIn xs = some s → ∃ ns : List Int,xs = ns.map (PV.int .u8) ∧ s = ns.map fun n => UInt8.ofNat n.toNat
 | [],s,h => by simp only [bytesIn,Option.some.injEq] at h; subst h; exact ⟨[],rfl,rfl⟩
 | x :: xs,s,h => by
  unfold bytesIn at h
  split at h
  ·rename_i e; cases e
  ·rename_i n r e
   cases e
   obtain ⟨s',h1,rfl⟩ := Option.map_eq_some_iff.1 h
   obtain ⟨ns,h2,h3⟩ := bytesIn_spec h1
   exact ⟨n :: ns,by rw [h2]; rfl,by rw [h3]; rfl⟩
  ·cases h
theorem foldl_bytes : ∀ (ns : List Int) (l : List UInt8),ns.foldl (fun r n => r.push (UInt8.ofNat n.toNat)) (ByteArray.mk l.toArray) = ⟨(l ++ ns.map fun n => UInt8.ofNat n.toNat).toArray⟩
 | [],l => by simp
 | n :: ns,l => by
  have e : (ByteArray.mk l.toArray).push (UInt8.ofNat n.toNat) = ⟨(l ++ [UInt8.ofNat n.toNat]).toArray⟩ := by
   apply ByteArray.ext
   simp [ByteArray.push]
  rw [List.foldl_cons,e,foldl_bytes ns]
  simp
theorem run_bytes_of {s e d : TypeId} {x : Option Addr} {n cap : Nat} {ns : List Int} (hs : slT P s = some e) (he : intT P e = some .u8) (hd : strT P d = true) (hn : ns.length = n)
  (hx : ∀ ad,x = some ad → ∀ j v,ns[j]? = some v → w.cell? (ad.add j) = some (.int .u8 v)) (h0 : x = none → n = 0) :
  (Go.convert s d (.slice x n cap)).run P w = .ok (.string ⟨(ns.map fun n => UInt8.ofNat n.toNat).toArray⟩) w := by
 rw [Go.run_convert_bytes_string w s d e x n cap (slT_spec hs) (intT_spec he) (strT_spec hd)]
 cases x with
 | none =>
  have := h0 rfl
  subst this
  have : ns = [] := List.eq_nil_of_length_eq_zero hn
  subst this
  simp [Go.Conv.bytesToString]
  rfl
 | some ad =>
  have hl := Go.run_loadCells_list (P := P) w ad (ns.map (Value.int .u8)) (fun j v hj => by
   rw [List.getElem?_map] at hj
   obtain ⟨m,hm,rfl⟩ := Option.map_eq_some_iff.1 hj
   exact hx ad rfl j m hm)
  rw [List.length_map,hn] at hl
  rw [Go.run_bytesToString w ad n cap ns hl]
  have := foldl_bytes ns []
  simp only [List.nil_append] at this
  rw [← this]
  rfl
theorem q_strOf {s e d : TypeId} {x : Value} {x' v : AV} (hr : Rel N.fn w S μ H) (hs : slT P s = some e) (he : intT P e = some .u8) (hd : strT P d = true) (hx : RelV N.fn w S μ H x' x) (hv : strOfA H x' = some v) :
  ∃ u,(Go.convert s d x).run P w = .ok u w ∧ RelV N.fn w S μ H v u := by
 unfold strOfA at hv
 split at hv
 ·rename_i k sz xs
  simp only [Option.ite_none_right_eq_some] at hv
  obtain ⟨rfl,hv⟩ := hv
  obtain ⟨t,ht,rfl⟩ := Option.map_eq_some_iff.1 hv
  obtain ⟨ns,rfl,rfl⟩ := bytesIn_spec ht
  have hx := hx.p_inv
  generalize hxs : ns.map (PV.int .u8) = xs at hx
  cases hx with
  | sl _ _ _ a cap us h1 h2 h3 h4 h5 h6 h7 h8 =>
  subst hxs
  refine ⟨_,run_bytes_of hs he hd (by simp) (fun ad had j m hj => ?_) (fun ha => ?_),.p _ _ (.str _)⟩
  ·have g1 : (ns.map (PV.int .u8))[j]? = some (.int .u8 m) := by rw [List.getElem?_map,hj]; rfl
   have g2 := h7 ad had j _ 0 _ g1 rfl
   rw [(h8 j _ 0 _ g1 rfl).int_inv] at g2
   simpa using g2
  ·by_cases hne : ns = []
   ·subst hne; rfl
   ·obtain ⟨ad,e1,_⟩ := h6 (by simpa using hne)
    rw [ha] at e1; cases e1
 ·rename_i id n
  obtain ⟨⟨sz,xs⟩,hb,hv⟩ := Option.bind_eq_some_iff.1 hv
  simp only [Option.ite_none_right_eq_some] at hv
  obtain ⟨rfl,hv⟩ := hv
  obtain ⟨t,ht,rfl⟩ := Option.map_eq_some_iff.1 hv
  obtain ⟨ns,rfl,rfl⟩ := bytesIn_spec ht
  rw [hx.own_inv hb]
  obtain ⟨f,h1,h2⟩ := rowOf_spec hb
  obtain ⟨_,_,us,h3,h4,h5,_⟩ := hr.blk id _ h1
  have h3' := h3
  obtain ⟨hl,h3⟩ := h3
  simp only [List.length_map] at h2 h3 hl h3'
  rcases h3 with ⟨h6,a0,h7⟩ | ⟨g,cap,cur,e',h6,_⟩
  ·rw [h7]
   have : ns = [] := List.eq_nil_of_length_eq_zero h6
   subst this
   exact ⟨_,run_bytes_of (ns := []) hs he hd rfl (by simp) (fun _ => rfl),.p _ _ (.str _)⟩
  ·rw [h6]
   refine ⟨_,run_bytes_of hs he hd rfl (fun ad had j m hj => ?_) (by simp),.p _ _ (.str _)⟩
   cases had
   have hlt : j < ns.length := (List.getElem?_eq_some_iff.1 hj).1
   rw [Addr.add_lit,Nat.zero_add,row_cell h3' h6 (by omega)]
   have := h5 j (.int .u8 m) 0 _ (by rw [List.getElem?_map,hj]; rfl) rfl
   simpa using this.int_inv
 ·cases hv
end
end Ab
