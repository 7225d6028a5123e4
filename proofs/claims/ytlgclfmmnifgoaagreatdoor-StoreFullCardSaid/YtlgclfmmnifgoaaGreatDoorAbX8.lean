import Derived.Test.YtlgclfmmnifgoaaGreatDoorAbX6
import Derived.Deep.AppendSrc
import Derived.Laws.IdiomCopy
import Derived.Lib.ConvBytes
import Derived.MapKept
namespace Ab
open Go (IntKind BinOp UnOp World Value Addr Obj undef maxLen Program TypeId Oper Op Operand Act Sem Next Result execOp Builtin)
section
variable {ν : Nat → Nat} {w : World} {S : Nat → Prop} {μ : Nat → Value} {H : Heap}
theorem Step.pop (hr : Rel ν w S μ H) {id sz : Nat} {xs ys : List PV} {v : Value} (h0 : H[id]? = some (.row false sz xs)) (hn : ∀ g,au v = some g → au (μ id) = some g)
    (hb : ∀ μ' H',μ' H.length = v → BlkRel ν w S μ' H' H.length (.row false sz ys)) :
    Step ν w S μ H w S (upd (upd μ id undef) H.length v) (H.set id .dead ++ [.row false sz ys]) := by
  have hlt : id < H.length := (List.getElem?_eq_some_iff.1 h0).1
  have hal : bj (.row false sz xs) := .inr ⟨sz,xs,rfl⟩
  have old : ∀ (i : Nat) c,(H.set id .dead ++ [.row false sz ys])[i]? = some c → (i ≠ id ∧ i < H.length ∧ H[i]? = some c) ∨ (i = id ∧ c = .dead) ∨ (i = H.length ∧ c = .row false sz ys) := by
    intro i c h
    rcases Nat.lt_trichotomy i H.length with hl | hl | hl
    · rw [List.getElem?_append_left (by simpa using hl)] at h
      simp only [List.getElem?_set,hlt,if_true] at h
      split at h
      · rename_i e; subst e; simp only [Option.some.injEq] at h; exact .inr (.inl ⟨rfl,h.symm⟩)
      · rename_i e; exact .inl ⟨Ne.symm e,hl,h⟩
    · subst hl
      rw [List.getElem?_append_right (by simp)] at h
      simp at h
      exact .inr (.inr ⟨rfl,h.symm⟩)
    · rw [List.getElem?_append_right (by simp; omega)] at h
      have := (List.getElem?_eq_some_iff.1 h).1
      simp at this; omega
  have mu : ∀ i,i ≠ id → i < H.length → upd (upd μ id undef) H.length v i = μ i := fun i h1 h2 => by rw [upd_ne (by omega),upd_ne h1]
  have al : ∀ g,alive (upd (upd μ id undef) H.length v) (H.set id .dead ++ [.row false sz ys]) g → alive μ H g := by
    intro g ha
    obtain ⟨i,c,h1,h2,h3⟩ := alive_iff.1 ha
    rcases old i c h1 with ⟨hne,hl,h⟩ | ⟨rfl,rfl⟩ | ⟨rfl,rfl⟩
    · rw [mu i hne hl] at h3; exact alive_iff.2 ⟨i,c,h,h2,h3⟩
    · rcases h2 with ⟨cs,h2⟩ | ⟨_,_,h2⟩ <;> cases h2
    · rw [upd_same] at h3; exact alive_iff.2 ⟨id,_,h0,hal,hn g h3⟩
  have hm : Moves μ H (upd (upd μ id undef) H.length v) (H.set id .dead ++ [.row false sz ys]) := by
    refine ⟨by simp,fun i f s zs hl h => ?_,fun i cs hl h => ?_⟩
    · rcases old i _ h with ⟨hne,_,h⟩ | ⟨_,h⟩ | ⟨h,_⟩
      · exact ⟨f,zs,h,Nat.le_refl _,fun _ => mu i hne hl⟩
      · cases h
      · omega
    · rcases old i _ h with ⟨hne,_,h⟩ | ⟨_,h⟩ | ⟨h,_⟩
      · exact ⟨cs,h,mu i hne hl⟩
      · cases h
      · omega
  refine ⟨⟨hr.lt,fun i c hc => ?_,fun g ha hs => hr.apart g (al g ha) hs,fun i j g hi hj ai aj => ?_⟩,⟨rfl,rfl,rfl,Nat.le_refl _,fun _ _ _ => rfl,fun _ h => h,fun _ h _ => .inl h,fun g h _ => al g h⟩,hm⟩
  · rcases old i c hc with ⟨hne,hl,h⟩ | ⟨rfl,rfl⟩ | ⟨rfl,rfl⟩
    · exact (hr.blk i c h).keep (fun _ h => h) (fun _ _ => rfl) hm (mu i hne hl) (fun _ _ => rfl)
    · intro g hg
      rw [upd_ne (by omega),upd_same] at hg
      simp [au,undef] at hg
    · exact hb _ _ upd_same
  · have get : ∀ k : Nat,((∃ cs,(H.set id .dead ++ [.row false sz ys])[k]? = some (Blk.box cs)) ∨ ∃ s zs,(H.set id .dead ++ [.row false sz ys])[k]? = some (Blk.row false s zs)) →
        ∀ g,au (upd (upd μ id undef) H.length v k) = some g → ∃ i c,H[i]? = some c ∧ bj c ∧ au (μ i) = some g ∧ ((k = i ∧ i ≠ id ∧ i < H.length) ∨ (k = H.length ∧ i = id)) := by
      rintro k hk g hg
      have : ∃ c,(H.set id .dead ++ [.row false sz ys])[k]? = some c ∧ bj c := by
        rcases hk with ⟨cs,h⟩ | ⟨s,zs,h⟩
        · exact ⟨_,h,.inl ⟨cs,rfl⟩⟩
        · exact ⟨_,h,.inr ⟨s,zs,rfl⟩⟩
      obtain ⟨c,hc,ac⟩ := this
      rcases old k c hc with ⟨hne,hl,h⟩ | ⟨rfl,rfl⟩ | ⟨rfl,rfl⟩
      · rw [mu k hne hl] at hg; exact ⟨k,c,h,ac,hg,.inl ⟨rfl,hne,hl⟩⟩
      · rcases ac with ⟨cs,h2⟩ | ⟨_,_,h2⟩ <;> cases h2
      · rw [upd_same] at hg; exact ⟨id,_,h0,hal,hn g hg,.inr ⟨rfl,rfl⟩⟩
    obtain ⟨i',c,hc,ac,gi,hi'⟩ := get i ai g hi
    obtain ⟨j',d,hd,ad,gj,hj'⟩ := get j aj g hj
    have := hr.inj' hc hd ac ad gi gj
    subst this
    rcases hi' with ⟨rfl,h1,h2⟩ | ⟨rfl,h1⟩ <;> rcases hj' with ⟨rfl,h3,h4⟩ | ⟨rfl,h3⟩
    · rfl
    · exact absurd h3 h1
    · exact absurd h1 h3
    · rfl
end
section
variable {Γ : Ctx} {N : Names} {P : Program} {w : World} {S : Nat → Prop} {μ : Nat → Value} {H : Heap}
theorem x_pop {T e : TypeId} {sz : Nat} {x hi : Value} {x' hi' : AV} {r : AV × Heap} (hr : Rel N.fn w S μ H) (hT : slT P T = some e) (hs : (P.info? e).map (·.size) = some sz)
  (hx : RelV N.fn w S μ H x' x) (hhi : RelV N.fn w S μ H hi' hi) (hv : popA H sz x' hi' = some r) :
  ∃ u w' S' μ',(Go.Instr.sliceAt T x none (some hi) none).run P w = .ok u w' ∧ Step N.fn w S μ H w' S' μ' r.2 ∧ RelV N.fn w' S' μ' r.2 r.1 u := by
 unfold popA at hv
 split at hv
 rotate_left
 ·cases hv
 rename_i id n k h
 split at hv
 rotate_left
 ·cases hv
 rename_i sz' xs hb
 simp only [Option.ite_none_right_eq_some,Option.some.injEq] at hv
 obtain ⟨⟨rfl,rfl,h1,h2⟩,rfl⟩ := hv
 have hrr : rowOf H id xs.length = some (sz',xs) := by simp [rowOf,hb]
 have hx1 : x = μ id := hx.own_inv hrr
 obtain ⟨p0,p1,us,p2,p3,p4,p5⟩ := hr.blk id _ hb
 have hlen : h.toNat ≤ xs.length := by omega
 have hbd : bound xs.length xs.length (some (.p (.int k h))) = some h.toNat := by simp only [bound]; rw [if_pos ⟨h1,h2⟩]
 have hblk : ∀ (v : Value),RowAt w v sz' h.toNat (us.take (h.toNat * sz')) → ∀ μ' H',μ' H.length = v → BlkRel N.fn w S μ' H' H.length (.row false sz' (xs.take h.toNat)) := by
  intro v hv μ' H' hμ
  refine ⟨p0,by rw [List.length_take]; omega,us.take (h.toNat * sz'),?_,fun x hx => p3 x (List.mem_of_mem_take hx),fun i x j c hi hj => ?_,fun hf => by cases hf⟩
  ·rw [hμ,List.length_take,Nat.min_eq_left hlen]; exact hv
  ·obtain ⟨hi1,hi2⟩ := dZ hi
   have hj1 : j < sz' := by
    have := (List.getElem?_eq_some_iff.1 hj).1
    rw [(p3 x (List.mem_of_getElem? hi2)).1] at this; exact this
   have : i * sz' + j < h.toNat * sz' := by
    have : (i + 1) * sz' ≤ h.toNat * sz' := Nat.mul_le_mul_right _ hi1
    rw [Nat.add_mul,Nat.one_mul] at this; omega
   have e : (us.take (h.toNat * sz')).getD (i * sz' + j) undef = us.getD (i * sz' + j) undef := by
    simp only [List.getD_eq_getElem?_getD,List.getElem?_take,this,if_true]
   rw [e]
   exact p4 i x j c hi2 hj
 obtain ⟨q1,q2⟩ := p2
 have htl : (us.take (h.toNat * sz')).length = h.toNat * sz' := by
  rw [List.length_take,q1]; exact Nat.min_eq_left (Nat.mul_le_mul_right _ hlen)
 rcases q2 with ⟨q2,ad,q3⟩ | ⟨g,cap,cur,t,q3,q4,q5,q6,q7,q8,q9⟩
 ·have e0 : h.toNat = 0 := by omega
  have hsl := cx (P := P) (N := N) (S := S) (μ := μ) (H := H) (w := w) (sl := true) (cap := 0) (lo := none) (lo' := none) (hi := some (.p (.int k h))) (hi' := some hi) trivial hhi (show xs.length ≤ 0 by omega) hbd (by rfl)
  rw [hx1,q3]
  have hrow : RowAt w (.slice ad 0 0) sz' h.toNat (us.take (h.toNat * sz')) := ⟨htl,.inl ⟨e0,ad,rfl⟩⟩
  refine ⟨.slice ad 0 0,w,S,_,?_,Step.pop hr hb (v := .slice ad 0 0) (by intro g hg; cases ad <;> simp [au] at hg) (hblk _ hrow),?_⟩
  ·rw [q2,e0] at hsl
   simp [Go.Instr.sliceAt,Go.Instr.slice,Go.run_underlying (bn hT),hsl.1,run_sizeOf hs]
  ·refine .own _ _ _ (by simp) (fun f s zs hz => ?_) rfl
   rw [List.getElem?_append_right (by simp)] at hz
   simp at hz
   obtain ⟨_,_,rfl⟩ := hz
   rw [List.length_take]
   exact ⟨by omega,fun _ => upd_same.symm⟩
 ·have hsl := cx (P := P) (N := N) (S := S) (μ := μ) (H := H) (w := w) (sl := true) (cap := cap) (lo := none) (lo' := none) (hi := some (.p (.int k h))) (hi' := some hi) trivial hhi q6 hbd (by rfl)
  rw [hx1,q3]
  have hrow : RowAt w (.slice (some ⟨g,0,none⟩) h.toNat cap) sz' h.toNat (us.take (h.toNat * sz')) :=
   ⟨htl,.inr ⟨g,cap,cur,t,rfl,q4,q5,by omega,q7,q8,by rw [← q9,List.take_take,Nat.min_eq_left (Nat.mul_le_mul_right _ hlen)]⟩⟩
  refine ⟨.slice (some ⟨g,0,none⟩) h.toNat cap,w,S,_,?_,Step.pop hr hb (v := .slice (some ⟨g,0,none⟩) h.toNat cap) (by rw [q3]; intro k hk; simpa [au] using hk) (hblk _ hrow),?_⟩
  ·have hne : ¬ cap = 0 := by omega
   simp [Go.Instr.sliceAt,Go.Instr.slice,Go.run_underlying (bn hT),hsl.1,run_sizeOf hs,hne,Addr.add]
  ·refine .own _ _ _ (by simp) (fun f s zs hz => ?_) rfl
   rw [List.getElem?_append_right (by simp)] at hz
   simp at hz
   obtain ⟨_,_,rfl⟩ := hz
   rw [List.length_take]
   exact ⟨by omega,fun _ => upd_same.symm⟩
end
end Ab
namespace Ab
open Go (IntKind BinOp UnOp World Value Addr Obj undef maxLen Program TypeId Oper Op Operand Act Sem Next Result execOp Builtin)
section
variable {Γ : Ctx} {N : Names} {P : Program} {w : World} {S : Nat → Prop} {μ : Nat → Value} {H : Heap}
def bytesV (s : List UInt8) : List Value := s.map fun b => .int .u8 b.toNat
theorem iZ {s : List UInt8} : (bytesV s).length = s.length := by simp [bytesV]
theorem rP (s : List UInt8) : Go.byteCells ⟨s.toArray⟩ = bytesV s := rfl
theorem wM {s : List UInt8} : ∀ u ∈ bytesV s,u.oneCell' = true := by
 intro u hu
 obtain ⟨_,_,rfl⟩ := List.mem_map.1 hu
 rfl
theorem zB {tx : TypeId} (hu : P.underlying tx = some .string) (s : List UInt8) : Go.Src P 1 tx (.string ⟨s.toArray⟩) s.length (bytesV s) w := by
 have h := Go.Src.ofString (P := P) w hu ⟨s.toArray⟩
 rwa [rP,size_mk] at h
theorem mh (t tx ty e e' : TypeId) (i : Go.TypeInfo) (ht : P.underlying t = some (.slice e)) (hu : P.underlying tx = some .string) (hi : P.info? e = some i) (hsz : i.size = 1)
  (g sLen sCap : Nat) (cur : Array Value) {fr : Nat × Nat} (hg : w.heap[g]? = some (.cells cur e' fr)) (hfr : fr = (0,0) ∨ cur.size ≤ fr.1) (s : List UInt8) (hroom : sLen + s.length ≤ sCap) (hfit : sLen + s.length ≤ cur.size) :
  (Builtin.append_ #[t,tx] ty #[.slice (some ⟨g,0,none⟩) sLen sCap,.string ⟨s.toArray⟩]).run P w =
   .ok (.slice (some ⟨g,0,none⟩) (sLen + s.length) sCap) (w.setRow g (cur.toList.take sLen ++ bytesV s ++ cur.toList.drop (sLen + s.length)).toArray) := by
 have hs := zB (P := P) (w := w) hu s
 have hst := bL P g sLen e' fr (bytesV s) 0 cur w hg hfr (by rw [iZ]; simpa using hfit) wM
 simp only [Nat.add_zero,iZ] at hst
 simp [Builtin.append_,Go.run_underlying ht,Go.run_underlying hu,Go.sizeOf,Go.typeInfo,hi,hsz,hs.len,hroom,hs.cells,Go.Addr.add_lit,hst]
theorem iv {t tx ty e : TypeId} {i : Go.TypeInfo} {z : Value} {n : Nat} {v : Value} {us : List Value} {s : List UInt8} (ht : P.underlying t = some (.slice e)) (hu : P.underlying tx = some .string) (hi : P.info? e = some i) (hz : i.zero = some z)
  (hsz : i.size = 1) (hzs : z.cells.size = 1) (hv : RowAt w v 1 n us) (hlim : n + s.length ≤ lim) (hb : i.bytes ≤ 65536) :
  ∃ v' w',(Builtin.append_ #[t,tx] ty #[v,.string ⟨s.toArray⟩]).run P w = .ok v' w' ∧ RowAt w' v' 1 (n + s.length) (us ++ bytesV s) ∧ w'.os = w.os ∧ w'.tape = w.tape ∧ w'.output = w.output ∧ w.heap.size ≤ w'.heap.size ∧
   (∀ g,g < w.heap.size → au v ≠ some g → w'.heap[g]? = w.heap[g]?) ∧ (∀ g,au v' = some g → au v = some g ∨ w.heap.size ≤ g) ∧ (s.length = 0 → v' = v) := by
 have lim_eq : lim = 1073741824 := rfl
 have hs := zB (P := P) (w := w) hu s
 have hs' : Go.Src P i.size tx (.string ⟨s.toArray⟩) s.length (bytesV s) w := by rw [hsz]; exact hs
 have hl := @iZ s
 have hbytes : (n + s.length) * i.bytes ≤ 140737488355328 := by
  calc (n + s.length) * i.bytes ≤ 1073741824 * 65536 := Nat.mul_le_mul (by omega) hb
   _ ≤ 140737488355328 := by decide
 obtain ⟨hul,hv⟩ := hv
 have hul' : us.length = n := by omega
 by_cases hm : s.length = 0
 ·have hs0 : s = [] := List.eq_nil_of_length_eq_zero hm
  subst hs0
  obtain ⟨a,cap,rfl,hcap⟩ : ∃ a cap,v = .slice a n cap ∧ n ≤ cap := by
   rcases hv with ⟨rfl,a,h⟩ | ⟨g,cap,cur,e',h,_,_,hc,_⟩
   ·exact ⟨a,0,h,Nat.le_refl _⟩
   ·exact ⟨_,cap,h,hc⟩
  have hr : (Builtin.append_ #[t,tx] ty #[.slice a n cap,.string ⟨([] : List UInt8).toArray⟩]).run P w = .ok (.slice a n cap) w := by
   have hc := hs'.cells
   have hle := hs'.len
   cases a <;> simp [Builtin.append_,Go.run_underlying ht,Go.run_underlying hu,Go.sizeOf,Go.typeInfo,hi,hle,hcap,Go.storeCells,bytesV] at hc ⊢ <;> simp [hc,Go.storeCells]
  exact ⟨_,w,hr,⟨by simpa [bytesV] using hul,by simpa [bytesV] using hv⟩,rfl,rfl,rfl,Nat.le_refl _,fun _ _ _ => rfl,fun g hg => .inl hg,fun _ => rfl⟩
 ·have hlen : (us ++ bytesV s).length = (n + s.length) * 1 := by rw [List.length_append,hul,hl]; omega
  have grown : ∀ (old : Nat),old < n + s.length →
    RowAt (w.drew.alloc (.cells ((us ++ bytesV s).toArray ++ Builtin.zeroCells z.cells (Go.grownCap w (n + s.length) old e - (n + s.length))) e)) (.slice (some ⟨w.heap.size,0,none⟩) (n + s.length) (Go.grownCap w (n + s.length) old e)) 1 (n + s.length) (us ++ bytesV s) := by
   intro old ho
   have hge := Go.grownCap_ge w (n + s.length) old e
   have hcm : Go.grownCap w (n + s.length) old e ≤ maxLen := Go.grownCap_le_maxLen w (n + s.length) old e (by simp only [maxLen]; omega)
   refine ⟨hlen,.inr ⟨w.heap.size,_,_,e,rfl,by omega,⟨_,Go.heap_alloc_new w.drew _,.inl rfl⟩,hge,hcm,?_,?_⟩⟩
   ·simp only [Array.size_append,List.size_toArray,Go.size_zeroCells,hzs,hlen]
    omega
   ·simp only [Array.toList_append]
    rw [← hlen]
    exact List.take_left
  have rest : ∀ (o : Obj),(w.drew.alloc o).os = w.os ∧ (w.drew.alloc o).tape = w.tape ∧ (w.drew.alloc o).output = w.output ∧ w.heap.size ≤ (w.drew.alloc o).heap.size ∧
    (∀ g,g < w.heap.size → au v ≠ some g → (w.drew.alloc o).heap[g]? = w.heap[g]?) ∧ ∀ n c g,au (.slice (some ⟨w.heap.size,0,none⟩) n c) = some g → au v = some g ∨ w.heap.size ≤ g := by
   intro o
   refine ⟨rfl,rfl,rfl,by simp,fun g hg _ => (Grows.alloc w.drew o).keep g hg,fun n c g hg => ?_⟩
   simp only [au] at hg
   split at hg
   ·cases hg
   ·simp only [Option.some.injEq] at hg; omega
  rcases hv with ⟨rfl,a,rfl⟩ | ⟨g,cap,cur,e',rfl,hc0,hg,hnc,hcm,hcs,htake⟩
  ·have hus : us = [] := List.eq_nil_of_length_eq_zero hul'
   subst hus
   have hold : (Builtin.firstCells i.size 0 (.slice a 0 0)).run P w.drew = .ok ([] : List Value).toArray w.drew := by
    cases a with
    | none => exact Go.run_firstCells_none w.drew i.size 0 0 0
    | some b => exact Go.run_firstCells_some w.drew i.size 0 b 0 0 [] (by simp) (by simp)
   have hr := Go.run_append_grow_src (P := P) w t tx ty e i z ht hi hz a 0 0 [] hold (.string ⟨s.toArray⟩) s.length (bytesV s) hs' (by omega) (by omega) (Go.growslice_fits (by omega) hbytes)
   obtain ⟨r1,r2,r3,r4,r5,r6⟩ := rest (.cells (([] ++ bytesV s).toArray ++ Builtin.zeroCells z.cells (Go.grownCap w (0 + s.length) 0 e - (0 + s.length))) e)
   exact ⟨_,_,hr,grown 0 (by omega),r1,r2,r3,r4,r5,r6 _ _,fun h => absurd h hm⟩
  ·obtain ⟨fr,hg,hfr⟩ := hg
   have hbl : ∀ k,au (.slice (some ⟨g,0,none⟩) k cap) = some g := by intro k; simp only [au]; rw [if_neg (by omega)]
   by_cases hroom : n + s.length ≤ cap
   ·have hr := mh (ty := ty) t tx e e' i ht hu hi hsz g n cap cur hg (hfr.or hcs) s hroom (by omega)
    refine ⟨_,_,hr,⟨hlen,.inr ⟨g,cap,_,e',rfl,hc0,⟨fr,Go.setRow_heap w g cur _ e' _ hg,hfr⟩,hroom,hcm,?_,?_⟩⟩,rfl,rfl,rfl,Nat.le_of_eq setRow_size.symm,fun k _ hne => eN (fun e => hne (by rw [e]; exact hbl _)),fun k hk => .inl ?_,fun h => absurd h hm⟩
    ·simp only [List.size_toArray,List.length_append,List.length_take,List.length_drop,Array.length_toList,hl]
     omega
    ·have : cur.toList.take n = us := by rw [← htake,Nat.mul_one]
     rw [this,← hlen]
     exact List.take_left
    ·rw [hbl _] at hk ⊢; exact hk
   ·have hcell : ∀ (j : Nat) u,us[j]? = some u → w.drew.cell? ((⟨g,0,none⟩ : Addr).add j) = some u := by
     intro j u hj
     have : w.cell? ((⟨g,0,none⟩ : Addr).add j) = some u := by
      rw [Go.Addr.add_lit,Nat.zero_add,Go.cell_of_row w g j cur e' _ hg]
      rw [← htake,List.getElem?_take] at hj
      split at hj
      ·simpa using hj
      ·cases hj
     simpa using this
    have hold : (Builtin.firstCells i.size n (.slice (some ⟨g,0,none⟩) n cap)).run P w.drew = .ok us.toArray w.drew := Go.run_firstCells_some w.drew i.size n ⟨g,0,none⟩ n cap us (by rw [hsz]; exact hul) hcell
    have hr := Go.run_append_grow_src (P := P) w t tx ty e i z ht hi hz (some ⟨g,0,none⟩) n cap us hold (.string ⟨s.toArray⟩) s.length (bytesV s) hs' (by omega) (by omega) (Go.growslice_fits (by omega) hbytes)
    obtain ⟨r1,r2,r3,r4,r5,r6⟩ := rest (.cells ((us ++ bytesV s).toArray ++ Builtin.zeroCells z.cells (Go.grownCap w (n + s.length) cap e - (n + s.length))) e)
    exact ⟨_,_,hr,grown cap (by omega),r1,r2,r3,r4,r5,r6 _ _,fun h => absurd h hm⟩
def eQ (s : List UInt8) : List PV := s.map fun b => .int .u8 b.toNat
theorem flat_bytes {s : List UInt8} : FlatRel N.fn w S 1 (eQ s) (bytesV s) := by
 refine ⟨fun x hx => ?_,fun i x j c hx hc => ?_⟩
 ·obtain ⟨b,_,rfl⟩ := List.mem_map.1 hx
  exact ⟨rfl,fun c hc => by simp only [PV.cells,List.mem_singleton] at hc; subst hc; rfl⟩
 ·simp only [eQ,List.getElem?_map,Option.map_eq_some_iff] at hx
  obtain ⟨b,hb,rfl⟩ := hx
  cases j with
  | succ j => simp [PV.cells] at hc
  | zero =>
   simp only [PV.cells,List.getElem?_cons_zero,Option.some.injEq] at hc
   subst hc
   have e : (bytesV s).getD (i * 1 + 0) undef = .int .u8 b.toNat := by
    simp [bytesV,List.getD_eq_getElem?_getD,hb]
   rw [e]
   exact .int _ _
theorem zU (hr : Rel N.fn w S μ H) {t tx ty e : TypeId} {i : Go.TypeInfo} {z : Value} {x y : Value} {x' y' : AV} {r : AV × Heap} (ht : P.underlying t = some (.slice e)) (hu : P.underlying tx = some .string) (hi : P.info? e = some i) (hz : i.zero = some z)
  (hsz : i.size = 1) (hzs : z.cells.size = 1) (hb : i.bytes ≤ 65536) (hx : RelV N.fn w S μ H x' x) (hy : RelV N.fn w S μ H y' y) (hv : mJ H x' y' = some r) :
  ∃ v' w' μ',(Builtin.append_ #[t,tx] ty #[x,y]).run P w = .ok v' w' ∧ Step N.fn w S μ H w' S μ' r.2 ∧ RelV N.fn w' S μ' r.2 r.1 v' := by
 unfold mJ at hv
 split at hv
 rotate_left
 ·cases hv
 rename_i s
 rw [hy.str_inv]
 have hbl : (eQ s).length = s.length := by simp [eQ]
 split at hv
 ·rename_i id n
  simp only [aW] at hv
  split at hv
  rotate_left
  ·cases hv
  rename_i sz' xs hb'
  simp only [Option.ite_none_right_eq_some,Option.some.injEq] at hv
  obtain ⟨⟨rfl,rfl,hlim⟩,rfl⟩ := hv
  have hrow : rowOf H id xs.length = some (1,xs) := by simp [rowOf,hb']
  rw [hx.own_inv hrow]
  obtain ⟨_,_,us,h3,h4,h5,_⟩ := hr.blk id _ hb'
  rw [List.length_append] at hlim
  have hlim : xs.length + (eQ s).length ≤ lim := hlim
  rw [hbl] at hlim
  obtain ⟨v',w',r1,r2,r3,r4,r5,r6,r7,r8,r9⟩ := iv (ty := ty) ht hu hi hz hsz hzs h3 hlim hb
  show ∃ v' w' μ',(Builtin.append_ #[t,tx] ty #[μ id,.string ⟨s.toArray⟩]).run P w = .ok v' w' ∧ Step N.fn w S μ H w' S μ' (H.set id (.row false 1 (xs ++ eQ s))) ∧ RelV N.fn w' S μ' (H.set id (.row false 1 (xs ++ eQ s))) (.own id (xs ++ eQ s).length) v'
  have hm : Moves μ H (upd μ id v') (H.set id (.row false 1 (xs ++ eQ s))) := dD hb' (by simp) (fun h => r9 (by
   have h : (xs ++ eQ s).length = xs.length := by simpa using h
   rw [List.length_append,hbl] at h; omega))
  have keepS : ∀ g,S g → w'.heap[g]? = w.heap[g]? := fun g hg => r7 g (hr.lt g hg) (fun e => hr.apart g (alive_iff.2 ⟨id,_,hb',.inr ⟨1,xs,rfl⟩,e⟩) hg)
  have hfl : FlatRel N.fn w' S 1 (xs ++ eQ s) (us ++ bytesV s) := (FlatRel.append ⟨h4,h5⟩ flat_bytes h3.1).keep keepS
  have hlt := (List.getElem?_eq_some_iff.1 hb').1
  refine ⟨v',w',upd μ id v',r1,Step.set hr hb' (.inr ⟨1,xs,rfl⟩) r3 r4 r5 r6 r7 hm ⟨by decide,by rw [List.length_append,hbl]; exact hlim,us ++ bytesV s,by rw [upd_same,List.length_append,hbl]; exact r2,hfl.1,hfl.2,fun h => by cases h⟩ r8,?_⟩
  refine .own _ _ _ (by simpa using hlt) (fun f sz2 xs2 h => ?_) ?_
  ·simp only [List.getElem?_set,hlt,if_true,Option.some.injEq,Blk.row.injEq] at h
   obtain ⟨_,_,rfl⟩ := h
   exact ⟨Nat.le_refl _,fun _ => upd_same.symm⟩
  ·obtain ⟨_,h⟩ := r2
   rcases h with ⟨_,a,h⟩ | ⟨g,cap,cur,e,h,_⟩ <;> rw [h] <;> rfl
 ·rename_i k0
  simp only [aW,List.nil_append,Option.ite_none_right_eq_some,Option.some.injEq] at hv
  obtain ⟨⟨_,hlim⟩,rfl⟩ := hv
  have hlim : (eQ s).length ≤ lim := hlim
  have hx := hx.p_inv
  cases hx with
  | sl _ _ _ a cap us h1 h2 h3 h4 h5 h6 h7 h8 =>
  obtain ⟨_,rfl,rfl⟩ := h4 (.inl rfl)
  have hrow : RowAt w (.slice none 0 0) 1 0 [] := ⟨by simp,.inl ⟨rfl,none,rfl⟩⟩
  obtain ⟨v',w',r1,r2,r3,r4,r5,r6,r7,r8,r9⟩ := iv (ty := ty) (s := s) ht hu hi hz hsz hzs hrow (by rw [hbl] at hlim; omega) hb
  have hg : Grows w w' := ⟨r3,r4,r5,r6,fun g hg => r7 g hg (by simp [au])⟩
  rw [Nat.zero_add,List.nil_append] at r2
  rw [← hbl] at r2
  obtain ⟨μ',s1,s2⟩ := bV hr hg (by decide) hlim r2 (flat_bytes.keep (hr.keepS hg)) (fun g hg => by
   rcases r8 g hg with h | h
   ·simp [au] at h
   ·exact h)
  exact ⟨v',w',μ',r1,s1,s2⟩
 ·cases hv
end
end Ab
namespace Ab
open Go (IntKind BinOp UnOp World Value Addr Obj undef maxLen Program TypeId Oper Op Operand Act Sem Next Result execOp Builtin)
section
variable {Γ : Ctx} {N : Names} {P : Program} {w : World} {S : Nat → Prop} {μ : Nat → Value} {H : Heap}
theorem BX (hr : Rel N.fn w S μ H) {id sz : Nat} {f : Bool} {xs : List PV} (hb : H[id]? = some (.row f sz xs)) (h0 : 0 < xs.length) : ∃ g cap cur t us,μ id = .slice (some ⟨g,0,none⟩) xs.length cap ∧ tw w g cur t sz cap ∧
  xs.length ≤ cap ∧ cap ≤ maxLen ∧ cur.size = cap * sz ∧ cur.toList.take (xs.length * sz) = us ∧ us.length = xs.length * sz ∧ FlatRel N.fn w S sz xs us := by
 obtain ⟨_,_,us,⟨h1,h2⟩,h3,h4,_⟩ := hr.blk id _ hb
 rcases h2 with ⟨h,_⟩ | ⟨g,cap,cur,t,q3,q4,q5,q6,q7,q8,q9⟩
 ·omega
 ·exact ⟨g,cap,cur,t,us,q3,q5,q6,q7,q8,q9,h1,h3,h4⟩
theorem q_wslice (hr : Rel N.fn w S μ H) {T e : TypeId} {sz : Nat} {x : Value} {x' v : AV} {lo hi : Option AV} {lo' hi' : Option Value} (hT : slT P T = some e) (hs : (P.info? e).map (·.size) = some sz)
  (hx : RelV N.fn w S μ H x' x) (hlo : RelO N.fn w S μ H lo lo') (hhi : RelO N.fn w S μ H hi hi') (hv : gF H sz x' lo hi = some v) :
  ∃ u,(Go.Instr.sliceAt T x lo' hi' none).run P w = .ok u w ∧ RelV N.fn w S μ H v u := by
 unfold gF at hv
 split at hv
 rotate_left
 ·cases hv
 rename_i id n
 obtain ⟨r,hrr,hv⟩ := Option.bind_eq_some_iff.1 hv
 rw [Option.ite_none_right_eq_some] at hv
 obtain ⟨hsr,hv1⟩ := hv
 obtain ⟨h,hh,hv2⟩ := Option.bind_eq_some_iff.1 hv1
 obtain ⟨l,hl,hv3⟩ := Option.bind_eq_some_iff.1 hv2
 rw [Option.ite_none_right_eq_some,Option.some.injEq] at hv3
 obtain ⟨hln,rfl⟩ := hv3
 subst hsr
 obtain ⟨f,hb,hn⟩ := aO hrr
 subst hn
 obtain ⟨g,cap,cur,t,us,e1,e2,e3,e4,e5,e6,e7,e8⟩ := BX hr hb (by omega)
 have hx1 : x = μ id := hx.own_inv hrr
 obtain ⟨b1,b2,b3⟩ := cx (P := P) (sl := true) (cap := cap) hlo hhi e3 hh hl
 rw [hx1,e1]
 refine ⟨.slice (some ⟨g,l * r.1,none⟩) (h - l) (cap - l),?_,.el _ _ _ _ _ (List.getElem?_eq_some_iff.1 hb).1 (fun f2 sz2 xs2 hz => ?_) rfl⟩
 ·have hne : ¬ cap = l := by omega
  simp [Go.Instr.sliceAt,Go.Instr.slice,Go.run_underlying (bn hT),b1,run_sizeOf hs,hne,Go.Addr.add_lit]
 ·rw [hb] at hz; cases hz
  exact ⟨Nat.le_refl _,fun _ => ⟨fun hi => by omega,fun _ _ _ _ => ⟨g,cap,e1,by rw [show r.2.length + l - r.2.length = l by omega]⟩⟩⟩
theorem FlatRel.take {ν : Nat → Nat} {xs : List PV} {us : List Value} (hx : FlatRel ν w S 1 xs us) (k : Nat) : FlatRel ν w S 1 (xs.take k) (us.take k) := by
 refine ⟨fun x h => hx.1 x (List.mem_of_mem_take h),fun i x j c hi hc => ?_⟩
 obtain ⟨h1,h2⟩ := dZ hi
 have hj : j < 1 := by rw [← (hx.1 x (List.mem_of_getElem? h2)).1]; exact (List.getElem?_eq_some_iff.1 hc).1
 have := hx.2 i x j c h2 hc
 have e : (us.take k).getD (i * 1 + j) undef = us.getD (i * 1 + j) undef := by
  simp only [List.getD_eq_getElem?_getD,List.getElem?_take]
  rw [if_pos (by omega)]
 rwa [e]
theorem FlatRel.drop {ν : Nat → Nat} {xs : List PV} {us : List Value} (hx : FlatRel ν w S 1 xs us) (k : Nat) : FlatRel ν w S 1 (xs.drop k) (us.drop k) := by
 refine ⟨fun x h => hx.1 x (List.mem_of_mem_drop h),fun i x j c hi hc => ?_⟩
 rw [List.getElem?_drop] at hi
 have := hx.2 (k + i) x j c hi hc
 have e : (us.drop k).getD (i * 1 + j) undef = us.getD ((k + i) * 1 + j) undef := by
  simp only [List.getD_eq_getElem?_getD,List.getElem?_drop]
  rw [show k + (i * 1 + j) = (k + i) * 1 + j by omega]
 rwa [e]
theorem win_src (hr : Rel N.fn w S μ H) {y : Value} {y' : AV} {ys : List PV} (hy : RelV N.fn w S μ H y' y) (hv : ey H 1 y' = some ys) : ∃ news,Src w y 1 ys.length news ∧ FlatRel N.fn w S 1 ys news := by
 unfold ey at hv
 split at hv
 ·rename_i id n i h
  simp only [Option.ite_none_right_eq_some] at hv
  obtain ⟨⟨h1,h2,h3,h4⟩,hv⟩ := hv
  obtain ⟨r,hrr,hv⟩ := Option.bind_eq_some_iff.1 hv
  simp only [Option.ite_none_right_eq_some,Option.some.injEq] at hv
  obtain ⟨e,rfl⟩ := hv
  obtain ⟨f,hb,hn⟩ := aO hrr
  subst hn
  obtain ⟨g,cap,cur,t,us,e1,e2,e3,e4,e5,e6,e7,e8⟩ := BX hr hb (by omega)
  cases hy with
  | el _ _ _ _ _ hl hx0 _ =>
  obtain ⟨_,hx1⟩ := hx0 _ _ _ hb
  obtain ⟨g',cap',k1,rfl⟩ := (hx1 rfl).2 h1 h2 h3 h4
  rw [e1] at k1
  cases k1
  rw [← e] at *
  simp only [Nat.mul_one] at *
  have hlen : ((r.2.take h).drop (i - r.2.length)).length = h - (i - r.2.length) := by simp only [List.length_drop,List.length_take]; omega
  refine ⟨(us.take h).drop (i - r.2.length),⟨?_,fun u hu => ?_,.inr ⟨_,_,by rw [hlen],fun j u hu => ?_⟩⟩,(e8.take h).drop _⟩
  ·rw [hlen]; simp only [List.length_drop,List.length_take]; omega
  ·have hm := List.mem_of_mem_take (List.mem_of_mem_drop hu)
   obtain ⟨k,hk,rfl⟩ := List.getElem_of_mem hm
   have hkx : r.2[k]? = some r.2[k] := List.getElem?_eq_getElem (by omega)
   have hc := (e8.1 _ (List.mem_of_getElem? hkx))
   obtain ⟨c,hc1⟩ : ∃ c,r.2[k].cells[0]? = some c := ⟨_,List.getElem?_eq_getElem (show 0 < r.2[k].cells.length by rw [hc.1]; decide)⟩
   have hrp := e8.2 k _ 0 c hkx hc1
   rw [Nat.mul_one,Nat.add_zero,List.getD_eq_getElem?_getD,List.getElem?_eq_getElem hk] at hrp
   have := hrp.one
   simp only [Option.getD_some] at this
   rw [this]
   exact hc.2 c (List.mem_of_getElem? hc1)
  ·rw [List.getElem?_drop,List.getElem?_take] at hu
   split at hu
   ·rename_i hlt
    obtain ⟨fr,e2,efr⟩ := e2
    rw [Go.Addr.add_lit,Go.cell_of_row w g _ cur t _ e2]
    rw [← e6,List.getElem?_take] at hu
    split at hu
    ·simpa using hu
    ·cases hu
   ·cases hu
 ·exact kC hr (by decide) hy hv
theorem pT (w : World) (dT sT ty elem : TypeId) (g o dLen dCap : Nat) (a : Addr) (sLen sCap : Nat) (cur : Array Value) (t : TypeId) (cs : List Value) {fr : Nat × Nat}
  (hu : P.underlying dT = some (.slice elem)) (hs : (P.info? elem).map (·.size) = some 1)
  (hg : w.heap[g]? = some (.cells cur t fr)) (hfr : fr = (0,0) ∨ cur.size ≤ fr.1) (hn : cs.length = Nat.min sLen dLen)
  (hsrc : ∀ (j : Nat) v,cs[j]? = some v → w.cell? (a.add j) = some v) (hfit : o + cs.length ≤ cur.size) (h1 : ∀ v ∈ cs,v.oneCell' = true) :
  (Builtin.copy_ #[dT,sT] ty #[.slice (some ⟨g,o,none⟩) dLen dCap,.slice (some a) sLen sCap]).run P w =
   .ok (Go.goInt cs.length) (w.setRow g (cur.toList.take o ++ cs ++ cur.toList.drop (o + cs.length)).toArray) := by
 have hl := Go.run_loadCells_list (P := P) w a cs hsrc
 have hst := bL P g o t fr cs 0 cur w hg hfr (by simpa using hfit) h1
 cases hq : P.info? elem with
 | none => simp [hq] at hs
 | some i =>
  have hi : i.size = 1 := by simpa [hq] using hs
  simp [Builtin.copy_,Go.run_underlying hu,Builtin.lenOf,Builtin.firstCells,Go.sizeOf,Go.typeInfo,hq,hi,← hn,hl,hst]
theorem x_copy (hr : Rel N.fn w S μ H) {T T' ty e : TypeId} {x y : Value} {x' y' : AV} {ys : List PV} {r : AV × Heap} (hT : slT P T = some e) (hs : (P.info? e).map (·.size) = some 1)
  (hx : RelV N.fn w S μ H x' x) (hy : RelV N.fn w S μ H y' y) (hys : ey H 1 y' = some ys) (hv : tF H 1 x' ys = some r) :
  ∃ v' w' μ',(Builtin.copy_ #[T,T'] ty #[x,y]).run P w = .ok v' w' ∧ Step N.fn w S μ H w' S μ' r.2 ∧ RelV N.fn w' S μ' r.2 r.1 v' := by
 obtain ⟨news,⟨s1,s2,s3⟩,s4⟩ := win_src hr hy hys
 -- the piece that is written
 obtain ⟨id,xs,l,h,c,hb,h0,h1,h2,hx,rfl⟩ : ∃ (id : Nat) (xs : List PV) (l h c : Nat),H[id]? = some (.row false 1 xs) ∧ 0 < xs.length ∧ l ≤ h ∧ h ≤ xs.length ∧
   (∀ g cap,μ id = .slice (some ⟨g,0,none⟩) xs.length cap → ∃ c,x = .slice (some ⟨g,l,none⟩) (h - l) c) ∧ r = (.p (.int .i64 (min ys.length (h - l) : Nat)),H.set id (.row false 1 (cz xs l (ys.take (h - l))))) := by
  unfold tF at hv
  split at hv
  ·rename_i id n
   split at hv
   ·rename_i sz' xs hb
    simp only [Option.ite_none_right_eq_some,Option.some.injEq] at hv
    obtain ⟨⟨rfl,rfl,h0⟩,rfl⟩ := hv
    have hrow : rowOf H id xs.length = some (1,xs) := by simp [rowOf,hb]
    exact ⟨id,xs,0,xs.length,0,hb,h0,by omega,Nat.le_refl _,fun g cap hg => ⟨cap,by rw [hx.own_inv hrow,hg,Nat.sub_zero]⟩,by rw [Nat.sub_zero]⟩
   ·cases hv
  ·rename_i id n i h
   simp only [Option.ite_none_right_eq_some] at hv
   obtain ⟨⟨k1,k2,k3,k4⟩,hv⟩ := hv
   split at hv
   ·rename_i sz' xs hb
    simp only [Option.ite_none_right_eq_some,Option.some.injEq] at hv
    obtain ⟨⟨rfl,rfl⟩,rfl⟩ := hv
    refine ⟨id,xs,i - xs.length,h,0,hb,by omega,k3,k4,fun g cap hg => ?_,rfl⟩
    cases hx with
    | el _ _ _ _ _ hl hx0 _ =>
    obtain ⟨_,hx1⟩ := hx0 _ _ _ hb
    obtain ⟨g',cap',e1,rfl⟩ := (hx1 rfl).2 k1 k2 k3 k4
    rw [hg] at e1
    cases e1
    exact ⟨_,by rw [Nat.mul_one]⟩
   ·cases hv
  ·cases hv
 obtain ⟨g,cap,cur,t,us,e1,e2,e3,e4,e5,e6,e7,e8⟩ := BX hr hb h0
 obtain ⟨c,rfl⟩ := hx g cap e1
 simp only [Nat.mul_one] at e5 e6 e7 s1
 obtain ⟨fr,e2,efr⟩ := e2
 have hcl : (news.take (h - l)).length = min ys.length (h - l) := by rw [List.length_take,s1,Nat.min_comm]
 have hpl : (ys.take (h - l)).length = min ys.length (h - l) := by rw [List.length_take,Nat.min_comm]
 have hfit : l + (news.take (h - l)).length ≤ cur.size := by rw [hcl]; omega
 have hspl : (cz xs l (ys.take (h - l))).length = xs.length := by
  simp only [cz,List.length_append,List.length_take,List.length_drop]; omega
 have hsplu : (us.take l ++ news.take (h - l) ++ us.drop (l + (news.take (h - l)).length)).length = xs.length := by
  simp only [List.length_append,List.length_take,List.length_drop]; omega
 have hflat : FlatRel N.fn w S 1 (cz xs l (ys.take (h - l))) (us.take l ++ news.take (h - l) ++ us.drop (l + (news.take (h - l)).length)) := by
  unfold cz
  rw [hpl,hcl]
  refine FlatRel.append (FlatRel.append (e8.take l) (s4.take _) ?_) (e8.drop _) ?_
  ·simp only [List.length_take]; omega
  ·simp only [List.length_append,List.length_take,s1]; omega
 have hlt := (List.getElem?_eq_some_iff.1 hb).1
 -- what memory is then
 have fin : ∀ w' : World,w'.os = w.os → w'.tape = w.tape → w'.output = w.output → w.heap.size ≤ w'.heap.size → (∀ k,k ≠ g → w'.heap[k]? = w.heap[k]?) →
   (∃ cur',w'.heap[g]? = some (.cells cur' t fr) ∧ cur'.size = cur.size ∧ cur'.toList.take xs.length = us.take l ++ news.take (h - l) ++ us.drop (l + (news.take (h - l)).length)) →
   Step N.fn w S μ H w' S (upd μ id (μ id)) (H.set id (.row false 1 (cz xs l (ys.take (h - l))))) := by
  intro w' q1 q2 q3 q4 q5 ⟨cur',q6,q7,q8⟩
  have hk : ∀ k,k < w.heap.size → au (μ id) ≠ some k → w'.heap[k]? = w.heap[k]? := by
   intro k _ hne
   rw [e1] at hne
   simp only [au] at hne
   rw [if_neg (by omega)] at hne
   exact q5 k (fun e => hne (by rw [e]))
  have keepS : ∀ k,S k → w'.heap[k]? = w.heap[k]? := fun k hk' => hk k (hr.lt k hk') (fun e => hr.apart k (alive_iff.2 ⟨id,_,hb,.inr ⟨1,xs,rfl⟩,e⟩) hk')
  have hm : Moves μ H (upd μ id (μ id)) (H.set id (.row false 1 (cz xs l (ys.take (h - l))))) := dD hb (by rw [hspl]; exact Nat.le_refl _) (fun _ => rfl)
  have hlim : xs.length ≤ lim := (hr.blk id _ hb).2.1
  have hfk := hflat.keep keepS
  refine Step.set hr hb (.inr ⟨1,xs,rfl⟩) q1 q2 q3 q4 hk hm ⟨by decide,by rw [hspl]; exact hlim,_,⟨by rw [hsplu,hspl,Nat.mul_one],.inr ⟨g,cap,cur',t,?_,by omega,⟨fr,q6,efr⟩,by rw [hspl]; exact e3,e4,by rw [q7,e5,Nat.mul_one],by rw [hspl,Nat.mul_one]; exact q8⟩⟩,hfk.1,hfk.2,fun hf => by cases hf⟩ (fun k h => .inl h)
  rw [upd_same,e1,hspl]
 have hres : RelV N.fn w S (upd μ id (μ id)) (H.set id (.row false 1 (cz xs l (ys.take (h - l))))) (.p (.int .i64 ((min ys.length (h - l) : Nat) : Int))) (Go.goInt ((min ys.length (h - l) : Nat) : Int)) := .p _ _ (.int _ _)
 by_cases hz : min ys.length (h - l) = 0
 ·have hnil : news.take (h - l) = [] := List.eq_nil_of_length_eq_zero (by rw [hcl,hz])
  obtain ⟨a,c2,rfl⟩ : ∃ a c2,y = .slice a ys.length c2 := by
   rcases s3 with ⟨a,c2,h,_⟩ | ⟨ad,c2,h,_⟩
   ·exact ⟨a,c2,h⟩
   ·exact ⟨_,c2,h⟩
  have hrun := Go.run_copy_none (P := P) w T T' ty e (some ⟨g,l,none⟩) a (h - l) c ys.length c2 (bn hT) hs hz
  refine ⟨_,w,_,hrun,fin w rfl rfl rfl (Nat.le_refl _) (fun _ _ => rfl) ⟨cur,e2,rfl,?_⟩,?_⟩
  ·rw [e6,hnil,List.length_nil,Nat.add_zero,List.append_nil,List.take_append_drop]
  ·rw [hz]; exact .p _ _ (.int _ _)
 ·obtain ⟨ad,c2,rfl,hnews⟩ : ∃ ad c2,y = .slice (some ad) ys.length c2 ∧ ∀ (j : Nat) u,news[j]? = some u → w.cell? (ad.add j) = some u := by
   rcases s3 with ⟨a,c2,_,h⟩ | h
   ·omega
   ·exact h
  have hrun := pT (P := P) w T T' ty e g l (h - l) c ad ys.length c2 cur t (news.take (h - l)) (bn hT) hs e2 (efr.or (by omega)) (by rw [hcl]) (fun j v hj => by
   rw [List.getElem?_take] at hj
   split at hj
   ·exact hnews j v hj
   ·cases hj) hfit (fun v hv => s2 v (List.mem_of_mem_take hv))
  refine ⟨_,_,_,hrun,fin _ rfl rfl rfl (Nat.le_of_eq setRow_size.symm) (fun k hk => eN hk) ⟨_,Go.setRow_heap w g cur _ t _ e2,?_,?_⟩,?_⟩
  ·simp only [List.size_toArray,List.length_append,List.length_take,List.length_drop,Array.length_toList]
   simp only [List.length_take] at hfit
   omega
  ·have eu : us = cur.toList.take xs.length := e6.symm
   have hl0 : l ≤ xs.length := by omega
   have hk : l + (news.take (h - l)).length ≤ xs.length := by rw [hcl]; omega
   have a1 : cur.toList.take l = us.take l := by rw [eu,List.take_take,Nat.min_eq_left hl0]
   have a2 : us.drop (l + (news.take (h - l)).length) = (cur.toList.drop (l + (news.take (h - l)).length)).take (xs.length - (l + (news.take (h - l)).length)) := by rw [eu,List.drop_take]
   have a3 : (us.take l ++ news.take (h - l)).length = l + (news.take (h - l)).length := by rw [List.length_append,List.length_take,e7]; omega
   rw [a1,a2]
   generalize (news.take (h - l)) = cs at *
   rw [show (us.take l ++ cs ++ cur.toList.drop (l + cs.length)).toArray.toList = us.take l ++ cs ++ cur.toList.drop (l + cs.length) from rfl]
   rw [List.take_append,a3,List.take_of_length_le (by rw [a3]; exact hk)]
  ·rw [hcl]; exact .p _ _ (.int _ _)
end
end Ab
namespace Ab
open Go (IntKind BinOp UnOp World Value Addr Obj undef maxLen Program TypeId Oper Op Operand Act Sem Next Result execOp Builtin)
section
variable {Γ : Ctx} {N : Names} {P : Program} {w : World} {S : Nat → Prop} {μ : Nat → Value} {H : Heap}
theorem ur (w : World) (e : TypeId) (s : ByteArray) : Grows w (Go.Lib.bytesWorld w e s) := by
 refine ⟨?_,?_,?_,?_,fun g hg => Go.Lib.bytesWorld_at_old w e s g hg⟩
 ·simp [Go.Lib.bytesWorld,World.freeze,World.alloc,World.drew,-World.alloc_eq,-World.drew_eq]
 ·simp [Go.Lib.bytesWorld,World.freeze,World.alloc,World.drew,-World.alloc_eq,-World.drew_eq]
 ·simp [Go.Lib.bytesWorld,World.freeze,World.alloc,World.drew,-World.alloc_eq,-World.drew_eq]
 ·rw [Go.Lib.bytesWorld_size]; omega
theorem Ar (hr : Rel N.fn w S μ H) {s d e : TypeId} {x : Value} {x' : AV} {r : AV × Heap} (hs : strT P s = true) (hd : slT P d = some e) (he : P.underlying e = some (.int .u8)) (hx : RelV N.fn w S μ H x' x) (hv : kK H x' = some r) :
  ∃ v' w' μ',(Go.convert s d x).run P w = .ok v' w' ∧ Step N.fn w S μ H w' S μ' r.2 ∧ RelV N.fn w' S μ' r.2 r.1 v' := by
 unfold kK at hv
 split at hv
 rotate_left
 ·cases hv
 rename_i l
 simp only [Option.ite_none_right_eq_some,Option.some.injEq] at hv
 obtain ⟨hlim,rfl⟩ := hv
 have hlim' : l.length ≤ 1073741824 := hlim
 rw [hx.str_inv]
 have hrun := Go.Lib.run_convert_string_bytes (P := P) w s d e ⟨l.toArray⟩ (cP hs) (bn hd) he
 have hsz : (⟨l.toArray⟩ : ByteArray).size = l.length := by simp [ByteArray.size]
 have hge := Go.grownCap_ge w l.length 0 e
 have hcm : Go.grownCap w l.length 0 e ≤ maxLen := Go.grownCap_le_maxLen w l.length 0 e (by simp only [maxLen]; omega)
 have hcs : (Go.Lib.bytesCells w e ⟨l.toArray⟩).size = Go.grownCap w l.length 0 e := by
  simp only [Go.Lib.bytesCells,Array.size_append,Array.size_map,Array.size_replicate,hsz,List.size_toArray]
  omega
 have htk : (Go.Lib.bytesCells w e ⟨l.toArray⟩).toList.take l.length = bytesV l := by
  simp only [Go.Lib.bytesCells,Array.toList_append,Array.toList_map]
  rw [List.take_left' (by simp)]
  rfl
 have hbl : (eQ l).length = l.length := by simp [eQ]
 have hrow : RowAt (Go.Lib.bytesWorld w e ⟨l.toArray⟩) (.slice (some ⟨w.heap.size,0,none⟩) l.length (Go.grownCap w l.length 0 e)) 1 (eQ l).length (bytesV l) := by
  rw [hbl]
  refine ⟨by rw [iZ,Nat.mul_one],?_⟩
  by_cases h0 : Go.grownCap w l.length 0 e = 0
  ·exact .inl ⟨by omega,_,by rw [h0,show l.length = 0 by omega]⟩
  ·exact .inr ⟨w.heap.size,_,_,e,rfl,by omega,⟨_,Go.Lib.bytesWorld_at_new w e _,.inr ⟨rfl,by rw [hcs]; exact Nat.le_refl _⟩⟩,hge,hcm,by rw [hcs,Nat.mul_one],by rw [Nat.mul_one,htk]⟩
 have hg := ur w e ⟨l.toArray⟩
 obtain ⟨μ',s1,s2⟩ := bV hr hg (by decide) (by rw [hbl]; exact hlim) hrow (flat_bytes.keep (hr.keepS hg)) (fun g hg => by
  simp only [au] at hg
  split at hg
  ·cases hg
  ·simp only [Option.some.injEq] at hg; omega)
 rw [hbl] at s2
 rw [hsz] at hrun
 exact ⟨_,_,μ',hrun,s1,s2⟩
end
end Ab
namespace Ab
open Go (IntKind BinOp UnOp World Value Addr Obj undef maxLen Program TypeId Oper Op Operand Act Sem Next Result execOp Builtin)
def rowT (P : Program) (e : TypeId) (sz : Nat) : Bool :=
 match P.info? e with
 | some i => i.size == sz && decide (i.bytes ≤ 65536) && (match i.zero with | some z => z.cells.size == sz | none => false)
 | none => false
theorem ir {P e sz} (h : rowT P e sz = true) : ∃ i z,P.info? e = some i ∧ i.size = sz ∧ i.bytes ≤ 65536 ∧ i.zero = some z ∧ z.cells.size = sz := by
 unfold rowT at h
 split at h
 ·rename_i i hi
  simp only [Bool.and_eq_true,beq_iff_eq,decide_eq_true_eq] at h
  obtain ⟨⟨h1,h2⟩,h3⟩ := h
  split at h3
  ·rename_i z hz
   simp only [beq_iff_eq] at h3
   exact ⟨i,z,hi,h1,h2,hz,h3⟩
  ·cases h3
 ·cases h
section
variable {Γ : Ctx} {N : Names} {P : Program} {w : World} {S : Nat → Prop} {μ : Nat → Value} {H : Heap}
theorem q_appq (hr : Rel N.fn w S μ H) {t ty e : TypeId} {i : Go.TypeInfo} {z : Value} {sz : Nat} {x y : Value} {x' y' v : AV} (ht : P.underlying t = some (.slice e)) (hi : P.info? e = some i) (hz : i.zero = some z)
  (hsz : i.size = sz) (hzs : z.cells.size = sz) (h0 : 0 < sz) (hb : i.bytes ≤ 65536) (hx : RelV N.fn w S μ H x' x) (hy : RelV N.fn w S μ H y' y) (hv : appqA sz x' y' = some v) :
  ∃ u w' S',(Builtin.append_ #[t,t] ty #[x,y]).run P w = .ok u w' ∧ Step N.fn w S μ H w' S' μ H ∧ RelV N.fn w' S' μ H v u := by
 unfold appqA at hv
 split at hv
 rotate_left
 ·cases hv
 rename_i k sz' k2 sz2 ys
 simp only [Option.ite_none_right_eq_some,Option.some.injEq] at hv
 obtain ⟨⟨hk,hk2,hlim⟩,rfl⟩ := hv
 obtain ⟨news,g1,g2⟩ := kC hr h0 hy (ys := ys) (by simp only [elemsOf]; rw [if_pos hk2])
 have hx := hx.p_inv
 cases hx with
 | sl _ _ _ a cap us h1 h2 h3 h4 h5 h6 h7 h8 =>
 have hcap : cap = 0 := by
  rcases hk with h | ⟨h,_⟩
  ·exact (h4 (.inl h)).2.2
  ·exact (h5 (.inl h)).2 h
 subst hcap
 have hrow : RowAt w (.slice a 0 0) sz 0 [] := ⟨by simp,.inl ⟨rfl,a,rfl⟩⟩
 obtain ⟨v',w',r1,r2,r3,r4,r5,r6,r7,r8,r9⟩ := fp (ty := ty) ht hi hz hsz hzs h0 hrow g1 (by omega) hb
 have hg : Grows w w' := ⟨r3,r4,r5,r6,fun g hg => r7 g hg (by cases a <;> simp [au])⟩
 have hnew : ∀ g,au v' = some g → w.heap.size ≤ g := fun g hg => by
  rcases r8 g hg with h | h
  ·cases a <;> simp [au] at h
  ·exact h
 rw [Nat.zero_add,List.nil_append] at r2
 obtain ⟨μ',s1,s2⟩ := bV hr hg h0 hlim r2 (g2.keep (hr.keepS hg)) hnew
 have hb' : (H ++ [Blk.row false sz ys])[H.length]? = some (.row false sz ys) := by rw [List.getElem?_append_right (Nat.le_refl _),Nat.sub_self]; rfl
 have he : v' = μ' H.length := s2.own_inv (r := (sz,ys)) (by simp [rowOf])
 have rp := iR (T := fun g => S g ∨ (w.heap.size ≤ g ∧ g < w'.heap.size)) s1.rel hb' (fun g h => .inl h) (fun g h => .inr ⟨hnew g (by rw [he]; exact h),s1.rel.blk_lt hb' h⟩)
 rw [← he] at rp
 exact ⟨v',w',fun g => S g ∨ (w.heap.size ≤ g ∧ g < w'.heap.size),r1,.grow hr hg (fun g h => .inl h) (fun g h => h.elim (fun h => Nat.lt_of_lt_of_le (hr.lt g h) hg.size) (fun h => h.2)) (fun g h => h.elim .inl (fun h => .inr h.1)),.p _ _ rp⟩
end
end Ab
namespace Ab
open Go (IntKind BinOp UnOp World Value Addr Obj undef maxLen Program TypeId Oper Op Operand Act Sem Next Result execOp Builtin TypeDesc MapEntry)
def KD.desc : KD → TypeDesc
 | .int k => .int k
 | .bool => .bool
 | .str => .string
section
variable {N : Names} {P : Program} {w : World} {S : Nat → Prop} {μ : Nat → Value} {H : Heap}
theorem uS {ν : Nat → Nat} {kd : KD} {k : PV} {u : Value} (h : ki kd k = true) (hr : RelP ν w S k u) : Go.MapKept.IsKey kd.desc u := by
 cases hr <;> cases kd <;> simp only [ki,decide_eq_true_eq,Bool.false_eq_true] at h <;> first | exact trivial | exact h
theorem str_beq (a b : List UInt8) : ((⟨a.toArray⟩ : ByteArray) == ⟨b.toArray⟩) = (a == b) := by
 by_cases h : a = b
 ·subst h
  rw [(Go.MapKept.bytes_beq _ _).2 rfl]
  simp
 ·have h2 : ((⟨a.toArray⟩ : ByteArray) == ⟨b.toArray⟩) = false := by
   rw [Bool.eq_false_iff]
   intro e
   apply h
   have := congrArg (fun x : ByteArray => x.data.toList) ((Go.MapKept.bytes_beq _ _).1 e)
   simpa using this
  rw [h2]
  simp [h]
def MapRel (ν : Nat → Nat) (w : World) (S : Nat → Prop) (μ : Nat → Value) (H : Heap) : List (PV × AV) → List MapEntry → Prop
 | [],[] => True
 | (k,v) :: es,e :: l => RelP ν w S k e.key ∧ v.ok = true ∧ RelV ν w S μ H v e.val ∧ MapRel ν w S μ H es l
 | _,_ => False
theorem MapRel.of {ν : Nat → Nat} : ∀ {es : List (PV × AV)} {l : List MapEntry},l.length = es.length → (∀ (j : Nat) k v,es[j]? = some (k,v) → ∃ e,l[j]? = some e ∧ RelP ν w S k e.key ∧ v.ok = true ∧ RelV ν w S μ H v e.val) → MapRel ν w S μ H es l
 | [],[],_,_ => trivial
 | [],_ :: _,h,_ => by simp at h
 | _ :: _,[],h,_ => by simp at h
 | (k,v) :: es,e :: l,h,g => by
  obtain ⟨e',h1,h2,h3,h4⟩ := g 0 k v rfl
  cases h1
  exact ⟨h2,h3,h4,MapRel.of (by simpa using h) fun j k v hj => by simpa using g (j + 1) k v (by simpa using hj)⟩
theorem MapRel.len {ν : Nat → Nat} : ∀ {es : List (PV × AV)} {l : List MapEntry},MapRel ν w S μ H es l → l.length = es.length
 | [],[],_ => rfl
 | (_,_) :: es,e :: l,h => by simp [MapRel.len h.2.2.2]
 | [],_ :: _,h => h.elim
 | (_,_) :: _,[],h => h.elim
theorem MapRel.get {ν : Nat → Nat} : ∀ {es : List (PV × AV)} {l : List MapEntry},MapRel ν w S μ H es l → ∀ (j : Nat) k v,es[j]? = some (k,v) → ∃ e,l[j]? = some e ∧ RelP ν w S k e.key ∧ v.ok = true ∧ RelV ν w S μ H v e.val
 | [],[],_,j,k,v,hj => by simp at hj
 | (k0,v0) :: es,e :: l,h,j,k,v,hj => by
  cases j with
  | zero =>
   simp only [List.getElem?_cons_zero,Option.some.injEq,Prod.mk.injEq] at hj
   obtain ⟨rfl,rfl⟩ := hj
   exact ⟨e,rfl,h.1,h.2.1,h.2.2.1⟩
  | succ j => simpa using MapRel.get h.2.2.2 j k v (by simpa using hj)
 | [],_ :: _,h,_,_,_,_ => h.elim
 | (_,_) :: _,[],h,_,_,_,_ => h.elim
theorem i4 {ν : Nat → Nat} {kd : KD} {k k' : PV} {u u' : Value} {b : Bool} (hk : ki kd k = true) (hr : RelP ν w S k u) (hr' : RelP ν w S k' u') (he : lm k k' = some b) : Go.Instr.sameNow kd.desc u u' = some b := by
 cases k <;> cases k' <;> simp only [lm,Option.ite_none_right_eq_some,Option.some.injEq,reduceCtorEq] at he
 ·obtain ⟨rfl,rfl⟩ := he
  cases hr; cases hr'
  cases kd <;> simp only [ki,Bool.false_eq_true] at hk
  simp [KD.desc,Go.Instr.sameNow]
 ·subst he
  cases hr; cases hr'
  cases kd <;> simp only [ki,Bool.false_eq_true] at hk
  simp [KD.desc,Go.Instr.sameNow]
 ·subst he
  cases hr; cases hr'
  cases kd <;> simp only [ki,Bool.false_eq_true] at hk
  simp only [KD.desc,Go.Instr.sameNow,str_beq]
theorem wE {ν : Nat → Nat} {kd : KD} {k : PV} {u : Value} (hk : ki kd k = true) (hr : RelP ν w S k u) : ∀ {es : List (PV × AV)} {l : List MapEntry} (i : Nat) {r : Option AV},MapRel ν w S μ H es l → jc k es = some r →
  match r with
  | none => Go.Instr.findNow kd.desc u l i = some none
  | some v => ∃ j e,Go.Instr.findNow kd.desc u l i = some (some (i + j,e.val)) ∧ l[j]? = some e ∧ v.ok = true ∧ RelV ν w S μ H v e.val ∧ e.key = u
 | [],[],i,r,_,h => by
  simp only [jc,Option.some.injEq] at h
  subst h
  rfl
 | (k',v) :: es,e :: l,i,r,hm,h => by
  simp only [jc] at h
  split at h
  ·rename_i he
   simp only [Option.some.injEq] at h
   subst h
   have hs := i4 hk hr hm.1 he
   refine ⟨0,e,by simp [Go.Instr.findNow,hs],rfl,hm.2.1,hm.2.2.1,?_⟩
   have hr' := hm.1
   revert hr' he hr
   cases k <;> cases k' <;> simp only [lm,Option.ite_none_right_eq_some,Option.some.injEq,reduceCtorEq,false_implies,implies_true]
   ·intro a b c
    obtain ⟨rfl,hb⟩ := b
    have hb := eq_of_beq hb
    subst hb
    cases a
    generalize e.key = z at c
    cases c
    rfl
   ·intro a b c
    have hb := eq_of_beq b
    subst hb
    cases a
    generalize e.key = z at c
    cases c
    rfl
   ·intro a b c
    have hb := eq_of_beq b
    subst hb
    cases a
    generalize e.key = z at c
    cases c
    rfl
  ·rename_i he
   have hs := i4 hk hr hm.1 he
   have ih := wE hk hr (i + 1) hm.2.2.2 h
   cases r with
   | none => simpa [Go.Instr.findNow,hs] using ih
   | some v' =>
    obtain ⟨j,e',h1,h2,h3⟩ := ih
    exact ⟨j + 1,e',by simp [Go.Instr.findNow,hs,h1]; omega,by simpa using h2,h3⟩
  ·cases h
 | [],_ :: _,_,_,hm,_ => hm.elim
 | (_,_) :: _,[],_,_,hm,_ => hm.elim
theorem po : ∀ {cs : List AV} {es : List (PV × AV)},jD cs = some es → cs = ef es
 | [],es,h => by
  simp only [jD,Option.some.injEq] at h
  subst h; rfl
 | [c],es,h => by
  cases c <;> simp [jD] at h
 | c :: v :: r,es,h => by
  cases c with
  | p k =>
   simp only [jD,Option.map_eq_some_iff] at h
   obtain ⟨es',h1,rfl⟩ := h
   rw [po h1]; rfl
  | _ => simp [jD] at h
theorem lz : ∀ (es : List (PV × AV)),jD (ef es) = some es
 | [] => rfl
 | (k,v) :: es => by simp [ef,jD,lz es]
theorem cg {id : Nat} {es : List (PV × AV)} (h : mapOf H id = some es) : H[id]? = some (.box (ah es)) := by
 unfold mapOf at h
 split at h
 ·rename_i cs hb
  rw [hb,po h]; rfl
 ·cases h
theorem Rel.map_of (hr : Rel N.fn w S μ H) {id : Nat} {es : List (PV × AV)} (h : mapOf H id = some es) : ∃ g arr clock,μ id = .pointer (some ⟨g,0,none⟩) ∧ w.heap[g]? = some (.map arr clock) ∧ Go.MapKept.Stamped arr clock ∧ MapRel N.fn w S μ H es arr.toList := by
 have hb := cg h
 obtain ⟨g,h1,⟨cs,t,h2,h3,h4,h5⟩ | ⟨s,pos,h2,h3⟩ | ⟨es',arr,clock,h2,h3,hst,h4,h5⟩⟩ := hr.blk id _ hb
 ·exact absurd (h4 .nov (by simp [ah])) (by simp [AV.one])
 ·simp [ah,cv] at h2
 ·have e : es' = es := by
   have := congrArg (fun x => jD (x.drop 2)) h2
   simp only [ah,List.drop_succ_cons,List.drop_zero,lz,Option.some.injEq] at this
   exact this.symm
  subst e
  exact ⟨g,arr,clock,h1,h3,hst,MapRel.of (by simpa using h4) fun j k v hj => by simpa using h5 j k v hj⟩
theorem RelV.mp_inv {ν : Nat → Nat} {id : Nat} {u : Value} (h : RelV ν w S μ H (.mp id) u) : ∃ g,u = .map (some g) ∧ id < H.length ∧ ∀ cs,H[id]? = some (.box cs) → μ id = .pointer (some ⟨g,0,none⟩) := by
 cases h with | mp _ g _ h1 h2 h3 => exact ⟨g,h3,h1,h2⟩
def mapT (P : Program) (T : TypeId) : Option (TypeId × TypeId) := match P.underlying T with | some (.map k e) => some (k,e) | _ => none
theorem g7 {T k e} (h : mapT P T = some (k,e)) : P.underlying T = some (.map k e) := by
 unfold mapT at h
 split at h
 ·rename_i hu; simp only [Option.some.injEq,Prod.mk.injEq] at h; obtain ⟨rfl,rfl⟩ := h; exact hu
 ·cases h
def zeroV (P : Program) (T : TypeId) (zero : List PV) : Bool :=
 match (P.info? T).bind (·.zero),zero with
 | some z,[p] => z.oneCell' && pO z p
 | some (.agg cs),zero => lO cs.toList zero
 | _,_ => false
theorem q_mget (hr : Rel N.fn w S μ H) {T k e : TypeId} {kd : KD} {zero : List PV} {comma : Bool} {x i : Value} {x' i' v : AV} {z : Value} (hT : mapT P T = some (k,e)) (hk : P.underlying k = some kd.desc) (hz : (Go.zeroValue e).run P w = .ok z w) (hzr : RelV N.fn w S μ H (mkZ zero) z)
  (hx : RelV N.fn w S μ H x' x) (hi : RelV N.fn w S μ H i' i) (hv : w6 H kd zero comma x' i' = some v) : ∃ u,(Go.Instr.lookup T x i comma).run P w = .ok u w ∧ RelV N.fn w S μ H v u := by
 have hu := g7 hT
 have res : ∀ {r : Option AV} {u : Value} {b : Bool},(match r with | none => b = false ∧ u = z | some v => b = true ∧ RelV N.fn w S μ H v u) → RelV N.fn w S μ H (mres comma (mkZ zero) r) (if comma then .tuple #[u,.bool b] else u) := by
  intro r u b h
  cases r with
  | none =>
   obtain ⟨rfl,rfl⟩ := h
   cases comma
   ·exact hzr
   ·refine .tup _ _ rfl fun j c hc => ?_
    match j,hc with
    | 0,hc => simp only [List.getElem?_cons_zero,Option.some.injEq] at hc; subst hc; exact hzr
    | 1,hc => simp only [List.getElem?_cons_succ,List.getElem?_cons_zero,Option.some.injEq] at hc; subst hc; exact .p _ _ (.bool _)
    | j + 2,hc => simp at hc
  | some v =>
   obtain ⟨rfl,h⟩ := h
   cases comma
   ·exact h
   ·refine .tup _ _ rfl fun j c hc => ?_
    match j,hc with
    | 0,hc => simp only [List.getElem?_cons_zero,Option.some.injEq] at hc; subst hc; exact h
    | 1,hc => simp only [List.getElem?_cons_succ,List.getElem?_cons_zero,Option.some.injEq] at hc; subst hc; exact .p _ _ (.bool _)
    | j + 2,hc => simp at hc
 unfold w6 at hv
 split at hv
 ·rename_i kv
  simp only [ifB_some,Option.some.injEq] at hv
  obtain ⟨hkd,rfl⟩ := hv
  have hkey := uS hkd hi.p_inv
  have hx := hx.p_inv
  cases hx
  have hf : (Go.Instr.findKey k i []).run P w = .ok none w := Go.MapKept.run_findKey hk rfl
  refine ⟨if comma then .tuple #[z,.bool false] else z,?_,res (r := none) ⟨rfl,rfl⟩⟩
  simp [Go.Instr.lookup,Go.run_underlying hu,Go.MapKept.run_checkKey hk hkey,hf,hz]
 ·rename_i id kv
  simp only [ifB_some,Option.bind_eq_some_iff,Option.map_eq_some_iff] at hv
  obtain ⟨hkd,es,hes,r,hf,rfl⟩ := hv
  have hkey := uS hkd hi.p_inv
  obtain ⟨g,rfl,hl,hg⟩ := hx.mp_inv
  obtain ⟨g',arr,clock,e1,e2,_,e3⟩ := hr.map_of hes
  rw [hg _ (cg hes)] at e1
  cases e1
  have hfn := wE hkd hi.p_inv 0 e3 hf
  cases r with
  | none =>
   have hf := Go.MapKept.run_findKey (w := w) hk hfn
   refine ⟨if comma then .tuple #[z,.bool false] else z,?_,res (r := none) ⟨rfl,rfl⟩⟩
   simp [Go.Instr.lookup,Go.run_underlying hu,Go.MapKept.run_getObj_map e2,Go.MapKept.run_checkKey hk hkey,hf,hz]
  | some v0 =>
   obtain ⟨j,en,h1,h2,h3,h4,h5⟩ := hfn
   have hf := Go.MapKept.run_findKey (w := w) hk h1
   refine ⟨if comma then .tuple #[en.val,.bool true] else en.val,?_,res (r := some v0) ⟨rfl,h4⟩⟩
   simp [Go.Instr.lookup,Go.run_underlying hu,Go.MapKept.run_getObj_map e2,Go.MapKept.run_checkKey hk hkey,hf]
 ·cases hv
end
end Ab
