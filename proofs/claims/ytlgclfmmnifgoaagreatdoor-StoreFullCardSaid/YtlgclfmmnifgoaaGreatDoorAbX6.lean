import Derived.Test.YtlgclfmmnifgoaaGreatDoorAbX2
import Derived.Laws.AppendOwn
import Derived.Laws.MakeOwn
import Derived.Test.YtlgclfmmnifgoaaGreatDoorAbTag
namespace Ab
open Go (IntKind BinOp UnOp World Value Addr Obj undef maxLen Program TypeId Oper Op Operand Act Sem Next Result execOp Builtin)
section
variable {Γ : Ctx} {N : Names} {P : Program} {w : World} {S : Nat → Prop} {μ : Nat → Value} {H : Heap}
def Src (w : World) (y : Value) (sz m : Nat) (news : List Value) : Prop :=
 news.length = m * sz ∧ (∀ u ∈ news,u.oneCell' = true) ∧ ((∃ a c,y = .slice a m c ∧ m = 0) ∨ ∃ ad c,y = .slice (some ad) m c ∧ ∀ (j : Nat) u,news[j]? = some u → w.cell? (ad.add j) = some u)
theorem io {t ty e : TypeId} {i : Go.TypeInfo} (ht : P.underlying t = some (.slice e)) (hi : P.info? e = some i) (a : Option Addr) (n cap : Nat) (hn : n ≤ cap) (b : Option Addr) (c : Nat) :
  (Builtin.append_ #[t,t] ty #[.slice a n cap,.slice b 0 c]).run P w = .ok (.slice a n cap) w := by
 cases a <;> cases b <;> simp [Builtin.append_,Go.run_underlying ht,Go.sizeOf,Go.typeInfo,hi,Builtin.lenOf,hn,Builtin.firstCells,Go.loadCells,Go.loadCellsFrom,Go.storeCells]
theorem mo (t ty e e' : TypeId) (i : Go.TypeInfo) (ht : P.underlying t = some (.slice e)) (hi : P.info? e = some i)
  (g sLen sCap : Nat) (cur : Array Value) {fr : Nat × Nat} (hg : w.heap[g]? = some (.cells cur e' fr)) (hfr : fr = (0,0) ∨ cur.size ≤ fr.1)
  (a : Addr) (m c : Nat) (news : List Value) (hl : news.length = m * i.size) (hnews : ∀ (j : Nat) u,news[j]? = some u → w.cell? (a.add j) = some u) (h1 : ∀ u ∈ news,u.oneCell' = true)
  (hroom : sLen + m ≤ sCap) (hfit : sLen * i.size + news.length ≤ cur.size) :
  (Builtin.append_ #[t,t] ty #[.slice (some ⟨g,0,none⟩) sLen sCap,.slice (some a) m c]).run P w =
   .ok (.slice (some ⟨g,0,none⟩) (sLen + m) sCap) (w.setRow g (cur.toList.take (sLen * i.size) ++ news ++ cur.toList.drop (sLen * i.size + news.length)).toArray) := by
 have hf := Go.run_firstCells_some (P := P) w i.size m a m c news hl hnews
 have hst := bL P g (sLen * i.size) e' fr news 0 cur w hg hfr (by simpa using hfit) h1
 simp only [Nat.add_zero] at hst
 simp [Builtin.append_,Go.run_underlying ht,Go.sizeOf,Go.typeInfo,hi,Builtin.lenOf,hroom,hf,Go.Addr.add_lit,hst]
theorem fp {t ty e : TypeId} {i : Go.TypeInfo} {z : Value} {sz n m : Nat} {v y : Value} {us news : List Value} (ht : P.underlying t = some (.slice e)) (hi : P.info? e = some i) (hz : i.zero = some z)
  (hsz : i.size = sz) (hzs : z.cells.size = sz) (h0 : 0 < sz) (hv : RowAt w v sz n us) (hy : Src w y sz m news) (hlim : n + m ≤ lim) (hb : i.bytes ≤ 65536) :
  ∃ v' w',(Builtin.append_ #[t,t] ty #[v,y]).run P w = .ok v' w' ∧ RowAt w' v' sz (n + m) (us ++ news) ∧ w'.os = w.os ∧ w'.tape = w.tape ∧ w'.output = w.output ∧ w.heap.size ≤ w'.heap.size ∧
   (∀ g,g < w.heap.size → au v ≠ some g → w'.heap[g]? = w.heap[g]?) ∧ (∀ g,au v' = some g → au v = some g ∨ w.heap.size ≤ g) ∧ (m = 0 → v' = v) := by
 subst hsz
 have lim_eq : lim = 1073741824 := rfl
 have hbytes : (n + m) * i.bytes ≤ 140737488355328 := by
  calc (n + m) * i.bytes ≤ 1073741824 * 65536 := Nat.mul_le_mul (by omega) hb
   _ ≤ 140737488355328 := by decide
 obtain ⟨hl,hone,hy⟩ := hy
 obtain ⟨hul,hv⟩ := hv
 by_cases hm : m = 0
 ·subst hm
  have hn0 : news = [] := List.eq_nil_of_length_eq_zero (by simpa using hl)
  subst hn0
  obtain ⟨b,c,rfl⟩ : ∃ b c,y = .slice b 0 c := by
   rcases hy with ⟨a,c,h,_⟩ | ⟨ad,c,h,_⟩
   ·exact ⟨a,c,h⟩
   ·exact ⟨_,c,h⟩
  obtain ⟨a,cap,rfl,hcap⟩ : ∃ a cap,v = .slice a n cap ∧ n ≤ cap := by
   rcases hv with ⟨rfl,a,h⟩ | ⟨g,cap,cur,e',h,_,_,hc,_⟩
   ·exact ⟨a,0,h,Nat.le_refl _⟩
   ·exact ⟨_,cap,h,hc⟩
  exact ⟨_,w,io ht hi a n cap hcap b c,⟨by simpa using hul,by simpa using hv⟩,rfl,rfl,rfl,Nat.le_refl _,fun _ _ _ => rfl,fun g hg => .inl hg,fun _ => rfl⟩
 ·obtain ⟨ad,c,rfl,hnews⟩ : ∃ ad c,y = .slice (some ad) m c ∧ ∀ (j : Nat) u,news[j]? = some u → w.cell? (ad.add j) = some u := by
   rcases hy with ⟨a,c,_,h⟩ | h
   ·exact absurd h hm
   ·exact h
  have hlen : (us ++ news).length = (n + m) * i.size := by rw [List.length_append,hul,hl,Nat.add_mul]
  have h63 : n + m ≤ 9223372036854775807 := by omega
  have grown : ∀ (old : Nat),old < n + m →
    RowAt (w.drew.alloc (.cells (us.toArray ++ news.toArray ++ Builtin.zeroCells z.cells (Go.grownCap w (n + m) old e - (n + m))) e)) (.slice (some ⟨w.heap.size,0,none⟩) (n + m) (Go.grownCap w (n + m) old e)) i.size (n + m) (us ++ news) := by
   intro old ho
   have hge := Go.grownCap_ge w (n + m) old e
   have hcm : Go.grownCap w (n + m) old e ≤ maxLen := Go.grownCap_le_maxLen w (n + m) old e (by simp only [maxLen]; omega)
   refine ⟨hlen,.inr ⟨w.heap.size,_,_,e,rfl,by omega,⟨_,Go.heap_alloc_new w.drew _,.inl rfl⟩,hge,hcm,?_,?_⟩⟩
   ·simp only [Array.size_append,List.size_toArray,Go.size_zeroCells,hzs,hul,hl,← Nat.add_mul]
    congr 1
    omega
   ·simp only [Array.toList_append,List.append_assoc]
    rw [← List.append_assoc,← hlen]
    exact List.take_left
  have rest : ∀ (o : Obj),(w.drew.alloc o).os = w.os ∧ (w.drew.alloc o).tape = w.tape ∧ (w.drew.alloc o).output = w.output ∧ w.heap.size ≤ (w.drew.alloc o).heap.size ∧
    (∀ g,g < w.heap.size → au v ≠ some g → (w.drew.alloc o).heap[g]? = w.heap[g]?) ∧ ∀ n c g,au (.slice (some ⟨w.heap.size,0,none⟩) n c) = some g → au v = some g ∨ w.heap.size ≤ g := by
   intro o
   refine ⟨rfl,rfl,rfl,by simp,fun g hg _ => (Grows.alloc w.drew o).keep g hg,fun n c g hg => ?_⟩
   simp only [au] at hg
   split at hg
   ·cases hg
   ·simp only [Option.some.injEq] at hg; omega
  rcases hv with ⟨rfl,a,rfl⟩ | ⟨g,cap,cur,e',rfl,hc0,hg,hnc,hcm,hcs,htake⟩
  ·have hus : us = [] := List.eq_nil_of_length_eq_zero (by simpa using hul)
   subst hus
   simp only [Nat.zero_add,List.nil_append] at *
   cases a with
   | none =>
    have hr := Go.run_append_nil (P := P) w t ty e i z ht hi hz ad m c news hl hnews (by omega) (by omega) (by omega)
    have hgr := grown 0 (by omega)
    simp only [Array.empty_append] at hgr
    obtain ⟨r1,r2,r3,r4,r5,r6⟩ := rest (.cells (news.toArray ++ Builtin.zeroCells z.cells (Go.grownCap w m 0 e - m)) e)
    exact ⟨_,_,hr,hgr,r1,r2,r3,r4,r5,r6 _ _,fun h => absurd h hm⟩
   | some b =>
    have hr := Go.run_append_grow (P := P) w t ty e i z ht hi hz b 0 0 [] (by simp) (by simp) ad m c news hl hnews (by omega) (by omega) (Go.growslice_fits (by omega) (by simpa using hbytes))
    simp only [Nat.zero_add,Array.empty_append] at hr
    have hgr := grown 0 (by omega)
    simp only [Array.empty_append] at hgr
    obtain ⟨r1,r2,r3,r4,r5,r6⟩ := rest (.cells (news.toArray ++ Builtin.zeroCells z.cells (Go.grownCap w m 0 e - m)) e)
    exact ⟨_,_,hr,hgr,r1,r2,r3,r4,r5,r6 _ _,fun h => absurd h hm⟩
  ·obtain ⟨fr,hg,hfr⟩ := hg
   have hbl : ∀ k,au (.slice (some ⟨g,0,none⟩) k cap) = some g := by intro k; simp only [au]; rw [if_neg (by omega)]
   by_cases hroom : n + m ≤ cap
   ·have hfit : n * i.size + news.length ≤ cur.size := by rw [hl,hcs,← Nat.add_mul]; exact Nat.mul_le_mul_right _ hroom
    have hr := mo t ty e e' i ht hi g n cap cur hg (hfr.or hcs) ad m c news hl hnews hone hroom hfit
    refine ⟨_,_,hr,⟨hlen,.inr ⟨g,cap,_,e',rfl,hc0,⟨fr,Go.setRow_heap w g cur _ e' _ hg,hfr⟩,hroom,hcm,?_,?_⟩⟩,rfl,rfl,rfl,Nat.le_of_eq setRow_size.symm,fun k _ hne => eN (fun e => hne (by rw [e]; exact hbl _)),fun k hk => .inl ?_,fun h => absurd h hm⟩
    ·simp only [List.size_toArray,List.length_append,List.length_take,List.length_drop,Array.length_toList]
     omega
    ·rw [htake,← hlen]
     exact List.take_left
    ·rw [hbl _] at hk ⊢; exact hk
   ·have hcell : ∀ (j : Nat) u,us[j]? = some u → w.cell? ((⟨g,0,none⟩ : Addr).add j) = some u := by
     intro j u hj
     rw [Go.Addr.add_lit,Nat.zero_add,Go.cell_of_row w g j cur e' _ hg]
     rw [← htake,List.getElem?_take] at hj
     split at hj
     ·simpa using hj
     ·cases hj
    have hr := Go.run_append_grow (P := P) w t ty e i z ht hi hz ⟨g,0,none⟩ n cap us hul hcell ad m c news hl hnews (by omega) (by omega) (Go.growslice_fits (by omega) hbytes)
    obtain ⟨r1,r2,r3,r4,r5,r6⟩ := rest (.cells (us.toArray ++ news.toArray ++ Builtin.zeroCells z.cells (Go.grownCap w (n + m) cap e - (n + m))) e)
    exact ⟨_,_,hr,grown cap (by omega),r1,r2,r3,r4,r5,r6 _ _,fun h => absurd h hm⟩
def FlatRel (ν : Nat → Nat) (w : World) (S : Nat → Prop) (sz : Nat) (ys : List PV) (news : List Value) : Prop :=
 (∀ x ∈ ys,x.cells.length = sz ∧ ∀ c ∈ x.cells,c.one = true) ∧ ∀ i x j c,ys[i]? = some x → x.cells[j]? = some c → RelP ν w S c (news.getD (i * sz + j) undef)
theorem kC (hr : Rel N.fn w S μ H) {sz : Nat} {y : Value} {y' : AV} {ys : List PV} (h0 : 0 < sz) (hy : RelV N.fn w S μ H y' y) (hv : elemsOf H sz y' = some ys) :
  ∃ news,Src w y sz ys.length news ∧ FlatRel N.fn w S sz ys news := by
 unfold elemsOf at hv
 split at hv
 ·rename_i k sz' xs
  simp only [Option.ite_none_right_eq_some,Option.some.injEq] at hv
  obtain ⟨hk,rfl⟩ := hv
  have hy := hy.p_inv
  cases hy with
  | sl _ _ _ a cap us h1 h2 h3 h4 h5 h6 h7 h8 =>
  by_cases hne : xs = []
  ·subst hne
   exact ⟨[],⟨by simp,by simp,.inl ⟨a,cap,rfl,rfl⟩⟩,by simp,by simp⟩
  ·obtain ⟨ad,rfl,hS⟩ := h6 hne
   have hsz : sz' = sz := by
    rcases hk with h | h
    ·exact h.symm
    ·exact absurd (h4 (.inl h)).1 hne
   subst hsz
   have get : ∀ t,t < xs.length * sz' → ∃ x c,xs[t / sz']? = some x ∧ x.cells[t % sz']? = some c := by
    intro t ht
    have h9 : t / sz' < xs.length := (Nat.div_lt_iff_lt_mul h0).2 ht
    have h10 := h3 _ (List.getElem_mem h9)
    have h11 : t % sz' < xs[t / sz'].cells.length := by rw [h10.1]; exact Nat.mod_lt _ h0
    exact ⟨_,_,List.getElem?_eq_getElem h9,List.getElem?_eq_getElem h11⟩
   have dm : ∀ i j,j < sz' → (i * sz' + j) / sz' = i ∧ (i * sz' + j) % sz' = j := by
    intro i j hj
    constructor
    ·rw [Nat.add_comm,Nat.add_mul_div_right _ _ h0,Nat.div_eq_of_lt hj,Nat.zero_add]
    ·rw [Nat.add_comm,Nat.add_mul_mod_self_right,Nat.mod_eq_of_lt hj]
   refine ⟨(List.range (xs.length * sz')).map fun t => us (t / sz') (t % sz'),⟨by simp,fun u hu => ?_,.inr ⟨ad,cap,rfl,fun j u hu => ?_⟩⟩,h3,fun i x j c hx hc => ?_⟩
   ·obtain ⟨t,ht,rfl⟩ := List.mem_map.1 hu
    obtain ⟨x,c,hx,hc⟩ := get t (by simpa using ht)
    rw [(h8 _ _ _ _ hx hc).one]
    exact (h3 x (List.mem_of_getElem? hx)).2 c (List.mem_of_getElem? hc)
   ·rw [List.getElem?_map] at hu
    obtain ⟨t,ht,rfl⟩ := Option.map_eq_some_iff.1 hu
    obtain ⟨hlt,rfl⟩ : j < xs.length * sz' ∧ j = t := by
     have := List.getElem?_eq_some_iff.1 ht
     obtain ⟨h9,h10⟩ := this
     simp at h9 h10
     exact ⟨h9,h10⟩
    obtain ⟨x,c,hx,hc⟩ := get j hlt
    have := h7 ad rfl _ _ _ _ hx hc
    rwa [show j / sz' * sz' + j % sz' = j by rw [Nat.mul_comm]; exact Nat.div_add_mod j sz'] at this
   ·have hj : j < sz' := by rw [← (h3 x (List.mem_of_getElem? hx)).1]; exact (List.getElem?_eq_some_iff.1 hc).1
    have hi : i < xs.length := (List.getElem?_eq_some_iff.1 hx).1
    have hlt : i * sz' + j < xs.length * sz' := by
     calc i * sz' + j < i * sz' + sz' := by omega
      _ = (i + 1) * sz' := by rw [Nat.add_mul,Nat.one_mul]
      _ ≤ xs.length * sz' := Nat.mul_le_mul_right _ hi
    rw [List.getD_eq_getElem?_getD,List.getElem?_map,List.getElem?_range hlt]
    simp only [Option.map_some,Option.getD_some]
    rw [(dm i j hj).1,(dm i j hj).2]
    exact h8 _ _ _ _ hx hc
 ·rename_i id n
  obtain ⟨⟨sz',xs⟩,hb,hv⟩ := Option.bind_eq_some_iff.1 hv
  simp only [Option.ite_none_right_eq_some,Option.some.injEq] at hv
  obtain ⟨rfl,rfl⟩ := hv
  rw [hy.own_inv hb]
  obtain ⟨f,h1,h2⟩ := aO hb
  obtain ⟨_,_,us,h3,h4,h5,_⟩ := hr.blk id _ h1
  have h3' := h3
  obtain ⟨hul,h3⟩ := h3
  have hone : ∀ u ∈ us,u.oneCell' = true := by
   intro u hu
   obtain ⟨t,ht⟩ := List.getElem?_of_mem hu
   have hlt : t < xs.length * sz := by rw [← hul]; exact (List.getElem?_eq_some_iff.1 ht).1
   have h9 : t / sz < xs.length := (Nat.div_lt_iff_lt_mul h0).2 hlt
   have h10 := h4 _ (List.getElem_mem h9)
   have h11 : t % sz < xs[t / sz].cells.length := by rw [h10.1]; exact Nat.mod_lt _ h0
   have := h5 _ _ _ _ (List.getElem?_eq_getElem h9) (List.getElem?_eq_getElem h11)
   rw [show t / sz * sz + t % sz = t by rw [Nat.mul_comm]; exact Nat.div_add_mod t sz,List.getD_eq_getElem?_getD,ht] at this
   simp only [Option.getD_some] at this
   rw [this.one]
   exact h10.2 _ (List.getElem_mem h11)
  refine ⟨us,⟨hul,hone,?_⟩,h4,h5⟩
  rcases h3 with ⟨h6,a,h7⟩ | ⟨g,cap,cur,e',h6,_⟩
  ·exact .inl ⟨a,0,by rw [h7,h6],h6⟩
  ·refine .inr ⟨_,cap,h6,fun j u hu => ?_⟩
   have hlt : j < xs.length * sz := by rw [← hul]; exact (List.getElem?_eq_some_iff.1 hu).1
   rw [Go.Addr.add_lit,Nat.zero_add,iH h3' h6 hlt,List.getD_eq_getElem?_getD,hu]
   rfl
 ·cases hv
theorem FlatRel.keep {ν : Nat → Nat} {w' : World} {sz : Nat} {ys : List PV} {news : List Value} (h : FlatRel ν w S sz ys news) (hw : ∀ g,S g → w'.heap[g]? = w.heap[g]?) : FlatRel ν w' S sz ys news :=
 ⟨h.1,fun i x j c hx hc => (h.2 i x j c hx hc).keep (fun _ h => h) hw⟩
theorem FlatRel.append {ν : Nat → Nat} {sz : Nat} {xs ys : List PV} {us news : List Value} (hx : FlatRel ν w S sz xs us) (hy : FlatRel ν w S sz ys news) (hl : us.length = xs.length * sz) : FlatRel ν w S sz (xs ++ ys) (us ++ news) := by
 refine ⟨fun x h => ?_,fun i x j c hi hc => ?_⟩
 ·rcases List.mem_append.1 h with h | h
  ·exact hx.1 x h
  ·exact hy.1 x h
 ·by_cases h : i < xs.length
  ·rw [List.getElem?_append_left h] at hi
   have hj : j < sz := by rw [← (hx.1 x (List.mem_of_getElem? hi)).1]; exact (List.getElem?_eq_some_iff.1 hc).1
   have hlt : i * sz + j < us.length := by
    rw [hl]
    calc i * sz + j < i * sz + sz := by omega
     _ = (i + 1) * sz := by rw [Nat.add_mul,Nat.one_mul]
     _ ≤ xs.length * sz := Nat.mul_le_mul_right _ h
   rw [List.getD_eq_getElem?_getD,List.getElem?_append_left hlt,← List.getD_eq_getElem?_getD]
   exact hx.2 i x j c hi hc
  ·rw [List.getElem?_append_right (by omega)] at hi
   have e : i * sz + j = us.length + ((i - xs.length) * sz + j) := by
    rw [hl,← Nat.add_assoc,← Nat.add_mul]
    congr 2
    omega
   rw [e,List.getD_eq_getElem?_getD,List.getElem?_append_right (by omega),Nat.add_sub_cancel_left,← List.getD_eq_getElem?_getD]
   exact hy.2 _ x j c hi hc
theorem bV (hr : Rel N.fn w S μ H) {w' : World} {v : Value} {sz : Nat} {xs : List PV} {us : List Value} (hg : Grows w w') (h0 : 0 < sz) (hlim : xs.length ≤ lim) (hrow : RowAt w' v sz xs.length us) (hf : FlatRel N.fn w' S sz xs us)
  (hn : ∀ g,au v = some g → w.heap.size ≤ g) :
  ∃ μ',Step N.fn w S μ H w' S μ' (H ++ [.row false sz xs]) ∧ RelV N.fn w' S μ' (H ++ [.row false sz xs]) (.own H.length xs.length) v := by
 refine ⟨upd μ H.length v,Step.push hr hg ⟨h0,hlim,us,by rw [upd_same]; exact hrow,hf.1,hf.2,fun h => by cases h⟩ hn,?_⟩
 refine .own _ _ _ (by simp) (fun f sz' xs' h => ?_) ?_
 ·rw [List.getElem?_append_right (Nat.le_refl _)] at h
  simp only [Nat.sub_self,List.getElem?_cons_zero,Option.some.injEq,Blk.row.injEq] at h
  obtain ⟨_,_,rfl⟩ := h
  exact ⟨Nat.le_refl _,fun _ => upd_same.symm⟩
 ·obtain ⟨_,h⟩ := hrow
  rcases h with ⟨_,a,h⟩ | ⟨g,cap,cur,e,h,_⟩ <;> rw [h] <;> rfl
theorem x_newrow (hr : Rel N.fn w S μ H) {sz : Nat} (h0 : 0 < sz) : ∃ μ',Step N.fn w S μ H w S μ' (H ++ [.row false sz []]) ∧ RelV N.fn w S μ' (H ++ [.row false sz []]) (.own H.length 0) (.slice none 0 0) :=
 bV hr (us := []) (Grows.refl w) h0 (Nat.zero_le _) ⟨by simp,.inl ⟨rfl,none,rfl⟩⟩ ⟨by simp,by simp⟩ (by intro g h; cases h)
theorem zK (hr : Rel N.fn w S μ H) {t ty e : TypeId} {i : Go.TypeInfo} {z : Value} {sz : Nat} {x y : Value} {x' : AV} {ys : List PV} {news : List Value} {r : AV × Heap} (ht : P.underlying t = some (.slice e)) (hi : P.info? e = some i) (hz : i.zero = some z)
  (hsz : i.size = sz) (hzs : z.cells.size = sz) (h0 : 0 < sz) (hb : i.bytes ≤ 65536) (hx : RelV N.fn w S μ H x' x) (hs : Src w y sz ys.length news) (hf : FlatRel N.fn w S sz ys news) (hv : aW H sz x' ys = some r) :
  ∃ v' w' μ',(Builtin.append_ #[t,t] ty #[x,y]).run P w = .ok v' w' ∧ Step N.fn w S μ H w' S μ' r.2 ∧ RelV N.fn w' S μ' r.2 r.1 v' := by
 unfold aW at hv
 split at hv
 ·rename_i id n
  split at hv
  rotate_left
  ·cases hv
  rename_i sz' xs hb'
  simp only [Option.ite_none_right_eq_some,Option.some.injEq] at hv
  obtain ⟨⟨rfl,rfl,hlim⟩,rfl⟩ := hv
  have hrow : rowOf H id xs.length = some (sz',xs) := by simp [rowOf,hb']
  rw [hx.own_inv hrow]
  obtain ⟨_,_,us,h3,h4,h5,_⟩ := hr.blk id _ hb'
  rw [List.length_append] at hlim
  obtain ⟨v',w',r1,r2,r3,r4,r5,r6,r7,r8,r9⟩ := fp (ty := ty) ht hi hz hsz hzs h0 h3 hs hlim hb
  have hm : Moves μ H (upd μ id v') (H.set id (.row false sz' (xs ++ ys))) := dD hb' (by simp) (fun h => r9 (by simpa using h))
  have keepS : ∀ g,S g → w'.heap[g]? = w.heap[g]? := fun g hg => r7 g (hr.lt g hg) (fun e => hr.apart g (alive_iff.2 ⟨id,_,hb',.inr ⟨sz',xs,rfl⟩,e⟩) hg)
  have hfl : FlatRel N.fn w' S sz' (xs ++ ys) (us ++ news) := (FlatRel.append ⟨h4,h5⟩ hf h3.1).keep keepS
  have hlt := (List.getElem?_eq_some_iff.1 hb').1
  refine ⟨v',w',upd μ id v',r1,Step.set hr hb' (.inr ⟨sz',xs,rfl⟩) r3 r4 r5 r6 r7 hm ⟨h0,by simpa using hlim,us ++ news,by rw [upd_same,List.length_append]; exact r2,hfl.1,hfl.2,fun h => by cases h⟩ r8,?_⟩
  refine .own _ _ _ (by simpa using hlt) (fun f sz2 xs2 h => ?_) ?_
  ·simp only [List.getElem?_set,hlt,if_true,Option.some.injEq,Blk.row.injEq] at h
   obtain ⟨_,_,rfl⟩ := h
   exact ⟨Nat.le_refl _,fun _ => upd_same.symm⟩
  ·obtain ⟨_,h⟩ := r2
   rcases h with ⟨_,a,h⟩ | ⟨g,cap,cur,e,h,_⟩ <;> rw [h] <;> rfl
 ·rename_i k sz' xs
  simp only [Option.ite_none_right_eq_some] at hv
  obtain ⟨⟨hk,hlim⟩,hv⟩ := hv
  have hx := hx.p_inv
  have hx2 := hx
  cases hx with
  | sl _ _ _ a cap us h1 h2 h3 h4 h5 h6 h7 h8 =>
  split at hv
  ·
   simp only [Option.some.injEq] at hv
   subst hv
   have hcap : cap = 0 := by
    rcases hk with h | ⟨h,_⟩
    ·exact (h4 (.inl h)).2.2
    ·exact (h5 (.inl h)).2 h
   subst hcap
   have hrow : RowAt w (.slice a 0 0) sz 0 [] := ⟨by simp,.inl ⟨rfl,a,rfl⟩⟩
   simp only [List.nil_append] at hlim
   obtain ⟨v',w',r1,r2,r3,r4,r5,r6,r7,r8,r9⟩ := fp (ty := ty) ht hi hz hsz hzs h0 hrow hs (by omega) hb
   have hg : Grows w w' := ⟨r3,r4,r5,r6,fun g hg => r7 g hg (by cases a <;> simp [au])⟩
   rw [Nat.zero_add,List.nil_append] at r2
   obtain ⟨μ',s1,s2⟩ := bV hr hg h0 hlim r2 (hf.keep (hr.keepS hg)) (fun g hg => by
    rcases r8 g hg with h | h
    ·cases a <;> simp [au] at h
    ·exact h)
   exact ⟨v',w',μ',r1,s1,s2⟩
  ·
   simp only [Option.some.injEq] at hv
   subst hv
   obtain ⟨_,_,hy⟩ := hs
   obtain ⟨b,c,rfl⟩ : ∃ b c,y = .slice b 0 c := by
    rcases hy with ⟨b,c,h,_⟩ | ⟨ad,c,h,_⟩
    ·exact ⟨b,c,h⟩
    ·exact ⟨_,c,h⟩
   exact ⟨_,w,μ,io ht hi _ _ _ h1 b c,⟨hr,Ext.refl,.refl⟩,.p _ _ hx2⟩
  ·rename_i x0 xs0 y0 ys0
   simp only [Option.some.injEq] at hv
   subst hv
   have hk : k = .tight ∧ sz' = sz := by
    rcases hk with h | h
    ·exact absurd (h4 (.inl h)).1 (by simp)
    ·exact h
   obtain ⟨rfl,rfl⟩ := hk
   have hcap := (h5 (.inl rfl)).2 rfl
   subst hcap
   obtain ⟨ad,rfl,hS⟩ := h6 (by simp)
   obtain ⟨news0,g1,g2⟩ := kC (N := N) (μ := μ) (H := H) hr (y' := .p (.sl .tight sz' (x0 :: xs0))) h0 (.p _ _ hx2) (by simp [elemsOf]; rfl)
   obtain ⟨hl,hone,hy⟩ := hs
   obtain ⟨ad2,c,rfl,hnews⟩ : ∃ ad c,y = .slice (some ad) (y0 :: ys0).length c ∧ ∀ (j : Nat) u,news[j]? = some u → w.cell? (ad.add j) = some u := by
    rcases hy with ⟨a,c,_,h⟩ | h
    ·cases h
    ·exact h
   obtain ⟨gl,gone,hg⟩ := g1
   obtain ⟨ad3,c3,e3,holds⟩ : ∃ ad' c,Value.slice (some ad) (x0 :: xs0).length (x0 :: xs0).length = .slice (some ad') (x0 :: xs0).length c ∧ ∀ (j : Nat) u,news0[j]? = some u → w.cell? (ad'.add j) = some u := by
    rcases hg with ⟨a,c,_,h⟩ | h
    ·cases h
    ·exact h
   cases e3
   subst hsz
   have lim_eq : lim = 1073741824 := rfl
   rw [List.length_append] at hlim
   have hbytes : ((x0 :: xs0).length + (y0 :: ys0).length) * i.bytes ≤ 140737488355328 := by
    calc ((x0 :: xs0).length + (y0 :: ys0).length) * i.bytes ≤ 1073741824 * 65536 := Nat.mul_le_mul (by omega) hb
     _ ≤ 140737488355328 := by decide
   have hlt : (x0 :: xs0).length < (x0 :: xs0).length + (y0 :: ys0).length := by simp
   have hrun := Go.run_append_grow (P := P) w t ty e i z ht hi hz ad _ _ news0 gl holds ad2 _ c news hl hnews hlt (by omega) (Go.growslice_fits hlt hbytes)
   have hge := Go.grownCap_ge w ((x0 :: xs0).length + (y0 :: ys0).length) (x0 :: xs0).length e
   have hcm : Go.grownCap w ((x0 :: xs0).length + (y0 :: ys0).length) (x0 :: xs0).length e ≤ maxLen := Go.grownCap_le_maxLen w _ _ e (by simp only [maxLen]; omega)
   have hgr : Grows w (w.drew.alloc (.cells (news0.toArray ++ news.toArray ++ Builtin.zeroCells z.cells (Go.grownCap w ((x0 :: xs0).length + (y0 :: ys0).length) (x0 :: xs0).length e - ((x0 :: xs0).length + (y0 :: ys0).length))) e)) := (Grows.drew w).trans (Grows.alloc w.drew _)
   have hrow : RowAt (w.drew.alloc (.cells (news0.toArray ++ news.toArray ++ Builtin.zeroCells z.cells (Go.grownCap w ((x0 :: xs0).length + (y0 :: ys0).length) (x0 :: xs0).length e - ((x0 :: xs0).length + (y0 :: ys0).length))) e))
     (.slice (some ⟨w.heap.size,0,none⟩) ((x0 :: xs0).length + (y0 :: ys0).length) (Go.grownCap w ((x0 :: xs0).length + (y0 :: ys0).length) (x0 :: xs0).length e)) i.size (x0 :: xs0 ++ y0 :: ys0).length (news0 ++ news) := by
    have hlen : (news0 ++ news).length = ((x0 :: xs0).length + (y0 :: ys0).length) * i.size := by rw [List.length_append,gl,hl,Nat.add_mul]
    rw [List.length_append]
    refine ⟨hlen,.inr ⟨w.heap.size,_,_,e,rfl,by omega,⟨_,Go.heap_alloc_new w.drew _,.inl rfl⟩,hge,hcm,?_,?_⟩⟩
    ·simp only [Array.size_append,List.size_toArray,Go.size_zeroCells,hzs,gl,hl,← Nat.add_mul]
     congr 1
     omega
    ·simp only [Array.toList_append,List.append_assoc]
     rw [← List.append_assoc,← hlen]
     exact List.take_left
   obtain ⟨μ',s1,s2⟩ := bV hr hgr h0 (by rw [List.length_append]; exact hlim) hrow ((FlatRel.append g2 hf gl).keep (hr.keepS hgr)) (fun g hg => by
    simp only [au] at hg
    split at hg
    ·cases hg
    ·simp only [Option.some.injEq] at hg; omega)
   exact ⟨_,_,μ',hrun,s1,by simpa using s2⟩
 ·cases hv
end
end Ab
namespace Ab
open Go (IntKind BinOp UnOp World Value Addr Obj undef maxLen Program TypeId Oper Op Operand Act Sem Next Result execOp Builtin)
section
variable {Γ : Ctx} {N : Names} {P : Program} {w : World} {S T : Nat → Prop} {μ : Nat → Value} {H : Heap}
theorem RelP.more {ν : Nat → Nat} {v u} (h : RelP ν w S v u) (hS : ∀ g,S g → T g) : RelP ν w T v u := h.keep hS (fun _ _ => rfl)
theorem iR (hr : Rel N.fn w S μ H) {id : Nat} {f : Bool} {sz : Nat} {xs : List PV} (hb : H[id]? = some (.row f sz xs)) (hS : ∀ g,S g → T g) (hT : ∀ g,au (μ id) = some g → T g) : RelP N.fn w T (.sl .any sz xs) (μ id) := by
 obtain ⟨h0,_,us,h1,h2,h3,_⟩ := hr.blk id _ hb
 have h1' := h1
 obtain ⟨hl,h1⟩ := h1
 rcases h1 with ⟨e0,a,ha⟩ | ⟨g,cap,cur,e,hv,hc,hg,hn,hm,hcs,ht⟩
 ·have : xs = [] := List.eq_nil_of_length_eq_zero e0
  subst this
  rw [ha]
  exact .sl .any sz [] a 0 (fun _ _ => undef) (Nat.le_refl _) (Nat.zero_le _) (by simp) (by simp) (by simp) (by simp) (by simp) (by simp)
 ·have hTg : T g := hT g (by rw [hv]; simp only [au]; rw [if_neg (by omega)])
  rw [hv]
  refine .sl .any sz xs _ cap (fun i j => us.getD (i * sz + j) undef) hn hm h2 (by simp) (by simp) (fun _ => ⟨_,rfl,hTg⟩) (fun ad had i x j c hx hc => ?_) (fun i x j c hx hc => (h3 i x j c hx hc).more hS)
  cases had
  have hj : j < sz := by rw [← (h2 x (List.mem_of_getElem? hx)).1]; exact (List.getElem?_eq_some_iff.1 hc).1
  have hi : i < xs.length := (List.getElem?_eq_some_iff.1 hx).1
  rw [Go.Addr.add_lit,Nat.zero_add]
  refine iH h1' hv ?_
  calc i * sz + j < i * sz + sz := by omega
   _ = (i + 1) * sz := by rw [Nat.add_mul,Nat.one_mul]
   _ ≤ xs.length * sz := Nat.mul_le_mul_right _ hi
theorem aV {α β : Type} {f : α → Option β} : ∀ {l : List α} {r : List β},mapO f l = some r → r.length = l.length ∧ ∀ (j : Nat) x,r[j]? = some x → ∃ a,l[j]? = some a ∧ f a = some x
 | [],r,h => by simp only [mapO,Option.some.injEq] at h; subst h; simp
 | a :: l,r,h => by
  simp only [mapO] at h
  cases hf : f a with
  | none => simp [hf] at h
  | some x =>
   simp only [hf] at h
   cases hm : mapO f l with
   | none => simp [hm] at h
   | some xs =>
    simp only [hm,Option.some.injEq] at h
    subst h
    obtain ⟨h1,h2⟩ := aV hm
    refine ⟨by simp [h1],fun j y hy => ?_⟩
    cases j with
    | zero => simp only [List.getElem?_cons_zero,Option.some.injEq] at hy; subst hy; exact ⟨a,rfl,hf⟩
    | succ j => simpa using h2 j y (by simpa using hy)
theorem fE {d : Nat} {v : AV} {p : PV} (h : aq H d v = some p) (h1 : v.one = true) : p.one = true := by
 cases d with
 | zero =>
  cases v <;> simp only [aq,Option.some.injEq,reduceCtorEq] at h
  subst h; exact h1
 | succ d =>
  cases v with
  | p v => simp only [aq,Option.some.injEq] at h; subst h; exact h1
  | own id n => simp only [aq,Option.map_eq_some_iff] at h; obtain ⟨_,_,rfl⟩ := h; rfl
  | bx id off =>
   simp only [aq,Option.bind_eq_some_iff,Option.ite_none_right_eq_some,Option.map_eq_some_iff] at h
   obtain ⟨_,_,_,_,_,rfl⟩ := h; rfl
  | el id n i off =>
   simp only [aq] at h
   split at h
   ·simp only [Option.bind_eq_some_iff,Option.ite_none_right_eq_some,Option.some.injEq] at h
    obtain ⟨_,_,_,rfl⟩ := h; rfl
   ·simp only [Option.bind_eq_some_iff,Option.ite_none_right_eq_some,Option.some.injEq] at h
    obtain ⟨_,_,_,_,_,rfl⟩ := h; rfl
  | mp id => simp [aq] at h
  | clo f cs => simp only [aq,Option.map_eq_some_iff] at h; obtain ⟨_,_,rfl⟩ := h; rfl
  | agg => cases h1
  | tup => cases h1
  | nov => cases h1
  | any => cases h1
theorem xx (hr : Rel N.fn w S μ H) {id n i off sz : Nat} {xs : List PV} {u : Value} (hb : rowOf H id n = some (sz,xs)) (h : RelV N.fn w S μ H (.el id n i off) u) (hS : ∀ g,S g → T g)
  (hT : ∀ f,H[id]? = some (.row f sz xs) → ∀ g,au (μ id) = some g → T g) (hni : n ≤ i) (h1 : i - n < n) (h2 : i - n ≤ off) (h3 : off ≤ n) : RelP N.fn w T (.sl .mem sz ((xs.take off).drop (i - n))) u := by
 obtain ⟨f,hrow,hn⟩ := aO hb
 simp only at hn hrow
 cases h with
 | el _ _ _ _ _ hl he hone =>
 obtain ⟨g,cap,k4,rfl⟩ := ((he f sz xs hrow).2 hn.symm).2 hni h1 h2 h3
 obtain ⟨h0,hlim,us,r1,r2,r3,_⟩ := hr.blk id _ hrow
 have hcap : n ≤ cap ∧ cap ≤ maxLen := by
  obtain ⟨_,r1⟩ := r1
  rcases r1 with ⟨e0,_⟩ | ⟨g',cap',cur,e,hv,hc,hg,hcn,hm,_⟩
  ·omega
  ·rw [k4] at hv; cases hv; exact ⟨by omega,hm⟩
 have hTg : T g := hT f hrow g (by rw [k4]; simp only [au]; rw [if_neg (by omega)])
 have hlen : ((xs.take off).drop (i - n)).length = off - (i - n) := by simp; omega
 have get : ∀ (j : Nat) x,((xs.take off).drop (i - n))[j]? = some x → xs[i - n + j]? = some x ∧ i - n + j < off := by
  intro j x hx
  rw [List.getElem?_drop,List.getElem?_take] at hx
  split at hx
  ·rename_i hlt; exact ⟨hx,hlt⟩
  ·cases hx
 have fin := RelP.sl (ν := N.fn) (w := w) (S := T) .mem sz ((xs.take off).drop (i - n)) (some ⟨g,(i - n) * sz,none⟩) (cap - (i - n)) (fun a b => us.getD ((i - n + a) * sz + b) undef) (by omega) (by omega)
  (fun x hx => by
   obtain ⟨j,hj⟩ := List.getElem?_of_mem hx
   exact r2 x (List.mem_of_getElem? (get j x hj).1)) (by simp) (by simp) (fun _ => ⟨_,rfl,hTg⟩)
  (fun ad had a x b c hx hc => by
   cases had
   obtain ⟨hx,hlt⟩ := get a x hx
   have hb' : b < sz := by rw [← (r2 x (List.mem_of_getElem? hx)).1]; exact (List.getElem?_eq_some_iff.1 hc).1
   rw [Go.Addr.add_lit,← Nat.add_assoc,← Nat.add_mul]
   refine iH r1 (by rw [hn]; exact k4) ?_
   calc (i - n + a) * sz + b < (i - n + a) * sz + sz := by omega
    _ = (i - n + a + 1) * sz := by rw [Nat.add_mul (i - n + a),Nat.one_mul]
    _ ≤ xs.length * sz := Nat.mul_le_mul_right _ (by omega))
  (fun a x b c hx hc => (r3 _ x _ c (get a x hx).1 hc).more hS)
 rw [hlen] at fin
 exact fin
theorem dQ {us : Array Value} {j : Nat} : us.getD j undef = us.toList.getD j undef := getD_toList.symm
theorem ku (hr : Rel N.fn w S μ H) (hS : ∀ g,S g → T g) (hT : ∀ (id : Nat) b g,H[id]? = some b → au (μ id) = some g → T g) : ∀ (d : Nat) {v : AV} {u : Value} {p : PV},RelV N.fn w S μ H v u → aq H d v = some p → RelP N.fn w T p u := by
 intro d
 induction d with
 | zero =>
  intro v u p h hp
  cases v <;> simp only [aq,Option.some.injEq,reduceCtorEq] at hp
  subst hp
  exact h.p_inv.more hS
 | succ d ih =>
  intro v u p h hp
  have cells : ∀ {cs : List AV} {us : Array Value} {ps : List PV},mapO (aq H d) cs = some ps → us.size = cs.length → (∀ c ∈ cs,c.one = true) → (∀ j c,cs[j]? = some c → RelV N.fn w S μ H c (us.getD j undef)) →
    us.size = ps.length ∧ (∀ c ∈ ps,c.one = true) ∧ ∀ (j : Nat) c,ps[j]? = some c → RelP N.fn w T c (us.getD j undef) := by
   intro cs us ps hm h1 h2 h3
   obtain ⟨m1,m2⟩ := aV hm
   refine ⟨by rw [m1,h1],fun c hc => ?_,fun j c hc => ?_⟩
   ·obtain ⟨j,hj⟩ := List.getElem?_of_mem hc
    obtain ⟨a,ha,hf⟩ := m2 j c hj
    exact fE hf (h2 a (List.mem_of_getElem? ha))
   ·obtain ⟨a,ha,hf⟩ := m2 j c hc
    exact ih (h3 j a ha) hf
  cases v with
  | p v => simp only [aq,Option.some.injEq] at hp; subst hp; exact h.p_inv.more hS
  | own id n =>
   simp only [aq,Option.map_eq_some_iff] at hp
   obtain ⟨⟨sz,xs⟩,hb,rfl⟩ := hp
   rw [h.own_inv hb]
   obtain ⟨f,h1,_⟩ := aO hb
   exact iR hr h1 hS (fun g hg => hT id _ g h1 hg)
  | bx id off =>
   simp only [aq,Option.bind_eq_some_iff,Option.ite_none_right_eq_some,Option.map_eq_some_iff] at hp
   obtain ⟨cs,hb,hlt,ps,hm,rfl⟩ := hp
   have hb0 := hb
   have hb := eF hb
   obtain ⟨g,rfl,hl,hg⟩ := h.bx_inv
   obtain ⟨g',arr,t,e1,e2,e3,e4,e5⟩ := hr.box_of hb0
   rw [hg cs hb] at e1
   cases e1
   obtain ⟨m1,m2⟩ := aV hm
   have get : ∀ (j : Nat) c,ps[j]? = some c → ∃ a,cs[off + j]? = some a ∧ aq H d a = some c := by
    intro j c hc
    obtain ⟨a,ha,hf⟩ := m2 j c hc
    rw [List.getElem?_drop] at ha
    exact ⟨a,ha,hf⟩
   refine .ptr ps _ (fun j => arr.getD (off + j) undef) (fun e => ?_) (hT id _ g hb (by rw [hg cs hb]; rfl)) (fun c hc => ?_) (fun j c hc => ?_) (fun j c hc => ?_)
   ·rw [e] at m1; simp at m1; omega
   ·obtain ⟨j,hj⟩ := List.getElem?_of_mem hc
    obtain ⟨a,ha,hf⟩ := get j c hj
    exact fE hf (e4 a (List.mem_of_getElem? ha))
   ·obtain ⟨a,ha,_⟩ := get j c hc
    have hlt : off + j < arr.size := by rw [e3]; exact (List.getElem?_eq_some_iff.1 ha).1
    rw [Go.Addr.add_lit,Go.cell_of_row w g _ arr t _ e2]
    simp [hlt]
   ·obtain ⟨a,ha,hf⟩ := get j c hc
    exact ih (e5 _ a ha) hf
  | mp id => simp [aq] at hp
  | el id n i off =>
   simp only [aq] at hp
   split at hp
   ·rename_i hni
    simp only [Option.bind_eq_some_iff,Option.ite_none_right_eq_some,Option.some.injEq] at hp
    obtain ⟨⟨sz,xs⟩,hb,⟨hl1,hl2,hl3⟩,rfl⟩ := hp
    exact xx hr hb h hS (fun f hf g hg => hT id _ g hf hg) hni hl1 hl2 hl3
   simp only [Option.bind_eq_some_iff,Option.ite_none_right_eq_some,Option.some.injEq] at hp
   obtain ⟨⟨sz,xs⟩,hb,x,hx,hlt,rfl⟩ := hp
   obtain ⟨f,h1,h2⟩ := aO hb
   simp only at h2 hx
   have hi : i < n := by rw [← h2]; exact (List.getElem?_eq_some_iff.1 hx).1
   obtain ⟨f',sz',xs',g,cap,k1,k2,k3,k4,rfl⟩ := h.el_inv (by simp [elOk,hb,hi])
   rw [h1] at k1
   cases k1
   have hb' := hr.blk id _ h1
   obtain ⟨_,_,us,r1,r2,r3,_⟩ := hb'
   rw [h2] at r1
   have hxm := r2 x (List.mem_of_getElem? hx)
   refine .ptr _ _ (fun j => us.getD (i * sz + (off + j)) undef) (fun e => ?_) ?_ (fun c hc => hxm.2 c (List.mem_of_mem_drop hc)) (fun j c hc => ?_) (fun j c hc => ?_)
   ·rw [List.drop_eq_nil_iff] at e; omega
   ·refine hT id _ g h1 ?_
    rw [k4]
    simp only [au]
    obtain ⟨_,r1⟩ := r1
    rcases r1 with ⟨h0,_⟩ | ⟨g',cap',_,_,hv,hc,_⟩
    ·omega
    ·rw [k4] at hv; cases hv; rw [if_neg (by omega)]
   ·rw [List.getElem?_drop] at hc
    have hlt2 : off + j < sz := by rw [← show x.cells.length = sz from hxm.1]; exact (List.getElem?_eq_some_iff.1 hc).1
    rw [Go.Addr.add_lit,Nat.add_assoc]
    refine iH r1 k4 ?_
    calc i * sz + (off + j) < i * sz + sz := by omega
     _ = (i + 1) * sz := by rw [Nat.add_mul,Nat.one_mul]
     _ ≤ n * sz := Nat.mul_le_mul_right _ hi
   ·rw [List.getElem?_drop] at hc
    exact (r3 i x _ c hx hc).more hS
  | agg cs =>
   simp only [aq,Option.map_eq_some_iff] at hp
   obtain ⟨ps,hm,rfl⟩ := hp
   cases h with
   | agg _ us h1 h2 h3 =>
   obtain ⟨k1,k2,k3⟩ := cells hm h1 h2 h3
   exact .agg ps us k1 k2 k3
  | clo f cs =>
   simp only [aq,Option.map_eq_some_iff] at hp
   obtain ⟨ps,hm,rfl⟩ := hp
   cases h with
   | clo _ _ us h1 h2 h3 =>
   obtain ⟨k1,k2,k3⟩ := cells hm h1 h2 h3
   exact .clo f ps us k1 k2 k3
  | tup => simp [aq] at hp
  | nov => simp [aq] at hp
  | any => simp [aq] at hp
theorem kb {ν : Nat → Nat} {w' : World} {S' : Nat → Prop} {p : PV} {u : Value} (hf : Aj p = true) (h : RelP ν w S p u) : RelP ν w' S' p u := by
 cases h with
 | int => exact .int _ _
 | bool => exact .bool _
 | str => exact .str _
 | nilp => exact .nilp
 | nilfn => exact .nilfn
 | nilmap => exact .nilmap
 | sl k sz xs a cap us h1 h2 h3 h4 h5 h6 h7 h8 =>
  cases k with
  | nil =>
   obtain ⟨rfl,rfl,rfl⟩ := h4 (.inl rfl)
   exact .sl .nil sz [] none 0 us (Nat.le_refl _) (Nat.zero_le _) (by simp) (by simp) (by simp) (by simp) (by simp) (by simp)
  | tight => cases hf
  | any => cases hf
  | mem => cases hf
 | clo => cases hf
 | ptr => cases hf
 | agg => cases hf
theorem vG {ν : Nat → Nat} {w' : World} {S' : Nat → Prop} {p : PV} {u : Value} (hf : flat p = true) (h : RelP ν w S p u) : RelP ν w' S' p u := by
 cases p with
 | agg cs =>
  cases h with
  | agg _ us h1 h2 h3 =>
  simp only [flat,List.all_eq_true] at hf
  exact .agg cs us h1 h2 (fun j c hc => kb (hf c (List.mem_of_getElem? hc)) (h3 j c hc))
 | _ => exact kb hf h
theorem BS (hr : Rel N.fn w S μ H) (hT : ∀ (id : Nat) sz xs g,H[id]? = some (.row false sz xs) → au (μ id) = some g → T g) {d : Nat} {v : AV} {u : Value} {p : PV} (hf : frC H v = true)
  (h : RelV N.fn w S μ H v u) (hp : aq H d v = some p) : RelP N.fn w T p u := by
 cases v with
 | p v =>
  have e : p = v := by cases d <;> simp only [aq,Option.some.injEq] at hp <;> exact hp.symm
  subst e
  exact kb hf h.p_inv
 | own id n =>
  cases d with
  | zero => simp [aq] at hp
  | succ d =>
   simp only [aq,Option.map_eq_some_iff] at hp
   obtain ⟨⟨sz,xs⟩,hb,rfl⟩ := hp
   obtain ⟨f,h1,_⟩ := aO hb
   simp only at h1
   have hf : f = false ∧ xs.all flat = true := by
    simp only [frC,h1] at hf
    cases f with
    | true => cases hf
    | false => simp only [Bool.and_eq_true] at hf; exact ⟨rfl,hf.2⟩
   obtain ⟨rfl,hf⟩ := hf
   rw [h.own_inv hb]
   have hall := iR hr h1 (T := fun g => S g ∨ au (μ id) = some g) (fun _ h => .inl h) (fun _ h => .inr h)
   generalize hμ : μ id = u at hall ⊢
   cases hall with
   | sl k sz xs a cap us q1 q2 q3 q4 q5 q6 q7 q8 =>
    refine .sl .any sz xs a cap us q1 q2 q3 q4 q5 (fun hx => ?_) q7 (fun i x j c hx hc => ?_)
    ·obtain ⟨ad,e,_⟩ := q6 hx
     refine ⟨ad,e,hT id sz xs _ h1 ?_⟩
     subst e
     rw [hμ]
     simp only [au]
     have : 0 < xs.length := List.length_pos_iff.2 hx
     rw [if_neg (by omega)]
    ·have hfx := List.all_eq_true.1 hf x (List.mem_of_getElem? hx)
     refine kb ?_ (q8 i x j c hx hc)
     cases x with
     | agg cs => exact List.all_eq_true.1 hfx c (List.mem_of_getElem? hc)
     | _ =>
      cases j with
      | zero => simp only [PV.cells,List.getElem?_cons_zero,Option.some.injEq] at hc; subst hc; exact hfx
      | succ j => simp [PV.cells] at hc
 | _ => cases hf
theorem frR_rel (hr : Rel N.fn w S μ H) (hT : ∀ (id : Nat) sz xs g,H[id]? = some (.row false sz xs) → au (μ id) = some g → T g) {d : Nat} {v : AV} {u : Value} {p : PV} (hf : frR H v = true)
  (h : RelV N.fn w S μ H v u) (hp : aq H d v = some p) : RelP N.fn w T p u := by
 cases v with
 | p v =>
  have e : p = v := by cases d <;> simp only [aq,Option.some.injEq] at hp <;> exact hp.symm
  subst e
  exact vG hf h.p_inv
 | agg cs =>
  cases d with
  | zero => simp [aq] at hp
  | succ d =>
   simp only [aq,Option.map_eq_some_iff] at hp
   obtain ⟨ps,hm,rfl⟩ := hp
   obtain ⟨m1,m2⟩ := aV hm
   cases h with
   | agg _ us h1 h2 h3 =>
   refine .agg ps us (by omega) (fun c hc => ?_) (fun j c hc => ?_)
   ·obtain ⟨j,hj⟩ := List.getElem?_of_mem hc
    obtain ⟨a,ha,hfa⟩ := m2 j c hj
    exact fE hfa (h2 a (List.mem_of_getElem? ha))
   ·obtain ⟨a,ha,hfa⟩ := m2 j c hc
    exact BS hr hT (List.all_eq_true.1 hf a (List.mem_of_getElem? ha)) (h3 j a ha) hfa
 | own id n => exact BS hr hT (show frC H (.own id n) = true from hf) h hp
 | _ => cases hf
theorem sA (hr : Rel N.fn w S μ H) {id : Nat} {f : Bool} {sz : Nat} {xs : List PV} (hb : H[id]? = some (.row f sz xs)) :
  Step N.fn w S μ H w (fun g => S g ∨ au (μ id) = some g) μ (H.set id (.row true sz xs)) := by
 have hlt := (List.getElem?_eq_some_iff.1 hb).1
 have get : ∀ (i : Nat) b,(H.set id (.row true sz xs))[i]? = some b → (i = id ∧ b = .row true sz xs) ∨ (i ≠ id ∧ H[i]? = some b) := by
  intro i b h
  simp only [List.getElem?_set,hlt,if_true] at h
  split at h
  ·rename_i e; subst e; simp only [Option.some.injEq] at h; exact .inl ⟨rfl,h.symm⟩
  ·rename_i e; exact .inr ⟨Ne.symm e,h⟩
 have hm : Moves μ H μ (H.set id (.row true sz xs)) := by
  refine ⟨by simp,fun i f' sz' ys hl h => ?_,fun i cs hl h => ?_⟩
  ·rcases get i _ h with ⟨rfl,e⟩ | ⟨_,h⟩
   ·cases e; exact ⟨f,xs,hb,Nat.le_refl _,fun _ => rfl⟩
   ·exact ⟨f',ys,h,Nat.le_refl _,fun _ => rfl⟩
  ·rcases get i _ h with ⟨rfl,e⟩ | ⟨_,h⟩
   ·cases e
   ·exact ⟨cs,h,rfl⟩
 have al : ∀ (i : Nat) b,(H.set id (.row true sz xs))[i]? = some b → bj b → i ≠ id ∧ H[i]? = some b := by
  intro i b h ha
  rcases get i b h with ⟨rfl,rfl⟩ | h
  ·rcases ha with ⟨cs,e⟩ | ⟨a,b,e⟩ <;> cases e
  ·exact h
 have alg : ∀ g,alive μ (H.set id (.row true sz xs)) g → alive μ H g := by
  intro g ha
  obtain ⟨i,b,h1,h2,h3⟩ := alive_iff.1 ha
  exact alive_iff.2 ⟨i,b,(al i b h1 h2).2,h2,h3⟩
 refine ⟨⟨fun g h => ?_,fun i b h => ?_,fun g ha hs => ?_,fun i j g hi hj ai aj => ?_⟩,⟨rfl,rfl,rfl,Nat.le_refl _,fun _ _ _ => rfl,fun g h => .inl h,fun g h _ => ?_,fun g h _ => alg g h⟩,hm⟩
 ·rcases h with h | h
  ·exact hr.lt g h
  ·exact hr.blk_lt hb h
 ·have old : ∀ b',H[i]? = some b' → BlkRel N.fn w (fun g => S g ∨ au (μ id) = some g) μ (H.set id (.row true sz xs)) i b' := fun b' hb' => (hr.blk i b' hb').keep (fun _ h => .inl h) (fun _ _ => rfl) hm rfl (fun _ _ => rfl)
  rcases get i b h with ⟨rfl,rfl⟩ | ⟨_,h⟩
  ·obtain ⟨h0,hl,us,h1,h2,h3,_⟩ := old _ hb
   exact ⟨h0,hl,us,h1,h2,h3,fun _ g hg => .inr hg⟩
  ·exact old b h
 ·rcases hs with hs | hs
  ·exact hr.apart g (alg g ha) hs
  ·obtain ⟨i,b,h1,h2,h3⟩ := alive_iff.1 ha
   obtain ⟨hne,h4⟩ := al i b h1 h2
   cases f with
   | false => exact hne (hr.inj' h4 hb h2 (.inr ⟨sz,xs,rfl⟩) h3 hs)
   | true =>
    obtain ⟨_,_,us,_,_,_,h5⟩ := hr.blk id _ hb
    exact hr.apart g (alg g ha) (h5 rfl g hs)
 ·have conv : ∀ k : Nat,((∃ cs,(H.set id (.row true sz xs))[k]? = some (Blk.box cs)) ∨ ∃ sz' ys,(H.set id (.row true sz xs))[k]? = some (Blk.row false sz' ys)) → (∃ cs,H[k]? = some (Blk.box cs)) ∨ ∃ sz' ys,H[k]? = some (Blk.row false sz' ys) := by
   rintro k (⟨cs,h⟩ | ⟨sz',ys,h⟩)
   ·exact .inl ⟨cs,(al k _ h (.inl ⟨cs,rfl⟩)).2⟩
   ·exact .inr ⟨sz',ys,(al k _ h (.inr ⟨sz',ys,rfl⟩)).2⟩
  exact hr.inj i j g hi hj (conv i ai) (conv j aj)
 ·rcases h with h | h
  ·exact .inl h
  ·cases f with
   | false => exact .inr (alive_iff.2 ⟨id,_,hb,.inr ⟨sz,xs,rfl⟩,h⟩)
   | true =>
    obtain ⟨_,_,us,_,_,_,h5⟩ := hr.blk id _ hb
    exact .inl (h5 rfl g h)
theorem Moves.trans {μ1 μ2 H1 H2} (a : Moves μ H μ1 H1) (b : Moves μ1 H1 μ2 H2) : Moves μ H μ2 H2 where
 len := Nat.le_trans a.len b.len
 row id f sz xs hl h := by
  obtain ⟨f1,xs1,h1,l1,e1⟩ := b.row id f sz xs (Nat.lt_of_lt_of_le hl a.len) h
  obtain ⟨f2,xs2,h2,l2,e2⟩ := a.row id f1 sz xs1 hl h1
  exact ⟨f2,xs2,h2,Nat.le_trans l2 l1,fun h => (e1 (by omega)).trans (e2 (by omega))⟩
 box id cs hl h := by
  obtain ⟨cs1,h1,e1⟩ := b.box id cs (Nat.lt_of_lt_of_le hl a.len) h
  obtain ⟨cs2,h2,e2⟩ := a.box id cs1 hl h1
  exact ⟨cs2,h2,e1.trans e2⟩
theorem Step.trans {w1 S1 μ1 H1 w2 S2 μ2 H2} (a : Step N.fn w S μ H w1 S1 μ1 H1) (b : Step N.fn w1 S1 μ1 H1 w2 S2 μ2 H2) : Step N.fn w S μ H w2 S2 μ2 H2 := ⟨b.rel,a.ext.trans b.ext,a.moves.trans b.moves⟩
theorem Step.refl (hr : Rel N.fn w S μ H) : Step N.fn w S μ H w S μ H := ⟨hr,Ext.refl,.refl⟩
theorem gG : ∀ (cs : List AV) {S : Nat → Prop} {H : Heap},Rel N.fn w S μ H → ∃ S',Step N.fn w S μ H w S' μ (freeze H cs) ∧
  (∀ (id : Nat) f sz xs,H[id]? = some (.row f sz xs) → ∃ f',(freeze H cs)[id]? = some (.row f' sz xs) ∧ ((∃ n,AV.own id n ∈ cs) ∨ f = true → f' = true))
 | [],S,H,hr => ⟨S,.refl hr,fun id f sz xs h => ⟨f,h,fun e => by simpa using e⟩⟩
 | c :: cs,S,H,hr => by
  by_cases hc : ∃ id n f sz xs,c = .own id n ∧ H[id]? = some (.row f sz xs)
  ·obtain ⟨id,n,f,sz,xs,rfl,hb⟩ := hc
   have hs := sA hr hb
   obtain ⟨S',h1,h2⟩ := gG cs hs.rel
   have e : freeze H (.own id n :: cs) = freeze (H.set id (.row true sz xs)) cs := by simp [freeze,hb]
   rw [e]
   refine ⟨S',hs.trans h1,fun i f' sz' ys h => ?_⟩
   have hlt := (List.getElem?_eq_some_iff.1 hb).1
   by_cases he : i = id
   ·subst he
    rw [hb] at h; cases h
    obtain ⟨f2,h3,h4⟩ := h2 i true sz xs (by simp [hlt])
    exact ⟨f2,h3,fun _ => h4 (.inr rfl)⟩
   ·obtain ⟨f2,h3,h4⟩ := h2 i f' sz' ys (by rw [List.getElem?_set_ne (Ne.symm he)]; exact h)
    refine ⟨f2,h3,fun hh => h4 ?_⟩
    rcases hh with ⟨m,hm⟩ | hh
    ·simp only [List.mem_cons,AV.own.injEq] at hm
     rcases hm with ⟨rfl,_⟩ | hm
     ·exact absurd rfl he
     ·exact .inl ⟨m,hm⟩
    ·exact .inr hh
  ·have e : freeze H (c :: cs) = freeze H cs := by
    cases c <;> try rfl
    rename_i id n
    simp only [freeze]
    cases hb : H[id]? with
    | none => rfl
    | some b =>
     cases b with
     | box => rfl
     | dead => rfl
     | row f sz xs => exact absurd ⟨id,n,f,sz,xs,rfl,hb⟩ hc
   rw [e]
   obtain ⟨S',h1,h2⟩ := gG cs hr
   refine ⟨S',h1,fun i f sz xs h => ?_⟩
   obtain ⟨f',h3,h4⟩ := h2 i f sz xs h
   refine ⟨f',h3,fun hh => h4 ?_⟩
   rcases hh with ⟨m,hm⟩ | hh
   ·rcases List.mem_cons.1 hm with hm | hm
    ·exact absurd ⟨i,m,f,sz,xs,hm.symm,h⟩ hc
    ·exact .inl ⟨m,hm⟩
   ·exact .inr hh
end
end Ab
namespace Ab
open Go (IntKind BinOp UnOp World Value Addr Obj undef maxLen Program TypeId Oper Op Operand Act Sem Next Result execOp Builtin)
section
variable {Γ : Ctx} {N : Names} {P : Program} {w : World} {S T : Nat → Prop} {μ : Nat → Value} {H : Heap}
theorem run_askRoom (b : Nat) : (Go.askRoom b).run P w = .ok () w := by
 unfold Go.askRoom
 split
 ·simp [Go.mark,Sem.run]
 ·simp
theorem oM {ν : Nat → Nat} {x : PV} {cells : Array Value} {n sz : Nat} (hx : x.cells.length = sz) (h1 : ∀ c ∈ x.cells,c.one = true) (hc : cells.size = sz) (_h0 : 0 < sz)
  (hr : ∀ (j : Nat) c,x.cells[j]? = some c → RelP ν w S c (cells.getD j undef)) {us : List Value} (hu : ∀ t,t < n * sz → us.getD t undef = cells.getD (t % sz) undef) :
  FlatRel ν w S sz (List.replicate n x) us := by
 refine ⟨fun y hy => ?_,fun i y j c hy hc' => ?_⟩
 ·rw [List.eq_of_mem_replicate hy]; exact ⟨hx,h1⟩
 ·obtain ⟨hi,e⟩ := List.getElem?_eq_some_iff.1 hy
  simp only [List.length_replicate] at hi
  simp only [List.getElem_replicate] at e
  subst e
  have hj : j < sz := by rw [← hx]; exact (List.getElem?_eq_some_iff.1 hc').1
  have hlt : i * sz + j < n * sz := by
   calc i * sz + j < i * sz + sz := by omega
    _ = (i + 1) * sz := by rw [Nat.add_mul,Nat.one_mul]
    _ ≤ n * sz := Nat.mul_le_mul_right _ hi
  rw [hu _ hlt,Nat.add_comm,Nat.add_mul_mod_self_right,Nat.mod_eq_of_lt hj]
  exact hr j c hc'
theorem qU (hr : Rel N.fn w S μ H) {t e : TypeId} {i : Go.TypeInfo} {sz : Nat} {ag : Bool} {zero : List PV} {n c : Value} {n' c' : AV} {r : AV × Heap} (hT : slT P t = some e) (hi : P.info? e = some i) (hsz : i.size = sz) (hz : oP P e zero = true)
  (hzl : zero.length = sz) (h0 : 0 < sz) (hag : ag = false → sz = 1) (hb : i.bytes ≤ 65536) (hn : RelV N.fn w S μ H n' n) (hc : RelV N.fn w S μ H c' c) (hv : fe H sz ag zero n' c' = some r) :
  ∃ u w' μ',(Go.Instr.makeSlice t n c).run P w = .ok u w' ∧ Step N.fn w S μ H w' S μ' r.2 ∧ RelV N.fn w' S μ' r.2 r.1 u ∧ ∃ o m cp,w' = w.alloc o ∧ u = .slice (some ⟨w.heap.size,0,none⟩) m cp := by
 have lim_eq : lim = 1073741824 := rfl
 unfold oP at hz
 split at hz
 rotate_left
 ·cases hz
 rename_i z hzz
 obtain ⟨i',hi',hzi⟩ := Option.bind_eq_some_iff.1 hzz
 rw [hi] at hi'; cases hi'
 obtain ⟨z1,z2,z3⟩ := fV (ν := N.fn) (w := w) (S := S) hz
 have hzs : z.cells.size = sz := by rw [← hzl,← z1]; simp
 unfold fe at hv
 split at hv
 rotate_left
 ·cases hv
 rename_i k1 n k2 c
 rw [hn.int_inv,hc.int_inv]
 -- the run
 have run : ∀ m cp : Nat,m ≤ cp → cp ≤ lim → n = m → c = cp → (Go.Instr.makeSlice t (.int k1 n) (.int k2 c)).run P w =
   .ok (.slice (some ⟨w.heap.size,0,none⟩) m cp) (w.alloc (.cells ((Array.range (cp * sz)).map (z.cells[· % z.cells.size]!)) e)) := by
  intro m cp h1 h2 e1 e2
  subst e1 e2
  have w1 : IntKind.i64.wrap (m : Int) = m := wrap_i64 (by omega) (by omega)
  have w2 : IntKind.i64.wrap (cp : Int) = cp := wrap_i64 (by omega) (by omega)
  have big : ¬ ((i.bytes : Int) * (cp : Int) > 2 ^ 48) := by
   have : i.bytes * cp ≤ 65536 * 1073741824 := Nat.mul_le_mul hb (by omega)
   have h3 : ((i.bytes * cp : Nat) : Int) ≤ (65536 * 1073741824 : Nat) := by exact_mod_cast this
   rw [Int.natCast_mul] at h3
   have h4 : ((65536 * 1073741824 : Nat) : Int) ≤ 2 ^ 48 := by decide
   omega
  have n1 : ¬ ((cp : Int) < 0) := by omega
  have n2 : ¬ ((m : Int) < 0) := by omega
  have n3 : ¬ ((m : Int) > cp) := by omega
  have cnd : (decide ((cp : Int) < 0) || decide ((i.bytes : Int) * (cp : Int) > 2 ^ 48) || decide ((m : Int) < 0) || decide ((m : Int) > cp)) = false := by
   simp only [Bool.or_eq_false_iff]
   exact ⟨⟨⟨decide_eq_false n1,decide_eq_false big⟩,decide_eq_false n2⟩,decide_eq_false n3⟩
  simp only [Go.Instr.makeSlice,Go.Sem.run_bind,Go.run_underlying (bn hT),Go.Result.andThen_ok,Go.asInt,Go.asIntOf,Go.Sem.run_pure,Go.typeInfo,hi,Go.run_program,w1,w2]
  simp only [cnd,Bool.false_eq_true,if_false,Go.Sem.run_bind,run_askRoom,Go.Result.andThen_ok,Go.sizeOf,Go.typeInfo,Go.run_program,hi,Go.Sem.run_pure,hsz,Int.toNat_natCast]
  by_cases h5 : cp * sz = 0
  ·have e0 : ∀ f : Nat → Value,(Array.range 0).map f = #[] := fun f => by simp
   simp only [h5,if_true,e0]
   simp [Go.newRow]
  ·simp only [h5,if_false,Go.Sem.run_bind,Go.zeroValue,Go.typeInfo,Go.run_program,hi,Go.Sem.run_pure,Go.Result.andThen_ok,hzi]
   simp [Go.newRow]
 have get : ∀ cp t' : Nat,t' < cp * sz → ((Array.range (cp * sz)).map (z.cells[· % z.cells.size]!)).getD t' undef = z.cells.getD (t' % sz) undef := by
  intro cp t' ht
  have hm : t' % sz < z.cells.size := by rw [hzs]; exact Nat.mod_lt _ h0
  rw [Array.getD_eq_getD_getElem?,Array.getD_eq_getD_getElem?,Array.getElem?_map,Array.getElem?_range,if_pos ht,hzs]
  simp only [Option.map_some,Option.getD_some]
  rw [getElem!_pos z.cells _ hm,Array.getElem?_eq_getElem hm,Option.getD_some]
 have xc : (if ag = true then PV.agg zero else zero.headD .nilp).cells = zero := by
  cases ag with
  | true => rfl
  | false =>
   have := hag rfl
   match zero,hzl with
   | [q],_ => exact PV.cells_one (z2 q (by simp))
   | [],h => simp at h; omega
   | _ :: _ :: _,h => simp at h; omega
 have mk : ∀ m cp : Nat,m ≤ cp → cp ≤ lim → n = m → c = cp → ∀ xs,xs = List.replicate m (if ag = true then PV.agg zero else zero.headD .nilp) →
   ∃ u w' μ',(Go.Instr.makeSlice t (.int k1 n) (.int k2 c)).run P w = .ok u w' ∧ Step N.fn w S μ H w' S μ' (H ++ [.row false sz xs]) ∧ RelV N.fn w' S μ' (H ++ [.row false sz xs]) (.own H.length m) u ∧ ∃ o m cp,w' = w.alloc o ∧ u = .slice (some ⟨w.heap.size,0,none⟩) m cp := by
  intro m cp h1 h2 e1 e2 xs hxs
  have hxl : xs.length = m := by rw [hxs]; simp
  have hg := Grows.alloc w (.cells ((Array.range (cp * sz)).map (z.cells[· % z.cells.size]!)) e)
  have hle : m * sz ≤ cp * sz := Nat.mul_le_mul_right _ h1
  have hrow : RowAt (w.alloc (.cells ((Array.range (cp * sz)).map (z.cells[· % z.cells.size]!)) e)) (.slice (some ⟨w.heap.size,0,none⟩) m cp) sz m (((Array.range (cp * sz)).map (z.cells[· % z.cells.size]!)).toList.take (m * sz)) := by
   refine ⟨by simp only [List.length_take,Array.length_toList,Array.size_map,Array.size_range]; omega,?_⟩
   by_cases hcp : cp = 0
   ·exact .inl ⟨by omega,_,by subst hcp; rw [show m = 0 by omega]⟩
   ·exact .inr ⟨w.heap.size,cp,_,e,rfl,by omega,⟨_,Go.heap_alloc_new w _,.inl rfl⟩,h1,by simp only [maxLen]; omega,by simp,rfl⟩
  have hflat : FlatRel N.fn (w.alloc (.cells ((Array.range (cp * sz)).map (z.cells[· % z.cells.size]!)) e)) S sz xs (((Array.range (cp * sz)).map (z.cells[· % z.cells.size]!)).toList.take (m * sz)) := by
   rw [hxs]
   refine (oM (by rw [xc,hzl]) (fun c hc => z2 c (by rw [xc] at hc; exact hc)) hzs h0 (fun j c hc => ?_) (fun t' ht => ?_)).keep (hr.keepS hg)
   ·rw [xc] at hc
    have := z3 j c hc
    rwa [getD_toList] at this
   ·rw [List.getD_eq_getElem?_getD,List.getElem?_take,if_pos ht,← List.getD_eq_getElem?_getD,getD_toList]
    exact get cp t' (by omega)
  rw [← hxl] at hrow
  obtain ⟨μ',s1,s2⟩ := bV hr hg h0 (by omega) hrow (by rw [hxl]; exact hflat) (fun g hg => by
   simp only [au] at hg
   split at hg
   ·cases hg
   ·simp only [Option.some.injEq] at hg; omega)
  rw [hxl] at s2
  exact ⟨_,_,μ',run m cp h1 h2 e1 e2,s1,s2,_,_,_,rfl,rfl⟩
 split at hv
 ·rename_i hc1
  obtain ⟨g1,g2,g3⟩ := hc1
  simp only [Option.some.injEq] at hv
  subst hv
  have e1 : n = (n.toNat : Int) := by omega
  exact mk n.toNat n.toNat (Nat.le_refl _) (by omega) e1 (by omega) _ rfl
 ·simp only [Option.ite_none_right_eq_some,Option.some.injEq] at hv
  obtain ⟨⟨g1,g2,g3⟩,rfl⟩ := hv
  exact mk 0 c.toNat (Nat.zero_le _) (by omega) (by simpa using g1) (by omega) _ (by simp)
end
end Ab
namespace Ab
open Go (IntKind BinOp UnOp World Value Addr Obj undef maxLen Program TypeId Oper Op Operand Act Sem Next Result execOp Builtin)
section
variable {Γ : Ctx} {N : Names} {P : Program} {w : World} {S : Nat → Prop} {μ : Nat → Value} {H : Heap}
theorem x_range (hr : Rel N.fn w S μ H) {T : TypeId} {x : Value} {x' : AV} {r : AV × Heap} (hT : strT P T = true) (hx : RelV N.fn w S μ H x' x) (hv : wH H x' = some r) :
  ∃ u w' μ',(Go.Instr.range T x).run P w = .ok u w' ∧ Step N.fn w S μ H w' S μ' r.2 ∧ RelV N.fn w' S μ' r.2 r.1 u := by
 unfold wH at hv
 split at hv
 rotate_left
 ·cases hv
 rename_i s
 simp only [Option.some.injEq] at hv
 subst hv
 rw [hx.str_inv]
 refine ⟨.pointer (some ⟨w.heap.size,0,none⟩),w.alloc (.stringIter ⟨s.toArray⟩ 0),upd μ H.length (.pointer (some ⟨w.heap.size,0,none⟩)),?_,Step.push hr (Grows.alloc w _) ?_ ?_,?_⟩
 ·simp [Go.Instr.range,Go.run_underlying (cP hT),Go.newObj,Go.Sem.run]
 ·exact ⟨w.heap.size,upd_same,.inr (.inl ⟨s,0,rfl,Go.heap_alloc_new w _⟩)⟩
 ·intro g hg
  simp only [au,Option.some.injEq] at hg
  omega
 ·exact .bx _ _ w.heap.size _ (by simp) (fun _ _ => upd_same) rfl
theorem x_next (hr : Rel N.fn w S μ H) {ty : TypeId} {x : Value} {x' : AV} {r : AV × Heap} (hx : RelV N.fn w S μ H x' x) (hv : nextA H x' = some r) :
  ∃ u w' μ',(Go.Instr.next x true ty).run P w = .ok u w' ∧ Step N.fn w S μ H w' S μ' r.2 ∧ RelV N.fn w' S μ' r.2 r.1 u := by
 unfold nextA at hv
 split at hv
 rotate_left
 ·cases hv
 rename_i id
 split at hv
 rotate_left
 ·cases hv
 rename_i s pos hb
 obtain ⟨g,rfl,hl,hg⟩ := hx.bx_inv
 obtain ⟨g',h1,⟨arr,t,h2,h3,h4,h5⟩ | ⟨s',pos',h2,h3⟩ | ⟨es,arr,clock,h2,_⟩⟩ := hr.blk id _ hb
 ·exact absurd (h4 .nov (by simp)) (by simp [AV.one])
 rotate_left
 ·simp [ah] at h2
 simp only [cv,List.cons.injEq,AV.p.injEq,PV.str.injEq,PV.int.injEq,and_true,true_and] at h2
 obtain ⟨rfl,rfl⟩ := h2
 rw [hg _ hb] at h1
 cases h1
 by_cases hlt : (pos' : Int) < s.length
 ·have hlt' : pos' < s.length := by omega
  rw [if_pos hlt] at hv
  simp only [Option.some.injEq,Int.toNat_natCast] at hv
  subst hv
  have hm : Moves μ H (upd μ id (.pointer (some ⟨g,0,none⟩))) (H.set id (.box (cv s (pos' + (oo s pos').2)))) := gu hb (hg _ hb).symm
  have hk : ∀ k,k < w.heap.size → au (μ id) ≠ some k → ({ w with heap := w.heap.setIfInBounds g (.stringIter ⟨s.toArray⟩ (pos' + (oo s pos').2)) } : World).heap[k]? = w.heap[k]? := by
   intro k _ hne
   rw [hg _ hb] at hne
   have : g ≠ k := fun e => hne (by rw [e]; rfl)
   simp [Array.getElem?_setIfInBounds_ne this]
  have hgl : g < w.heap.size := (Array.getElem?_eq_some_iff.1 h3).1
  refine ⟨.tuple #[.bool true,.int .i64 pos',.int .i32 (oo s pos').1],{ w with heap := w.heap.setIfInBounds g (.stringIter ⟨s.toArray⟩ (pos' + (oo s pos').2)) },upd μ id (.pointer (some ⟨g,0,none⟩)),?_,?_,?_⟩
  ·have hsz : (ByteArray.mk s.toArray).size = s.length := size_mk s
   simp [Go.Instr.next,Go.getObj,Go.setObj,Go.Sem.run,h3,hsz,hlt',oo,Go.goInt]
  ·refine Step.set hr hb (.inl ⟨_,rfl⟩) rfl rfl rfl (by simp) hk hm ?_ (fun k h => .inl (by rw [hg _ hb]; exact h))
   exact ⟨g,upd_same,.inr (.inl ⟨s,_,rfl,by simp [hgl]⟩)⟩
  ·refine .tup _ _ (by simp) fun j c hc => ?_
   match j with
   | 0 => simp only [List.getElem?_cons_zero,Option.some.injEq] at hc; subst hc; exact .p _ _ (.bool _)
   | 1 => simp only [List.getElem?_cons_succ,List.getElem?_cons_zero,Option.some.injEq] at hc; subst hc; exact .p _ _ (.int _ _)
   | 2 => simp only [List.getElem?_cons_succ,List.getElem?_cons_zero,Option.some.injEq] at hc; subst hc; exact .p _ _ (.int _ _)
   | j + 3 => simp at hc
 ·have hlt' : ¬ pos' < s.length := by omega
  rw [if_neg hlt] at hv
  simp only [Option.some.injEq] at hv
  subst hv
  refine ⟨.tuple #[.bool false],w,μ,?_,.refl hr,?_⟩
  ·have hsz : (ByteArray.mk s.toArray).size = s.length := size_mk s
   simp [Go.Instr.next,Go.getObj,Go.Sem.run,h3,hsz,hlt']
  ·refine .tup _ _ (by simp) fun j c hc => ?_
   match j with
   | 0 => simp only [List.getElem?_cons_zero,Option.some.injEq] at hc; subst hc; exact .p _ _ (.bool _)
   | j + 1 => simp at hc
theorem RelO.step {w' : World} {S' : Nat → Prop} {μ' : Nat → Value} {H' : Heap} (hr : Rel N.fn w S μ H) (hs : Step N.fn w S μ H w' S' μ' H') : ∀ {o : Option AV} {u : Option Value},RelO N.fn w S μ H o u → RelO N.fn w' S' μ' H' o u := by
 intro o u h
 unfold RelO at *
 split at h
 ·exact h
 ·exact RelV.keep hs.ext.more (fun g hg => hs.ext.keep g (hr.lt g hg) (hr.stable hg).2) hs.moves h
 ·exact h
theorem x_slicef {T e : TypeId} {sz : Nat} {x : Value} {x' : AV} {r : AV × Heap} {lo hi : Option AV} {lo' hi' : Option Value} (hr : Rel N.fn w S μ H) (hT : slT P T = some e) (hs : (P.info? e).map (·.size) = some sz)
  (hx : RelV N.fn w S μ H x' x) (hlo : RelO N.fn w S μ H lo lo') (hhi : RelO N.fn w S μ H hi hi') (hv : jH H sz x' lo hi = some r) :
  ∃ u w' S' μ',(Go.Instr.sliceAt T x lo' hi' none).run P w = .ok u w' ∧ Step N.fn w S μ H w' S' μ' r.2 ∧ RelV N.fn w' S' μ' r.2 r.1 u := by
 unfold jH at hv
 split at hv
 ·rename_i id n
  obtain ⟨rr,hrr,hv⟩ := Option.bind_eq_some_iff.1 hv
  obtain ⟨v,hv',rfl⟩ := Option.map_eq_some_iff.1 hv
  obtain ⟨S',hst,hrow⟩ := gG [.own id n] hr
  obtain ⟨fz,hb,hn⟩ := aO hrr
  obtain ⟨f1,hb1,hf1⟩ := hrow id fz rr.1 rr.2 hb
  have := hf1 (.inl ⟨n,by simp⟩)
  subst this
  have hp : RelP N.fn w S' (.sl .any rr.1 rr.2) (μ id) := by
   refine iR hr hb hst.ext.more fun g hg => ?_
   obtain ⟨_,_,us,_,_,_,h4⟩ := hst.rel.blk id _ hb1
   exact h4 rfl g hg
  have hx1 : x = μ id := hx.own_inv hrr
  rw [hx1]
  obtain ⟨u,h1,h2⟩ := tX hT hs (RelV.p (μ := μ) (H := freeze H [.own id n]) _ _ hp) (RelO.step hr hst hlo) (RelO.step hr hst hhi) hv'
  exact ⟨u,w,S',μ,h1,hst,h2⟩
 ·obtain ⟨v,hv',rfl⟩ := Option.map_eq_some_iff.1 hv
  obtain ⟨u,h1,h2⟩ := tX hT hs hx hlo hhi hv'
  exact ⟨u,w,S,μ,h1,.refl hr,h2⟩
end
end Ab
