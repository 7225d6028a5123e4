import Derived.Test.YtjlcnbpehbgfaaaGreatDoorLSub26
namespace Ab
open Go (IntKind BinOp UnOp)
theorem loadK_wR {f : Bool} {ws : List Wy} {n i : Nat} (h : ws.length = n) (h' : i < n) : loadK (some (.row f 2 (wR ws))) 2 true n i 0 = some (.p (.agg (wyC (ws.getD i (0,[]))))) := by
 subst h
 unfold loadK
 have e : (wR ws)[i]? = some (.agg (wyC (ws.getD i (0,[])))) := by
  unfold wR
  rw [aggs_get (by rw [List.length_map]; exact h')]
  congr 2
  rw [List.getD_eq_getElem?_getD,List.getElem?_map,List.getD_eq_getElem?_getD,List.getElem?_eq_getElem h']; rfl
 simp only [wR_len,if_true,e,Option.bind_some]
 rfl
theorem wyC_mk {pc : Int} {sv : List Int} : wyC (pc,sv) = [.sl .any 1 (ints .i64 sv),.int .i64 pc] := rfl
theorem pures_mp {id r} : pures (.mp id :: r) = none := rfl
attribute [go_sem] loadK_wR pures_mp
def nH (lv : List Wy) (s : List Int) : Heap := match lv with
 | [] => [.box [.p (.sl .nil 2 []),.mp 5],sB s]
 | _ :: _ => [.box [.own 5 lv.length,.mp 6],.row false 2 (wR lv),sB s]
theorem spl_cons {l t k} {w : Wy} {r : List Wy} : spl1 l t k (w :: r) = if (insAt l w.1).1 = 7 then ([],some w.2) else if okB l t k w then ((w.1 + 1,w.2) :: (spl1 l t k r).1,(spl1 l t k r).2) else spl1 l t k r := rfl
theorem st351_3 : stillF Γ 3 351 = true := by kernel_rfl
theorem st351_4 : stillF Γ 4 351 = true := by kernel_rfl
theorem st350_3 : stillF Γ 3 350 = true := by kernel_rfl
theorem st350_4 : stillF Γ 4 350 = true := by kernel_rfl
def okW (l : List Ins) (m : Nat) (w : Wy) : Prop := isLf l w ∧ 0 ≤ w.1 ∧ w.1 < (l.length : Int) ∧ w.2.length = m
abbrev sE (k n i : Nat) : Env := [(0,.bx 0 0),(2,.p (.int .i64 k)),(9,.bx 4 0),(19,.own 2 n),(20,.p (.int .i64 n)),(21,.p (.int .i64 i))]
set_option maxRecDepth 10000 in
set_option maxHeartbeats 8000000 in
theorem pkStep_l1_ok (g : Int) (kl : SK) (l : List Ins) (hl : l.length ≤ 10000) (hp : ∀ x ∈ l,x.2.2.2.length ≤ 1000000) (t : List UInt8) (ht : t.length ≤ 1000000) (k m : Nat) (hk : k ≤ 1000000) (hm : 0 < m ∧ m ≤ 100000) (n : Nat) (hn : n ≤ 50000) (_wsl : Blk) (ws : List Wy) (hws : ws.length = n) (s : List Int) (hwv : ∀ w ∈ ws,okW l m w) (Q : Out → Prop) (lvF : List Wy) (sF : List Int) (mF : Option (List Int))
  (hQ : match mF with
   | none => Q (.nrm,[(9,.bx 4 0)],wkB g kl l t :: .box [.own 2 n,.mp 3] :: .row false 2 (wR ws) :: sB s :: nH lvF sF)
   | some x => ∀ G : Heap,Q (.ret,[(6,.bx 4 0),(7,.p (.sl .any 1 (ints .i64 x))),(8,.p (.bool true))],wkB g kl l t :: .box [.own 2 n,.mp 3] :: .row false 2 (wR ws) :: sB s :: (nH lvF sF ++ G))) : ∀ (rem done lvA : List Wy) (sA lvB),ws = done ++ rem →
  Cl l t.length (k + 1) (spl1 l t k rem).1 sA lvB sF → lvA ++ lvB = lvF → (spl1 l t k rem).2 = mF → lvA.length + left l sA ≤ 20000 →
  ∀ e H,norm [0,2,9,19,20,21] (some 4) e H = some (sE k n done.length,wkB g kl l t :: .box [.own 2 n,.mp 3] :: .row false 2 (wR ws) :: sB s :: nH lvA sA) →
  Wp Γ pike_walk_step_l1 e H (InBlk [9] 0 Q) := by
 intro rem
 induction rem with
 | nil =>
  intro done lvA sA lvB hd hc hlv hmF hlen e H hH
  simp only [spl1] at hc hmF
  cases hc
  subst hmF
  rw [List.append_nil] at hlv hd
  subst hlv
  have hdl : done.length = n := by rw [← hd]; exact hws
  rw [hdl] at hH
  cases lvA with
  | nil =>
   simp only [nH] at hH hQ
   rw [W_loop (L := pike_walk_step_l1) rfl]
   rw [hH]
   simp (disch := first | assumption | omega | decide | (simp only [lens] <;> omega) | fail) only [go_sem]
   exact hQ
  | cons a r =>
   simp only [nH,List.length_cons] at hH hQ
   rw [W_loop (L := pike_walk_step_l1) rfl]
   rw [hH]
   simp (disch := first | assumption | omega | decide | (simp only [lens] <;> omega) | fail) only [go_sem]
   exact hQ
 | cons w r ih =>
  intro done lvA sA lvB hd hc hlv hmF hlen e H hH
  obtain ⟨pc,sv⟩ := w
  have hdl : done.length < n := by rw [← hws,hd,List.length_append,List.length_cons]; omega
  have hgw : ws.getD done.length (0,[]) = (pc,sv) := by rw [hd,List.getD_eq_getElem?_getD,List.getElem?_append_right (Nat.le_refl _),Nat.sub_self]; rfl
  have hmem : ((pc,sv) : Wy) ∈ ws := by rw [hd]; exact List.mem_append_right _ (List.mem_cons_self ..)
  obtain ⟨hlf,h0,h1,hsv⟩ := hwv _ hmem
  dsimp only at h0 h1 hsv
  have ih := ih (done ++ [(pc,sv)])
  rw [show (done ++ [(pc,sv)]).length = done.length + 1 by rw [List.length_append]; rfl] at ih
  have hd2 : ws = done ++ [(pc,sv)] ++ r := by rw [hd]; simp
  generalize hq : done.length = i at *
  rw [spl_cons] at hc hmF
  dsimp only at hc hmF
  have hins : insAt l pc ∈ l := by
   unfold insAt
   rw [List.getD_eq_getElem?_getD,List.getElem?_eq_getElem (by omega)]
   exact List.getElem_mem _
  have hpl := hp _ hins
  have hlf2 : (insAt l pc).1 = 1 ∨ (insAt l pc).1 = 7 := hlf
  by_cases h7 : (insAt l pc).1 = 7
  ·rw [if_pos h7] at hc hmF
   dsimp only at hc hmF
   cases hc
   subst hmF
   rw [List.append_nil] at hlv
   subst hlv
   unfold insAt at h7
   generalize hg : l.getD pc.toNat (0,0,0,[]) = z at h7
   obtain ⟨o,x,y,p⟩ := z
   dsimp only at h7
   subst h7
   cases lvA with
   | nil =>
    simp only [nH] at hH hQ
    rw [W_loop (L := pike_walk_step_l1) rfl]
    rw [hH]
    simp (disch := first | assumption | omega | decide | (simp only [lens] <;> omega) | fail) only [go_sem,hgw,wyC_mk,iaddr_ins,hg,insC_mk]
    exact hQ [_,_]
   | cons a r =>
    simp only [nH,List.length_cons] at hH hQ
    rw [W_loop (L := pike_walk_step_l1) rfl]
    rw [hH]
    simp (disch := first | assumption | omega | decide | (simp only [lens] <;> omega) | fail) only [go_sem,hgw,wyC_mk,iaddr_ins,hg,insC_mk]
    exact hQ [_,_]
  ·have h1' : (insAt l pc).1 = 1 := hlf2.resolve_right h7
   rw [if_neg h7] at hc hmF
   by_cases hob : okB l t k (pc,sv)
   ·rw [if_pos hob] at hc hmF
    dsimp only at hc hmF
    have hB : k < t.length ∧ hasS (insAt l pc).2.2.2 (bt t k) = true := hob
    obtain ⟨hkt,hB⟩ := hB
    unfold insAt at hB h1' hpl
    generalize hg : l.getD pc.toNat (0,0,0,[]) = z at hB h1' hpl
    obtain ⟨o,x,y,p⟩ := z
    dsimp only at hB h1' hpl
    subst h1'
    have eH : res Γ 358 [.str p,.int .u8 (byt t k)] = some [.bool (hasS p (bt t k))] := by rw [byt_bt]; exact res_rexHas p hpl (bt t k) bt_lt
    rw [hB] at eH
    obtain ⟨lv1,s1,lv2,c1,c2,rfl⟩ := cl_split (a := [(pc + 1,sv)]) hc
    have hll := cl_lv_len c1
    have I := ih (lvA ++ lv1) s1 lv2 hd2 c2 (by rw [List.append_assoc]; exact hlv) hmF (by rw [List.length_append]; omega)
    cases lvA with
    | nil =>
     have eA := resM_adds_b g kl l hl t ht (k + 1) (by omega) c1
     cases lv1 with
     | nil =>
      simp only [nH,List.nil_append] at hH I eA
      rw [W_loop (L := pike_walk_step_l1) rfl]
      rw [hH]
      simp (disch := first | assumption | omega | decide | (simp only [lens] <;> omega) | fail) only [go_sem,hgw,wyC_mk,iaddr_ins,hg,insC_mk,eH,fold_add1,eA,st351_3]
      refine I _ _ ?_
      simp (disch := first | assumption | omega | decide | (simp only [lens] <;> omega) | fail) only [go_sem,norm_k]
      try rfl
     | cons b q =>
      simp only [nH,List.nil_append,List.length_cons] at hH I eA
      rw [W_loop (L := pike_walk_step_l1) rfl]
      rw [hH]
      simp (disch := first | assumption | omega | decide | (simp only [lens] <;> omega) | fail) only [go_sem,hgw,wyC_mk,iaddr_ins,hg,insC_mk,eH,fold_add1,eA,st351_3]
      refine I _ _ ?_
      simp (disch := first | assumption | omega | decide | (simp only [lens] <;> omega) | fail) only [go_sem,norm_k]
      try rfl
    | cons a r =>
     have eA := resM_adds_a g kl l hl t ht (k + 1) (by omega) c1 (a :: r) (r.length + 1) rfl (by simp only [List.length_cons] at hlen; omega)
     have e9 : (a :: r ++ lv1).length = r.length + 1 + lv1.length := by rw [List.length_append]; rfl
     have e8 : ∀ X : Heap,nH (a :: r ++ lv1) s1 = [.box [.own 5 (r.length + 1 + lv1.length),.mp 6],.row false 2 (wR (a :: r ++ lv1)),sB s1] := fun _ => by rw [← e9]; rfl
     rw [e8 []] at I
     simp only [nH,List.length_cons] at hH
     rw [W_loop (L := pike_walk_step_l1) rfl]
     rw [hH]
     simp (disch := first | assumption | omega | decide | (simp only [lens] <;> omega) | fail) only [go_sem,hgw,wyC_mk,iaddr_ins,hg,insC_mk,eH,fold_add1,eA,st351_4]
     refine I _ _ ?_
     simp (disch := first | assumption | omega | decide | (simp only [lens] <;> omega) | fail) only [go_sem,norm_k]
     try rfl
   ·rw [if_neg hob] at hc hmF
    have hB : ¬(k < t.length ∧ hasS (insAt l pc).2.2.2 (bt t k) = true) := hob
    unfold insAt at hB h1' hpl
    generalize hg : l.getD pc.toNat (0,0,0,[]) = z at hB h1' hpl
    obtain ⟨o,x,y,p⟩ := z
    dsimp only at hB h1' hpl
    subst h1'
    have eH : res Γ 358 [.str p,.int .u8 (byt t k)] = some [.bool (hasS p (bt t k))] := by rw [byt_bt]; exact res_rexHas p hpl (bt t k) bt_lt
    have I := ih lvA sA lvB hd2 hc hlv hmF hlen
    by_cases hkt : k < t.length
    ·have hB2 : hasS p (bt t k) = false := by
      cases hB2 : hasS p (bt t k)
      ·rfl
      ·exact absurd ⟨hkt,hB2⟩ hB
     rw [hB2] at eH
     cases lvA with
     | nil =>
      simp only [nH] at hH I
      rw [W_loop (L := pike_walk_step_l1) rfl]
      rw [hH]
      simp (disch := first | assumption | omega | decide | (simp only [lens] <;> omega) | fail) only [go_sem,hgw,wyC_mk,iaddr_ins,hg,insC_mk,eH]
      refine I _ _ ?_
      simp (disch := first | assumption | omega | decide | (simp only [lens] <;> omega) | fail) only [go_sem,norm_k]
      try rfl
     | cons a r =>
      simp only [nH,List.length_cons] at hH I
      rw [W_loop (L := pike_walk_step_l1) rfl]
      rw [hH]
      simp (disch := first | assumption | omega | decide | (simp only [lens] <;> omega) | fail) only [go_sem,hgw,wyC_mk,iaddr_ins,hg,insC_mk,eH]
      refine I _ _ ?_
      simp (disch := first | assumption | omega | decide | (simp only [lens] <;> omega) | fail) only [go_sem,norm_k]
      try rfl
    ·cases lvA with
     | nil =>
      simp only [nH] at hH I
      rw [W_loop (L := pike_walk_step_l1) rfl]
      rw [hH]
      simp (disch := first | assumption | omega | decide | (simp only [lens] <;> omega) | fail) only [go_sem,hgw,wyC_mk,iaddr_ins,hg,insC_mk]
      refine I _ _ ?_
      simp (disch := first | assumption | omega | decide | (simp only [lens] <;> omega) | fail) only [go_sem,norm_k]
      try rfl
     | cons a r =>
      simp only [nH,List.length_cons] at hH I
      rw [W_loop (L := pike_walk_step_l1) rfl]
      rw [hH]
      simp (disch := first | assumption | omega | decide | (simp only [lens] <;> omega) | fail) only [go_sem,hgw,wyC_mk,iaddr_ins,hg,insC_mk]
      refine I _ _ ?_
      simp (disch := first | assumption | omega | decide | (simp only [lens] <;> omega) | fail) only [go_sem,norm_k]
      try rfl
def fV : Option (List Int) → PV
 | none => .sl .nil 1 []
 | some x => .sl .any 1 (ints .i64 x)
theorem resM_step_a (g : Int) (kl : SK) (l : List Ins) (hl : l.length ≤ 10000) (hp : ∀ x ∈ l,x.2.2.2.length ≤ 1000000) (t : List UInt8) (ht : t.length ≤ 1000000) (k m : Nat) (hk : k ≤ 1000000) (hm : 0 < m ∧ m ≤ 100000) (n : Nat) (hn : n ≤ 50000) (ws : List Wy) (hws : ws.length = n) (s : List Int) (hwv : ∀ w ∈ ws,okW l m w) {lvF sF} (hc : Cl l t.length (k + 1) (spl1 l t k ws).1 [] lvF sF) :
  resM Γ 4 350 [.bx 0 0,.bx 1 0,.p (.int .i64 k)] [wkB g kl l t,.box [.own 2 n,.mp 3],.row false 2 (wR ws),sB s] =
   some ([.bx 4 0,.p (fV (spl1 l t k ws).2),.p (.bool (spl1 l t k ws).2.isSome)],wkB g kl l t :: .box [.own 2 n,.mp 3] :: .row false 2 (wR ws) :: sB s :: nH lvF sF) := by
 have hle := @left_le l []
 have L := fun Q hQ => pkStep_l1_ok g kl l hl hp t ht k m hk hm n hn .dead ws hws s hwv Q lvF sF (spl1 l t k ws).2 hQ ws [] [] [] lvF rfl hc rfl rfl (by simp only [List.length_nil]; omega)
 cases hmm : (spl1 l t k ws).2 with
 | none =>
  rw [hmm] at L
  cases lvF with
  | nil =>
   simp only [nH] at L ⊢
   refine resM_code (fn := pike_walk_step) rfl rfl ?_
   simp (disch := first | assumption | omega | decide | (simp only [lens] <;> omega) | fail) only [go_sem,pike_walk_step,seen_nil]
   refine L _ ?_ _ _ ?_
   ·simp (disch := first | assumption | omega | decide | (simp only [lens] <;> omega) | fail) only [go_sem]
    rfl
   ·simp (disch := first | assumption | omega | decide | (simp only [lens] <;> omega) | fail) only [go_sem,norm_k]
    try rfl
  | cons a r =>
   simp only [nH] at L ⊢
   refine resM_code (fn := pike_walk_step) rfl rfl ?_
   simp (disch := first | assumption | omega | decide | (simp only [lens] <;> omega) | fail) only [go_sem,pike_walk_step,seen_nil]
   refine L _ ?_ _ _ ?_
   ·simp (disch := first | assumption | omega | decide | (simp only [lens] <;> omega) | fail) only [go_sem]
    rfl
   ·simp (disch := first | assumption | omega | decide | (simp only [lens] <;> omega) | fail) only [go_sem,norm_k]
    try rfl
 | some x =>
  rw [hmm] at L
  cases lvF with
  | nil =>
   simp only [nH] at L ⊢
   refine resM_code (fn := pike_walk_step) rfl rfl ?_
   simp (disch := first | assumption | omega | decide | (simp only [lens] <;> omega) | fail) only [go_sem,pike_walk_step,seen_nil]
   refine L _ (fun G => ?_) _ _ ?_
   ·simp (disch := first | assumption | omega | decide | (simp only [lens] <;> omega) | fail) only [go_sem]
    rfl
   ·simp (disch := first | assumption | omega | decide | (simp only [lens] <;> omega) | fail) only [go_sem,norm_k]
    try rfl
  | cons a r =>
   simp only [nH] at L ⊢
   refine resM_code (fn := pike_walk_step) rfl rfl ?_
   simp (disch := first | assumption | omega | decide | (simp only [lens] <;> omega) | fail) only [go_sem,pike_walk_step,seen_nil]
   refine L _ (fun G => ?_) _ _ ?_
   ·simp (disch := first | assumption | omega | decide | (simp only [lens] <;> omega) | fail) only [go_sem]
    rfl
   ·simp (disch := first | assumption | omega | decide | (simp only [lens] <;> omega) | fail) only [go_sem,norm_k]
    try rfl
theorem resM_step_b (g : Int) (kl : SK) (l : List Ins) (t : List UInt8) (k : Nat) (s : List Int) :
  resM Γ 3 350 [.bx 0 0,.bx 1 0,.p (.int .i64 k)] [wkB g kl l t,.box [.p (.sl .nil 2 []),.mp 2],sB s] =
   some ([.bx 3 0,.p (.sl .nil 1 []),.p (.bool false)],[wkB g kl l t,.box [.p (.sl .nil 2 []),.mp 2],sB s,.box [.p (.sl .nil 2 []),.mp 4],sB []]) := by
 refine resM_code (fn := pike_walk_step) rfl rfl ?_
 simp (disch := first | assumption | omega | decide | (simp only [lens] <;> omega) | fail) only [go_sem,pike_walk_step,seen_nil]
 rw [W_loop (L := pike_walk_step_l1) rfl]
 simp (disch := first | assumption | omega | decide | (simp only [lens] <;> omega) | fail) only [go_sem,norm_k]
 try rfl
end Ab
namespace Ab
open Go (IntKind BinOp UnOp)
theorem eps_saves {m : Nat} {l L k} {w : Wy} (h : w.2.length = m) : ∀ q ∈ eps l L k w,q.2.length = m := by
 intro q hw
 unfold eps at hw
 repeat' split at hw
 all_goals
  simp only [List.mem_cons,List.not_mem_nil,or_false] at hw
 ·rcases hw with rfl | rfl <;> exact h
 ·subst hw; exact h
 ·subst hw; exact setAt_len.trans h
 ·subst hw; exact h
 ·subst hw; exact h
theorem cl_saves {m : Nat} {l L k st s lv s'} (h : Cl l L k st s lv s') : (∀ w ∈ st,w.2.length = m) → ∀ w ∈ lv,w.2.length = m := by
 induction h with
 | nil => exact fun h => h
 | skip _ _ ih => exact fun h => ih (fun w hw => h w (List.mem_cons_of_mem _ hw))
 | leaf _ _ _ ih =>
  intro h w hw
  rcases List.mem_cons.1 hw with rfl | hw
  ·exact h w (List.mem_cons_self ..)
  ·exact ih (fun w hw => h w (List.mem_cons_of_mem _ hw)) w hw
 | go _ _ _ ih =>
  intro h
  refine ih (fun q hq => ?_)
  rcases List.mem_append.1 hq with hq | hq
  ·exact eps_saves (h _ (List.mem_cons_self ..)) q hq
  ·exact h q (List.mem_cons_of_mem _ hq)
theorem spl_saves {m : Nat} {l t k} : ∀ {lv : List Wy},(∀ w ∈ lv,w.2.length = m) → (∀ w ∈ (spl1 l t k lv).1,w.2.length = m) ∧ ∀ x,(spl1 l t k lv).2 = some x → x.length = m
 | [],_ => ⟨fun w h => (by cases h),fun x h => (by cases h)⟩
 | w :: r,h => by
  obtain ⟨i1,i2⟩ := spl_saves (l := l) (t := t) (k := k) (lv := r) (fun q hq => h q (List.mem_cons_of_mem _ hq))
  have hw := h w (List.mem_cons_self ..)
  rw [spl_cons]
  split
  ·exact ⟨fun q hq => (by cases hq),fun x e => by cases e; exact hw⟩
  ·split
   ·refine ⟨fun q hq => ?_,i2⟩
    rcases List.mem_cons.1 hq with rfl | hq
    ·exact hw
    ·exact i1 q hq
   ·exact ⟨i1,i2⟩
abbrev fE (t : List UInt8) (nw : List Int) (fo : Option (List Int)) (k : Nat) : Env := [(1,.p (.str t)),(8,.bx 0 0),(9,.p (.sl .any 1 (ints .i64 nw))),(10,.bx 1 0),(11,.p (fV fo)),(12,.p (.bool fo.isSome)),(13,.p (.int .i64 k))]
def fH (wk : Blk) (lv : List Wy) (s : List Int) : Heap := match lv with
 | [] => [wk,.box [.p (.sl .nil 2 []),.mp 2],sB s]
 | _ :: _ => [wk,.box [.own 2 lv.length,.mp 3],.row false 2 (wR lv),sB s]
theorem okW_of {m : Nat} {l L k st s lv s'} (h : Cl l L k st s lv s') (hs : ∀ w ∈ st,w.2.length = m) : ∀ w ∈ lv,okW l m w := fun w hw => ⟨(cl_leaf h w hw).1,(cl_leaf h w hw).2.1,(cl_leaf h w hw).2.2,cl_saves h hs w hw⟩
theorem fV_n : fV none = .sl .nil 1 [] := rfl
theorem fV_s {x} : fV (some x) = .sl .any 1 (ints .i64 x) := rfl
set_option maxRecDepth 10000 in
set_option maxHeartbeats 8000000 in
theorem pkFind_l1_ok (g : Int) (kl : SK) (l : List Ins) (hl : l.length ≤ 10000) (hp : ∀ x ∈ l,x.2.2.2.length ≤ 1000000) (t : List UInt8) (ht : t.length ≤ 100000) (m : Nat) (hm : 0 < m ∧ m ≤ 100000) (nw : List Int) (hnw : nw.length = m) (Q : Out → Prop) {k lv s fo r} (h : Pk l t nw k lv s fo r) :
  k ≤ t.length + 1 → (∀ w ∈ lv,okW l m w) → lv.length + left l s ≤ 20000 → (∀ H',Q (.nrm,[(11,.p (fV r)),(12,.p (.bool r.isSome))],H')) →
  ∀ e H,norm [1,8,9,10,11,12,13] (some 0) e H = some (fE t nw fo k,fH (wkB g kl l t) lv s) →
  Wp Γ pike_Find_l1 e H (InBlk [11,12] 0 Q) := by
 induction h with
 | over hk =>
  intro _ _ _ hQ e H hH
  rw [W_loop (L := pike_Find_l1) rfl]
  rw [hH]
  simp (disch := first | assumption | omega | decide | (simp only [lens] <;> omega) | fail) only [go_sem]
  exact hQ _
 | @stop k s x hk =>
  intro _ _ _ hQ e H hH
  have hQ := hQ (fH (wkB g kl l t) [] s)
  simp only [fH] at hH hQ
  rw [W_loop (L := pike_Find_l1) rfl]
  rw [hH]
  simp (disch := first | assumption | omega | decide | (simp only [lens] <;> omega) | fail) only [go_sem,fV_s,Option.isSome_some]
  exact hQ
 | @first k lv s lv2 s2 lv' s' r hk hc2 hc hp2 ih =>
  intro hk2 hlv hlen hQ e H hH
  have hw2 := okW_of (m := m) hc2 (by intro w hw; rw [List.mem_singleton] at hw; subst hw; exact hnw)
  have hwa : ∀ w ∈ lv ++ lv2,okW l m w := fun w hw => (List.mem_append.1 hw).elim (hlv w) (hw2 w)
  have hws := fun w hw => (hwa w hw).2.2.2
  have hw' := okW_of (m := m) hc (spl_saves hws).1
  have hll2 := cl_lv_len hc2
  have hll' := cl_lv_len hc
  have hle := @left_le l []
  have I := ih (by omega) hw' (by omega) hQ
  cases lv with
  | nil =>
   have eA := resM_adds_b g kl l hl t (by omega) k (sv := nw) (by omega) hc2
   rw [List.nil_append] at hc I hwa
   cases lv2 with
   | nil =>
    have eS := resM_step_b g kl l t k s2
    simp only [spl1] at hc I
    cases hc
    simp only [fH] at hH I
    rw [W_loop (L := pike_Find_l1) rfl]
    rw [hH]
    simp (disch := first | assumption | omega | decide | (simp only [lens] <;> omega) | fail) only [go_sem,eA,st351_3,eS,st350_3,fV_n,Option.isSome_none]
    refine I _ _ ?_
    simp (disch := first | assumption | omega | decide | (simp only [lens] <;> omega) | fail) only [go_sem,norm_t]
    try rfl
   | cons b q =>
    have eS := resM_step_a g kl l hl hp t (by omega) k m (by omega) hm (q.length + 1) (by simp only [List.length_cons] at hll2; omega) (b :: q) rfl s2 hwa hc
    simp only [List.length_cons] at eA
    generalize (spl1 l t k (b :: q)).2 = mm at eS I
    cases lv' with
    | nil =>
     simp only [fH,nH] at hH I eS
     cases mm
     all_goals
      simp only [fV_n,fV_s,Option.isSome_none,Option.isSome_some] at eS I
      rw [W_loop (L := pike_Find_l1) rfl]
      rw [hH]
      simp (disch := first | assumption | omega | decide | (simp only [lens] <;> omega) | fail) only [go_sem,eA,st351_3,eS,st350_4,fV_n,Option.isSome_none]
      refine I _ _ ?_
      simp (disch := first | assumption | omega | decide | (simp only [lens] <;> omega) | fail) only [go_sem,norm_t]
      try rfl
    | cons c d =>
     simp only [fH,nH,List.length_cons] at hH I eS
     cases mm
     all_goals
      simp only [fV_n,fV_s,Option.isSome_none,Option.isSome_some] at eS I
      rw [W_loop (L := pike_Find_l1) rfl]
      rw [hH]
      simp (disch := first | assumption | omega | decide | (simp only [lens] <;> omega) | fail) only [go_sem,eA,st351_3,eS,st350_4,fV_n,Option.isSome_none]
      refine I _ _ ?_
      simp (disch := first | assumption | omega | decide | (simp only [lens] <;> omega) | fail) only [go_sem,norm_t]
      try rfl
  | cons a q =>
   have hq : (a :: q).length = q.length + 1 := rfl
   have eA := resM_adds_a g kl l hl t (by omega) k (sv := nw) (by omega) hc2 (a :: q) (q.length + 1) rfl (by omega)
   have eS := resM_step_a g kl l hl hp t (by omega) k m (by omega) hm (q.length + 1 + lv2.length) (by omega) (a :: q ++ lv2) (by rw [List.length_append]; rfl) s2 hwa hc
   generalize (spl1 l t k (a :: q ++ lv2)).2 = mm at eS I
   rw [List.cons_append] at eS
   cases lv' with
   | nil =>
    simp only [fH,nH,hq] at hH I eS
    cases mm
    all_goals
     simp only [fV_n,fV_s,Option.isSome_none,Option.isSome_some] at eS I
     rw [W_loop (L := pike_Find_l1) rfl]
     rw [hH]
     simp (disch := first | assumption | omega | decide | (simp only [lens] <;> omega) | fail) only [go_sem,eA,st351_4,eS,st350_4,fV_n,Option.isSome_none]
     refine I _ _ ?_
     simp (disch := first | assumption | omega | decide | (simp only [lens] <;> omega) | fail) only [go_sem,norm_t]
     try rfl
   | cons c d =>
    simp only [fH,nH,List.length_cons] at hH I eS
    cases mm
    all_goals
     simp only [fV_n,fV_s,Option.isSome_none,Option.isSome_some] at eS I
     rw [W_loop (L := pike_Find_l1) rfl]
     rw [hH]
     simp (disch := first | assumption | omega | decide | (simp only [lens] <;> omega) | fail) only [go_sem,eA,st351_4,eS,st350_4,fV_n,Option.isSome_none]
     refine I _ _ ?_
     simp (disch := first | assumption | omega | decide | (simp only [lens] <;> omega) | fail) only [go_sem,norm_t]
     try rfl
 | @later k lv s x lv' s' r hk hne hc hp2 ih =>
  intro hk2 hlv hlen hQ e H hH
  have hws := fun w hw => (hlv w hw).2.2.2
  have hw' := okW_of (m := m) hc (spl_saves hws).1
  have hll' := cl_lv_len hc
  have hle := @left_le l []
  have I := ih (by omega) hw' (by omega) hQ
  cases lv with
  | nil => exact absurd rfl hne
  | cons a q =>
   have hq : (a :: q).length = q.length + 1 := rfl
   have eS := resM_step_a g kl l hl hp t (by omega) k m (by omega) hm (q.length + 1) (by omega) (a :: q) rfl s hlv hc
   generalize (spl1 l t k (a :: q)).2 = mm at eS I
   cases lv' with
   | nil =>
    simp only [fH,nH,hq] at hH I eS
    cases mm
    all_goals
     simp only [fV_n,fV_s,Option.isSome_none,Option.isSome_some,Option.none_or,Option.some_or] at eS I
     rw [W_loop (L := pike_Find_l1) rfl]
     rw [hH]
     simp (disch := first | assumption | omega | decide | (simp only [lens] <;> omega) | fail) only [go_sem,eS,st350_4,fV_s,Option.isSome_some]
     refine I _ _ ?_
     simp (disch := first | assumption | omega | decide | (simp only [lens] <;> omega) | fail) only [go_sem,norm_t]
     try rfl
   | cons c d =>
    simp only [fH,nH,List.length_cons] at hH I eS
    cases mm
    all_goals
     simp only [fV_n,fV_s,Option.isSome_none,Option.isSome_some,Option.none_or,Option.some_or] at eS I
     rw [W_loop (L := pike_Find_l1) rfl]
     rw [hH]
     simp (disch := first | assumption | omega | decide | (simp only [lens] <;> omega) | fail) only [go_sem,eS,st350_4,fV_s,Option.isSome_some]
     refine I _ _ ?_
     simp (disch := first | assumption | omega | decide | (simp only [lens] <;> omega) | fail) only [go_sem,norm_t]
     try rfl
abbrev progV (g : Nat) (kl : SK) (l : List Ins) : PV := .agg [.int .i64 g,.sl kl 4 (inR l)]
def nowS (g : Nat) : List Int := List.replicate (2 * g + 2) (-1)
theorem res_pikeFind (g : Nat) (hg : g ≤ 1024) (kl : SK) (l : List Ins) (hl : l.length ≤ 10000) (hp : ∀ x ∈ l,x.2.2.2.length ≤ 1000000) (t : List UInt8) (ht : t.length ≤ 100000) (k : Nat) (hk : k ≤ t.length) {r} (h : Pk l t (nowS g) k [] [] none r) (hr : ∀ x,r = some x → 0 < x.length ∧ x.length ≤ 100000) :
  res Γ 338 [progV g kl l,.str t,.int .i64 k] = some [fV r,.bool r.isSome] := by
 have eR : res Γ 352 [.sl .tight 1 [.int .i64 (-1)],.int .i64 (2 * (g : Int) + 2)] = some [.sl .any 1 (ints .i64 (nowS g))] := by
  have := res_repeat (2 * g + 2) (by omega) (by omega)
  rw [show ((2 * g + 2 : Nat) : Int) = 2 * (g : Int) + 2 by omega] at this
  exact this
 have hnl : (nowS g).length = 2 * g + 2 := by unfold nowS; rw [List.length_replicate]
 have hle := @left_le l []
 have L := fun Q hQ => pkFind_l1_ok g kl l hl hp t ht (2 * g + 2) (by omega) (nowS g) hnl Q h (by omega) (fun w hw => by cases hw) (by simp only [List.length_nil]; omega) hQ
 simp only [fH] at L
 cases r with
 | none =>
  refine res_code (fn := pike_Find) rfl rfl ?_
  simp (disch := first | assumption | omega | decide | (simp only [lens] <;> omega) | fail) only [go_sem,pike_Find,eR,seen_nil]
  refine L _ (fun H' => ?_) _ _ ?_
  ·simp (disch := first | assumption | omega | decide | (simp only [lens] <;> omega) | fail) only [go_sem,fV_n,Option.isSome_none,res_cloneI0]
  ·simp (disch := first | assumption | omega | decide | (simp only [lens] <;> omega) | fail) only [go_sem,norm_t]
   try rfl
 | some x =>
  have hx := hr x rfl
  have eC := res_cloneI x hx.1 hx.2
  refine res_code (fn := pike_Find) rfl rfl ?_
  simp (disch := first | assumption | omega | decide | (simp only [lens] <;> omega) | fail) only [go_sem,pike_Find,eR,seen_nil]
  refine L _ (fun H' => ?_) _ _ ?_
  ·simp (disch := first | assumption | omega | decide | (simp only [lens] <;> omega) | fail) only [go_sem,fV_s,Option.isSome_some,eC]
  ·simp (disch := first | assumption | omega | decide | (simp only [lens] <;> omega) | fail) only [go_sem,norm_t]
   try rfl
end Ab
namespace Ab
open Go (IntKind BinOp UnOp)
def qC (q : Nat × Wy) : List PV := [.int .i64 q.2.1,.int .i64 q.1,.sl .any 1 (ints .i64 q.2.2)]
def qR (st : List (Nat × Wy)) : List PV := aggs (st.reverse.map qC)
theorem qR_len {st} : (qR st).length = st.length := by simp [qR,aggs]
theorem qR_cons1 {st : List (Nat × Wy)} {pc : Int} {k : Nat} {sv : List Int} : qR st ++ [.agg [.int .i64 pc,.int .i64 (k : Int),.sl .any 1 (ints .i64 sv)]] = qR ((k,(pc,sv)) :: st) := by simp [qR,aggs,qC]
theorem qR_cons2 {st : List (Nat × Wy)} {pc pc2 : Int} {k k2 : Nat} {sv sv2 : List Int} : qR st ++ [.agg [.int .i64 pc,.int .i64 (k : Int),.sl .any 1 (ints .i64 sv)],.agg [.int .i64 pc2,.int .i64 (k2 : Int),.sl .any 1 (ints .i64 sv2)]] = qR ((k2,(pc2,sv2)) :: (k,(pc,sv)) :: st) := by simp [qR,aggs,qC]
theorem qR_snoc {st : List (Nat × Wy)} {q : Nat × Wy} : qR (q :: st) = qR st ++ [.agg (qC q)] := by simp [qR,aggs]
theorem qR_get {st : List (Nat × Wy)} {q : Nat × Wy} : (qR (q :: st))[st.length]? = some (.agg (qC q)) := by
 rw [qR_snoc,List.getElem?_append_right (by rw [qR_len]; exact Nat.le_refl _),qR_len,Nat.sub_self]; rfl
theorem qR_take {st : List (Nat × Wy)} {q : Nat × Wy} : (qR (q :: st)).take st.length = qR st := by
 rw [qR_snoc,List.take_left' qR_len]
theorem loadK_q {f : Bool} {st : List (Nat × Wy)} {k : Nat} {pc : Int} {sv : List Int} : loadK (some (.row f 3 (qR ((k,(pc,sv)) :: st)))) 3 true (st.length + 1) st.length 0 = some (.p (.agg [.int .i64 pc,.int .i64 (k : Int),.sl .any 1 (ints .i64 sv)])) := by
 unfold loadK
 simp only [qR_len,List.length_cons,if_true,qR_get,Option.bind_some]
 rfl
theorem popK_q {H : Heap} {id : Nat} {st : List (Nat × Wy)} {q : Nat × Wy} : popK H (some (.row false 3 (qR (q :: st)))) 3 id (st.length + 1) (st.length : Int) = some (.own H.length st.length,H.set id .dead ++ [.row false 3 (qR st)]) := by
 unfold popK
 simp only [qR_len,List.length_cons]
 rw [if_pos ⟨trivial,trivial,by omega,by omega⟩,Int.toNat_natCast,qR_take]
theorem rowAt_q {f sz st n} (h : List.length st = n) : rowAt (some (.row f sz (qR st))) n = some (sz,qR st) := rowAt_pos (qR_len.trans h)
theorem iaddrK_q {f sz st id} {n : Nat} {i} (h : List.length st = n) (h1 : 0 ≤ i) (h2 : i < (n : Int)) : iaddrK (some (.row f sz (qR st))) sz id n i = some (.el id n i.toNat 0) := iaddrK_pos (qR_len.trans h) h1 h2
theorem appK_q {H : Heap} {sz id n st ys} (h : List.length st = n) (h' : st.length + ys.length ≤ 1073741824) : appK H (some (.row false sz (qR st))) sz id n ys = some (.own id (n + ys.length),H.set id (.row false sz (qR st ++ ys))) := appK_pos (qR_len.trans h) (by rw [qR_len]; exact h')
attribute [go_sem] qR_len qR_cons1 qR_cons2 loadK_q popK_q rowAt_q iaddrK_q appK_q
def SeenB (l : List Ins) (L : Nat) (B : List Bool) (S : Sn) : Prop := B.length = l.length * (L + 1) ∧ ∀ (p k : Nat),p < l.length → k ≤ L → B.getD (p * (L + 1) + k) false = decide ((p : Int) ∈ S k)
theorem seen_idx {n L p k : Nat} (hp : p < n) (hk : k ≤ L) : p * (L + 1) + k < n * (L + 1) := by
 have : (p + 1) * (L + 1) ≤ n * (L + 1) := Nat.mul_le_mul_right _ hp
 rw [Nat.add_mul] at this
 omega
theorem seen_inj {L p k p' k' : Nat} (hk : k ≤ L) (hk' : k' ≤ L) (h : p * (L + 1) + k = p' * (L + 1) + k') : p = p' ∧ k = k' := by
 have e1 : (p * (L + 1) + k) / (L + 1) = p := by rw [Nat.mul_comm,Nat.mul_add_div (by omega),Nat.div_eq_of_lt (by omega),Nat.add_zero]
 have e2 : (p' * (L + 1) + k') / (L + 1) = p' := by rw [Nat.mul_comm,Nat.mul_add_div (by omega),Nat.div_eq_of_lt (by omega),Nat.add_zero]
 have e3 : p = p' := by rw [← e1,← e2,h]
 subst e3
 exact ⟨rfl,by omega⟩
theorem seen_set {l L B S} (h : SeenB l L B S) {p k : Nat} (hp : p < l.length) (hk : k ≤ L) : SeenB l L (B.set (p * (L + 1) + k) true) (addS S k (p : Int)) := by
 refine ⟨by rw [List.length_set]; exact h.1,fun p' k' hp' hk' => ?_⟩
 have hi := seen_idx hp hk
 have hi' := seen_idx hp' hk'
 rw [List.getD_eq_getElem?_getD,List.getElem?_set]
 by_cases e : p * (L + 1) + k = p' * (L + 1) + k'
 ·obtain ⟨rfl,rfl⟩ := seen_inj hk hk' e
  rw [if_pos rfl,if_pos (by rw [h.1]; exact hi),decide_eq_true addS_self]; rfl
 ·rw [if_neg e]
  have := h.2 p' k' hp' hk'
  rw [List.getD_eq_getElem?_getD] at this
  rw [this]
  rw [decide_eq_decide]
  constructor
  ·exact addS_mono
  ·intro h2
   rcases addS_inv h2 with h3 | ⟨e1,e2⟩
   ·exact h3
   ·subst e1
    exact absurd (by rw [Int.ofNat_inj.1 e2]) e
theorem seen_count {B : List Bool} {i : Nat} (hi : i < B.length) (h : B.getD i false = false) : (B.set i true).count false + 1 = B.count false := by
 have e : B[i] = false := by rw [List.getD_eq_getElem?_getD,List.getElem?_eq_getElem hi] at h; exact h
 have hpos : 0 < B.count false := List.count_pos_iff.2 (e ▸ List.getElem_mem hi)
 rw [List.count_set hi,e]
 simp
 omega
theorem fold_addN {a b : Nat} : (a : Int) + (b : Int) = ((a + b : Nat) : Int) := rfl
def r12Q (Q : Out → Prop) (r : Option (List Int)) : Prop := match r with
 | none => ∀ H',Q (.nrm,[],H')
 | some x => ∀ H',Q (.ret,[(6,.p (.sl .any 1 (ints .i64 x))),(7,.p (.bool true))],H')
abbrev wE (t : List UInt8) (N n : Nat) : Env := [(1,.p (.str t)),(3,.bx 0 0),(10,.own 1 N),(11,.own 2 n)]
abbrev wH (g : Int) (kl : SK) (l : List Ins) (B : List Bool) (st : List (Nat × Wy)) : Heap := [.box [.p (.int .i64 g),.p (.sl kl 4 (inR l))],.row false 1 (bools B),.row false 3 (qR st)]
set_option maxRecDepth 10000 in
set_option maxHeartbeats 8000000 in
theorem r12walk_l1_ok (g : Int) (kl : SK) (l : List Ins) (hl : l.length ≤ 10000) (hp : ∀ x ∈ l,x.2.2.2.length ≤ 1000000) (t : List UInt8) (ht : t.length ≤ 10000) (m : Nat) (hm : 0 < m ∧ m ≤ 100000) (N : Nat) (hN : N = l.length * (t.length + 1)) (Q : Out → Prop) {st S r S'} (h : RunQ l t st S r S') :
  ∀ (B : List Bool),SeenB l t.length B S → (∀ q ∈ st,q.1 ≤ t.length ∧ q.2.2.length = m) → st.length + 2 * B.count false ≤ 500000000 →
  r12Q Q r →
  ∀ e H,norm [1,3,10,11] (some 0) e H = some (wE t N st.length,wH g kl l B st) →
  Wp Γ r12_walk_l1 e H (InBlk [] 2 Q) := by
 have hNb : N ≤ 200000000 := by
  rw [hN]
  exact Nat.le_trans (Nat.mul_le_mul hl (by omega : t.length + 1 ≤ 10001)) (by omega)
 induction h with
 | nil =>
  intro B hB hst hlen hQ e H hH
  have hQ := hQ (wH g kl l B [])
  have hBl := hB.1
  rw [← hN] at hBl
  rw [W_loop (L := r12_walk_l1) rfl]
  rw [hH]
  simp (disch := first | assumption | omega | decide | (simp only [lens] <;> omega) | fail) only [go_sem]
  exact hQ
 | @skip q st S r S' hd _ ih =>
  intro B hB hst hlen hQ e H hH
  obtain ⟨k,pc,sv⟩ := q
  have hBl := hB.1
  rw [← hN] at hBl
  have hk := (hst _ (List.mem_cons_self ..)).1
  simp only [List.length_cons] at hlen hH
  dsimp only at hd hk
  have I := ih B hB (fun q hq => hst q (List.mem_cons_of_mem _ hq)) (by omega) hQ
  by_cases h0 : pc < 0
  ·rw [W_loop (L := r12_walk_l1) rfl]
   rw [hH]
   simp (disch := first | assumption | omega | decide | (simp only [lens] <;> omega) | fail) only [go_sem]
   refine I _ _ ?_
   simp (disch := first | assumption | omega | decide | (simp only [lens] <;> omega) | fail) only [go_sem,norm_t]
   try rfl
  ·by_cases h1 : (l.length : Int) ≤ pc
   ·rw [W_loop (L := r12_walk_l1) rfl]
    rw [hH]
    simp (disch := first | assumption | omega | decide | (simp only [lens] <;> omega) | fail) only [go_sem]
    refine I _ _ ?_
    simp (disch := first | assumption | omega | decide | (simp only [lens] <;> omega) | fail) only [go_sem,norm_t]
    try rfl
   ·have h2 : pc ∈ S k := by
     rcases hd with h | h | h
     ·exact absurd h h0
     ·exact absurd h h1
     ·exact h
    obtain ⟨p,rfl⟩ : ∃ p : Nat,pc = p := ⟨pc.toNat,by omega⟩
    have hpl : p < l.length := by omega
    have eB := hB.2 p k hpl hk
    rw [decide_eq_true h2] at eB
    have hi := seen_idx hpl hk
    rw [← hN] at hi
    have eI : (p : Int) * ((t.length : Int) + 1) = ((p * (t.length + 1) : Nat) : Int) := by rw [Int.natCast_mul]; rfl
    generalize p * (t.length + 1) = P at eI eB hi
    rw [W_loop (L := r12_walk_l1) rfl]
    rw [hH]
    simp (disch := first | assumption | omega | decide | (simp only [lens] <;> omega) | fail) only [go_sem,eI,fold_addN,eB]
    refine I _ _ ?_
    simp (disch := first | assumption | omega | decide | (simp only [lens] <;> omega) | fail) only [go_sem,norm_t]
    try rfl
 | @hit q st S hd h7 =>
  intro B hB hst hlen hQ e H hH
  obtain ⟨k,pc,sv⟩ := q
  have hBl := hB.1
  rw [← hN] at hBl
  have hk := (hst _ (List.mem_cons_self ..)).1
  have hsv := (hst _ (List.mem_cons_self ..)).2
  simp only [List.length_cons] at hlen hH
  dsimp only at hd hk h7 hsv
  have h0 : ¬ pc < 0 := fun h => hd (.inl h)
  have h1 : ¬ (l.length : Int) ≤ pc := fun h => hd (.inr (.inl h))
  have h2 : pc ∉ S k := fun h => hd (.inr (.inr h))
  obtain ⟨p,rfl⟩ : ∃ p : Nat,pc = p := ⟨pc.toNat,by omega⟩
  have hpl : p < l.length := by omega
  have eB := hB.2 p k hpl hk
  rw [decide_eq_false h2] at eB
  have hi := seen_idx hpl hk
  have hcnt := seen_count (by rw [hB.1]; exact hi) eB
  have hS := seen_set hB hpl hk
  rw [← hN] at hi
  have eI : (p : Int) * ((t.length : Int) + 1) = ((p * (t.length + 1) : Nat) : Int) := by rw [Int.natCast_mul]; rfl
  generalize p * (t.length + 1) = P at eI eB hi hcnt hS
  unfold insAt at h7
  generalize hg : l.getD (p : Int).toNat (0,0,0,[]) = z at h7
  obtain ⟨o,x,y,q⟩ := z
  dsimp only at h7
  subst h7
  have hg : l.getD p (0,0,0,[]) = (7,x,y,q) := hg
  rw [W_loop (L := r12_walk_l1) rfl]
  rw [hH]
  simp (disch := first | assumption | omega | decide | (simp only [lens] <;> omega) | fail) only [go_sem,eI,fold_addN,eB,iaddr_ins,hg,insC_mk]
  exact hQ _
 | @go q st S r S' hd h7 _ ih =>
  intro B hB hst hlen hQ e H hH
  obtain ⟨k,pc,sv⟩ := q
  have hBl := hB.1
  rw [← hN] at hBl
  have hk := (hst _ (List.mem_cons_self ..)).1
  have hsv := (hst _ (List.mem_cons_self ..)).2
  simp only [List.length_cons] at hlen hH
  dsimp only at hd hk h7 hsv
  have h0 : ¬ pc < 0 := fun h => hd (.inl h)
  have h1 : ¬ (l.length : Int) ≤ pc := fun h => hd (.inr (.inl h))
  have h2 : pc ∉ S k := fun h => hd (.inr (.inr h))
  obtain ⟨p,rfl⟩ : ∃ p : Nat,pc = p := ⟨pc.toNat,by omega⟩
  have hpl : p < l.length := by omega
  have eB := hB.2 p k hpl hk
  rw [decide_eq_false h2] at eB
  have hi := seen_idx hpl hk
  have hcnt := seen_count (by rw [hB.1]; exact hi) eB
  have hS := seen_set hB hpl hk
  rw [← hN] at hi
  have eI : (p : Int) * ((t.length : Int) + 1) = ((p * (t.length + 1) : Nat) : Int) := by rw [Int.natCast_mul]; rfl
  have hins : insAt l p ∈ l := by
   unfold insAt
   rw [List.getD_eq_getElem?_getD,List.getElem?_eq_getElem (by omega)]
   exact List.getElem_mem _
  have hpl2 := hp _ hins
  have hsl : (sucR l t (k,((p : Int),sv))).length ≤ 2 := by
   unfold sucR
   split
   ·split <;> simp
   ·rw [List.length_map]; exact eps_len
  have hsk : ∀ q ∈ sucR l t (k,((p : Int),sv)) ++ st,q.1 ≤ t.length ∧ q.2.2.length = m := by
   intro q hq
   rcases List.mem_append.1 hq with hq | hq
   ·unfold sucR at hq
    split at hq
    ·split at hq
     ·rename_i ho
      rw [List.mem_singleton] at hq
      subst hq
      exact ⟨ho.1,hsv⟩
     ·cases hq
    ·simp only [List.mem_map] at hq
     obtain ⟨w,hw,rfl⟩ := hq
     exact ⟨hk,eps_saves hsv w hw⟩
   ·exact hst q (List.mem_cons_of_mem _ hq)
  have I := fun hlen => ih _ hS hsk hlen hQ
  have hBs : ∀ i,(B.set i true).length = N := fun i => by rw [List.length_set]; exact hBl
  by_cases h1' : (insAt l p).1 = 1
  ·have hsc : sucR l t (k,((p : Int),sv)) = if okB l t k ((p : Int),sv) then [(k + 1,((p : Int) + 1,sv))] else [] := by
    unfold sucR
    rw [if_pos h1']
   rw [hsc] at I hsl
   by_cases hob : okB l t k ((p : Int),sv)
   ·rw [if_pos hob] at I
    simp only [List.cons_append,List.nil_append,List.length_cons] at I
    have hB2 : k < t.length ∧ hasS (insAt l p).2.2.2 (bt t k) = true := hob
    obtain ⟨hkt,hB2⟩ := hB2
    have eI2 : (p : Int) * ((t.length + 1 : Nat) : Int) = ((p * (t.length + 1) : Nat) : Int) := by rw [Int.natCast_mul]
    generalize p * (t.length + 1) = P at eI eI2 eB hi hcnt I
    have I := I (by omega)
    unfold insAt at hB2 h1' hpl2
    generalize hg : l.getD (p : Int).toNat (0,0,0,[]) = z at hB2 h1' hpl2
    obtain ⟨o,x,y,q⟩ := z
    dsimp only at hB2 h1' hpl2
    subst h1'
    have hg : l.getD p (0,0,0,[]) = (1,x,y,q) := hg
    have eH : res Γ 342 [.str q,.int .u8 (byt t k)] = some [.bool (hasS q (bt t k))] := by rw [byt_bt]; exact res_r11Has q hpl2 (bt t k) bt_lt
    rw [hB2] at eH
    rw [W_loop (L := r12_walk_l1) rfl]
    rw [hH]
    simp (disch := first | assumption | omega | decide | (simp only [lens] <;> omega) | fail) only [go_sem,eI2,fold_addN,fold_add1,eB,iaddr_ins,hg,insC_mk,eH]
    refine I _ _ ?_
    simp (disch := first | assumption | omega | decide | (simp only [lens] <;> omega) | fail) only [go_sem,norm_t]
    try rfl
   ·rw [if_neg hob] at I
    simp only [List.nil_append] at I
    have hB2 : ¬(k < t.length ∧ hasS (insAt l p).2.2.2 (bt t k) = true) := hob
    have eI2 : (p : Int) * ((t.length + 1 : Nat) : Int) = ((p * (t.length + 1) : Nat) : Int) := by rw [Int.natCast_mul]
    generalize p * (t.length + 1) = P at eI eI2 eB hi hcnt I
    have I := I (by omega)
    unfold insAt at hB2 h1' hpl2
    generalize hg : l.getD (p : Int).toNat (0,0,0,[]) = z at hB2 h1' hpl2
    obtain ⟨o,x,y,q⟩ := z
    dsimp only at hB2 h1' hpl2
    subst h1'
    have hg : l.getD p (0,0,0,[]) = (1,x,y,q) := hg
    have eH : res Γ 342 [.str q,.int .u8 (byt t k)] = some [.bool (hasS q (bt t k))] := by rw [byt_bt]; exact res_r11Has q hpl2 (bt t k) bt_lt
    by_cases hkt : k < t.length
    ·have hB3 : hasS q (bt t k) = false := by
      cases hB3 : hasS q (bt t k)
      ·rfl
      ·exact absurd ⟨hkt,hB3⟩ hB2
     rw [hB3] at eH
     rw [W_loop (L := r12_walk_l1) rfl]
     rw [hH]
     simp (disch := first | assumption | omega | decide | (simp only [lens] <;> omega) | fail) only [go_sem,eI2,fold_addN,fold_add1,eB,iaddr_ins,hg,insC_mk,eH]
     refine I _ _ ?_
     simp (disch := first | assumption | omega | decide | (simp only [lens] <;> omega) | fail) only [go_sem,norm_t]
     try rfl
    ·rw [W_loop (L := r12_walk_l1) rfl]
     rw [hH]
     simp (disch := first | assumption | omega | decide | (simp only [lens] <;> omega) | fail) only [go_sem,eI2,fold_addN,fold_add1,eB,iaddr_ins,hg,insC_mk]
     refine I _ _ ?_
     simp (disch := first | assumption | omega | decide | (simp only [lens] <;> omega) | fail) only [go_sem,norm_t]
     try rfl
  ·have hsc : sucR l t (k,((p : Int),sv)) = (eps l t.length k ((p : Int),sv)).map fun w => (k,w) := by
    unfold sucR
    rw [if_neg h1']
   rw [hsc] at I hsl
   generalize p * (t.length + 1) = P at eI eB hi hcnt I
   unfold eps at I hsl
   unfold insAt at h1' h7 I hsl
   dsimp only at I hsl
   have hgp : l.getD (p : Int).toNat (0,0,0,[]) = l.getD p (0,0,0,[]) := rfl
   rw [hgp] at h1' h7 I hsl
   generalize hg : l.getD p (0,0,0,[]) = z at h1' h7 I hsl
   obtain ⟨o,x,y,q⟩ := z
   dsimp only at h1' h7 I hsl
   by_cases o2 : o = 2
   ·subst o2
    rw [if_pos rfl] at I
    simp only [List.map_cons,List.map_nil,List.cons_append,List.nil_append,List.length_cons] at I
    have I := I (by omega)
    rw [W_loop (L := r12_walk_l1) rfl]
    rw [hH]
    simp (disch := first | assumption | omega | decide | (simp only [lens] <;> omega) | fail) only [go_sem,eI,fold_addN,eB,iaddr_ins,hg,insC_mk]
    refine I _ _ ?_
    simp (disch := first | assumption | omega | decide | (simp only [lens] <;> omega) | fail) only [go_sem,norm_t]
    try rfl
   ·rw [if_neg o2] at I
    by_cases o3 : o = 3
    ·subst o3
     rw [if_pos rfl] at I
     simp only [List.map_cons,List.map_nil,List.cons_append,List.nil_append,List.length_cons] at I
     have I := I (by omega)
     rw [W_loop (L := r12_walk_l1) rfl]
     rw [hH]
     simp (disch := first | assumption | omega | decide | (simp only [lens] <;> omega) | fail) only [go_sem,eI,fold_addN,eB,iaddr_ins,hg,insC_mk]
     refine I _ _ ?_
     simp (disch := first | assumption | omega | decide | (simp only [lens] <;> omega) | fail) only [go_sem,norm_t]
     try rfl
    ·rw [if_neg o3] at I
     by_cases o4 : o = 4
     ·subst o4
      rw [if_pos rfl] at I
      simp only [List.map_cons,List.map_nil,List.cons_append,List.nil_append,List.length_cons] at I
      have I := I (by omega)
      unfold setAt at I
      by_cases hx : 0 ≤ x ∧ x < (sv.length : Int)
      ·rw [if_pos hx] at I
       obtain ⟨hx1,hx2⟩ := hx
       rw [W_loop (L := r12_walk_l1) rfl]
       rw [hH]
       simp (disch := first | assumption | omega | decide | (simp only [lens] <;> omega) | fail) only [go_sem,eI,fold_addN,eB,iaddr_ins,hg,insC_mk,app_tight0]
       refine I _ _ ?_
       simp (disch := first | assumption | omega | decide | (simp only [lens] <;> omega) | fail) only [go_sem,norm_t]
       try rfl
      ·rw [if_neg hx] at I
       by_cases hx0 : 0 ≤ x
       ·have hx2 : ¬ x < (sv.length : Int) := fun h => hx ⟨hx0,h⟩
        rw [W_loop (L := r12_walk_l1) rfl]
        rw [hH]
        simp (disch := first | assumption | omega | decide | (simp only [lens] <;> omega) | fail) only [go_sem,eI,fold_addN,eB,iaddr_ins,hg,insC_mk,app_tight0]
        refine I _ _ ?_
        simp (disch := first | assumption | omega | decide | (simp only [lens] <;> omega) | fail) only [go_sem,norm_t]
        try rfl
       ·rw [W_loop (L := r12_walk_l1) rfl]
        rw [hH]
        simp (disch := first | assumption | omega | decide | (simp only [lens] <;> omega) | fail) only [go_sem,eI,fold_addN,eB,iaddr_ins,hg,insC_mk,app_tight0]
        refine I _ _ ?_
        simp (disch := first | assumption | omega | decide | (simp only [lens] <;> omega) | fail) only [go_sem,norm_t]
        try rfl
     ·rw [if_neg o4] at I
      by_cases o5 : o = 5
      ·subst o5
       rw [if_pos rfl] at I
       by_cases hk0 : k = 0
       ·subst hk0
        rw [if_pos rfl] at I
        simp only [List.map_cons,List.map_nil,List.cons_append,List.nil_append,List.length_cons] at I
        have I := I (by omega)
        rw [W_loop (L := r12_walk_l1) rfl]
        rw [hH]
        simp (disch := first | assumption | omega | decide | (simp only [lens] <;> omega) | fail) only [go_sem,eI,fold_addN,eB,iaddr_ins,hg,insC_mk]
        refine I _ _ ?_
        simp (disch := first | assumption | omega | decide | (simp only [lens] <;> omega) | fail) only [go_sem,norm_t]
        try rfl
       ·rw [if_neg hk0] at I
        simp only [List.map_nil,List.nil_append] at I
        have I := I (by omega)
        rw [W_loop (L := r12_walk_l1) rfl]
        rw [hH]
        simp (disch := first | assumption | omega | decide | (simp only [lens] <;> omega) | fail) only [go_sem,eI,fold_addN,eB,iaddr_ins,hg,insC_mk]
        refine I _ _ ?_
        simp (disch := first | assumption | omega | decide | (simp only [lens] <;> omega) | fail) only [go_sem,norm_t]
        try rfl
      ·rw [if_neg o5] at I
       by_cases o6 : o = 6
       ·subst o6
        rw [if_pos rfl] at I
        by_cases hk0 : k = t.length
        ·rw [if_pos hk0] at I
         simp only [List.map_cons,List.map_nil,List.cons_append,List.nil_append,List.length_cons] at I
         have I := I (by omega)
         rw [W_loop (L := r12_walk_l1) rfl]
         rw [hH]
         simp (disch := first | assumption | omega | decide | (simp only [lens] <;> omega) | fail) only [go_sem,eI,fold_addN,eB,iaddr_ins,hg,insC_mk]
         refine I _ _ ?_
         simp (disch := first | assumption | omega | decide | (simp only [lens] <;> omega) | fail) only [go_sem,norm_t]
         try rfl
        ·rw [if_neg hk0] at I
         simp only [List.map_nil,List.nil_append] at I
         have I := I (by omega)
         rw [W_loop (L := r12_walk_l1) rfl]
         rw [hH]
         simp (disch := first | assumption | omega | decide | (simp only [lens] <;> omega) | fail) only [go_sem,eI,fold_addN,eB,iaddr_ins,hg,insC_mk]
         refine I _ _ ?_
         simp (disch := first | assumption | omega | decide | (simp only [lens] <;> omega) | fail) only [go_sem,norm_t]
         try rfl
       ·rw [if_neg o6] at I
        simp only [List.map_nil,List.nil_append] at I
        have I := I (by omega)
        rw [W_loop (L := r12_walk_l1) rfl]
        rw [hH]
        simp (disch := first | assumption | omega | decide | (simp only [lens] <;> omega) | fail) only [go_sem,eI,fold_addN,eB,iaddr_ins,hg,insC_mk]
        refine I _ _ ?_
        simp (disch := first | assumption | omega | decide | (simp only [lens] <;> omega) | fail) only [go_sem,norm_t]
        try rfl
theorem r12walk_l2_ok (g : Nat) (hg : g ≤ 1024) (kl : SK) (l : List Ins) (t : List UInt8) (k : Nat) (Q : Out → Prop)
  (hQ : Q (.nrm,[(1,.p (.str t)),(2,.p (.int .i64 k)),(3,.bx 0 0),(8,.own 1 (2 * g + 2))],[.box [.p (.int .i64 g),.p (.sl kl 4 (inR l))],.row false 1 (ints .i64 (nowS g))])) : ∀ (d i : Nat),i + d = 2 * g + 2 →
  Wp Γ r12_walk_l2 [(1,.p (.str t)),(2,.p (.int .i64 k)),(3,.bx 0 0),(8,.own 1 i),(9,.p (.int .i64 i))] [.box [.p (.int .i64 g),.p (.sl kl 4 (inR l))],.row false 1 (ints .i64 (List.replicate i (-1)))] (InBlk [1,2,3,8] 0 Q) := by
 intro d
 induction d with
 | zero =>
  intro i hi
  have : i = 2 * g + 2 := by omega
  subst this
  have hl : (ints .i64 (List.replicate (2 * g + 2) (-1))).length = 2 * g + 2 := by rw [ints_len,List.length_replicate]
  rw [W_loop (L := r12_walk_l2) rfl]
  simp (disch := first | assumption | omega | decide | (simp only [lens] <;> omega) | fail) only [go_sem]
  exact hQ
 | succ d ih =>
  intro i hi
  have I := ih (i + 1) (by omega)
  have e : ints .i64 (List.replicate i (-1)) ++ [.int .i64 (-1)] = ints .i64 (List.replicate (i + 1) (-1)) := by
   rw [List.replicate_succ']; simp [ints]
  have hl : (ints .i64 (List.replicate i (-1))).length = i := by rw [ints_len,List.length_replicate]
  rw [W_loop (L := r12_walk_l2) rfl]
  simp (disch := first | assumption | omega | decide | (simp only [lens] <;> omega) | fail) only [go_sem,e]
  exact I
set_option maxRecDepth 10000 in
set_option maxHeartbeats 1000000 in
theorem res_r12walk (g : Nat) (hg : g ≤ 1024) (kl : SK) (l : List Ins) (hl : l.length ≤ 10000) (hp : ∀ x ∈ l,x.2.2.2.length ≤ 1000000) (t : List UInt8) (ht : t.length ≤ 10000) (k : Nat) (hk : k ≤ t.length) {r S'} (h : RunQ l t [(k,(0,nowS g))] S00 r S') :
  res Γ 329 [progV g kl l,.str t,.int .i64 k] = some [fV r,.bool r.isSome] := by
 have hnl : (nowS g).length = 2 * g + 2 := by unfold nowS; rw [List.length_replicate]
 have hNb : l.length * (t.length + 1) ≤ 200000000 := Nat.le_trans (Nat.mul_le_mul hl (by omega : t.length + 1 ≤ 10001)) (by omega)
 have hS : SeenB l t.length (List.replicate (l.length * (t.length + 1)) false) S00 := by
  refine ⟨List.length_replicate,fun p k hp hk => ?_⟩
  rw [List.getD_eq_getElem?_getD,List.getElem?_replicate]
  split <;> rfl
 have hc : (List.replicate (l.length * (t.length + 1)) false).count false ≤ l.length * (t.length + 1) := by
  refine Nat.le_trans List.count_le_length ?_
  rw [List.length_replicate]; exact Nat.le_refl _
 have L1 := fun Q hQ => r12walk_l1_ok g kl l hl hp t ht (2 * g + 2) (by omega) _ rfl Q h _ hS (by intro q hq; rw [List.mem_singleton] at hq; subst hq; exact ⟨hk,hnl⟩) (by simp only [List.length_singleton]; omega) hQ
 have L2 := fun Q hQ => r12walk_l2_ok g hg kl l t k Q hQ (2 * g + 2) 0 (by omega)
 have eI : (l.length : Int) * ((t.length : Int) + 1) = ((l.length * (t.length + 1) : Nat) : Int) := by rw [Int.natCast_mul]; rfl
 have hlr : (bools (List.replicate (l.length * (t.length + 1)) false)).length = l.length * (t.length + 1) := by rw [bools_len,List.length_replicate]
 have eq1 : qR [(k,(0,nowS g))] = [.agg [.int .i64 0,.int .i64 k,.sl .any 1 (ints .i64 (nowS g))]] := rfl
 simp only [wH,eq1,List.length_singleton] at L1
 generalize l.length * (t.length + 1) = N at *
 cases r with
 | none =>
  refine res_code (fn := r12_walk) rfl rfl ?_
  simp (disch := first | assumption | omega | decide | (simp only [lens] <;> omega) | fail) only [go_sem,r12_walk]
  refine L2 _ ?_
  simp (disch := first | assumption | omega | decide | (simp only [lens] <;> omega) | fail) only [go_sem,eI,bools_rep]
  refine L1 _ ?_ _ _ ?_
  ·intro H'
   simp (disch := first | assumption | omega | decide | (simp only [lens] <;> omega) | fail) only [go_sem,fV_n,Option.isSome_none]
   try rfl
  ·simp (disch := first | assumption | omega | decide | (simp only [lens] <;> omega) | fail) only [go_sem,norm_t]
   try rfl
 | some x =>
  refine res_code (fn := r12_walk) rfl rfl ?_
  simp (disch := first | assumption | omega | decide | (simp only [lens] <;> omega) | fail) only [go_sem,r12_walk]
  refine L2 _ ?_
  simp (disch := first | assumption | omega | decide | (simp only [lens] <;> omega) | fail) only [go_sem,eI,bools_rep]
  refine L1 _ ?_ _ _ ?_
  ·intro H'
   simp (disch := first | assumption | omega | decide | (simp only [lens] <;> omega) | fail) only [go_sem,fV_s,Option.isSome_some]
   try rfl
  ·simp (disch := first | assumption | omega | decide | (simp only [lens] <;> omega) | fail) only [go_sem,norm_t]
   try rfl
def r12FQ (Q : Out → Prop) (H : Heap) (r : Option (List Int)) : Prop := match r with
 | none => Q (.nrm,[],H)
 | some x => Q (.ret,[(6,.p (.sl .any 1 (ints .i64 x))),(7,.p (.bool true))],H)
set_option maxRecDepth 10000 in
theorem r12Find_l1_ok (g : Nat) (hg : g ≤ 1024) (kl : SK) (l : List Ins) (hl : l.length ≤ 10000) (hp : ∀ x ∈ l,x.2.2.2.length ≤ 1000000) (t : List UInt8) (ht : t.length ≤ 10000) (Q : Out → Prop) {k r} (h : Fr l t (nowS g) k r) : k ≤ t.length + 1 →
  r12FQ Q [.box [.p (.int .i64 g),.p (.sl kl 4 (inR l))]] r →
  Wp Γ r12_Find_l1 [(1,.p (.str t)),(3,.bx 0 0),(8,.p (.int .i64 k))] [.box [.p (.int .i64 g),.p (.sl kl 4 (inR l))]] (InBlk [] 0 Q) := by
 induction h with
 | over hk =>
  intro _ hQ
  rw [W_loop (L := r12_Find_l1) rfl]
  simp (disch := first | assumption | omega | decide | (simp only [lens] <;> omega) | fail) only [go_sem]
  exact hQ
 | @hit k x S hk hr =>
  intro _ hQ
  have eW := res_r12walk g hg kl l hl hp t ht k hk hr
  rw [fV_s,Option.isSome_some] at eW
  rw [W_loop (L := r12_Find_l1) rfl]
  simp (disch := first | assumption | omega | decide | (simp only [lens] <;> omega) | fail) only [go_sem,eW]
  exact hQ
 | @next k r S hk hr _ ih =>
  intro _ hQ
  have eW := res_r12walk g hg kl l hl hp t ht k hk hr
  rw [fV_n,Option.isSome_none] at eW
  have I := ih (by omega) hQ
  rw [W_loop (L := r12_Find_l1) rfl]
  simp (disch := first | assumption | omega | decide | (simp only [lens] <;> omega) | fail) only [go_sem,eW]
  exact I
theorem res_r12Find (g : Nat) (hg : g ≤ 1024) (kl : SK) (l : List Ins) (hl : l.length ≤ 10000) (hp : ∀ x ∈ l,x.2.2.2.length ≤ 1000000) (t : List UInt8) (ht : t.length ≤ 10000) (k : Nat) (hk : k ≤ t.length) {r} (h : Fr l t (nowS g) k r) :
  res Γ 319 [progV g kl l,.str t,.int .i64 k] = some [fV r,.bool r.isSome] := by
 have L := fun Q hQ => r12Find_l1_ok g hg kl l hl hp t ht Q h (by omega) hQ
 cases r with
 | none =>
  simp only [r12FQ] at L
  refine res_code (fn := r12_Find) rfl rfl ?_
  simp (disch := first | assumption | omega | decide | (simp only [lens] <;> omega) | fail) only [go_sem,r12_Find]
  refine L _ ?_
  simp (disch := first | assumption | omega | decide | (simp only [lens] <;> omega) | fail) only [go_sem,fV_n,Option.isSome_none]
  try rfl
 | some x =>
  simp only [r12FQ] at L
  refine res_code (fn := r12_Find) rfl rfl ?_
  simp (disch := first | assumption | omega | decide | (simp only [lens] <;> omega) | fail) only [go_sem,r12_Find]
  refine L _ ?_
  simp (disch := first | assumption | omega | decide | (simp only [lens] <;> omega) | fail) only [go_sem,fV_s,Option.isSome_some]
  try rfl
theorem find_both (g : Nat) (hg : g ≤ 1024) (l : List Ins) (hl : l.length ≤ 10000) (hp : ∀ x ∈ l,x.2.2.2.length ≤ 1000000) (t : List UInt8) (ht : t.length ≤ 10000) : ∃ F : Nat → Option (List Int),∀ k,k ≤ t.length → (∀ kl,res Γ 338 [progV g kl l,.str t,.int .i64 k] = some [fV (F k),.bool (F k).isSome]) ∧ (∀ kl,res Γ 319 [progV g kl l,.str t,.int .i64 k] = some [fV (F k),.bool (F k).isSome]) ∧ ∀ x,F k = some x → okS (2 * g + 2) t.length x := by
 have key : ∀ k : Nat,∃ r : Option (List Int),k ≤ t.length → (∀ kl,res Γ 338 [progV g kl l,.str t,.int .i64 k] = some [fV r,.bool r.isSome]) ∧ (∀ kl,res Γ 319 [progV g kl l,.str t,.int .i64 k] = some [fV r,.bool r.isSome]) ∧ ∀ x,r = some x → okS (2 * g + 2) t.length x := by
  intro k
  by_cases hk : k ≤ t.length
  ·obtain ⟨r,h⟩ := pk_ex l t (nowS g) (t.length + 1 - k) k (by omega) [] [] none
   have hf := pk_fr hk h
   have hn : okS (2 * g + 2) t.length (nowS g) := by
    refine ⟨by unfold nowS; rw [List.length_replicate],fun v hv => ?_⟩
    have := List.eq_of_mem_replicate hv
    subst this
    omega
   have hs := fr_saves hf hn
   exact ⟨r,fun _ => ⟨fun kl => res_pikeFind g hg kl l hl hp t (by omega) k hk h (fun x e => by have := (hs x e).1; omega),fun kl => res_r12Find g hg kl l hl hp t ht k hk hf,hs⟩⟩
  ·exact ⟨none,fun h => absurd h hk⟩
 exact ⟨fun k => (key k).choose,fun k hk => (key k).choose_spec hk⟩
end Ab
