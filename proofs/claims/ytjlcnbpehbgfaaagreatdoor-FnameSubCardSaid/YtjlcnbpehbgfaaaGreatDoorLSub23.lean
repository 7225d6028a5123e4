import Derived.Test.YtjlcnbpehbgfaaaGreatDoorLSub19
namespace Ab
open Go (IntKind BinOp UnOp)
theorem spl_ok {lz : Bool} {x y : Int} (h1 : -50000 ≤ x ∧ x ≤ 50000) (h2 : -50000 ≤ y ∧ y ≤ 50000) : okI (spl lz x y) := by
 cases lz
 ·exact ⟨h1.1,h1.2,h2.1,h2.2⟩
 ·exact ⟨h2.1,h2.2,h1.1,h1.2⟩
theorem comp_ok {G : Nat} (hG : G ≤ 20000) : ∀ (p : Pc) (b : Nat),gl G p → b + lenP p ≤ 40000 → ∀ x ∈ comp p b,okI x
 | .inst o q,b,_,_,x,h => by
  simp only [comp,List.mem_singleton] at h
  subst h
  unfold okI; dsimp only; omega
 | .nil,_,_,_,x,h => by simp [comp] at h
 | .cons a r,b,hg,hb,x,h => by
  simp only [lenP] at hb
  simp only [comp,List.mem_append] at h
  rcases h with h | h
  ·exact comp_ok hG a b hg.1 (by omega) x h
  ·exact comp_ok hG r _ hg.2 (by omega) x h
 | .alt a r,b,hg,hb,x,h => by
  simp only [lenP] at hb
  simp only [comp,List.mem_append,List.mem_cons] at h
  rcases h with rfl | h | rfl | h
  ·unfold okI; dsimp only; omega
  ·exact comp_ok hG a _ hg.1 (by omega) x h
  ·unfold okI; dsimp only; omega
  ·exact comp_ok hG r _ hg.2 (by omega) x h
 | .grp g k,b,hg,hb,x,h => by
  have h1 : g ≤ G := hg.1
  simp only [lenP] at hb
  simp only [comp] at h
  split at h
  ·rename_i h0
   rw [if_pos h0] at hb
   exact comp_ok hG k b hg.2 hb x h
  ·rename_i h0
   rw [if_neg h0] at hb
   simp only [List.mem_append,List.mem_cons,List.not_mem_nil,or_false] at h
   rcases h with rfl | h | rfl
   ·unfold okI; dsimp only; omega
   ·exact comp_ok hG k _ hg.2 (by omega) x h
   ·unfold okI; dsimp only; omega
 | .rep c lz k,b,hg,hb,x,h => by
  simp only [lenP] at hb
  simp only [comp] at h
  have hb : b + lenP k + 1 ≤ 40000 := by split at hb <;> omega
  split at h
  ·simp only [List.mem_append,List.mem_cons,List.not_mem_nil,or_false] at h
   rcases h with rfl | h | rfl
   ·exact spl_ok (by omega) (by omega)
   ·exact comp_ok hG k _ hg (by omega) x h
   ·unfold okI; dsimp only; omega
  ·split at h
   ·simp only [List.mem_append,List.mem_cons,List.not_mem_nil,or_false] at h
    rcases h with h | rfl
    ·exact comp_ok hG k _ hg (by omega) x h
    ·exact spl_ok (by omega) (by omega)
   ·simp only [List.mem_cons] at h
    rcases h with rfl | h
    ·exact spl_ok (by omega) (by omega)
    ·exact comp_ok hG k _ hg (by omega) x h
theorem r1H_n {s : List UInt8} {i d e g : Int} {l : List Ins} {n : Nat} (h : l.length = n) : r1H none s i d e g l = [r1I s i d e g 1 n,.row false 4 (inR l)] := by subst h; rfl
theorem r1H_s {f : Bool} {ys : List PV} {s : List UInt8} {i d e g : Int} {l : List Ins} {n : Nat} (h : l.length = n) : r1H (some (f,ys)) s i d e g l = [r1I s i d e g 2 n,.row f 4 ys,.row false 4 (inR l)] := by subst h; rfl
def errC (b : Bool) : Int := if b = true then 12 else 8
def R1Ok (f : Nat) (s : List UInt8) (i g d : Nat) (r : PR) : Prop := ∀ (l : List Ins) (n : Nat),l.length = n → n + 2 * (s.length - i) ≤ 1000 →
 match r with
 | .ok (p,j,g') => ∃ c,resM Γ 2 f [.bx 0 0] [r1I s i d 0 g 1 n,.row false 4 (inR l)] = some ([],r1H c s j d 0 g' (l ++ comp p n))
 | .error b => ∃ c j d' g' l',(n ≤ List.length l' ∧ List.length l' ≤ n + 2 * (s.length - i)) ∧ resM Γ 2 f [.bx 0 0] [r1I s i d 0 g 1 n,.row false 4 (inR l)] = some ([],r1H c s j d' (errC b) g' l')
theorem st361 : stillF Γ 2 361 = true := by kernel_rfl
theorem st362 : stillF Γ 2 362 = true := by kernel_rfl
theorem st315 : stillF Γ 2 315 = true := by kernel_rfl
theorem st316 : stillF Γ 2 316 = true := by kernel_rfl
theorem st353 : stillF Γ 2 353 = true := by kernel_rfl
theorem st341 : stillF Γ 2 341 = true := by kernel_rfl
theorem st326 : stillF Γ 2 326 = true := by kernel_rfl
theorem st325 : stillF Γ 2 325 = true := by kernel_rfl
theorem st328 : stillF Γ 2 328 = true := by kernel_rfl
theorem st317 : stillF Γ 2 317 = true := by kernel_rfl
set_option maxRecDepth 10000 in
set_option maxHeartbeats 2000000 in
theorem r1_atom (s : List UInt8) (hs : s.length ≤ 100) (n' i g d : Nat) (hi : i < s.length)
  (hG : bt s i = 40 → R1Ok 362 s i g d (rd (setS s) s n' .group d (i + 1) g)) : R1Ok 353 s i g d (rd (setS s) s (n' + 1) .atom d i g) := by
 intro l n hl hn
 simp only [rd]
 by_cases h40 : bt s i = 40
 ·rw [if_pos h40]
  have hb : byt s i = 40 := by rw [byt_bt,h40]; rfl
  have hG := hG h40 l n hl hn
  cases hr : rd (setS s) s n' .group d (i + 1) g with
  | error b =>
   rw [hr] at hG
   obtain ⟨c,j,d',g',l',hl',hG⟩ := hG
   refine ⟨c,j,d',g',l',hl',resM_code (fn := r11_reader_atom) rfl rfl ?_⟩
   rcases c with _ | ⟨f,ys⟩ <;> simp only [r1H] at hG ⊢
   all_goals
    simp (disch := first | assumption | omega | decide | (simp only [lens] <;> omega) | fail) only [go_sem,r11_reader_atom,hb,hG,st362]
  | ok r =>
   obtain ⟨p,j,g'⟩ := r
   rw [hr] at hG
   obtain ⟨c,hG⟩ := hG
   refine ⟨c,resM_code (fn := r11_reader_atom) rfl rfl ?_⟩
   rcases c with _ | ⟨f,ys⟩ <;> simp only [r1H] at hG ⊢
   all_goals
    simp (disch := first | assumption | omega | decide | (simp only [lens] <;> omega) | fail) only [go_sem,r11_reader_atom,hb,hG,st362]
 ·rw [if_neg h40]
  have n40 : ¬ byt s i = 40 := by rw [byt_bt]; omega
  by_cases h94 : bt s i = 94
  ·rw [if_pos h94]
   have hb : byt s i = 94 := by rw [byt_bt,h94]; rfl
   have eL : resM Γ 2 315 [.bx 0 0,.p (.agg [.int .i64 5,.int .i64 0,.int .i64 0,.str []])] [r1I s ((i : Int) + 1) d 0 g 1 n,.row false 4 (inR l)] = _ := resM_lay s ((i : Int) + 1) d 0 g n l hl (by omega) 5 0 0 []
   refine ⟨none,resM_code (fn := r11_reader_atom) rfl rfl ?_⟩
   simp (disch := first | assumption | omega | decide | (simp only [lens] <;> omega) | fail) only [go_sem,r11_reader_atom,hb,eL,st315]
   rw [r1H_n (n := n + 1) (by simp [hl,comp])]
   rfl
  ·rw [if_neg h94]
   have n94 : ¬ byt s i = 94 := by rw [byt_bt]; omega
   by_cases h36 : bt s i = 36
   ·rw [if_pos h36]
    have hb : byt s i = 36 := by rw [byt_bt,h36]; rfl
    have eL : resM Γ 2 315 [.bx 0 0,.p (.agg [.int .i64 6,.int .i64 0,.int .i64 0,.str []])] [r1I s ((i : Int) + 1) d 0 g 1 n,.row false 4 (inR l)] = _ := resM_lay s ((i : Int) + 1) d 0 g n l hl (by omega) 6 0 0 []
    refine ⟨none,resM_code (fn := r11_reader_atom) rfl rfl ?_⟩
    simp (disch := first | assumption | omega | decide | (simp only [lens] <;> omega) | fail) only [go_sem,r11_reader_atom,hb,eL,st315]
    rw [r1H_n (n := n + 1) (by simp [hl,comp])]
    rfl
   ·rw [if_neg h36]
    have n36 : ¬ byt s i = 36 := by rw [byt_bt]; omega
    have hil : (inR l).length = n := by rw [inR_len,hl]
    have eS := resM_r1set s (by omega) i hi d 0 g n (inR l) hil
    cases hr : setS s i with
    | none =>
     rw [hr] at eS
     obtain ⟨A,j,hA,eS⟩ := eS
     have hAb : (bools A).length = 256 := by rw [bools_len,hA]
     have hz : (bools noneL).length = 256 := by rw [bools_len,noneL_len]
     have eB := resM_bad s j d g 8 n (inR l) hil
     refine ⟨none,j,d,g,l,by omega,resM_code (fn := r11_reader_atom) rfl rfl ?_⟩
     simp (disch := first | assumption | omega | decide | (simp only [lens] <;> omega) | fail) only [go_sem,r11_reader_atom,eS,eB,st316,st361]
     rw [r1H_n hl]
     rfl
    | some r =>
     obtain ⟨A,j⟩ := r
     rw [hr] at eS
     obtain ⟨hA,eS⟩ := eS
     have hAb : (bools A).length = 256 := by rw [bools_len,hA]
     have hz : (bools noneL).length = 256 := by rw [bools_len,noneL_len]
     have eP := res_r11_pairs A hA
     have eL := resM_lay s j d 0 g n l hl (by omega) 1 0 0 (pairsB A)
     refine ⟨none,resM_code (fn := r11_reader_atom) rfl rfl ?_⟩
     simp (disch := first | assumption | omega | decide | (simp only [lens] <;> omega) | fail) only [go_sem,r11_reader_atom,eS,eP,eL,st315,st361]
     rw [r1H_n (n := n + 1) (by simp [hl,comp])]
     rfl
set_option maxRecDepth 10000 in
set_option maxHeartbeats 4000000 in
theorem r1_piece (s : List UInt8) (hs : s.length ≤ 100) (n' i g d : Nat) (hi : i < s.length) (hgi : g ≤ i)
  (hA : R1Ok 353 s i g d (rd (setS s) s n' .atom d i g)) : R1Ok 341 s i g d (rd (setS s) s (n' + 1) .piece d i g) := by
 intro l n hl hn
 have hA := hA l n hl hn
 simp only [rd]
 cases hr : rd (setS s) s n' .atom d i g with
 | error b =>
  rw [hr] at hA
  obtain ⟨c,j,d',g',l',hl',hA⟩ := hA
  have hb : errC b = 12 ∨ errC b = 8 := by cases b <;> simp [errC]
  refine ⟨c,j,d',g',l',hl',resM_code (fn := r11_reader_piece) rfl rfl ?_⟩
  rcases hb with hb | hb <;> rw [hb] at hA ⊢
  all_goals
   rcases c with _ | ⟨f,ys⟩ <;> simp only [r1H] at hA ⊢
  all_goals
   simp (disch := first | assumption | omega | decide | (simp only [lens] <;> omega) | fail) only [go_sem,r11_reader_piece,hA,st353]
 | ok r =>
  obtain ⟨p,j,g'⟩ := r
  rw [hr] at hA
  obtain ⟨c,hA⟩ := hA
  have hok := rd_ok (@setS_lt s) n' .atom d i g (p,j,g') (by omega) hi hr
  have hgl := rd_gl (@setS_lt s) n' .atom d i g (p,j,g') (by omega) hi hr
  obtain ⟨a1,a2,a3,a4,a5,a6,a7⟩ := hok
  dsimp only at a1 a2 a3 a4 a5 a6 a7 hgl hA ⊢
  have hlc : (l ++ comp p n).length = n + lenP p := by rw [List.length_append,comp_len,hl]
  by_cases hc : j < s.length ∧ (bt s j = 42 ∨ bt s j = 43 ∨ bt s j = 63)
  ·rw [if_pos hc]
   have hgl := hgl 100 (by omega)
   have hcx := comp_ok (by omega : 100 ≤ 20000) p n hgl (by omega)
   have hc0 := comp_ok (by omega : 100 ≤ 20000) p 0 hgl (by omega)
   have hop := fine_ok p a6
   have hm1 : mv (-(n : Int)) (comp p n) = comp p 0 := comp_mv p hop n 0 _ (by omega)
   have hm2 : ∀ k : Nat,mv (k : Int) (comp p 0) = comp p k := fun k => comp_mv p hop 0 k _ (by omega)
   have eM : res Γ 327 [.ptr (r1P s ((j : Int) + 1) d 0 g' (inR (l ++ comp p n))),.int .u8 63] = some [.bool (isS2 s (j + 1) 63)] := res_more s (by omega) (j + 1) d 0 g' (inR (l ++ comp p n)) 63
   have hb : byt s j = ((bt s j : Nat) : Int) := byt_bt
   have eC : ∀ J : Int,resM Γ 2 326 [.bx 0 0,.p (.int .i64 n)] [r1I s J d 0 g' 1 (n + lenP p),.row false 4 (inR (l ++ comp p n))] = some ([.p (.sl .any 4 (inR (comp p 0)))],[r1I s J d 0 g' 2 n,.row true 4 (inR (l ++ comp p n)),.row false 4 (inR l)]) := by
    intro J
    have := resM_cut s J d 0 g' (n + lenP p) n l (comp p n) hl hlc (by omega) hcx
    rw [hm1,r1H_s hl] at this
    exact this
   have hlen0 : (comp p 0).length = lenP p := comp_len p 0
   have e2 : at2 s (j + 1) 63 = isS2 s (j + 1) 63 := rfl
   rw [e2]
   refine ⟨some (c.getD (true,inR (l ++ comp p n))),?_⟩
   have eL : ∀ (J : Int) (x y : Int),resM Γ 2 315 [.bx 0 0,.p (.agg [.int .i64 2,.int .i64 x,.int .i64 y,.str []])] [r1I s J d 0 g' 1 n,.row false 4 (inR l)] = _ := fun J x y => resM_lay s J d 0 g' n l hl (by omega) 2 x y []
   have eP : ∀ (J : Int) (x y : Int),resM Γ 2 325 [.bx 0 0,.p (.sl .any 4 (inR (comp p 0)))] [r1I s J d 0 g' 1 (n + 1),.row false 4 (inR (l ++ [(2,x,y,[])]))] = some ([],[r1I s J d 0 g' 1 (n + 1 + lenP p),.row false 4 (inR (l ++ (2,x,y,[]) :: comp p (n + 1)))]) := by
    intro J x y
    have := resM_put s J d 0 g' (n + 1) (l ++ [(2,x,y,[])]) (comp p 0) .any (by simp [hl]) (by omega) (by omega) hc0
    rw [hm2,hlen0,List.append_assoc] at this
    exact this
   have eQ : ∀ (J : Int),resM Γ 2 325 [.bx 0 0,.p (.sl .any 4 (inR (comp p 0)))] [r1I s J d 0 g' 1 n,.row false 4 (inR l)] = some ([],[r1I s J d 0 g' 1 (n + lenP p),.row false 4 (inR (l ++ comp p n))]) := by
    intro J
    have := resM_put s J d 0 g' n l (comp p 0) .any hl (by omega) (by omega) hc0
    rw [hm2,hlen0] at this
    exact this
   have eR : ∀ (J : Int) (x y : Int),resM Γ 2 315 [.bx 0 0,.p (.agg [.int .i64 2,.int .i64 x,.int .i64 y,.str []])] [r1I s J d 0 g' 1 (n + lenP p),.row false 4 (inR (l ++ comp p n))] = some ([.p (.int .i64 ((n + lenP p : Nat) : Int))],[r1I s J d 0 g' 1 (n + lenP p + 1),.row false 4 (inR (l ++ (comp p n ++ [(2,x,y,[])])))]) := by
    intro J x y
    have := resM_lay s J d 0 g' (n + lenP p) (l ++ comp p n) hlc (by omega) 2 x y []
    rw [List.append_assoc] at this
    exact this
   have eJ : ∀ (J : Int) (x y : Int),resM Γ 2 315 [.bx 0 0,.p (.agg [.int .i64 3,.int .i64 n,.int .i64 0,.str []])] [r1I s J d 0 g' 1 (n + 1 + lenP p),.row false 4 (inR (l ++ (2,x,y,[]) :: comp p (n + 1)))] = _ := fun J x y => resM_lay s J d 0 g' (n + 1 + lenP p) (l ++ (2,x,y,[]) :: comp p (n + 1)) (by simp [hl,comp_len]; omega) (by omega) 3 n 0 []
   have h63 : bt s j ≠ 42 → bt s j ≠ 43 → bt s j = 63 := by omega
   by_cases h42 : bt s j = 42
   ·rw [h42] at hb ⊢
    cases hz : isS2 s (j + 1) 63
    ·rw [hz] at eM
     rw [if_neg Bool.false_ne_true]
     have hR : (l ++ comp (.rep 42 false p) n).length = n + 1 + lenP p + 1 := by rw [List.length_append,comp_len,hl]; simp only [lenP]; rw [if_pos trivial]; omega
     have eR2 : comp (.rep 42 false p) n = (2,(n : Int) + 1,(n : Int) + 2 + lenP p,[]) :: (comp p (n + 1) ++ [(3,(n : Int),0,[])]) := by simp [comp,spl]
     refine resM_code (fn := r11_reader_piece) rfl rfl ?_
     rcases c with _ | ⟨f,ys⟩ <;> simp only [r1H] at hA ⊢ <;> rw [hR,eR2]
     all_goals
      simp (disch := first | assumption | omega | decide | (simp only [lens] <;> omega) | fail) only [go_sem,r11_reader_piece,hA,hb,eM,eC,eL,eP,eJ,hlc,hlen0,st353,st326,st315,st325]
      rfl
    ·rw [hz] at eM
     rw [if_pos (Eq.refl true)]
     have hR : (l ++ comp (.rep 42 true p) n).length = n + 1 + lenP p + 1 := by rw [List.length_append,comp_len,hl]; simp only [lenP]; rw [if_pos trivial]; omega
     have eR2 : comp (.rep 42 true p) n = (2,(n : Int) + 2 + lenP p,(n : Int) + 1,[]) :: (comp p (n + 1) ++ [(3,(n : Int),0,[])]) := by simp [comp,spl]
     refine resM_code (fn := r11_reader_piece) rfl rfl ?_
     rcases c with _ | ⟨f,ys⟩ <;> simp only [r1H] at hA ⊢ <;> rw [hR,eR2]
     all_goals
      simp (disch := first | assumption | omega | decide | (simp only [lens] <;> omega) | fail) only [go_sem,r11_reader_piece,hA,hb,eM,eC,eL,eP,eJ,hlc,hlen0,st353,st326,st315,st325]
      rfl
   ·by_cases h43 : bt s j = 43
    ·rw [h43] at hb ⊢
     cases hz : isS2 s (j + 1) 63
     ·rw [hz] at eM
      rw [if_neg Bool.false_ne_true]
      have hR : (l ++ comp (.rep 43 false p) n).length = n + lenP p + 1 := by rw [List.length_append,comp_len,hl]; simp only [lenP]; rw [if_neg (by omega)]; omega
      have eR2 : comp (.rep 43 false p) n = comp p n ++ [(2,(n : Int),(n : Int) + lenP p + 1,[])] := by simp [comp,spl]
      refine resM_code (fn := r11_reader_piece) rfl rfl ?_
      rcases c with _ | ⟨f,ys⟩ <;> simp only [r1H] at hA ⊢ <;> rw [hR,eR2]
      all_goals
       simp (disch := first | assumption | omega | decide | (simp only [lens] <;> omega) | fail) only [go_sem,r11_reader_piece,hA,hb,eM,eC,eQ,eR,hlc,hlen0,st353,st326,st315,st325]
       rfl
     ·rw [hz] at eM
      rw [if_pos (Eq.refl true)]
      have hR : (l ++ comp (.rep 43 true p) n).length = n + lenP p + 1 := by rw [List.length_append,comp_len,hl]; simp only [lenP]; rw [if_neg (by omega)]; omega
      have eR2 : comp (.rep 43 true p) n = comp p n ++ [(2,(n : Int) + lenP p + 1,(n : Int),[])] := by simp [comp,spl]
      refine resM_code (fn := r11_reader_piece) rfl rfl ?_
      rcases c with _ | ⟨f,ys⟩ <;> simp only [r1H] at hA ⊢ <;> rw [hR,eR2]
      all_goals
       simp (disch := first | assumption | omega | decide | (simp only [lens] <;> omega) | fail) only [go_sem,r11_reader_piece,hA,hb,eM,eC,eQ,eR,hlc,hlen0,st353,st326,st315,st325]
       rfl
    ·have h63 := h63 h42 h43
     rw [h63] at hb ⊢
     cases hz : isS2 s (j + 1) 63
     ·rw [hz] at eM
      rw [if_neg Bool.false_ne_true]
      have hR : (l ++ comp (.rep 63 false p) n).length = n + 1 + lenP p := by rw [List.length_append,comp_len,hl]; simp only [lenP]; rw [if_neg (by omega)]; omega
      have eR2 : comp (.rep 63 false p) n = (2,(n : Int) + 1,(n : Int) + 1 + lenP p,[]) :: comp p (n + 1) := by simp [comp,spl]
      refine resM_code (fn := r11_reader_piece) rfl rfl ?_
      rcases c with _ | ⟨f,ys⟩ <;> simp only [r1H] at hA ⊢ <;> rw [hR,eR2]
      all_goals
       simp (disch := first | assumption | omega | decide | (simp only [lens] <;> omega) | fail) only [go_sem,r11_reader_piece,hA,hb,eM,eC,eL,eP,hlc,hlen0,st353,st326,st315,st325]
       rfl
     ·rw [hz] at eM
      rw [if_pos (Eq.refl true)]
      have hR : (l ++ comp (.rep 63 true p) n).length = n + 1 + lenP p := by rw [List.length_append,comp_len,hl]; simp only [lenP]; rw [if_neg (by omega)]; omega
      have eR2 : comp (.rep 63 true p) n = (2,(n : Int) + 1 + lenP p,(n : Int) + 1,[]) :: comp p (n + 1) := by simp [comp,spl]
      refine resM_code (fn := r11_reader_piece) rfl rfl ?_
      rcases c with _ | ⟨f,ys⟩ <;> simp only [r1H] at hA ⊢ <;> rw [hR,eR2]
      all_goals
       simp (disch := first | assumption | omega | decide | (simp only [lens] <;> omega) | fail) only [go_sem,r11_reader_piece,hA,hb,eM,eC,eL,eP,hlc,hlen0,st353,st326,st315,st325]
       rfl
  ·rw [if_neg hc]
   refine ⟨c,resM_code (fn := r11_reader_piece) rfl rfl ?_⟩
   by_cases hj : j < s.length
   ·have n1 : ¬ byt s j = 42 := by rw [byt_bt]; omega
    have n2 : ¬ byt s j = 43 := by rw [byt_bt]; omega
    have n3 : ¬ byt s j = 63 := by rw [byt_bt]; omega
    rcases c with _ | ⟨f,ys⟩ <;> simp only [r1H] at hA ⊢
    all_goals
     simp (disch := first | assumption | omega | decide | (simp only [lens] <;> omega) | fail) only [go_sem,r11_reader_piece,hA,st353]
   ·have : j = s.length := by omega
    subst this
    rcases c with _ | ⟨f,ys⟩ <;> simp only [r1H] at hA ⊢
    all_goals
     simp (disch := first | assumption | omega | decide | (simp only [lens] <;> omega) | fail) only [go_sem,r11_reader_piece,hA,st353]
end Ab
namespace Ab
open Go (IntKind BinOp UnOp)
theorem win_q {s : List UInt8} {i : Nat} : (s.take (i + 3)).drop (i + 1) = (s.drop (i + 1)).take 2 := by
 rw [List.drop_take,show i + 3 - (i + 1) = 2 by omega]
def askQ (s : List UInt8) (i : Nat) : Prop := (at2 s (i + 1) 63 = true ∧ at2 s (i + 1 + 1) 58 = true)
theorem askQ_cases (s : List UInt8) (i : Nat) : (i + 2 < s.length ∧ (s.take ((i : Int) + 1 + 2).toNat).drop ((i : Int) + 1).toNat = [63,58] ∧ askQ s i) ∨ (i + 2 < s.length ∧ ¬ (s.take ((i : Int) + 1 + 2).toNat).drop ((i : Int) + 1).toNat = [63,58] ∧ ¬ askQ s i) ∨ (¬ i + 2 < s.length ∧ ¬ askQ s i) := by
 rw [show ((i : Int) + 1 + 2).toNat = i + 3 by omega,show ((i : Int) + 1).toNat = i + 1 by omega,win_q,pre_q]
 unfold askQ
 by_cases h : i + 2 < s.length
 ·by_cases h2 : at2 s (i + 1) 63 = true ∧ at2 s (i + 1 + 1) 58 = true
  ·exact .inl ⟨h,h2,h2⟩
  ·exact .inr (.inl ⟨h,h2,h2⟩)
 ·refine .inr (.inr ⟨h,fun h2 => ?_⟩)
  have := at2_lt h2.2
  omega
set_option maxRecDepth 10000 in
set_option maxHeartbeats 4000000 in
theorem r1_group_over (s : List UInt8) (hs : s.length ≤ 100) (i g d : Nat) (hi : i < s.length) (hgi : g ≤ i) (hd : 64 ≤ d) (hd2 : d ≤ 1000) (l : List Ins) (n : Nat) (hl : l.length = n) : ∃ (d' g' j : Int),resM Γ 2 362 [.bx 0 0] [r1I s i d 0 g 1 n,.row false 4 (inR l)] = some ([],[r1I s j d' 12 g' 1 n,.row false 4 (inR l)]) := by
 have eB := fun (J G : Int) => resM_bad s J ((d : Int) + 1) G 12 n (inR l) (by rw [inR_len,hl])
 rcases askQ_cases s i with ⟨h1,h2,h3⟩ | ⟨h1,h2,h3⟩ | ⟨h1,h3⟩
 ·refine ⟨(d : Int) + 1,g,(i : Int) + 1 + 2,resM_code (fn := r11_reader_group) rfl rfl ?_⟩
  simp (disch := first | assumption | omega | decide | (simp only [lens] <;> omega) | fail) only [go_sem,r11_reader_group,eB,st316]
 ·refine ⟨(d : Int) + 1,(g : Int) + 1,(i : Int) + 1,resM_code (fn := r11_reader_group) rfl rfl ?_⟩
  simp (disch := first | assumption | omega | decide | (simp only [lens] <;> omega) | fail) only [go_sem,r11_reader_group,eB,st316]
 ·refine ⟨(d : Int) + 1,(g : Int) + 1,(i : Int) + 1,resM_code (fn := r11_reader_group) rfl rfl ?_⟩
  simp (disch := first | assumption | omega | decide | (simp only [lens] <;> omega) | fail) only [go_sem,r11_reader_group,eB,st316]
set_option maxRecDepth 10000 in
set_option maxHeartbeats 8000000 in
theorem r1_group (s : List UInt8) (hs : s.length ≤ 100) (n' i g d : Nat) (hi : i < s.length) (hgi : g ≤ i) (hd2 : d ≤ 1000)
    (hW : ∀ (i' g' : Nat),d < 64 → i' ≤ s.length → i + 1 ≤ i' → g' ≤ i' → R1Ok 317 s i' g' (d + 1) (rd (setS s) s n' .ways (d + 1) i' g')) : R1Ok 362 s i g d (rd (setS s) s (n' + 1) .group d (i + 1) g) := by
  intro l n hl hn
  simp only [rd]
  by_cases hd : 64 ≤ d
  · rw [if_pos hd]
    obtain ⟨d',g',j,h⟩ := r1_group_over s hs i g d hi hgi hd hd2 l n hl
    exact ⟨none,j,d',g',l,by omega,by rw [r1H_n hl]; exact h⟩
  · rw [if_neg hd]
    by_cases hq : at2 s (i + 1) 63 = true ∧ at2 s (i + 1 + 1) 58 = true
    · rw [if_pos hq]
      rcases askQ_cases s i with ⟨h1,h2,h3⟩ | ⟨h1,h2,h3⟩ | ⟨h1,h3⟩
      · have hW := hW (i + 1 + 2) g (by omega) (by omega) (by omega) (by omega) l n hl (by omega)
        cases hr : rd (setS s) s n' .ways (d + 1) (i + 1 + 2) g with
        | error b =>
          rw [hr] at hW
          obtain ⟨c,j,d',g',l',hl',hW⟩ := hW
          have hW : resM Γ 2 317 [.bx 0 0] [r1I s ((i : Int) + 1 + 2) ((d : Int) + 1) 0 g 1 n,.row false 4 (inR l)] = some ([],r1H c s j d' (errC b) g' l') := hW
          refine ⟨c,j,d',g',l',by omega,resM_code (fn := r11_reader_group) rfl rfl ?_⟩
          have hb : errC b = 12 ∨ errC b = 8 := by cases b <;> simp [errC]
          rcases hb with hb | hb <;> rw [hb] at hW ⊢
          all_goals
            rcases c with _ | ⟨f,ys⟩ <;> simp only [r1H] at hW ⊢
          all_goals
            simp (disch := first | assumption | omega | decide | (simp only [lens] <;> omega) | fail) only [go_sem,r11_reader_group,hW,st317]
        | ok r =>
          obtain ⟨p,j,g'⟩ := r
          rw [hr] at hW
          obtain ⟨c,hW⟩ := hW
          have hW : resM Γ 2 317 [.bx 0 0] [r1I s ((i : Int) + 1 + 2) ((d : Int) + 1) 0 g 1 n,.row false 4 (inR l)] = some ([],r1H c s j (d + 1 : Nat) 0 g' (l ++ comp p n)) := hW
          obtain ⟨a1,a2,a3,a4,a5,a6,a7⟩ := rd_ok (@setS_lt s) n' .ways (d + 1) (i + 1 + 2) g (p,j,g') (by omega) trivial hr
          dsimp only at a1 a2 a3 a4 a5 a6 a7 ⊢
          have hlc : (l ++ comp p n).length = n + lenP p := by rw [List.length_append,comp_len,hl]
          have eM : ∀ J,res Γ 327 [.ptr (r1P s j ((d + 1 : Nat) : Int) 0 g' J),.int .u8 41] = some [.bool (isS2 s j 41)] := fun J => res_more s (by omega) j ((d + 1 : Nat) : Int) 0 g' J 41
          have e2 : at2 s j 41 = isS2 s j 41 := rfl
          rw [e2]
          cases hj : isS2 s j 41
          · rw [hj] at eM
            rw [if_neg Bool.false_ne_true]
            have eB := resM_bad s j ((d + 1 : Nat) : Int) g' 8 (n + lenP p) (inR (l ++ comp p n)) (by rw [inR_len,hlc])
            refine ⟨c,j,((d + 1 : Nat) : Int),g',l ++ comp p n,by omega,resM_code (fn := r11_reader_group) rfl rfl ?_⟩
            rcases c with _ | ⟨f,ys⟩ <;> simp only [r1H] at hW ⊢ <;> rw [hlc] at hW ⊢
            all_goals
              simp (disch := first | assumption | omega | decide | (simp only [lens] <;> omega) | fail) only [go_sem,r11_reader_group,hW,st317,eM,eB,st316]
              rfl
          · rw [hj] at eM
            rw [if_pos (Eq.refl true)]
            refine ⟨c,resM_code (fn := r11_reader_group) rfl rfl ?_⟩
            have ed : ((d + 1 : Nat) : Int) - 1 = (d : Int) := by omega
            have ec : comp (.grp 0 p) n = comp p n := by simp only [comp]; rw [if_pos trivial]
            rw [ec]
            rcases c with _ | ⟨f,ys⟩ <;> simp only [r1H] at hW ⊢ <;> rw [hlc] at hW ⊢
            all_goals
              simp (disch := first | assumption | omega | decide | (simp only [lens] <;> omega) | fail) only [go_sem,r11_reader_group,hW,st317,eM]
              rw [ed]
              rfl
      · exact absurd hq h3
      · exact absurd hq h3
    · rw [if_neg hq]
      have hW := hW (i + 1) (g + 1) (by omega) (by omega) (by omega) (by omega) (l ++ [(4,2 * ((g : Int) + 1),0,[])]) (n + 1) (by rw [List.length_append,hl]; rfl) (by omega)
      have eL : resM Γ 2 315 [.bx 0 0,.p (.agg [.int .i64 4,.int .i64 (2 * ((g : Int) + 1)),.int .i64 0,.str []])] [r1I s ((i : Int) + 1) ((d : Int) + 1) 0 ((g : Int) + 1) 1 n,.row false 4 (inR l)] = _ := resM_lay s ((i : Int) + 1) ((d : Int) + 1) 0 ((g : Int) + 1) n l hl (by omega) 4 (2 * ((g : Int) + 1)) 0 []
      cases hr : rd (setS s) s n' .ways (d + 1) (i + 1) (g + 1) with
      | error b =>
        rw [hr] at hW
        obtain ⟨c,j,d',g',l',hl',hW⟩ := hW
        have hW : resM Γ 2 317 [.bx 0 0] [r1I s ((i : Int) + 1) ((d : Int) + 1) 0 ((g : Int) + 1) 1 (n + 1),.row false 4 (inR (l ++ [(4,2 * ((g : Int) + 1),0,[])]))] = some ([],r1H c s j d' (errC b) g' l') := hW
        refine ⟨c,j,d',g',l',by omega,resM_code (fn := r11_reader_group) rfl rfl ?_⟩
        have hb : errC b = 12 ∨ errC b = 8 := by cases b <;> simp [errC]
        rcases hb with hb | hb <;> rw [hb] at hW ⊢
        all_goals
          rcases c with _ | ⟨f,ys⟩ <;> simp only [r1H] at hW ⊢
        all_goals
          rcases askQ_cases s i with ⟨h1,h2,h3⟩ | ⟨h1,h2,h3⟩ | ⟨h1,h3⟩
        all_goals
          first
          | exact absurd h3 hq
          | (simp (disch := first | assumption | omega | decide | (simp only [lens] <;> omega) | fail) only [go_sem,r11_reader_group,eL,hW,st317,st315]
             done)
      | ok r =>
        obtain ⟨p,j,g'⟩ := r
        rw [hr] at hW
        obtain ⟨c,hW⟩ := hW
        have hW : resM Γ 2 317 [.bx 0 0] [r1I s ((i : Int) + 1) ((d : Int) + 1) 0 ((g : Int) + 1) 1 (n + 1),.row false 4 (inR (l ++ [(4,2 * ((g : Int) + 1),0,[])]))] = some ([],r1H c s j (d + 1 : Nat) 0 g' (l ++ [(4,2 * ((g : Int) + 1),0,[])] ++ comp p (n + 1))) := hW
        obtain ⟨a1,a2,a3,a4,a5,a6,a7⟩ := rd_ok (@setS_lt s) n' .ways (d + 1) (i + 1) (g + 1) (p,j,g') (by omega) trivial hr
        dsimp only at a1 a2 a3 a4 a5 a6 a7 ⊢
        have e0 : l ++ [((4,2 * ((g : Int) + 1),0,[]) : Ins)] ++ comp p (n + 1) = l ++ (4,2 * ((g : Int) + 1),0,[]) :: comp p (n + 1) := by simp
        rw [e0] at hW
        have hlc : (l ++ ((4,2 * ((g : Int) + 1),0,[]) : Ins) :: comp p (n + 1)).length = n + 1 + lenP p := by rw [← e0,List.length_append,comp_len,List.length_append,hl]; rfl
        have eM : ∀ J,res Γ 327 [.ptr (r1P s j ((d + 1 : Nat) : Int) 0 g' J),.int .u8 41] = some [.bool (isS2 s j 41)] := fun J => res_more s (by omega) j ((d + 1 : Nat) : Int) 0 g' J 41
        have e2 : at2 s j 41 = isS2 s j 41 := rfl
        rw [e2]
        cases hj : isS2 s j 41
        · rw [hj] at eM
          rw [if_neg Bool.false_ne_true]
          have eB := resM_bad s j ((d + 1 : Nat) : Int) g' 8 (n + 1 + lenP p) (inR (l ++ (4,2 * ((g : Int) + 1),0,[]) :: comp p (n + 1))) (by rw [inR_len,hlc])
          refine ⟨c,j,((d + 1 : Nat) : Int),g',l ++ (4,2 * ((g : Int) + 1),0,[]) :: comp p (n + 1),by omega,resM_code (fn := r11_reader_group) rfl rfl ?_⟩
          rcases c with _ | ⟨f,ys⟩ <;> simp only [r1H] at hW ⊢ <;> rw [hlc] at hW ⊢
          all_goals
            rcases askQ_cases s i with ⟨h1,h2,h3⟩ | ⟨h1,h2,h3⟩ | ⟨h1,h3⟩
          all_goals
            first
            | exact absurd h3 hq
            | (simp (disch := first | assumption | omega | decide | (simp only [lens] <;> omega) | fail) only [go_sem,r11_reader_group,eL,hW,st317,st315,eM,eB,st316]
               rfl)
        · rw [hj] at eM
          rw [if_pos (Eq.refl true)]
          refine ⟨c,resM_code (fn := r11_reader_group) rfl rfl ?_⟩
          have ed : ((d + 1 : Nat) : Int) - 1 = (d : Int) := by omega
          have ec : comp (.grp (g + 1) p) n = (4,2 * ((g : Int) + 1),0,[]) :: (comp p (n + 1) ++ [(4,2 * ((g : Int) + 1) + 1,0,[])]) := by simp only [comp]; rw [if_neg (by omega)]; rfl
          have eL2 : ∀ (J D : Int),resM Γ 2 315 [.bx 0 0,.p (.agg [.int .i64 4,.int .i64 (2 * ((g : Int) + 1) + 1),.int .i64 0,.str []])] [r1I s J D 0 g' 1 (n + 1 + lenP p),.row false 4 (inR (l ++ (4,2 * ((g : Int) + 1),0,[]) :: comp p (n + 1)))] = _ := fun J D => resM_lay s J D 0 g' (n + 1 + lenP p) _ hlc (by omega) 4 (2 * ((g : Int) + 1) + 1) 0 []
          have hle : (l ++ comp (.grp (g + 1) p) n).length = n + 1 + lenP p + 1 := by rw [ec]; simp [comp_len,hl]; omega
          rcases c with _ | ⟨f,ys⟩ <;> simp only [r1H] at hW ⊢ <;> rw [hlc] at hW <;> rw [hle,ec]
          all_goals
            rcases askQ_cases s i with ⟨h1,h2,h3⟩ | ⟨h1,h2,h3⟩ | ⟨h1,h3⟩
          all_goals
            first
            | exact absurd h3 hq
            | (simp (disch := first | assumption | omega | decide | (simp only [lens] <;> omega) | fail) only [go_sem,r11_reader_group,eL,hW,st317,st315,eM,eL2]
               rw [ed]
               rfl)
end Ab
namespace Ab
open Go (IntKind BinOp UnOp)
theorem errC_cases (b : Bool) : errC b = 12 ∨ errC b = 8 := by cases b <;> simp [errC]
set_option maxRecDepth 10000 in
set_option maxHeartbeats 4000000 in
theorem r1_row_l1 (s : List UInt8) (_hs : s.length ≤ 100) (d : Nat) (Q : Out → Prop) : ∀ (n i g : Nat) (c : Gb) (l : List Ins) (m : Nat),l.length = m → m + 2 * (s.length - i) ≤ 1000 → i ≤ s.length → g ≤ i → need (s.length - i) .row ≤ n →
    (∀ k i' g',k < n → i ≤ i' → i' < s.length → g' ≤ i' → need (s.length - i') .piece ≤ k → R1Ok 341 s i' g' d (rd (setS s) s k .piece d i' g')) →
    (match rd (setS s) s n .row d i g with
     | .ok (p,j,g') => ∀ c',Q (.nrm,[],r1H c' s j d 0 g' (l ++ comp p m))
     | .error b => ∀ (c' : Gb) (j d' g' : Int) (l' : List Ins),m ≤ l'.length ∧ l'.length ≤ m + 2 * (s.length - i) → Q (.nrm,[],r1H c' s j d' (errC b) g' l')) →
    ∀ H,norm [0] (some 2) [(0,.bx 0 0)] H = some ([(0,.bx 0 0)],r1H c s i d 0 g l) →
    Wp Γ r11_reader_row_l1 [(0,.bx 0 0)] H (InBlk [] 0 Q) := by
  intro n
  induction n with
  | zero => intro i g c l m _ _ _ _ hn; simp only [need] at hn; omega
  | succ n ih =>
    intro i g c l m hl hm hi hgi hnd hP hQ H hH
    simp only [need] at hnd
    simp only [rd] at hQ
    have hlm : (l.length : Int) = m := by rw [hl]
    by_cases hlt : i < s.length
    · by_cases hc : i < s.length ∧ bt s i ≠ 124 ∧ bt s i ≠ 41
      · rw [if_pos hc] at hQ
        have n1 : ¬ byt s i = 124 := by rw [byt_bt]; omega
        have n2 : ¬ byt s i = 41 := by rw [byt_bt]; omega
        have hP1 := hP n i g (by omega) (Nat.le_refl _) hlt hgi (by simp only [need]; omega) l m hl hm
        cases hr : rd (setS s) s n .piece d i g with
        | error b =>
          rw [hr] at hP1 hQ
          obtain ⟨c1,j,d',g',l',hl',hP1⟩ := hP1
          dsimp only at hQ
          have hQ := fun c' => hQ c' j d' g' l' hl'
          have hb := errC_cases b
          rcases hb with hb | hb <;> rw [hb] at hP1 hQ
          all_goals
            rcases c with _ | ⟨f,ys⟩ <;> rcases c1 with _ | ⟨f1,ys1⟩ <;> simp only [r1H] at hP1 hH
          all_goals
            rw [W_loop (L := r11_reader_row_l1) rfl]
            rw [hH,hl]
            simp (disch := first | assumption | omega | decide | (simp only [lens] <;> omega) | fail) only [go_sem,hP1,st341]
            rw [W_loop (L := r11_reader_row_l1) rfl]
            simp (disch := first | assumption | omega | decide | (simp only [lens] <;> omega) | fail) only [go_sem,norm_k]
            first
            | exact hQ none
            | exact hQ (some (_,_))
        | ok r =>
          obtain ⟨p,j,g'⟩ := r
          rw [hr] at hP1 hQ
          obtain ⟨c1,hP1⟩ := hP1
          obtain ⟨a1,a2,a3,a4,a5,a6,a7⟩ := rd_ok (@setS_lt s) n .piece d i g (p,j,g') hi hlt hr
          have a8 := a7.2
          dsimp only at a1 a2 a3 a4 a5 a6 a8 hQ
          have hlc : (l ++ comp p m).length = m + lenP p := by rw [List.length_append,comp_len,hl]
          have I := ih j g' (match c with | none => c1 | some x => some x) (l ++ comp p m) (m + lenP p) hlc (by omega) (by omega) (by omega) (by simp only [need]; omega) (fun k i' g' hk h1 h2 => hP k i' g' (by omega) (by omega) h2) (by
            cases hr2 : rd (setS s) s n .row d j g' with
            | error b =>
              rw [hr2] at hQ
              intro c' j2 d' g2 l' hl'
              exact hQ c' j2 d' g2 l' (by omega)
            | ok r2 =>
              obtain ⟨q,k,g2⟩ := r2
              rw [hr2] at hQ
              intro c'
              have hQ := hQ c'
              simp only [comp] at hQ
              rw [← List.append_assoc] at hQ
              exact hQ)
          rcases c with _ | ⟨f,ys⟩ <;> rcases c1 with _ | ⟨f1,ys1⟩ <;> simp only [r1H] at hP1 hH I <;> rw [hlc] at hP1 I
          all_goals
            rw [W_loop (L := r11_reader_row_l1) rfl]
            rw [hH,hl]
            simp (disch := first | assumption | omega | decide | (simp only [lens] <;> omega) | fail) only [go_sem,hP1,st341]
            refine I _ ?_
            simp (disch := first | assumption | omega | decide | (simp only [lens] <;> omega) | fail) only [go_sem,norm_k]
      · rw [if_neg hc] at hQ
        dsimp only at hQ
        have hQ := hQ c
        simp only [comp,List.append_nil] at hQ
        by_cases h1 : bt s i = 124
        · have hb : byt s i = 124 := by rw [byt_bt,h1]; rfl
          rcases c with _ | ⟨f,ys⟩ <;> simp only [r1H] at hH hQ
          all_goals
            rw [W_loop (L := r11_reader_row_l1) rfl]
            rw [hH]
            simp (disch := first | assumption | omega | decide | (simp only [lens] <;> omega) | fail) only [go_sem,hb]
            exact hQ
        · have h2 : bt s i = 41 := by
            by_cases h2 : bt s i = 41
            · exact h2
            · exact absurd ⟨hlt,h1,h2⟩ hc
          have hb : byt s i = 41 := by rw [byt_bt,h2]; rfl
          rcases c with _ | ⟨f,ys⟩ <;> simp only [r1H] at hH hQ
          all_goals
            rw [W_loop (L := r11_reader_row_l1) rfl]
            rw [hH]
            simp (disch := first | assumption | omega | decide | (simp only [lens] <;> omega) | fail) only [go_sem,hb]
            exact hQ
    · rw [if_neg (fun h => hlt h.1)] at hQ
      dsimp only at hQ
      have hQ := hQ c
      simp only [comp,List.append_nil] at hQ
      rcases c with _ | ⟨f,ys⟩ <;> simp only [r1H] at hH hQ
      all_goals
        rw [W_loop (L := r11_reader_row_l1) rfl]
        rw [hH]
        simp (disch := first | assumption | omega | decide | (simp only [lens] <;> omega) | fail) only [go_sem]
        exact hQ
set_option maxRecDepth 10000 in
set_option maxHeartbeats 1000000 in
theorem r1_row (s : List UInt8) (hs : s.length ≤ 100) (d n i g : Nat) (hi : i ≤ s.length) (hgi : g ≤ i) (hnd : need (s.length - i) .row ≤ n)
  (hP : ∀ k i' g',k < n → i ≤ i' → i' < s.length → g' ≤ i' → need (s.length - i') .piece ≤ k → R1Ok 341 s i' g' d (rd (setS s) s k .piece d i' g')) : R1Ok 328 s i g d (rd (setS s) s n .row d i g) := by
 intro l m hl hm
 have L := fun Q => r1_row_l1 s hs d Q n i g none l m hl hm hi hgi hnd hP
 simp only [r1H] at L
 rw [hl] at L
 cases hr : rd (setS s) s n .row d i g with
 | error b =>
  rw [hr] at L
  dsimp only at L ⊢
  have := resM_ex (k := 2) (f := 328) (fn := r11_reader_row) (args := [.bx 0 0]) (HL := [r1I s i d 0 g 1 m,.row false 4 (inR l)]) (K := fun r => ∃ (c : Gb) (j d' g' : Int) (l' : List Ins),(m ≤ l'.length ∧ l'.length ≤ m + 2 * (s.length - i)) ∧ r = ([],r1H c s j d' (errC b) g' l')) rfl rfl (by
   simp (disch := first | assumption | omega | decide | (simp only [lens] <;> omega) | fail) only [go_sem,r11_reader_row]
   refine L _ ?_ _ ?_
   ·intro c' j d' g' l' hl'
    rcases c' with _ | ⟨f,ys⟩ <;> simp only [r1H]
    ·simp (disch := first | assumption | omega | decide | (simp only [lens] <;> omega) | fail) only [go_sem]
     refine ⟨([],r1H none s j d' (errC b) g' l'),?_,⟨none,j,d',g',l',hl',rfl⟩⟩
     simp only [r1H]
    ·simp (disch := first | assumption | omega | decide | (simp only [lens] <;> omega) | fail) only [go_sem]
     refine ⟨([],r1H (some (f,ys)) s j d' (errC b) g' l'),?_,⟨some (f,ys),j,d',g',l',hl',rfl⟩⟩
     simp only [r1H]
   ·simp (disch := first | assumption | omega | decide | (simp only [lens] <;> omega) | fail) only [go_sem,norm_k])
  obtain ⟨r,hr,c,j,d',g',l',hl',rfl⟩ := this
  exact ⟨c,j,d',g',l',hl',hr⟩
 | ok r =>
  obtain ⟨p,j,g'⟩ := r
  rw [hr] at L
  dsimp only at L ⊢
  have := resM_ex (k := 2) (f := 328) (fn := r11_reader_row) (args := [.bx 0 0]) (HL := [r1I s i d 0 g 1 m,.row false 4 (inR l)]) (K := fun r => ∃ (c : Gb),r = ([],r1H c s j d 0 g' (l ++ comp p m))) rfl rfl (by
   simp (disch := first | assumption | omega | decide | (simp only [lens] <;> omega) | fail) only [go_sem,r11_reader_row]
   refine L _ ?_ _ ?_
   ·intro c'
    rcases c' with _ | ⟨f,ys⟩ <;> simp only [r1H]
    ·simp (disch := first | assumption | omega | decide | (simp only [lens] <;> omega) | fail) only [go_sem]
     refine ⟨([],r1H none s j d 0 g' (l ++ comp p m)),?_,⟨none,rfl⟩⟩
     simp only [r1H]
    ·simp (disch := first | assumption | omega | decide | (simp only [lens] <;> omega) | fail) only [go_sem]
     refine ⟨([],r1H (some (f,ys)) s j d 0 g' (l ++ comp p m)),?_,⟨some (f,ys),rfl⟩⟩
     simp only [r1H]
   ·simp (disch := first | assumption | omega | decide | (simp only [lens] <;> omega) | fail) only [go_sem,norm_k])
  obtain ⟨r,hr,c,rfl⟩ := this
  exact ⟨c,hr⟩
set_option maxRecDepth 10000 in
set_option maxHeartbeats 8000000 in
theorem r1_ways (s : List UInt8) (hs : s.length ≤ 100) (n i g d : Nat) (hi : i ≤ s.length) (hgi : g ≤ i)
  (hR : R1Ok 328 s i g d (rd (setS s) s n .row d i g)) (hW : ∀ j g',i ≤ j → j < s.length → g' ≤ j → R1Ok 317 s (j + 1) g' d (rd (setS s) s n .ways d (j + 1) g')) : R1Ok 317 s i g d (rd (setS s) s (n + 1) .ways d i g) := by
 intro l m hl hm
 have hR := hR l m hl hm
 simp only [rd]
 cases hr : rd (setS s) s n .row d i g with
 | error b =>
  rw [hr] at hR
  obtain ⟨c,j,d',g',l',hl',hR⟩ := hR
  refine ⟨c,j,d',g',l',hl',resM_code (fn := r11_reader_ways) rfl rfl ?_⟩
  rcases errC_cases b with hb | hb <;> rw [hb] at hR ⊢
  all_goals
   rcases c with _ | ⟨f,ys⟩ <;> simp only [r1H] at hR ⊢
  all_goals
   simp (disch := first | assumption | omega | decide | (simp only [lens] <;> omega) | fail) only [go_sem,r11_reader_ways,hR,st328]
 | ok r =>
  obtain ⟨p,j,g'⟩ := r
  rw [hr] at hR
  obtain ⟨c,hR⟩ := hR
  obtain ⟨a1,a2,a3,a4,a5,a6,a7⟩ := rd_ok (@setS_lt s) n .row d i g (p,j,g') hi trivial hr
  have hgl := rd_gl (@setS_lt s) n .row d i g (p,j,g') hi trivial hr
  dsimp only at a1 a2 a3 a4 a5 a6 a7 hgl hR ⊢
  have hlc : (l ++ comp p m).length = m + lenP p := by rw [List.length_append,comp_len,hl]
  have eM : ∀ J,res Γ 327 [.ptr (r1P s j d 0 g' J),.int .u8 124] = some [.bool (isS2 s j 124)] := fun J => res_more s (by omega) j d 0 g' J 124
  have e2 : at2 s j 124 = isS2 s j 124 := rfl
  cases hj : at2 s j 124
  ·rw [if_neg Bool.false_ne_true]
   rw [← e2,hj] at eM
   refine ⟨c,resM_code (fn := r11_reader_ways) rfl rfl ?_⟩
   rcases c with _ | ⟨f,ys⟩ <;> simp only [r1H] at hR ⊢ <;> rw [hlc] at hR ⊢
   all_goals
    simp (disch := first | assumption | omega | decide | (simp only [lens] <;> omega) | fail) only [go_sem,r11_reader_ways,hR,eM,st328]
  ·rw [if_pos (Eq.refl true)]
   rw [← e2,hj] at eM
   have hjl := (at2_lt hj).1
   have hgl := hgl 100 (by omega)
   have hcx := comp_ok (by omega : 100 ≤ 20000) p m hgl (by omega)
   have hc0 := comp_ok (by omega : 100 ≤ 20000) p 0 hgl (by omega)
   have hop := fine_ok p a6
   have hm1 : mv (-(m : Int)) (comp p m) = comp p 0 := comp_mv p hop m 0 _ (by omega)
   have hm2 : ∀ k : Nat,mv (k : Int) (comp p 0) = comp p k := fun k => comp_mv p hop 0 k _ (by omega)
   have hlen0 : (comp p 0).length = lenP p := comp_len p 0
   have eC : resM Γ 2 326 [.bx 0 0,.p (.int .i64 m)] [r1I s ((j : Int) + 1) d 0 g' 1 (m + lenP p),.row false 4 (inR (l ++ comp p m))] = some ([.p (.sl .any 4 (inR (comp p 0)))],[r1I s ((j : Int) + 1) d 0 g' 2 m,.row true 4 (inR (l ++ comp p m)),.row false 4 (inR l)]) := by
    have := resM_cut s ((j : Int) + 1) d 0 g' (m + lenP p) m l (comp p m) hl hlc (by omega) hcx
    rw [hm1,r1H_s hl] at this
    exact this
   have eL : ∀ (x y : Int),resM Γ 2 315 [.bx 0 0,.p (.agg [.int .i64 2,.int .i64 x,.int .i64 y,.str []])] [r1I s ((j : Int) + 1) d 0 g' 1 m,.row false 4 (inR l)] = _ := fun x y => resM_lay s ((j : Int) + 1) d 0 g' m l hl (by omega) 2 x y []
   have eP : ∀ (x y : Int),resM Γ 2 325 [.bx 0 0,.p (.sl .any 4 (inR (comp p 0)))] [r1I s ((j : Int) + 1) d 0 g' 1 (m + 1),.row false 4 (inR (l ++ [(2,x,y,[])]))] = some ([],[r1I s ((j : Int) + 1) d 0 g' 1 (m + 1 + lenP p),.row false 4 (inR (l ++ (2,x,y,[]) :: comp p (m + 1)))]) := by
    intro x y
    have := resM_put s ((j : Int) + 1) d 0 g' (m + 1) (l ++ [(2,x,y,[])]) (comp p 0) .any (by simp [hl]) (by omega) (by omega) hc0
    rw [hm2,hlen0,List.append_assoc] at this
    exact this
   have hl2 : ∀ x y : Int,(l ++ ((2,x,y,[]) : Ins) :: comp p (m + 1)).length = m + 1 + lenP p := fun x y => by simp [comp_len,hl]; omega
   have eJ : ∀ (x y : Int),resM Γ 2 315 [.bx 0 0,.p (.agg [.int .i64 3,.int .i64 0,.int .i64 0,.str []])] [r1I s ((j : Int) + 1) d 0 g' 1 (m + 1 + lenP p),.row false 4 (inR (l ++ (2,x,y,[]) :: comp p (m + 1)))] = some ([.p (.int .i64 ((m + 1 + lenP p : Nat) : Int))],[r1I s ((j : Int) + 1) d 0 g' 1 (m + 1 + lenP p + 1),.row false 4 (inR (l ++ (2,x,y,[]) :: (comp p (m + 1) ++ [(3,0,0,[])])))]) := by
    intro x y
    have := resM_lay s ((j : Int) + 1) d 0 g' (m + 1 + lenP p) (l ++ (2,x,y,[]) :: comp p (m + 1)) (hl2 x y) (by omega) 3 0 0 []
    rw [List.append_assoc] at this
    exact this
   have hW := fun x y : Int => hW j g' a1 hjl (by omega) (l ++ (2,x,y,[]) :: (comp p (m + 1) ++ [(3,0,0,[])])) (m + 1 + lenP p + 1) (by simp [comp_len,hl]; omega) (by omega)
   cases hr2 : rd (setS s) s n .ways d (j + 1) g' with
   | error b =>
    rw [hr2] at hW
    obtain ⟨c2,j2,d2,g2,l2,hl2',hW⟩ := hW ((m : Int) + 1) ((m : Int) + 2 + lenP p)
    have hW : resM Γ 2 317 [.bx 0 0] [r1I s ((j : Int) + 1) d 0 g' 1 (m + 1 + lenP p + 1),.row false 4 (inR (l ++ (2,(m : Int) + 1,(m : Int) + 2 + lenP p,[]) :: (comp p (m + 1) ++ [(3,0,0,[])])))] = some ([],r1H c2 s j2 d2 (errC b) g2 l2) := hW
    have hd : decide (m + 1 + lenP p < l2.length) = true := decide_eq_true (by omega)
    have hls : ∀ x,(l2.set (m + 1 + lenP p) x).length = l2.length := fun x => List.length_set
    refine ⟨some (c.getD (true,inR (l ++ comp p m))),j2,d2,g2,l2.set (m + 1 + lenP p) (setX (l2.getD (m + 1 + lenP p) (0,0,0,[])) l2.length),by rw [hls]; omega,resM_code (fn := r11_reader_ways) rfl rfl ?_⟩
    rcases c with _ | ⟨f,ys⟩ <;> rcases c2 with _ | ⟨f2,ys2⟩ <;> simp only [r1H,Option.getD] at hR hW ⊢ <;> rw [hls] <;> rw [hlc] at hR
    all_goals
     simp (disch := first | assumption | omega | decide | (simp only [lens] <;> omega) | fail) only [go_sem,r11_reader_ways,hR,eM,eC,eL,eP,eJ,hW,hd,hlen0,st328,st326,st315,st325,st317]
   | ok r2 =>
    obtain ⟨q,k,g2⟩ := r2
    rw [hr2] at hW
    obtain ⟨c2,hW⟩ := hW ((m : Int) + 1) ((m : Int) + 2 + lenP p)
    have hW : resM Γ 2 317 [.bx 0 0] [r1I s ((j : Int) + 1) d 0 g' 1 (m + 1 + lenP p + 1),.row false 4 (inR (l ++ (2,(m : Int) + 1,(m : Int) + 2 + lenP p,[]) :: (comp p (m + 1) ++ [(3,0,0,[])])))] = some ([],r1H c2 s k d 0 g2 (l ++ (2,(m : Int) + 1,(m : Int) + 2 + lenP p,[]) :: (comp p (m + 1) ++ [(3,0,0,[])]) ++ comp q (m + 1 + lenP p + 1))) := hW
    refine ⟨some (c.getD (true,inR (l ++ comp p m))),resM_code (fn := r11_reader_ways) rfl rfl ?_⟩
    have hset := @set_jump (l ++ (2,(m : Int) + 1,(m : Int) + 2 + lenP p,[]) :: comp p (m + 1)) (comp q (m + 1 + lenP p + 1)) (m + 1 + lenP p) (hl2 _ _) ((m + 1 + lenP p + 1 + lenP q : Nat) : Int)
    have e3 : l ++ ((2,(m : Int) + 1,(m : Int) + 2 + lenP p,[]) : Ins) :: (comp p (m + 1) ++ [(3,0,0,[])]) ++ comp q (m + 1 + lenP p + 1) = (l ++ (2,(m : Int) + 1,(m : Int) + 2 + lenP p,[]) :: comp p (m + 1)) ++ (3,0,0,[]) :: comp q (m + 1 + lenP p + 1) := by simp
    have e4 : l ++ comp (.alt p q) m = (l ++ ((2,(m : Int) + 1,(m : Int) + 2 + lenP p,[]) : Ins) :: comp p (m + 1)) ++ (3,((m + 1 + lenP p + 1 + lenP q : Nat) : Int),0,[]) :: comp q (m + 1 + lenP p + 1) := by
     have x1 : ((m + 1 + lenP p + 1 + lenP q : Nat) : Int) = (m : Int) + 2 + lenP p + lenP q := by omega
     have x2 : m + 1 + lenP p + 1 = m + 2 + lenP p := by omega
     rw [x1,x2]
     simp [comp]
    have hL : ((l ++ ((2,(m : Int) + 1,(m : Int) + 2 + lenP p,[]) : Ins) :: comp p (m + 1)) ++ (3,0,0,[]) :: comp q (m + 1 + lenP p + 1)).length = m + 1 + lenP p + 1 + lenP q := by simp [comp_len,hl]; omega
    have hL2 : (l ++ comp (.alt p q) m).length = m + 1 + lenP p + 1 + lenP q := by rw [List.length_append,comp_len,hl]; simp only [lenP]; omega
    have hd : decide (m + 1 + lenP p < m + 1 + lenP p + 1 + lenP q) = true := decide_eq_true (by omega)
    rw [e3] at hW
    rw [← e4] at hset
    generalize (l ++ ((2,(m : Int) + 1,(m : Int) + 2 + lenP p,[]) : Ins) :: comp p (m + 1)) ++ (3,0,0,[]) :: comp q (m + 1 + lenP p + 1) = LL at *
    rcases c with _ | ⟨f,ys⟩ <;> rcases c2 with _ | ⟨f2,ys2⟩ <;> simp only [r1H,Option.getD] at hR hW ⊢ <;> rw [hL2] <;> rw [hL] at hW <;> rw [hlc] at hR
    all_goals
     simp (disch := first | assumption | omega | decide | (simp only [lens] <;> omega) | fail) only [go_sem,r11_reader_ways,hR,eM,eC,eL,eP,eJ,hW,hd,hlen0,st328,st326,st315,st325,st317]
     rw [hset]
def r1F : Md → Nat
 | .ways => 317
 | .row => 328
 | .piece => 341
 | .atom => 353
 | .group => 362
theorem r1_all (s : List UInt8) (hs : s.length ≤ 100) : ∀ (n : Nat) (m : Md) (d i g : Nat),i ≤ s.length → (match m with | .piece => i < s.length | .atom => i < s.length | .group => False | _ => True) → d ≤ 64 → g ≤ i →
  need (s.length - i) m ≤ n → R1Ok (r1F m) s i g d (rd (setS s) s n m d i g) := by
 intro n
 induction n using Nat.strongRecOn with
 | _ n ih =>
  intro m d i g hi hm hd hg hn
  obtain ⟨n,rfl⟩ : ∃ k,n = k + 1 := ⟨n - 1,by cases m <;> simp only [need] at hn <;> omega⟩
  cases m with
  | ways =>
   simp only [need] at hn
   exact r1_ways s hs n i g d hi hg (ih n (by omega) .row d i g hi trivial hd hg (by simp only [need]; omega)) (fun j g' h1 h2 h3 => ih n (by omega) .ways d (j + 1) g' (by omega) trivial hd (by omega) (by simp only [need]; omega))
  | row =>
   simp only [need] at hn
   exact r1_row s hs d (n + 1) i g hi hg (by simp only [need]; omega) (fun k i' g' hk h1 h2 h3 h4 => ih k hk .piece d i' g' (by omega) h2 hd h3 h4)
  | piece =>
   simp only [need] at hn
   exact r1_piece s hs n i g d hm hg (ih n (by omega) .atom d i g hi hm hd hg (by simp only [need]; omega))
  | atom =>
   simp only [need] at hn
   have hm : i < s.length := hm
   refine r1_atom s hs n i g d hm (fun _ => ?_)
   obtain ⟨n,rfl⟩ : ∃ k,n = k + 1 := ⟨n - 1,by omega⟩
   exact r1_group s hs n i g d hm hg (by omega) (fun i' g' h0 h1 h2 h3 => ih n (by omega) .ways (d + 1) i' g' h1 trivial (by omega) h3 (by simp only [need]; omega))
  | group => exact hm.elim
end Ab
namespace Ab
open Go (IntKind BinOp UnOp)
theorem resM_lay0 (s : List UInt8) (i d e g : Int) (o x y : Int) (p : List UInt8) : resM Γ 1 315 [.bx 0 0,.p (.agg [.int .i64 o,.int .i64 x,.int .i64 y,.str p])] [.box [.p (.str s),.p (.int .i64 i),.p (.int .i64 d),.p (.int .i64 e),.p (.int .i64 g),.p (.sl .nil 4 [])]] = some ([.p (.int .i64 0)],[r1I s i d e g 1 1,.row false 4 (inR [(o,x,y,p)])]) := by
 refine resM_code (fn := r11_reader_lay) rfl rfl ?_
 simp (disch := first | assumption | omega | decide | (simp only [lens] <;> omega) | fail) only [go_sem,r11_reader_lay]
 rfl
theorem st315b : stillF Γ 1 315 = true := by kernel_rfl
set_option maxRecDepth 10000 in
set_option maxHeartbeats 4000000 in
theorem res_r11Compile (s : List UInt8) (hs : s.length ≤ 100) : res Γ 309 [.str s] = some (match progS s with | .inl e => [noProg,.int .i64 e] | .inr (g,l) => [prog g l,.int .i64 0]) := by
 have eR := r1_all s hs (need s.length .ways) .ways 0 0 0 (Nat.zero_le _) trivial (by omega) (Nat.le_refl _) (Nat.le_refl _) [(4,0,0,[])] 1 rfl (by omega)
 have eP : rd (setS s) s (need s.length .ways) .ways 0 0 0 = parseS s := rfl
 rw [eP] at eR
 have e0 := resM_lay0 s 0 0 0 0 4 0 0 []
 unfold progS
 cases hp : parseS s with
 | error b =>
  rw [hp] at eR
  obtain ⟨c,j,d',g',l',⟨hl1,hl2⟩,eR⟩ := eR
  have eR : resM Γ 2 317 [.bx 0 0] [r1I s 0 0 0 0 1 1,.row false 4 (inR [(4,0,0,[])])] = some ([],r1H c s j d' (errC b) g' l') := eR
  have e1 : resM Γ 2 315 [.bx 0 0,.p (.agg [.int .i64 4,.int .i64 1,.int .i64 0,.str []])] [r1I s j d' (errC b) g' 1 l'.length,.row false 4 (inR l')] = _ := resM_lay s j d' (errC b) g' l'.length l' rfl (by omega) 4 1 0 []
  have e2 : resM Γ 2 315 [.bx 0 0,.p (.agg [.int .i64 7,.int .i64 0,.int .i64 0,.str []])] [r1I s j d' (errC b) g' 1 (l'.length + 1),.row false 4 (inR (l' ++ [(4,1,0,[])]))] = _ := resM_lay s j d' (errC b) g' (l'.length + 1) (l' ++ [(4,1,0,[])]) (by simp) (by omega) 7 0 0 []
  cases b
  ·have hb : errC false = 8 := rfl
   rw [hb] at eR e1 e2
   rcases c with _ | ⟨f,ys⟩ <;> simp only [r1H] at eR
   all_goals
    refine res_code (fn := r11_Compile) rfl rfl ?_
    simp (disch := first | assumption | omega | decide | (simp only [lens] <;> omega) | fail) only [go_sem,r11_Compile,e0,eR,e1,e2,st317,st315,st315b]
  ·have hb : errC true = 12 := rfl
   rw [hb] at eR e1 e2
   rcases c with _ | ⟨f,ys⟩ <;> simp only [r1H] at eR
   all_goals
    refine res_code (fn := r11_Compile) rfl rfl ?_
    simp (disch := first | assumption | omega | decide | (simp only [lens] <;> omega) | fail) only [go_sem,r11_Compile,e0,eR,e1,e2,st317,st315,st315b]
 | ok r =>
  obtain ⟨p,j,g⟩ := r
  rw [hp] at eR
  obtain ⟨hf,hw,hj,hg,hl,hm⟩ := mu_small hs hp
  obtain ⟨c,eR⟩ := eR
  have hlc : ([((4,0,0,[]) : Ins)] ++ comp p 1).length = 1 + lenP p := by rw [List.length_append,comp_len]; rfl
  have eR : resM Γ 2 317 [.bx 0 0] [r1I s 0 0 0 0 1 1,.row false 4 (inR [(4,0,0,[])])] = some ([],r1H c s j 0 0 g ([(4,0,0,[])] ++ comp p 1)) := eR
  have e1 : ∀ e : Int,resM Γ 2 315 [.bx 0 0,.p (.agg [.int .i64 4,.int .i64 1,.int .i64 0,.str []])] [r1I s j 0 e g 1 (1 + lenP p),.row false 4 (inR ([(4,0,0,[])] ++ comp p 1))] = _ := fun e => resM_lay s j 0 e g (1 + lenP p) _ hlc (by omega) 4 1 0 []
  have e2 : ∀ e : Int,resM Γ 2 315 [.bx 0 0,.p (.agg [.int .i64 7,.int .i64 0,.int .i64 0,.str []])] [r1I s j 0 e g 1 (1 + lenP p + 1),.row false 4 (inR ([(4,0,0,[])] ++ comp p 1 ++ [(4,1,0,[])]))] = _ := fun e => resM_lay s j 0 e g (1 + lenP p + 1) _ (by rw [List.length_append,hlc]; rfl) (by omega) 7 0 0 []
  have eB : resM Γ 2 316 [.bx 0 0,.p (.int .i64 8)] [r1I s j 0 0 g 1 (1 + lenP p),.row false 4 (inR ([(4,0,0,[])] ++ comp p 1))] = _ := resM_bad s j 0 g 8 (1 + lenP p) _ (by rw [inR_len,hlc])
  have e3 : [((4,0,0,[]) : Ins)] ++ comp p 1 ++ [(4,1,0,[])] ++ [(7,0,0,[])] = (4,0,0,[]) :: (comp p 1 ++ [(4,1,0,[]),(7,0,0,[])]) := by simp
  have hl3 : ((4,0,0,[]) :: (comp p 1 ++ [(4,1,0,[]),(7,0,0,[])]) : List Ins).length = 1 + lenP p + 1 + 1 := by simp [comp_len]; omega
  have hl4 : (inR ((4,0,0,[]) :: (comp p 1 ++ [(4,1,0,[]),(7,0,0,[])]) : List Ins)).length = 1 + lenP p + 1 + 1 := by rw [inR_len,hl3]
  rw [e3] at e2
  generalize [((4,0,0,[]) : Ins)] ++ comp p 1 ++ [(4,1,0,[])] = L2 at *
  generalize [((4,0,0,[]) : Ins)] ++ comp p 1 = L1 at *
  dsimp only
  generalize ((4,0,0,[]) :: (comp p 1 ++ [(4,1,0,[]),(7,0,0,[])]) : List Ins) = L3 at *
  by_cases hjs : j < s.length
  ·rw [if_pos hjs]
   rcases c with _ | ⟨f,ys⟩ <;> simp only [r1H] at eR <;> rw [hlc] at eR
   all_goals
    refine res_code (fn := r11_Compile) rfl rfl ?_
    simp (disch := first | assumption | omega | decide | (simp only [lens] <;> omega) | fail) only [go_sem,r11_Compile,e0,eR,e1,e2,eB,st317,st315,st315b,st316]
  ·rw [if_neg hjs]
   rcases c with _ | ⟨f,ys⟩ <;> simp only [r1H] at eR <;> rw [hlc] at eR
   all_goals
    refine res_code (fn := r11_Compile) rfl rfl ?_
    simp (disch := first | assumption | omega | decide | (simp only [lens] <;> omega) | fail) only [go_sem,r11_Compile,e0,eR,e1,e2,st317,st315,st315b]
end Ab
