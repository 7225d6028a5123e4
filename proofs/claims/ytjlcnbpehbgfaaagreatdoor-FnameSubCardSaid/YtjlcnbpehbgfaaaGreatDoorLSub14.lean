import Derived.Test.YtjlcnbpehbgfaaaGreatDoorPRex2
import Derived.Test.YtjlcnbpehbgfaaaGreatDoorAbRel
namespace Ab
open Go (IntKind BinOp UnOp)
abbrev nodeV (op : Int) (p : List UInt8) (ks : PV) (g : Int) (lz : Bool) : PV := .ptr [.int .i64 op,.str p,ks,.int .i64 g,.bool lz]
abbrev nilK : PV := .sl .nil 1 []
abbrev failV : PV := nodeV 10 [] nilK 0 false
theorem resM_fail (s : List UInt8) (i g d : Nat) (b o : Bool) : resM Γ 1 372 [.bx 0 0] [rdB s i g d b o] = some ([.p failV],[rdB s i g d true o]) := by
 refine resM_code (fn := rex_reader_fail) rfl rfl ?_
 simp (disch := first | assumption | omega | decide | (simp only [lens] <;> omega) | fail) only [go_sem,rex_reader_fail]
theorem st372 : stillF Γ 1 372 = true := by kernel_rfl
theorem st373 : stillF Γ 1 373 = true := by kernel_rfl
theorem specB_not {c : Nat} (h : specB c = true) (h1 : c ≠ 40) (h2 : c ≠ 94) (h3 : c ≠ 36) (h4 : c ≠ 46) (h5 : c ≠ 91) (h6 : c ≠ 92) : c = 124 ∨ c = 63 ∨ c = 42 ∨ c = 43 ∨ c = 41 := by
 unfold specB specL at h
 simp at h
 omega
theorem dot_eq : notL (oneL 10) = dotL := rfl
set_option maxRecDepth 10000 in
set_option maxHeartbeats 1000000 in
theorem resM_ratom_set (s : List UInt8) (hs : s.length ≤ 4096) (i g d : Nat) (hi : i < s.length) (h40 : bt s i ≠ 40) (h94 : bt s i ≠ 94) (h36 : bt s i ≠ 36) :
  match setS s i with
  | some (A,j) => resM Γ 1 363 [.bx 0 0] [rdB s i g d false false] = some ([.p (nodeV 1 (pairsB A) nilK 0 false)],[rdB s j g d false false])
  | none => ∃ j : Nat,resM Γ 1 363 [.bx 0 0] [rdB s i g d false false] = some ([.p failV],[rdB s j g d true false]) := by
 have eN := res_now s hs i g d false false hi
 have n40 : ¬ byt s i = 40 := by rw [byt_bt]; omega
 have n94 : ¬ byt s i = 94 := by rw [byt_bt]; omega
 have n36 : ¬ byt s i = 36 := by rw [byt_bt]; omega
 unfold setS
 by_cases h46 : bt s i = 46
 ·rw [if_pos h46]
  have hb : byt s i = 46 := by rw [byt_bt,h46]; rfl
  rw [hb] at eN
  have e1 : res Γ 368 [.int .u8 10] = some [setP (oneL 10)] := res_one 10 (by omega)
  have e2 := res_not (oneL 10) oneL_len
  have e3 : res Γ 369 [setP (notL (oneL 10))] = _ := res_rex_set_pairs (notL (oneL 10)) (by rw [dot_eq]; exact dotL_len)
  refine resM_code (fn := rex_reader_atom) rfl rfl ?_
  simp (disch := first | assumption | omega | decide | (simp only [lens] <;> omega) | fail) only [go_sem,rex_reader_atom,eN,e1,e2,e3]
  rfl
 ·have n46 : ¬ byt s i = 46 := by rw [byt_bt]; omega
  rw [if_neg h46]
  by_cases h91 : bt s i = 91
  ·rw [if_pos h91]
   have hb : byt s i = 91 := by rw [byt_bt,h91]; rfl
   rw [hb] at eN
   have eC := resM_rclass s hs (i + 1) g d (by omega) false false
   cases hc : classT s (i + 1) with
   | none =>
    rw [hc] at eC
    obtain ⟨A,j,hA,eC⟩ := eC
    have eC : resM Γ 1 373 [.bx 0 0] [rdI s ((i : Int) + 1) g d false false] = some ([.p (setP A),.p (.bool false)],[rdB s j g d false false]) := eC
    have hAb : (bools A).length = 256 := by rw [bools_len,hA]
    have hz : (bools noneL).length = 256 := by rw [bools_len,noneL_len]
    have eF := resM_fail s j g d false false
    refine ⟨j,resM_code (fn := rex_reader_atom) rfl rfl ?_⟩
    simp (disch := first | assumption | omega | decide | (simp only [lens] <;> omega) | fail) only [go_sem,rex_reader_atom,eN,eC,eF,st372,st373]
   | some r =>
    obtain ⟨A,j⟩ := r
    rw [hc] at eC
    obtain ⟨hA,eC⟩ := eC
    have eC : resM Γ 1 373 [.bx 0 0] [rdI s ((i : Int) + 1) g d false false] = some ([.p (setP A),.p (.bool true)],[rdB s j g d false false]) := eC
    have hAb : (bools A).length = 256 := by rw [bools_len,hA]
    have hz : (bools noneL).length = 256 := by rw [bools_len,noneL_len]
    have eP := res_rex_set_pairs A hA
    refine resM_code (fn := rex_reader_atom) rfl rfl ?_
    simp (disch := first | assumption | omega | decide | (simp only [lens] <;> omega) | fail) only [go_sem,rex_reader_atom,eN,eC,eP,st373]
  ·have n91 : ¬ byt s i = 91 := by rw [byt_bt]; omega
   rw [if_neg h91]
   by_cases h92 : bt s i = 92
   ·rw [if_pos h92]
    have hb : byt s i = 92 := by rw [byt_bt,h92]; rfl
    rw [hb] at eN
    have eE : resM Γ 1 374 [.bx 0 0] [rdI s ((i : Int) + 1) g d false false] = _ := resM_escaped s hs (i + 1) g d false false
    have hz : (bools noneL).length = 256 := by rw [bools_len,noneL_len]
    unfold itemS
    rw [if_neg (by omega),if_pos h92]
    unfold escR at eE
    by_cases h1 : s.length ≤ i + 1
    ·rw [if_pos h1] at eE
     rw [if_pos h1]
     have eF := resM_fail s (i + 1) g d false false
     refine ⟨i + 1,resM_code (fn := rex_reader_atom) rfl rfl ?_⟩
     simp (disch := first | assumption | omega | decide | (simp only [lens] <;> omega) | fail) only [go_sem,rex_reader_atom,eN,eE,eF,st372,st374]
    ·rw [if_neg h1] at eE
     rw [if_neg h1]
     cases h6 : sixB (bt s (i + 1))
     ·rw [h6,if_neg Bool.false_ne_true] at eE
      rw [if_neg Bool.false_ne_true]
      cases hw : wordN (bt s (i + 1))
      ·rw [hw] at eE
       rw [if_neg Bool.false_ne_true]
       have ho : (bools (oneL (bt s (i + 1)))).length = 256 := by rw [bools_len,oneL_len]
       have eP := res_rex_set_pairs (oneL (bt s (i + 1))) oneL_len
       refine resM_code (fn := rex_reader_atom) rfl rfl ?_
       simp (disch := first | assumption | omega | decide | (simp only [lens] <;> omega) | fail) only [go_sem,rex_reader_atom,eN,eE,eP,st374,Bool.not_false]
      ·rw [hw] at eE
       rw [if_pos (Eq.refl true)]
       have ho : (bools (oneL (bt s (i + 1)))).length = 256 := by rw [bools_len,oneL_len]
       have eF := resM_fail s (i + 1 + 1) g d false false
       refine ⟨i + 1 + 1,resM_code (fn := rex_reader_atom) rfl rfl ?_⟩
       simp (disch := first | assumption | omega | decide | (simp only [lens] <;> omega) | fail) only [go_sem,rex_reader_atom,eN,eE,eF,st372,st374,Bool.not_true]
     ·rw [h6,if_pos (Eq.refl true)] at eE
      rw [if_pos (Eq.refl true)]
      have h6l : (bools (sixL (bt s (i + 1)))).length = 256 := by rw [bools_len,sixL_len]
      have eP := res_rex_set_pairs (sixL (bt s (i + 1))) sixL_len
      refine resM_code (fn := rex_reader_atom) rfl rfl ?_
      simp (disch := first | assumption | omega | decide | (simp only [lens] <;> omega) | fail) only [go_sem,rex_reader_atom,eN,eE,eP,st374]
   ·have n92 : ¬ byt s i = 92 := by rw [byt_bt]; omega
    rw [if_neg h92]
    cases hp : specB (bt s i)
    ·rw [if_neg Bool.false_ne_true]
     have ns : ∀ c ∈ [124,63,42,43,41],¬ bt s i = c := by
      intro c hc e
      rw [e] at hp
      simp only [List.mem_cons,List.not_mem_nil,or_false] at hc
      rcases hc with rfl | rfl | rfl | rfl | rfl <;> simp [specB,specL] at hp
     have m1 : ¬ byt s i = 124 := by have := ns 124 (by simp); rw [byt_bt]; omega
     have m2 : ¬ byt s i = 63 := by have := ns 63 (by simp); rw [byt_bt]; omega
     have m3 : ¬ byt s i = 42 := by have := ns 42 (by simp); rw [byt_bt]; omega
     have m4 : ¬ byt s i = 43 := by have := ns 43 (by simp); rw [byt_bt]; omega
     have m5 : ¬ byt s i = 41 := by have := ns 41 (by simp); rw [byt_bt]; omega
     have e1 : res Γ 368 [.int .u8 (byt s i)] = _ := res_one (bt s i) bt_lt
     have e3 := res_rex_set_pairs (oneL (bt s i)) oneL_len
     refine resM_code (fn := rex_reader_atom) rfl rfl ?_
     simp (disch := first | assumption | omega | decide | (simp only [lens] <;> omega) | fail) only [go_sem,rex_reader_atom,eN,e1,e3]
     rfl
    ·rw [if_pos (Eq.refl true)]
     have hq := specB_not hp h40 h94 h36 h46 h91 h92
     have eF : resM Γ 1 372 [.bx 0 0] [rdI s ((i : Int) + 1) g d false false] = _ := resM_fail s (i + 1) g d false false
     refine ⟨i + 1,?_⟩
     rcases hq with h | h | h | h | h
     all_goals
      have hb : byt s i = ((bt s i : Nat) : Int) := byt_bt
      rw [h] at hb
      rw [hb] at eN
      refine resM_code (fn := rex_reader_atom) rfl rfl ?_
      simp (disch := first | assumption | omega | decide | (simp only [lens] <;> omega) | fail) only [go_sem,rex_reader_atom,eN,eF,st372]
end Ab
namespace Ab
open Go (IntKind BinOp UnOp)
abbrev ksV (ks : List PV) : PV := .sl .any 1 ks
def tri : Pc → PV × List PV × List PV
 | .inst op p => (nodeV op p nilK 0 false,[],[nodeV op p nilK 0 false])
 | .nil => (nodeV 10 [] nilK 0 false,[],[nodeV 10 [] nilK 0 false])
 | .cons a r => (nodeV 10 [] (ksV ((tri a).1 :: (tri r).2.1)) 0 false,(tri a).1 :: (tri r).2.1,[nodeV 10 [] (ksV ((tri a).1 :: (tri r).2.1)) 0 false])
 | .alt a r => (nodeV 11 [] (ksV ((tri a).1 :: (tri r).2.2)) 0 false,[],(tri a).1 :: (tri r).2.2)
 | .grp g k => (nodeV 12 [] (.sl .tight 1 [(tri k).1]) g false,[],[nodeV 12 [] (.sl .tight 1 [(tri k).1]) g false])
 | .rep c lz k => (nodeV c [] (.sl .tight 1 [(tri k).1]) 0 lz,[],[nodeV c [] (.sl .tight 1 [(tri k).1]) 0 lz])
abbrev trP (p : Pc) : PV := (tri p).1
theorem tri_ptr : ∀ (p : Pc),∃ cs,(tri p).1 = .ptr cs := fun p => by cases p <;> exact ⟨_,rfl⟩
def RxOk (f : Nat) (s : List UInt8) (i g d : Nat) : PR → Prop
 | .ok (p,j,g') => resM Γ 1 f [.bx 0 0] [rdB s i g d false false] = some ([.p (trP p)],[rdB s j g' d false false])
 | .error b => ∃ (v : List PV) (j g' d' : Nat),resM Γ 1 f [.bx 0 0] [rdB s i g d false false] = some ([.p (.ptr v)],[rdB s j g' d' true b])
set_option maxRecDepth 10000 in
theorem rx_atom (s : List UInt8) (hs : s.length ≤ 4096) (n i g d : Nat) (hi : i < s.length) (st : stillF Γ 1 370 = true)
  (hG : bt s i = 40 → RxOk 370 s (i + 1) g d (rd (setS s) s n .group d (i + 1) g)) : RxOk 363 s i g d (rd (setS s) s (n + 1) .atom d i g) := by
 have eN := res_now s hs i g d false false hi
 simp only [rd]
 by_cases h40 : bt s i = 40
 ·rw [if_pos h40]
  have hb : byt s i = 40 := by rw [byt_bt,h40]; rfl
  rw [hb] at eN
  have hG := hG h40
  cases hr : rd (setS s) s n .group d (i + 1) g with
  | error b =>
   rw [hr] at hG
   obtain ⟨v,j,g',d',hG⟩ := hG
   have hG : resM Γ 1 370 [.bx 0 0] [rdI s ((i : Int) + 1) g d false false] = some ([.p (.ptr v)],[rdB s j g' d' true b]) := hG
   refine ⟨v,j,g',d',resM_code (fn := rex_reader_atom) rfl rfl ?_⟩
   simp (disch := first | assumption | omega | decide | (simp only [lens] <;> omega) | fail) only [go_sem,rex_reader_atom,eN,hG,st]
  | ok r =>
   obtain ⟨p,j,g'⟩ := r
   rw [hr] at hG
   have hG : resM Γ 1 370 [.bx 0 0] [rdI s ((i : Int) + 1) g d false false] = some ([.p (trP p)],[rdB s j g' d false false]) := hG
   refine resM_code (fn := rex_reader_atom) rfl rfl ?_
   simp (disch := first | assumption | omega | decide | (simp only [lens] <;> omega) | fail) only [go_sem,rex_reader_atom,eN,hG,st]
 ·rw [if_neg h40]
  have n40 : ¬ byt s i = 40 := by rw [byt_bt]; omega
  by_cases h94 : bt s i = 94
  ·rw [if_pos h94]
   have hb : byt s i = 94 := by rw [byt_bt,h94]; rfl
   rw [hb] at eN
   refine resM_code (fn := rex_reader_atom) rfl rfl ?_
   simp (disch := first | assumption | omega | decide | (simp only [lens] <;> omega) | fail) only [go_sem,rex_reader_atom,eN]
   rfl
  ·rw [if_neg h94]
   by_cases h36 : bt s i = 36
   ·rw [if_pos h36]
    have hb : byt s i = 36 := by rw [byt_bt,h36]; rfl
    rw [hb] at eN
    refine resM_code (fn := rex_reader_atom) rfl rfl ?_
    simp (disch := first | assumption | omega | decide | (simp only [lens] <;> omega) | fail) only [go_sem,rex_reader_atom,eN]
    rfl
   ·rw [if_neg h36]
    have e := resM_ratom_set s hs i g d hi h40 h94 h36
    cases hr : setS s i with
    | none =>
     rw [hr] at e
     obtain ⟨j,e⟩ := e
     exact ⟨_,j,g,d,e⟩
    | some r =>
     obtain ⟨A,j⟩ := r
     rw [hr] at e
     exact e
theorem st363 : stillF Γ 1 363 = true := by kernel_rfl
theorem st354 : stillF Γ 1 354 = true := by kernel_rfl
theorem st343 : stillF Γ 1 343 = true := by kernel_rfl
theorem st335 : stillF Γ 1 335 = true := by kernel_rfl
theorem st370 : stillF Γ 1 370 = true := by kernel_rfl
set_option maxRecDepth 10000 in
theorem rx_piece (s : List UInt8) (hs : s.length ≤ 4096) (n i g d : Nat)
  (hA : RxOk 363 s i g d (rd (setS s) s n .atom d i g)) : RxOk 354 s i g d (rd (setS s) s (n + 1) .piece d i g) := by
 simp only [rd]
 cases hr : rd (setS s) s n .atom d i g with
 | error b =>
  rw [hr] at hA
  obtain ⟨v,j,g',d',hA⟩ := hA
  refine ⟨v,j,g',d',resM_code (fn := rex_reader_piece) rfl rfl ?_⟩
  by_cases hj : j < s.length
  ·have eN := res_now s hs j g' d' true b hj
   simp (disch := first | assumption | omega | decide | (simp only [lens] <;> omega) | fail) only [go_sem,rex_reader_piece,eN,hA,st363]
  ·have eN := res_now_end s hs j g' d' true b (by omega)
   simp (disch := first | assumption | omega | decide | (simp only [lens] <;> omega) | fail) only [go_sem,rex_reader_piece,eN,hA,st363]
 | ok r =>
  obtain ⟨p,j,g'⟩ := r
  rw [hr] at hA
  have hA : resM Γ 1 363 [.bx 0 0] [rdB s i g d false false] = some ([.p (trP p)],[rdB s j g' d false false]) := hA
  dsimp only
  by_cases hj : j < s.length
  ·have eN := res_now s hs j g' d false false hj
   by_cases hc : bt s j = 42 ∨ bt s j = 43 ∨ bt s j = 63
   ·rw [if_pos ⟨hj,hc⟩]
    have eT : resM Γ 1 344 [.bx 0 0,.p (.int .u8 63)] [rdI s ((j : Int) + 1) g' d false false] = some ([.p (.bool (isS2 s (j + 1) 63))],[rdB s (if isS2 s (j + 1) 63 = true then j + 1 + 1 else j + 1) g' d false false]) := resM_takes s hs (j + 1) g' d false false 63
    have e2 : at2 s (j + 1) 63 = isS2 s (j + 1) 63 := rfl
    rw [e2]
    have hb : byt s j = ((bt s j : Nat) : Int) := byt_bt
    show resM Γ 1 354 [.bx 0 0] [rdB s i g d false false] = some ([.p (nodeV (bt s j) [] (.sl .tight 1 [(tri p).1]) 0 (isS2 s (j + 1) 63))],[rdB s (if isS2 s (j + 1) 63 = true then j + 2 else j + 1) g' d false false])
    obtain ⟨cs,hcs⟩ := tri_ptr p
    rw [show trP p = .ptr cs from hcs] at hA
    rw [hcs]
    have e3 : ((bt s j : Nat) : Int) ≤ 255 := by have := @bt_lt s j; omega
    rcases hc with h | h | h
    all_goals
     rw [h] at hb e3 ⊢
     rw [hb] at eN
     refine resM_code (fn := rex_reader_piece) rfl rfl ?_
     simp (disch := first | assumption | omega | decide | (simp only [lens] <;> omega) | fail) only [go_sem,rex_reader_piece,eN,hA,st363,eT,st344]
   ·rw [if_neg (fun h => hc h.2)]
    have n1 : ¬ byt s j = 42 := by rw [byt_bt]; omega
    have n2 : ¬ byt s j = 43 := by rw [byt_bt]; omega
    have n3 : ¬ byt s j = 63 := by rw [byt_bt]; omega
    refine resM_code (fn := rex_reader_piece) rfl rfl ?_
    simp (disch := first | assumption | omega | decide | (simp only [lens] <;> omega) | fail) only [go_sem,rex_reader_piece,eN,hA,st363]
  ·rw [if_neg (fun h => hj h.1)]
   have eN := res_now_end s hs j g' d false false (by omega)
   refine resM_code (fn := rex_reader_piece) rfl rfl ?_
   simp (disch := first | assumption | omega | decide | (simp only [lens] <;> omega) | fail) only [go_sem,rex_reader_piece,eN,hA,st363]
end Ab
namespace Ab
section
variable {Γ : Ctx} {env : Env} {H : Heap} {live : List Nat} {Q : Out → Prop} {r : List St} {dst : Option Nat}
theorem L_pq_nilchk {x} : WpL Γ (⟨dst,none,.inr (.pureq (.nilchk x))⟩ :: r) env H live Q ↔ opX Γ (pqR H (nilchkA [] (Arg.ev Γ (look env) x))) dst r env live Q := L_pq rfl
theorem loadk_bx {sz ag id off o'} : loadkA H sz ag (.bx id off) (.bx id o') = loadA H sz ag (.bx id off) := if_pos rfl
theorem storek_bx {sz id off v ks} : storekA H sz (.bx id off) v ks = ifB (keptA H [id] ks) (storeA H sz (.bx id off) v) := rfl
theorem kept_nil {L} : keptA H L [] = true := rfl
theorem kept_bx {L id o ks} : keptA H L (.bx id o :: ks) = (decide (id < H.length) && !L.contains id && keptA H L ks) := rfl
def kpK (H : Heap) (args ks : List AV) : Option (Nat × List AV) → Bool
 | some fc => keptA H (reach H 64 ((args ++ fc.2).flatMap AV.refs) []) ks
 | none => false
theorem kpK_some {f caps args ks} : kpK H args ks (some (f,caps)) = keptA H (reach H 64 ((args ++ caps).flatMap AV.refs) []) ks := rfl
def kpO (b : Bool) (p : Prop) : Prop := b = true ∧ p
theorem kpO_t {p : Prop} : kpO true p ↔ p := by simp [kpO]
theorem L_callk {f args ks} : WpL Γ (⟨dst,none,.inr (.callk f args ks)⟩ :: r) env H live Q ↔
  kpO (kpK H (args.map (Arg.ev Γ (look env))) (ks.map (Arg.ev Γ (look env))) (callee (Arg.ev Γ (look env) f))) (WpL Γ (⟨dst,none,.inr (.calls f args)⟩ :: r) env H live Q) := by
 rw [L_of,L_of]
 unfold WpO
 have e : ∀ n,evX Γ (callOf Γ (ev Γ n)) (look env) H (.callk f args ks) = ifB (kpK H (args.map (Arg.ev Γ (look env))) (ks.map (Arg.ev Γ (look env))) (callee (Arg.ev Γ (look env) f))) (evX Γ (callOf Γ (ev Γ n)) (look env) H (.calls f args)) := by
  intro n
  simp only [evX,callkA]
  cases callee (Arg.ev Γ (look env) f) with
  | none => rfl
  | some fc =>
   show ((ifB (keptA H _ _) _).map _) = _
   simp only [kpK]
   cases keptA H (reach H 64 ((args.map (Arg.ev Γ (look env)) ++ fc.2).flatMap AV.refs) []) (ks.map (Arg.ev Γ (look env))) <;> rfl
 cases hb : kpK H (args.map (Arg.ev Γ (look env))) (ks.map (Arg.ev Γ (look env))) (callee (Arg.ev Γ (look env) f))
 ·simp only [e,hb,kpO,ifB_f,optP_none,exists_false,false_iff]
  rintro ⟨h,_⟩
  cases h
 ·simp only [e,hb,kpO_t,ifB_t]
end
attribute [go_sem] L_pq_nilchk loadk_bx storek_bx kept_nil kept_bx kpK_some kpO_t L_callk L_loadk L_storek
end Ab
namespace Ab
open Go (IntKind BinOp UnOp)
def preB (t p : List UInt8) : Bool := decide (p.length ≤ t.length) && decide (t.take p.length = p)
theorem res_prefix0 (t p : List UInt8) (_ht : t.length ≤ 4096) (hp : p.length ≤ 4096) : res Γ 386 [.str t,.str p] = some [.bool (preB t p)] := by
 unfold preB
 by_cases h : p.length ≤ t.length
 ·rw [decide_eq_true h,Bool.true_and]
  refine res_code (fn := internal_stringslite_HasPrefix) rfl rfl ?_
  simp (disch := first | assumption | omega | decide | (simp only [lens] <;> omega) | fail) only [go_sem,internal_stringslite_HasPrefix]
 ·rw [decide_eq_false h,Bool.false_and]
  refine res_code (fn := internal_stringslite_HasPrefix) rfl rfl ?_
  simp (disch := first | assumption | omega | decide | (simp only [lens] <;> omega) | fail) only [go_sem,internal_stringslite_HasPrefix]
theorem res_prefix (t p : List UInt8) (ht : t.length ≤ 4096) (hp : p.length ≤ 4096) : res Γ 385 [.str t,.str p] = some [.bool (preB t p)] := by
 have e := res_prefix0 t p ht hp
 refine res_code (fn := strings_HasPrefix) rfl rfl ?_
 simp (disch := first | assumption | omega | decide | (simp only [lens] <;> omega) | fail) only [go_sem,strings_HasPrefix,e]
theorem get_bt {s : List UInt8} {i c : Nat} (h : i < s.length) (hc : c < 256) : s[i] = UInt8.ofNat c ↔ bt s i = c := by
 unfold bt
 rw [List.getD_eq_getElem?_getD,List.getElem?_eq_getElem h,Option.getD_some]
 constructor
 ·intro e
  rw [e,UInt8.toNat_ofNat']
  omega
 ·intro e
  rw [← e,UInt8.ofNat_toNat]
theorem pre_q (s : List UInt8) (i : Nat) : (s.drop i).take 2 = [63,58] ↔ (at2 s i 63 = true ∧ at2 s (i + 1) 58 = true) := by
 unfold at2
 rw [Bool.and_eq_true,Bool.and_eq_true,decide_eq_true_eq,decide_eq_true_eq,decide_eq_true_eq,decide_eq_true_eq]
 by_cases h : i + 1 < s.length
 ·have h1 := @get_bt s i 63 (by omega) (by omega)
  have h2 := @get_bt s (i + 1) 58 h (by omega)
  rw [List.drop_eq_getElem_cons (by omega),List.drop_eq_getElem_cons h]
  simp only [List.take_succ_cons,List.take_zero,List.cons.injEq,and_true]
  rw [← h1,← h2]
  constructor
  ·intro ⟨a,b⟩; exact ⟨⟨by omega,a⟩,⟨h,b⟩⟩
  ·intro ⟨a,b⟩; exact ⟨a.2,b.2⟩
 ·constructor
  ·intro e
   have := congrArg List.length e
   simp at this
   omega
  ·intro ⟨_,b⟩; exact absurd b.1 h
theorem preB_q {s : List UInt8} {i : Nat} : preB (s.drop i) [63,58] = (at2 s i 63 && at2 s (i + 1) 58) := by
 have h := pre_q s i
 cases hb : (at2 s i 63 && at2 s (i + 1) 58)
 ·have : ¬ ((s.drop i).take 2 = [63,58]) := by
   rw [h]
   intro ⟨a,b⟩
   rw [a,b] at hb
   cases hb
  unfold preB
  rw [show decide (List.take [(63 : UInt8),58].length (s.drop i) = [63,58]) = false from decide_eq_false this,Bool.and_false]
 ·rw [Bool.and_eq_true] at hb
  have e := h.2 hb
  have hl := congrArg List.length e
  have : [(63 : UInt8),58].length ≤ (s.drop i).length := by
   rw [List.length_take] at hl
   show 2 ≤ _
   simp only [List.length_cons,List.length_nil] at hl
   omega
  unfold preB
  rw [decide_eq_true this,show decide (List.take [(63 : UInt8),58].length (s.drop i) = [63,58]) = true from decide_eq_true e]
  rfl
set_option maxRecDepth 10000 in
set_option maxHeartbeats 1000000 in
theorem rx_group (s : List UInt8) (hs : s.length ≤ 4096) (n i g d : Nat) (hi : i ≤ s.length) (hg : g ≤ 5000) (hd2 : d ≤ 1000) (hgi : g + 1 ≤ i)
  (hset : ∀ i A j,i < s.length → setS s i = some (A,j) → i < j ∧ j ≤ s.length)
  (hW : ∀ (i' g' : Nat),d < 64 → i' ≤ s.length → i ≤ i' → g' ≤ i' → RxOk 335 s i' g' (d + 1) (rd (setS s) s n .ways (d + 1) i' g')) : RxOk 370 s i g d (rd (setS s) s (n + 1) .group d i g) := by
 simp only [rd]
 by_cases hd : 64 ≤ d
 ·rw [if_pos hd]
  have eF : resM Γ 1 372 [.bx 0 0] [.box [.p (.str s),.p (.int .i64 (i : Int)),.p (.int .i64 (g : Int)),.p (.int .i64 ((d : Int) + 1)),.p (.bool false),.p (.bool true)]] = _ := resM_fail s i g (d + 1) false true
  refine ⟨[.int .i64 10,.str [],nilK,.int .i64 0,.bool false],i,g,d + 1,resM_code (fn := rex_reader_group) rfl rfl ?_⟩
  simp (disch := first | assumption | omega | decide | (simp only [lens] <;> omega) | fail) only [go_sem,rex_reader_group,eF,st372]
 ·rw [if_neg hd]
  have eP : res Γ 385 [.str (s.drop i),.str [63,58]] = some [.bool (preB (s.drop i) [63,58])] := res_prefix (s.drop i) [63,58] (by rw [List.length_drop]; omega) (by simp)
  rw [preB_q] at eP
  by_cases hq : at2 s i 63 = true ∧ at2 s (i + 1) 58 = true
  ·rw [if_pos hq]
   rw [hq.1,hq.2] at eP
   have h1 := at2_lt hq.2
   have hW := hW (i + 2) g (by omega) (by omega) (by omega) (by omega)
   cases hr : rd (setS s) s n .ways (d + 1) (i + 2) g with
   | error b =>
    rw [hr] at hW
    obtain ⟨v,j,g',d',hW⟩ := hW
    have hW : resM Γ 1 335 [.bx 0 0] [.box [.p (.str s),.p (.int .i64 ((i : Int) + 2)),.p (.int .i64 (g : Int)),.p (.int .i64 ((d : Int) + 1)),.p (.bool false),.p (.bool false)]] = some ([.p (.ptr v)],[rdB s j g' d' true b]) := hW
    have eF := resM_fail s j g' d' true b
    refine ⟨[.int .i64 10,.str [],nilK,.int .i64 0,.bool false],j,g',d',resM_code (fn := rex_reader_group) rfl rfl ?_⟩
    simp (disch := first | assumption | omega | decide | (simp only [lens] <;> omega) | fail) only [go_sem,rex_reader_group,eP,hW,eF,st372,st335]
   | ok r =>
    obtain ⟨p,j,g'⟩ := r
    rw [hr] at hW
    obtain ⟨cs,hcs⟩ := tri_ptr p
    have hok := rd_ok hset n .ways (d + 1) (i + 2) g (p,j,g') (by omega) trivial hr
    have hW : resM Γ 1 335 [.bx 0 0] [.box [.p (.str s),.p (.int .i64 ((i : Int) + 2)),.p (.int .i64 (g : Int)),.p (.int .i64 ((d : Int) + 1)),.p (.bool false),.p (.bool false)]] = some ([.p (trP p)],[rdB s j g' (d + 1) false false]) := hW
    rw [show trP p = .ptr cs from hcs] at hW
    have eT : resM Γ 1 344 [.bx 0 0,.p (.int .u8 41)] [rdB s j g' (d + 1) false false] = _ := resM_takes s hs j g' (d + 1) false false 41
    have e2 : at2 s j 41 = isS2 s j 41 := rfl
    dsimp only
    rw [e2]
    cases hj : isS2 s j 41
    ·rw [hj] at eT
     have eF := resM_fail s j g' (d + 1) false false
     rw [if_neg Bool.false_ne_true]
     refine ⟨[.int .i64 10,.str [],nilK,.int .i64 0,.bool false],j,g',d + 1,resM_code (fn := rex_reader_group) rfl rfl ?_⟩
     simp (disch := first | assumption | omega | decide | (simp only [lens] <;> omega) | fail) only [go_sem,rex_reader_group,eP,hW,eF,st372,st335,eT,st344]
    ·rw [hj] at eT
     rw [if_pos (Eq.refl true)]
     show resM Γ 1 370 [.bx 0 0] [rdB s i g d false false] = some ([.p (nodeV 12 [] (.sl .tight 1 [(tri p).1]) 0 false)],[rdB s (j + 1) g' d false false])
     rw [hcs]
     refine resM_code (fn := rex_reader_group) rfl rfl ?_
     simp (disch := first | assumption | omega | decide | (simp only [lens] <;> omega) | fail) only [go_sem,rex_reader_group,eP,hW,st335,eT,st344]
     rw [show ((d + 1 : Nat) : Int) - 1 = (d : Int) by omega]
  ·rw [if_neg hq]
   rw [show (at2 s i 63 && at2 s (i + 1) 58) = false by rw [Bool.and_eq_false_iff]; by_cases h : at2 s i 63 = true <;> simp_all] at eP
   have hW := hW i (g + 1) (by omega) hi (by omega) (by omega)
   cases hr : rd (setS s) s n .ways (d + 1) i (g + 1) with
   | error b =>
    rw [hr] at hW
    obtain ⟨v,j,g',d',hW⟩ := hW
    have hW : resM Γ 1 335 [.bx 0 0] [.box [.p (.str s),.p (.int .i64 (i : Int)),.p (.int .i64 ((g : Int) + 1)),.p (.int .i64 ((d : Int) + 1)),.p (.bool false),.p (.bool false)]] = some ([.p (.ptr v)],[rdB s j g' d' true b]) := hW
    have eF := resM_fail s j g' d' true b
    refine ⟨[.int .i64 10,.str [],nilK,.int .i64 0,.bool false],j,g',d',resM_code (fn := rex_reader_group) rfl rfl ?_⟩
    simp (disch := first | assumption | omega | decide | (simp only [lens] <;> omega) | fail) only [go_sem,rex_reader_group,eP,hW,eF,st372,st335]
   | ok r =>
    obtain ⟨p,j,g'⟩ := r
    rw [hr] at hW
    obtain ⟨cs,hcs⟩ := tri_ptr p
    have hok := rd_ok hset n .ways (d + 1) i (g + 1) (p,j,g') (by omega) trivial hr
    have hW : resM Γ 1 335 [.bx 0 0] [.box [.p (.str s),.p (.int .i64 (i : Int)),.p (.int .i64 ((g : Int) + 1)),.p (.int .i64 ((d : Int) + 1)),.p (.bool false),.p (.bool false)]] = some ([.p (trP p)],[rdB s j g' (d + 1) false false]) := hW
    rw [show trP p = .ptr cs from hcs] at hW
    have eT : resM Γ 1 344 [.bx 0 0,.p (.int .u8 41)] [rdB s j g' (d + 1) false false] = _ := resM_takes s hs j g' (d + 1) false false 41
    have e2 : at2 s j 41 = isS2 s j 41 := rfl
    dsimp only
    rw [e2]
    cases hj : isS2 s j 41
    ·rw [hj] at eT
     have eF := resM_fail s j g' (d + 1) false false
     rw [if_neg Bool.false_ne_true]
     refine ⟨[.int .i64 10,.str [],nilK,.int .i64 0,.bool false],j,g',d + 1,resM_code (fn := rex_reader_group) rfl rfl ?_⟩
     simp (disch := first | assumption | omega | decide | (simp only [lens] <;> omega) | fail) only [go_sem,rex_reader_group,eP,hW,eF,st372,st335,eT,st344]
    ·rw [hj] at eT
     rw [if_pos (Eq.refl true)]
     show resM Γ 1 370 [.bx 0 0] [rdB s i g d false false] = some ([.p (nodeV 12 [] (.sl .tight 1 [(tri p).1]) ((g : Int) + 1) false)],[rdB s (j + 1) g' d false false])
     rw [hcs]
     refine resM_code (fn := rex_reader_group) rfl rfl ?_
     simp (disch := first | assumption | omega | decide | (simp only [lens] <;> omega) | fail) only [go_sem,rex_reader_group,eP,hW,st335,eT,st344]
     rw [show ((d + 1 : Nat) : Int) - 1 = (d : Int) by omega]
abbrev pcB (m : Nat) : Blk := .box [.p (.int .i64 10),.p (.str []),.own 2 m,.p (.int .i64 0),.p (.bool false)]
set_option maxRecDepth 10000 in
set_option maxHeartbeats 1000000 in
theorem rx_row_l1 (s : List UInt8) (hs : s.length ≤ 4096) (d : Nat) (hset : ∀ i A j,i < s.length → setS s i = some (A,j) → i < j ∧ j ≤ s.length) (Q : Out → Prop) : ∀ (n i g : Nat) (pre : List PV) (m : Nat),pre.length = m → m ≤ i → i ≤ s.length → g ≤ i → need (s.length - i) .row ≤ n →
    (∀ k i' g',k < n → i ≤ i' → i' < s.length → g' ≤ i' → need (s.length - i') .piece ≤ k → RxOk 354 s i' g' d (rd (setS s) s k .piece d i' g')) →
    (match rd (setS s) s n .row d i g with
     | .ok (p,j,g') => Q (.nrm,[(3,.bx 1 0)],[rdB s j g' d false false,pcB (pre ++ (tri p).2.1).length,.row false 1 (pre ++ (tri p).2.1)])
     | .error b => ∀ j g' d' ks,Q (.nrm,[(3,.bx 1 0)],[rdB s j g' d' true b,pcB (List.length ks),.row false 1 ks])) → n ≠ 0 →
    Wp Γ rex_reader_row_l1 [(0,.bx 0 0),(3,.bx 1 0)] [rdB s i g d false false,pcB m,.row false 1 pre] (InBlk [3] 0 Q) := by
  intro n
  induction n with
  | zero => intro i g pre m _ _ _ _ _ _ _ h; exact absurd rfl h
  | succ n ih =>
    intro i g pre m hm him hi hgi hnd hP hQ _
    simp only [need] at hnd
    subst hm
    simp only [rd] at hQ
    by_cases hlt : i < s.length
    · have eN := res_now s hs i g d false false hlt
      by_cases hc : i < s.length ∧ bt s i ≠ 124 ∧ bt s i ≠ 41
      · rw [if_pos hc] at hQ
        have n1 : ¬ byt s i = 124 := by rw [byt_bt]; omega
        have n2 : ¬ byt s i = 41 := by rw [byt_bt]; omega
        have hP1 := hP n i g (by omega) (by omega) hlt hgi (by simp only [need]; omega)
        cases hr : rd (setS s) s n .piece d i g with
        | error b =>
          rw [hr] at hP1 hQ
          obtain ⟨v,j,g',d',hP1⟩ := hP1
          dsimp only at hQ
          have hQ := hQ j g' d' (pre ++ [.ptr v])
          rw [W_loop (L := rex_reader_row_l1) rfl]
          simp (disch := first | assumption | omega | decide | (simp only [lens] <;> omega) | fail) only [go_sem,eN,hP1,st354]
          rw [W_loop (L := rex_reader_row_l1) rfl]
          simp (disch := first | assumption | omega | decide | (simp only [lens] <;> omega) | fail) only [go_sem]
          simpa using hQ
        | ok r =>
          obtain ⟨p,j,g'⟩ := r
          rw [hr] at hP1 hQ
          have hok := rd_ok hset n .piece d i g (p,j,g') hi hlt hr
          obtain ⟨a1,a2,a3,a4,a5,a6,a7⟩ := hok
          dsimp only at a1 a2 a3 a4 a5 a6 a7 hQ
          obtain ⟨cs,hcs⟩ := tri_ptr p
          have hP1 : resM Γ 1 354 [.bx 0 0] [rdB s i g d false false] = some ([.p (trP p)],[rdB s j g' d false false]) := hP1
          rw [show trP p = .ptr cs from hcs] at hP1
          have hn : n ≠ 0 := by
            intro e; subst e; cases hr
          have I := ih j g' (pre ++ [PV.ptr cs]) (pre ++ [PV.ptr cs]).length rfl (by simp; omega) a2 (by omega) (by simp only [need]; have := a7.2; omega) (fun k i' g' hk h1 h2 => hP k i' g' (by omega) (by omega) h2) (by
            cases hr2 : rd (setS s) s n .row d j g' with
            | error b => rw [hr2] at hQ; exact hQ
            | ok r2 =>
              obtain ⟨q,k,g2⟩ := r2
              rw [hr2] at hQ
              simp only [tri,hcs] at hQ
              simpa using hQ) hn
          rw [W_loop (L := rex_reader_row_l1) rfl]
          simp (disch := first | assumption | omega | decide | (simp only [lens] <;> omega) | fail) only [go_sem,eN,hP1,st354]
          simpa using I
      · rw [if_neg hc] at hQ
        have hQ : Q (.nrm,[(3,.bx 1 0)],[rdB s i g d false false,pcB pre.length,.row false 1 pre]) := by simpa [tri] using hQ
        by_cases h1 : bt s i = 124
        · have hb : byt s i = 124 := by rw [byt_bt,h1]; rfl
          rw [hb] at eN
          rw [W_loop (L := rex_reader_row_l1) rfl]
          simp (disch := first | assumption | omega | decide | (simp only [lens] <;> omega) | fail) only [go_sem,eN]
          exact hQ
        · have h2 : bt s i = 41 := by
            by_cases h2 : bt s i = 41
            · exact h2
            · exact absurd ⟨hlt,h1,h2⟩ hc
          have hb : byt s i = 41 := by rw [byt_bt,h2]; rfl
          rw [hb] at eN
          rw [W_loop (L := rex_reader_row_l1) rfl]
          simp (disch := first | assumption | omega | decide | (simp only [lens] <;> omega) | fail) only [go_sem,eN]
          exact hQ
    · have eN := res_now_end s hs i g d false false (by omega)
      rw [if_neg (fun h => hlt h.1)] at hQ
      have hQ : Q (.nrm,[(3,.bx 1 0)],[rdB s i g d false false,pcB pre.length,.row false 1 pre]) := by simpa [tri] using hQ
      rw [W_loop (L := rex_reader_row_l1) rfl]
      simp (disch := first | assumption | omega | decide | (simp only [lens] <;> omega) | fail) only [go_sem,eN]
      exact hQ
end Ab
namespace Ab
open Go (IntKind BinOp UnOp)
set_option maxRecDepth 10000 in
set_option maxHeartbeats 1000000 in
theorem rx_row (s : List UInt8) (hs : s.length ≤ 4096) (d : Nat) (hset : ∀ i A j,i < s.length → setS s i = some (A,j) → i < j ∧ j ≤ s.length) (n i g : Nat) (hi : i ≤ s.length) (hgi : g ≤ i) (hnd : need (s.length - i) .row ≤ n + 1)
  (hP : ∀ k i' g',k ≤ n → i ≤ i' → i' < s.length → g' ≤ i' → need (s.length - i') .piece ≤ k → RxOk 354 s i' g' d (rd (setS s) s k .piece d i' g')) (hn : n ≠ 0) : RxOk 343 s i g d (rd (setS s) s (n + 1) .row d i g) := by
 simp only [need] at hnd
 simp only [rd]
 by_cases hlt : i < s.length
 ·have eN := res_now s hs i g d false false hlt
  by_cases hc : i < s.length ∧ bt s i ≠ 124 ∧ bt s i ≠ 41
  ·rw [if_pos hc]
   have n1 : ¬ byt s i = 124 := by rw [byt_bt]; omega
   have n2 : ¬ byt s i = 41 := by rw [byt_bt]; omega
   have hP1 := hP n i g (Nat.le_refl _) (Nat.le_refl _) hlt hgi (by simp only [need]; omega)
   cases hr : rd (setS s) s n .piece d i g with
   | error b =>
    rw [hr] at hP1
    obtain ⟨v,j,g',d',hP1⟩ := hP1
    refine ⟨[.int .i64 10,.str [],ksV [.ptr v],.int .i64 0,.bool false],j,g',d',resM_code (fn := rex_reader_row) rfl rfl ?_⟩
    simp (disch := first | assumption | omega | decide | (simp only [lens] <;> omega) | fail) only [go_sem,rex_reader_row]
    rw [W_loop (L := rex_reader_row_l1) rfl]
    simp (disch := first | assumption | omega | decide | (simp only [lens] <;> omega) | fail) only [go_sem,eN,hP1,st354]
    rw [W_loop (L := rex_reader_row_l1) rfl]
    simp (disch := first | assumption | omega | decide | (simp only [lens] <;> omega) | fail) only [go_sem]
   | ok r =>
    obtain ⟨p,j,g'⟩ := r
    rw [hr] at hP1
    have hok := rd_ok hset n .piece d i g (p,j,g') hi hlt hr
    obtain ⟨a1,a2,a3,a4,a5,a6,a7⟩ := hok
    dsimp only at a1 a2 a3 a4 a5 a6 a7 ⊢
    obtain ⟨cs,hcs⟩ := tri_ptr p
    have hP1 : resM Γ 1 354 [.bx 0 0] [rdB s i g d false false] = some ([.p (trP p)],[rdB s j g' d false false]) := hP1
    rw [show trP p = .ptr cs from hcs] at hP1
    have L : ∀ (Q : Out → Prop),_ → Wp Γ rex_reader_row_l1 [(0,.bx 0 0),(3,.bx 1 0)] [rdB s j g' d false false,pcB [PV.ptr cs].length,.row false 1 [PV.ptr cs]] (InBlk [3] 0 Q) := fun Q hQ => rx_row_l1 s hs d hset Q n j g' [.ptr cs] _ rfl (by show 1 ≤ j; have := a7.2; omega) a2 (by omega) (by simp only [need]; have := a7.2; omega) (fun k i' g' hk h1 h2 => hP k i' g' (by omega) (by omega) h2) hQ hn
    cases hr2 : rd (setS s) s n .row d j g' with
    | error b =>
     rw [hr2] at L
     have := resM_ex (k := 1) (f := 343) (fn := rex_reader_row) (args := [.bx 0 0]) (HL := [rdB s i g d false false]) (K := fun r => ∃ (v : List PV) (j g' d' : Nat),r = ([.p (.ptr v)],[rdB s j g' d' true b])) rfl rfl (by
      simp (disch := first | assumption | omega | decide | (simp only [lens] <;> omega) | fail) only [go_sem,rex_reader_row]
      rw [W_loop (L := rex_reader_row_l1) rfl]
      simp (disch := first | assumption | omega | decide | (simp only [lens] <;> omega) | fail) only [go_sem,eN,hP1,st354]
      refine L _ ?_
      intro j g' d' ks
      simp (disch := first | assumption | omega | decide | (simp only [lens] <;> omega) | fail) only [go_sem]
      refine ⟨([.p (.ptr [.int .i64 10,.str [],ksV ks,.int .i64 0,.bool false])],[rdB s j g' d' true b]),?_,⟨_,_,_,_,rfl⟩⟩
      simp (disch := first | assumption | omega | decide | (simp only [lens] <;> omega) | fail) only [go_sem])
     obtain ⟨r,hr,v,j,g',d',rfl⟩ := this
     exact ⟨v,j,g',d',hr⟩
    | ok r2 =>
     obtain ⟨q,k,g2⟩ := r2
     rw [hr2] at L
     show resM Γ 1 343 [.bx 0 0] [rdB s i g d false false] = some ([.p (nodeV 10 [] (ksV ((tri p).1 :: (tri q).2.1)) 0 false)],[rdB s k g2 d false false])
     rw [hcs]
     refine resM_code (fn := rex_reader_row) rfl rfl ?_
     simp (disch := first | assumption | omega | decide | (simp only [lens] <;> omega) | fail) only [go_sem,rex_reader_row]
     rw [W_loop (L := rex_reader_row_l1) rfl]
     simp (disch := first | assumption | omega | decide | (simp only [lens] <;> omega) | fail) only [go_sem,eN,hP1,st354]
     refine L _ ?_
     simp (disch := first | assumption | omega | decide | (simp only [lens] <;> omega) | fail) only [go_sem]
  ·rw [if_neg hc]
   by_cases h1 : bt s i = 124
   ·have hb : byt s i = 124 := by rw [byt_bt,h1]; rfl
    rw [hb] at eN
    refine resM_code (fn := rex_reader_row) rfl rfl ?_
    simp (disch := first | assumption | omega | decide | (simp only [lens] <;> omega) | fail) only [go_sem,rex_reader_row]
    rw [W_loop (L := rex_reader_row_l1) rfl]
    simp (disch := first | assumption | omega | decide | (simp only [lens] <;> omega) | fail) only [go_sem,eN]
    rfl
   ·have h2 : bt s i = 41 := by
     by_cases h2 : bt s i = 41
     ·exact h2
     ·exact absurd ⟨hlt,h1,h2⟩ hc
    have hb : byt s i = 41 := by rw [byt_bt,h2]; rfl
    rw [hb] at eN
    refine resM_code (fn := rex_reader_row) rfl rfl ?_
    simp (disch := first | assumption | omega | decide | (simp only [lens] <;> omega) | fail) only [go_sem,rex_reader_row]
    rw [W_loop (L := rex_reader_row_l1) rfl]
    simp (disch := first | assumption | omega | decide | (simp only [lens] <;> omega) | fail) only [go_sem,eN]
    rfl
 ·have eN := res_now_end s hs i g d false false (by omega)
  rw [if_neg (fun h => hlt h.1)]
  refine resM_code (fn := rex_reader_row) rfl rfl ?_
  simp (disch := first | assumption | omega | decide | (simp only [lens] <;> omega) | fail) only [go_sem,rex_reader_row]
  rw [W_loop (L := rex_reader_row_l1) rfl]
  simp (disch := first | assumption | omega | decide | (simp only [lens] <;> omega) | fail) only [go_sem,eN]
  rfl
set_option maxRecDepth 10000 in
set_option maxHeartbeats 1000000 in
theorem rx_ways_l1 (s : List UInt8) (hs : s.length ≤ 4096) (d : Nat) (hset : ∀ i A j,i < s.length → setS s i = some (A,j) → i < j ∧ j ≤ s.length) (Q : Out → Prop) : ∀ (n i g : Nat) (pre : List PV) (m : Nat),pre.length = m → m ≤ i + 1 → i + 1 ≤ s.length → g ≤ i → need (s.length - (i + 1)) .ways ≤ n →
    (∀ k i' g',k < n → i + 1 ≤ i' → i' ≤ s.length → g' ≤ i' → need (s.length - i') .row ≤ k → RxOk 343 s i' g' d (rd (setS s) s k .row d i' g')) →
    (match rd (setS s) s n .ways d (i + 1) g with
     | .ok (p,j,g') => Q (.nrm,[(3,.own 1 (pre ++ (tri p).2.2).length)],[rdB s j g' d false false,.row false 1 (pre ++ (tri p).2.2)])
     | .error b => ∀ j g' d' ks,2 ≤ List.length ks → Q (.nrm,[(3,.own 1 (List.length ks))],[rdB s j g' d' true b,.row false 1 ks])) → n ≠ 0 → m ≠ 0 → at2 s i 124 = true →
    Wp Γ rex_reader_ways_l1 [(0,.bx 0 0),(3,.own 1 m)] [rdB s i g d false false,.row false 1 pre] (InBlk [3] 0 Q) := by
  intro n
  induction n with
  | zero => intro i g pre m _ _ _ _ _ _ _ h; exact absurd rfl h
  | succ n ih =>
    intro i g pre m hm him hi hgi hnd hP hQ _ hm0 h124
    simp only [need] at hnd
    subst hm
    simp only [rd] at hQ
    have e2 : isS2 s i 124 = true := h124
    have eT : resM Γ 1 344 [.bx 0 0,.p (.int .u8 124)] [rdB s i g d false false] = _ := resM_takes s hs i g d false false 124
    rw [e2,if_pos (Eq.refl true)] at eT
    have hP1 := hP n (i + 1) g (by omega) (by omega) hi (by omega) (by simp only [need]; omega)
    cases hr : rd (setS s) s n .row d (i + 1) g with
    | error b =>
      rw [hr] at hP1 hQ
      obtain ⟨v,j,g',d',hP1⟩ := hP1
      dsimp only at hQ
      have hQ := hQ j g' d' (pre ++ [.ptr v]) (by rw [List.length_append]; show 2 ≤ pre.length + 1; omega)
      rw [W_loop (L := rex_reader_ways_l1) rfl]
      simp (disch := first | assumption | omega | decide | (simp only [lens] <;> omega) | fail) only [go_sem,eT,hP1,st344,st343]
      rw [W_loop (L := rex_reader_ways_l1) rfl]
      simp (disch := first | assumption | omega | decide | (simp only [lens] <;> omega) | fail) only [go_sem]
      simpa using hQ
    | ok r =>
      obtain ⟨p,j,g'⟩ := r
      rw [hr] at hP1 hQ
      obtain ⟨a1,a2,a3,a4,a5,a6,a7⟩ := rd_ok hset n .row d (i + 1) g (p,j,g') hi trivial hr
      dsimp only at a1 a2 a3 a4 a5 a6 a7 hQ
      obtain ⟨cs,hcs⟩ := tri_ptr p
      have hP1 : resM Γ 1 343 [.bx 0 0] [rdB s (i + 1) g d false false] = some ([.p (trP p)],[rdB s j g' d false false]) := hP1
      rw [show trP p = .ptr cs from hcs] at hP1
      cases hj : at2 s j 124
      · rw [hj,if_neg Bool.false_ne_true] at hQ
        have e3 : isS2 s j 124 = false := hj
        have eT2 : resM Γ 1 344 [.bx 0 0,.p (.int .u8 124)] [rdB s j g' d false false] = _ := resM_takes s hs j g' d false false 124
        rw [e3,if_neg Bool.false_ne_true] at eT2
        have hp2 : (tri p).2.2 = [.ptr cs] := by
          rw [← hcs]
          cases p <;> first | rfl | exact a7.elim
        dsimp only at hQ
        rw [hp2] at hQ
        rw [W_loop (L := rex_reader_ways_l1) rfl]
        simp (disch := first | assumption | omega | decide | (simp only [lens] <;> omega) | fail) only [go_sem,eT,hP1,st344,st343]
        rw [W_loop (L := rex_reader_ways_l1) rfl]
        simp (disch := first | assumption | omega | decide | (simp only [lens] <;> omega) | fail) only [go_sem,eT2,st344]
        simpa using hQ
      · rw [hj,if_pos (Eq.refl true)] at hQ
        have hjl := at2_lt hj
        have hn : n ≠ 0 := by intro e; subst e; cases hr
        have I := ih j g' (pre ++ [PV.ptr cs]) (pre ++ [PV.ptr cs]).length rfl (by simp; omega) (by omega) (by omega) (by simp only [need]; omega) (fun k i' g' hk h1 h2 => hP k i' g' (by omega) (by omega) h2) (by
            cases hr2 : rd (setS s) s n .ways d (j + 1) g' with
            | error b => rw [hr2] at hQ; exact hQ
            | ok r2 =>
              obtain ⟨q,k,g2⟩ := r2
              rw [hr2] at hQ
              simp only [tri,hcs] at hQ
              simpa using hQ) hn (by simp) hj
        rw [W_loop (L := rex_reader_ways_l1) rfl]
        simp (disch := first | assumption | omega | decide | (simp only [lens] <;> omega) | fail) only [go_sem,eT,hP1,st344,st343]
        simpa using I
end Ab
namespace Ab
open Go (IntKind BinOp UnOp)
set_option maxRecDepth 10000 in
set_option maxHeartbeats 1000000 in
theorem rx_ways (s : List UInt8) (hs : s.length ≤ 4096) (d : Nat) (hset : ∀ i A j,i < s.length → setS s i = some (A,j) → i < j ∧ j ≤ s.length) (n i g : Nat) (hi : i ≤ s.length) (hgi : g ≤ i) (hnd : need (s.length - i) .ways ≤ n + 1)
  (hP : ∀ k i' g',k ≤ n → i ≤ i' → i' ≤ s.length → g' ≤ i' → need (s.length - i') .row ≤ k → RxOk 343 s i' g' d (rd (setS s) s k .row d i' g')) (hn : n ≠ 0) : RxOk 335 s i g d (rd (setS s) s (n + 1) .ways d i g) := by
 simp only [need] at hnd
 simp only [rd]
 have hP1 := hP n i g (Nat.le_refl _) (Nat.le_refl _) hi hgi (by simp only [need]; omega)
 cases hr : rd (setS s) s n .row d i g with
 | error b =>
  rw [hr] at hP1
  obtain ⟨v,j,g',d',hP1⟩ := hP1
  refine ⟨v,j,g',d',resM_code (fn := rex_reader_ways) rfl rfl ?_⟩
  simp (disch := first | assumption | omega | decide | (simp only [lens] <;> omega) | fail) only [go_sem,rex_reader_ways,hP1,st343]
  rw [W_loop (L := rex_reader_ways_l1) rfl]
  simp (disch := first | assumption | omega | decide | (simp only [lens] <;> omega) | fail) only [go_sem]
 | ok r =>
  obtain ⟨p,j,g'⟩ := r
  rw [hr] at hP1
  obtain ⟨a1,a2,a3,a4,a5,a6,a7⟩ := rd_ok hset n .row d i g (p,j,g') hi trivial hr
  dsimp only at a1 a2 a3 a4 a5 a6 a7 ⊢
  obtain ⟨cs,hcs⟩ := tri_ptr p
  have hP1 : resM Γ 1 343 [.bx 0 0] [rdB s i g d false false] = some ([.p (trP p)],[rdB s j g' d false false]) := hP1
  rw [show trP p = .ptr cs from hcs] at hP1
  have eT : resM Γ 1 344 [.bx 0 0,.p (.int .u8 124)] [rdB s j g' d false false] = _ := resM_takes s hs j g' d false false 124
  cases hj : at2 s j 124
  ·rw [if_neg Bool.false_ne_true]
   have e3 : isS2 s j 124 = false := hj
   rw [e3,if_neg Bool.false_ne_true] at eT
   show resM Γ 1 335 [.bx 0 0] [rdB s i g d false false] = some ([.p (tri p).1],[rdB s j g' d false false])
   rw [hcs]
   refine resM_code (fn := rex_reader_ways) rfl rfl ?_
   simp (disch := first | assumption | omega | decide | (simp only [lens] <;> omega) | fail) only [go_sem,rex_reader_ways,hP1,st343]
   rw [W_loop (L := rex_reader_ways_l1) rfl]
   simp (disch := first | assumption | omega | decide | (simp only [lens] <;> omega) | fail) only [go_sem,eT,st344]
  ·rw [if_pos (Eq.refl true)]
   have hjl := at2_lt hj
   have e3 : isS2 s j 124 = true := hj
   rw [e3,if_pos (Eq.refl true)] at eT
   obtain ⟨n,rfl⟩ : ∃ k,n = k + 1 := ⟨n - 1,by omega⟩
   have hP2 := hP n (j + 1) g' (by omega) (by omega) hjl.1 (by omega) (by simp only [need]; omega)
   simp only [rd]
   cases hr1 : rd (setS s) s n .row d (j + 1) g' with
   | error b =>
    rw [hr1] at hP2
    obtain ⟨v,k,g2,d',hP2⟩ := hP2
    refine ⟨[.int .i64 11,.str [],ksV [.ptr cs,.ptr v],.int .i64 0,.bool false],k,g2,d',resM_code (fn := rex_reader_ways) rfl rfl ?_⟩
    simp (disch := first | assumption | omega | decide | (simp only [lens] <;> omega) | fail) only [go_sem,rex_reader_ways,hP1,st343]
    rw [W_loop (L := rex_reader_ways_l1) rfl]
    simp (disch := first | assumption | omega | decide | (simp only [lens] <;> omega) | fail) only [go_sem,eT,st344,hP2,st343]
    rw [W_loop (L := rex_reader_ways_l1) rfl]
    simp (disch := first | assumption | omega | decide | (simp only [lens] <;> omega) | fail) only [go_sem]
   | ok r1 =>
    obtain ⟨p1,j1,g1⟩ := r1
    rw [hr1] at hP2
    obtain ⟨b1,b2,b3,b4,b5,b6,b7⟩ := rd_ok hset n .row d (j + 1) g' (p1,j1,g1) hjl.1 trivial hr1
    dsimp only at b1 b2 b3 b4 b5 b6 b7 ⊢
    obtain ⟨cs1,hcs1⟩ := tri_ptr p1
    have hP2 : resM Γ 1 343 [.bx 0 0] [rdB s (j + 1) g' d false false] = some ([.p (trP p1)],[rdB s j1 g1 d false false]) := hP2
    rw [show trP p1 = .ptr cs1 from hcs1] at hP2
    cases hj1 : at2 s j1 124
    ·rw [if_neg Bool.false_ne_true]
     have eT2 : resM Γ 1 344 [.bx 0 0,.p (.int .u8 124)] [rdB s j1 g1 d false false] = _ := resM_takes s hs j1 g1 d false false 124
     have e4 : isS2 s j1 124 = false := hj1
     rw [e4,if_neg Bool.false_ne_true] at eT2
     have hp2 : (tri p1).2.2 = [.ptr cs1] := by
      rw [← hcs1]
      cases p1 <;> first | rfl | exact b7.elim
     show resM Γ 1 335 [.bx 0 0] [rdB s i g d false false] = some ([.p (nodeV 11 [] (ksV ((tri p).1 :: (tri p1).2.2)) 0 false)],[rdB s j1 g1 d false false])
     rw [hcs,hp2]
     refine resM_code (fn := rex_reader_ways) rfl rfl ?_
     simp (disch := first | assumption | omega | decide | (simp only [lens] <;> omega) | fail) only [go_sem,rex_reader_ways,hP1,st343]
     rw [W_loop (L := rex_reader_ways_l1) rfl]
     simp (disch := first | assumption | omega | decide | (simp only [lens] <;> omega) | fail) only [go_sem,eT,st344,hP2,st343]
     rw [W_loop (L := rex_reader_ways_l1) rfl]
     simp (disch := first | assumption | omega | decide | (simp only [lens] <;> omega) | fail) only [go_sem,eT2,st344]
    ·rw [if_pos (Eq.refl true)]
     have hjl1 := at2_lt hj1
     have hn2 : n ≠ 0 := by intro e; subst e; cases hr1
     have L : ∀ (Q : Out → Prop),_ → Wp Γ rex_reader_ways_l1 [(0,.bx 0 0),(3,.own 1 [PV.ptr cs,PV.ptr cs1].length)] [rdB s j1 g1 d false false,.row false 1 [PV.ptr cs,PV.ptr cs1]] (InBlk [3] 0 Q) := fun Q hQ => rx_ways_l1 s hs d hset Q n j1 g1 [.ptr cs,.ptr cs1] _ rfl (by show 2 ≤ j1 + 1; omega) (by omega) (by omega) (by simp only [need]; omega) (fun k i' g' hk h1 h2 => hP k i' g' (by omega) (by omega) h2) hQ hn2 (by simp) hj1
     cases hr2 : rd (setS s) s n .ways d (j1 + 1) g1 with
     | error b =>
      rw [hr2] at L
      have := resM_ex (k := 1) (f := 335) (fn := rex_reader_ways) (args := [.bx 0 0]) (HL := [rdB s i g d false false]) (K := fun r => ∃ (v : List PV) (j g' d' : Nat),r = ([.p (.ptr v)],[rdB s j g' d' true b])) rfl rfl (by
       simp (disch := first | assumption | omega | decide | (simp only [lens] <;> omega) | fail) only [go_sem,rex_reader_ways,hP1,st343]
       rw [W_loop (L := rex_reader_ways_l1) rfl]
       simp (disch := first | assumption | omega | decide | (simp only [lens] <;> omega) | fail) only [go_sem,eT,st344,hP2,st343]
       refine L _ ?_
       intro j g' d' ks hks
       simp (disch := first | assumption | omega | decide | (simp only [lens] <;> omega) | fail) only [go_sem]
       refine ⟨([.p (.ptr [.int .i64 11,.str [],ksV ks,.int .i64 0,.bool false])],[rdB s j g' d' true b]),?_,⟨_,_,_,_,rfl⟩⟩
       simp (disch := first | assumption | omega | decide | (simp only [lens] <;> omega) | fail) only [go_sem])
      obtain ⟨r,hr,v,j,g',d',rfl⟩ := this
      exact ⟨v,j,g',d',hr⟩
     | ok r2 =>
      obtain ⟨q,k,g2⟩ := r2
      rw [hr2] at L
      show resM Γ 1 335 [.bx 0 0] [rdB s i g d false false] = some ([.p (nodeV 11 [] (ksV ((tri p).1 :: ((tri p1).1 :: (tri q).2.2))) 0 false)],[rdB s k g2 d false false])
      rw [hcs,hcs1]
      refine resM_code (fn := rex_reader_ways) rfl rfl ?_
      simp (disch := first | assumption | omega | decide | (simp only [lens] <;> omega) | fail) only [go_sem,rex_reader_ways,hP1,st343]
      rw [W_loop (L := rex_reader_ways_l1) rfl]
      simp (disch := first | assumption | omega | decide | (simp only [lens] <;> omega) | fail) only [go_sem,eT,st344,hP2,st343]
      refine L _ ?_
      simp (disch := first | assumption | omega | decide | (simp only [lens] <;> omega) | fail) only [go_sem]
theorem classS_ge {s : List UInt8} : ∀ {n : Nat} {all : List Bool} {i : Nat} {f : Bool} {A : List Bool} {j : Nat},classS s n all i f = some (A,j) → i ≤ j
 | 0,_,_,_,_,_,h => by cases h
 | n + 1,all,i,f,A,j,h => by
  unfold classS at h
  split at h
  ·cases h; omega
  ·cases hI : itemS s i with
   | none => rw [hI] at h; cases h
   | some r =>
    obtain ⟨c,w,k⟩ := r
    rw [hI] at h
    have h1 := itemS_lt hI
    dsimp only at h
    split at h
    ·have := classS_ge h; omega
    ·split at h
     ·cases hI2 : itemS s (k + 1) with
      | none => rw [hI2] at h; cases h
      | some r2 =>
       obtain ⟨c2,w2,k2⟩ := r2
       rw [hI2] at h
       have h2 := itemS_lt hI2
       dsimp only at h
       split at h
       ·cases h
       ·have := classS_ge h; omega
     ·have := classS_ge h; omega
theorem setS_lt {s : List UInt8} : ∀ i A j,i < s.length → setS s i = some (A,j) → i < j ∧ j ≤ s.length := by
 intro i A j hi h
 unfold setS at h
 split at h
 ·cases h; omega
 ·split at h
  ·unfold classT at h
   split at h
   all_goals
    cases hc : classS s (s.length + 1) noneL _ true with
    | none => rw [hc] at h; cases h
    | some r =>
     obtain ⟨B,k⟩ := r
     rw [hc] at h
     have h1 := classS_ge hc
     have h2 := (classS_len noneL_len hc).2
     simp only [Option.map_some,Option.some.injEq,Prod.mk.injEq] at h
     omega
  ·split at h
   ·cases hI : itemS s i with
    | none => rw [hI] at h; cases h
    | some r =>
     obtain ⟨c,w,k⟩ := r
     rw [hI] at h
     have := itemS_lt hI
     cases h
     omega
   ·split at h
    ·cases h
    ·cases h; omega
def rxF : Md → Nat
 | .ways => 335
 | .row => 343
 | .piece => 354
 | .atom => 363
 | .group => 370
theorem rx_all (s : List UInt8) (hs : s.length ≤ 4096) : ∀ (n : Nat) (m : Md) (d i g : Nat),i ≤ s.length → (match m with | .piece => i < s.length | .atom => i < s.length | .group => g + 1 ≤ i | _ => True) → d ≤ 64 → g ≤ i →
  need (s.length - i) m ≤ n → RxOk (rxF m) s i g d (rd (setS s) s n m d i g) := by
 intro n
 induction n using Nat.strongRecOn with
 | _ n ih =>
  intro m d i g hi hm hd hg hn
  obtain ⟨n,rfl⟩ : ∃ k,n = k + 1 := ⟨n - 1,by cases m <;> simp only [need] at hn <;> omega⟩
  have hset := @setS_lt s
  cases m with
  | ways =>
   simp only [need] at hn
   exact rx_ways s hs d hset n i g hi hg hn (fun k i' g' hk h1 h2 h3 h4 => ih k (by omega) .row d i' g' h2 trivial hd h3 h4) (by omega)
  | row =>
   simp only [need] at hn
   exact rx_row s hs d hset n i g hi hg hn (fun k i' g' hk h1 h2 h3 h4 => ih k (by omega) .piece d i' g' (by omega) h2 hd h3 h4) (by omega)
  | piece =>
   simp only [need] at hn
   exact rx_piece s hs n i g d (ih n (by omega) .atom d i g hi hm hd hg (by simp only [need]; omega))
  | atom =>
   simp only [need] at hn
   have hm : i < s.length := hm
   exact rx_atom s hs n i g d hm st370 (fun _ => ih n (by omega) .group d (i + 1) g (by omega) (by show g + 1 ≤ i + 1; omega) hd (by omega) (by simp only [need]; omega))
  | group =>
   simp only [need] at hn
   have hm : g + 1 ≤ i := hm
   exact rx_group s hs n i g d hi (by omega) (by omega) hm hset (fun i' g' h0 h1 h2 h3 => ih n (by omega) .ways (d + 1) i' g' h1 trivial (by omega) h3 (by simp only [need]; omega))
end Ab
namespace Ab
open Go (IntKind BinOp UnOp)
def insC (x : Ins) : List PV := [.int .i64 x.1,.int .i64 x.2.1,.int .i64 x.2.2.1,.str x.2.2.2]
def inR (l : List Ins) : List PV := aggs (l.map insC)
theorem inR_len {l} : (inR l).length = l.length := by simp [inR,aggs]
theorem inR_app {l m} : inR l ++ inR m = inR (l ++ m) := by simp [inR,aggs]
theorem inR_one {l : List Ins} {o x y : Int} {p : List UInt8} : inR l ++ [.agg [.int .i64 o,.int .i64 x,.int .i64 y,.str p]] = inR (l ++ [(o,x,y,p)]) := by simp [inR,aggs,insC]
theorem inR_get {l : List Ins} {i : Nat} (h : i < l.length) : (inR l)[i]? = some (.agg (insC (l.getD i (0,0,0,[])))) := by
 simp [inR,aggs,List.getElem?_eq_getElem h]
theorem inR_take {l : List Ins} {n} : (inR l).take n = inR (l.take n) := by simp [inR,aggs,List.map_take]
theorem inR_drop {l : List Ins} {n} : (inR l).drop n = inR (l.drop n) := by simp [inR,aggs,List.map_drop]
theorem insC_len {x} : (insC x).length = 4 := rfl
def setX (x : Ins) (v : Int) : Ins := (x.1,v,x.2.2.1,x.2.2.2)
def setY (x : Ins) (v : Int) : Ins := (x.1,x.2.1,v,x.2.2.2)
theorem storeK_insX {H : Heap} {id n : Nat} {l : List Ins} {i : Nat} {v : Int} (h : l.length = n) (h' : i < n) : storeK H (some (.row false 4 (inR l))) 1 id n i 1 (.p (.int .i64 v)) = some (H.set id (.row false 4 (inR (l.set i (setX (l.getD i (0,0,0,[])) v))))) := by
 subst h
 have e := inR_get h'
 have e2 : (inR l).set i (.agg (insC (setX (l.getD i (0,0,0,[])) v))) = inR (l.set i (setX (l.getD i (0,0,0,[])) v)) := by simp [inR,aggs,List.map_set]
 rw [← e2]
 unfold storeK
 simp only [inR_len,if_true,e,Option.bind_some]
 rfl
theorem storeK_insY {H : Heap} {id n : Nat} {l : List Ins} {i : Nat} {v : Int} (h : l.length = n) (h' : i < n) : storeK H (some (.row false 4 (inR l))) 1 id n i 2 (.p (.int .i64 v)) = some (H.set id (.row false 4 (inR (l.set i (setY (l.getD i (0,0,0,[])) v))))) := by
 subst h
 have e := inR_get h'
 have e2 : (inR l).set i (.agg (insC (setY (l.getD i (0,0,0,[])) v))) = inR (l.set i (setY (l.getD i (0,0,0,[])) v)) := by simp [inR,aggs,List.map_set]
 rw [← e2]
 unfold storeK
 simp only [inR_len,if_true,e,Option.bind_some]
 rfl
theorem iaddrK_ins {f sz l id} {n : Nat} {i} (h : l.length = n) (h1 : 0 ≤ i) (h2 : i < (n : Int)) : iaddrK (some (.row f sz (inR l))) sz id n i = some (.el id n i.toNat 0) := iaddrK_pos (inR_len.trans h) h1 h2
theorem rowAt_ins {f sz l n} (h : l.length = n) : rowAt (some (.row f sz (inR l))) n = some (sz,inR l) := rowAt_pos (inR_len.trans h)
theorem appK_ins {H : Heap} {sz id n l m} (h : l.length = n) (h' : l.length + m.length ≤ 1073741824) : appK H (some (.row false sz (inR l))) sz id n (inR m) = some (.own id (n + m.length),H.set id (.row false sz (inR (l ++ m)))) := by
 rw [appK_pos (inR_len.trans h) (by rw [inR_len,inR_len]; exact h'),inR_len,inR_app]
theorem appK_ins2 {H : Heap} {sz id n} {l : List Ins} {o x y : Int} {p : List UInt8} (h : l.length = n) (h' : l.length + 1 ≤ 1073741824) : appK H (some (.row false sz (inR l))) sz id n [.agg [.int .i64 o,.int .i64 x,.int .i64 y,.str p]] = some (.own id (n + 1),H.set id (.row false sz (inR (l ++ [(o,x,y,p)])))) := by
 rw [appK_pos (inR_len.trans h) (by rw [inR_len]; exact h'),inR_one]; rfl
attribute [go_sem] iaddrK_ins rowAt_ins appK_ins appK_ins2 inR_len inR_app inR_one inR_take inR_drop insC_len storeK_insX storeK_insY
abbrev wB (n : Nat) : Blk := .box [.own 1 n]
theorem resM_lays (l m : List Ins) (n : Nat) (hl : l.length = n) (hn : n + m.length ≤ 100000) : resM Γ 2 333 [.bx 0 0,.p (.sl .tight 4 (inR m))] [wB n,.row false 4 (inR l)] = some ([.p (.int .i64 n)],[wB (n + m.length),.row false 4 (inR (l ++ m))]) := by
 refine resM_code (fn := rex_writer_lays) rfl rfl ?_
 simp (disch := first | assumption | omega | decide | (simp only [lens] <;> omega) | fail) only [go_sem,rex_writer_lays]
theorem resM_lays1 (l : List Ins) (n : Nat) (o x y : Int) (p : List UInt8) (hl : l.length = n) (hn : n ≤ 10000) : resM Γ 2 333 [.bx 0 0,.p (.sl .tight 4 [.agg [.int .i64 o,.int .i64 x,.int .i64 y,.str p]])] [wB n,.row false 4 (inR l)] = some ([.p (.int .i64 n)],[wB (n + 1),.row false 4 (inR (l ++ [(o,x,y,p)]))]) :=
 resM_lays l [(o,x,y,p)] n hl (by show n + 1 ≤ 100000; omega)
theorem res_full (l : List Ins) (_h : l.length ≤ 100000) : res Γ 332 [.ptr [.sl .any 4 (inR l)]] = some [.bool (decide (1024 < (l.length : Int)))] := by
 refine res_code (fn := rex_writer_full) rfl rfl ?_
 simp (disch := first | assumption | omega | decide | (simp only [lens] <;> omega) | fail) only [go_sem,rex_writer_full]
theorem st333 : stillF Γ 2 333 = true := by kernel_rfl
theorem st346 : stillF Γ 2 346 = true := by kernel_rfl
theorem st334 : stillF Γ 2 334 = true := by kernel_rfl
theorem st345 : stillF Γ 2 345 = true := by kernel_rfl
theorem set_spl {pre post : List Ins} {i : Nat} (hi : pre.length = i) {x y : Int} : (((pre ++ (2,0,0,[]) :: post).set i (setX ((pre ++ (2,0,0,[]) :: post).getD i (0,0,0,[])) x)).set i (setY (((pre ++ (2,0,0,[]) :: post).set i (setX ((pre ++ (2,0,0,[]) :: post).getD i (0,0,0,[])) x)).getD i (0,0,0,[])) y)) = pre ++ (2,x,y,[]) :: post := by
 subst hi
 have e : (pre ++ ((2,0,0,[]) : Ins) :: post).getD pre.length (0,0,0,[]) = (2,0,0,[]) := by simp [List.getD_eq_getElem?_getD]
 have e2 : (pre ++ ((2,x,0,[]) : Ins) :: post).getD pre.length (0,0,0,[]) = (2,x,0,[]) := by simp [List.getD_eq_getElem?_getD]
 rw [e]
 have e3 : (pre ++ ((2,0,0,[]) : Ins) :: post).set pre.length (setX (2,0,0,[]) x) = pre ++ (2,x,0,[]) :: post := by
  rw [List.set_append_right _ _ (Nat.le_refl _),Nat.sub_self,List.set_cons_zero]; rfl
 rw [e3,e2]
 rw [List.set_append_right _ _ (Nat.le_refl _),Nat.sub_self,List.set_cons_zero]; rfl
theorem resM_splits (pre post : List Ins) (i n : Nat) (hi : pre.length = i) (hn : (pre ++ ((2,0,0,[]) : Ins) :: post).length = n) (x y : Int) (lz : Bool) :
  resM Γ 2 346 [.bx 0 0,.p (.int .i64 i),.p (.int .i64 x),.p (.int .i64 y),.p (.bool lz)] [wB n,.row false 4 (inR (pre ++ (2,0,0,[]) :: post))] = some ([],[wB n,.row false 4 (inR (pre ++ spl lz x y :: post))]) := by
 have hin : i < n := by rw [← hn,List.length_append,List.length_cons]; omega
 have hd : decide (i < n) = true := decide_eq_true hin
 cases lz
 ·have e := @set_spl pre post i hi x y
  generalize pre ++ ((2,0,0,[]) : Ins) :: post = L at *
  refine resM_code (fn := rex_writer_splits) rfl rfl ?_
  simp (disch := first | assumption | omega | decide | (simp only [lens] <;> omega) | fail) only [go_sem,rex_writer_splits,hd]
  rw [e]
  rfl
 ·have e := @set_spl pre post i hi y x
  generalize pre ++ ((2,0,0,[]) : Ins) :: post = L at *
  refine resM_code (fn := rex_writer_splits) rfl rfl ?_
  simp (disch := first | assumption | omega | decide | (simp only [lens] <;> omega) | fail) only [go_sem,rex_writer_splits,hd]
  rw [e]
  rfl
end Ab
