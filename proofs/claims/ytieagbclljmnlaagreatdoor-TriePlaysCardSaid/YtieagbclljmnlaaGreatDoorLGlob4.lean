import Derived.Test.YtieagbclljmnlaaGreatDoorLAny
import Derived.Test.YtieagbclljmnlaaGreatDoorAbPrim
namespace Ab
open Go (IntKind BinOp UnOp)
theorem ixB_mem {s : List UInt8} {c : UInt8} : 0 ≤ ixB s c ↔ s.contains c = true := by
 induction s with
 | nil => simp [ixB]
 | cons b l ih =>
  have hn := @ixB_nn l c
  simp only [ixB,List.contains_cons,Bool.or_eq_true,← ih,beq_iff_eq]
  by_cases h : b = c
  ·subst h; simp
  ·have h' : ¬ c = b := fun e => h e.symm
   simp only [h,h',if_false,false_or]
   split <;> omega
theorem IndexAny_l1_ok (s chars : List UInt8) (_hs : s.length < 1000000000) (hc : chars.length < 1000000000) (ha : ∀ b ∈ chars,b.toNat < 128) (Q : Out → Prop) : ∀ (k i : Nat),i ≤ s.length → s.length - i ≤ k → (∀ j,j < i → chars.contains (s.getD j 0) = false) →
  (ixP chars.contains s < 0 → ∀ H,Q (.nrm,[],H)) → (0 ≤ ixP chars.contains s → ∀ H,Q (.ret,[(4,.p (.int .i64 (ixP chars.contains s)))],H)) →
  Wp Γ strings_IndexAny_l1 [(1,.p (.str chars)),(45,.bx 0 0)] [.box (iterCells s i)] (InBlk [] 2 Q) := by
 intro k
 induction k with
 | zero =>
  intro i hi hk hn h1 h2
  obtain rfl : i = s.length := by omega
  rw [W_loop (L := strings_IndexAny_l1) rfl]
  simp (disch := first | assumption | omega | decide | (simp only [lens] <;> omega) | fail) only [go_sem]
  exact h1 (by rw [ixP_none hn]; omega) _
 | succ k ih =>
  intro i hi hk hn h1 h2
  by_cases hlt : i < s.length
  ·by_cases hb : (s.getD i 0).toNat < 128
   ·have e := rune_ascii hb
    rw [W_loop (L := strings_IndexAny_l1) rfl]
    simp (disch := first | assumption | omega | decide | (simp only [lens] <;> omega) | fail) only [go_sem,e,res_IndexRune_ascii]
    have e2 : (s.getD i 0).toNat.toUInt8 = s.getD i 0 := by simp
    rw [e2]
    refine cond_split (fun hc => ?_) (fun hc => ?_)
    ·simp (disch := first | assumption | omega | decide | (simp only [lens] <;> omega) | fail) only [go_sem]
     rw [ixP_some hlt (ixB_mem.1 hc) hn] at h2
     exact h2 (by omega) _
    ·simp (disch := first | assumption | omega | decide | (simp only [lens] <;> omega) | fail) only [go_sem]
     refine ih (i + 1) (by omega) (by omega) (fun j hj => ?_) h1 h2
     by_cases h : j = i
     ·subst h
      have := mt ixB_mem.2 hc
      simpa using this
     ·exact hn j (by omega)
   ·obtain ⟨g1,g2,g3,g4,g5⟩ := rune_other hlt hb
    rw [W_loop (L := strings_IndexAny_l1) rfl]
    simp (disch := first | assumption | omega | decide | (simp only [lens] <;> omega) | fail) only [go_sem,res_IndexRune_other]
    refine ih _ (by omega) (by omega) (fun j hj => ?_) h1 h2
    by_cases h : j < i
    ·exact hn j h
    ·have := g5 (j - i) (by omega)
     rw [show i + (j - i) = j by omega] at this
     by_cases hx : chars.contains (s.getD j 0) = true
     ·have := ha _ (List.contains_iff_mem.1 hx)
      omega
     ·simpa using hx
  ·obtain rfl : i = s.length := by omega
   rw [W_loop (L := strings_IndexAny_l1) rfl]
   simp (disch := first | assumption | omega | decide | (simp only [lens] <;> omega) | fail) only [go_sem]
   exact h1 (by rw [ixP_none hn]; omega) _
@[go_sem] theorem res_useASCII (n : Int) : res Γ 85 [.int .i64 n] = some [.bool (decide (8 < n))] := by
 refine res_code (fn := strings_shouldUseASCIISet) rfl rfl ?_
 simp (disch := first | assumption | omega | decide | (simp only [lens] <;> omega) | fail) only [go_sem,strings_shouldUseASCIISet]
theorem ixP_neg {p s} (h : ixP p s < 0) : ixP p s = -1 := by have := @ixP_range p s; omega
set_option maxRecDepth 10000 in
theorem res_IndexAny (s chars : List UInt8) (hs : s.length < 1000000000) (h2 : 2 ≤ chars.length) (hcl : chars.length < 1000000000) (ha : ∀ b ∈ chars,b.toNat < 128) : res Γ 24 [.str s,.str chars] = some [.int .i64 (ixP chars.contains s)] := by
 have hne : ¬ chars = [] := by intro h; subst h; simp at h2
 have hl := @chrB_len chars
 refine res_code (fn := strings_IndexAny) rfl rfl ?_
 simp (disch := first | assumption | omega | decide | (simp only [lens] <;> omega) | fail) only [go_sem,strings_IndexAny]
 refine cond_split (fun hc => ?_) (fun hc => ?_)
 ·simp (disch := first | assumption | omega | decide | (simp only [lens] <;> omega) | fail) only [go_sem]
  refine IndexAny_l2_ok s chars hs _ s.length 0 (by omega) (by omega) (fun h => ?_) (fun h => ?_)
  ·simp (disch := first | assumption | omega | decide | (simp only [lens] <;> omega) | fail) only [go_sem,ixP_neg h]
  ·simp (disch := first | assumption | omega | decide | (simp only [lens] <;> omega) | fail) only [go_sem]
 ·simp (disch := first | assumption | omega | decide | (simp only [lens] <;> omega) | fail) only [go_sem]
  refine IndexAny_l1_ok s chars hs hcl ha _ s.length 0 (by omega) (by omega) (by omega) (fun h H => ?_) (fun h H => ?_)
  ·simp (disch := first | assumption | omega | decide | (simp only [lens] <;> omega) | fail) only [go_sem,ixP_neg h]
  ·simp (disch := first | assumption | omega | decide | (simp only [lens] <;> omega) | fail) only [go_sem]
end Ab
namespace Ab
open Go (IntKind BinOp UnOp)
theorem set_1add {α : Type} {x : α} {l : List α} {n : Nat} {a : α} : (x :: l).set (1 + n) a = x :: l.set n a := by rw [Nat.add_comm]; rfl
theorem rep257 : List.replicate 257 (PV.bool false) = bools (false :: none256) := by
 unfold none256
 rw [← List.replicate_succ,bools_rep]
theorem bools_cons {b : Bool} {l : List Bool} : bools (b :: l) = .bool b :: bools l := rfl
theorem getD_u8 {s : List UInt8} {i : Nat} : (byt s i).toNat = (s.getD i 0).toNat := by unfold byt; omega
theorem fills_l1_ok (an : Bool) (st : List Bool) (hst : st.length = 256) (a b : Nat) (hb : b < 256) (Q : Out → Prop) : ∀ (d k : Nat),a + k + d = b + 1 →
  Q (.nrm,[],[.box ((bools (an :: fillN st a (b + 1 - a))).map .p)]) →
  Wp Γ glob_piece_fills_l1 [(0,.bx 0 0),(2,.p (.int .u8 b)),(6,.p (.int .i64 ((a : Int) + (k : Int))))] [.box ((bools (an :: fillN st a k)).map .p)] (InBlk [] 0 Q) := by
 intro d
 induction d with
 | zero =>
  intro k hk hQ
  have e : b + 1 - a = k := by omega
  rw [e] at hQ
  rw [W_loop (L := glob_piece_fills_l1) rfl]
  simp (disch := first | assumption | omega | decide | (simp only [lens] <;> omega) | fail) only [go_sem]
  exact hQ
 | succ d ih =>
  intro k hk hQ
  have hl : (an :: fillN st a k).length = 257 := by rw [List.length_cons,fillN_len,hst]
  rw [W_loop (L := glob_piece_fills_l1) rfl]
  simp (disch := first | assumption | omega | decide | (simp only [lens] <;> omega) | fail) only [go_sem,tnA,set_1add]
  have := ih (k + 1) (by omega) hQ
  rw [fillN] at this
  exact this
theorem resM_fills {an : Bool} {st : List Bool} (hst : st.length = 256) {a b : Int} (ha : 0 ≤ a) (hab : a ≤ b) (hb : b < 256) :
  resM Γ 1 53 [.bx 0 0,.p (.int .u8 a),.p (.int .u8 b)] [.box ((bools (an :: st)).map .p)] = some ([],[.box ((bools (an :: fillN st a.toNat (b.toNat + 1 - a.toNat))).map .p)]) := by
 obtain ⟨a,rfl⟩ := Int.eq_ofNat_of_zero_le ha
 obtain ⟨b,rfl⟩ := Int.eq_ofNat_of_zero_le (show 0 ≤ b by omega)
 refine resM_code (fn := glob_piece_fills) rfl rfl ?_
 simp (disch := first | assumption | omega | decide | (simp only [lens] <;> omega) | fail) only [go_sem,glob_piece_fills]
 have := fills_l1_ok an st hst a b (by omega) (EndsM 1 glob_piece_fills.results ([],[.box ((bools (an :: fillN st (a : Int).toNat ((b : Int).toNat + 1 - (a : Int).toNat))).map .p)])) (b + 1 - a) 0 (by omega) (by
  simp (disch := first | assumption | omega | decide | (simp only [lens] <;> omega) | fail) only [go_sem,glob_piece_fills,Int.toNat_natCast])
 exact this
theorem still53 : stillF Γ 1 53 = true := rfl
theorem classF_3 {a b c : UInt8} {r : List UInt8} {acc : List Bool} : classF (a :: b :: c :: r) acc = if b = 45 then (if c < a then none else classF r (fillN acc a.toNat (c.toNat - a.toNat + 1))) else classF (b :: c :: r) (fillN acc a.toNat 1) := by
 rw [classF]
theorem classF_short {a : UInt8} {r : List UInt8} {acc : List Bool} (h : r.length < 2) : classF (a :: r) acc = classF r (fillN acc a.toNat 1) := by
 match r,h with
 | [],_ => rfl
 | [b],_ => rfl
theorem drop3 {s : List UInt8} {i : Nat} (h : i + 2 < s.length) : s.drop i = s.getD i 0 :: s.getD (i + 1) 0 :: s.getD (i + 2) 0 :: s.drop (i + 3) := by
 rw [List.drop_eq_getElem_cons (by omega),List.drop_eq_getElem_cons (show i + 1 < s.length by omega),List.drop_eq_getElem_cons (show i + 2 < s.length by omega)]
 simp [List.getElem?_eq_getElem (show i < s.length by omega),List.getElem?_eq_getElem (show i + 1 < s.length by omega),List.getElem?_eq_getElem (show i + 2 < s.length by omega)]
theorem drop1 {s : List UInt8} {i : Nat} (h : i < s.length) : s.drop i = s.getD i 0 :: s.drop (i + 1) := by
 rw [List.drop_eq_getElem_cons h]
 simp [List.getElem?_eq_getElem h]
theorem byt_lt_iff {s : List UInt8} {i j : Nat} : byt s i < byt s j ↔ s.getD i 0 < s.getD j 0 := by
 rw [UInt8.lt_iff_toNat_lt]; unfold byt; omega
theorem class_l1_ok (s : List UInt8) (hs : s.length < 900000000) (Q : Out → Prop) : ∀ (n i : Nat) (acc : List Bool),s.length ≤ i + n → i ≤ s.length → acc.length = 256 →
  (∀ H,classF (s.drop i) acc = none → Q (.ret,[(2,.p .nilp),(3,.p (.bool false))],H)) →
  (∀ acc',classF (s.drop i) acc = some acc' → Q (.nrm,[(0,.p (.str s)),(4,.bx 0 0)],[.box ((bools (false :: acc')).map .p)])) →
  Wp Γ glob_class_l1 [(0,.p (.str s)),(4,.bx 0 0),(5,.p (.int .i64 (i : Int)))] [.box ((bools (false :: acc)).map .p)] (InBlk [0,4] 0 Q) := by
 intro n
 induction n with
 | zero =>
  intro i acc hn hi ha h1 h2
  obtain rfl : i = s.length := by omega
  rw [W_loop (L := glob_class_l1) rfl]
  simp (disch := first | assumption | omega | decide | (simp only [lens] <;> omega) | fail) only [go_sem]
  exact h2 acc (by rw [List.drop_length]; rfl)
 | succ n ih =>
  intro i acc hn hi ha h1 h2
  by_cases hlt : i < s.length
  ·have b0 := @byt_nonneg s i
   have b1 := @byt_le s i
   have f1 : byt s i = 0 + byt s i := by omega
   by_cases h3 : i + 2 < s.length
   ·rw [drop3 h3,classF_3] at h1 h2
    have c0 := @byt_nonneg s (i + 2)
    have c1 := @byt_le s (i + 2)
    by_cases h45 : byt s (i + 1) = 45
    ·have e45 : s.getD (i + 1) 0 = 45 := (byt_eqG 45).1 h45
     rw [if_pos e45] at h1 h2
     by_cases hc : byt s (i + 2) < byt s i
     ·rw [if_pos (byt_lt_iff.1 hc)] at h1
      rw [W_loop (L := glob_class_l1) rfl]
      simp (disch := first | assumption | omega | decide | (simp only [lens] <;> omega) | fail) only [go_sem,tn1,tn2]
      exact h1 _ rfl
     ·rw [if_neg (fun h => hc (byt_lt_iff.2 h))] at h1 h2
      have e := fun an => resM_fills (an := an) ha b0 (show byt s i ≤ byt s (i + 2) by omega) (by omega)
      have el : (byt s (i + 2)).toNat + 1 - (byt s i).toNat = (s.getD (i + 2) 0).toNat - (s.getD i 0).toNat + 1 := by
       rw [getD_u8,getD_u8]
       unfold byt at hc
       omega
      rw [W_loop (L := glob_class_l1) rfl]
      simp (disch := first | assumption | omega | decide | (simp only [lens] <;> omega) | fail) only [go_sem,tn1,tn2,e,still53]
      rw [el,getD_u8]
      exact ih (i + 3) _ (by omega) (by omega) (by rw [fillN_len,ha]) h1 h2
    ·have e45 : ¬ s.getD (i + 1) 0 = 45 := fun h => h45 ((byt_eqG 45).2 h)
     rw [if_neg e45] at h1 h2
     have e := fun an => resM_fills (an := an) ha b0 (Int.le_refl _) (by omega)
     have el : (byt s i).toNat + 1 - (byt s i).toNat = 1 := by omega
     have ed : s.getD (i + 1) 0 :: s.getD (i + 2) 0 :: s.drop (i + 3) = s.drop (i + 1) := by
      have := drop3 h3
      rw [drop1 hlt] at this
      exact (List.cons.inj this).2.symm
     rw [ed] at h1 h2
     rw [W_loop (L := glob_class_l1) rfl]
     simp (disch := first | assumption | omega | decide | (simp only [lens] <;> omega) | fail) only [go_sem,tn1,e,still53]
     rw [el,getD_u8]
     exact ih (i + 1) _ (by omega) (by omega) (by rw [fillN_len,ha]) h1 h2
   ·rw [drop1 hlt,classF_short (by rw [List.length_drop]; omega)] at h1 h2
    have e := fun an => resM_fills (an := an) ha b0 (Int.le_refl _) (by omega)
    have el : (byt s i).toNat + 1 - (byt s i).toNat = 1 := by omega
    rw [W_loop (L := glob_class_l1) rfl]
    simp (disch := first | assumption | omega | decide | (simp only [lens] <;> omega) | fail) only [go_sem,e,still53]
    rw [el,getD_u8]
    exact ih (i + 1) _ (by omega) (by omega) (by rw [fillN_len,ha]) h1 h2
  ·obtain rfl : i = s.length := by omega
   rw [W_loop (L := glob_class_l1) rfl]
   simp (disch := first | assumption | omega | decide | (simp only [lens] <;> omega) | fail) only [go_sem]
   exact h2 acc (by rw [List.drop_length]; rfl)
theorem res_globClass_no (s : List UInt8) (hs : s.length < 900000000) (h : classF s none256 = none) : res Γ 54 [.str s] = some [.nilp,.bool false] := by
 refine res_code (fn := glob_class) rfl rfl ?_
 simp (disch := first | assumption | omega | decide | (simp only [lens] <;> omega) | fail) only [go_sem,glob_class,rep257,pures_map]
 refine class_l1_ok s hs _ s.length 0 none256 (by omega) (by omega) none256_len (fun H h' => ?_) (fun acc h' => ?_)
 ·simp (disch := first | assumption | omega | decide | (simp only [lens] <;> omega) | fail) only [go_sem]
 ·rw [List.drop_zero,h] at h'; cases h'
theorem res_globClass (s : List UInt8) (hs : s.length < 900000000) {st : List Bool} (h : classF s none256 = some st) : res Γ 54 [.str s] = some [tokP (false,st),.bool (decide (s ≠ []))] := by
 refine res_code (fn := glob_class) rfl rfl ?_
 simp (disch := first | assumption | omega | decide | (simp only [lens] <;> omega) | fail) only [go_sem,glob_class,rep257,pures_map]
 refine class_l1_ok s hs _ s.length 0 none256 (by omega) (by omega) none256_len (fun H h' => ?_) (fun acc h' => ?_)
 ·rw [List.drop_zero,h] at h'; cases h'
 ·rw [List.drop_zero,h] at h'
  cases h'
  have hl : 0 < (bools (false :: st)).length := by rw [bools_len]; simp
  simp (disch := first | assumption | omega | decide | (simp only [lens] <;> omega) | fail) only [go_sem]
  rfl
end Ab
namespace Ab
open Go (IntKind BinOp UnOp)
theorem toks_none {r : List UInt8} {x : Tok} (h : toksF r = none) : (toksF r).map (x :: ·) = none := by rw [h]; rfl
theorem toks_some {r : List UInt8} {x : Tok} {t : List Tok} (h : toksF r = some t) : (toksF r).map (x :: ·) = some (x :: t) := by rw [h]; rfl
theorem byt_ne {s : List UInt8} {i : Nat} {b : UInt8} (h : byt s i ≠ (b.toNat : Int)) : s.getD i 0 ≠ b := fun e => h ((byt_eqG b).2 e)
theorem single_cutI {s : List UInt8} {i : Nat} (h : i < s.length) : (s.take ((i : Int) + 1).toNat).drop i = [s.getD i 0] := by rw [tn1]; exact single_cut h
set_option maxRecDepth 10000 in
theorem pieces_l1_ok (s : List UInt8) (hs : s.length < 900000000) (Q : Out → Prop) : ∀ (n i : Nat) (done : List Tok) (R : Heap),s.length ≤ i + n → i ≤ s.length → done.length ≤ i →
  (∀ H,toksF (s.drop i) = none → Q (.ret,[(2,.p (.sl .nil 1 [])),(3,.p (.bool false))],H)) →
  (∀ t,toksF (s.drop i) = some t → Q (.nrm,[(4,.own 0 (done ++ t).length)],[.row false 1 (ptrs (done ++ t))])) →
  Wp Γ glob_pieces_l1 [(0,.p (.str s)),(4,.own 0 done.length),(5,.p (.int .i64 (i : Int)))] (.row false 1 (ptrs done) :: R) (InBlk [4] 0 Q) := by
 intro n
 induction n with
 | zero =>
  intro i done R hn hi hd h1 h2
  obtain rfl : i = s.length := by omega
  rw [W_loop (L := glob_pieces_l1) rfl]
  simp (disch := first | assumption | omega | decide | (simp only [lens] <;> omega) | fail) only [go_sem]
  have := h2 [] (by rw [List.drop_length,toksF])
  rw [List.append_nil] at this
  exact this
 | succ n ih =>
  intro i done R hn hi hd h1 h2
  by_cases hlt : i < s.length
  ·have b0 := @byt_nonneg s i
   have b1 := @byt_le s i
   have next : ∀ (j : Nat) (x : Tok) (R : Heap),(∀ H,toksF (s.drop j) = none → Q (.ret,[(2,.p (.sl .nil 1 [])),(3,.p (.bool false))],H)) → (∀ t,toksF (s.drop j) = some t → Q (.nrm,[(4,.own 0 (done ++ x :: t).length)],[.row false 1 (ptrs (done ++ x :: t))])) → i < j → j ≤ s.length →
     Wp Γ glob_pieces_l1 [(0,.p (.str s)),(4,.own 0 (done.length + 1)),(5,.p (.int .i64 (j : Int)))] (.row false 1 (ptrs (done ++ [x])) :: R) (InBlk [4] 0 Q) := by
    intro j x R k1 k2 k3 k4
    have := ih j (done ++ [x]) R (by omega) (by omega) (by simp; omega) k1 (fun t ht => by
     have := k2 t ht
     rw [List.append_assoc]; exact this)
    simpa using this
   rw [drop1 hlt,toksF] at h1 h2
   have hn256 := none256_len
   have hpl := @ptrs_len done
   by_cases e42 : byt s i = 42
   ·rw [if_pos ((byt_eqG 42).1 e42)] at h1 h2
    rw [W_loop (L := glob_pieces_l1) rfl]
    simp (disch := first | assumption | omega | decide | (simp only [lens] <;> omega) | fail) only [go_sem,rep257,pures_map,e42]
    exact next (i + 1) _ _ (fun H h => h1 H (toks_none h)) (fun t h => h2 _ (toks_some h)) (by omega) (by omega)
   ·rw [if_neg (byt_ne (b := 42) e42)] at h1 h2
    by_cases e63 : byt s i = 63
    ·rw [if_pos ((byt_eqG 63).1 e63)] at h1 h2
     have e := fun an => resM_fills (an := an) none256_len (a := 0) (b := 255) (by omega) (by omega) (by omega)
     rw [W_loop (L := glob_pieces_l1) rfl]
     simp (disch := first | assumption | omega | decide | (simp only [lens] <;> omega) | fail) only [go_sem,rep257,pures_map,e63,e,still53,Int.toNat_zero]
     exact next (i + 1) _ _ (fun H h => h1 H (toks_none h)) (fun t h => h2 _ (toks_some h)) (by omega) (by omega)
    ·rw [if_neg (byt_ne (b := 63) e63)] at h1 h2
     by_cases e91 : byt s i = 91
     ·rw [if_pos ((byt_eqG 91).1 e91)] at h1 h2
      have hx := @ixB_nn (s.drop (i + 1)) 93
      have ex : ixB (s.drop i) 93 = if ixB (s.drop (i + 1)) 93 = -1 then -1 else ixB (s.drop (i + 1)) 93 + 1 := by
       rw [drop1 hlt,(byt_eqG 91).1 e91]
       simp only [ixB,show ((91 : UInt8) == 93) = false by decide,Bool.false_eq_true,if_false]
       simp
      generalize ixB (s.drop (i + 1)) 93 = x at *
      rw [List.length_drop] at hx
      have l93 : Nat.toUInt8 93 = 93 := rfl
      by_cases hx0 : x = -1
      ·rw [if_pos hx0] at ex
       rw [if_pos (by omega)] at h1
       rw [W_loop (L := glob_pieces_l1) rfl]
       simp (disch := first | assumption | omega | decide | (simp only [lens] <;> omega) | fail) only [go_sem,rep257,pures_map,e91,l93,ex]
       exact h1 _ rfl
      ·rw [if_neg hx0] at ex
       obtain ⟨x,rfl⟩ := Int.eq_ofNat_of_zero_le (show 0 ≤ x by omega)
       have ea : ((i : Int) + ((x : Int) + 1)).toNat = i + 1 + x := by omega
       have ec : (s.take (i + 1 + x)).drop (i + 1) = (s.drop (i + 1)).take x := by
        rw [List.drop_take,show i + 1 + x - (i + 1) = x by omega]
       rw [Int.toNat_natCast] at h1 h2
       cases hc : classF ((s.drop (i + 1)).take x) none256 with
       | none =>
        have er := res_globClass_no _ (by rw [List.length_take,List.length_drop]; omega) hc
        rw [W_loop (L := glob_pieces_l1) rfl]
        simp (disch := first | assumption | omega | decide | (simp only [lens] <;> omega) | fail) only [go_sem,rep257,pures_map,e91,l93,ex,tn1,ea,ec,er]
        refine h1 _ ?_
        rw [hc]
        split <;> rfl
       | some st =>
        have er := res_globClass _ (by rw [List.length_take,List.length_drop]; omega) hc
        rw [hc] at h1 h2
        by_cases h0 : x = 0
        ·subst h0
         rw [List.take_zero] at er
         rw [if_pos (by omega)] at h1
         rw [W_loop (L := glob_pieces_l1) rfl]
         simp (disch := first | assumption | omega | decide | (simp only [lens] <;> omega) | fail) only [go_sem,rep257,pures_map,e91,l93,ex,tn1,ea,ec,er,ne_eq,not_true_eq_false,List.take_zero]
         exact h1 _ rfl
        ·have hne : (s.drop (i + 1)).take x ≠ [] := fun h => by
          have := congrArg List.length h
          rw [List.length_take,List.length_drop,List.length_nil] at this
          omega
         rw [if_neg (by omega)] at h1 h2
         rw [decide_eq_true hne] at er
         rw [List.drop_drop] at h1 h2
         rw [W_loop (L := glob_pieces_l1) rfl]
         simp (disch := first | assumption | omega | decide | (simp only [lens] <;> omega) | fail) only [go_sem,rep257,pures_map,e91,l93,ex,tn1,ea,ec,er,tokP]
         have := fun R => next (i + 1 + (x + 1)) (false,st) R (fun H h => h1 H (toks_none h)) (fun t h => h2 _ (toks_some h)) (by omega) (by omega)
         rw [show (((i + 1 + (x + 1) : Nat)) : Int) = (i : Int) + ((x : Int) + 1) + 1 by omega] at this
         exact this _
     ·rw [if_neg (byt_ne (b := 91) e91)] at h1 h2
      have er := res_nameIs1 (s.getD i 0)
      cases hb : byteOk (s.getD i 0)
      ·rw [if_neg (by rw [hb]; decide)] at h1
       rw [hb] at er
       rw [W_loop (L := glob_pieces_l1) rfl]
       simp (disch := first | assumption | omega | decide | (simp only [lens] <;> omega) | fail) only [go_sem,rep257,pures_map,single_cutI,er]
       exact h1 _ rfl
      ·rw [if_pos hb] at h1 h2
       rw [hb] at er
       have e := fun an => resM_fills (an := an) none256_len b0 (Int.le_refl _) (by omega)
       have el : (byt s i).toNat + 1 - (byt s i).toNat = 1 := by omega
       rw [W_loop (L := glob_pieces_l1) rfl]
       simp (disch := first | assumption | omega | decide | (simp only [lens] <;> omega) | fail) only [go_sem,rep257,pures_map,single_cutI,er,e,still53]
       rw [el,getD_u8]
       exact next (i + 1) _ _ (fun H h => h1 H (toks_none h)) (fun t h => h2 _ (toks_some h)) (by omega) (by omega)
  ·obtain rfl : i = s.length := by omega
   rw [W_loop (L := glob_pieces_l1) rfl]
   simp (disch := first | assumption | omega | decide | (simp only [lens] <;> omega) | fail) only [go_sem]
   have := h2 [] (by rw [List.drop_length,toksF])
   rw [List.append_nil] at this
   exact this
theorem res_pieces_no (s : List UInt8) (hs : s.length < 900000000) (h : toksF s = none) : res Γ 35 [.str s] = some [.sl .nil 1 [],.bool false] := by
 refine res_code (fn := glob_pieces) rfl rfl ?_
 simp (disch := first | assumption | omega | decide | (simp only [lens] <;> omega) | fail) only [go_sem,glob_pieces]
 refine pieces_l1_ok s hs _ s.length 0 [] [] (by omega) (by omega) (by simp) (fun H h' => ?_) (fun t h' => ?_)
 ·simp (disch := first | assumption | omega | decide | (simp only [lens] <;> omega) | fail) only [go_sem]
 ·rw [List.drop_zero,h] at h'; cases h'
theorem res_pieces (s : List UInt8) (hs : s.length < 900000000) {t : List Tok} (h : toksF s = some t) : res Γ 35 [.str s] = some [.sl .any 1 (ptrs t),.bool true] := by
 refine res_code (fn := glob_pieces) rfl rfl ?_
 simp (disch := first | assumption | omega | decide | (simp only [lens] <;> omega) | fail) only [go_sem,glob_pieces]
 refine pieces_l1_ok s hs _ s.length 0 [] [] (by omega) (by omega) (by simp) (fun H h' => ?_) (fun t' h' => ?_)
 ·rw [List.drop_zero,h] at h'; cases h'
 ·rw [List.drop_zero,h] at h'
  cases h'
  have hpl := @ptrs_len t
  simp (disch := first | assumption | omega | decide | (simp only [lens] <;> omega) | fail) only [go_sem]
end Ab
namespace Ab
open Classical in
noncomputable def mtD (T : List Tok) (s : List UInt8) : Bool := decide (Mt T s)
theorem mtD_iff {T s} : mtD T s = true ↔ Mt T s := by unfold mtD; simp
noncomputable def dpV (T : List Tok) (s : List UInt8) : List Bool := (List.range (s.length + 1)).map fun k => mtD T (s.take k)
theorem dpV_len {T s} : (dpV T s).length = s.length + 1 := by simp [dpV]
theorem dpV_get {T : List Tok} {s : List UInt8} {k : Nat} (h : k < s.length + 1) : (dpV T s).getD k false = mtD T (s.take k) := by
 unfold dpV
 rw [List.getD_eq_getElem?_getD,List.getElem?_map,List.getElem?_range h]
 rfl
theorem dpV_nil {s : List UInt8} : dpV [] s = true :: List.replicate s.length false := by
 refine List.ext_getElem (by rw [dpV_len]; simp) fun i h1 h2 => ?_
 simp only [dpV,List.getElem_map,List.getElem_range]
 cases i with
 | zero =>
  have : mtD [] (s.take 0) = true := mtD_iff.2 rfl
  rw [this]; rfl
 | succ i =>
  rw [dpV_len] at h1
  have : mtD [] (s.take (i + 1)) = false := by
   cases hb : mtD [] (s.take (i + 1))
   ·rfl
   ·have := mtD_iff.1 hb
    have : s.take (i + 1) = [] := this
    have := congrArg List.length this
    rw [List.length_take,List.length_nil] at this
    omega
  rw [this]
  simp
theorem mtD_congr {T U : List Tok} {s u : List UInt8} (h : Mt T s ↔ Mt U u) : mtD T s = mtD U u := by
 cases h1 : mtD T s <;> cases h2 : mtD U u
 ·rfl
 ·have := mtD_iff.2 (h.2 (mtD_iff.1 h2)); rw [h1] at this; cases this
 ·have := mtD_iff.2 (h.1 (mtD_iff.1 h1)); rw [h2] at this; cases this
 ·rfl
theorem dp_star0 {T : List Tok} {t : Tok} {s : List UInt8} (h : t.1 = true) : (dpV (T ++ [t]) s).getD 0 false = (dpV T s).getD 0 false := by
 rw [dpV_get (by omega),dpV_get (by omega)]
 exact mtD_congr (place_star0 h)
theorem dp_star {T : List Tok} {t : Tok} {s : List UInt8} {k : Nat} (h : t.1 = true) (hk : k < s.length) : (dpV (T ++ [t]) s).getD (k + 1) false = ((dpV T s).getD (k + 1) false || (dpV (T ++ [t]) s).getD k false) := by
 rw [dpV_get (by omega),dpV_get (by omega),dpV_get (by omega)]
 have := place_star (ts := T) (t := t) (s := s) h hk
 cases h1 : mtD T (s.take (k + 1)) <;> cases h2 : mtD (T ++ [t]) (s.take k)
 ·cases h3 : mtD (T ++ [t]) (s.take (k + 1))
  ·rfl
  ·rcases this.1 (mtD_iff.1 h3) with h | h
   ·rw [mtD_iff.2 h] at h1; cases h1
   ·rw [mtD_iff.2 h] at h2; cases h2
 ·exact mtD_iff.2 (this.2 (.inr (mtD_iff.1 h2)))
 ·exact mtD_iff.2 (this.2 (.inl (mtD_iff.1 h1)))
 ·exact mtD_iff.2 (this.2 (.inl (mtD_iff.1 h1)))
theorem dp_set0 {T : List Tok} {t : Tok} {s : List UInt8} (h : t.1 = false) : (dpV (T ++ [t]) s).getD 0 false = false := by
 rw [dpV_get (by omega)]
 cases h1 : mtD (T ++ [t]) (s.take 0)
 ·rfl
 ·exact absurd (mtD_iff.1 h1) (place_set0 h)
theorem dp_set {T : List Tok} {t : Tok} {s : List UInt8} {k : Nat} (h : t.1 = false) (hk : k < s.length) : (dpV (T ++ [t]) s).getD (k + 1) false = ((dpV T s).getD k false && inT t (s.getD k 0)) := by
 rw [dpV_get (by omega),dpV_get (by omega)]
 have hc : s[k]? = some (s.getD k 0) := by rw [List.getD_eq_getElem?_getD,List.getElem?_eq_getElem hk]; rfl
 have := place_set (ts := T) (t := t) (s := s) h hc
 cases h1 : mtD T (s.take k) <;> cases h2 : inT t (s.getD k 0)
 ·cases h3 : mtD (T ++ [t]) (s.take (k + 1))
  ·rfl
  ·have := (this.1 (mtD_iff.1 h3)).1; rw [mtD_iff.2 this] at h1; cases h1
 ·cases h3 : mtD (T ++ [t]) (s.take (k + 1))
  ·rfl
  ·have := (this.1 (mtD_iff.1 h3)).1; rw [mtD_iff.2 this] at h1; cases h1
 ·cases h3 : mtD (T ++ [t]) (s.take (k + 1))
  ·rfl
  ·have := (this.1 (mtD_iff.1 h3)).2; rw [h2] at this; cases this
 ·exact mtD_iff.2 (this.2 ⟨mtD_iff.1 h1,h2⟩)
theorem dp_last {T : List Tok} {s : List UInt8} : (dpV T s).getD s.length false = mtD T s := by
 rw [dpV_get (by omega),List.take_length]
end Ab
namespace Ab
def special (c : UInt8) : Bool := c == 123 || c == 125 || c == 44
def joinC : List (List UInt8) → List UInt8
 | [] => []
 | [a] => a
 | a :: r => a ++ 44 :: joinC r
theorem joinC_cons {a : List UInt8} {r : List (List UInt8)} (h : r ≠ []) : joinC (a :: r) = a ++ 44 :: joinC r := by
 cases r with
 | nil => exact absurd rfl h
 | cons b r => rfl
def prodL (a b : List (List UInt8)) : List (List UInt8) := a.flatMap fun x => b.map (x ++ ·)
theorem prodL_len (a b : List (List UInt8)) : (prodL a b).length = a.length * b.length := by
 unfold prodL
 induction a with
 | nil => simp
 | cons x a ih => rw [List.flatMap_cons,List.length_append,ih,List.length_map,List.length_cons,Nat.add_mul]; omega
theorem prodL_assoc (a b c : List (List UInt8)) : prodL (prodL a b) c = prodL a (prodL b c) := by
 unfold prodL
 induction a with
 | nil => rfl
 | cons x a ih =>
  rw [List.flatMap_cons,List.flatMap_append,ih,List.flatMap_cons]
  congr 1
  rw [List.flatMap_map,List.map_flatMap]
  congr 1
  funext y
  rw [List.map_map]
  congr 1
  funext z
  exact List.append_assoc x y z
theorem prodL_nil_right (a : List (List UInt8)) : prodL a [[]] = a := by
 unfold prodL
 induction a with
 | nil => rfl
 | cons x a ih => rw [List.flatMap_cons,ih]; simp
theorem prodL_nil_left (a : List (List UInt8)) : prodL [[]] a = a := by
 unfold prodL; simp
theorem prodL_one (p : List UInt8) (a : List (List UInt8)) : prodL [p] a = a.map (p ++ ·) := by
 unfold prodL; simp
inductive Exp : List UInt8 → List (List UInt8) → Prop
 | run (p) : (∀ c ∈ p,special c = false) → Exp p [p]
 | grp (p) (alts : List (List UInt8)) (f : List UInt8 → List (List UInt8)) (u l) : (∀ c ∈ p,special c = false) → alts ≠ [] → (∀ a ∈ alts,Exp a (f a)) → Exp u l →
   Exp (p ++ 123 :: (joinC alts ++ 125 :: u)) (prodL [p] (prodL (alts.flatMap f) l))
def scan : Nat → List UInt8 → Bool
 | d,[] => d == 0
 | d,c :: r => if c == 123 then scan (d + 1) r else if c == 125 then decide (0 < d) && scan (d - 1) r else if c == 44 then decide (0 < d) && scan d r else scan d r
theorem exp_lit {c : UInt8} {u : List UInt8} (hc : special c = false) (h : ∃ l,Exp u l) : ∃ l,Exp (c :: u) l := by
 obtain ⟨l,h⟩ := h
 cases h with
 | run _ hp => exact ⟨_,.run (c :: u) fun x hx => by
   rcases List.mem_cons.1 hx with rfl | hx
   ·exact hc
   ·exact hp x hx⟩
 | grp p alts f v m hp ha hf hv => exact ⟨_,.grp (c :: p) alts f v m (fun x hx => by
   rcases List.mem_cons.1 hx with rfl | hx
   ·exact hc
   ·exact hp x hx) ha hf hv⟩
open Classical in
theorem exp_grp {alts : List (List UInt8)} {u : List UInt8} (ha : alts ≠ []) (h : ∀ a ∈ alts,∃ l,Exp a l) (hu : ∃ l,Exp u l) : ∃ l,Exp (123 :: (joinC alts ++ 125 :: u)) l := by
 obtain ⟨l,hu⟩ := hu
 refine ⟨_,.grp [] alts (fun a => if h : ∃ l,Exp a l then h.choose else []) u l (by simp) ha (fun a hm => ?_) hu⟩
 have := h a hm
 simp only [this,dif_pos]
 exact this.choose_spec
theorem scan_exp : ∀ (n : Nat) (s : List UInt8),s.length ≤ n → ∀ d,scan d s = true → (d = 0 → ∃ l,Exp s l) ∧ (0 < d → ∃ alts rest,alts ≠ [] ∧ (∀ a ∈ alts,∃ l,Exp a l) ∧ s = joinC alts ++ 125 :: rest ∧ scan (d - 1) rest = true) := by
 intro n
 induction n with
 | zero =>
  intro s hs d h
  have : s = [] := List.eq_nil_of_length_eq_zero (by omega)
  subst this
  simp only [scan,beq_iff_eq] at h
  subst h
  exact ⟨fun _ => ⟨_,.run [] (by simp)⟩,fun h => absurd h (by omega)⟩
 | succ n ih =>
  intro s hs d h
  cases s with
  | nil =>
   simp only [scan,beq_iff_eq] at h
   subst h
   exact ⟨fun _ => ⟨_,.run [] (by simp)⟩,fun h => absurd h (by omega)⟩
  | cons c r =>
   simp only [List.length_cons] at hs
   by_cases h1 : c = 123
   ·subst h1
    simp only [scan,beq_self_eq_true,if_true] at h
    obtain ⟨alts,rest,k1,k2,k3,k4⟩ := (ih r (by omega) (d + 1) h).2 (by omega)
    rw [Nat.add_sub_cancel] at k4
    have hl : rest.length ≤ n := by
     have := congrArg List.length k3
     rw [List.length_append,List.length_cons] at this
     omega
    obtain ⟨j1,j2⟩ := ih rest hl d k4
    refine ⟨fun hd => ?_,fun hd => ?_⟩
    ·rw [k3]; exact exp_grp k1 k2 (j1 hd)
    ·obtain ⟨alts2,rest2,m1,m2,m3,m4⟩ := j2 hd
     cases alts2 with
     | nil => exact absurd rfl m1
     | cons a as =>
      refine ⟨(123 :: (joinC alts ++ 125 :: a)) :: as,rest2,by simp,fun x hx => ?_,?_,m4⟩
      ·rcases List.mem_cons.1 hx with rfl | hx
       ·exact exp_grp k1 k2 (m2 a (by simp))
       ·exact m2 x (by simp [hx])
      ·rw [k3,m3]
       cases as with
       | nil => simp [joinC]
       | cons b bs => simp [joinC]
   ·by_cases h2 : c = 125
    ·subst h2
     simp only [scan,show ((125 : UInt8) == 123) = false by decide,beq_self_eq_true,if_true,Bool.false_eq_true,if_false,Bool.and_eq_true,decide_eq_true_eq] at h
     refine ⟨fun hd => absurd h.1 (by omega),fun hd => ⟨[[]],r,by simp,fun x hx => ?_,rfl,h.2⟩⟩
     rw [List.mem_singleton] at hx
     subst hx
     exact ⟨_,.run [] (by simp)⟩
    ·by_cases h3 : c = 44
     ·subst h3
      simp only [scan,show ((44 : UInt8) == 123) = false by decide,show ((44 : UInt8) == 125) = false by decide,beq_self_eq_true,if_true,Bool.false_eq_true,if_false,Bool.and_eq_true,decide_eq_true_eq] at h
      refine ⟨fun hd => absurd h.1 (by omega),fun hd => ?_⟩
      obtain ⟨alts,rest,k1,k2,k3,k4⟩ := (ih r (by omega) d h.2).2 hd
      refine ⟨[] :: alts,rest,by simp,fun x hx => ?_,?_,k4⟩
      ·rcases List.mem_cons.1 hx with rfl | hx
       ·exact ⟨_,.run [] (by simp)⟩
       ·exact k2 x hx
      ·rw [joinC_cons k1,k3]; rfl
     ·have e1 : (c == 123) = false := by simpa using h1
      have e2 : (c == 125) = false := by simpa using h2
      have e3 : (c == 44) = false := by simpa using h3
      have hc : special c = false := by simp [special,e1,e2,e3]
      simp only [scan,e1,e2,e3,Bool.false_eq_true,if_false] at h
      obtain ⟨j1,j2⟩ := ih r (by omega) d h
      refine ⟨fun hd => exp_lit hc (j1 hd),fun hd => ?_⟩
      obtain ⟨alts,rest,k1,k2,k3,k4⟩ := j2 hd
      cases alts with
      | nil => exact absurd rfl k1
      | cons a as =>
       refine ⟨(c :: a) :: as,rest,by simp,fun x hx => ?_,?_,k4⟩
       ·rcases List.mem_cons.1 hx with rfl | hx
        ·exact exp_lit hc (k2 a (by simp))
        ·exact k2 x (by simp [hx])
       ·rw [k3]
        cases as with
        | nil => rfl
        | cons b bs => rfl
theorem exp_of_scan {s : List UInt8} (h : scan 0 s = true) : ∃ l,Exp s l := (scan_exp s.length s (Nat.le_refl _) 0 h).1 rfl
theorem exp_pos {s : List UInt8} {l : List (List UInt8)} (h : Exp s l) : 0 < l.length := by
 induction h with
 | run => simp
 | grp p alts f u l hp ha hf _ ih ihu =>
  rw [prodL_len,prodL_len]
  have : 0 < (alts.flatMap f).length := by
   cases alts with
   | nil => exact absurd rfl ha
   | cons a as =>
    rw [List.flatMap_cons,List.length_append]
    have := ih a (by simp)
    omega
  simp only [List.length_cons,List.length_nil]
  exact Nat.mul_pos (by omega) (Nat.mul_pos this ihu)
end Ab
namespace Ab
def single (c : UInt8) : Tok := (false,fillN none256 c.toNat 1)
theorem single_in {c x : UInt8} : inT (single c) x = (c == x) := by
 unfold inT single
 rw [one_get none256_len,none256_get,Bool.false_or]
theorem scan_lit {c : UInt8} {d : Nat} {r : List UInt8} (h : special c = false) : scan d (c :: r) = scan d r := by
 simp only [special,Bool.or_eq_false_iff] at h
 obtain ⟨⟨h1,h2⟩,h3⟩ := h
 simp only [scan,h1,h2,h3,Bool.false_eq_true,if_false]
theorem scan_run {d : Nat} : ∀ {p r : List UInt8},(∀ c ∈ p,special c = false) → scan d (p ++ r) = scan d r
 | [],_,_ => rfl
 | c :: p,r,h => by rw [List.cons_append,scan_lit (h c (by simp)),scan_run fun x hx => h x (by simp [hx])]
theorem scan_alts {d : Nat} : ∀ {alts : List (List UInt8)} {r : List UInt8},(∀ a ∈ alts,∀ d r,scan d (a ++ r) = scan d r) → scan (d + 1) (joinC alts ++ r) = scan (d + 1) r
 | [],_,_ => rfl
 | [a],r,h => h a (by simp) _ _
 | a :: b :: s,r,h => by
  rw [joinC_cons (by simp),List.append_assoc,h a (by simp),List.cons_append]
  have : scan (d + 1) (44 :: (joinC (b :: s) ++ r)) = scan (d + 1) (joinC (b :: s) ++ r) := by
   rw [scan]
   simp
  rw [this,scan_alts fun x hx => h x (by simp only [List.mem_cons] at hx ⊢; exact .inr hx)]
theorem exp_scan {u : List UInt8} {l : List (List UInt8)} (h : Exp u l) : ∀ d r,scan d (u ++ r) = scan d r := by
 induction h with
 | run p hp => exact fun d r => scan_run hp
 | grp p alts f u l hp ha hf _ ih ihu =>
  intro d r
  rw [List.append_assoc,scan_run hp,List.cons_append]
  have e1 : scan d (123 :: ((joinC alts ++ 125 :: u) ++ r)) = scan (d + 1) ((joinC alts ++ 125 :: u) ++ r) := by rw [scan]; simp
  rw [e1,List.append_assoc,scan_alts ih,List.cons_append]
  have e2 : scan (d + 1) (125 :: (u ++ r)) = scan d (u ++ r) := by rw [scan]; simp
  rw [e2,ihu]
theorem scan_of_exp {s : List UInt8} {l : List (List UInt8)} (h : Exp s l) : scan 0 s = true := by
 have := exp_scan h 0 []
 rw [List.append_nil] at this
 rw [this]; rfl
end Ab
namespace Ab
open Go (IntKind BinOp UnOp)
theorem lex3 {P : Nat → Nat → Nat → Prop} (h : ∀ a b c,(∀ a' b' c',a' < a → P a' b' c') → (∀ b' c',b' < b → P a b' c') → (∀ c',c' < c → P a b c') → P a b c) : ∀ a b c,P a b c := by
 intro a
 induction a using Nat.strongRecOn with
 | ind a iha =>
  intro b
  induction b using Nat.strongRecOn with
  | ind b ihb =>
   intro c
   induction c using Nat.strongRecOn with
   | ind c ihc => exact h a b c (fun a' b' c' h => iha a' h b' c') (fun b' c' h => ihb b' h c') (fun c' h => ihc c' h)
theorem toks_len : ∀ (n : Nat) {s : List UInt8} {t : List Tok},s.length ≤ n → toksF s = some t → (∀ x ∈ t,x.2.length = 256) ∧ t.length ≤ s.length := by
 intro n
 induction n with
 | zero =>
  intro s t hn h
  have : s = [] := List.eq_nil_of_length_eq_zero (by omega)
  subst this
  rw [toksF] at h
  cases h
  exact ⟨(fun _ hx => absurd hx List.not_mem_nil),Nat.le_refl _⟩
 | succ n ih =>
  intro s t hn h
  cases s with
  | nil =>
   rw [toksF] at h
   cases h
   exact ⟨(fun _ hx => absurd hx List.not_mem_nil),Nat.le_refl _⟩
  | cons c r =>
   rw [List.length_cons] at hn
   have step : ∀ (x : Tok) (r' : List UInt8),x.2.length = 256 → r'.length ≤ r.length → (toksF r').map (x :: ·) = some t → (∀ x ∈ t,x.2.length = 256) ∧ t.length ≤ (c :: r).length := by
    intro x r' hx hr ht
    obtain ⟨u,hu,rfl⟩ := Option.map_eq_some_iff.1 ht
    obtain ⟨k1,k2⟩ := ih (by omega) hu
    refine ⟨fun y hy => ?_,by simp; omega⟩
    rcases List.mem_cons.1 hy with rfl | hy
    ·exact hx
    ·exact k1 y hy
   rw [toksF] at h
   split at h
   ·exact step _ _ none256_len (Nat.le_refl _) h
   ·split at h
    ·exact step _ _ (by rw [fillN_len,none256_len]) (Nat.le_refl _) h
    ·split at h
     ·split at h
      ·cases h
      ·split at h
       ·cases h
       ·rename_i st hc
        exact step _ _ (by rw [classF_len hc,none256_len]) (by rw [List.length_drop]; omega) h
     ·split at h
      ·exact step _ _ (by rw [fillN_len,none256_len]) (Nat.le_refl _) h
      ·cases h
theorem getD_some {T : List Tok} {i : Nat} (h : i < T.length) : T[i]? = some (T.getD i (false,[])) := by
 rw [List.getD_eq_getElem?_getD,List.getElem?_eq_getElem h]; rfl
theorem tokmem {T : List Tok} {i : Nat} (h : i < T.length) : T.getD i (false,[]) ∈ T := by
 rw [List.getD_eq_getElem?_getD,List.getElem?_eq_getElem h]; simp
theorem Match_l2_ok {kk : SK} (T : List Tok) (S : List UInt8) (hT : T.length < 900000000) (h256 : ∀ x ∈ T,x.2.length = 256) (hs : S.length < 900000000) (Q : Out → Prop)
  (hret : ¬ Mt T S → Q (.ret,[(4,.p (.bool false))],[])) (hend : ∀ at_ st fr : Nat,Greedy T S at_ st fr S.length → Q (.nrm,[(5,.p (.sl kk 1 (ptrs T))),(7,.p (.int .i64 (at_ : Int)))],[])) :
  ∀ a b c : Nat,∀ at_ st fr i : Nat,a = T.length - st → b = S.length - fr → c = S.length - i → Greedy T S at_ st fr i →
  Wp Γ glob_Match_l2 [(1,.p (.str S)),(5,.p (.sl kk 1 (ptrs T))),(7,.p (.int .i64 (at_ : Int))),(8,.p (.int .i64 ((st : Int) - 1))),(9,.p (.int .i64 (fr : Int))),(10,.p (.int .i64 (i : Int)))] [] (InBlk [5,7] 0 Q) := by
 refine lex3 fun a b c iha ihb ihc at_ st fr i ea eb ec g => ?_
 have gi := g.hi
 have ga := g.ha
 have hpl := @ptrs_len T
 by_cases hi : i < S.length
 ·have b0 := @byt_nonneg S i
  have b1 := @byt_le S i
  have hfr : 0 < st → fr ≤ i := fun h => (g.some h).2.1
  have hst : 0 < st → st ≤ at_ := fun h => (g.some h).1
  have back : Stuck T S at_ i → 0 < st → Wp Γ glob_Match_l2 [(1,.p (.str S)),(5,.p (.sl kk 1 (ptrs T))),(7,.p (.int .i64 ((st : Int) - 1 + 1))),(8,.p (.int .i64 ((st : Int) - 1))),(9,.p (.int .i64 ((fr : Int) + 1))),(10,.p (.int .i64 ((fr : Int) + 1)))] [] (InBlk [5,7] 0 Q) := by
   intro hk h0
   have g2 := greedy_back g h0 hk
   have hf := hfr h0
   have := ihb (S.length - (fr + 1)) (S.length - (fr + 1)) (by omega) st st (fr + 1) (fr + 1) ea rfl rfl g2
   rw [show ((st : Int) - 1 + 1) = (st : Int) by omega]
   exact this
  have no : Stuck T S at_ i → st = 0 → Q (.ret,[(4,.p (.bool false))],[]) := by
   intro hk h0
   subst h0
   exact hret (greedy_fail g hk)
  by_cases ha : at_ < T.length
  ·have e1 := getD_some ha
   have hm := h256 _ (tokmem ha)
   obtain ⟨an,stt,htk⟩ : ∃ an stt,T.getD at_ (false,[]) = (an,stt) := ⟨_,_,rfl⟩
   rw [htk] at e1 hm
   dsimp only at hm
   cases hany : an with
   | true =>
    have g2 := greedy_star g e1 (t := (an,stt)) hany
    have : Wp Γ glob_Match_l2 [(1,.p (.str S)),(5,.p (.sl kk 1 (ptrs T))),(7,.p (.int .i64 ((at_ : Int) + 1))),(8,.p (.int .i64 (at_ : Int))),(9,.p (.int .i64 (i : Int))),(10,.p (.int .i64 (i : Int)))] [] (InBlk [5,7] 0 Q) := by
     have := iha (T.length - (at_ + 1)) (S.length - i) (S.length - i) (by have := hst; omega) (at_ + 1) (at_ + 1) i i rfl rfl rfl g2
     rw [show (((at_ + 1 : Nat)) : Int) - 1 = (at_ : Int) by omega] at this
     exact this
    rw [W_loop (L := glob_Match_l2) rfl]
    simp (disch := first | assumption | omega | decide | (simp only [lens] <;> omega) | fail) only [go_sem,tokP,htk,hm,hany,bools_cons]
    exact this
   | false =>
    have bS : (S.getD i 0).toNat < stt.length := by rw [hm]; exact UInt8.toNat_lt _
    have bS2 : (S.getD i 0).toNat < 256 := UInt8.toNat_lt _
    cases hin : stt.getD (S.getD i 0).toNat false with
    | true =>
     have g2 := greedy_set g e1 (t := (an,stt)) hany (c := S.getD i 0) (by rw [List.getD_eq_getElem?_getD,List.getElem?_eq_getElem hi]; rfl) hin
     have := ihc (S.length - (i + 1)) (by omega) (at_ + 1) st fr (i + 1) ea eb rfl g2
     rw [W_loop (L := glob_Match_l2) rfl]
     simp (disch := first | assumption | omega | decide | (simp only [lens] <;> omega) | fail) only [go_sem,tokP,htk,hm,hany,bools_cons,getD_u8,hin]
     exact this
    | false =>
     have hk : Stuck T S at_ i := ⟨.inr ⟨_,S.getD i 0,e1,hany,by rw [List.getD_eq_getElem?_getD,List.getElem?_eq_getElem hi]; rfl,hin⟩,hi⟩
     by_cases h0 : st = 0
     ·have := no hk h0
      rw [W_loop (L := glob_Match_l2) rfl]
      simp (disch := first | assumption | omega | decide | (simp only [lens] <;> omega) | fail) only [go_sem,tokP,htk,hm,hany,bools_cons,getD_u8,hin]
      exact this
     ·have := back hk (by omega)
      have hf := hfr (by omega)
      rw [W_loop (L := glob_Match_l2) rfl]
      simp (disch := first | assumption | omega | decide | (simp only [lens] <;> omega) | fail) only [go_sem,tokP,htk,hm,hany,bools_cons,getD_u8,hin]
      exact this
  ·have hk : Stuck T S at_ i := ⟨.inl (by omega),hi⟩
   by_cases h0 : st = 0
   ·have := no hk h0
    rw [W_loop (L := glob_Match_l2) rfl]
    simp (disch := first | assumption | omega | decide | (simp only [lens] <;> omega) | fail) only [go_sem]
    exact this
   ·have := back hk (by omega)
    have hf := hfr (by omega)
    rw [W_loop (L := glob_Match_l2) rfl]
    simp (disch := first | assumption | omega | decide | (simp only [lens] <;> omega) | fail) only [go_sem]
    exact this
 ·obtain rfl : i = S.length := by omega
  rw [W_loop (L := glob_Match_l2) rfl]
  simp (disch := first | assumption | omega | decide | (simp only [lens] <;> omega) | fail) only [go_sem]
  exact hend at_ st fr g
theorem Match_l1_ok {kk : SK} (T : List Tok) (hT : T.length < 900000000) (h256 : ∀ x ∈ T,x.2.length = 256) (Q : Out → Prop) : ∀ d at_ : Nat,at_ + d = T.length →
  (∀ j : Nat,(j = T.length ↔ ∀ t ∈ T.drop at_,t.1 = true) → j ≤ T.length → Q (.nrm,[(5,.p (.sl kk 1 (ptrs T))),(7,.p (.int .i64 (j : Int)))],[])) →
  Wp Γ glob_Match_l1 [(5,.p (.sl kk 1 (ptrs T))),(7,.p (.int .i64 (at_ : Int)))] [] (InBlk [5,7] 3 Q) := by
 have hpl := @ptrs_len T
 intro d
 induction d with
 | zero =>
  intro at_ ha hQ
  obtain rfl : at_ = T.length := by omega
  rw [W_loop (L := glob_Match_l1) rfl]
  simp (disch := first | assumption | omega | decide | (simp only [lens] <;> omega) | fail) only [go_sem]
  exact hQ T.length ⟨(fun _ t ht => by rw [List.drop_length] at ht; cases ht),fun _ => rfl⟩ (Nat.le_refl _)
 | succ d ih =>
  intro at_ ha hQ
  have hlt : at_ < T.length := by omega
  have hm := h256 _ (tokmem hlt)
  obtain ⟨an,stt,htk⟩ : ∃ an stt,T.getD at_ (false,[]) = (an,stt) := ⟨_,_,rfl⟩
  rw [htk] at hm
  dsimp only at hm
  have hd : T.drop at_ = T.getD at_ (false,[]) :: T.drop (at_ + 1) := by
   rw [List.drop_eq_getElem_cons hlt]
   simp [List.getElem?_eq_getElem hlt]
  rw [htk] at hd
  cases hany : an with
  | true =>
   rw [W_loop (L := glob_Match_l1) rfl]
   simp (disch := first | assumption | omega | decide | (simp only [lens] <;> omega) | fail) only [go_sem,tokP,htk,hm,hany,bools_cons]
   refine ih (at_ + 1) (by omega) (fun j h1 h2 => hQ j ?_ h2)
   rw [h1,hd]
   simp [hany]
  | false =>
   rw [W_loop (L := glob_Match_l1) rfl]
   simp (disch := first | assumption | omega | decide | (simp only [lens] <;> omega) | fail) only [go_sem,tokP,htk,hm,hany,bools_cons]
   refine hQ at_ ⟨fun h => absurd h (by omega),fun h => ?_⟩ (by omega)
   have := h (an,stt) (by rw [hd]; simp)
   rw [hany] at this; cases this
noncomputable def matchB (p s : List UInt8) : Bool := match toksF p with | none => false | some t => mtD t s
theorem res_globMatch (p s : List UInt8) (hp : p.length < 900000000) (hs : s.length < 900000000) : res Γ 17 [.str p,.str s] = some [.bool (matchB p s)] := by
 unfold matchB
 cases ht : toksF p with
 | none =>
  have e := res_pieces_no p hp ht
  refine res_code (fn := glob_Match) rfl rfl ?_
  simp (disch := first | assumption | omega | decide | (simp only [lens] <;> omega) | fail) only [go_sem,glob_Match,e]
 | some T =>
  have e := res_pieces p hp ht
  obtain ⟨h256,hl⟩ := toks_len p.length (Nat.le_refl _) ht
  have hpl := @ptrs_len T
  refine res_code (fn := glob_Match) rfl rfl ?_
  simp (disch := first | assumption | omega | decide | (simp only [lens] <;> omega) | fail) only [go_sem,glob_Match,e]
  refine Match_l2_ok T s (by omega) h256 hs _ (fun hn => ?_) (fun at_ st fr g => ?_) _ _ _ 0 0 0 0 rfl rfl rfl greedy_zero
  ·have : mtD T s = false := by
    cases h : mtD T s
    ·rfl
    ·exact absurd (mtD_iff.1 h) hn
   simp (disch := first | assumption | omega | decide | (simp only [lens] <;> omega) | fail) only [go_sem,this]
  ·have ga := g.ha
   simp (disch := first | assumption | omega | decide | (simp only [lens] <;> omega) | fail) only [go_sem]
   refine Match_l1_ok T (by omega) h256 _ (T.length - at_) at_ (by omega) (fun j h1 h2 => ?_)
   simp (disch := first | assumption | omega | decide | (simp only [lens] <;> omega) | fail) only [go_sem]
   have := greedy_end g
   rw [← h1,← mtD_iff] at this
   cases hm : mtD T s
   ·rw [decide_eq_false]
    intro h
    have := this.2 (by omega)
    rw [hm] at this; cases this
   ·rw [decide_eq_true]
    have := this.1 hm
    omega
end Ab
