import Derived.Test.YtjlcnbpehbgfaaaGreatDoorLSub35
namespace Ab
open Go (IntKind BinOp UnOp)
set_option maxRecDepth 10000 in
theorem res_rRenameGA {k kt kn : SK} (ts : List (List UInt8)) (ns : List Int) (s : Ser) (hs : s.vals.length ≤ 1000000) (_hsn : s.name.length ≤ 10000) (hts : ts.length ≤ 1000000) (hns : ns.length ≤ 1000) (_hr : ∀ n ∈ ns,-9223372036854775808 ≤ n ∧ n ≤ 9223372036854775807) :
  res Γ 298 [.str rAlias,s.pv k,.sl kt 1 (strs ts),.sl kn 1 (ints .i64 ns)] = some (rnOut s ts.length ns.length 1 0 (ts.getD 0 []) 0) := by
 have e1 : res Γ 310 [.str rAlias] = some [.int .i64 1,.int .i64 0,.bool true] := by
  unfold rAlias
  refine res_code (fn := r24_few) rfl rfl ?_
  simp (disch := first | assumption | omega | decide | (simp only [lens] <;> omega) | fail) only [go_sem,r24_few]
 have e3 := res_r18Is (kk := k) s (by omega)
 have e4 := res_r18Is (kk := .any) (renS s (ts.getD 0 [])) (show s.vals.length ≤ _ by omega)
 have e5 := res_r18OwnR (kk := k) s (by omega)
 unfold rnOut errO
 by_cases c1 : ts.length < 1
 ·rw [if_pos (.inl c1)]
  unfold rAlias at *
  unfold Ser.pv zeroS at *
  refine res_code (fn := r24_Rename) rfl rfl ?_
  simp (disch := first | assumption | omega | decide | (simp only [lens] <;> omega) | fail) only [go_sem,r24_Rename,e1]
 ·have c1' : ¬(ts.length < 1 ∨ ns.length < 0 ∨ isS s = false) ∨ isS s = false := by
   cases isS s
   ·exact .inr rfl
   ·refine .inl (fun h => ?_)
    rcases h with h | h | h
    ·omega
    ·omega
    ·cases h
  cases hi : isS s
  ·rw [if_pos (.inr (.inr rfl))]
   rw [hi] at e3
   unfold rAlias at *
   unfold Ser.pv zeroS at *
   refine res_code (fn := r24_Rename) rfl rfl ?_
   simp (disch := first | assumption | omega | decide | (simp only [lens] <;> omega) | fail) only [go_sem,r24_Rename,e1,e3]
  ·rw [hi] at c1' e3
   rw [if_neg (c1'.resolve_right (by simp)),if_neg (by simp)]
   generalize isS (renS s (ts.getD 0 [])) = i2 at *
   unfold renS Ser.pv at *
   unfold rAlias zeroS at *
   cases i2
   ·rw [if_neg Bool.false_ne_true]
    refine res_code (fn := r24_Rename) rfl rfl ?_
    simp (disch := first | assumption | omega | decide | (simp only [lens] <;> omega) | fail) only [go_sem,r24_Rename,e1,e3,e4,e5]
   ·rw [if_pos (Eq.refl true)]
    refine res_code (fn := r24_Rename) rfl rfl ?_
    simp (disch := first | assumption | omega | decide | (simp only [lens] <;> omega) | fail) only [go_sem,r24_Rename,e1,e3,e4,e5]
set_option maxRecDepth 10000 in
theorem res_rRenameGN {k kt kn : SK} (ts : List (List UInt8)) (ns : List Int) (s : Ser) (hs : s.vals.length ≤ 1000000) (hsn : s.name.length ≤ 10000) (hts : ts.length ≤ 1000000) (hns : ns.length ≤ 1000) (hr : ∀ n ∈ ns,-9223372036854775808 ≤ n ∧ n ≤ 9223372036854775807) :
  res Γ 298 [.str rNode,s.pv k,.sl kt 1 (strs ts),.sl kn 1 (ints .i64 ns)] = some (rnOut s ts.length ns.length 0 1 (joinB [46] (keyB s.name ns)) 0) := by
 have e1 : res Γ 310 [.str rNode] = some [.int .i64 0,.int .i64 1,.bool true] := by
  unfold rNode
  refine res_code (fn := r24_few) rfl rfl ?_
  simp (disch := first | assumption | omega | decide | (simp only [lens] <;> omega) | fail) only [go_sem,r24_few]
 have e2 := res_r24Key (kk := kn) s.name (.int .i64 s.start) (.int .i64 s.step) (.sl k 2 (vpv s.vals)) (.int .i64 s.cons) ns (by omega) hns hr
 have e3 := res_r18Is (kk := k) s (by omega)
 have e4 := res_r18Is (kk := .any) (renS s (joinB [46] (keyB s.name ns))) (show s.vals.length ≤ _ by omega)
 have e5 := res_r18OwnR (kk := k) s (by omega)
 unfold rnOut errO
 by_cases c1 : ns.length < 1
 ·rw [if_pos (.inr (.inl c1))]
  unfold rNode at *
  unfold Ser.pv zeroS at *
  refine res_code (fn := r24_Rename) rfl rfl ?_
  simp (disch := first | assumption | omega | decide | (simp only [lens] <;> omega) | fail) only [go_sem,r24_Rename,e1]
 ·have c1' : ¬(ts.length < 0 ∨ ns.length < 1 ∨ isS s = false) ∨ isS s = false := by
   cases isS s
   ·exact .inr rfl
   ·refine .inl (fun h => ?_)
    rcases h with h | h | h
    ·omega
    ·omega
    ·cases h
  cases hi : isS s
  ·rw [if_pos (.inr (.inr rfl))]
   rw [hi] at e3
   unfold rNode at *
   unfold Ser.pv zeroS at *
   refine res_code (fn := r24_Rename) rfl rfl ?_
   simp (disch := first | assumption | omega | decide | (simp only [lens] <;> omega) | fail) only [go_sem,r24_Rename,e1,e3]
  ·rw [hi] at c1' e3
   rw [if_neg (c1'.resolve_right (by simp)),if_neg (by simp)]
   generalize isS (renS s (joinB [46] (keyB s.name ns))) = i2 at *
   generalize (joinB [46] (keyB s.name ns)) = nn at *
   unfold renS Ser.pv at *
   unfold rNode zeroS at *
   cases i2
   ·rw [if_neg Bool.false_ne_true]
    refine res_code (fn := r24_Rename) rfl rfl ?_
    simp (disch := first | assumption | omega | decide | (simp only [lens] <;> omega) | fail) only [go_sem,r24_Rename,e1,e2,e3,e4,e5]
   ·rw [if_pos (Eq.refl true)]
    refine res_code (fn := r24_Rename) rfl rfl ?_
    simp (disch := first | assumption | omega | decide | (simp only [lens] <;> omega) | fail) only [go_sem,r24_Rename,e1,e2,e3,e4,e5]
set_option maxRecDepth 10000 in
theorem res_rRenameGC {k kt kn : SK} (ts : List (List UInt8)) (ns : List Int) (s : Ser) (hs : s.vals.length ≤ 1000000) (hsn : s.name.length ≤ 10000) (hts : ts.length ≤ 1000000) (hns : ns.length ≤ 1000) (hr : ∀ n ∈ ns,-9223372036854775808 ≤ n ∧ n ≤ 9223372036854775807) :
  res Γ 298 [.str rCut,s.pv k,.sl kt 1 (strs ts),.sl kn 1 (ints .i64 ns)] = some (rnOut s ts.length ns.length 0 1 (joinB [46] (cutB s.name ns)) 0) := by
 have e1 : res Γ 310 [.str rCut] = some [.int .i64 0,.int .i64 1,.bool true] := by
  unfold rCut
  refine res_code (fn := r24_few) rfl rfl ?_
  simp (disch := first | assumption | omega | decide | (simp only [lens] <;> omega) | fail) only [go_sem,r24_few]
 have e3 := res_r18Is (kk := k) s (by omega)
 have e4 := res_r18Is (kk := .any) (renS s (joinB [46] (cutB s.name ns))) (show s.vals.length ≤ _ by omega)
 have e5 := res_r18OwnR (kk := k) s (by omega)
 unfold rnOut errO
 by_cases c1 : ns.length < 1
 ·rw [if_pos (.inr (.inl c1))]
  unfold rCut at *
  unfold Ser.pv zeroS at *
  refine res_code (fn := r24_Rename) rfl rfl ?_
  simp (disch := first | assumption | omega | decide | (simp only [lens] <;> omega) | fail) only [go_sem,r24_Rename,e1]
 ·have c1' : ¬(ts.length < 0 ∨ ns.length < 1 ∨ isS s = false) ∨ isS s = false := by
   cases isS s
   ·exact .inr rfl
   ·refine .inl (fun h => ?_)
    rcases h with h | h | h
    ·omega
    ·omega
    ·cases h
  have e2 := res_r24cut (k := k) (kn := kn) s ns hsn hns (List.length_pos_iff.1 (by omega)) hr
  cases hi : isS s
  ·rw [if_pos (.inr (.inr rfl))]
   rw [hi] at e3
   unfold rCut at *
   unfold Ser.pv zeroS at *
   refine res_code (fn := r24_Rename) rfl rfl ?_
   simp (disch := first | assumption | omega | decide | (simp only [lens] <;> omega) | fail) only [go_sem,r24_Rename,e1,e3]
  ·rw [hi] at c1' e3
   rw [if_neg (c1'.resolve_right (by simp)),if_neg (by simp)]
   generalize isS (renS s (joinB [46] (cutB s.name ns))) = i2 at *
   generalize (joinB [46] (cutB s.name ns)) = nn at *
   unfold renS Ser.pv at *
   unfold rCut zeroS at *
   cases i2
   ·rw [if_neg Bool.false_ne_true]
    refine res_code (fn := r24_Rename) rfl rfl ?_
    simp (disch := first | assumption | omega | decide | (simp only [lens] <;> omega) | fail) only [go_sem,r24_Rename,e1,e2,e3,e4,e5]
   ·rw [if_pos (Eq.refl true)]
    refine res_code (fn := r24_Rename) rfl rfl ?_
    simp (disch := first | assumption | omega | decide | (simp only [lens] <;> omega) | fail) only [go_sem,r24_Rename,e1,e2,e3,e4,e5]
set_option maxRecDepth 10000 in
theorem res_rRenameGS {k kt kn : SK} (ts : List (List UInt8)) (ns : List Int) (s : Ser) (hs : s.vals.length ≤ 1000000) (hts : ts.length ≤ 1000000) (hns : ns.length ≤ 1000) (n : List UInt8) (e : Int)
  (hb : 2 ≤ ts.length → (e ≠ 0 ∧ res Γ 309 [.str (ts.getD 0 [])] = some [noProg,.int .i64 e]) ∨ ∃ g l,res Γ 309 [.str (ts.getD 0 [])] = some [prog g l,.int .i64 0] ∧ res Γ 308 [prog g l,.str (ts.getD 1 []),.str s.name] = some [.str n,.int .i64 e]) :
  res Γ 298 [.str rSub,s.pv k,.sl kt 1 (strs ts),.sl kn 1 (ints .i64 ns)] = some (rnOut s ts.length ns.length 2 0 n e) := by
 have e1 : res Γ 310 [.str rSub] = some [.int .i64 2,.int .i64 0,.bool true] := by
  unfold rSub
  refine res_code (fn := r24_few) rfl rfl ?_
  simp (disch := first | assumption | omega | decide | (simp only [lens] <;> omega) | fail) only [go_sem,r24_few]
 have e3 := res_r18Is (kk := k) s (by omega)
 have e4 := res_r18Is (kk := .any) (renS s n) (show s.vals.length ≤ _ by omega)
 have e5 := res_r18OwnR (kk := k) s (by omega)
 unfold rnOut errO
 by_cases c1 : ts.length < 2
 ·rw [if_pos (.inl c1)]
  unfold rSub at *
  unfold Ser.pv zeroS at *
  refine res_code (fn := r24_Rename) rfl rfl ?_
  simp (disch := first | assumption | omega | decide | (simp only [lens] <;> omega) | fail) only [go_sem,r24_Rename,e1]
 ·have c1' : ¬(ts.length < 2 ∨ ns.length < 0 ∨ isS s = false) ∨ isS s = false := by
   cases isS s
   ·exact .inr rfl
   ·refine .inl (fun h => ?_)
    rcases h with h | h | h
    ·omega
    ·omega
    ·cases h
  have hb := hb (by omega)
  cases hi : isS s
  ·rw [if_pos (.inr (.inr rfl))]
   rw [hi] at e3
   unfold rSub at *
   unfold Ser.pv zeroS at *
   refine res_code (fn := r24_Rename) rfl rfl ?_
   simp (disch := first | assumption | omega | decide | (simp only [lens] <;> omega) | fail) only [go_sem,r24_Rename,e1,e3]
  ·rw [hi] at c1' e3
   rw [if_neg (c1'.resolve_right (by simp))]
   rcases hb with ⟨h0,f1⟩ | ⟨g,l,f1,f2⟩
   ·rw [if_pos h0]
    unfold rSub at *
    unfold Ser.pv zeroS at *
    refine res_code (fn := r24_Rename) rfl rfl ?_
    simp (disch := first | assumption | omega | decide | (simp only [lens] <;> omega) | fail) only [go_sem,r24_Rename,e1,e3,e5,f1,ne_eq,h0,not_false_eq_true]
   ·by_cases h0 : e = 0
    ·subst h0
     rw [if_neg (by simp)]
     generalize isS (renS s n) = i2 at *
     unfold renS Ser.pv at *
     unfold rSub zeroS at *
     cases i2
     ·rw [if_neg Bool.false_ne_true]
      refine res_code (fn := r24_Rename) rfl rfl ?_
      simp (disch := first | assumption | omega | decide | (simp only [lens] <;> omega) | fail) only [go_sem,r24_Rename,e1,e3,e4,e5,f1,f2,ne_eq,not_true_eq_false]
     ·rw [if_pos (Eq.refl true)]
      refine res_code (fn := r24_Rename) rfl rfl ?_
      simp (disch := first | assumption | omega | decide | (simp only [lens] <;> omega) | fail) only [go_sem,r24_Rename,e1,e3,e4,e5,f1,f2,ne_eq,not_true_eq_false]
    ·rw [if_pos h0]
     unfold rSub at *
     unfold Ser.pv zeroS at *
     refine res_code (fn := r24_Rename) rfl rfl ?_
     simp (disch := first | assumption | omega | decide | (simp only [lens] <;> omega) | fail) only [go_sem,r24_Rename,e1,e3,e5,f1,f2,ne_eq,h0,not_false_eq_true]
theorem res_aliasG {k kt : SK} (s : Ser) (ts : List (List UInt8)) (h : 1 ≤ ts.length) (r : PV) : res Γ 311 [.agg [.str s.name,.int .i64 s.start,.int .i64 s.step,.sl k 2 (vpv s.vals),.int .i64 s.cons,.sl kt 1 (strs ts),r]] = some [.str (ts.getD 0 []),.int .i64 0] := by
 refine res_code (fn := fname_renaming_alias) rfl rfl ?_
 simp (disch := first | assumption | omega | decide | (simp only [lens] <;> omega) | fail) only [go_sem,fname_renaming_alias]
theorem res_subG {k kt : SK} (s : Ser) (ts : List (List UInt8)) (h : 2 ≤ ts.length) (r : PV) (n : List UInt8) (e : Int)
  (hb : (e ≠ 0 ∧ res Γ 323 [.str (ts.getD 0 [])] = some [noProg,.int .i64 e]) ∨ ∃ g l,res Γ 323 [.str (ts.getD 0 [])] = some [prog g l,.int .i64 0] ∧ res Γ 322 [prog g l,.str (ts.getD 1 []),.str s.name] = some [.str n,.int .i64 e]) :
  ∃ n',res Γ 313 [.agg [.str s.name,.int .i64 s.start,.int .i64 s.step,.sl k 2 (vpv s.vals),.int .i64 s.cons,.sl kt 1 (strs ts),r]] = some [.str n',.int .i64 e] ∧ (e = 0 → n' = n) := by
 rcases hb with ⟨h0,f1⟩ | ⟨g,l,f1,f2⟩
 ·refine ⟨[],?_,fun h => absurd h h0⟩
  refine res_code (fn := fname_renaming_sub) rfl rfl ?_
  simp (disch := first | assumption | omega | decide | (simp only [lens] <;> omega) | fail) only [go_sem,fname_renaming_sub,f1,ne_eq,h0,not_false_eq_true]
 ·refine ⟨n,?_,fun _ => rfl⟩
  refine res_code (fn := fname_renaming_sub) rfl rfl ?_
  simp (disch := first | assumption | omega | decide | (simp only [lens] <;> omega) | fail) only [go_sem,fname_renaming_sub,f1,f2,ne_eq,not_true_eq_false]
theorem rnOut_n {s lt ln a b n n' e} (h : e = 0 → n' = n) : rnOut s lt ln a b n' e = rnOut s lt ln a b n e := by
 unfold rnOut
 by_cases he : e = 0
 ·rw [h he]
 ·simp only [ne_eq,he,not_false_eq_true,if_true]
theorem both_names {k kt kn : SK} (how : List UInt8) (ts : List (List UInt8)) (ns : List Int) (s : Ser) (hs : s.vals.length ≤ 1000000) (hsn : s.name.length ≤ 10000) (hts : ts.length ≤ 1000) (htl : ∀ x ∈ ts,x.length ≤ 100) (hns : ns.length ≤ 1000) (hr : ∀ n ∈ ns,-9223372036854775808 ≤ n ∧ n ≤ 9223372036854775807) :
  ∃ r : List PV,((∃ e : Int,(0 ≤ e ∧ e ≤ 100) ∧ r = errO e) ∨ ∃ n,r = [(renS s n).pv .any,.int .i64 0]) ∧
   res Γ 299 [.str how,s.pv .any,.sl .any 1 (strs ts),.sl .any 1 (ints .i64 ns)] = some r ∧ res Γ 298 [.str how,s.pv k,.sl kt 1 (strs ts),.sl kn 1 (ints .i64 ns)] = some r := by
 have hcase : ∀ {a b n e},(0 ≤ e ∧ e ≤ 100) → ((∃ e' : Int,(0 ≤ e' ∧ e' ≤ 100) ∧ rnOut s ts.length ns.length a b n e = errO e') ∨ ∃ n',rnOut s ts.length ns.length a b n e = [(renS s n').pv .any,.int .i64 0]) := by
  intro a b n e he
  unfold rnOut
  split
  ·exact .inl ⟨1,by omega,rfl⟩
  ·split
   ·exact .inl ⟨e,he,rfl⟩
   ·split
    ·exact .inr ⟨n,rfl⟩
    ·exact .inl ⟨1,by omega,rfl⟩
 by_cases h1 : how = rAlias
 ·subst h1
  have e1 : res Γ 306 [.str rAlias] = some [.clo 311 [],.int .i64 (1 : Nat),.int .i64 (0 : Nat)] := by
   unfold rAlias
   refine res_code (fn := fname_does) rfl rfl ?_
   simp (disch := first | assumption | omega | decide | (simp only [lens] <;> omega) | fail) only [go_sem,fname_does]
   rfl
  exact ⟨_,hcase (by omega),res_RenameG rAlias 311 1 0 (by omega) (by omega) e1 ts ns s hs (by omega) (by omega) (ts.getD 0 []) 0 (by omega) (fun h _ => res_aliasG s ts h _),res_rRenameGA ts ns s hs hsn (by omega) hns hr⟩
 ·by_cases h2 : how = rNode
  ·subst h2
   have e1 : res Γ 306 [.str rNode] = some [.clo 312 [],.int .i64 (0 : Nat),.int .i64 (1 : Nat)] := by
    unfold rNode
    refine res_code (fn := fname_does) rfl rfl ?_
    simp (disch := first | assumption | omega | decide | (simp only [lens] <;> omega) | fail) only [go_sem,fname_does]
    rfl
   exact ⟨_,hcase (by omega),res_RenameG rNode 312 0 1 (by omega) (by omega) e1 ts ns s hs (by omega) (by omega) _ 0 (by omega) (fun _ _ => res_byNode s _ ns (by omega) hns hr),res_rRenameGN ts ns s hs hsn (by omega) hns hr⟩
  ·by_cases h3 : how = rCut
   ·subst h3
    have e1 : res Γ 306 [.str rCut] = some [.clo 314 [],.int .i64 (0 : Nat),.int .i64 (1 : Nat)] := by
     unfold rCut
     refine res_code (fn := fname_does) rfl rfl ?_
     simp (disch := first | assumption | omega | decide | (simp only [lens] <;> omega) | fail) only [go_sem,fname_does]
     rfl
    exact ⟨_,hcase (by omega),res_RenameG rCut 314 0 1 (by omega) (by omega) e1 ts ns s hs (by omega) (by omega) _ 0 (by omega) (fun _ h => res_substr s _ ns (by omega) hns (List.length_pos_iff.1 (by omega)) hr),res_rRenameGC ts ns s hs hsn (by omega) hns hr⟩
   ·by_cases h4 : how = rSub
    ·subst h4
     have e1 : res Γ 306 [.str rSub] = some [.clo 313 [],.int .i64 (2 : Nat),.int .i64 (0 : Nat)] := by
      unfold rSub
      refine res_code (fn := fname_does) rfl rfl ?_
      simp (disch := first | assumption | omega | decide | (simp only [lens] <;> omega) | fail) only [go_sem,fname_does]
      rfl
     by_cases c : 2 ≤ ts.length
     ·have m0 : (ts.getD 0 []).length ≤ 100 := by
       rw [List.getD_eq_getElem?_getD,List.getElem?_eq_getElem (by omega)]
       exact htl _ (List.getElem_mem _)
      have m1 : (ts.getD 1 []).length ≤ 100 := by
       rw [List.getD_eq_getElem?_getD,List.getElem?_eq_getElem (by omega)]
       exact htl _ (List.getElem_mem _)
      obtain ⟨n,e,he,hb⟩ := sub_both (ts.getD 0 []) (ts.getD 1 []) s.name m0 (by omega) hsn
      have g1 : ∃ n',res Γ 313 [.agg [.str s.name,.int .i64 s.start,.int .i64 s.step,.sl .any 2 (vpv s.vals),.int .i64 s.cons,.sl .any 1 (strs ts),.sl .any 1 (ints .i64 ns)]] = some [.str n',.int .i64 e] ∧ (e = 0 → n' = n) := by
       refine res_subG s ts c _ n e ?_
       rcases hb with ⟨h0,f1,f2⟩ | ⟨g,l,f1,f2,f3,f4⟩
       ·exact .inl ⟨h0,f1⟩
       ·exact .inr ⟨g,l,f1,f3⟩
      obtain ⟨n',g1,g2⟩ := g1
      refine ⟨_,hcase (n := n) he,?_,res_rRenameGS ts ns s hs (by omega) hns n e (fun _ => ?_)⟩
      ·rw [← rnOut_n g2]
       exact res_RenameG rSub 313 2 0 (by omega) (by omega) e1 ts ns s hs (by omega) (by omega) n' e he (fun _ _ => g1)
      ·rcases hb with ⟨h0,f1,f2⟩ | ⟨g,l,f1,f2,f3,f4⟩
       ·exact .inl ⟨h0,f2⟩
       ·exact .inr ⟨g,l,f2,f4⟩
     ·exact ⟨_,hcase (by omega),res_RenameG rSub 313 2 0 (by omega) (by omega) e1 ts ns s hs (by omega) (by omega) [] 0 (by omega) (fun h => absurd h c),res_rRenameGS ts ns s hs (by omega) hns [] 0 (fun h => absurd h c)⟩
    ·have e1 : res Γ 306 [.str how] = some [.nilfn,.int .i64 0,.int .i64 0] := by
      unfold rAlias rNode rCut rSub at *
      refine res_code (fn := fname_does) rfl rfl ?_
      simp (disch := first | assumption | omega | decide | (simp only [lens] <;> omega) | fail) only [go_sem,fname_does]
     have e2 : res Γ 310 [.str how] = some [.int .i64 0,.int .i64 0,.bool false] := by
      unfold rAlias rNode rCut rSub at *
      refine res_code (fn := r24_few) rfl rfl ?_
      simp (disch := first | assumption | omega | decide | (simp only [lens] <;> omega) | fail) only [go_sem,r24_few]
     refine ⟨errO 9,.inl ⟨9,by omega,rfl⟩,?_,?_⟩
     ·unfold errO Ser.pv zeroS at *
      refine res_code (fn := fname_Rename) rfl rfl ?_
      simp (disch := first | assumption | omega | decide | (simp only [lens] <;> omega) | fail) only [go_sem,fname_Rename,e1]
     ·unfold errO Ser.pv zeroS at *
      refine res_code (fn := r24_Rename) rfl rfl ?_
      simp (disch := first | assumption | omega | decide | (simp only [lens] <;> omega) | fail) only [go_sem,r24_Rename,e2]
theorem res_renamedG {k kt kn : SK} (how : List UInt8) (texts : List (List UInt8)) (ns : List Int) (s : Ser) (b : Bool) (hv : s.vals.length ≤ 9223372036854775807) (hsm : res Γ 305 [.sl kt 1 (strs texts),.sl kn 1 (ints .i64 ns)] = some [.bool b])
  (hX : b = true → texts.length ≤ 1000 ∧ ns.length ≤ 1000 ∧ ∀ x ∈ texts,x.length ≤ 100) (hr : ∀ n ∈ ns,-9223372036854775808 ≤ n ∧ n ≤ 9223372036854775807) :
  res Γ 295 [.str how,s.pv k,.sl kt 1 (strs texts),.sl kn 1 (ints .i64 ns)] = some [.bool true] := by
 have h1 := res_heavyR (k := k) s hv
 have hk := res_known24
 cases hh : heavyR s
 ·rw [hh] at h1
  obtain ⟨g1,g2⟩ := heavyR_no hh
  cases b
  ·unfold Ser.pv at *
   refine res_code (fn := l24_renamed) rfl rfl ?_
   simp (disch := first | assumption | omega | decide | (simp only [lens] <;> omega) | fail) only [go_sem,l24_renamed,h1,hsm]
  ·obtain ⟨t1,t2,t3⟩ := hX rfl
   obtain ⟨r,hcase,e1,e2⟩ := both_names (k := k) (kt := kt) (kn := kn) how texts ns s (by omega) (by omega) t1 t3 t2 hr
   have e3 := res_r18OwnR (kk := k) s (by omega)
   have e4 := res_same24R (k1 := .any) (k2 := k) s (by omega)
   have e0 : res Γ 11 [zeroS,zeroS] = some [.bool true] := res_same24R (k1 := .nil) (k2 := .nil) ⟨[],0,0,[],0⟩ (by simp)
   have l1 : (strs texts).length ≤ 1073741824 := by rw [strs_len]; omega
   have l2 : (ints .i64 ns).length ≤ 1073741824 := by rw [ints_len]; omega
   rcases hcase with ⟨e,he,rfl⟩ | ⟨n,rfl⟩
   ·clear hX
    unfold errO zeroS at *
    unfold Ser.pv at *
    refine res_code (fn := l24_renamed) rfl rfl ?_
    simp (disch := first | assumption | omega | decide | (simp only [lens] <;> omega) | fail) only [go_sem,l24_renamed,h1,hsm,e1,e2,e3,e4,e0,hk]
   ·have e5 := res_same24R (k1 := .any) (k2 := .any) (renS s n) (show s.vals.length ≤ _ by omega)
    clear hX e0
    unfold renS at *
    unfold Ser.pv at *
    refine res_code (fn := l24_renamed) rfl rfl ?_
    simp (disch := first | assumption | omega | decide | (simp only [lens] <;> omega) | fail) only [go_sem,l24_renamed,h1,hsm,e1,e2,e3,e4,e5,hk]
 ·rw [hh] at h1
  unfold Ser.pv at *
  refine res_code (fn := l24_renamed) rfl rfl ?_
  simp (disch := first | assumption | omega | decide | (simp only [lens] <;> omega) | fail) only [go_sem,l24_renamed,h1]
def smallB (ts : List (List UInt8)) (ns : List Int) : Bool := decide (ts.length ≤ 10) && decide (ns.length ≤ 20) && ts.all fun x => decide (x.length ≤ 100)
theorem small_l1_ok {kt : SK} (ts : List (List UInt8)) (hts : ts.length ≤ 10) (Q : Out → Prop) : ∀ (n i : Nat),i + n = ts.length →
    (match (ts.drop i).all fun x => decide (x.length ≤ 100) with
     | true => Q (.nrm,[],[])
     | false => Q (.ret,[(4,.p (.bool false))],[])) →
    Wp Γ l24_small_l1 [(0,.p (.sl kt 1 (strs ts))),(5,.p (.int .i64 i))] [] (InBlk [] 0 Q) := by
  intro n
  induction n with
  | zero =>
    intro i hi hQ
    rw [List.drop_eq_nil_of_le (by omega)] at hQ
    rw [W_loop (L := l24_small_l1) rfl]
    simp (disch := first | assumption | omega | decide | (simp only [lens] <;> omega) | fail) only [go_sem]
    exact hQ
  | succ n ih =>
    intro i hi hQ
    have hd : ts.drop i = ts.getD i [] :: ts.drop (i + 1) := by
      rw [List.drop_eq_getElem_cons (by omega),List.getD_eq_getElem?_getD,List.getElem?_eq_getElem (by omega)]; rfl
    rw [hd,List.all_cons] at hQ
    by_cases h : (ts.getD i []).length ≤ 100
    · rw [decide_eq_true h,Bool.true_and] at hQ
      have I := ih (i + 1) (by omega) hQ
      rw [W_loop (L := l24_small_l1) rfl]
      simp (disch := first | assumption | omega | decide | (simp only [lens] <;> omega) | fail) only [go_sem]
      exact I
    · rw [decide_eq_false h,Bool.false_and] at hQ
      rw [W_loop (L := l24_small_l1) rfl]
      simp (disch := first | assumption | omega | decide | (simp only [lens] <;> omega) | fail) only [go_sem]
      exact hQ
theorem res_small {kt kn : SK} (ts : List (List UInt8)) (ns : List Int) : res Γ 305 [.sl kt 1 (strs ts),.sl kn 1 (ints .i64 ns)] = some [.bool (smallB ts ns)] := by
 unfold smallB
 by_cases c1 : ts.length ≤ 10
 ·by_cases c2 : ns.length ≤ 20
  ·rw [decide_eq_true c1,decide_eq_true c2,Bool.true_and,Bool.true_and]
   have L := fun Q hQ => small_l1_ok (kt := kt) ts c1 Q ts.length 0 (by omega) hQ
   rw [List.drop_zero] at L
   cases h : ts.all fun x => decide (x.length ≤ 100)
   ·rw [h] at L
    refine res_code (fn := l24_small) rfl rfl ?_
    simp (disch := first | assumption | omega | decide | (simp only [lens] <;> omega) | fail) only [go_sem,l24_small]
    refine L _ ?_
    simp (disch := first | assumption | omega | decide | (simp only [lens] <;> omega) | fail) only [go_sem]
   ·rw [h] at L
    refine res_code (fn := l24_small) rfl rfl ?_
    simp (disch := first | assumption | omega | decide | (simp only [lens] <;> omega) | fail) only [go_sem,l24_small]
    refine L _ ?_
    simp (disch := first | assumption | omega | decide | (simp only [lens] <;> omega) | fail) only [go_sem]
  ·rw [decide_eq_true c1,decide_eq_false c2,Bool.and_false,Bool.false_and]
   refine res_code (fn := l24_small) rfl rfl ?_
   simp (disch := first | assumption | omega | decide | (simp only [lens] <;> omega) | fail) only [go_sem,l24_small]
 ·rw [decide_eq_false c1,Bool.false_and,Bool.false_and]
  refine res_code (fn := l24_small) rfl rfl ?_
  simp (disch := first | assumption | omega | decide | (simp only [lens] <;> omega) | fail) only [go_sem,l24_small]
theorem smallB_yes {ts ns} (h : smallB ts ns = true) : ts.length ≤ 1000 ∧ ns.length ≤ 1000 ∧ ∀ x ∈ ts,x.length ≤ 100 := by
 unfold smallB at h
 rw [Bool.and_eq_true,Bool.and_eq_true] at h
 obtain ⟨⟨h1,h2⟩,h3⟩ := h
 have h1 := of_decide_eq_true h1
 have h2 := of_decide_eq_true h2
 rw [List.all_eq_true] at h3
 exact ⟨by omega,by omega,fun x hx => of_decide_eq_true (h3 x hx)⟩
theorem res_FnameSubA {k : SK} (s : Ser) (x m : List UInt8) (o : Ser.Ok k s) : res Γ 303 [s.pv k,.str x,.str m] = some [.bool true] := by
 have e : res Γ 295 [.str rSub,s.pv k,.sl .tight 1 [.str x,.str m],.sl .nil 1 []] = some [.bool true] := res_renamedG (k := k) (kt := .tight) (kn := .nil) rSub [x,m] [] s _ o.len (res_small [x,m] []) smallB_yes (fun n h => by cases h)
 unfold Ser.pv rSub at *
 refine res_code (fn := l24_FnameSub) rfl rfl ?_
 repeat' (first | (simp (disch := first | assumption | omega | decide | (simp only [lens] <;> omega) | fail) only [go_sem,l24_FnameSub,e]) | refine cond_split (fun hc => ?_) (fun hc => ?_) | refine gd_split_f (fun hc => ?_) (fun hc => ?_) | refine gd_split_t (fun hc => ?_) (fun hc => ?_))
def names24 : List (List UInt8) := [rAlias,rNode,rSub,[99,111,110,115,111,108,105,100,97,116,101,66,121],[103,114,111,117,112,66,121,78,111,100,101],[103,114,111,117,112,66,121,78,111,100,101,115],rCut]
theorem res_names24 : res Γ 296 [] = some [.sl .tight 1 (strs names24)] := res_of ⟨20,([.p (.sl .tight 1 (strs names24))],[]),by rfl,by rfl⟩
theorem res_rnames24 : res Γ 297 [] = some [.sl .tight 1 (strs names24)] := res_of ⟨20,([.p (.sl .tight 1 (strs names24))],[]),by rfl,by rfl⟩
theorem others24_l1_ok (v0 v2 v3 : PV) (L : List (List UInt8)) (hL : L.length ≤ 100) (H : Heap) (Q : Out → Prop) (hQ : Q (.nrm,[(0,.p v0),(2,.p v2),(3,.p v3),(5,.bx 0 0)],H)) : ∀ (n i : Nat),i + n = L.length →
  Wp Γ l24_FnameOthers_l1 [(0,.p v0),(2,.p v2),(3,.p v3),(5,.bx 0 0),(9,.p (.sl .tight 1 (strs L))),(10,.p (.sl .tight 1 (strs L))),(11,.p (.int .i64 i))] H (InBlk [0,2,3,5] 0 Q) := by
 intro n
 induction n with
 | zero =>
  intro i hi
  rw [W_loop (L := l24_FnameOthers_l1) rfl]
  simp (disch := first | assumption | omega | decide | (simp only [lens] <;> omega) | fail) only [go_sem]
  exact hQ
 | succ n ih =>
  intro i hi
  have I := ih (i + 1) (by omega)
  rw [W_loop (L := l24_FnameOthers_l1) rfl]
  simp (disch := first | assumption | omega | decide | (simp only [lens] <;> omega) | fail) only [go_sem,ne_eq,not_true_eq_false]
  exact I
theorem res_FnameOthersA {k kt kn : SK} (how : List UInt8) (s : Ser) (ts : List (List UInt8)) (ns : List Int) (o : Ser.Ok k s) (hr : ∀ n ∈ ns,-9223372036854775808 ≤ n ∧ n ≤ 9223372036854775807) : res Γ 304 [.str how,s.pv k,.sl kt 1 (strs ts),.sl kn 1 (ints .i64 ns)] = some [.bool true] := by
 have e := res_renamedG (k := k) (kt := kt) (kn := kn) how ts ns s _ o.len (res_small ts ns) smallB_yes hr
 have hk := res_known24
 have e1 := res_names24
 have e2 := res_rnames24
 have hn : names24.length = 7 := rfl
 by_cases h : 100 < how.length
 ·unfold Ser.pv at *
  refine res_code (fn := l24_FnameOthers) rfl rfl ?_
  simp (disch := first | assumption | omega | decide | (simp only [lens] <;> omega) | fail) only [go_sem,l24_FnameOthers]
 ·unfold Ser.pv at *
  refine res_code (fn := l24_FnameOthers) rfl rfl ?_
  simp (disch := first | assumption | omega | decide | (simp only [lens] <;> omega) | fail) only [go_sem,l24_FnameOthers,e1,e2,hn,ne_eq,not_true_eq_false]
  refine others24_l1_ok _ _ _ names24 (by omega) _ _ ?_ 7 0 rfl
  simp (disch := first | assumption | omega | decide | (simp only [lens] <;> omega) | fail) only [go_sem,e,hk]
end Ab
