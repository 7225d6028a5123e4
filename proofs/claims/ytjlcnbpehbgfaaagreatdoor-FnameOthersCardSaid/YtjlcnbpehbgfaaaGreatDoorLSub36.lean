import Derived.Test.YtjlcnbpehbgfaaaGreatDoorLSub26
import Derived.Test.YtjlcnbpehbgfaaaGreatDoorLLaw24
import Derived.Test.YtjlcnbpehbgfaaaGreatDoorLSub2
import Derived.Test.YtjlcnbpehbgfaaaGreatDoorPRex4
namespace Ab
open Go (IntKind BinOp UnOp)
def sizeS (s : Ser) : Prop := s.name.length ≤ 4096 ∧ 0 ≤ s.start ∧ s.start ≤ 4294967295 ∧ 1 ≤ s.step ∧ s.step ≤ 1099511627776 ∧ s.vals.length ≤ 131072 ∧ 0 ≤ s.cons ∧ s.cons ≤ 5
instance {s : Ser} : Decidable (sizeS s) := by unfold sizeS; infer_instance
def isS (s : Ser) : Bool := decide (sizeS s) && s.vals.all isV
theorem isS_no {s : Ser} (h : ¬ sizeS s) : isS s = false := by unfold isS; rw [decide_eq_false h]; rfl
theorem isS_yes {s : Ser} (h : sizeS s) : isS s = s.vals.all isV := by unfold isS; rw [decide_eq_true h]; rfl
@[go_sem] theorem res_seriesIs1 (b : Bool) (n : Int) : res Γ 119 [.agg [.bool b,.int .i64 n]] = some [.bool (!isV (b,n))] := by
 refine res_code (fn := series_Is_1) rfl rfl ?_
 simp (disch := first | assumption | omega | decide | (simp only [lens] <;> omega) | fail) only [go_sem,series_Is_1]
theorem all_take {l : List Val} {i : Nat} (h : i < l.length) : (l.take (i + 1)).all isV = ((l.take i).all isV && isV (l.getD i (false,0))) := by
 rw [take_snoc' (false,0) h,List.all_append]
 simp only [List.all_cons,List.all_nil,Bool.and_true]
theorem all_bad {l : List Val} {i : Nat} (h : i < l.length) (hv : isV (l.getD i (false,0)) = false) : l.all isV = false := by
 rw [List.all_eq_false]
 refine ⟨l[i],List.getElem_mem h,?_⟩
 rw [List.getD_eq_getElem?_getD,List.getElem?_eq_getElem h] at hv
 simpa using hv
theorem IndexFunc_l1_ok {kk : SK} (l : List Val) (hl : l.length < 1000000000) (Q : Out → Prop) : ∀ (k i : Nat),i + k = l.length → (l.take i).all isV = true →
  (l.all isV = true → Q (.nrm,[],[])) → (l.all isV = false → ∀ j : Nat,Q (.ret,[(4,.p (.int .i64 (j : Int)))],[])) →
  Wp Γ slices_IndexFunc_api_Val_api_Val_l1 [(0,.p (.sl kk 2 (vpv l))),(1,.p (.clo 119 [])),(7,.p (.int .i64 (l.length : Int))),(8,.p (.int .i64 (i : Int)))] [] (InBlk [] 0 Q) := by
 intro k
 induction k with
 | zero =>
  intro i hi ha h1 h2
  obtain rfl : i = l.length := by omega
  rw [List.take_length] at ha
  rw [W_loop (L := slices_IndexFunc_api_Val_api_Val_l1) rfl]
  simp (disch := first | assumption | omega | decide | (simp only [lens] <;> omega) | fail) only [go_sem]
  exact h1 ha
 | succ k ih =>
  intro i hi ha h1 h2
  have e := all_take (l := l) (i := i) (by omega)
  rw [W_loop (L := slices_IndexFunc_api_Val_api_Val_l1) rfl]
  simp (disch := first | assumption | omega | decide | (simp only [lens] <;> omega) | fail) only [go_sem,valP]
  cases hv : isV (l.getD i (false,0))
  ·simp (disch := first | assumption | omega | decide | (simp only [lens] <;> omega) | fail) only [go_sem]
   exact h2 (all_bad (by omega) hv) i
  ·simp (disch := first | assumption | omega | decide | (simp only [lens] <;> omega) | fail) only [go_sem]
   exact ih (i + 1) (by omega) (by rw [e,ha,hv]; rfl) h1 h2
theorem res_IndexFunc {kk : SK} (l : List Val) (hl : l.length < 1000000000) : ∃ r : Int,res Γ 127 [.sl kk 2 (vpv l),.clo 119 []] = some [.int .i64 r] ∧ decide (0 ≤ r) = !(l.all isV) := by
 cases ha : l.all isV
 ·-- which one is not told
  have hx : ∃ j : Nat,(j < l.length ∧ isV (l.getD j (false,0)) = false) ∧ ∀ i,i < j → isV (l.getD i (false,0)) = true := by
   have : ∃ j,j < l.length ∧ isV (l.getD j (false,0)) = false := by
    rw [List.all_eq_false] at ha
    obtain ⟨x,hx,hv⟩ := ha
    obtain ⟨j,hj,rfl⟩ := List.getElem_of_mem hx
    exact ⟨j,hj,by rw [List.getD_eq_getElem?_getD,List.getElem?_eq_getElem hj]; simpa using hv⟩
   obtain ⟨j,h1,h2⟩ := this
   induction j using Nat.strongRecOn with
   | ind j ih =>
    by_cases hall : ∀ i,i < j → isV (l.getD i (false,0)) = true
    ·exact ⟨j,⟨h1,h2⟩,hall⟩
    ·simp only [Classical.not_forall] at hall
     obtain ⟨i,hi,hv⟩ := hall
     exact ih i hi (by omega) (by simpa using hv)
  obtain ⟨j,⟨hj1,hj2⟩,hj3⟩ := hx
  refine ⟨j,?_,by simp⟩
  have step : ∀ (d i : Nat) (Q : Out → Prop),i + d = j → Q (.ret,[(4,.p (.int .i64 (j : Int)))],[]) →
    Wp Γ slices_IndexFunc_api_Val_api_Val_l1 [(0,.p (.sl kk 2 (vpv l))),(1,.p (.clo 119 [])),(7,.p (.int .i64 (l.length : Int))),(8,.p (.int .i64 (i : Int)))] [] (InBlk [] 0 Q) := by
   intro d
   induction d with
   | zero =>
    intro i Q hi hQ
    obtain rfl : i = j := by omega
    rw [W_loop (L := slices_IndexFunc_api_Val_api_Val_l1) rfl]
    simp (disch := first | assumption | omega | decide | (simp only [lens] <;> omega) | fail) only [go_sem,valP,hj2]
    exact hQ
   | succ d ih =>
    intro i Q hi hQ
    have hv := hj3 i (by omega)
    rw [W_loop (L := slices_IndexFunc_api_Val_api_Val_l1) rfl]
    simp (disch := first | assumption | omega | decide | (simp only [lens] <;> omega) | fail) only [go_sem,valP,hv]
    exact ih (i + 1) Q (by omega) hQ
  refine res_code (fn := slices_IndexFunc_api_Val_api_Val) rfl rfl ?_
  simp (disch := first | assumption | omega | decide | (simp only [lens] <;> omega) | fail) only [go_sem,slices_IndexFunc_api_Val_api_Val]
  refine step j 0 _ (by omega) ?_
  simp (disch := first | assumption | omega | decide | (simp only [lens] <;> omega) | fail) only [go_sem]
 ·refine ⟨-1,?_,by simp⟩
  refine res_code (fn := slices_IndexFunc_api_Val_api_Val) rfl rfl ?_
  simp (disch := first | assumption | omega | decide | (simp only [lens] <;> omega) | fail) only [go_sem,slices_IndexFunc_api_Val_api_Val]
  refine IndexFunc_l1_ok l hl _ l.length 0 (by omega) rfl (fun h => ?_) (fun h => ?_)
  ·simp (disch := first | assumption | omega | decide | (simp only [lens] <;> omega) | fail) only [go_sem]
  ·rw [ha] at h; cases h
@[go_sem] theorem res_ContainsFunc {kk : SK} (l : List Val) (hl : l.length < 1000000000) : res Γ 118 [.sl kk 2 (vpv l),.clo 119 []] = some [.bool (!l.all isV)] := by
 obtain ⟨r,h1,h2⟩ := res_IndexFunc (kk := kk) l hl
 refine res_code (fn := slices_ContainsFunc_api_Val_api_Val) rfl rfl ?_
 simp (disch := first | assumption | omega | decide | (simp only [lens] <;> omega) | fail) only [go_sem,slices_ContainsFunc_api_Val_api_Val,h1,h2]
theorem res_seriesIs {kk : SK} (s : Ser) (hl : s.vals.length ≤ 9223372036854775807) : res Γ 111 [s.pv kk] = some [.bool (isS s)] := by
 unfold Ser.pv
 refine res_code (fn := series_Is) rfl rfl ?_
 repeat' (first | (simp (disch := first | assumption | omega | decide | (simp only [lens] <;> omega) | fail) only [go_sem,series_Is]) | refine cond_split (fun hc => ?_) (fun hc => ?_) | refine gd_split_f (fun hc => ?_) (fun hc => ?_) | refine gd_split_t (fun hc => ?_) (fun hc => ?_))
 all_goals first
  | (rw [isS_no (by unfold sizeS; omega)]; done)
  | (rw [isS_no (by unfold sizeS; omega),decide_eq_false (by omega)]; done)
  | (rw [isS_yes (by unfold sizeS; omega)]; simp)
  | skip
theorem r18_Is_l1_ok {kk : SK} (s : Ser) (hl : s.vals.length < 1000000000) (Q : Out → Prop) : ∀ (k i : Nat),i + k = s.vals.length → (s.vals.take i).all isV = true →
  (s.vals.all isV = true → ∀ H,Q (.nrm,[],H)) → (s.vals.all isV = false → ∀ H,Q (.ret,[(2,.p (.bool false))],H)) →
  Wp Γ r18_Is_l1 [(1,.bx 0 0),(3,.p (.int .i64 (i : Int)))] [.box [.p (.str s.name),.p (.int .i64 s.start),.p (.int .i64 s.step),.p (.sl kk 2 (vpv s.vals)),.p (.int .i64 s.cons)]] (InBlk [] 0 Q) := by
 intro k
 induction k with
 | zero =>
  intro i hi ha h1 h2
  obtain rfl : i = s.vals.length := by omega
  rw [List.take_length] at ha
  rw [W_loop (L := r18_Is_l1) rfl]
  simp (disch := first | assumption | omega | decide | (simp only [lens] <;> omega) | fail) only [go_sem]
  exact h1 ha _
 | succ k ih =>
  intro i hi ha h1 h2
  have e := all_take (l := s.vals) (i := i) (by omega)
  rw [W_loop (L := r18_Is_l1) rfl]
  simp (disch := first | assumption | omega | decide | (simp only [lens] <;> omega) | fail) only [go_sem,valP]
  cases hv : isV (s.vals.getD i (false,0))
  ·simp (disch := first | assumption | omega | decide | (simp only [lens] <;> omega) | fail) only [go_sem]
   exact h2 (all_bad (by omega) hv) _
  ·simp (disch := first | assumption | omega | decide | (simp only [lens] <;> omega) | fail) only [go_sem]
   exact ih (i + 1) (by omega) (by rw [e,ha,hv]; rfl) h1 h2
theorem res_r18Is {kk : SK} (s : Ser) (hl : s.vals.length ≤ 9223372036854775807) : res Γ 113 [s.pv kk] = some [.bool (isS s)] := by
 unfold Ser.pv
 refine res_code (fn := r18_Is) rfl rfl ?_
 repeat' (first | (simp (disch := first | assumption | omega | decide | (simp only [lens] <;> omega) | fail) only [go_sem,r18_Is]) | refine cond_split (fun hc => ?_) (fun hc => ?_) | refine gd_split_f (fun hc => ?_) (fun hc => ?_) | refine gd_split_t (fun hc => ?_) (fun hc => ?_))
 all_goals first
  | (rw [isS_no (by unfold sizeS; omega)]; done)
  | skip
 all_goals
  have hs : sizeS s := by unfold sizeS; omega
  rw [isS_yes hs]
  refine r18_Is_l1_ok s (by omega) _ s.vals.length 0 (by omega) rfl (fun h H => ?_) (fun h H => ?_)
  ·simp (disch := first | assumption | omega | decide | (simp only [lens] <;> omega) | fail) only [go_sem,h]
  ·simp (disch := first | assumption | omega | decide | (simp only [lens] <;> omega) | fail) only [go_sem,h]
end Ab
namespace Ab
open Go (IntKind BinOp UnOp)
theorem vpv_flatR (l : List Val) : (vpv l).all flat = true := by
 rw [List.all_eq_true]
 intro x hx
 simp only [vpv,aggs,List.mem_map] at hx
 obtain ⟨_,⟨v,_,rfl⟩,rfl⟩ := hx
 rfl
theorem resM_CloneR {kk : SK} (l : List Val) (hl : l.length ≤ 1073741824) : resM Γ 0 49 [.p (.sl kk 2 (vpv l))] [] = some ([.own 0 l.length],[.row false 2 (vpv l)]) := by
 have h := resM_fresh (Γ := Γ) (f := 49) (g := cloneG 2) (ps := [.sl kk 2 (vpv l)]) (sz := 2) (xs := vpv l) rfl (by
  simp only [cloneG]
  rw [if_pos ⟨trivial,by omega,by rw [vpv_len]; exact hl,vpv_flatR l⟩]) (by omega) (by rw [vpv_len]; exact hl)
 rw [vpv_len] at h
 exact h
theorem st49R : stillF Γ 0 49 = true := rfl
theorem res_seriesOwnR {kk : SK} (s : Ser) (hl : s.vals.length ≤ 1073741824) : res Γ 31 [s.pv kk] = some [s.pv .any] := by
 have e := resM_CloneR (kk := kk) s.vals hl
 have hw : (vpv s.vals).length = s.vals.length := vpv_len
 unfold Ser.pv
 refine res_code (fn := series_Own) rfl rfl ?_
 simp (disch := first | assumption | omega | decide | (simp only [lens] <;> omega) | fail) only [go_sem,series_Own,e,st49R]
theorem res_r18OwnR {kk : SK} (s : Ser) (h : s.vals.length ≤ 1073741824) : res Γ 34 [s.pv kk] = some [s.pv .any] := by
 have hv : (vpv s.vals).length ≤ 1073741824 := by rw [vpv_len]; exact h
 have hw : (vpv s.vals).length = s.vals.length := vpv_len
 unfold Ser.pv
 refine res_code (fn := r18_Own) rfl rfl ?_
 simp (disch := first | assumption | omega | decide | (simp only [lens] <;> omega) | fail) only [go_sem,r18_Own]
theorem r18_SameR_l1_ok {k1 k2 : SK} (a : Ser) (hv : a.vals.length ≤ 1073741824) (Q : Out → Prop) : ∀ (k i : Nat),i + k = a.vals.length →
  (∀ H,Q (.nrm,[],H)) →
  Wp Γ r18_Same_l1 [(2,.bx 0 0),(3,.bx 1 0),(5,.p (.int .i64 (i : Int)))] [.box [.p (.str a.name),.p (.int .i64 a.start),.p (.int .i64 a.step),.p (.sl k1 2 (vpv a.vals)),.p (.int .i64 a.cons)],.box [.p (.str a.name),.p (.int .i64 a.start),.p (.int .i64 a.step),.p (.sl k2 2 (vpv a.vals)),.p (.int .i64 a.cons)]] (InBlk [] 0 Q) := by
 intro k
 induction k with
 | zero =>
  intro i hi hQ
  obtain rfl : i = a.vals.length := by omega
  rw [W_loop (L := r18_Same_l1) rfl]
  simp (disch := first | assumption | omega | decide | (simp only [lens] <;> omega) | fail) only [go_sem]
  exact hQ _
 | succ k ih =>
  intro i hi hQ
  rw [W_loop (L := r18_Same_l1) rfl]
  simp (disch := first | assumption | omega | decide | (simp only [lens] <;> omega) | fail) only [go_sem,valP]
  exact ih (i + 1) (by omega) hQ
theorem res_SameR {k1 k2 : SK} (s : Ser) (hv : s.vals.length ≤ 1073741824) : res Γ 28 [s.pv k1,s.pv k2] = some [.bool true] := by
 unfold Ser.pv
 refine res_code (fn := r18_Same) rfl rfl ?_
 simp (disch := first | assumption | omega | decide | (simp only [lens] <;> omega) | fail) only [go_sem,r18_Same,ne_eq,not_true_eq_false]
 refine r18_SameR_l1_ok s hv _ s.vals.length 0 (by omega) (fun H => ?_)
 simp (disch := first | assumption | omega | decide | (simp only [lens] <;> omega) | fail) only [go_sem]
theorem res_same24R {k1 k2 : SK} (s : Ser) (hv : s.vals.length ≤ 1073741824) : res Γ 11 [s.pv k1,s.pv k2] = some [.bool true] := by
 have e := res_SameR (k1 := k1) (k2 := k2) s hv
 unfold Ser.pv at e ⊢
 refine res_code (fn := l24_same) rfl rfl ?_
 simp (disch := first | assumption | omega | decide | (simp only [lens] <;> omega) | fail) only [go_sem,l24_same,e]
def heavyR (s : Ser) : Bool := decide (120 < s.vals.length) || decide (300 < s.name.length)
theorem res_heavyR {k : SK} (s : Ser) (hv : s.vals.length ≤ 9223372036854775807) : res Γ 12 [.sl .tight 5 [s.pv k]] = some [.bool (heavyR s)] := by
 unfold Ser.pv
 refine res_code (fn := l24_heavy) rfl rfl ?_
 simp (disch := first | assumption | omega | decide | (simp only [lens] <;> omega) | fail) only [go_sem,l24_heavy]
 rw [W_loop (L := l24_heavy_l1) rfl]
 repeat' (first | (simp (disch := first | assumption | omega | decide | (simp only [lens] <;> omega) | fail) only [go_sem]) | refine cond_split (fun hc => ?_) (fun hc => ?_) | refine gd_split_f (fun hc => ?_) (fun hc => ?_) | refine gd_split_t (fun hc => ?_) (fun hc => ?_))
 ·have e : heavyR s = true := by simp [heavyR]; omega
  rw [e]
 ·have e : heavyR s = false := by simp [heavyR]; omega
  rw [W_loop (L := l24_heavy_l1) rfl]
  simp (disch := first | assumption | omega | decide | (simp only [lens] <;> omega) | fail) only [go_sem,e]
  rw [decide_eq_false (by omega)]
 ·have e : heavyR s = true := by simp [heavyR]; omega
  rw [e]
def rAlias : List UInt8 := [97,108,105,97,115]
def rNode : List UInt8 := [97,108,105,97,115,66,121,78,111,100,101]
def rSub : List UInt8 := [97,108,105,97,115,83,117,98]
def rCut : List UInt8 := [115,117,98,115,116,114]
def renS (s : Ser) (n : List UInt8) : Ser := ⟨n,s.start,s.step,s.vals,s.cons⟩
def zeroS : PV := .agg [.str [],.int .i64 0,.int .i64 0,.sl .nil 2 [],.int .i64 0]
theorem res_byNode {k kn : SK} (s : Ser) (t : PV) (ns : List Int) (hs : s.name.length ≤ 100000) (hn : ns.length ≤ 1000) (hr : ∀ n ∈ ns,-9223372036854775808 ≤ n ∧ n ≤ 9223372036854775807) :
  res Γ 312 [.agg [.str s.name,.int .i64 s.start,.int .i64 s.step,.sl k 2 (vpv s.vals),.int .i64 s.cons,t,.sl kn 1 (ints .i64 ns)]] = some [.str (joinB [46] (keyB s.name ns)),.int .i64 0] := by
 refine res_code (fn := fname_renaming_byNode) rfl rfl ?_
 simp (disch := first | assumption | omega | decide | (simp only [lens] <;> omega) | fail) only [go_sem,fname_renaming_byNode]
def placeI (i n : Int) : Int := min (if i < 0 then max i (-n) + n else i) n
theorem placeI_bounds {i n : Int} (h : 0 ≤ n) : 0 ≤ placeI i n ∧ placeI i n ≤ n := by
 unfold placeI
 split <;> omega
theorem res_place (i n : Int) (h0 : -9223372036854775808 ≤ i) (h1 : i ≤ 9223372036854775807) (hn : 0 ≤ n) (hn1 : n ≤ 1000000000) : res Γ 324 [.int .i64 i,.int .i64 n] = some [.int .i64 (placeI i n)] := by
 unfold placeI
 by_cases h : i < 0
 ·refine res_code (fn := fname_place) rfl rfl ?_
  simp (disch := first | assumption | omega | decide | (simp only [lens] <;> omega) | fail) only [go_sem,fname_place]
  rw [if_pos h,Int.zero_sub]
 ·refine res_code (fn := fname_place) rfl rfl ?_
  simp (disch := first | assumption | omega | decide | (simp only [lens] <;> omega) | fail) only [go_sem,fname_place]
  rw [if_neg h]
theorem res_held (i n : Int) (h0 : -9223372036854775808 ≤ i) (h1 : i ≤ 9223372036854775807) (hn : 0 ≤ n) (hn1 : n ≤ 1000000000) : res Γ 321 [.int .i64 i,.int .i64 n] = some [.int .i64 (placeI i n)] := by
 unfold placeI
 by_cases h : i < 0
 ·refine res_code (fn := r24_held) rfl rfl ?_
  simp (disch := first | assumption | omega | decide | (simp only [lens] <;> omega) | fail) only [go_sem,r24_held]
  rw [if_pos h,Int.zero_sub]
 ·refine res_code (fn := r24_held) rfl rfl ?_
  simp (disch := first | assumption | omega | decide | (simp only [lens] <;> omega) | fail) only [go_sem,r24_held]
  rw [if_neg h]
def cutB (s : List UInt8) (ns : List Int) : List (List UInt8) :=
 let l := splitB 46 (baseB s)
 let a := placeI (ns.getD 0 0) l.length
 let b := if 1 < ns.length ∧ ns.getD 1 0 ≠ 0 then placeI (ns.getD 1 0) l.length else l.length
 (l.take (max a b).toNat).drop a.toNat
theorem joinB_leR {sep : List UInt8} {B : Nat} : ∀ {l : List (List UInt8)},(∀ x ∈ l,x.length ≤ B) → (joinB sep l).length ≤ l.length * (B + sep.length)
 | [],_ => by simp [joinB]
 | [s],h => by have := h s (by simp); simp [joinB]; omega
 | s :: t :: r,h => by
  have ih := joinB_leR (sep := sep) (B := B) (l := t :: r) fun x hx => h x (by simp only [List.mem_cons] at hx ⊢; exact .inr hx)
  have h1 := h s (by simp)
  have e : joinB sep (s :: t :: r) = s ++ sep ++ joinB sep (t :: r) := rfl
  have e2 : (s :: t :: r).length * (B + sep.length) = (B + sep.length) + (t :: r).length * (B + sep.length) := by
   rw [List.length_cons,Nat.add_mul,Nat.one_mul,Nat.add_comm]
  rw [e,e2,List.length_append,List.length_append]
  omega
theorem cut_join {s : List UInt8} (hs : s.length ≤ 10000) {a b : Nat} : (joinB [46] (((splitB 46 (baseB s)).take a).drop b)).length ≤ 1000000000 ∧ (((splitB 46 (baseB s)).take a).drop b).length < 1000000000 := by
 have h1 := splitB_len 46 (baseB s)
 have h2 : List.count 46 (baseB s) ≤ (baseB s).length := List.count_le_length
 have h3 := baseB_len s
 have h4 : (((splitB 46 (baseB s)).take a).drop b).length ≤ 10001 := by
  rw [List.length_drop,List.length_take]; omega
 refine ⟨?_,by omega⟩
 have h5 := joinB_leR (sep := [46]) (B := 10000) (l := ((splitB 46 (baseB s)).take a).drop b) fun x hx => by
  have := splitB_mem 46 (baseB s) x (List.mem_of_mem_take (List.mem_of_mem_drop hx))
  omega
 have h6 : (((splitB 46 (baseB s)).take a).drop b).length * (10000 + [46].length) ≤ 10001 * 10001 := Nat.mul_le_mul h4 (by simp)
 omega
theorem res_substr {k kn : SK} (s : Ser) (t : PV) (ns : List Int) (hs : s.name.length ≤ 10000) (hn : ns.length ≤ 1000) (h0 : ns ≠ []) (hr : ∀ n ∈ ns,-9223372036854775808 ≤ n ∧ n ≤ 9223372036854775807) :
  res Γ 314 [.agg [.str s.name,.int .i64 s.start,.int .i64 s.step,.sl k 2 (vpv s.vals),.int .i64 s.cons,t,.sl kn 1 (ints .i64 ns)]] = some [.str (joinB [46] (cutB s.name ns)),.int .i64 0] := by
 have h3 := baseB_len s.name
 have h1 := splitB_len 46 (baseB s.name)
 have h2 : List.count 46 (baseB s.name) ≤ (baseB s.name).length := List.count_le_length
 have hj := fun a b => @cut_join s.name hs a b
 unfold cutB
 obtain ⟨l,hl⟩ : ∃ l,splitB 46 (baseB s.name) = l := ⟨_,rfl⟩
 have eP := res_nameParts (baseB s.name) (by omega)
 rw [hl] at h1 eP hj ⊢
 have hpos : 0 < ns.length := List.length_pos_iff.2 h0
 have m0 : ns.getD 0 0 ∈ ns := by rw [List.getD_eq_getElem?_getD,List.getElem?_eq_getElem hpos]; exact List.getElem_mem hpos
 have p0 := res_place (ns.getD 0 0) l.length (hr _ m0).1 (hr _ m0).2 (by omega) (by omega)
 have b0 := placeI_bounds (i := ns.getD 0 0) (n := l.length) (by omega)
 dsimp only
 by_cases c1 : 1 < ns.length
 ·have m1 : ns.getD 1 0 ∈ ns := by rw [List.getD_eq_getElem?_getD,List.getElem?_eq_getElem c1]; exact List.getElem_mem c1
  have p1 := res_place (ns.getD 1 0) l.length (hr _ m1).1 (hr _ m1).2 (by omega) (by omega)
  have b1 := placeI_bounds (i := ns.getD 1 0) (n := l.length) (by omega)
  by_cases c2 : ns.getD 1 0 = 0
  ·rw [if_neg (fun h => h.2 c2)]
   generalize placeI (ns.getD 0 0) l.length = a at *
   have e : (max a (l.length : Int)).toNat = l.length := by omega
   obtain ⟨j1,j2⟩ := hj l.length a.toNat
   rw [e]
   refine res_code (fn := fname_renaming_substr) rfl rfl ?_
   simp (disch := first | assumption | omega | decide | (simp only [lens] <;> omega) | fail) only [go_sem,fname_renaming_substr,eP,p0,c2,ne_eq,not_true_eq_false]
  ·rw [if_pos ⟨c1,c2⟩]
   generalize placeI (ns.getD 0 0) l.length = a at *
   generalize placeI (ns.getD 1 0) l.length = b at *
   obtain ⟨j1,j2⟩ := hj (max a b).toNat a.toNat
   refine res_code (fn := fname_renaming_substr) rfl rfl ?_
   simp (disch := first | assumption | omega | decide | (simp only [lens] <;> omega) | fail) only [go_sem,fname_renaming_substr,eP,p0,p1,c2,ne_eq]
 ·rw [if_neg (fun h => c1 h.1)]
  generalize placeI (ns.getD 0 0) l.length = a at *
  have e : (max a (l.length : Int)).toNat = l.length := by omega
  obtain ⟨j1,j2⟩ := hj l.length a.toNat
  rw [e]
  refine res_code (fn := fname_renaming_substr) rfl rfl ?_
  simp (disch := first | assumption | omega | decide | (simp only [lens] <;> omega) | fail) only [go_sem,fname_renaming_substr,eP,p0]
theorem res_r24cut {k kn : SK} (s : Ser) (ns : List Int) (hs : s.name.length ≤ 10000) (hn : ns.length ≤ 1000) (h0 : ns ≠ []) (hr : ∀ n ∈ ns,-9223372036854775808 ≤ n ∧ n ≤ 9223372036854775807) :
  res Γ 307 [s.pv k,.sl kn 1 (ints .i64 ns)] = some [.str (joinB [46] (cutB s.name ns))] := by
 have h3 := baseB_len s.name
 have h1 := splitB_len 46 (baseB s.name)
 have h2 : List.count 46 (baseB s.name) ≤ (baseB s.name).length := List.count_le_length
 have hj := fun a b => @cut_join s.name hs a b
 unfold cutB
 obtain ⟨l,hl⟩ : ∃ l,splitB 46 (baseB s.name) = l := ⟨_,rfl⟩
 have eP := res_r8Parts (baseB s.name) (by omega)
 rw [hl] at h1 eP hj ⊢
 have hpos : 0 < ns.length := List.length_pos_iff.2 h0
 have m0 : ns.getD 0 0 ∈ ns := by rw [List.getD_eq_getElem?_getD,List.getElem?_eq_getElem hpos]; exact List.getElem_mem hpos
 have p0 := res_held (ns.getD 0 0) l.length (hr _ m0).1 (hr _ m0).2 (by omega) (by omega)
 have b0 := placeI_bounds (i := ns.getD 0 0) (n := l.length) (by omega)
 dsimp only
 unfold Ser.pv
 by_cases c1 : 1 < ns.length
 ·have m1 : ns.getD 1 0 ∈ ns := by rw [List.getD_eq_getElem?_getD,List.getElem?_eq_getElem c1]; exact List.getElem_mem c1
  have p1 := res_held (ns.getD 1 0) l.length (hr _ m1).1 (hr _ m1).2 (by omega) (by omega)
  have b1 := placeI_bounds (i := ns.getD 1 0) (n := l.length) (by omega)
  by_cases c2 : ns.getD 1 0 = 0
  ·rw [if_neg (fun h => h.2 c2)]
   generalize placeI (ns.getD 0 0) l.length = a at *
   have e : (max a (l.length : Int)).toNat = l.length := by omega
   obtain ⟨j1,j2⟩ := hj l.length a.toNat
   rw [e]
   refine res_code (fn := r24_cut) rfl rfl ?_
   simp (disch := first | assumption | omega | decide | (simp only [lens] <;> omega) | fail) only [go_sem,r24_cut,eP,p0,c2,ne_eq,not_true_eq_false]
  ·rw [if_pos ⟨c1,c2⟩]
   generalize placeI (ns.getD 0 0) l.length = a at *
   generalize placeI (ns.getD 1 0) l.length = b at *
   obtain ⟨j1,j2⟩ := hj (max a b).toNat a.toNat
   by_cases c3 : b < a
   ·have e : max a b = a := by omega
    rw [e] at j1 j2 ⊢
    refine res_code (fn := r24_cut) rfl rfl ?_
    simp (disch := first | assumption | omega | decide | (simp only [lens] <;> omega) | fail) only [go_sem,r24_cut,eP,p0,p1,c2,ne_eq]
   ·have e : max a b = b := by omega
    rw [e] at j1 j2 ⊢
    refine res_code (fn := r24_cut) rfl rfl ?_
    simp (disch := first | assumption | omega | decide | (simp only [lens] <;> omega) | fail) only [go_sem,r24_cut,eP,p0,p1,c2,ne_eq]
 ·rw [if_neg (fun h => c1 h.1)]
  generalize placeI (ns.getD 0 0) l.length = a at *
  have e : (max a (l.length : Int)).toNat = l.length := by omega
  obtain ⟨j1,j2⟩ := hj l.length a.toNat
  rw [e]
  refine res_code (fn := r24_cut) rfl rfl ?_
  simp (disch := first | assumption | omega | decide | (simp only [lens] <;> omega) | fail) only [go_sem,r24_cut,eP,p0]
end Ab
namespace Ab
open Go (IntKind BinOp UnOp)
theorem heavyR_no {s : Ser} (h : heavyR s = false) : s.vals.length ≤ 120 ∧ s.name.length ≤ 300 := by
 simp [heavyR] at h
 omega
end Ab
namespace Ab
open Go (IntKind BinOp UnOp)
theorem progS_ok {s : List UInt8} (hs : s.length ≤ 100) {g : Nat} {l : List Ins} (h : progS s = .inr (g,l)) : g ≤ 1024 ∧ l.length ≤ 10000 ∧ ∀ x ∈ l,x.2.2.2.length ≤ 1000000 := by
 unfold progS at h
 cases hp : parseS s with
 | error b => rw [hp] at h; cases b <;> cases h
 | ok r =>
  obtain ⟨p,j,g'⟩ := r
  rw [hp] at h
  obtain ⟨hf,hw,hj,hg,hl,hm⟩ := mu_small hs hp
  have ht : tl 512 p := rd_tl _ .ways 0 0 0 _ hp
  dsimp only at h
  split at h
  ·cases h
  ·cases h
   refine ⟨by omega,?_,fun x hx => ?_⟩
   ·simp only [List.length_cons,List.length_append,comp_len,List.length_nil]; omega
   ·simp only [List.mem_cons,List.mem_append,List.not_mem_nil,or_false] at hx
    rcases hx with rfl | hx | rfl | rfl
    ·exact Nat.zero_le _
    ·exact Nat.le_trans (comp_tl p 1 ht x hx) (by omega)
    ·exact Nat.zero_le _
    ·exact Nat.zero_le _
theorem progS_err {s : List UInt8} {e : Int} (h : progS s = .inl e) : e = 12 ∨ e = 8 := by
 unfold progS at h
 cases hp : parseS s with
 | error b => rw [hp] at h; cases b <;> cases h <;> simp
 | ok r =>
  rw [hp] at h
  dsimp only at h
  split at h
  ·cases h; simp
  ·cases h
theorem allOut_cases (F t m) : ∃ (n : List UInt8) (e : Int),allOut F t m = [.str n,.int .i64 e] ∧ (e = 0 ∨ e = 8 ∨ e = 13) := by
 unfold allOut
 split
 ·split
  ·exact ⟨_,_,rfl,by simp⟩
  ·split
   ·exact ⟨_,_,rfl,by simp⟩
   ·exact ⟨_,_,rfl,by simp⟩
 ·exact ⟨_,_,rfl,by simp⟩
theorem sub_both (x m t : List UInt8) (hx : x.length ≤ 100) (hm : m.length ≤ 1000) (ht : t.length ≤ 10000) : ∃ (n : List UInt8) (e : Int),(0 ≤ e ∧ e ≤ 100) ∧
    ((e ≠ 0 ∧ res Γ 323 [.str x] = some [noProg,.int .i64 e] ∧ res Γ 309 [.str x] = some [noProg,.int .i64 e]) ∨
     ∃ g l,res Γ 323 [.str x] = some [prog g l,.int .i64 0] ∧ res Γ 309 [.str x] = some [prog g l,.int .i64 0] ∧ res Γ 322 [prog g l,.str m,.str t] = some [.str n,.int .i64 e] ∧ res Γ 308 [prog g l,.str m,.str t] = some [.str n,.int .i64 e]) := by
  have e1 := res_rexCompile x hx
  have e2 := res_r11Compile x hx
  cases hp : progS x with
  | inl e =>
    rw [hp] at e1 e2
    have := progS_err hp
    exact ⟨[],e,by omega,.inl ⟨by omega,e1,e2⟩⟩
  | inr gl =>
    obtain ⟨g,l⟩ := gl
    rw [hp] at e1 e2
    obtain ⟨h1,h2,h3⟩ := progS_ok hx hp
    obtain ⟨F,hF⟩ := find_both g h1 l h2 h3 t ht
    obtain ⟨n,e,ha,he⟩ := allOut_cases F t m
    have s1 := res_substAll g h1 .any l m hm t ht F (fun k hk => ⟨(hF k hk).1,(hF k hk).2.2⟩)
    have s2 := res_r13All g h1 .any l m hm t ht F (fun k hk => ⟨(hF k hk).2.1,(hF k hk).2.2⟩)
    rw [ha] at s1 s2
    exact ⟨n,e,by omega,.inr ⟨g,l,e1,e2,s1,s2⟩⟩
def errO (e : Int) : List PV := [zeroS,.int .i64 e]
def rnOut (s : Ser) (lt ln a b : Nat) (n : List UInt8) (e : Int) : List PV :=
 if lt < a ∨ ln < b ∨ isS s = false then errO 1 else if e ≠ 0 then errO e else if isS (renS s n) = true then [(renS s n).pv .any,.int .i64 0] else errO 1
set_option maxRecDepth 10000 in
theorem res_RenameG {kt kn : SK} (how : List UInt8) (f a b : Nat) (_ha : a ≤ 100) (_hb : b ≤ 100) (he1 : res Γ 306 [.str how] = some [.clo f [],.int .i64 a,.int .i64 b]) (ts : List (List UInt8)) (ns : List Int) (s : Ser) (hs : s.vals.length ≤ 1000000) (_hts : ts.length ≤ 1000000) (_hns : ns.length ≤ 1000000) (n : List UInt8) (e : Int) (he : 0 ≤ e ∧ e ≤ 100)
    (he2 : a ≤ ts.length → b ≤ ns.length → res Γ f [.agg [.str s.name,.int .i64 s.start,.int .i64 s.step,.sl .any 2 (vpv s.vals),.int .i64 s.cons,.sl kt 1 (strs ts),.sl kn 1 (ints .i64 ns)]] = some [.str n,.int .i64 e]) :
    res Γ 299 [.str how,s.pv .any,.sl kt 1 (strs ts),.sl kn 1 (ints .i64 ns)] = some (rnOut s ts.length ns.length a b n e) := by
  have e3 := res_seriesIs (kk := .any) s (by omega)
  have e4 := res_seriesIs (kk := .any) (renS s n) (show s.vals.length ≤ _ by omega)
  have e5 := res_seriesOwnR (kk := .any) s (by omega)
  unfold rnOut errO
  by_cases c1 : ts.length < a
  · rw [if_pos (.inl c1)]
    unfold Ser.pv zeroS at *
    refine res_code (fn := fname_Rename) rfl rfl ?_
    simp (disch := first | assumption | omega | decide | (simp only [lens] <;> omega) | fail) only [go_sem,fname_Rename,he1]
  · by_cases c2 : ns.length < b
    · rw [if_pos (.inr (.inl c2))]
      unfold Ser.pv zeroS at *
      refine res_code (fn := fname_Rename) rfl rfl ?_
      simp (disch := first | assumption | omega | decide | (simp only [lens] <;> omega) | fail) only [go_sem,fname_Rename,he1]
    · have he2 := he2 (by omega) (by omega)
      cases hi : isS s
      · rw [if_pos (.inr (.inr rfl))]
        rw [hi] at e3
        unfold Ser.pv zeroS at *
        refine res_code (fn := fname_Rename) rfl rfl ?_
        simp (disch := first | assumption | omega | decide | (simp only [lens] <;> omega) | fail) only [go_sem,fname_Rename,he1,e3]
      · rw [if_neg (by rintro (h | h | h); · exact c1 h
                       · exact c2 h
                       · cases h)]
        rw [hi] at e3
        by_cases c3 : e = 0
        · subst c3
          rw [if_neg (by simp)]
          generalize isS (renS s n) = i2 at *
          unfold renS Ser.pv at *
          unfold zeroS at *
          cases i2
          · rw [if_neg Bool.false_ne_true]
            refine res_code (fn := fname_Rename) rfl rfl ?_
            simp (disch := first | assumption | omega | decide | (simp only [lens] <;> omega) | fail) only [go_sem,fname_Rename,he1,he2,e3,e4,e5,ne_eq,not_true_eq_false]
          · rw [if_pos (Eq.refl true)]
            refine res_code (fn := fname_Rename) rfl rfl ?_
            simp (disch := first | assumption | omega | decide | (simp only [lens] <;> omega) | fail) only [go_sem,fname_Rename,he1,he2,e3,e4,e5,ne_eq,not_true_eq_false]
        · rw [if_pos c3]
          unfold Ser.pv zeroS at *
          refine res_code (fn := fname_Rename) rfl rfl ?_
          simp (disch := first | assumption | omega | decide | (simp only [lens] <;> omega) | fail) only [go_sem,fname_Rename,he1,he2,e3,ne_eq,c3,not_false_eq_true]
end Ab
namespace Ab
open Go (IntKind BinOp UnOp)
set_option maxRecDepth 10000 in
theorem res_rRenameGA {k kt kn : SK} (ts : List (List UInt8)) (ns : List Int) (s : Ser) (hs : s.vals.length ≤ 1000000) (_hsn : s.name.length ≤ 10000) (hts : ts.length ≤ 1000000) (hns : ns.length ≤ 1000) (_hr : ∀ n ∈ ns,-9223372036854775808 ≤ n ∧ n ≤ 9223372036854775807) :
  res Γ 298 [.str rAlias,s.pv k,.sl kt 1 (strs ts),.sl kn 1 (ints .i64 ns)] = some (rnOut s ts.length ns.length 1 0 (ts.getD 0 []) 0) := by
 have e1 : res Γ 310 [.str rAlias] = some [.int .i64 1,.int .i64 0,.bool true] := by
  unfold rAlias
  refine res_code (fn := r24_few) rfl rfl ?_
  simp (disch := first | assumption | omega | decide | (simp only [lens] <;> omega) | fail) only [go_sem,r24_few]
 have e3 := res_r18Is (kk := k) s (by omega)
 have e4 := res_r18Is (kk := .any) (renS s (ts.getD 0 [])) (show s.vals.length ≤ _ by omega)
 have e5 := res_r18OwnR (kk := k) s (by omega)
 unfold rnOut errO
 by_cases c1 : ts.length < 1
 ·rw [if_pos (.inl c1)]
  unfold rAlias at *
  unfold Ser.pv zeroS at *
  refine res_code (fn := r24_Rename) rfl rfl ?_
  simp (disch := first | assumption | omega | decide | (simp only [lens] <;> omega) | fail) only [go_sem,r24_Rename,e1]
 ·have c1' : ¬(ts.length < 1 ∨ ns.length < 0 ∨ isS s = false) ∨ isS s = false := by
   cases isS s
   ·exact .inr rfl
   ·refine .inl (fun h => ?_)
    rcases h with h | h | h
    ·omega
    ·omega
    ·cases h
  cases hi : isS s
  ·rw [if_pos (.inr (.inr rfl))]
   rw [hi] at e3
   unfold rAlias at *
   unfold Ser.pv zeroS at *
   refine res_code (fn := r24_Rename) rfl rfl ?_
   simp (disch := first | assumption | omega | decide | (simp only [lens] <;> omega) | fail) only [go_sem,r24_Rename,e1,e3]
  ·rw [hi] at c1' e3
   rw [if_neg (c1'.resolve_right (by simp)),if_neg (by simp)]
   generalize isS (renS s (ts.getD 0 [])) = i2 at *
   unfold renS Ser.pv at *
   unfold rAlias zeroS at *
   cases i2
   ·rw [if_neg Bool.false_ne_true]
    refine res_code (fn := r24_Rename) rfl rfl ?_
    simp (disch := first | assumption | omega | decide | (simp only [lens] <;> omega) | fail) only [go_sem,r24_Rename,e1,e3,e4,e5]
   ·rw [if_pos (Eq.refl true)]
    refine res_code (fn := r24_Rename) rfl rfl ?_
    simp (disch := first | assumption | omega | decide | (simp only [lens] <;> omega) | fail) only [go_sem,r24_Rename,e1,e3,e4,e5]
set_option maxRecDepth 10000 in
theorem res_rRenameGN {k kt kn : SK} (ts : List (List UInt8)) (ns : List Int) (s : Ser) (hs : s.vals.length ≤ 1000000) (hsn : s.name.length ≤ 10000) (hts : ts.length ≤ 1000000) (hns : ns.length ≤ 1000) (hr : ∀ n ∈ ns,-9223372036854775808 ≤ n ∧ n ≤ 9223372036854775807) :
  res Γ 298 [.str rNode,s.pv k,.sl kt 1 (strs ts),.sl kn 1 (ints .i64 ns)] = some (rnOut s ts.length ns.length 0 1 (joinB [46] (keyB s.name ns)) 0) := by
 have e1 : res Γ 310 [.str rNode] = some [.int .i64 0,.int .i64 1,.bool true] := by
  unfold rNode
  refine res_code (fn := r24_few) rfl rfl ?_
  simp (disch := first | assumption | omega | decide | (simp only [lens] <;> omega) | fail) only [go_sem,r24_few]
 have e2 := res_r24Key (kk := kn) s.name (.int .i64 s.start) (.int .i64 s.step) (.sl k 2 (vpv s.vals)) (.int .i64 s.cons) ns (by omega) hns hr
 have e3 := res_r18Is (kk := k) s (by omega)
 have e4 := res_r18Is (kk := .any) (renS s (joinB [46] (keyB s.name ns))) (show s.vals.length ≤ _ by omega)
 have e5 := res_r18OwnR (kk := k) s (by omega)
 unfold rnOut errO
 by_cases c1 : ns.length < 1
 ·rw [if_pos (.inr (.inl c1))]
  unfold rNode at *
  unfold Ser.pv zeroS at *
  refine res_code (fn := r24_Rename) rfl rfl ?_
  simp (disch := first | assumption | omega | decide | (simp only [lens] <;> omega) | fail) only [go_sem,r24_Rename,e1]
 ·have c1' : ¬(ts.length < 0 ∨ ns.length < 1 ∨ isS s = false) ∨ isS s = false := by
   cases isS s
   ·exact .inr rfl
   ·refine .inl (fun h => ?_)
    rcases h with h | h | h
    ·omega
    ·omega
    ·cases h
  cases hi : isS s
  ·rw [if_pos (.inr (.inr rfl))]
   rw [hi] at e3
   unfold rNode at *
   unfold Ser.pv zeroS at *
   refine res_code (fn := r24_Rename) rfl rfl ?_
   simp (disch := first | assumption | omega | decide | (simp only [lens] <;> omega) | fail) only [go_sem,r24_Rename,e1,e3]
  ·rw [hi] at c1' e3
   rw [if_neg (c1'.resolve_right (by simp)),if_neg (by simp)]
   generalize isS (renS s (joinB [46] (keyB s.name ns))) = i2 at *
   generalize (joinB [46] (keyB s.name ns)) = nn at *
   unfold renS Ser.pv at *
   unfold rNode zeroS at *
   cases i2
   ·rw [if_neg Bool.false_ne_true]
    refine res_code (fn := r24_Rename) rfl rfl ?_
    simp (disch := first | assumption | omega | decide | (simp only [lens] <;> omega) | fail) only [go_sem,r24_Rename,e1,e2,e3,e4,e5]
   ·rw [if_pos (Eq.refl true)]
    refine res_code (fn := r24_Rename) rfl rfl ?_
    simp (disch := first | assumption | omega | decide | (simp only [lens] <;> omega) | fail) only [go_sem,r24_Rename,e1,e2,e3,e4,e5]
set_option maxRecDepth 10000 in
theorem res_rRenameGC {k kt kn : SK} (ts : List (List UInt8)) (ns : List Int) (s : Ser) (hs : s.vals.length ≤ 1000000) (hsn : s.name.length ≤ 10000) (hts : ts.length ≤ 1000000) (hns : ns.length ≤ 1000) (hr : ∀ n ∈ ns,-9223372036854775808 ≤ n ∧ n ≤ 9223372036854775807) :
  res Γ 298 [.str rCut,s.pv k,.sl kt 1 (strs ts),.sl kn 1 (ints .i64 ns)] = some (rnOut s ts.length ns.length 0 1 (joinB [46] (cutB s.name ns)) 0) := by
 have e1 : res Γ 310 [.str rCut] = some [.int .i64 0,.int .i64 1,.bool true] := by
  unfold rCut
  refine res_code (fn := r24_few) rfl rfl ?_
  simp (disch := first | assumption | omega | decide | (simp only [lens] <;> omega) | fail) only [go_sem,r24_few]
 have e3 := res_r18Is (kk := k) s (by omega)
 have e4 := res_r18Is (kk := .any) (renS s (joinB [46] (cutB s.name ns))) (show s.vals.length ≤ _ by omega)
 have e5 := res_r18OwnR (kk := k) s (by omega)
 unfold rnOut errO
 by_cases c1 : ns.length < 1
 ·rw [if_pos (.inr (.inl c1))]
  unfold rCut at *
  unfold Ser.pv zeroS at *
  refine res_code (fn := r24_Rename) rfl rfl ?_
  simp (disch := first | assumption | omega | decide | (simp only [lens] <;> omega) | fail) only [go_sem,r24_Rename,e1]
 ·have c1' : ¬(ts.length < 0 ∨ ns.length < 1 ∨ isS s = false) ∨ isS s = false := by
   cases isS s
   ·exact .inr rfl
   ·refine .inl (fun h => ?_)
    rcases h with h | h | h
    ·omega
    ·omega
    ·cases h
  have e2 := res_r24cut (k := k) (kn := kn) s ns hsn hns (List.length_pos_iff.1 (by omega)) hr
  cases hi : isS s
  ·rw [if_pos (.inr (.inr rfl))]
   rw [hi] at e3
   unfold rCut at *
   unfold Ser.pv zeroS at *
   refine res_code (fn := r24_Rename) rfl rfl ?_
   simp (disch := first | assumption | omega | decide | (simp only [lens] <;> omega) | fail) only [go_sem,r24_Rename,e1,e3]
  ·rw [hi] at c1' e3
   rw [if_neg (c1'.resolve_right (by simp)),if_neg (by simp)]
   generalize isS (renS s (joinB [46] (cutB s.name ns))) = i2 at *
   generalize (joinB [46] (cutB s.name ns)) = nn at *
   unfold renS Ser.pv at *
   unfold rCut zeroS at *
   cases i2
   ·rw [if_neg Bool.false_ne_true]
    refine res_code (fn := r24_Rename) rfl rfl ?_
    simp (disch := first | assumption | omega | decide | (simp only [lens] <;> omega) | fail) only [go_sem,r24_Rename,e1,e2,e3,e4,e5]
   ·rw [if_pos (Eq.refl true)]
    refine res_code (fn := r24_Rename) rfl rfl ?_
    simp (disch := first | assumption | omega | decide | (simp only [lens] <;> omega) | fail) only [go_sem,r24_Rename,e1,e2,e3,e4,e5]
set_option maxRecDepth 10000 in
theorem res_rRenameGS {k kt kn : SK} (ts : List (List UInt8)) (ns : List Int) (s : Ser) (hs : s.vals.length ≤ 1000000) (hts : ts.length ≤ 1000000) (hns : ns.length ≤ 1000) (n : List UInt8) (e : Int)
  (hb : 2 ≤ ts.length → (e ≠ 0 ∧ res Γ 309 [.str (ts.getD 0 [])] = some [noProg,.int .i64 e]) ∨ ∃ g l,res Γ 309 [.str (ts.getD 0 [])] = some [prog g l,.int .i64 0] ∧ res Γ 308 [prog g l,.str (ts.getD 1 []),.str s.name] = some [.str n,.int .i64 e]) :
  res Γ 298 [.str rSub,s.pv k,.sl kt 1 (strs ts),.sl kn 1 (ints .i64 ns)] = some (rnOut s ts.length ns.length 2 0 n e) := by
 have e1 : res Γ 310 [.str rSub] = some [.int .i64 2,.int .i64 0,.bool true] := by
  unfold rSub
  refine res_code (fn := r24_few) rfl rfl ?_
  simp (disch := first | assumption | omega | decide | (simp only [lens] <;> omega) | fail) only [go_sem,r24_few]
 have e3 := res_r18Is (kk := k) s (by omega)
 have e4 := res_r18Is (kk := .any) (renS s n) (show s.vals.length ≤ _ by omega)
 have e5 := res_r18OwnR (kk := k) s (by omega)
 unfold rnOut errO
 by_cases c1 : ts.length < 2
 ·rw [if_pos (.inl c1)]
  unfold rSub at *
  unfold Ser.pv zeroS at *
  refine res_code (fn := r24_Rename) rfl rfl ?_
  simp (disch := first | assumption | omega | decide | (simp only [lens] <;> omega) | fail) only [go_sem,r24_Rename,e1]
 ·have c1' : ¬(ts.length < 2 ∨ ns.length < 0 ∨ isS s = false) ∨ isS s = false := by
   cases isS s
   ·exact .inr rfl
   ·refine .inl (fun h => ?_)
    rcases h with h | h | h
    ·omega
    ·omega
    ·cases h
  have hb := hb (by omega)
  cases hi : isS s
  ·rw [if_pos (.inr (.inr rfl))]
   rw [hi] at e3
   unfold rSub at *
   unfold Ser.pv zeroS at *
   refine res_code (fn := r24_Rename) rfl rfl ?_
   simp (disch := first | assumption | omega | decide | (simp only [lens] <;> omega) | fail) only [go_sem,r24_Rename,e1,e3]
  ·rw [hi] at c1' e3
   rw [if_neg (c1'.resolve_right (by simp))]
   rcases hb with ⟨h0,f1⟩ | ⟨g,l,f1,f2⟩
   ·rw [if_pos h0]
    unfold rSub at *
    unfold Ser.pv zeroS at *
    refine res_code (fn := r24_Rename) rfl rfl ?_
    simp (disch := first | assumption | omega | decide | (simp only [lens] <;> omega) | fail) only [go_sem,r24_Rename,e1,e3,e5,f1,ne_eq,h0,not_false_eq_true]
   ·by_cases h0 : e = 0
    ·subst h0
     rw [if_neg (by simp)]
     generalize isS (renS s n) = i2 at *
     unfold renS Ser.pv at *
     unfold rSub zeroS at *
     cases i2
     ·rw [if_neg Bool.false_ne_true]
      refine res_code (fn := r24_Rename) rfl rfl ?_
      simp (disch := first | assumption | omega | decide | (simp only [lens] <;> omega) | fail) only [go_sem,r24_Rename,e1,e3,e4,e5,f1,f2,ne_eq,not_true_eq_false]
     ·rw [if_pos (Eq.refl true)]
      refine res_code (fn := r24_Rename) rfl rfl ?_
      simp (disch := first | assumption | omega | decide | (simp only [lens] <;> omega) | fail) only [go_sem,r24_Rename,e1,e3,e4,e5,f1,f2,ne_eq,not_true_eq_false]
    ·rw [if_pos h0]
     unfold rSub at *
     unfold Ser.pv zeroS at *
     refine res_code (fn := r24_Rename) rfl rfl ?_
     simp (disch := first | assumption | omega | decide | (simp only [lens] <;> omega) | fail) only [go_sem,r24_Rename,e1,e3,e5,f1,f2,ne_eq,h0,not_false_eq_true]
theorem res_aliasG {k kt : SK} (s : Ser) (ts : List (List UInt8)) (h : 1 ≤ ts.length) (r : PV) : res Γ 311 [.agg [.str s.name,.int .i64 s.start,.int .i64 s.step,.sl k 2 (vpv s.vals),.int .i64 s.cons,.sl kt 1 (strs ts),r]] = some [.str (ts.getD 0 []),.int .i64 0] := by
 refine res_code (fn := fname_renaming_alias) rfl rfl ?_
 simp (disch := first | assumption | omega | decide | (simp only [lens] <;> omega) | fail) only [go_sem,fname_renaming_alias]
theorem res_subG {k kt : SK} (s : Ser) (ts : List (List UInt8)) (h : 2 ≤ ts.length) (r : PV) (n : List UInt8) (e : Int)
  (hb : (e ≠ 0 ∧ res Γ 323 [.str (ts.getD 0 [])] = some [noProg,.int .i64 e]) ∨ ∃ g l,res Γ 323 [.str (ts.getD 0 [])] = some [prog g l,.int .i64 0] ∧ res Γ 322 [prog g l,.str (ts.getD 1 []),.str s.name] = some [.str n,.int .i64 e]) :
  ∃ n',res Γ 313 [.agg [.str s.name,.int .i64 s.start,.int .i64 s.step,.sl k 2 (vpv s.vals),.int .i64 s.cons,.sl kt 1 (strs ts),r]] = some [.str n',.int .i64 e] ∧ (e = 0 → n' = n) := by
 rcases hb with ⟨h0,f1⟩ | ⟨g,l,f1,f2⟩
 ·refine ⟨[],?_,fun h => absurd h h0⟩
  refine res_code (fn := fname_renaming_sub) rfl rfl ?_
  simp (disch := first | assumption | omega | decide | (simp only [lens] <;> omega) | fail) only [go_sem,fname_renaming_sub,f1,ne_eq,h0,not_false_eq_true]
 ·refine ⟨n,?_,fun _ => rfl⟩
  refine res_code (fn := fname_renaming_sub) rfl rfl ?_
  simp (disch := first | assumption | omega | decide | (simp only [lens] <;> omega) | fail) only [go_sem,fname_renaming_sub,f1,f2,ne_eq,not_true_eq_false]
theorem rnOut_n {s lt ln a b n n' e} (h : e = 0 → n' = n) : rnOut s lt ln a b n' e = rnOut s lt ln a b n e := by
 unfold rnOut
 by_cases he : e = 0
 ·rw [h he]
 ·simp only [ne_eq,he,not_false_eq_true,if_true]
theorem both_names {k kt kn : SK} (how : List UInt8) (ts : List (List UInt8)) (ns : List Int) (s : Ser) (hs : s.vals.length ≤ 1000000) (hsn : s.name.length ≤ 10000) (hts : ts.length ≤ 1000) (htl : ∀ x ∈ ts,x.length ≤ 100) (hns : ns.length ≤ 1000) (hr : ∀ n ∈ ns,-9223372036854775808 ≤ n ∧ n ≤ 9223372036854775807) :
  ∃ r : List PV,((∃ e : Int,(0 ≤ e ∧ e ≤ 100) ∧ r = errO e) ∨ ∃ n,r = [(renS s n).pv .any,.int .i64 0]) ∧
   res Γ 299 [.str how,s.pv .any,.sl .any 1 (strs ts),.sl .any 1 (ints .i64 ns)] = some r ∧ res Γ 298 [.str how,s.pv k,.sl kt 1 (strs ts),.sl kn 1 (ints .i64 ns)] = some r := by
 have hcase : ∀ {a b n e},(0 ≤ e ∧ e ≤ 100) → ((∃ e' : Int,(0 ≤ e' ∧ e' ≤ 100) ∧ rnOut s ts.length ns.length a b n e = errO e') ∨ ∃ n',rnOut s ts.length ns.length a b n e = [(renS s n').pv .any,.int .i64 0]) := by
  intro a b n e he
  unfold rnOut
  split
  ·exact .inl ⟨1,by omega,rfl⟩
  ·split
   ·exact .inl ⟨e,he,rfl⟩
   ·split
    ·exact .inr ⟨n,rfl⟩
    ·exact .inl ⟨1,by omega,rfl⟩
 by_cases h1 : how = rAlias
 ·subst h1
  have e1 : res Γ 306 [.str rAlias] = some [.clo 311 [],.int .i64 (1 : Nat),.int .i64 (0 : Nat)] := by
   unfold rAlias
   refine res_code (fn := fname_does) rfl rfl ?_
   simp (disch := first | assumption | omega | decide | (simp only [lens] <;> omega) | fail) only [go_sem,fname_does]
   rfl
  exact ⟨_,hcase (by omega),res_RenameG rAlias 311 1 0 (by omega) (by omega) e1 ts ns s hs (by omega) (by omega) (ts.getD 0 []) 0 (by omega) (fun h _ => res_aliasG s ts h _),res_rRenameGA ts ns s hs hsn (by omega) hns hr⟩
 ·by_cases h2 : how = rNode
  ·subst h2
   have e1 : res Γ 306 [.str rNode] = some [.clo 312 [],.int .i64 (0 : Nat),.int .i64 (1 : Nat)] := by
    unfold rNode
    refine res_code (fn := fname_does) rfl rfl ?_
    simp (disch := first | assumption | omega | decide | (simp only [lens] <;> omega) | fail) only [go_sem,fname_does]
    rfl
   exact ⟨_,hcase (by omega),res_RenameG rNode 312 0 1 (by omega) (by omega) e1 ts ns s hs (by omega) (by omega) _ 0 (by omega) (fun _ _ => res_byNode s _ ns (by omega) hns hr),res_rRenameGN ts ns s hs hsn (by omega) hns hr⟩
  ·by_cases h3 : how = rCut
   ·subst h3
    have e1 : res Γ 306 [.str rCut] = some [.clo 314 [],.int .i64 (0 : Nat),.int .i64 (1 : Nat)] := by
     unfold rCut
     refine res_code (fn := fname_does) rfl rfl ?_
     simp (disch := first | assumption | omega | decide | (simp only [lens] <;> omega) | fail) only [go_sem,fname_does]
     rfl
    exact ⟨_,hcase (by omega),res_RenameG rCut 314 0 1 (by omega) (by omega) e1 ts ns s hs (by omega) (by omega) _ 0 (by omega) (fun _ h => res_substr s _ ns (by omega) hns (List.length_pos_iff.1 (by omega)) hr),res_rRenameGC ts ns s hs hsn (by omega) hns hr⟩
   ·by_cases h4 : how = rSub
    ·subst h4
     have e1 : res Γ 306 [.str rSub] = some [.clo 313 [],.int .i64 (2 : Nat),.int .i64 (0 : Nat)] := by
      unfold rSub
      refine res_code (fn := fname_does) rfl rfl ?_
      simp (disch := first | assumption | omega | decide | (simp only [lens] <;> omega) | fail) only [go_sem,fname_does]
      rfl
     by_cases c : 2 ≤ ts.length
     ·have m0 : (ts.getD 0 []).length ≤ 100 := by
       rw [List.getD_eq_getElem?_getD,List.getElem?_eq_getElem (by omega)]
       exact htl _ (List.getElem_mem _)
      have m1 : (ts.getD 1 []).length ≤ 100 := by
       rw [List.getD_eq_getElem?_getD,List.getElem?_eq_getElem (by omega)]
       exact htl _ (List.getElem_mem _)
      obtain ⟨n,e,he,hb⟩ := sub_both (ts.getD 0 []) (ts.getD 1 []) s.name m0 (by omega) hsn
      have g1 : ∃ n',res Γ 313 [.agg [.str s.name,.int .i64 s.start,.int .i64 s.step,.sl .any 2 (vpv s.vals),.int .i64 s.cons,.sl .any 1 (strs ts),.sl .any 1 (ints .i64 ns)]] = some [.str n',.int .i64 e] ∧ (e = 0 → n' = n) := by
       refine res_subG s ts c _ n e ?_
       rcases hb with ⟨h0,f1,f2⟩ | ⟨g,l,f1,f2,f3,f4⟩
       ·exact .inl ⟨h0,f1⟩
       ·exact .inr ⟨g,l,f1,f3⟩
      obtain ⟨n',g1,g2⟩ := g1
      refine ⟨_,hcase (n := n) he,?_,res_rRenameGS ts ns s hs (by omega) hns n e (fun _ => ?_)⟩
      ·rw [← rnOut_n g2]
       exact res_RenameG rSub 313 2 0 (by omega) (by omega) e1 ts ns s hs (by omega) (by omega) n' e he (fun _ _ => g1)
      ·rcases hb with ⟨h0,f1,f2⟩ | ⟨g,l,f1,f2,f3,f4⟩
       ·exact .inl ⟨h0,f2⟩
       ·exact .inr ⟨g,l,f2,f4⟩
     ·exact ⟨_,hcase (by omega),res_RenameG rSub 313 2 0 (by omega) (by omega) e1 ts ns s hs (by omega) (by omega) [] 0 (by omega) (fun h => absurd h c),res_rRenameGS ts ns s hs (by omega) hns [] 0 (fun h => absurd h c)⟩
    ·have e1 : res Γ 306 [.str how] = some [.nilfn,.int .i64 0,.int .i64 0] := by
      unfold rAlias rNode rCut rSub at *
      refine res_code (fn := fname_does) rfl rfl ?_
      simp (disch := first | assumption | omega | decide | (simp only [lens] <;> omega) | fail) only [go_sem,fname_does]
     have e2 : res Γ 310 [.str how] = some [.int .i64 0,.int .i64 0,.bool false] := by
      unfold rAlias rNode rCut rSub at *
      refine res_code (fn := r24_few) rfl rfl ?_
      simp (disch := first | assumption | omega | decide | (simp only [lens] <;> omega) | fail) only [go_sem,r24_few]
     refine ⟨errO 9,.inl ⟨9,by omega,rfl⟩,?_,?_⟩
     ·unfold errO Ser.pv zeroS at *
      refine res_code (fn := fname_Rename) rfl rfl ?_
      simp (disch := first | assumption | omega | decide | (simp only [lens] <;> omega) | fail) only [go_sem,fname_Rename,e1]
     ·unfold errO Ser.pv zeroS at *
      refine res_code (fn := r24_Rename) rfl rfl ?_
      simp (disch := first | assumption | omega | decide | (simp only [lens] <;> omega) | fail) only [go_sem,r24_Rename,e2]
theorem res_renamedG {k kt kn : SK} (how : List UInt8) (texts : List (List UInt8)) (ns : List Int) (s : Ser) (b : Bool) (hv : s.vals.length ≤ 9223372036854775807) (hsm : res Γ 305 [.sl kt 1 (strs texts),.sl kn 1 (ints .i64 ns)] = some [.bool b])
  (hX : b = true → texts.length ≤ 1000 ∧ ns.length ≤ 1000 ∧ ∀ x ∈ texts,x.length ≤ 100) (hr : ∀ n ∈ ns,-9223372036854775808 ≤ n ∧ n ≤ 9223372036854775807) :
  res Γ 295 [.str how,s.pv k,.sl kt 1 (strs texts),.sl kn 1 (ints .i64 ns)] = some [.bool true] := by
 have h1 := res_heavyR (k := k) s hv
 have hk := res_known24
 cases hh : heavyR s
 ·rw [hh] at h1
  obtain ⟨g1,g2⟩ := heavyR_no hh
  cases b
  ·unfold Ser.pv at *
   refine res_code (fn := l24_renamed) rfl rfl ?_
   simp (disch := first | assumption | omega | decide | (simp only [lens] <;> omega) | fail) only [go_sem,l24_renamed,h1,hsm]
  ·obtain ⟨t1,t2,t3⟩ := hX rfl
   obtain ⟨r,hcase,e1,e2⟩ := both_names (k := k) (kt := kt) (kn := kn) how texts ns s (by omega) (by omega) t1 t3 t2 hr
   have e3 := res_r18OwnR (kk := k) s (by omega)
   have e4 := res_same24R (k1 := .any) (k2 := k) s (by omega)
   have e0 : res Γ 11 [zeroS,zeroS] = some [.bool true] := res_same24R (k1 := .nil) (k2 := .nil) ⟨[],0,0,[],0⟩ (by simp)
   have l1 : (strs texts).length ≤ 1073741824 := by rw [strs_len]; omega
   have l2 : (ints .i64 ns).length ≤ 1073741824 := by rw [ints_len]; omega
   rcases hcase with ⟨e,he,rfl⟩ | ⟨n,rfl⟩
   ·clear hX
    unfold errO zeroS at *
    unfold Ser.pv at *
    refine res_code (fn := l24_renamed) rfl rfl ?_
    simp (disch := first | assumption | omega | decide | (simp only [lens] <;> omega) | fail) only [go_sem,l24_renamed,h1,hsm,e1,e2,e3,e4,e0,hk]
   ·have e5 := res_same24R (k1 := .any) (k2 := .any) (renS s n) (show s.vals.length ≤ _ by omega)
    clear hX e0
    unfold renS at *
    unfold Ser.pv at *
    refine res_code (fn := l24_renamed) rfl rfl ?_
    simp (disch := first | assumption | omega | decide | (simp only [lens] <;> omega) | fail) only [go_sem,l24_renamed,h1,hsm,e1,e2,e3,e4,e5,hk]
 ·rw [hh] at h1
  unfold Ser.pv at *
  refine res_code (fn := l24_renamed) rfl rfl ?_
  simp (disch := first | assumption | omega | decide | (simp only [lens] <;> omega) | fail) only [go_sem,l24_renamed,h1]
def smallB (ts : List (List UInt8)) (ns : List Int) : Bool := decide (ts.length ≤ 10) && decide (ns.length ≤ 20) && ts.all fun x => decide (x.length ≤ 100)
theorem small_l1_ok {kt : SK} (ts : List (List UInt8)) (hts : ts.length ≤ 10) (Q : Out → Prop) : ∀ (n i : Nat),i + n = ts.length →
    (match (ts.drop i).all fun x => decide (x.length ≤ 100) with
     | true => Q (.nrm,[],[])
     | false => Q (.ret,[(4,.p (.bool false))],[])) →
    Wp Γ l24_small_l1 [(0,.p (.sl kt 1 (strs ts))),(5,.p (.int .i64 i))] [] (InBlk [] 0 Q) := by
  intro n
  induction n with
  | zero =>
    intro i hi hQ
    rw [List.drop_eq_nil_of_le (by omega)] at hQ
    rw [W_loop (L := l24_small_l1) rfl]
    simp (disch := first | assumption | omega | decide | (simp only [lens] <;> omega) | fail) only [go_sem]
    exact hQ
  | succ n ih =>
    intro i hi hQ
    have hd : ts.drop i = ts.getD i [] :: ts.drop (i + 1) := by
      rw [List.drop_eq_getElem_cons (by omega),List.getD_eq_getElem?_getD,List.getElem?_eq_getElem (by omega)]; rfl
    rw [hd,List.all_cons] at hQ
    by_cases h : (ts.getD i []).length ≤ 100
    · rw [decide_eq_true h,Bool.true_and] at hQ
      have I := ih (i + 1) (by omega) hQ
      rw [W_loop (L := l24_small_l1) rfl]
      simp (disch := first | assumption | omega | decide | (simp only [lens] <;> omega) | fail) only [go_sem]
      exact I
    · rw [decide_eq_false h,Bool.false_and] at hQ
      rw [W_loop (L := l24_small_l1) rfl]
      simp (disch := first | assumption | omega | decide | (simp only [lens] <;> omega) | fail) only [go_sem]
      exact hQ
theorem res_small {kt kn : SK} (ts : List (List UInt8)) (ns : List Int) : res Γ 305 [.sl kt 1 (strs ts),.sl kn 1 (ints .i64 ns)] = some [.bool (smallB ts ns)] := by
 unfold smallB
 by_cases c1 : ts.length ≤ 10
 ·by_cases c2 : ns.length ≤ 20
  ·rw [decide_eq_true c1,decide_eq_true c2,Bool.true_and,Bool.true_and]
   have L := fun Q hQ => small_l1_ok (kt := kt) ts c1 Q ts.length 0 (by omega) hQ
   rw [List.drop_zero] at L
   cases h : ts.all fun x => decide (x.length ≤ 100)
   ·rw [h] at L
    refine res_code (fn := l24_small) rfl rfl ?_
    simp (disch := first | assumption | omega | decide | (simp only [lens] <;> omega) | fail) only [go_sem,l24_small]
    refine L _ ?_
    simp (disch := first | assumption | omega | decide | (simp only [lens] <;> omega) | fail) only [go_sem]
   ·rw [h] at L
    refine res_code (fn := l24_small) rfl rfl ?_
    simp (disch := first | assumption | omega | decide | (simp only [lens] <;> omega) | fail) only [go_sem,l24_small]
    refine L _ ?_
    simp (disch := first | assumption | omega | decide | (simp only [lens] <;> omega) | fail) only [go_sem]
  ·rw [decide_eq_true c1,decide_eq_false c2,Bool.and_false,Bool.false_and]
   refine res_code (fn := l24_small) rfl rfl ?_
   simp (disch := first | assumption | omega | decide | (simp only [lens] <;> omega) | fail) only [go_sem,l24_small]
 ·rw [decide_eq_false c1,Bool.false_and,Bool.false_and]
  refine res_code (fn := l24_small) rfl rfl ?_
  simp (disch := first | assumption | omega | decide | (simp only [lens] <;> omega) | fail) only [go_sem,l24_small]
theorem smallB_yes {ts ns} (h : smallB ts ns = true) : ts.length ≤ 1000 ∧ ns.length ≤ 1000 ∧ ∀ x ∈ ts,x.length ≤ 100 := by
 unfold smallB at h
 rw [Bool.and_eq_true,Bool.and_eq_true] at h
 obtain ⟨⟨h1,h2⟩,h3⟩ := h
 have h1 := of_decide_eq_true h1
 have h2 := of_decide_eq_true h2
 rw [List.all_eq_true] at h3
 exact ⟨by omega,by omega,fun x hx => of_decide_eq_true (h3 x hx)⟩
theorem res_FnameSubA {k : SK} (s : Ser) (x m : List UInt8) (o : Ser.Ok k s) : res Γ 303 [s.pv k,.str x,.str m] = some [.bool true] := by
 have e : res Γ 295 [.str rSub,s.pv k,.sl .tight 1 [.str x,.str m],.sl .nil 1 []] = some [.bool true] := res_renamedG (k := k) (kt := .tight) (kn := .nil) rSub [x,m] [] s _ o.len (res_small [x,m] []) smallB_yes (fun n h => nomatch h)
 unfold Ser.pv rSub at *
 refine res_code (fn := l24_FnameSub) rfl rfl ?_
 repeat' (first | (simp (disch := first | assumption | omega | decide | (simp only [lens] <;> omega) | fail) only [go_sem,l24_FnameSub,e]) | refine cond_split (fun hc => ?_) (fun hc => ?_) | refine gd_split_f (fun hc => ?_) (fun hc => ?_) | refine gd_split_t (fun hc => ?_) (fun hc => ?_))
def names24 : List (List UInt8) := [rAlias,rNode,rSub,[99,111,110,115,111,108,105,100,97,116,101,66,121],[103,114,111,117,112,66,121,78,111,100,101],[103,114,111,117,112,66,121,78,111,100,101,115],rCut]
theorem res_names24 : res Γ 296 [] = some [.sl .tight 1 (strs names24)] := res_of ⟨20,([.p (.sl .tight 1 (strs names24))],[]),by rfl,by rfl⟩
theorem res_rnames24 : res Γ 297 [] = some [.sl .tight 1 (strs names24)] := res_of ⟨20,([.p (.sl .tight 1 (strs names24))],[]),by rfl,by rfl⟩
theorem others24_l1_ok (v0 v2 v3 : PV) (L : List (List UInt8)) (hL : L.length ≤ 100) (H : Heap) (Q : Out → Prop) (hQ : Q (.nrm,[(0,.p v0),(2,.p v2),(3,.p v3),(5,.bx 0 0)],H)) : ∀ (n i : Nat),i + n = L.length →
  Wp Γ l24_FnameOthers_l1 [(0,.p v0),(2,.p v2),(3,.p v3),(5,.bx 0 0),(9,.p (.sl .tight 1 (strs L))),(10,.p (.sl .tight 1 (strs L))),(11,.p (.int .i64 i))] H (InBlk [0,2,3,5] 0 Q) := by
 intro n
 induction n with
 | zero =>
  intro i hi
  rw [W_loop (L := l24_FnameOthers_l1) rfl]
  simp (disch := first | assumption | omega | decide | (simp only [lens] <;> omega) | fail) only [go_sem]
  exact hQ
 | succ n ih =>
  intro i hi
  have I := ih (i + 1) (by omega)
  rw [W_loop (L := l24_FnameOthers_l1) rfl]
  simp (disch := first | assumption | omega | decide | (simp only [lens] <;> omega) | fail) only [go_sem,ne_eq,not_true_eq_false]
  exact I
theorem res_FnameOthersA {k kt kn : SK} (how : List UInt8) (s : Ser) (ts : List (List UInt8)) (ns : List Int) (o : Ser.Ok k s) (hr : ∀ n ∈ ns,-9223372036854775808 ≤ n ∧ n ≤ 9223372036854775807) : res Γ 304 [.str how,s.pv k,.sl kt 1 (strs ts),.sl kn 1 (ints .i64 ns)] = some [.bool true] := by
 have e := res_renamedG (k := k) (kt := kt) (kn := kn) how ts ns s _ o.len (res_small ts ns) smallB_yes hr
 have hk := res_known24
 have e1 := res_names24
 have e2 := res_rnames24
 have hn : names24.length = 7 := rfl
 by_cases h : 100 < how.length
 ·unfold Ser.pv at *
  refine res_code (fn := l24_FnameOthers) rfl rfl ?_
  simp (disch := first | assumption | omega | decide | (simp only [lens] <;> omega) | fail) only [go_sem,l24_FnameOthers]
 ·unfold Ser.pv at *
  refine res_code (fn := l24_FnameOthers) rfl rfl ?_
  simp (disch := first | assumption | omega | decide | (simp only [lens] <;> omega) | fail) only [go_sem,l24_FnameOthers,e1,e2,hn,ne_eq,not_true_eq_false]
  refine others24_l1_ok _ _ _ names24 (by omega) _ _ ?_ 7 0 rfl
  simp (disch := first | assumption | omega | decide | (simp only [lens] <;> omega) | fail) only [go_sem,e,hk]
end Ab
