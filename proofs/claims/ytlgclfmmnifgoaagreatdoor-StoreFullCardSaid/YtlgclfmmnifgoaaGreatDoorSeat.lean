import Derived.Test.YtlgclfmmnifgoaaGreatDoorCode
import Derived.Test.YtlgclfmmnifgoaaGreatDoorShelf
import Derived.Test.YtlgclfmmnifgoaaGreatDoorAbZ8
import Derived.Test.YtlgclfmmnifgoaaGreatDoorCloneSeat
import Derived.Test.YtlgclfmmnifgoaaGreatDoorUSeat
import Derived.Test.YtlgclfmmnifgoaaGreatDoorPSeat
import Derived.Test.YtlgclfmmnifgoaaGreatDoorIterSeat
import Derived.Test.YtlgclfmmnifgoaaGreatDoorAbDrawn
import Derived.Test.YtlgclfmmnifgoaaGreatDoorAbB3
import Derived.KernelRfl
import Derived.Test.YtlgclfmmnifgoaaGreatDoorProg
namespace Ab
open Go Go.Proofs
def names : Names := ⟨fun n => [0,41,0,0,1,0,0,0,0,0,0,0,0,0,0,0,0,0,0,0,0,0,0,0,0,0,0,0,0,269,0,0,240,0,0,0,42,0,0,0,53,0,0,54,0,0,0,0,80,0,0,0,81,0,0,82,16,0,0,0,131,130,129,132,133,43,191,152,151,192,193,153,207,208,209,210,253,255,0,254,0,0,283,0,0,0,190,242,200,0,0,0,0,0,0,0,0,0,0,0,0,0,0,0,0,0,0,0,0,0,0,0,0,0,0,0,0,0,0,0,112,0,222,0,0,0,144,0,261,188,262,221,206,285,219,260,249,251,250,252,205,241,279,95,282,281,280,299,298,278,311,0,0,176,0,0,0,0,0,0,97,0,0,113,286,0,0,304,303,0,0,0,0,0,0,0,0,0,0,0,0,0,0,0,0,118,0,0,175,0,0,0,0,0,0,0,0,225,224,0,0,0,0,0,0,0,0,0,0,0,0,187,0,0,0,0,0,0,0,0,0,0,0,0,0,0,0,0,0,0,0,0,0,0,0,0,0,0,0,0,0,0,0,0,0,0,0,0,0,0,0,0,0,0,0,0,0,0,0,0,0,0,0,0,0,0,0,0,0,0,0,0,0,0,0,0,0,0,0,0,0,0,0,0,0,0,0,0,0,0,0,0,0,0,0,0,0,0,0,0,0,0,0,0,0,0,0,0,0,102,0,0,0,0,0,154,156,155,0,157,0,0,0,231,0,214,213,212,211,215,0,0,267,265,266,264,0,0,134,0,257,256,258,287,288,289,290,0,0,197,196,195,194,284,306,305,307,244,245,243,302,301,300,315,277,312,313,314,325,327,324,326,329,328,330,320,321,323,322,337,336,334,335,339,338,294,310,0,0,0,0,0,17,0,0,72,21,15,0,0,357,47,26,0,0,0,22,0,0,0,0,0,0,38,44,40,39,0,0,61,92,0,79,78,0,0,0,0,128,28,0,0,0,189,65,64,228,0,0,0,0,0,0,0,0,116,117,0,0,0,174,173,172,171,170,169,168,167,166,0,227,226,223,263,0,0,0,0,0,5,11,35,31,0,36,0,6,20,75,74,0,19,18,12,73,8,71,52,125,49,124,48,46,45,51,50,29,123,120,101,183,146,135,91,94,33,93,88,87,86,84,83,90,89,100,99,98,96,66,182,177,137,202,141,198,70,69,143,142,85,140,139,138,10,119,136,150,145,149,148,147,229,201,199,0,178,180,181,179,234,233,232,230,203,273,272,271,270,268,246,247,293,292,295,291,309,308,316,319,318,317,331,332,333,121,122,9,7,4,34,32,30,25,27,24,23,14,13,68,67,55,59,58,57,56,63,62,60,37,103,110,109,108,107,106,105,104,115,114,111,77,76,159,158,163,162,161,160,127,126,216,217,184,186,185,239,238,237,236,235,276,275,274,297,296,3].getD n 0,fun n => [0,0,0,0,0,0,0,0,0,0,0,0,0,0,0,0,0,0,0,0,0,0,0,0,0,0,0,0,0,0,0,0,0,0,0,0,0,0,0,0,0,0,0,0,0,0,0,0,0,0,0,0,0,0,0,0,0,0,0,0,0,0,0,0,0,0,0,0,0,0,0,0,0,0,0,0,0,0,0,0,2,1,0,0,0,0,0,0,0,0,0,0,0,0,0,0,0,0,0,0,0,0,0,0,0,0,0,0,0,0,0,0,0,0,0,0,0,0,0,0,0,0,0,0,0,0,0,0,0,0,0,0,0,0,0,0,0,0,0,0,0,0,0,0,0,0,0,0,0,0,0,4,3,0,0,0,0,0,0,0,0,0,0,0,0,0,0,0,0,0,0,0,0,0,0,0,0,0,0,0,0,0,0,0,0,0,0,0,0,0,0,0,0,0,0,0,0,0,0,0,0,0,0,0,0,0,0,0,0,0,0,0,0,0,0,0,0,0,0,0,0,0,0,0,0,0,0,0,0,0,0,0,0,0,0,0,0,0,0,0,0,0,0,0,0,0,0,0,0,0,0,0,0,0,0,0,0,0,0,0,0,0,0,0,0,0,0,0,0,0,0,0,0,0,0,0,0,0,0,0,0,0,0,0,0,0,0,0,0,0,0,0,0,0,0,0,0,0,0,0,0,0,0,0,0,0,0,0,0,0,0,0,0,0,0,0,0,0,0,0,0,0,0,0,0,0,0,0,0,0,0,0,0,0,0,0,0,0,0,0,0,0,0,0,0,0,0,0,0,0,0,0,0,0,0,0,0,0,0,0,0,0,0,0,0,0,0,0,0,0,0,0,0,0,0,0,0,0,0,0,0,0,0,0,0,0,0,0,0,0,0,0,0,0,0,0,0,0,0,0,0,0,0,0,0,0,0,0,0,0,0,0,0,0,0,0,0,0,0,0,0,0,0,0,0,0,0,0,0,0,0,0,0,0,0,0,0,0,0,0,0,0,0,0,0,0,0,0,0,0,0,0,0,0,0,0,0,0,0,0,0,0,0,0,0,0,0,0,0,0,0,0,0,0,0,0,0,0,0,0,0,0,0,0,0,0,0,0,0,0,0,0,0,0,0,0,0,0,0,0,0,0,0,0,0,0,0,0,0,0,0,0,0,0,0,0,0,0,0,0,0,0,0,0,0,0,0,0,0,0,0,0,0,0,0,0,0,0,0,0,0,0,0,0,0,0,0,0,0,0,0,0,0,0,0,0,0,0,0,0,0,0,0,0,0,0,0,0,0,0,0,0,0,0,0,0,0,0,0,0,0,0,0,0,0,0,0,0,0,0,0,0,0,0,0,0,0,0,0,0,0,0,0,0,0,0,0,0,0,0,0,0,0,0,0,0,0,0,0,0,0,0,0,0,0,0,0,0,0,0,0,0,0,0,0,0].getD n 0⟩
theorem cS : RowFor Tryz.prog 193 Go.Extern.BytealgIndexByte.indexByte := ⟨Tryz.f193,by kernel_rfl,by kernel_rfl,by kernel_rfl,by kernel_rfl,by kernel_rfl⟩
theorem dG : RowFor Tryz.prog 208 Go.Extern.BytealgCount.count := ⟨Tryz.f208,by kernel_rfl,by kernel_rfl,by kernel_rfl,by kernel_rfl,by kernel_rfl⟩
theorem mr : JoinOk Tryz.prog 80 := ⟨Ab.enters_of Tryz.func80 (by kernel_rfl) (by kernel_rfl),fun a c sep w => Any.strings_Join_none Tryz.lays156 Tryz.Builder_Extra_156 a c sep w,fun bk o c xs sep w h1 h2 h3 h4 h5 => Any.strings_Join Tryz.lays156 Tryz.Builder_Extra_156 bk o c xs sep w h1 h2 h3 h4 h5⟩
theorem gT : ReplOk Tryz.prog 52 0 := ⟨Ab.enters_of Tryz.func52 (by kernel_rfl) (by kernel_rfl),fun s old new m w h1 h2 h3 h4 => Any.strings_ReplaceAll Tryz.lays155 Tryz.Builder_Extra_155 s old new m w h1 h2 h3 h4⟩
theorem oI : BJoinOk Tryz.prog 140 := ⟨Ab.enters_of Tryz.func140 (by kernel_rfl) (by kernel_rfl),fun b o c ad0 c0 l0 sv w h1 h2 h3 h4 => Any.bytes_Join_one Tryz.laysSlJ14 b o c ad0 c0 l0 sv w h1 h2 h3 h4,fun b o c p0 c0 sv w h => Any.bytes_Join_one_empty Tryz.laysSlJ14 b o c p0 c0 sv w h,fun b o n c vs ls sv sep w h1 h2 h3 h4 h5 h6 h7 => Any.bytes_Join_many Tryz.laysSlJ14 b o n c vs ls sv sep w h1 h2 h3 h4 h5 h6 h7⟩
theorem cb : MCloneOk Tryz.prog 100 := ⟨Ab.enters_of Tryz.func100 (by kernel_rfl) (by kernel_rfl),fun b es c w h => AnyW.maps_Clone Tryz.mcl b es c w h,fun w => AnyW.maps_Clone_nil Tryz.mcl w⟩
theorem m7 : UsedOk Tryz.prog 10 := Tryz.usedOk
set_option maxRecDepth 100000 in
theorem fN : ∀ K ∈ [518,433],KeysOk Tryz.prog (names.fn 429) (names.fn K) 9 := by
  intro K hK
  simp only [List.mem_cons,List.not_mem_nil,or_false] at hK
  rcases hK with rfl | rfl
  · exact Tryz.keysOk0
  · exact Tryz.keysOk1
def kd : Fn → Nat
  | .code _ => 0
  | .prim _ => 1
  | .fresh _ => 2
  | .upd _ => 3
  | .look _ => 4
  | .lookc .. => 5
  | .hi _ => 6
def KDs : List (List Nat) := [[635,576,577,469,476,485,578,470,581,579,580,472,505,406,402,585,584,583,582,396,397,482,392,477,56,481,496,586,587,483,474,471,589,588,526,525,419,590,593,591,594,592,595,596,597,43,40,416,415,413,493,401,492,414,36,65,494,495,489,491,598,479,478,395,534,309,599,601,600,602,603,606,604,605,608,120,163,609,1,423,422,510,509,508,511,420,512,513,503,52,55,517,516,143,160,506,504,611,488,490,574,575,315,317,319,612,614,616,615,617,428,529,531,532,502,521,535,523,63,64,537,539,501,540,126,528,527,618,619,500,545,546,548,327,328,329,620,621,338,543,68,67,522,553,542,622,541,323,551,552,341,342,351,350,349,352,74,559,560,629,335,332,333,334,558,353,357,358,359,631,632,343,344,564,557,361,360,149,634,633,628,626,354,355,356,566,565,562,630,363,556,555,567,569,570,568,371,369,368,561,571,572,573,386],[487,48,530,70,73],[],[],[533,429],[],[486,514]]
theorem kinds : ((List.range 636).all fun k => match Γ.fn k with | none => true | some x => (KDs.getD (kd x) []).contains k) = true := by kernel_rfl
theorem fn_big (n : Nat) : Γ.fn (n + 636) = none := by kernel_rfl
theorem gh {f : Nat} {x : Fn} (h : Γ.fn f = some x) : f ∈ KDs.getD (kd x) [] := by
  have hf : f < 636 := by
    by_cases e : f < 636
    · exact e
    · obtain ⟨n,rfl⟩ : ∃ n,f = n + 636 := ⟨f - 636,by omega⟩
      rw [fn_big] at h; cases h
  have := List.all_eq_true.1 kinds f (List.mem_range.2 hf)
  rw [h] at this
  exact List.contains_iff_mem.1 this
def Q (k : Nat) : Prop := ∀ fn,Γ.fn k = some (.code fn) → ∃ g,Tryz.prog.funcs[names.fn k]? = some g ∧ chkF Tryz.prog names g fn = true
theorem Q_of {k : Nat} {fn0 : AFn} {g : Func} (e : Γ.fn k = some (.code fn0)) (h1 : Tryz.prog.funcs[names.fn k]? = some g) (h2 : chkF Tryz.prog names g fn0 = true) : Q k := fun fn h => by
  rw [e] at h; cases h; exact ⟨g,h1,h2⟩
inductive AllQ : List Nat → Prop
  | nil : AllQ []
  | cons {k : Nat} {l : List Nat} (h : Q k) (t : AllQ l) : AllQ (k :: l)
theorem AllQ.at {l : List Nat} (h : AllQ l) : ∀ k ∈ l,Q k := by
  induction h with
  | nil => intro k hk; cases hk
  | cons h _ ih =>
    intro k hk
    rcases List.mem_cons.1 hk with rfl | hk
    · exact h
    · exact ih k hk
theorem qq {k : Nat} {l : List Nat} (fn0 : AFn) {g : Func} (h1 : Tryz.prog.funcs[names.fn k]? = some g) (t : AllQ l) (e : Γ.fn k = some (.code fn0) := by kernel_rfl) (h2 : chkF Tryz.prog names g fn0 = true := by kernel_rfl) : AllQ (k :: l) := .cons (Q_of e h1 h2) t
set_option maxRecDepth 100000 in
theorem allq : AllQ [635,576,577,469,476,485,578,470,581,579,580,472,505,406,402,585,584,583,582,396,397,482,392,477,56,481,496,586,587,483,474,471,589,588,526,525,419,590,593,591,594,592,595,596,597,43,40,416,415,413,493,401,492,414,36,65,494,495,489,491,598,479,478,395,534,309,599,601,600,602,603,606,604,605,608,120,163,609,1,423,422,510,509,508,511,420,512,513,503,52,55,517,516,143,160,506,504,611,488,490,574,575,315,317,319,612,614,616,615,617,428,529,531,532,502,521,535,523,63,64,537,539,501,540,126,528,527,618,619,500,545,546,548,327,328,329,620,621,338,543,68,67,522,553,542,622,541,323,551,552,341,342,351,350,349,352,74,559,560,629,335,332,333,334,558,353,357,358,359,631,632,343,344,564,557,361,360,149,634,633,628,626,354,355,356,566,565,562,630,363,556,555,567,569,570,568,371,369,368,561,571,572,573,386] := by
  refine qq bd Tryz.func3 ?_
  refine qq cT Tryz.func9 ?_
  refine qq be Tryz.func7 ?_
  refine qq bS Tryz.func5 ?_
  refine qq aL Tryz.func6 ?_
  refine qq gw Tryz.func8 ?_
  refine qq kq Tryz.func4 ?_
  refine qq rv Tryz.func11 ?_
  refine qq iS Tryz.func30 ?_
  refine qq iT Tryz.func34 ?_
  refine qq jb Tryz.func32 ?_
  refine qq cm Tryz.func31 ?_
  refine qq ge Tryz.func33 ?_
  refine qq eZ Tryz.func22 ?_
  refine qq dC Tryz.func26 ?_
  refine qq cW Tryz.func23 ?_
  refine qq fL Tryz.func24 ?_
  refine qq ka Tryz.func27 ?_
  refine qq qg Tryz.func25 ?_
  refine qq x6 Tryz.func21 ?_
  refine qq dx Tryz.func15 ?_
  refine qq bF Tryz.func18 ?_
  refine qq cA Tryz.func17 ?_
  refine qq j8 Tryz.func20 ?_
  refine qq jK Tryz.func16 ?_
  refine qq dS Tryz.func19 ?_
  refine qq aA Tryz.func29 ?_
  refine qq et Tryz.func14 ?_
  refine qq uR Tryz.func13 ?_
  refine qq pV Tryz.func12 ?_
  refine qq g8 Tryz.func36 ?_
  refine qq iW Tryz.func35 ?_
  refine qq pK Tryz.func67 ?_
  refine qq r3_is Tryz.func68 ?_
  refine qq ga Tryz.func69 ?_
  refine qq dL Tryz.func70 ?_
  refine qq iE Tryz.func61 ?_
  refine qq vv Tryz.func55 ?_
  refine qq dj Tryz.func57 ?_
  refine qq iQ Tryz.func59 ?_
  refine qq rh Tryz.func56 ?_
  refine qq zX Tryz.func58 ?_
  refine qq eY Tryz.func63 ?_
  refine qq qO Tryz.func62 ?_
  refine qq pI Tryz.func60 ?_
  refine qq pW Tryz.func54 ?_
  refine qq mC Tryz.func53 ?_
  refine qq cG Tryz.func39 ?_
  refine qq aP Tryz.func40 ?_
  refine qq dV Tryz.func38 ?_
  refine qq cr Tryz.func45 ?_
  refine qq bG Tryz.func47 ?_
  refine qq cj Tryz.func46 ?_
  refine qq dX Tryz.func44 ?_
  refine qq iJ Tryz.func42 ?_
  refine qq gp Tryz.func43 ?_
  refine qq gE Tryz.func51 ?_
  refine qq cF Tryz.func50 ?_
  refine qq ko Tryz.func49 ?_
  refine qq fh Tryz.func48 ?_
  refine qq mF Tryz.func37 ?_
  refine qq hO Tryz.func74 ?_
  refine qq kj Tryz.func75 ?_
  refine qq wz Tryz.func72 ?_
  refine qq iG Tryz.func119 ?_
  refine qq mV Tryz.func102 ?_
  refine qq u9 Tryz.func103 ?_
  refine qq iB Tryz.func109 ?_
  refine qq iA Tryz.func110 ?_
  refine qq lc Tryz.func108 ?_
  refine qq AX Tryz.func107 ?_
  refine qq r4_May Tryz.func104 ?_
  refine qq sx Tryz.func106 ?_
  refine qq AA Tryz.func105 ?_
  refine qq eq Tryz.func114 ?_
  refine qq r1_Is Tryz.func112 ?_
  refine qq vW Tryz.func113 ?_
  refine qq rS Tryz.func111 ?_
  refine qq km Tryz.func41 ?_
  refine qq cV Tryz.func78 ?_
  refine qq aD Tryz.func79 ?_
  refine qq bP Tryz.func84 ?_
  refine qq bt Tryz.func86 ?_
  refine qq bl Tryz.func87 ?_
  refine qq av Tryz.func83 ?_
  refine qq cd Tryz.func92 ?_
  refine qq cH Tryz.func90 ?_
  refine qq lK Tryz.func89 ?_
  refine qq o6 Tryz.func91 ?_
  refine qq strings_Split Tryz.func81 ?_
  refine qq strings_IndexByte Tryz.func82 ?_
  refine qq co Tryz.func96 ?_
  refine qq bX Tryz.func98 ?_
  refine qq wh Tryz.func95 ?_
  refine qq pt Tryz.func97 ?_
  refine qq fX Tryz.func93 ?_
  refine qq l9 Tryz.func94 ?_
  refine qq rm Tryz.func76 ?_
  refine qq gM Tryz.func125 ?_
  refine qq o9 Tryz.func124 ?_
  refine qq strings_TrimSuffix Tryz.func121 ?_
  refine qq gN Tryz.func122 ?_
  refine qq jg Tryz.func154 ?_
  refine qq gW Tryz.func155 ?_
  refine qq mE Tryz.func157 ?_
  refine qq kW Tryz.func159 ?_
  refine qq ew Tryz.func163 ?_
  refine qq iD Tryz.func161 ?_
  refine qq rE Tryz.func162 ?_
  refine qq nH Tryz.func160 ?_
  refine qq ao Tryz.func128 ?_
  refine qq pP Tryz.func85 ?_
  refine qq dK Tryz.func139 ?_
  refine qq fC Tryz.func138 ?_
  refine qq nj Tryz.func135 ?_
  refine qq lX Tryz.func137 ?_
  refine qq lW Tryz.func136 ?_
  refine qq oY Tryz.func141 ?_
  refine qq strings_genSplit Tryz.func132 ?_
  refine qq aH Tryz.func133 ?_
  refine qq bO Tryz.func145 ?_
  refine qq dY Tryz.func148 ?_
  refine qq cn Tryz.func146 ?_
  refine qq ou Tryz.func147 ?_
  refine qq vC Tryz.func144 ?_
  refine qq eI Tryz.func142 ?_
  refine qq bytes_HasPrefix Tryz.func143 ?_
  refine qq je Tryz.func127 ?_
  refine qq sD Tryz.func126 ?_
  refine qq n8 Tryz.func183 ?_
  refine qq bQ Tryz.func178 ?_
  refine qq e9 Tryz.func180 ?_
  refine qq ca Tryz.func179 ?_
  refine qq hZ Tryz.func212 ?_
  refine qq jp Tryz.func211 ?_
  refine qq mQ Tryz.func215 ?_
  refine qq vL Tryz.func216 ?_
  refine qq qW Tryz.func217 ?_
  refine qq jX Tryz.func134 ?_
  refine qq ce Tryz.func199 ?_
  refine qq strings_Count Tryz.func151 ?_
  refine qq strings_Index Tryz.func152 ?_
  refine qq pF Tryz.func202 ?_
  refine qq mY Tryz.func203 ?_
  refine qq bytes_Equal Tryz.func201 ?_
  refine qq jt Tryz.func184 ?_
  refine qq bT Tryz.func229 ?_
  refine qq mZ Tryz.func231 ?_
  refine qq gQ Tryz.func232 ?_
  refine qq cM Tryz.func230 ?_
  refine qq gO Tryz.func256 ?_
  refine qq qc Tryz.func258 ?_
  refine qq jo Tryz.func195 ?_
  refine qq dU Tryz.func196 ?_
  refine qq ep Tryz.func197 ?_
  refine qq d9 Tryz.func194 ?_
  refine qq aY Tryz.func209 ?_
  refine qq hI Tryz.func246 ?_
  refine qq kg Tryz.func247 ?_
  refine qq rf Tryz.func235 ?_
  refine qq ii Tryz.func264 ?_
  refine qq iu Tryz.func267 ?_
  refine qq iw Tryz.func265 ?_
  refine qq gJ Tryz.func266 ?_
  refine qq kz Tryz.func268 ?_
  refine qq gX Tryz.func284 ?_
  refine qq js Tryz.func244 ?_
  refine qq pH Tryz.func245 ?_
  refine qq ke Tryz.func243 ?_
  refine qq lI Tryz.func275 ?_
  refine qq vr Tryz.func274 ?_
  refine qq jr Tryz.func287 ?_
  refine qq jm Tryz.func288 ?_
  refine qq jn Tryz.func291 ?_
  refine qq strings_Cut Tryz.func270 ?_
  refine qq jq Tryz.func301 ?_
  refine qq sF Tryz.func302 ?_
  refine qq gZ Tryz.func278 ?_
  refine qq rK Tryz.func296 ?_
  refine qq uT Tryz.func297 ?_
  refine qq r2_all Tryz.func236 ?_
  refine qq uZ Tryz.func238 ?_
  refine qq gK Tryz.func306 ?_
  refine qq mg Tryz.func305 ?_
  refine qq nb Tryz.func307 ?_
  refine qq sQ Tryz.func308 ?_
  refine qq jV Tryz.func309 ?_
  refine qq de Tryz.func292 ?_
  refine qq vZ Tryz.func276 ?_
  refine qq ib Tryz.func315 ?_
  refine qq kB Tryz.func271 ?_
  refine qq py Tryz.func272 ?_
  refine qq strings_TrimPrefix Tryz.func316 ?_
  refine qq ot Tryz.func318 ?_
  refine qq nX Tryz.func317 ?_
  refine qq sU Tryz.func319 ?_
  refine qq nv Tryz.func326 ?_
  refine qq ky Tryz.func327 ?_
  refine qq zW Tryz.func325 ?_
  refine qq nP Tryz.func293 ?_
  refine qq bR Tryz.func331 ?_
  refine qq lT Tryz.func332 ?_
  refine qq pi Tryz.func333 ?_
  refine qq bU Tryz.func310 ?_
  exact .nil
set_option maxHeartbeats 8000000 in
set_option maxRecDepth 100000 in
theorem known : Known Γ names Tryz.prog where
  mixed := by kernel_rfl
  code f fn h := allq.at f (gh h) fn h
  prim f g h := by
    have hm : f ∈ [487,48,530,70,73] := gh h
    simp only [List.mem_cons,List.not_mem_nil,or_false] at hm
    rcases hm with rfl | rfl | rfl | rfl | rfl
    · cases h; exact Au (gv := 78) (by decide) gT
    · cases h; exact BC mr
    · cases h; exact yQ oI
    · cases h; exact oE cS
    · cases h; exact yr dG
  fresh f g h := by cases gh h
  upd f g h := by cases gh h
  look f g h := by
    have hm : f ∈ [533,429] := gh h
    simp only [List.mem_cons,List.not_mem_nil,or_false] at hm
    rcases hm with rfl | rfl
    · cases h; exact zF m7
    · cases h; exact zt fN
  lookc f c q g h := by cases gh h
  hi f g h := by
    have hm : f ∈ [486,514] := gh h
    simp only [List.mem_cons,List.not_mem_nil,or_false] at hm
    rcases hm with rfl | rfl
    · cases h; exact Tryz.parse_ok (by rfl) (by rfl) (by rfl) (by rfl) (by kernel_rfl) (by kernel_rfl) (by kernel_rfl)
    · cases h; exact Bp cb
end Ab
