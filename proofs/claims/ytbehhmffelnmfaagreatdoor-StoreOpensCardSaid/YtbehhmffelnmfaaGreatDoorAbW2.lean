import Derived.Test.YtbehhmffelnmfaaGreatDoorAbB3
import GoSem.ClaimOpenFrom
import GoSem.ClaimJoined
import Derived.KernelRfl
import Derived.Test.YtbehhmffelnmfaaGreatDoorDec
set_option linter.all false
namespace Ab
open Go (World)
theorem Py{Γ:Ctx}{N:Names}{W:World}(c:∀n cs,Γ.gl n=some cs->False)(h:∀n∈Γ.gi,∃m,W.cell? ⟨N.gl n,0,none⟩=some (.int .i64 m)):GlRel Γ N W λg=>g<W.heap.size:=by refine⟨λn cs e=>(c n cs e).elim,λn cs e=>(c n cs e).elim,λn d=>?_⟩;let⟨m,b⟩:=h n d;refine⟨Nat.lt_of_not_le λa=>?_,m,b⟩;have e:=Array.getElem?_eq_none a;simp[World.cell?,e]at b
end Ab
namespace Ab
open Go
def vr:List Char->List Char->List (List Char)|a,[]=>[a.reverse]|a,c::r=>if c=(Char.ofNat 32)then a.reverse::vr [] r else vr (c::a) r
theorem mT(l:List Char):wordsSigns l≠[]:=by cases l with|nil=>simp[wordsSigns]|cons c r=>unfold wordsSigns;grind
theorem RZ:∀(l a:List Char),vr a l=match wordsSigns l with|w::ws=>(a.reverse++w)::ws|[]=>[]:=by intro l;induction l with|nil=>intro a;simp[vr,wordsSigns]|cons c r d=>
  intro a;by_cases b:c=(Char.ofNat 32);·subst b;rw[vr,if_pos rfl,d];have :wordsSigns ((Char.ofNat 32)::r)=[]::wordsSigns r:=rfl;grind
  ·rw[vr,if_neg b,d];have :wordsSigns (c::r)=match wordsSigns r with|w::ws=>(c::w)::ws|[]=>[[c]]:=by
    rw[wordsSigns];·rfl
    omega
   rw[this];cases h:wordsSigns r with|nil=>exact absurd h (mT r)|cons w ws=>simp
theorem CW(l:List Char):wordsSigns l=vr [] l:=by rw[RZ];grind
theorem make_cut{P:Program}{r:List (List Char)}(h:behindMainWord (wordsSigns P.initOrder.toList)=[Char.ofNat 99,Char.ofNat 117,Char.ofNat 116]::r):P.make=some .cut:=by unfold Program.make;grind
theorem Qz{P:Program}{r:List (List Char)}(h:behindMainWord (wordsSigns P.initOrder.toList)=[Char.ofNat 99,Char.ofNat 117,Char.ofNat 116]::r):P.headLifts=[]:=by unfold Program.headLifts;rw[h];rfl
theorem Su{P:Program}{r:List (List Char)}(h:behindMainWord (wordsSigns P.initOrder.toList)=[Char.ofNat 99,Char.ofNat 117,Char.ofNat 116]::r):P.liftsFinal=false:=by unfold Program.liftsFinal;rw[Qz h,h];rfl
theorem RB{P:Program}{r:List (List Char)}(h:behindMainWord (wordsSigns P.initOrder.toList)=[Char.ofNat 99,Char.ofNat 117,Char.ofNat 116]::r)(d:P.laysLater=false)(a:P.bearsReflect=false)(c:P.doorFits []=true):P.mayEnter=true:=by unfold Program.mayEnter;rw[h];have e:stripLifts liftWords ([Char.ofNat 99,Char.ofNat 117,Char.ofNat 116]::r)=([],[Char.ofNat 99,Char.ofNat 117,Char.ofNat 116]::r):=rfl;simp[*]
theorem main_har{P:Program}{s:List Char}{r:List (List Char)}(h:wordsSigns P.initOrder.toList=[Char.ofNat 104,Char.ofNat 97,Char.ofNat 114,Char.ofNat 110,Char.ofNat 101,Char.ofNat 115,Char.ofNat 115]::s::r)(b:isSumSigns s=true):P.mainIs=some (true,s):=by unfold Program.mainIs;grind
end Ab
namespace Ab
open Go (IntKind Program TypeId maxLen)
def strs(l:List (List UInt8)):List PV:=l.map .str
def ints(k:IntKind)(l:List Int):List PV:=l.map (.int k)
def cv(l:List Bool):List PV:=l.map .bool
def aggs(l:List (List PV)):List PV:=l.map .agg
theorem strs_len{l}:(strs l).length=l.length:=by simp[strs]
theorem ints_len{k l}:(ints k l).length=l.length:=by simp[ints]
theorem bools_len{l}:(cv l).length=l.length:=by simp[cv]
theorem aggs_len{l}:(aggs l).length=l.length:=by simp[aggs]
theorem strs_app{l b}:strs l++strs b=strs (l++b):=by simp[strs]
theorem Ef{l a}:strs l++[.str a]=strs (l++[a]):=by simp[strs]
theorem strs_get{l:List (List UInt8)}{i:Nat}(h:i<l.length):(strs l)[i]?=some (.str (l.getD i [])):=by simp[strs,List.getElem?_eq_getElem h]
theorem Cl{k}{l:List Int}{i:Nat}(h:i<l.length):(ints k l)[i]?=some (.int k (l.getD i 0)):=by simp[ints,List.getElem?_eq_getElem h]
theorem xz{l:List Bool}{i:Nat}(h:i<l.length):(cv l)[i]?=some (.bool (l.getD i false)):=by simp[cv,List.getElem?_eq_getElem h]
theorem La{l:List (List PV)}{i:Nat}(h:i<l.length):(aggs l)[i]?=some (.agg (l.getD i [])):=by simp[aggs,List.getElem?_eq_getElem h]
theorem Lt{l i a}:(strs l).set i (.str a)=strs (l.set i a):=by simp[strs,]
theorem ints_set{k l i a}:(ints k l).set i (.int k a)=ints k (l.set i a):=by simp[ints,]
theorem zB{l i a}:(cv l).set i (.bool a)=cv (l.set i a):=by simp[cv,]
theorem FR{l n}:(strs l).take n=strs (l.take n):=by simp[strs,]
theorem FL{l n}:(strs l).drop n=strs (l.drop n):=by simp[strs,]
theorem strs_rep{n a}:List.replicate n (.str a)=strs (List.replicate n a):=by simp[strs]
theorem ints_rep{k n a}:List.replicate n (.int k a)=ints k (List.replicate n a):=by simp[ints]
theorem sw{n a}:List.replicate n (.bool a)=cv (List.replicate n a):=by simp[cv]
def rowAt(b:Option Blk)(n:Nat):Option (Nat×List PV):=match b with|some (.row _ sz xs)=>if xs.length=n then some (sz,xs)else none|_=>none
theorem lX{H:Heap}{a n:Nat}:rowOf H a n=rowAt H[a]? n:=by rfl
theorem jP{f sz xs n}(h:xs.length=n):rowAt (some (.row f sz xs)) n=some (sz,xs):=by simp[rowAt,h]
theorem len_own{H b n}:jm H false (.own b n)=(rowOf H b n).map λ_=>n:=rfl
theorem len_sl{H k sz xs}:jm H false (.p (.sl k sz xs))=some xs.length:=rfl
theorem len_str{H s}:jm H true (.p (.str s))=some s.length:=rfl
theorem Tw{H:Heap}{a n:Nat}{f sz xs k i}(b:H[a]?=some (.row f sz xs))(c:xs.length=n)(e:0<=i)(g:i<(n:Int)):iaddrA H sz (.own a n) (.p (.int k i))=some (.el a n i.toNat 0):=by simp[iaddrA,lX,b,jP c,];grind
theorem mP{H sz xs k' k i x}(h0:0<=i)(hx:xs[i.toNat]?=some x):iaddrA H sz (.p (.sl k' sz xs)) (.p (.int k i))=some (.p (.ptr x.cells)):=by simp only[iaddrA,h0,and_self,if_true,hx,Option.map_some]
theorem OK{H xs b k i}(a:0<=i)(h:i<(xs.length:Int)):iaddrA H 1 (.p (.sl b 1 (strs xs))) (.p (.int k i))=some (.p (.ptr [.str (xs.getD i.toNat [])])):=mP a (strs_get (by omega))
theorem my{H xs sz b k i}(a:0<=i)(h:i<(xs.length:Int)):iaddrA H sz (.p (.sl b sz (aggs xs))) (.p (.int k i))=some (.p (.ptr (xs.getD i.toNat []))):=mP a (La (by omega))
theorem load_ptr{H sz ag a}:kj H sz ag (.p (.ptr a))=qb sz ag a:=rfl
def tkO(sz:Nat)(ag:Bool)(off:Nat)(b:Option (List AV)):Option AV:=b.bind λcs=>takeA sz ag (cs.drop off)
theorem load_bx{H sz ag c a}:kj H sz ag (.bx c a)=tkO sz ag a (dj H c):=rfl
theorem tkO_some{sz ag b cs}:tkO sz ag b (some cs)=takeA sz ag (cs.drop b):=rfl
attribute[go_sem]tkO_some
theorem nT{sz c r}:qb sz false (c::r)=some (.p c):=rfl
theorem takeP_ag{sz cs}(h:cs.length=sz):qb sz true cs=some (.p (.agg cs)):=by simp[qb,<-h]
theorem oT{H sz k xs}:elemsOf H sz (.p (.sl k sz xs))=some xs:=by simp[elemsOf]
theorem app_own{H sz b n xs ys}(d:H[b]?=some (.row false sz xs))(c:xs.length=n)(e:xs.length+ys.length<=1073741824):cH H sz (.own b n) ys=some (.own b (n+ys.length),H.set b (.row false sz (xs++ys))):=by simp only[cH,d];rw[if_pos ⟨c,trivial,by simp[lim];omega⟩,List.length_append,c]
theorem app_nil{H sz b ys}(c:ys.length<=1073741824):cH H sz (.p (.sl .nil b [])) ys=some (.own H.length ys.length,H++[.row false sz ys]):=by simp only[cH];rw[if_pos ⟨.inl trivial,by simp[lim];omega⟩]
theorem mks{H sz ag zero k c n}(a:0<=n)(d:n<=1073741824):lV H sz ag zero (.p (.int k n)) (.p (.int c n))=some (.own H.length n.toNat,H++[.row false sz (List.replicate n.toNat (if ag then .agg zero else zero.headD .nilp))]):=by simp only[lV];rw[if_pos ⟨a,trivial,by unfold lim;omega⟩]
theorem slf_p{H sz v lo hi}:qM H sz (.p v) lo hi=(gN sz (.p v) lo hi).map λv=>(v,H):=rfl
theorem frz_nil{H}:freeze H []=H:=rfl
theorem frz_p{H v r}:freeze H (.p v::r)=freeze H r:=rfl
theorem Kt{s:List PV}{sz kk}{k1 k2:IntKind}{a b:Int}(c:0<=a)(e:a<=b)(f:b<=s.length):gN sz (.p (.sl kk sz s)) (some (.p (.int k1 a))) (some (.p (.int k2 b)))=some (.p (.sl kk.cut sz ((s.take b.toNat).drop a.toNat))):=by simp[gN,bound,];grind
theorem Qa{s:List PV}{sz kk}{k2:IntKind}{b:Int}(c:0<=b)(d:b<=s.length):gN sz (.p (.sl kk sz s)) none (some (.p (.int k2 b)))=some (.p (.sl kk.cut sz (s.take b.toNat))):=by simp[gN,bound,];grind
theorem De{s:List PV}{sz kk}{k2:IntKind}{a:Int}(c:0<=a)(d:a<=s.length):gN sz (.p (.sl kk sz s)) (some (.p (.int k2 a))) none=some (.p (.sl kk.cut sz (s.drop a.toNat))):=by simp[gN,bound,];grind
theorem cutk_any:SK.any.cut=.any:=rfl
theorem cutk_mem:SK.mem.cut=.mem:=rfl
theorem NO:SK.tight.cut=.mem:=rfl
theorem cutk_nil:SK.nil.cut=.nil:=rfl
theorem ip{H sz ys}(b:ys.length<=1073741824):cH H sz (.p (.sl .tight sz [])) ys=some (.own H.length ys.length,H++[.row false sz ys]):=by simp only[cH];rw[if_pos ⟨.inr ⟨trivial,trivial⟩,by simp[lim];omega⟩]
attribute[go_sem]cutk_any cutk_mem NO cutk_nil ip
theorem min_max2{mx k b x y}:minmax mx [.p (.int k x),.p (.int b y)]=some (.p (.int k (if mx then max x y else min x y))):=by
 cases mx;·simp[minmax,];grind
 ·simp[minmax,];grind
def fillK(b:Bool)(zero:List AV)(off sz:Nat)(v:AV)(r:List (Nat×Nat×AV)):Option (List AV):=match b with|true=>lz (zero.take off++v.cells++zero.drop (off+sz)) r|false=>none
theorem fill_nil{zero}:lz zero []=some zero:=rfl
theorem Rt{zero a sz v r}:lz zero ((a,sz,v)::r)=fillK (v.ok&&(v.cells.length==sz)&&decide (a+sz<=zero.length)) zero a sz v r:=by
 unfold fillK;by_cases h:v.ok=true/\v.cells.length=sz/\a+sz<=zero.length;·simp[lz,h]
 ·rw[show(v.ok&&(v.cells.length==sz)&&decide (a+sz<=zero.length))=false by grind];simp[lz];grind
theorem fill_t{zero a sz v r}:fillK true zero a sz v r=lz (zero.take a++v.cells++zero.drop (a+sz)) r:=rfl
theorem UL:iT []=some []:=rfl
theorem Qm{v r}:iT (.p v::r)=(iT r).map (v::·):=rfl
theorem Tu{a n r}:iT (.own a n::r)=none:=rfl
theorem pures_bx{b n r}:iT (.bx b n::r)=none:=rfl
theorem pures_el{b n i o r}:iT (.el b n i o::r)=none:=rfl
theorem Uc{cs r}:iT (.agg cs::r)=none:=rfl
theorem Rm{f cs r}:iT (.clo f cs::r)=none:=rfl
attribute[go_sem]Tu pures_bx pures_el Uc Rm
attribute[go_sem]List.getD_cons_zero List.getD_cons_succ
theorem sW{H sz xs b k}{i:Int}(a:0<=i):iaddrA H sz (.p (.sl b sz xs)) (.p (.int k i))=(xs[i.toNat]?).map λx=>.p (.ptr x.cells):=by simp[iaddrA,a]
attribute[go_sem low]sW
attribute[go_sem]beq_self_eq_true
attribute[go_sem]fill_nil Rt fill_t UL Qm List.take_succ_cons List.drop_succ_cons List.drop_nil List.take_nil List.append_assoc
def LC(b:Option Blk)(sz id n:Nat)(i:Int):Option AV:=match b with|some (.row _ sz' xs)=>if sz=sz'/\xs.length=n/\0<=i/\i<(n:Int)then some (.el id n i.toNat 0)else none|_=>none
theorem UQ{H:Heap}{a n sz:Nat}{k i}:iaddrA H sz (.own a n) (.p (.int k i))=LC H[a]? sz a n i:=by simp[iaddrA,lX,LC];cases H[a]? with|none=>rfl|some b=>cases b with|box=>rfl|dead=>rfl|row f c xs=>
   by_cases h:xs.length=n;·simp[rowAt,h]
   ·simp[rowAt,h]
theorem OS{f sz xs a}{n:Nat}{i}(h:xs.length=n)(b:0<=i)(c:i<(n:Int)):LC (some (.row f sz xs)) sz a n i=some (.el a n i.toNat 0):=by simp[LC,h,b,c]
def Aq(b:Option Blk)(s:Nat)(ag:Bool)(n i off:Nat):Option AV:=match b with|some (.row _ _ xs)=>if xs.length=n then xs[i]?.bind λx=>qb s ag (x.cells.drop off)else none|_=>none
theorem load_K{H:Heap}{d n i a s:Nat}{ag}:kj H s ag (.el d n i a)=Aq H[d]? s ag n i a:=by simp[kj,lX,Aq];cases H[d]? with|none=>rfl|some b=>cases b with|box=>rfl|dead=>rfl|row f e xs=>by_cases h:xs.length=n<;>simp[rowAt,h]
theorem OI{f sz l n i}(h:l.length=n)(a:i<n):Aq (some (.row f sz (strs l))) 1 false n i 0=some (.p (.str (l.getD i []))):=by simp[Aq,strs_len,h,strs_get (show i<l.length by omega),PV.cells,nT]
theorem Pq{f sz k l n i}(h:l.length=n)(a:i<n):Aq (some (.row f sz (ints k l))) 1 false n i 0=some (.p (.int k (l.getD i 0))):=by simp[Aq,ints_len,h,Cl (show i<l.length by omega),PV.cells,nT]
theorem Hl{f sz l n i}(h:l.length=n)(b:i<n):Aq (some (.row f sz (cv l))) 1 false n i 0=some (.p (.bool (l.getD i false))):=by simp[Aq,bools_len,h,xz (show i<l.length by omega),PV.cells,nT]
def rE(H:Heap)(b:Option Blk)(sz id n i off:Nat)(v:AV):Option Heap:=match b with|some (.row false sz' xs)=>if xs.length=n then(xs[i]?).bind λx=>(iT v.cells).bind λps=>if v.ok=true/\0<sz/\ps.length=sz/\off+sz<=x.cells.length then some (H.set id (.row false sz' (xs.set i (Al off sz ps x))))else none else none|_=>none
theorem store_K{H:Heap}{c n i b sz:Nat}{v}:oy H sz (.el c n i b) v=rE H H[c]? sz c n i b v:=by rfl
theorem ut{H:Heap}{c n xs i a x v}(e:xs.length=n)(g:xs[i]?=some x)(b:x.one=true)(f:v.one=true):rE H (some (.row false a xs)) 1 c n i 0 (.p v)=some (H.set c (.row false a (xs.set i v))):=by
 have j:x.cells=[x]:=by cases x<;>first|rfl|cases b
 have d:(AV.p v).cells=[.p v]:=by cases v<;>first|rfl|cases f
 have h:Al 0 1 [v] x=v:=by cases x<;>first|rfl|cases b
 simp only[rE,e,g,Option.bind_some,j,d,iT,Option.map_some,AV.ok,h];simp
theorem It{H:Heap}{b c n l i a}(h:l.length=n)(e:i<n):rE H (some (.row false b (strs l))) 1 c n i 0 (.p (.str a))=some (H.set c (.row false b (strs (l.set i a)))):=by rw[ut (strs_len.trans h) (strs_get (by omega)) rfl rfl,Lt]
theorem IA{H:Heap}{b c n k l i a}(h:l.length=n)(e:i<n):rE H (some (.row false b (ints k l))) 1 c n i 0 (.p (.int k a))=some (H.set c (.row false b (ints k (l.set i a)))):=by rw[ut (ints_len.trans h) (Cl (by omega)) rfl rfl,ints_set]
theorem Fy{H:Heap}{b c n l i a}(h:l.length=n)(e:i<n):rE H (some (.row false b (cv l))) 1 c n i 0 (.p (.bool a))=some (H.set c (.row false b (cv (l.set i a)))):=by rw[ut (bools_len.trans h) (xz (by omega)) rfl rfl,zB]
def Mw(b:Option Blk)(sz n:Nat):Option (List PV):=match b with|some (.row _ sz' xs)=>if xs.length=n/\sz=sz' then some xs else none|_=>none
theorem elems_K{H:Heap}{sz c n:Nat}:elemsOf H sz (.own c n)=Mw H[c]? sz n:=by simp[elemsOf,lX,Mw];cases H[c]? with|none=>rfl|some b=>cases b with|box=>rfl|dead=>rfl|row f d xs=>by_cases h:xs.length=n<;>simp[rowAt,h]
theorem NE{f sz xs n}(h:xs.length=n):Mw (some (.row f sz xs)) sz n=some xs:=by simp[Mw,h]
def appK(H:Heap)(b:Option Blk)(sz id n:Nat)(ys:List PV):Option (AV×Heap):=match b with|some (.row false sz' xs)=>if xs.length=n/\sz'=sz/\(xs++ys).length<=lim then some (.own id (xs++ys).length,H.set id (.row false sz (xs++ys)))else none|_=>none
theorem app_K{H:Heap}{sz b n:Nat}{ys}:cH H sz (.own b n) ys=appK H H[b]? sz b n ys:=by rfl
theorem Kl{H:Heap}{sz a n xs ys}(h:xs.length=n)(b:xs.length+ys.length<=1073741824):appK H (some (.row false sz xs)) sz a n ys=some (.own a (n+ys.length),H.set a (.row false sz (xs++ys))):=by simp only[appK];rw[if_pos ⟨h,trivial,by simp[lim];omega⟩,List.length_append,h]
def slfK(H:Heap)(b:Option Blk)(sz id n:Nat)(lo hi:Option AV):Option (AV×Heap):=match b with|some (.row _ sz' xs)=>if xs.length=n then(gN sz (.p (.sl .any sz' xs)) lo hi).map λv=>(v,freeze H [.own id n])else none|_=>none
theorem slf_K{H:Heap}{sz a n:Nat}{lo hi}:qM H sz (.own a n) lo hi=slfK H H[a]? sz a n lo hi:=by simp[qM,lX,slfK];cases H[a]? with|none=>rfl|some b=>cases b with|box=>rfl|dead=>rfl|row f d xs=>by_cases h:xs.length=n<;>simp[rowAt,h]
theorem slfK_pos{H:Heap}{f sz b xs c n lo hi}(h:xs.length=n):slfK H (some (.row f b xs)) sz c n lo hi=(gN sz (.p (.sl .any b xs)) lo hi).map λv=>(v,freeze H [.own c n]):=by simp[slfK,h]
def frzK(H:Heap)(b:Option Blk)(id:Nat)(r:List AV):Heap:=freeze (match b with|some (.row _ sz xs)=>H.set id (.row true sz xs)|_=>H) r
theorem frz_K{H:Heap}{a n r}:freeze H (.own a n::r)=frzK H H[a]? a r:=rfl
theorem frzK_row{H:Heap}{f sz xs b r}:frzK H (some (.row f sz xs)) b r=freeze (H.set b (.row true sz xs)) r:=rfl
theorem set_rep{c:Type}{l:List c}{n i:Nat}{x a:c}(h:l.length=i/\1<=n):(l++List.replicate n x).set i a=l++(a::List.replicate (n-1) x):=by obtain⟨rfl,d⟩:=h;obtain⟨m,rfl⟩:∃m,n=m+1:=⟨n-1,by omega⟩;grind
def ul(cs:Option (List AV))(H:Heap)(id off sz:Nat)(v:AV):Option Heap:=cs.bind λcs=>ifB (v.ok&&(v.cells.length==sz)&&decide (off+sz<=cs.length)) (some (H.set id (.box (cs.take off++v.cells++cs.drop (off+sz)))))
theorem store_B{H:Heap}{c a sz:Nat}{v:AV}:oy H sz (.bx c a) v=ul (dj H c) H c a sz v:=by
 simp[oy,];congr 1;funext cs;by_cases h:v.ok=true/\v.cells.length=sz/\a+sz<=cs.length;·rw[if_pos h];simp[h,ifB]
 ·rw[if_neg h,show(v.ok&&(v.cells.length==sz)&&decide (a+sz<=cs.length))=false by grind];rfl
theorem JM{cs:List AV}{H:Heap}{b a sz:Nat}{v:AV}:ul (some cs) H b a sz v=ifB (v.ok&&(v.cells.length==sz)&&decide (a+sz<=cs.length)) (some (H.set b (.box (cs.take a++v.cells++cs.drop (a+sz))))):=rfl
theorem stB_cell{cs:List PV}{H:Heap}{c a:Nat}{v:PV}(e:v.one=true)(h:a<cs.length):ul (some (cs.map .p)) H c a 1 (.p v)=some (H.set c (.box ((cs.set a v).map .p))):=by
 have d:(AV.p v).cells=[.p v]:=by cases v<;>first|rfl|cases e
 rw[JM,d];simp only[AV.ok,List.length_cons,List.length_nil,List.length_map];rw[show(true&&(0+1==1)&&decide (a+1<=cs.length))=true by grind];simp only[ifB];congr 3;rw[List.map_set,List.set_eq_take_append_cons_drop,if_pos (by grind)];simp
theorem SX{cs a:List PV}{H:Heap}{b n:Nat}(h:a.length=n)(c:cs.length=n):ul (some (cs.map .p)) H b 0 n (.p (.agg a))=some (H.set b (.box (a.map .p))):=by subst c;rw[JM];simp only[AV.ok,AV.cells,PV.cells,List.length_map,h,Nat.zero_add];rw[show(true&&(cs.length==cs.length)&&decide (cs.length<=cs.length))=true by simp];simp[ifB];rw[List.drop_of_length_le (by simp)];simp
attribute[go_sem low]JM
theorem stB_bool{l:List Bool}{H:Heap}{d a:Nat}{b:Bool}(h:a<l.length):ul (some ((cv l).map .p)) H d a 1 (.p (.bool b))=some (H.set d (.box ((cv (l.set a b)).map .p))):=by rw[stB_cell rfl (by rw[bools_len];grind),zB]
attribute[go_sem]stB_bool SX
theorem neg_int{k n}:unA .neg (.p (.int k n))=some (.p (.int k (k.wrap (0-n)))):=rfl
theorem Pv:(true==true)=true:=rfl
theorem NA:(false==false)=true:=rfl
theorem beq_tf:(true==false)=false:=rfl
theorem beq_ft:(false==true)=false:=rfl
attribute[go_sem]Bool.bne_false Bool.bne_true Pv NA beq_tf beq_ft
attribute[go_sem]neg_int
def MQ(b:Option Blk)(H:Heap)(id:Nat):Option (AV×Heap):=match b with|some (.box [.nov,.p (.str s),.p (.int .i64 pos)])=>if pos<s.length then some (.tup [.p (.bool true),.p (.int .i64 pos),.p (.int .i32 (jc s pos.toNat).1)],H.set id (.box (bX s (pos.toNat+(jc s pos.toNat).2))))else some (.tup [.p (.bool false)],H)|_=>none
theorem next_K{H:Heap}{b:Nat}:NX H (.bx b 0)=MQ H[b]? H b:=by rfl
theorem Qc{H:Heap}{b a:Nat}{s:List UInt8}(h:a<s.length):MQ (some (.box (bX s a))) H b=some (.tup [.p (.bool true),.p (.int .i64 a),.p (.int .i32 (jc s a).1)],H.set b (.box (bX s (a+(jc s a).2)))):=by simp[MQ,bX,];grind
theorem next_end{H:Heap}{c b:Nat}{s:List UInt8}(h:¬b<s.length):MQ (some (.box (bX s b))) H c=some (.tup [.p (.bool false)],H):=by simp[MQ,bX];grind
theorem Um{H:Heap}{s:List UInt8}:FF H (.p (.str s))=some (.bx H.length 0,H++[.box (bX s 0)]):=rfl
attribute[go_sem]next_K Qc next_end Um
attribute[go_sem]store_B Int.min_eq_left Int.min_eq_right Int.max_eq_left Int.max_eq_right List.headD_cons
theorem set_one{c:Type}{l:List c}{i:Nat}{x a:c}(h:l.length=i):(l++[x]).set i a=l++[a]:=by simp[*]
attribute[go_sem]set_one
def boxK(b:Option Blk):Option (List AV):=match b with|some (.box (.nov::_))=>none|some (.box cs)=>some cs|_=>none
theorem box_K{H:Heap}{b:Nat}:dj H b=boxK H[b]?:=by rfl
theorem boxK_map{cs:List PV}:boxK (some (.box (cs.map .p)))=some (cs.map .p):=by cases cs<;>rfl
theorem boxK_p{v r}:boxK (some (.box (.p v::r)))=some (.p v::r):=rfl
theorem boxK_own{b n r}:boxK (some (.box (.own b n::r)))=some (.own b n::r):=rfl
theorem boxK_bx{b n r}:boxK (some (.box (.bx b n::r)))=some (.bx b n::r):=rfl
theorem fL:∀{cs:List PV},iT (cs.map .p)=some cs|[]=>rfl|c::cs=>by simp only[List.map_cons,Qm,fL];rfl
theorem Nu{n}{cs:List PV}(h:cs.length=n):takeA n true (cs.map .p)=some (.p (.agg cs)):=by subst h;simp[takeA,];rw[<-List.map_take,List.take_length];simp[mkAgg,fL]
theorem zW{H d}:∀{cs:List PV},mapO (aI H d) (cs.map .p)=some cs|[]=>rfl|c::cs=>by rw[List.map_cons,ja,HS,zW];rfl
theorem iaddr_P{sz n:Nat}{cs k}{i:Int}(b:0<=i)(c:i<(n:Int))(d:i.toNat*sz<cs.length):oH sz n (.p (.ptr cs)) (.p (.int k i))=some (.p (.ptr (cs.drop (i.toNat*sz)))):=by simp[oH,b,c,d]
theorem No{l:List Bool}{i sz:Nat}(h:i<l.length):qb sz false ((cv l).drop i)=some (.p (.bool (l.getD i false))):=by simp[qb,cv,List.getElem?_eq_getElem h]
theorem iaddr_B{sz n b o:Nat}{k}{i:Int}(c:0<=i)(d:i<(n:Int)):oH sz n (.bx b o) (.p (.int k i))=some (.bx b (o+i.toNat*sz)):=by simp[oH,c,d]
theorem take_one{sz c r}:takeA sz false (c::r)=some c:=rfl
theorem take_ag{n}{cs:List AV}(h:n<=cs.length):takeA n true cs=some (mkAgg (cs.take n)):=by simp[takeA,h]
attribute[go_sem low]take_ag
attribute[go_sem]take_one
def rbx(H:Heap)(d off:Nat)(b:Option (List AV)):Option PV:=b.bind λcs=>ifB (decide (off<cs.length)) ((mapO (aI H d) (cs.drop off)).map .ptr)
theorem reify_B{H:Heap}{d c b:Nat}:aI H (d+1) (.bx c b)=rbx H d b (dj H c):=by rw[Ma];unfold rbx;congr 1;funext cs;unfold ifB;grind
theorem rbx_map{H:Heap}{d a:Nat}{cs:List PV}(h:a<cs.length):rbx H d a (some (cs.map .p))=some (.ptr (cs.drop a)):=by unfold rbx;rw[Option.bind_some,show decide (a<(cs.map AV.p).length)=true by grind,<-List.map_drop,zW];rfl
theorem rbx_lit{H:Heap}{d a:Nat}{cs:List AV}:rbx H d a (some cs)=ifB (decide (a<cs.length)) ((mapO (aI H d) (cs.drop a)).map .ptr):=rfl
attribute[go_sem low]rbx_lit
attribute[go_sem]reify_B rbx_map
attribute[go_sem]iaddr_P iaddr_B No Nat.mul_one Nat.zero_add box_K boxK_map boxK_p boxK_own boxK_bx Nu zW List.set_cons_zero
attribute[go_sem]Int.add_zero Int.zero_add Int.sub_zero
attribute[go_sem]UQ OS load_K OI Pq Hl store_K It IA Fy elems_K NE app_K Kl slf_K slfK_pos frz_K frzK_row
attribute[go_sem]strs_len ints_len bools_len strs_app Ef strs_get Cl xz La Lt ints_set zB FR FL strs_rep ints_rep sw lX jP len_own len_sl len_str OK my load_ptr load_bx nT takeP_ag oT app_nil mks slf_p frz_nil frz_p Kt Qa De min_max2
def xU(b:Option Blk):List Nat:=match b with|some b=>b.refs|none=>[]
def KT(c:Bool)(H:Heap)(n:Nat)(id:Nat)(r acc:List Nat):List Nat:=match c with|true=>fP H n r acc|false=>fP H n (r++xU H[id]?) (acc++[id])
theorem PO{H:Heap}{n:Nat}{acc:List Nat}:fP H n [] acc=acc:=by cases n<;>rfl
theorem MN{H:Heap}{n a:Nat}{r acc:List Nat}:fP H (n+1) (a::r) acc=KT (acc.contains a) H n a r acc:=by simp only[fP,];cases acc.contains a<;>rfl
theorem reachK_t{H:Heap}{n b:Nat}{r acc:List Nat}:KT true H n b r acc=fP H n r acc:=rfl
theorem reachK_f{H:Heap}{n b:Nat}{r acc:List Nat}:KT false H n b r acc=fP H n (r++xU H[b]?) (acc++[b]):=rfl
theorem Bh{cs:List PV}:xU (some (.box (cs.map .p)))=[]:=by simp only[xU,Blk.refs];induction cs with|nil=>rfl|cons c cs a=>rw[List.map_cons,List.flatMap_cons,a];rfl
theorem Ng{f sz xs}:xU (some (.row f sz xs))=[]:=rfl
theorem Ol{cs:List AV}:xU (some (.box cs))=cs.flatMap AV.refs:=rfl
theorem refs_p{v:PV}:AV.refs (.p v)=[]:=rfl
theorem refs_own{b n}:AV.refs (.own b n)=[b]:=rfl
theorem refs_bx{b n}:AV.refs (.bx b n)=[b]:=rfl
theorem refs_el{b n i o}:AV.refs (.el b n i o)=[b]:=rfl
theorem refs_nov:AV.refs .nov=[]:=rfl
def Kq(c:Bool)(r:List Nat)(id:Nat):Option Nat:=match c with|true=>some 0|false=>(place r id).map (·+1)
theorem PS{a}:place [] a=none:=rfl
theorem Pw{x r a}:place (x::r) a=Kq (x==a) r a:=by unfold place Kq;grind
theorem placeK_t{r b}:Kq true r b=some 0:=rfl
theorem placeK_f{r b}:Kq false r b=(place r b).map (·+1):=rfl
theorem ren_p{r d v}:AV.ren r d (.p v)=some (.p v):=by cases d<;>rfl
theorem ren_own{r d b n}:AV.ren r d (.own b n)=(r b).map (.own · n):=by cases d<;>rfl
theorem ren_bx{r d b n}:AV.ren r d (.bx b n)=(r b).map (.bx · n):=by cases d<;>rfl
theorem ren_nov{r d}:AV.ren r d .nov=some .nov:=by cases d<;>rfl
theorem ren_agg{r d cs}:AV.ren r (d+1) (.agg cs)=(mapO (AV.ren r d) cs).map .agg:=rfl
theorem QF{r d}:∀{cs:List PV},mapO (AV.ren r d) (cs.map .p)=some (cs.map .p)|[]=>rfl|c::cs=>by rw[List.map_cons,ja,ren_p,QF];rfl
def renE(r:Nat->Option Nat):Env->Option Env|[]=>some []|(s,v)::e=>(AV.ren r 3 v).bind λv=>(renE r e).map ((s,v)::·)
theorem GT{r}:∀{e:Env},vd r e=renE r e
 |[]=>rfl|(s,v)::e=>by have :=GT (r:=r) (e:=e);simp[vd]at this;simp[vd,renE,ja,this];cases AV.ren r 3 v<;>rfl
def tV(H:Heap)(p:Nat->Option Nat):List Nat->Option Heap|[]=>some []|id::L=>((H[id]?).bind (Blk.ren p)).bind λb=>(tV H p L).map (b::·)
theorem zH{H:Heap}{L:List Nat}:Heap.pick H L=tV H (place L) L:=by
 have b:∀(p:Nat->Option Nat)(L:List Nat),mapO (λd=>(H[d]?).bind (Blk.ren p)) L=tV H p L:=by intro p L;induction L with|nil=>rfl|cons a l c=>rw[ja,c];rfl
 exact b _ _
theorem ren_box{p cs}:Blk.ren p (.box cs)=(mapO (AV.ren p 3) cs).map .box:=rfl
theorem ren_row{p f sz xs}:Blk.ren p (.row f sz xs)=some (.row f sz xs):=rfl
def normK(e:Option Env)(h:Option Heap):Option (Env×Heap):=match e,h with|some e,some h=>some (e,h)|_,_=>none
theorem normG_eq{H:Heap}{e:Env}{L:List Nat}:Sq H e L=normK (renE (place L) e) (tV H (place L) L):=by rw[<-GT,<-zH];rfl
theorem MI{e h}:normK (some e) (some h)=some (e,h):=rfl
theorem renE_nil{r}:renE r []=some []:=rfl
theorem Rg{r s v e}:renE r ((s,v)::e)=(AV.ren r 3 v).bind λv=>(renE r e).map ((s,v)::·):=rfl
theorem RU{H:Heap}{p}:tV H p []=some []:=rfl
theorem NL{H:Heap}{p a L}:tV H p (a::L)=((H[a]?).bind (Blk.ren p)).bind λb=>(tV H p L).map (b::·):=rfl
attribute[go_sem]PO MN reachK_t reachK_f Bh Ng refs_p refs_own refs_bx refs_el refs_nov PS Pw placeK_t placeK_f ren_p ren_own ren_bx ren_nov ren_agg QF ren_box ren_row normG_eq MI renE_nil Rg RU NL List.contains_nil List.contains_cons
attribute[go_sem low]Ol
structure Ser where
 name:List UInt8
 start:Int
 step:Int
 vals:List (Bool×Int)cons:Int
def valP(x:Bool×Int):List PV:=[.bool x.1,.int .i64 x.2]
def vpv(l:List (Bool×Int)):List PV:=aggs (l.map valP)
def Ser.pv(k:SK)(s:Ser):PV:=.agg [.str s.name,.int .i64 s.start,.int .i64 s.step,.sl k 2 (vpv s.vals),.int .i64 s.cons]
theorem pair_eta{c b:Type}{x:c×b}:(x.1,x.2)=x:=rfl
theorem kg{l}:(vpv l).length=l.length:=by simp[vpv,aggs]
theorem vpv_nil:vpv []=[]:=rfl
theorem vpv_get{l:List (Bool×Int)}{i:Nat}(h:i<l.length):(vpv l)[i]?=some (.agg (valP (l.getD i (false,0)))):=by simp[vpv,aggs,List.getElem?_eq_getElem h]
theorem vpv_one{l:List (Bool×Int)}{b:Bool}{n:Int}:vpv l++[.agg [.bool b,.int .i64 n]]=vpv (l++[(b,n)]):=by simp[vpv,aggs,valP]
theorem Nz{H xs b k i}(a:0<=i)(h:i<(xs.length:Int)):iaddrA H 2 (.p (.sl b 2 (vpv xs))) (.p (.int k i))=some (.p (.ptr (valP (xs.getD i.toNat (false,0))))):=mP a (vpv_get (by omega))
attribute[go_sem]pair_eta kg vpv_one Nz
theorem py{a:Type}{l:List a}{i:Nat}(d:a)(h:i<l.length):l.take (i+1)=l.take i++[l.getD i d]:=by simp[*]
theorem lens:(∀{c:Type}(a:c)(l:List c),(a::l).length=l.length+1)/\(∀{c:Type},([]:List c).length=0)/\(∀{c:Type}(a b:List c),(a++b).length=a.length+b.length)/\(∀{c:Type}(n:Nat)(a:c),(List.replicate n a).length=n)/\(∀{c e:Type}(f:c->e)(l:List c),(l.map f).length=l.length)/\(∀{c:Type}(l:List c)(i:Nat)(a:c),(l.set i a).length=l.length)/\(∀{c:Type}(n:Nat)(l:List c),(l.take n).length=min n l.length)/\(∀{c:Type}(n:Nat)(l:List c),(l.drop n).length=l.length-n)/\(∀l,(strs l).length=l.length)/\(∀k l,(ints k l).length=l.length)/\(∀l,(cv l).length=l.length)/\(∀l,(aggs l).length=l.length)/\∀l,(vpv l).length=l.length:=⟨λ_ _=>rfl,rfl,λ_ _=>List.length_append,λ_ _=>List.length_replicate,λ_ _=>List.length_map _,λ_ _ _=>List.length_set,λ_ _=>List.length_take,λ_ _=>List.length_drop,λ_=>strs_len,λ_ _=>ints_len,λ_=>bools_len,λ_=>aggs_len,λ_=>kg⟩
theorem Dq{p:Prop}(h:p:=by first|assumption|omega|decide|(simp only[lens]<;>omega)):p:=h
theorem all2_3{f e:Type}{R:f->e->Prop}{l:List f}{a b c:e}(h:All2 R l [a,b,c]):∃p q r,l=[p,q,r]/\R p a/\R q b/\R r c:=by match l,h with|[p,q,r],⟨j,i,g,_⟩=>grind
theorem FE{p c:PV}(h:p.one=true)(a:p.cells=[c]):p=c:=by cases p<;>simp_all[PV.cells,PV.one]
theorem EK{P:Program}{n:Nat}{p:PV}{t:TypeId}{k:IntKind}(h:tG P (n+1) p t)(b:P.underlying t=some (.int k))(f:aggB P t=some false):∃m,p=.int k m/\(Go.Lit.int k m).wf=true:=by let⟨c,a⟩:=h;rw[f]at c;simp[okT,b]at a;let⟨s,e,d⟩:=a;exact⟨s,FE (by grind) e,d⟩
theorem JJ{P:Program}{n:Nat}{p:PV}{t e:TypeId}(h:tG P (n+1) p t)(b:P.underlying t=some (.slice e))(i:aggB P t=some false):∃k xs,p=.sl k (P.cellsOf e) xs/\xs.length<=maxLen/\((k=.nil/\xs=[])\/k=.mem)/\∀x∈xs,tG P n x e:=by let⟨f,a⟩:=h;rw[i]at f;simp[okT,b]at a;let⟨k,xs,g,c,j,d⟩:=a;exact⟨k,xs,FE (by grind) g,c,j,d⟩
theorem i64_wf{m:Int}(h:(Go.Lit.int .i64 m).wf=true):-9223372036854775808<=m/\m<=9223372036854775807:=by simp[Go.Lit.wf,IntKind.min,IntKind.bits,IntKind.signed]at h;omega
theorem Ob{Γ:Ctx}{f:Nat}{ps:List PV}(h:res Γ f ps=some [.bool true]):∃m h,callOf Γ (ev Γ m) f (ps.map .p) []=some ([.p (.bool true)],h):=by let⟨n,⟨l,H⟩,k,b⟩:=QG h;refine⟨n,H,?_⟩;rw[k];match l,b with
 |[v],b=>simp[ja,DC,]at b;let⟨x,a,c⟩:=Option.bind_eq_some_iff.1 b;simp[]at c;subst c;congr 3;cases v with
  |p v=>rw[HS]at a;grind|own d n=>rw[FW]at a;simp_all|bx d g=>rw[Ma]at a;let⟨cs,_,h⟩:=Option.bind_eq_some_iff.1 a;simp_all|el d n i g=>
   by_cases e:n<=i;·rw[Dx e]at a;let⟨cs,_,h⟩:=Option.bind_eq_some_iff.1 a;grind
   ·rw[Dw (by omega)]at a;let⟨cs,_,h⟩:=Option.bind_eq_some_iff.1 a;grind|mp d=>simp[aI]at a|agg cs=>rw[GE]at a;simp_all|clo f cs=>rw[GA]at a;simp_all|tup cs=>cases a|nov=>cases a|any=>cases a
 |[],b=>simp[mapO]at b|v::w::r,b=>simp only[ja]at b;let⟨x,a,c⟩:=Option.bind_eq_some_iff.1 b;let⟨y,j,c⟩:=Option.map_eq_some_iff.1 c;let⟨z,o,j⟩:=Option.bind_eq_some_iff.1 j;simp_all
def ny(P:Program)(t:TypeId)(l:List TypeId):Bool:=match P.underlying t with|some (.struct fs)=>fs.toList.map (·.type)==l|_=>false
theorem rJ{P:Program}{t:TypeId}{l:List TypeId}(h:ny P t l=true):∃a,P.underlying t=some (.struct a)/\a.toList.map (·.type)=l:=by unfold ny at h;grind
structure SerT(P:Program)(t ts ti tv te tb:TypeId):Prop where
 s:ny P t [ts,ti,ti,tv,ti]=true
 str:P.underlying ts=some .string
 int:P.underlying ti=some (.int .i64)vals:P.underlying tv=some (.slice te)v:ny P te [tb,ti]=true
 bool:P.underlying tb=some .bool
 cells:P.cellsOf te=2
theorem Sg{p:PV}(h:p.one=false):p=.agg p.cells:=by cases p<;>first|rfl|cases h
theorem Ak{P:Program}{t:TypeId}{a}(h:P.underlying t=some (.struct a)):aggB P t=some true:=by unfold aggB;rw[h]
structure Ser.Ok(k:SK)(s:Ser):Prop where
 name:s.name.length<=maxLen
 start:-9223372036854775808<=s.start/\s.start<=9223372036854775807
 step:-9223372036854775808<=s.step/\s.step<=9223372036854775807
 cons:-9223372036854775808<=s.cons/\s.cons<=9223372036854775807
 len:s.vals.length<=maxLen
 kind:(k=.nil/\s.vals=[])\/k=.mem
 vals:∀x∈s.vals,-9223372036854775808<=x.2/\x.2<=9223372036854775807
end Ab
namespace Ab
open Go (IntKind BinOp UnOp)
def RunM(Γ:Ctx)(k f:Nat)(aX:List AV)(HL:Heap)(r:List AV×Heap):Prop:=∃n x,callOf Γ (ev Γ n) f aX HL=some x/\tidy k x=some r
theorem RunM_det{Γ:Ctx}{k f:Nat}{c:List AV}{HL:Heap}{r b:List AV×Heap}(h:RunM Γ k f c HL r)(d:RunM Γ k f c HL b):r=b:=by let⟨n,x,e,l⟩:=h;let⟨m,i,g,j⟩:=d;have p:=js (Nat.le_max_left n m) _ _ _ _ e;have o:=js (Nat.le_max_right n m) _ _ _ _ g;grind
open Classical in
noncomputable def resM(Γ:Ctx)(k f:Nat)(aX:List AV)(HL:Heap):Option (List AV×Heap):=if h:∃r,RunM Γ k f aX HL r then some h.choose else none
theorem wK{Γ k f a HL r}(h:RunM Γ k f a HL r):resM Γ k f a HL=some r:=by have b:∃r,RunM Γ k f a HL r:=⟨_,h⟩;unfold resM;rw[dif_pos b];exact congrArg some (RunM_det b.choose_spec h)
theorem of_resM{Γ k f b HL r}(h:resM Γ k f b HL=some r):RunM Γ k f b HL r:=by
 unfold resM at h;split at h;all_goals grind
section


variable{Γ:Ctx}{env:Env}{H:Heap}{live:List Nat}{Q:Out->Prop}{r:List St}{dst:Option Nat}
def cmD(H:Heap)(L:List Nat)(r:Option (List AV×Heap)):Option (List AV×Heap):=r.bind λr=>vS H L r
noncomputable def cmC(Γ:Ctx)(H:Heap)(f:Nat)(L:List Nat)(b:Bool)(aX:Option (List AV))(HL:Option Heap):Option (List AV×Heap):=ifB b (aX.bind λaX=>HL.bind λHL=>cmD H L (resM Γ L.length f aX HL))
noncomputable def cmB(Γ:Ctx)(H:Heap)(f:Nat)(aX:List AV)(L:List Nat):Option (List AV×Heap):=cmC Γ H f L (L.isEmpty||ir Γ L.length f) (mapO (AV.ren (place L) 3) aX) (tV H (place L) L)
noncomputable def cmA(Γ:Ctx)(H:Heap)(args:List AV)(fc:Option (Nat×List AV)):Option (List AV×Heap):=fc.bind λfc=>cmB Γ H fc.1 (args++fc.2) (fP H 64 ((args++fc.2).flatMap AV.refs) [])
def resX(x:Option (List AV×Heap)):Option (AV×Heap):=x.map λr=>(results r.1,r.2)
theorem L_calls{f args}:WpL Γ (⟨dst,none,.inr (.calls f args)⟩::r) env H live Q↔opX Γ (resX (cmA Γ H (args.map (Arg.ev Γ (look env))) (callee (Arg.ev Γ (look env) f)))) dst r env live Q:=by
 rw[L_of];unfold opX WpO;constructor;·rintro⟨n,h⟩;dsimp only at h;rw[db]at h⊢;let⟨v,j,s⟩:=h;simp only[evX,AO,Option.map_eq_some_iff,Option.bind_eq_some_iff,ifB_some]at j;obtain⟨t,⟨w,e,b,o,d,HL,l,x,g,u,a,q⟩,rfl⟩:=j;refine⟨_,?_,s⟩;rw[zH]at l;simp only[resX,cmA,cmB,cmC,cmD,e,Option.bind_some,b,d,l,ifB,wK ⟨n,x,g,a⟩,q,Option.map_some]
 ·intro h;rw[db]at h;let⟨v,j,s⟩:=h;simp only[resX,cmA,cmB,cmC,cmD,Option.map_eq_some_iff,Option.bind_eq_some_iff,ifB_some]at j;obtain⟨t,⟨w,e,b,o,d,HL,l,u,k,q⟩,rfl⟩:=j;let⟨n,x,g,a⟩:=of_resM k;rw[<-zH]at l;refine⟨n,?_⟩;simp only[evX,AO,e,Option.bind_some,b,d,l,g,a,q,];exact s
theorem cmA_some{args:List AV}{f:Nat}{a:List AV}:cmA Γ H args (some (f,a))=cmB Γ H f (args++a) (fP H 64 ((args++a).flatMap AV.refs) []):=rfl
theorem cmB_eq{b:List AV}{f:Nat}{L:List Nat}:cmB Γ H f b L=cmC Γ H f L (L.isEmpty||ir Γ L.length f) (mapO (AV.ren (place L) 3) b) (tV H (place L) L):=rfl
theorem cmC_some{b:List AV}{HL:Heap}{f:Nat}{L:List Nat}:cmC Γ H f L true (some b) (some HL)=cmD H L (resM Γ L.length f b HL):=rfl
def jbB(H:Heap)(L:List Nat)(rs:Option (List AV))(bs:Option (List Blk)):Option (List AV×Heap):=rs.bind λrs=>bs.map λbs=>(rs,dz H L bs++bs.drop L.length)
theorem cmD_some{L:List Nat}{rs:List AV}{B:Heap}:cmD H L (some (rs,B))=jbB H L (mapO (AV.ren (backTo H L) 3) rs) (mapO (Blk.ren (backTo H L)) B):=rfl
theorem jbB_some{L:List Nat}{rs:List AV}{b:List Blk}:jbB H L (some rs) (some b)=some (rs,dz H L b++b.drop L.length):=rfl
theorem Tp{rs:List AV}{h:Heap}:resX (some (rs,h))=some (results rs,h):=rfl
theorem Hz{a:List Blk}:dz H [] a=H:=by cases a<;>rfl
theorem ER{c:Nat}{L:List Nat}{b:Blk}{a:List Blk}:dz H (c::L) (b::a)=dz (H.set c b) L a:=rfl
def btK(b:Bool)(H:Heap)(L:List Nat)(id:Nat):Option Nat:=match b with|true=>L[id]?|false=>some (H.length+(id-L.length))
theorem TI{L:List Nat}{a:Nat}:backTo H L a=btK (decide (a<L.length)) H L a:=by unfold backTo btK;grind
theorem btK_t{L:List Nat}{b:Nat}:btK true H L b=L[b]?:=rfl
theorem btK_f{L:List Nat}{b:Nat}:btK false H L b=some (H.length+(b-L.length)):=rfl
def tzB(H:Heap)(L:List Nat)(vs:Option (List AV))(HL:Option Heap):Option (List PV×Heap):=vs.bind λvs=>HL.bind λHL=>(mapO (aI HL 4) vs).map λps=>(ps,kill H L)
def tzA(H:Heap)(vs:List AV)(L:List Nat):Option (List PV×Heap):=tzB H L (mapO (AV.ren (place L) 3) vs) (tV H (place L) L)
theorem trees_eq{b:List AV}:gg H b=tzA H b (fP H 64 (b.flatMap AV.refs) []):=by unfold gg tzA tzB;simp[zH]
theorem tzA_eq{b:List AV}{L:List Nat}:tzA H b L=tzB H L (mapO (AV.ren (place L) 3) b) (tV H (place L) L):=rfl
theorem tzB_some{b:List AV}{HL:Heap}{L:List Nat}:tzB H L (some b) (some HL)=(mapO (aI HL 4) b).map λps=>(ps,kill H L):=rfl
def killK(H:Heap)(id:Nat)(L:List Nat)(b:Option Blk):Heap:=kill (match b with|some b=>H.set id (qa b)|none=>H) L
theorem kill_nil:kill H []=H:=rfl
theorem Qp{a:Nat}{L:List Nat}:kill H (a::L)=killK H a L H[a]?:=rfl
theorem OM{a:Nat}{L:List Nat}{b:Blk}:killK H a L (some b)=kill (H.set a (qa b)) L:=rfl
theorem Ra{f sz xs}:qa (.row f sz xs)=.row true sz xs:=rfl
theorem Qy{cs}:qa (.box cs)=.dead:=rfl
theorem PF:qa .dead=.dead:=rfl
noncomputable def czC(x:Option (List PV))(H:Heap):Option (AV×Heap):=x.map λrs=>(results (rs.map .p),H)
noncomputable def czB(Γ:Ctx)(f:Nat)(q:Option (List PV×Heap)):Option (AV×Heap):=q.bind λq=>czC (res Γ f q.1) q.2
noncomputable def czA(Γ:Ctx)(H:Heap)(args:List AV)(fc:Option (Nat×List AV)):Option (AV×Heap):=fc.bind λfc=>czB Γ fc.1 (gg H (args++fc.2))
theorem czA_some{args:List AV}{f:Nat}{a:List AV}:czA Γ H args (some (f,a))=czB Γ f (gg H (args++a)):=rfl
theorem czB_some{f:Nat}{ps:List PV}{h:Heap}:czB Γ f (some (ps,h))=czC (res Γ f ps) h:=rfl
theorem czC_some{rs:List PV}{h:Heap}:czC (some rs) h=some (results (rs.map .p),h):=rfl
theorem SI{sz ag n zero parts}:WpL Γ (⟨dst,none,.inr (.bslicef sz ag n zero parts)⟩::r) env H live Q↔opX Γ (pX H sz ag n (lz (zero.map .p) (parts.map λq=>(q.off,q.sz,Arg.ev Γ (look env) q.arg)))) dst r env live Q:=L_of.trans (mh rfl)
def bsfK(sz:Nat)(ag:Bool)(n:Nat)(q:Option (List PV×Heap)):Option (AV×Heap):=q.bind λq=>ifB (q.1.length==n*sz) (some (.p (.sl .tight sz (chunks sz ag n q.1)),q.2))
theorem L_fbox{x}:WpL Γ (⟨dst,none,.inr (.fbox x)⟩::r) env H live Q↔opX Γ (fboxA H (Arg.ev Γ (look env) x)) dst r env live Q:=L_of.trans (mh rfl)
def fbK(b:Bool)(q:Option (List PV×Heap)):Option (AV×Heap):=q.bind λq=>ifB (b&&!q.1.isEmpty) (some (.p (.ptr q.1),q.2))
theorem fbox_K{v:AV}:fboxA H v=fbK v.ok (gg H v.cells):=rfl
theorem fbK_some{b:Bool}{ps:List PV}{h:Heap}:fbK b (some (ps,h))=ifB (b&&!ps.isEmpty) (some (.p (.ptr ps),h)):=rfl
theorem PX{sz ag n}{cs:List AV}:pX H sz ag n (some cs)=bsfK sz ag n (gg H cs):=rfl
theorem QW{sz ag n}{ps:List PV}{h:Heap}:bsfK sz ag n (some (ps,h))=ifB (ps.length==n*sz) (some (.p (.sl .tight sz (chunks sz ag n ps)),h)):=rfl
end
section


variable{Γ:Ctx}{env:Env}{H:Heap}{live:List Nat}{Q:Out->Prop}{r:List St}{dst:Option Nat}
def pqR(H:Heap)(v:Option AV):Option (AV×Heap):=v.map λv=>(v,H)
theorem pqR_some{v:AV}:pqR H (some v)=some (v,H):=rfl
theorem L_pq{q:QOp}(h:q.plain=true):WpL Γ (⟨dst,none,.inr (.pureq q)⟩::r) env H live Q↔opX Γ (pqR H (evQ Γ uH (look env) [] q)) dst r env live Q:=by
 rw[L_of];unfold opX WpO;have e:∀n,evX Γ (callOf Γ (ev Γ n)) (look env) H (.pureq q)=pqR H (evQ Γ uH (look env) [] q):=λn=>by
  have :evQ Γ (callOf Γ (ev Γ n)) (look env) [] q=evQ Γ uH (look env) [] q:=by cases q<;>first|rfl|cases h
  simp[evX,this,pqR]
 simp[*]
theorem Og{sz x i}:WpL Γ (⟨dst,none,.inr (.pureq (.iaddr sz x i))⟩::r) env H live Q↔opX Γ (pqR H (iaddrA [] sz (Arg.ev Γ (look env) x) (Arg.ev Γ (look env) i))) dst r env live Q:=L_pq rfl
theorem So{sz ag x}:WpL Γ (⟨dst,none,.inr (.pureq (.load sz ag x))⟩::r) env H live Q↔opX Γ (pqR H (kj [] sz ag (Arg.ev Γ (look env) x))) dst r env live Q:=L_pq rfl
theorem MF{c x}:WpL Γ (⟨dst,none,.inr (.pureq (.faddr c x))⟩::r) env H live Q↔opX Γ (pqR H (qg [] c (Arg.ev Γ (look env) x))) dst r env live Q:=L_pq rfl
theorem L_pq_len{s x}:WpL Γ (⟨dst,none,.inr (.pureq (.len s x))⟩::r) env H live Q↔opX Γ (pqR H ((jm [] s (Arg.ev Γ (look env) x)).map λ(n:Nat)=>AV.p (.int .i64 (n:Int)))) dst r env live Q:=L_pq rfl
attribute[go_sem]pqR_some Og So MF L_pq_len
end
def tdB(_B:Heap)(_L:List Nat)(rs:Option (List AV))(H:Option Heap):Option (List AV×Heap):=rs.bind λrs=>H.map λH=>(rs,H)
def tdA(B:Heap)(rs:List AV)(L:List Nat):Option (List AV×Heap):=tdB B L (mapO (AV.ren (place L) 3) rs) (tV B (place L) L)
theorem tidy_eq{k:Nat}{rs:List AV}{B:Heap}:tidy k (rs,B)=tdA B rs (fP B 64 (rs.flatMap AV.refs++(B.take k).flatMap Blk.refs) (List.range k)):=by unfold tidy tdA tdB;simp[zH]
theorem tdA_eq{rs:List AV}{B:Heap}{L:List Nat}:tdA B rs L=tdB B L (mapO (AV.ren (place L) 3) rs) (tV B (place L) L):=rfl
theorem tdB_some{rs:List AV}{B H:Heap}{L:List Nat}:tdB B L (some rs) (some H)=some (rs,H):=rfl
def Ot(k:Nat)(rvs:List RV)(r:List AV×Heap):Out->Prop|(.ex _,_,_)=>False|(_,e,h)=>optP (mapO (RV.get e h) rvs) λvs=>tidy k (vs,h)=some r
def endM(k:Nat)(vs:Option (List AV))(h:Heap)(r:List AV×Heap):Prop:=optP vs λvs=>tidy k (vs,h)=some r
theorem Qh{k a h r}:endM k (some a) h r↔tidy k (a,h)=some r:=Iff.rfl
theorem Sa{k a r e h}:Ot k a r (.nrm,e,h)↔endM k (mapO (RV.get e h) a) h r:=Iff.rfl
theorem QC{k a r e h}:Ot k a r (.ret,e,h)↔endM k (mapO (RV.get e h) a) h r:=Iff.rfl
theorem eK{Γ:Ctx}{k f:Nat}{fn:AFn}{args:List AV}{HL:Heap}{r:List AV×Heap}(g:Γ.fn f=some (.code fn))(m:args.length=fn.np)(h:Wp Γ fn.body (nA 0 args) HL (Ot k fn.results r)):resM Γ k f args HL=some r:=by
 let⟨n,⟨x,e,c⟩,l,d⟩:=h;refine wK ⟨n,?_⟩;have b:(x≠.ret->x=.nrm)/\∃a,mapO (RV.get e c) fn.results=some a/\tidy k (a,c)=some r:=by
  cases x;·rw[Ot,db]at d;all_goals grind
  ·exact d.elim
  ·rw[Ot,db]at d;all_goals grind
 let⟨o,a,j,i⟩:=b;refine⟨(a,c),?_,i⟩;unfold callOf;rw[g,ua];grind
def CH(rvs:List RV)(K:List AV->Heap->Prop):Out->Prop|(.ex _,_,_)=>False|(_,e,h)=>optP (mapO (RV.get e h) rvs) λvs=>K vs h
def endKK(vs:Option (List AV))(h:Heap)(K:List AV->Heap->Prop):Prop:=optP vs λvs=>K vs h
theorem Ov{a h}{K:List AV->Heap->Prop}:endKK (some a) h K↔K a h:=Iff.rfl
theorem QM{a e h}{K:List AV->Heap->Prop}:CH a K (.nrm,e,h)↔endKK (mapO (RV.get e h) a) h K:=Iff.rfl
theorem Ql{a e h}{K:List AV->Heap->Prop}:CH a K (.ret,e,h)↔endKK (mapO (RV.get e h) a) h K:=Iff.rfl
attribute[go_sem]Ov QM Ql
theorem callK{Γ:Ctx}{f:Nat}{fn:AFn}{args:List AV}{HL:Heap}{K:List AV->Heap->Prop}(i:Γ.fn f=some (.code fn))(m:args.length=fn.np)(h:Wp Γ fn.body (nA 0 args) HL (CH fn.results K)):∃n a h,callOf Γ (ev Γ n) f args HL=some (a,h)/\K a h:=by
 let⟨n,⟨x,e,c⟩,l,g⟩:=h;have b:(x≠.ret->x=.nrm)/\∃a,mapO (RV.get e c) fn.results=some a/\K a c:=by
  cases x;·rw[CH,db]at g;all_goals grind
  ·exact g.elim
  ·rw[CH,db]at g;all_goals grind
 let⟨o,a,k,j⟩:=b;refine⟨n,a,c,?_,j⟩;unfold callOf;rw[i,ua];grind
theorem HR{a:Type}:([]:List a).isEmpty=true:=rfl
theorem Gv{b:Type}{a:b}{l:List b}:(a::l).isEmpty=false:=rfl
theorem range_0:List.range 0=[]:=rfl
theorem range_1:List.range 1=[0]:=rfl
theorem range_2:List.range 2=[0,1]:=rfl
theorem range_3:List.range 3=[0,1,2]:=rfl
theorem range_4:List.range 4=[0,1,2,3]:=rfl
theorem range_5:List.range 5=[0,1,2,3,4]:=rfl
theorem range_6:List.range 6=[0,1,2,3,4,5]:=rfl
theorem RK{f sz xs}:Blk.refs (.row f sz xs)=[]:=rfl
theorem NB:Blk.refs .dead=[]:=rfl
theorem QL{cs:List PV}:Blk.refs (.box (cs.map .p))=[]:=Bh (cs:=cs)
theorem UA{cs:List AV}:Blk.refs (.box cs)=cs.flatMap AV.refs:=rfl
theorem HX:xU (some .dead)=[]:=rfl
theorem ren_dead{p}:Blk.ren p .dead=some .dead:=rfl
theorem flatMap_nil{c b:Type}{f:c->List b}:[].flatMap f=[]:=rfl
attribute[go_sem low]UA
attribute[go_sem]L_calls cmA_some cmB_eq cmC_some cmD_some jbB_some Tp Hz ER TI btK_t btK_f trees_eq tzA_eq tzB_some kill_nil Qp OM Ra Qy PF L_fbox fbox_K fbK_some czA_some czB_some czC_some SI PX QW tidy_eq tdA_eq tdB_some Sa QC Qh HR Gv range_0 range_1 range_2 range_3 range_4 range_5 range_6 RK NB QL HX ren_dead List.take_succ_cons List.take_zero List.drop_succ_cons List.drop_zero
end Ab
namespace Ab
open Go (Program TypeId maxLen)
def TN:AV->List Nat
 |.own id _|.bx id _|.el id _ _ _|.mp id=>[id]|.agg cs|.tup cs|.clo _ cs=>cs.flatMap λ|.own id _|.bx id _|.el id _ _ _|.mp id=>[id]|_=>[]
 |_=>[]
theorem refs2_p{v}:TN (.p v)=[]:=rfl
theorem RE{a n}:TN (.own a n)=[a]:=rfl
theorem refs2_bx{b n}:TN (.bx b n)=[b]:=rfl
theorem refs2_mp{b}:TN (.mp b)=[b]:=rfl
theorem refs2_el{b n i o}:TN (.el b n i o)=[b]:=rfl
attribute[go_sem]refs2_p RE refs2_bx refs2_mp refs2_el
attribute[go_sem]vpv_nil
def serC(x:SK×Ser):List PV:=[.str x.2.name,.int .i64 x.2.start,.int .i64 x.2.step,.sl x.1 2 (vpv x.2.vals),.int .i64 x.2.cons]
def sers(l:List (SK×Ser)):List PV:=l.map λx=>.agg (serC x)
theorem sers_nil:sers []=[]:=rfl
attribute[go_sem]sers_nil
structure ValT(P:Program)(te ti tb:TypeId):Prop where
 int:P.underlying ti=some (.int .i64)v:ny P te [tb,ti]=true
 bool:P.underlying tb=some .bool
 cells:P.cellsOf te=2
abbrev ActV:=Int×Int×Int×Int×List UInt8×SK×List (Int×Int)
def pntC(p:Int×Int):PV:=.agg [.int .i64 p.1,.int .i64 p.2]
def actV(a:ActV):List PV:=[.int .i64 a.1,.int .i64 a.2.1,.int .i64 a.2.2.1,.int .i64 a.2.2.2.1,.str a.2.2.2.2.1,.sl a.2.2.2.2.2.1 2 (a.2.2.2.2.2.2.map pntC)]
structure ActO(P:Program)(te ti ts tl tp:TypeId):Prop where
 int:P.underlying ti=some (.int .i64)v:ny P te [ti,ti,ti,ti,ts,tl]=true
 str:P.underlying ts=some .string
 sl:P.underlying tl=some (.slice tp)p:ny P tp [ti,ti]=true
 cp:P.cellsOf tp=2
 cells:P.cellsOf te=6
theorem okT_pnt{P:Program}{p r ts t i:TypeId}(T:ActO P p r ts t i){n:Nat}{x:PV}(h:tG P (n+2) x i):∃y:Int×Int,x=pntC y:=by let⟨k,h⟩:=h;let⟨u,l,o⟩:=rJ T.p;rw[Ak l]at k;have e:=Sg (by simpa using k);simp only[okT,l,o,]at h;obtain⟨a,b,s,j,c,d,rfl,g,rfl⟩:=h;simp[T.int]at j g;obtain⟨q,rfl,_⟩:=j;obtain⟨m,rfl,_⟩:=g;rw[s]at e;exact⟨(q,m),e⟩
theorem okT_actO{P:Program}{r t ts A p:TypeId}(T:ActO P r t ts A p){n:Nat}{x:PV}(h:tG P (n+4) x r):∃y:ActV,x=.agg (actV y):=by
 let⟨q,h⟩:=h;let⟨R,o,E⟩:=rJ T.v;rw[Ak o]at q;have e:=Sg (by simpa using q);rw[okT]at h;simp only[o,E,]at h;obtain⟨Q,O,C,i,M,W,rfl,m,U,N,rfl,j,V,L,rfl,d,K,G,rfl,g,F,S,rfl,c,rfl⟩:=h;rw[okT]at i m j d g c;simp[T.int]at i m j d;simp[T.str]at g;simp[T.sl]at c;obtain⟨D,rfl,_⟩:=i;obtain⟨w,rfl,_⟩:=m;obtain⟨B,rfl,_⟩:=j;obtain⟨u,rfl,_⟩:=d;obtain⟨s,rfl,_⟩:=g;obtain⟨k,xs,rfl,I,H,b⟩:=c;have f:∀xs:List PV,(∀x∈xs,tG P (n+2) x p)->∃l:List (Int×Int),xs=l.map pntC:=by intro xs;induction xs with|nil=>simp|cons x xs v=>intro b;obtain⟨y,rfl⟩:=okT_pnt T (b x (by simp));obtain⟨l,rfl⟩:=v λz J=>b z (by grind);exact⟨y::l,rfl⟩
 obtain⟨l,rfl⟩:=f xs b;rw[C,T.cp]at e;exact⟨(D,w,B,u,s,k,l),e⟩
theorem Iy{P:Program}{t b g ts m j:TypeId}(T:ActO P b g ts m j){n:Nat}{p:PV}(h:tG P (n+5) p t)(d:P.underlying t=some (.slice b))(f:aggB P t=some false):∃k l,p=.sl k 6 (aggs ((l:List ActV).map actV))/\l.length<=maxLen:=by
 obtain⟨k,xs,rfl,e,r,a⟩:=JJ h d f;rw[T.cells];have c:∀xs:List PV,(∀x∈xs,tG P (n+4) x b)->∃l:List ActV,xs=aggs (l.map actV):=by intro xs;induction xs with|nil=>exactλ_=>⟨[],rfl⟩|cons x xs i=>intro a;obtain⟨y,rfl⟩:=okT_actO T (a x (by simp));obtain⟨l,rfl⟩:=i λz q=>a z (by grind);exact⟨y::l,rfl⟩
 obtain⟨l,rfl⟩:=c xs a;exact⟨k,l,rfl,by simpa[aggs]using e⟩
def mapK(b:Option Blk):Option (List (PV×AV)):=match b with|some (.box (.nov::.nov::cs))=>qR cs|_=>none
theorem vt:∀(a:List (PV×AV)),qR (ki a)=some a|[]=>rfl|(k,v)::a=>by simp[ki,qR,vt a]
theorem Tg{a:List (PV×AV)}:mapK (some (.box (ak a)))=some a:=vt a
def mgK(zero:List PV)(comma:Bool)(m:Option (Option AV)):Option AV:=m.map (mres comma (mkZ zero))
theorem mget_str{H:Heap}{c:Nat}{zero a}{k:List UInt8}:Ni H .str zero a (.mp c) (.p (.str k))=(mapK H[c]?).bind λd=>mgK zero a (pZ (.str k) d):=rfl
theorem mgK_some{zero a}{r:Option AV}:mgK zero a (some r)=some (mres a (mkZ zero) r):=rfl
theorem RW{z:AV}:mres false z none=z:=rfl
theorem Sm{z v:AV}:mres false z (some v)=v:=rfl
theorem MT{z:AV}:mres true z none=.tup [z,.p (.bool false)]:=rfl
theorem PD{z v:AV}:mres true z (some v)=.tup [v,.p (.bool true)]:=rfl
theorem mkZ_one{v:PV}:mkZ [v]=.p v:=rfl
def msK(H:Heap)(id:Nat)(es':Option (List (PV×AV))):Option Heap:=es'.map λes'=>H.set id (.box (ak es'))
theorem DR{H:Heap}{a:Nat}{k:List UInt8}{v:AV}(h:v.ok=true):Er H .str (.mp a) (.p (.str k)) v=(mapK H[a]?).bind λb=>msK H a (mput (.str k) v b):=by simp[Er,h,];rfl
theorem msK_some{H:Heap}{c:Nat}{b:List (PV×AV)}:msK H c (some b)=some (H.set c (.box (ak b))):=rfl
theorem ok_own{b n}:(AV.own b n).ok=true:=rfl
theorem ok_p{v}:(AV.p v).ok=true:=rfl
def Uo(neg:Bool)(n:Nat)(b:Option (Nat×List PV)):Option AV:=b.bind λ_=>if 0<n then some (.p (.bool neg))else none
theorem SP{H:Heap}{a b n s l}:sI H a (.own b n) (.p (.sl .nil s l))=Uo a n (rowAt H[b]? n):=by rfl
theorem MJ{a n}{r:Nat×List PV}(h:0<n):Uo a n (some r)=some (.p (.bool a)):=by simp[Uo,h]
theorem isnil_p{H:Heap}{b}{v w:PV}:sI H b (.p v) (.p w)=eqkA 4 b (.p v) (.p w):=by rfl
def browK(H:Heap)(sz:Nat)(ag:Bool)(n:Nat)(ps:Option (List PV)):Option (AV×Heap):=ps.bind λps=>if ps.length=n*sz/\n<=lim then some (.own H.length n,H++[.row false sz (chunks sz ag n ps)])else none
theorem brow_K{H:Heap}{sz ag n}{cs:List AV}:Nr H sz ag n (some cs)=browK H sz ag n (iT cs):=rfl
theorem Tq{H:Heap}{sz ag n}{ps:List PV}(h:ps.length=n*sz)(a:n<=1073741824):browK H sz ag n (some ps)=some (.own H.length n,H++[.row false sz (chunks sz ag n ps)]):=by simp only[browK,Option.bind_some];rw[if_pos ⟨h,a⟩]
section


variable{Γ:Ctx}{env:Env}{H:Heap}{live:List Nat}{Q:Out->Prop}{r:List St}{dst:Option Nat}
theorem L_treeq{q:QOp}(h:q.plain=true):WpL Γ (⟨dst,none,.inr (.treeq q)⟩::r) env H live Q↔opX Γ ((evQ Γ uH (look env) H q).bind λv=>tD H v) dst r env live Q:=by
 rw[L_of];unfold opX WpO;have e:∀n,evX Γ (callOf Γ (ev Γ n)) (look env) H (.treeq q)=(evQ Γ uH (look env) H q).bind λv=>tD H v:=λn=>by
  have :evQ Γ (callOf Γ (ev Γ n)) (look env) H q=evQ Γ uH (look env) H q:=by cases q<;>first|rfl|cases h
  simp[evX,this]
 simp[*]
theorem PE{x}:WpL Γ (⟨dst,none,.inr (.treeq (.mov x))⟩::r) env H live Q↔opX Γ (tD H (Arg.ev Γ (look env) x)) dst r env live Q:=L_treeq rfl
end
def treeK(q:Option (List PV×Heap)):Option (AV×Heap):=q.bind λr=>r.1.head?.map λp=>(.p p,r.2)
theorem tree_K{H:Heap}{v:AV}:tD H v=treeK (gg H [v]):=rfl
theorem MO{p:PV}{ps:List PV}{h:Heap}:treeK (some (p::ps,h))=some (.p p,h):=rfl
theorem tree_own{H:Heap}{b n f sz xs}(d:H[b]?=some (.row f sz xs))(e:xs.length=n):tD H (.own b n)=some (.p (.sl .any sz xs),H.set b (.row true sz xs)):=by
 have c:gg H [.own b n]=some ([.sl .any sz xs],H.set b (.row true sz xs)):=by simp[gg,AV.refs,fP,d,Blk.refs,mapO,AV.ren,place,Heap.pick,Blk.ren,aI,rowOf,e,kill,qa]
 simp[tD,c,Option.bind_some,List.head?_cons,Option.map_some]
theorem dB{l:List Blk}{b:Blk}{i:Nat}(h:i=l.length):(l++[b])[i]?=some b:=by grind
theorem UJ{l m:List Blk}{i:Nat}(h:i<l.length):(l++m)[i]?=l[i]?:=List.getElem?_append_left h
theorem dR{l:List Blk}{b c:Blk}{i:Nat}(h:i=l.length):(l++[b]).set i c=l++[c]:=by simp[*]
attribute[go_sem]Tg mget_str mgK_some RW Sm MT PD mkZ_one DR msK_some ok_own ok_p SP MJ isnil_p brow_K Tq PE tree_K MO
section


variable{Γ:Ctx}{env:Env}{H:Heap}{live:List Nat}{Q:Out->Prop}{r:List St}{dst:Option Nat}
theorem IK{x}:WpL Γ (⟨dst,none,.inr (.pureq (.nilchk x))⟩::r) env H live Q↔opX Γ (pqR H (lc [] (Arg.ev Γ (look env) x))) dst r env live Q:=L_pq rfl
theorem loadk_bx{sz ag c b d}:zb H sz ag (.bx c b) (.bx c d)=kj H sz ag (.bx c b):=if_pos rfl
theorem Sc{sz b a v c}:ui H sz (.bx b a) v c=ifB (vw H [b] c) (oy H sz (.bx b a) v):=rfl
theorem kept_nil{L}:vw H L []=true:=rfl
theorem kept_bx{L b o c}:vw H L (.bx b o::c)=(decide (b<H.length)&&!L.contains b&&vw H L c):=rfl
def kpK(H:Heap)(args ks:List AV):Option (Nat×List AV)->Bool|some fc=>vw H (fP H 64 ((args++fc.2).flatMap AV.refs) []) ks|none=>false
theorem kpK_some{f a args c}:kpK H args c (some (f,a))=vw H (fP H 64 ((args++a).flatMap AV.refs) []) c:=rfl
def kpO(b:Bool)(p:Prop):Prop:=b=true/\p
theorem kpO_t{p:Prop}:kpO true p↔p:=by simp[kpO]
theorem L_callk{f args b}:WpL Γ (⟨dst,none,.inr (.callk f args b)⟩::r) env H live Q↔kpO (kpK H (args.map (Arg.ev Γ (look env))) (b.map (Arg.ev Γ (look env))) (callee (Arg.ev Γ (look env) f))) (WpL Γ (⟨dst,none,.inr (.calls f args)⟩::r) env H live Q):=by
 rw[L_of,L_of];unfold WpO;have e:∀n,evX Γ (callOf Γ (ev Γ n)) (look env) H (.callk f args b)=ifB (kpK H (args.map (Arg.ev Γ (look env))) (b.map (Arg.ev Γ (look env))) (callee (Arg.ev Γ (look env) f))) (evX Γ (callOf Γ (ev Γ n)) (look env) H (.calls f args)):=by intro n;simp only[evX,FC];cases callee (Arg.ev Γ (look env) f)with|none=>rfl|some i=>show((ifB (vw H _ _) _).map _)=_;simp only[kpK];cases vw H (fP H 64 ((args.map (Arg.ev Γ (look env))++i.2).flatMap AV.refs) []) (b.map (Arg.ev Γ (look env)))<;>rfl
 cases h:kpK H (args.map (Arg.ev Γ (look env))) (b.map (Arg.ev Γ (look env))) (callee (Arg.ev Γ (look env) f));·simp only[e,h,kpO,ifB_f,Qf,];simp
 ·simp[e,h,kpO_t,ifB_t]
end
attribute[go_sem]IK loadk_bx Sc kept_nil kept_bx kpK_some kpO_t L_callk L_loadk L_storek
end Ab
namespace Ab
open Go (IntKind BinOp UnOp)
def RunW(Γ:Ctx)(f:Nat)(aX:List AV)(H:Heap)(r:List AV×Heap):Prop:=∃n,callOf Γ (ev Γ n) f aX H=some r
theorem RunW_det{Γ:Ctx}{f:Nat}{c:List AV}{H:Heap}{r b:List AV×Heap}(h:RunW Γ f c H r)(d:RunW Γ f c H b):r=b:=by let⟨n,e⟩:=h;let⟨m,g⟩:=d;have i:=js (Nat.le_max_left n m) _ _ _ _ e;have j:=js (Nat.le_max_right n m) _ _ _ _ g;grind
open Classical in
noncomputable def resW(Γ:Ctx)(f:Nat)(aX:List AV)(H:Heap):Option (List AV×Heap):=if h:∃r,RunW Γ f aX H r then some h.choose else none
theorem rA{Γ f a H r}(h:RunW Γ f a H r):resW Γ f a H=some r:=by have b:∃r,RunW Γ f a H r:=⟨_,h⟩;unfold resW;rw[dif_pos b];exact congrArg some (RunW_det b.choose_spec h)
theorem JR{Γ f a H r}(h:resW Γ f a H=some r):RunW Γ f a H r:=by
 unfold resW at h;split at h;all_goals grind
section


variable{Γ:Ctx}{env:Env}{H:Heap}{live:List Nat}{Q:Out->Prop}{r:List St}{dst:Option Nat}
noncomputable def cwA(Γ:Ctx)(H:Heap)(args:List AV)(fc:Option (Nat×List AV)):Option (List AV×Heap):=fc.bind λfc=>ifB (aw Γ fc.1) (resW Γ fc.1 (args++fc.2) H)
theorem L_callw{f args}:WpL Γ (⟨dst,none,.inr (.callw f args)⟩::r) env H live Q↔opX Γ (resX (cwA Γ H (args.map (Arg.ev Γ (look env))) (callee (Arg.ev Γ (look env) f)))) dst r env live Q:=by
 rw[L_of];unfold opX WpO;constructor;·rintro⟨n,h⟩;dsimp only at h;rw[db]at h⊢;let⟨v,e,l⟩:=h;simp only[evX,wP,Option.map_eq_some_iff,Option.bind_eq_some_iff,ifB_some]at e;obtain⟨o,⟨m,c,a,d⟩,rfl⟩:=e;refine⟨_,?_,l⟩;simp[resX,cwA,c,a,ifB,rA ⟨n,d⟩,]
 ·intro h;rw[db]at h;let⟨v,e,l⟩:=h;simp only[resX,cwA,Option.map_eq_some_iff,Option.bind_eq_some_iff,ifB_some]at e;obtain⟨o,⟨m,c,a,j⟩,rfl⟩:=e;let⟨n,d⟩:=JR j;refine⟨n,?_⟩;simp[evX,wP,c,a,d,];exact l
theorem cwA_some{args:List AV}{f:Nat}{a:List AV}:cwA Γ H args (some (f,a))=ifB (aw Γ f) (resW Γ f (args++a) H):=rfl
end
theorem ci{Γ:Ctx}{f:Nat}{fn:AFn}{args:List AV}{H:Heap}{K:List AV->Heap->Prop}(c:Γ.fn f=some (.code fn))(e:args.length=fn.np)(h:Wp Γ fn.body (nA 0 args) H (CH fn.results K)):∃rs a,resW Γ f args H=some (rs,a)/\K rs a:=by let⟨n,d,g,b,i⟩:=callK c e h;exact⟨d,g,rA ⟨n,b⟩,i⟩
section


variable{Γ:Ctx}{env:Env}{H:Heap}{live:List Nat}{Q:Out->Prop}{r:List St}{dst:Option Nat}
def kwA(H:Heap)(ks:List AV)(r:Option (List AV×Heap)):Option (List AV×Heap):=r.bind λr=>ifB (keepW H r.2 ks) (some r)
theorem kwA_some{c:List AV}{rs:List AV}{b:Heap}:kwA H c (some (rs,b))=ifB (keepW H b c) (some (rs,b)):=rfl
theorem Si{b:Heap}{a o:Nat}:keepW H b [.bx a o]=jl H b a:=by simp[keepW]
theorem L_callwk{f args p}:WpL Γ (⟨dst,none,.inr (.callwk f args p)⟩::r) env H live Q↔opX Γ (resX (kwA H (p.map (Arg.ev Γ (look env))) (cwA Γ H (args.map (Arg.ev Γ (look env))) (callee (Arg.ev Γ (look env) f))))) dst r env live Q:=by
 rw[L_of];unfold opX WpO;constructor;·rintro⟨n,h⟩;dsimp only at h;rw[db]at h⊢;let⟨v,i,l⟩:=h;simp only[evX,qW,wP,Option.map_eq_some_iff,Option.bind_eq_some_iff,ifB_some]at i;obtain⟨q,⟨t,⟨s,c,b,d⟩,o,e⟩,rfl⟩:=i;cases e;refine⟨_,?_,l⟩;simp[resX,kwA,cwA,c,b,ifB,rA ⟨n,d⟩,o,]
 ·intro h;rw[db]at h;let⟨v,i,l⟩:=h;simp only[resX,kwA,cwA,Option.map_eq_some_iff,Option.bind_eq_some_iff,ifB_some]at i;obtain⟨q,⟨t,⟨s,c,b,k⟩,o,e⟩,rfl⟩:=i;cases e;let⟨n,d⟩:=JR k;refine⟨n,?_⟩;simp[evX,qW,wP,c,Option.bind_some,b,d,Option.map_some,ifB,o];exact l
def rwA(H:Heap)(r:Option (List AV×Heap)):Option (List AV×Heap):=r.bind λr=>ifB (preB H r.2) (some r)
theorem rwA_some{rs:List AV}{b:Heap}:rwA H (some (rs,b))=ifB (preB H b) (some (rs,b)):=rfl
end
section


variable{Γ:Ctx}{env:Env}{H:Heap}{live:List Nat}{Q:Out->Prop}{r:List St}{dst:Option Nat}
def apT(r:Option (AV×Heap)):Option (AV×Heap):=r.bind λr=>tD r.2 r.1
theorem apT_some{v:AV}{b:Heap}:apT (some (v,b))=tD b v:=rfl
def apE(H:Heap)(sz:Nat)(x:AV)(o:Option (List PV)):Option (AV×Heap):=o.bind λys=>cH H sz x ys
theorem apE_some{sz:Nat}{x:AV}{ys:List PV}:apE H sz x (some ys)=cH H sz x ys:=rfl
theorem SA:rB H []=true:=rfl
theorem RQ{b o:Nat}{cs:List AV}{a:List AV}(h:H[b]?=some (.box cs)):rB H (.bx b o::a)=rB H a:=by simp[rB,h]
theorem L_appt{sz x y}:WpL Γ (⟨dst,none,.inr (.appt sz x y)⟩::r) env H live Q↔opX Γ (apT (apE H sz (Arg.ev Γ (look env) x) (elemsOf H sz (Arg.ev Γ (look env) y)))) dst r env live Q:=by rw[L_of];exact mh rfl
theorem L_appk{sz x y e}:WpL Γ (⟨dst,none,.inr (.appk sz x y e)⟩::r) env H live Q↔opX Γ (ifB (rB H (e.map (Arg.ev Γ (look env)))) (apE H sz (Arg.ev Γ (look env) x) (elemsOf H sz (Arg.ev Γ (look env) y)))) dst r env live Q:=by rw[L_of];exact mh rfl
end
attribute[go_sem]L_appt L_appk apT_some apE_some SA RQ
attribute[go_sem]L_callw rwA_some cwA_some L_callwk kwA_some Si
end Ab
namespace Ab
open Go (IntKind)
theorem ah{Γ:Ctx}{f:Nat}{fn:AFn}{args rs:List AV}{H b:Heap}(d:Γ.fn f=some (.code fn))(e:args.length=fn.np)(h:Wp Γ fn.body (nA 0 args) H (CH fn.results λa c=>a=rs/\c=b)):resW Γ f args H=some (rs,b):=by obtain⟨a,c,g,rfl,rfl⟩:=ci d e h;grind
theorem xN{Γ:Ctx}{f:Nat}{g:List AV->Heap->Option (List PV)}{args:List AV}{rs:List PV}{H:Heap}(b:Γ.fn f=some (.look g))(h:g args H=some rs):resW Γ f args H=some (rs.map .p,H):=by refine rA ⟨0,?_⟩;unfold callOf;grind
theorem Uf{H:Heap}{v:AV}{k:IntKind}{m:Int}(h:aI H 4 v=some (.int k m)):v=.p (.int k m):=by cases v with
 |p v=>exact congrArg AV.p (Option.some.inj h)|own a n=>let⟨_,_,h⟩:=Option.map_eq_some_iff.1 (show(rowOf H a n).map _=_ from h);grind|bx a c=>let⟨cs,_,h⟩:=Option.bind_eq_some_iff.1 (show(dj H a).bind _=_ from h);simp_all|el a n i c=>
  by_cases b:n<=i;·rw[Dx b]at h;let⟨cs,_,h⟩:=Option.bind_eq_some_iff.1 h;grind
  ·rw[Dw (by omega)]at h;let⟨cs,_,h⟩:=Option.bind_eq_some_iff.1 h;grind|agg cs=>let⟨_,_,h⟩:=Option.map_eq_some_iff.1 (show(mapO (aI H 3) cs).map PV.agg=_ from h);grind|clo f cs=>let⟨_,_,h⟩:=Option.map_eq_some_iff.1 (show(mapO (aI H 3) cs).map (PV.clo f)=_ from h);grind|mp a=>cases h|tup cs=>cases h|nov=>cases h|any=>cases h
theorem runI_of{Γ:Ctx}{c:Nat}{fn:AFn}(f:Γ.fn c=some (.code fn)){j:List PV}{m:Int}(h:res Γ c j=some [.int .i64 m]):∃n,∀k,n<=k->runI Γ (ev Γ k) c j=some m:=by
 let⟨n,r,b,a⟩:=QG h;refine⟨n,λk u=>?_⟩;have b:=js u _ _ _ _ b;unfold callOf at b;rw[f]at b;unfold runI;rw[f];simp only at b⊢;split at b
 ·rename_i o;rw[if_pos o];split at b;·grind
  ·rename_i x s w q C;split at b
   ·rename_i g l;cases b;have B:g=[.p (.int .i64 m)]:=by match g,a with
     |[],a=>simp[mapO]at a|[v],a=>simp[ja,]at a;let⟨x,i,e⟩:=Option.bind_eq_some_iff.1 a;cases e;rw[Uf i]|v::A::r,a=>simp only[ja]at a;let⟨x,i,e⟩:=Option.bind_eq_some_iff.1 a;let⟨y,t,D⟩:=Option.map_eq_some_iff.1 e;let⟨z,F,E⟩:=Option.bind_eq_some_iff.1 t;simp_all
    grind
   grind
  grind
 grind
theorem OC{Γ:Ctx}{f c:Nat}{fn:AFn}{q:List AV->Heap->Option (List (List PV×Int))}{g:List AV->Heap->Option (List PV)}{args:List AV}{ps:List (List PV×Int)}{rs:List PV}{H:Heap}(r:Γ.fn f=some (.lookc c q g))(d:Γ.fn c=some (.code fn))(e:q args H=some ps)(h:g args H=some rs)(b:∀p∈ps,res Γ c p.1=some [.int .i64 p.2]):resW Γ f args H=some (rs.map .p,H):=by
 have a:∃n,∀k,n<=k->DT Γ (ev Γ k) c ps=true:=by clear e;induction ps with|nil=>exact⟨0,λ_ _=>rfl⟩|cons p ps o=>let⟨n1,l⟩:=runI_of d (b p (by simp));let⟨i,m⟩:=o λp j=>b p (by grind);refine⟨max n1 i,λk s=>?_⟩;simp[DT,l k (by omega),m k (by omega),]
 let⟨n,t⟩:=a;refine rA ⟨n,?_⟩;unfold callOf;grind
theorem boxK_mp{m:Nat}{r:List AV}:boxK (some (.box (.mp m::r)))=some (.mp m::r):=rfl
theorem boxK_clo{f:Nat}{c r:List AV}:boxK (some (.box (.clo f c::r)))=some (.clo f c::r):=rfl
theorem pures_mp{m:Nat}{r:List AV}:iT (.mp m::r)=none:=rfl
theorem mset_bx{H:Heap}{b i o:Nat}{k:List UInt8}:Er H .str (.mp b) (.p (.str k)) (.bx i o)=(mapK H[b]?).bind λc=>msK H b (mput (.str k) (.bx i o) c):=DR rfl
theorem len2{H:Heap}{a:Blk}:List.length (H++[a])=H.length+1:=by simp
theorem mdel_str{H:Heap}{b:Nat}{k:List UInt8}:mdelA H .str (.mp b) (.p (.str k))=(mapK H[b]?).bind λc=>msK H b (Ou (.str k) c):=rfl
theorem mlen_mp{H:Heap}{b:Nat}:Pf H (.mp b)=(mapK H[b]?).map λc=>.p (.int .i64 (c.length:Nat)):=rfl
attribute[go_sem]boxK_mp boxK_clo pures_mp mset_bx mdel_str mlen_mp
end Ab
