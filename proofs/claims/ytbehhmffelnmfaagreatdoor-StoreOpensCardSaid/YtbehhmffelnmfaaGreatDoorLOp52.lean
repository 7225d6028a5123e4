import Derived.Test.YtbehhmffelnmfaaGreatDoorLTrie19
import Derived.Test.YtbehhmffelnmfaaGreatDoorLGlob10
set_option linter.all false
namespace Ab
def hitR(o:Option HitB):List PV:=match o with|some x=>[.agg (hitC x),.bool true]|none=>[.agg [.str [],.bool false],.bool false]
theorem QK{k1 k2:SK}(w ps:Path)(hwl:w.length<=ps.length)(hpl:ps.length<=900000000)(hw:∀p∈w,p.length<900000000)(hp:∀p∈ps,p.length<900000000)(Q:Out->Prop)(hQ1:¬DY w ps->∀e,look e 4=.bx 0 0->look e 5=.p (.bool false)->Q (.ret,e,[.box [.p (.str []),.p (.bool false)]]))(hQ2:DY w ps->∀e,look e 0=.p (.sl k1 1 (strs w))->look e 4=.bx 0 0->look e 6=.p (.sl k2 1 (strs ps))->Q (.ex 0,e,[.box [.p (.str []),.p (.bool false)]])):∀(f i:Nat),i+f=w.length->(∀j,j<i->matchB (w.getD j []) (ps.getD j [])=true)->Wp Γ im [(0,.p (.sl k1 1 (strs w))),(4,.bx 0 0),(6,.p (.sl k2 1 (strs ps))),(7,.p (.int .i64 (i:Int)))] [.box [.p (.str []),.p (.bool false)]] Q:=by intro f;induction f with
 |zero=>
  intro i hi hj;have hi:i=w.length:=by omega
  subst hi;rw[aa (L:=im) rfl];simp(disch:=first|exact Dq|fail)only[go_sem,im];exact hQ2 ⟨hwl,hj⟩ _ rfl rfl rfl|succ f ih=>
  intro i hi hj;have hlt:i<w.length:=by omega
  have hm:=Ie (w.getD i []) (ps.getD i []) (hw _ (getD_mem hlt)) (hp _ (getD_mem (by omega)));cases hk:matchB (w.getD i []) (ps.getD i [])with
  |true=>rw[hk]at hm;have ih:=ih (i+1) (by omega) (λj hji=>by
    by_cases e:j=i;·subst e;exact hk
    ·exact hj j (by omega));rw[aa (L:=im) rfl];simp(disch:=first|exact Dq|fail)only[go_sem,im,hm];exact ih|false=>rw[hk]at hm;rw[aa (L:=im) rfl];simp(disch:=first|exact Dq|fail)only[go_sem,im,hm];exact hQ1 (λh=>by rw[h.2 i hlt]at hk;cases hk) _ rfl rfl
theorem Mj(s:List UInt8)(k:Nat):(bI [46] ((prt s).take k)).length<=s.length:=by have h:=po [46] (prt s) k;rw[mH]at h;omega
theorem res_hit{kk:SK}(w:Path)(s:List UInt8)(hs:s.length<=1000)(hwl:w.length<=1000)(hw:∀p∈w,p.length<=10000):res Γ 418 [.sl kk 1 (strs w),.str s]=some (hitR (hitB w s)):=by
 have hps:=na s (by omega);have hc:=bz 46 s;have hc2:=@count_le s 46;have hp:∀p∈splitB 46 s,p.length<900000000:=λp h=>by have :=bD h;omega
 refine ae (fn:=xh) rfl rfl ?_;by_cases hlt:(splitB 46 s).length<w.length
 ·have e:hitB w s=none:=by unfold hitB;rw[if_neg];intro h;have h1:w.length<=(splitB 46 s).length:=h.1;omega
  rw[e];unfold hitR;simp(disch:=first|exact Dq|fail)only[go_sem,xh,hps]
 ·simp(disch:=first|exact Dq|fail)only[go_sem,xh,hps];refine QK w (splitB 46 s) (by omega) (by omega) (λp h=>by have :=hw p h;omega) hp _ (λhn e e4 e5=>?_) (λhy e e0 e4 e6=>?_) w.length 0 (by omega) (λj hj=>by omega)
  ·have e':hitB w s=none:=by unfold hitB;rw[if_neg hn]
   rw[e'];unfold hitR;simp(disch:=first|exact Dq|fail)only[go_sem,e4,e5]
  ·have hj1:=Mj s w.length;have hj:=λkk=>NS (kk:=kk) ((splitB 46 s).take w.length) (by rw[List.length_take];omega) (by have :(bI [46] ((splitB 46 s).take w.length)).length<=s.length:=hj1;omega);have e':hitB w s=some (bI [46] ((splitB 46 s).take w.length),decide ((splitB 46 s).length=w.length)):=by unfold hitB;exact if_pos hy
   rw[e'];unfold hitR hitC;simp(disch:=first|exact Dq|fail)only[go_sem,e0,e4,e6,hj];simp[Int.ofNat_inj]
def RowR(H:Heap)(x:Nat)(L:Path):Prop:=∃kk,H[x]?=some (.box [.p (.sl kk 1 (strs L))])/\(kk=.any\/(kk=.nil/\L=[]))
theorem RowR.ext{H H':Heap}{x:Nat}{L:Path}(h:RowR H x L)(hx:Ext0 H H'):RowR H' x L:=by obtain⟨kk,h,hk⟩:=h;exact⟨kk,(hx.2 _ (List.getElem?_eq_some_iff.1 h).1).trans h,hk⟩
theorem Lc{w:Path}{s:List UInt8}{h:HitB}(hs:s.length<=1000)(e:hitB w s=some h):h.1.length<=1000:=by obtain⟨_,rfl⟩:=hitB_some.1 e;have :=Mj s w.length;exact Nat.le_trans this hs
theorem Jt{kw ko:SK}{H:Heap}{x:Nat}{L:Path}(hR:RowR H x L)(hN:∀s∈L,s.length<=1000)(out w:Path)(ix:Int)(hwl:w.length<=1000)(hw:∀p∈w,p.length<=10000)(D0:List HitB)(Q:Out->Prop)(hQ:∀kk e H',look e 0=.bx x 0->look e 6=.p (.sl ko 1 (strs out))->look e 8=.p (.sl kk 2 (hitL (refW w L D0)))->look e 9=.p (.int .i64 ix)->Ext0 H H'->(∀h∈refW w L D0,h.1.length<=1000)->Q (.ex 2,e,H')):∀(f j:Nat)(kk:SK)(D:List HitB)(H':Heap),j+f=L.length->Ext0 H H'->refW w (L.drop j) D=refW w L D0->(∀h∈D,h.1.length<=1000)->D.length+f<=900000->L.length<=1000->Wp Γ cG [(0,.bx x 0),(6,.p (.sl ko 1 (strs out))),(8,.p (.sl kk 2 (hitL D))),(9,.p (.int .i64 ix)),(10,.p (.sl kw 1 (strs w))),(12,.p (.int .i64 (j:Int)))] H' Q:=by intro f;induction f with
 |zero=>
  intro j kk D H' hj hx hf hD hl hL;have hj:j=L.length:=by omega
  subst hj;rw[List.drop_length]at hf;have hf:D=refW w L D0:=hf;subst hf;have hQ:=λe h0 h6 h8 h9=>hQ kk e H' h0 h6 h8 h9 hx hD;obtain⟨k0,h,_⟩:=hR.ext hx;rw[aa (L:=cG) rfl];simp(disch:=first|exact Dq|fail)only[go_sem,cG,h];exact hQ _ rfl rfl rfl rfl|succ f ih=>
  intro j kk D H' hj hx hf hD hl hL;have hlt:j<L.length:=by omega
  have hdrop:L.drop j=L.getD j []::L.drop (j+1):=by rw[List.drop_eq_getElem_cons hlt,List.getD_eq_getElem?_getD,List.getElem?_eq_getElem hlt];rfl
  have hsl:=hN (L.getD j []) (getD_mem hlt);have hh:=res_hit (kk:=kw) w (L.getD j []) hsl hwl hw;rw[hdrop]at hf;have hf:refW w (L.drop (j+1)) (layO D (hitB w (L.getD j [])))=refW w L D0:=hf;obtain⟨k0,h,_⟩:=hR.ext hx;cases ho:hitB w (L.getD j [])with
  |none=>rw[ho]at hf hh;unfold hitR at hh;have ih:=ih (j+1) kk D (H'++[.box [.p (.str []),.p (.bool false)]]) (by omega) (hx.trans (Ext0.app _ _)) hf hD (by omega) hL;rw[aa (L:=cG) rfl];simp(disch:=first|exact Dq|fail)only[go_sem,cG,h,hh,dB,dR];exact ih|some y=>
   rw[ho]at hf hh;unfold hitR hitC at hh;obtain⟨k2,hlay⟩:=res_lay (kk:=kk) D y (by omega) hD (Lc hsl ho);unfold hitC at hlay;have hlen:=@DK y D;have ih:=ih (j+1) k2 (layH y D) (H'++[.box [.p (.str y.1),.p (.bool y.2)]]) (by omega) (hx.trans (Ext0.app _ _)) hf (λh hm=>by
    rcases mem_layH.1 hm with rfl|hm;·exact Lc hsl ho
    ·exact hD h hm) (by omega) hL;rw[aa (L:=cG) rfl];simp(disch:=first|exact Dq|fail)only[go_sem,cG,h,hh,dB,dR,hlay];exact ih
theorem JW{ko:SK}{H:Heap}{x:Nat}{L:Path}(hR:RowR H x L)(hN:∀s∈L,s.length<=1000)(hL:L.length<=1000)(out:Path)(hl:out.length<=600)(hp:∀p∈out,p.length<=10000)(Q:Out->Prop)(hQ1:(∀p∈out,patOk p=true)->∀kk e H',look e 8=.p (.sl kk 2 (hitL (refK (out.map prt) L [])))->Ext0 H H'->Q (.ex 0,e,H'))(hQ2:(¬∀p∈out,patOk p=true)->∀e H',look e 4=.p (.sl .nil 2 [])->look e 5=.p (.int .i64 8)->Ext0 H H'->Q (.ret,e,H')):∀(f i:Nat)(kk:SK)(D:List HitB)(H':Heap),i+f=out.length->Ext0 H H'->(∀p∈out.take i,patOk p=true)->refK ((out.drop i).map prt) L D=refK (out.map prt) L []->(∀h∈D,h.1.length<=1000)->D.length<=i*1000->Wp Γ cF [(0,.bx x 0),(6,.p (.sl ko 1 (strs out))),(8,.p (.sl kk 2 (hitL D))),(9,.p (.int .i64 (i:Int)))] H' Q:=by intro f;induction f with
 |zero=>
  intro i kk D H' hi hx hok hf hD hDl;have hi:i=out.length:=by omega
  subst hi;rw[List.drop_length]at hf;rw[List.take_length]at hok;have hf:D=refK (out.map prt) L []:=hf;subst hf;rw[aa (L:=cF) rfl];simp(disch:=first|exact Dq|fail)only[go_sem,cF];exact hQ1 hok kk _ _ rfl hx|succ f ih=>
  intro i kk D H' hi hx hok hf hD hDl;have hlt:i<out.length:=by omega
  have hdrop:out.drop i=out.getD i []::out.drop (i+1):=by rw[List.drop_eq_getElem_cons hlt,List.getD_eq_getElem?_getD,List.getElem?_eq_getElem hlt];rfl
  have ht:out.take (i+1)=out.take i++[out.getD i []]:=by rw[List.take_add_one,List.getD_eq_getElem?_getD,List.getElem?_eq_getElem hlt];rfl
  have hmem:=getD_mem hlt;have hpl:=hp _ hmem;have hres:=Ik (out.getD i []) (by omega);rw[hdrop]at hf;have hf:refK ((out.drop (i+1)).map prt) L (refW (prt (out.getD i [])) L D)=refK (out.map prt) L []:=hf;cases hk:patOk (out.getD i [])with|true=>
   rw[EV hk]at hres;have hok':∀p∈out.take (i+1),patOk p=true:=λp hp=>by
    rw[ht]at hp;rcases List.mem_append.1 hp with hp|hp;·exact hok p hp
    ·simp only[List.mem_singleton]at hp;subst hp;exact hk
   have hwl:(prt (out.getD i [])).length<=1000:=by have hk:=hk;simp only[patOk,Bool.and_eq_true,decide_eq_true_eq]at hk;exact Nat.le_trans hk.2 (by omega)
   have hlen:=@refW_len (prt (out.getD i [])) L D;rw[aa (L:=cF) rfl];simp(disch:=first|exact Dq|fail)only[go_sem,cF,hres];refine Jt hR hN out (prt (out.getD i [])) i hwl (λp h=>by have :=bD h;omega) D _ (λkk' e H'' e0 e6 e8 e9 hx' hD'=>?_) L.length 0 kk D H' (by omega) hx rfl hD (by omega) hL;have ih:=ih (i+1) kk' _ H'' (by omega) hx' hok' hf hD' (by omega);simp(disch:=first|exact Dq|fail)only[go_sem,e0,e6,e8,e9];exact ih|false=>rw[EI hk]at hres;rw[aa (L:=cF) rfl];simp(disch:=first|exact Dq|fail)only[go_sem,cF,hres];exact hQ2 (λh=>by rw[h _ hmem]at hk;cases hk) _ _ rfl rfl hx
theorem Gw{t:AV}{H:Heap}{s:List UInt8}{e:Int}(h:res Γ 15 [.str s]=some [.sl .nil 1 [],.int .i64 e])(he:e≠0):resW Γ 405 [t,.p (.str s)] H=some ([.p (.sl .nil 2 []),.p (.int .i64 e)],H):=by refine ah (fn:=gL) rfl rfl ?_;simp(disch:=first|exact Dq|fail)only[go_sem,gL,h]
theorem rop_find{ko:SK}{H:Heap}{x:Nat}{L:Path}(hR:RowR H x L)(hN:∀s∈L,s.length<=1000)(hL:L.length<=1000){s:List UInt8}{out:Path}(h:res Γ 15 [.str s]=some [.sl ko 1 (strs out),.int .i64 0])(hl:out.length<=600)(hp:∀p∈out,p.length<=10000):∃v e H',resW Γ 405 [.bx x 0,.p (.str s)] H=some ([.p v,.p (.int .i64 e)],H')/\Ext0 H H'/\(((∀p∈out,patOk p=true)/\512<(refK (out.map prt) L []).length/\v=.sl .nil 2 []/\e=13)\/((∀p∈out,patOk p=true)/\¬512<(refK (out.map prt) L []).length/\(∃kk,v=.sl kk 2 (hitL (refK (out.map prt) L [])))/\e=0)\/((¬∀p∈out,patOk p=true)/\v=.sl .nil 2 []/\e=8)):=by
  have key:∃rs H',resW Γ 405 [.bx x 0,.p (.str s)] H=some (rs,H')/\Ext0 H H'/\∃v e,rs=[.p v,.p (.int .i64 e)]/\(((∀p∈out,patOk p=true)/\512<(refK (out.map prt) L []).length/\v=.sl .nil 2 []/\e=13)\/((∀p∈out,patOk p=true)/\¬512<(refK (out.map prt) L []).length/\(∃kk,v=.sl kk 2 (hitL (refK (out.map prt) L [])))/\e=0)\/((¬∀p∈out,patOk p=true)/\v=.sl .nil 2 []/\e=8)):=by
    refine ci (fn:=gL) (K:=λrs H'=>Ext0 H H'/\∃v e,rs=[.p v,.p (.int .i64 e)]/\(((∀p∈out,patOk p=true)/\512<(refK (out.map prt) L []).length/\v=.sl .nil 2 []/\e=13)\/((∀p∈out,patOk p=true)/\¬512<(refK (out.map prt) L []).length/\(∃kk,v=.sl kk 2 (hitL (refK (out.map prt) L [])))/\e=0)\/((¬∀p∈out,patOk p=true)/\v=.sl .nil 2 []/\e=8))) rfl rfl ?_;have hnil:hitL []=[]:=rfl;have hgo:=λQ h1 h2=>JW (ko:=ko) hR hN hL out hl hp Q h1 h2 out.length 0 .nil [] H (by omega) (.refl _) (by simp) rfl (by simp) (by simp);rw[hnil]at hgo;simp(disch:=first|exact Dq|fail)only[go_sem,gL,h];refine hgo _ (λhok kk e H' e8 hx=>?_) (λhbad e H' e4 e5 hx=>?_)
    · by_cases hgt:512<(refK (out.map prt) L []).length;·simp(disch:=first|exact Dq|fail)only[go_sem,e8,eD];exact⟨hx,_,_,rfl,.inl ⟨hok,hgt,rfl,rfl⟩⟩
      ·simp(disch:=first|exact Dq|fail)only[go_sem,e8,eD];exact⟨hx,_,_,rfl,.inr (.inl ⟨hok,hgt,⟨_,rfl⟩,rfl⟩)⟩
    ·simp(disch:=first|exact Dq|fail)only[go_sem,e4,e5];exact⟨hx,_,_,rfl,.inr (.inr ⟨hbad,rfl,rfl⟩)⟩
  obtain⟨rs,H',h1,h2,v,e,rfl,h3⟩:=key;exact⟨v,e,H',h1,h2,h3⟩
theorem Ns{H:Heap}{x:Nat}{L:Path}(hR:RowR H x L)(hL:L.length<=1000)(s:List UInt8)(Q:Out->Prop)(hQ1:s∈L->∀e,look e 4=.p (.bool true)->Q (.ret,e,H))(hQ2:s∉L->∀e,Q (.ex 0,e,H)):∀(f i:Nat),i+f=L.length->s∉L.take i->Wp Γ cU [(0,.bx x 0),(1,.p (.str s)),(5,.p (.int .i64 (i:Int)))] H Q:=by intro f;induction f with
 |zero=>
  intro i hi hn;have hi:i=L.length:=by omega
  subst hi;rw[List.take_length]at hn;have hq:=hQ2 hn;clear hQ1 hQ2;obtain⟨k0,h,_⟩:=hR;rw[aa (L:=cU) rfl];simp(disch:=first|exact Dq|fail)only[go_sem,cU,h];exact hq _|succ f ih=>
  intro i hi hn;have hlt:i<L.length:=by omega
  have ht:L.take (i+1)=L.take i++[L.getD i []]:=by rw[List.take_add_one,List.getD_eq_getElem?_getD,List.getElem?_eq_getElem hlt];rfl
  obtain⟨k0,h,_⟩:=hR
  ·by_cases he:L.getD i []=s
   ·have hm:s∈L:=by rw[<-he];exact getD_mem hlt
    have hd:decide (L.getD i []=s)=true:=decide_eq_true he;have hQ1:=hQ1 hm;rw[aa (L:=cU) rfl];simp(disch:=first|exact Dq|fail)only[go_sem,cU,h,hd];exact hQ1 _ rfl
   ·have hd:decide (L.getD i []=s)=false:=decide_eq_false he;have ih:=ih (i+1) (by omega) (λhm=>by
     rw[ht]at hm;rcases List.mem_append.1 hm with hm|hm;·exact hn hm
     ·simp only[List.mem_singleton]at hm;exact he hm.symm);rw[aa (L:=cU) rfl];simp(disch:=first|exact Dq|fail)only[go_sem,cU,h,hd];exact ih
theorem Il{H:Heap}{x:Nat}{L:Path}(hR:RowR H x L)(hL:L.length<=1000)(s:List UInt8):resW Γ 406 [.bx x 0,.p (.str s)] H=some ([.p (.bool (decide (s∈L)))],H):=by
 refine ah (fn:=lS) rfl rfl ?_;simp(disch:=first|exact Dq|fail)only[go_sem,lS];refine Ns hR hL s _ (λhm e e4=>?_) (λhm e=>?_) L.length 0 (by omega) (by simp);·have hd:decide (s∈L)=true:=decide_eq_true hm;simp(disch:=first|exact Dq|fail)only[go_sem,e4,hd]
 ·have hd:decide (s∈L)=false:=decide_eq_false hm;simp(disch:=first|exact Dq|fail)only[go_sem,hd]
theorem JB{s:List UInt8}:∀{L:Path}{i:Nat},i<=L.length->(∀j,j<i->aV (prt (L.getD j [])) (prt s)=true)->(i=L.length\/aV (prt (L.getD i [])) (prt s)=false)->insS s L=L.take i++s::L.drop i
 |[],i,h,_,_=>by simp only[List.length_nil,Nat.le_zero_eq]at h;subst h;simp[insS]|t::r,0,_,_,h=>by
  rcases h with h|h;·simp at h
  ·have h:aV (prt t) (prt s)=false:=by simpa using h
   simp[insS,h]|t::r,i+1,hi,h1,h2=>by
  have h0:aV (prt t) (prt s)=true:=by simpa using h1 0 (by omega)
  have ih:=@JB s r i (by simpa using hi) (λj hj=>by simpa using h1 (j+1) (by omega)) (by
   rcases h2 with h2|h2;·exact .inl (by simpa using h2)
   ·exact .inr (by simpa using h2));simp only[insS,h0,if_true,ih,List.take_succ_cons,List.drop_succ_cons,List.cons_append]
theorem MH{H:Heap}{x:Nat}{L:Path}(hR:RowR H x L)(hL:L.length<=1000)(hN:∀s∈L,s.length<=1000)(s:List UInt8)(hs:s.length<=1000)(Q:Out->Prop)(hQ:∀i,i<=L.length->insS s L=L.take i++s::L.drop i->∀e,look e 0=.bx x 0->look e 1=.p (.str s)->look e 5=.p (.int .i64 (i:Int))->Q (.ex 0,e,H)):∀(f i:Nat),i+f=L.length->(∀j,j<i->aV (prt (L.getD j [])) (prt s)=true)->Wp Γ bU [(0,.bx x 0),(1,.p (.str s)),(5,.p (.int .i64 (i:Int)))] H Q:=by intro f;induction f with
 |zero=>
  intro i hi hj;have hi:i=L.length:=by omega
  subst hi;have hQ:=hQ L.length (Nat.le_refl _) (JB (Nat.le_refl _) hj (.inl rfl));obtain⟨k0,h,_⟩:=hR;rw[aa (L:=bU) rfl];simp(disch:=first|exact Dq|fail)only[go_sem,bU,h];exact hQ _ rfl rfl rfl|succ f ih=>
  intro i hi hj;have hlt:i<L.length:=by omega
  have hb:=BL (L.getD i []) s (by have :=hN _ (getD_mem hlt);omega) (by omega);obtain⟨k0,h,_⟩:=hR;·cases hp:aV (prt (L.getD i [])) (prt s)with
   |true=>rw[hp]at hb;have ih:=ih (i+1) (by omega) (λj hji=>by
     by_cases e:j=i;·subst e;exact hp
     ·exact hj j (by omega));rw[aa (L:=bU) rfl];simp(disch:=first|exact Dq|fail)only[go_sem,bU,h,hb];exact ih|false=>rw[hp]at hb;have hQ:=hQ i (by omega) (JB (by omega) hj (.inr hp));rw[aa (L:=bU) rfl];simp(disch:=first|exact Dq|fail)only[go_sem,bU,h,hb];exact hQ _ rfl rfl rfl
theorem iO:aw Γ 406=true:=rfl
theorem piece_to{kk:SK}{L:Path}{i:Nat}(h:i<=L.length):gN 1 (.p (.sl kk 1 (strs L))) none (some (.p (.int .i64 (i:Int))))=some (.p (.sl kk.cut 1 (strs (L.take i)))):=by rw[Qa (by omega) (by rw[strs_len];omega),FR];rfl
theorem Pb{kk:SK}{L:Path}{i:Nat}(h:i<=L.length):gN 1 (.p (.sl kk 1 (strs L))) (some (.p (.int .i64 (i:Int)))) none=some (.p (.sl kk.cut 1 (strs (L.drop i)))):=by rw[De (by omega) (by rw[strs_len];omega),FL];rfl
theorem Jz{H:Heap}{x:Nat}{L:Path}(hR:RowR H x L)(hL:L.length<=1000)(hN:∀s∈L,s.length<=1000)(s:List UInt8)(hs:s.length<=1000)(hn:nameB s=true)(hm:s∉L):∃H',resW Γ 402 [.bx x 0,.p (.str s)] H=some ([.p (.int .i64 0)],H')/\RowR H' x (insS s L)/\Since (λi=>i=x) H H':=by
 have h1:=vL s;rw[hn]at h1;have h2:=Il hR hL s;rw[decide_eq_false hm]at h2;have key:∃rs H',resW Γ 402 [.bx x 0,.p (.str s)] H=some (rs,H')/\rs=[.p (.int .i64 0)]/\RowR H' x (insS s L)/\Since (λi=>i=x) H H':=by
  refine ci (fn:=jd) (K:=λrs H'=>rs=[.p (.int .i64 0)]/\RowR H' x (insS s L)/\Since (λi=>i=x) H H') rfl rfl ?_;simp(disch:=first|exact Dq|fail)only[go_sem,jd,h1,iO,h2];refine MH hR hL hN s hs _ (λi hi hins e e0 e1 e5=>?_) L.length 0 (by omega) (λj hj=>by omega);have hl1:(strs (L.take i)).length=i:=by rw[strs_len,List.length_take];omega
  have hl2:(strs (L.drop i)).length=L.length-i:=by rw[strs_len,List.length_drop]
  have hlen':i+1+(L.length-i)=(insS s L).length:=by rw[vW];omega
  obtain⟨kk,h,hk⟩:=hR;have hlx:=(List.getElem?_eq_some_iff.1 h).1;have g5:∀b,(H++[b])[x]?=some (.box [.p (.sl kk 1 (strs L))]):=λb=>by rw[List.getElem?_append_left hlx];exact h
  have c1:=piece_to (kk:=kk) hi;have c2:=Pb (kk:=kk) hi;simp(disch:=first|exact Dq|fail)only[go_sem,e0,e1,e5,h,g5,c1,c2,dB,dR,hl1,hl2,On];rw[<-hins];exact⟨⟨.any,List.getElem?_set_self (by simp;omega),.inl rfl⟩,(Since.app _ _).set (.inl ⟨rfl,_,g5 _⟩)⟩
 obtain⟨rs,H',h1,rfl,h2⟩:=key;exact⟨H',h1,h2⟩
theorem RfS.re{X room:Nat}{H0 H H':Heap}{l:Fl}{K:Nat->Prop}(h:RfS X room H0 l 0 H)(hS:Since K H H')(k1:¬K X):RfS X room H' l 0 H':=by
 obtain⟨k,w,lv,h1,h2⟩:=h.x;refine⟨⟨k,w,lv,hS.box X _ h1 k1,?_⟩,.refl _⟩;rcases h2 with⟨_,h2⟩|⟨id,xs,_,_,_,q1,q2⟩;·exact .inl ⟨rfl,h2⟩
 ·omega
theorem RowR.keep{K:Nat->Prop}{H H':Heap}{x:Nat}{L:Path}(h:RowR H x L)(hS:Since K H H')(hk:¬K x):RowR H' x L:=by obtain⟨kk,h,h2⟩:=h;exact⟨kk,hS.box x _ h hk,h2⟩
structure QSt(Y X RR RT room:Nat)(L:Path)(fl:Fl)(ld dr md:Int)(H:Heap):Prop where
 core:H[Y]?=some (.box [.bx X 0,.bx RR 0,.bx RT 0,.p (.int .i64 ld),.p (.int .i64 dr),.p (.int .i64 md)])fs:RfS X room H fl 0 H
 row:RowR H RT L
 rule:RuleR H RR
def KQ(Y X RT:Nat)(i:Nat):Prop:=i=X\/i=Y\/i=RT
section


variable{Y X RR RT room:Nat}{L:Path}{fl:Fl}{ld dr md:Int}{H:Heap}
theorem QSt.ne(S:QSt Y X RR RT room L fl ld dr md H):Y≠X/\Y≠RR/\Y≠RT/\X≠RR/\X≠RT/\RR≠RT:=by
 obtain⟨k,w,lv,h1,_⟩:=S.fs.x;have u1:H[RR]?=some (.box [.p (.sl .any 2 [schR]),.p (.sl .any 3 [rulR])]):=S.rule;obtain⟨kk,r1,_⟩:=S.row;have c:=S.core;refine⟨λe=>?_,λe=>?_,λe=>?_,λe=>?_,λe=>?_,λe=>?_⟩;·rw[e,h1]at c;simp at c
 ·rw[e,u1]at c;simp at c
 ·rw[e,r1]at c;simp at c
 ·rw[e,u1]at h1;simp at h1
 ·rw[e,r1]at h1;simp at h1
 ·rw[e,r1]at u1;simp at u1
theorem QSt.keep{H':Heap}(S:QSt Y X RR RT room L fl ld dr md H){K:Nat->Prop}(hS:Since K H H')(k1:¬K Y)(k2:¬K X)(k3:¬K RR)(k4:¬K RT):QSt Y X RR RT room L fl ld dr md H':=⟨hS.box Y _ S.core k1,S.fs.re hS k2,S.row.keep hS k4,S.rule.keep hS k3⟩
theorem QSt.ext{H':Heap}(S:QSt Y X RR RT room L fl ld dr md H)(hS:Since (λ_=>False) H H'):QSt Y X RR RT room L fl ld dr md H':=S.keep hS (λe=>e) (λe=>e) (λe=>e) (λe=>e)
theorem RfS.re0{H0:Heap}(h:RfS X room H0 fl 0 H):RfS X room H fl 0 H:=h.re (K:=λ_=>False) (.refl H) (λe=>e)
theorem QSt.files{H':Heap}{fl':Fl}(S:QSt Y X RR RT room L fl ld dr md H)(h:RfS X room H fl' 0 H'):QSt Y X RR RT room L fl' ld dr md H':=by obtain⟨n1,n2,n3,n4,n5,n6⟩:=S.ne;exact⟨h.since.box Y _ S.core n1,h.re0,S.row.keep h.since (λe=>n5 e.symm),S.rule.keep h.since (λe=>n4 e.symm)⟩
theorem QSt.nums{ld' dr' md':Int}(S:QSt Y X RR RT room L fl ld dr md H):QSt Y X RR RT room L fl ld' dr' md' (H.set Y (.box [.bx X 0,.bx RR 0,.bx RT 0,.p (.int .i64 ld'),.p (.int .i64 dr'),.p (.int .i64 md')])):=by obtain⟨n1,n2,n3,n4,n5,n6⟩:=S.ne;have hl:=(List.getElem?_eq_some_iff.1 S.core).1;have hS:Since (λi=>i=Y) H (H.set Y (.box [.bx X 0,.bx RR 0,.bx RT 0,.p (.int .i64 ld'),.p (.int .i64 dr'),.p (.int .i64 md')])):=(Since.refl H).set (.inl ⟨rfl,_,S.core⟩);exact⟨List.getElem?_set_self hl,S.fs.re hS (λe=>n1 e.symm),S.row.keep hS (λe=>n3 e.symm),S.rule.keep hS (λe=>n2 e.symm)⟩
theorem QSt.rows{H':Heap}{L':Path}(S:QSt Y X RR RT room L fl ld dr md H)(h:RowR H' RT L')(hS:Since (λi=>i=RT) H H'):QSt Y X RR RT room L' fl ld dr md H':=by obtain⟨n1,n2,n3,n4,n5,n6⟩:=S.ne;exact⟨hS.box Y _ S.core n3,S.fs.re hS n5,h,S.rule.keep hS n6⟩
theorem wo:aw Γ 585=true:=rfl
theorem vJ:aw Γ 584=true:=rfl
theorem lK:aw Γ 583=true:=rfl
theorem vU:aw Γ 402=true:=rfl
theorem rput_bad{k:SK}{xs:List PV}(s:List UInt8)(hn:nameB s=false)(now:Int):resW Γ 577 [.bx Y 0,.p (.int .i64 now),.p (.str s),.p (.sl k 2 xs)] H=some ([.p (.int .i64 0),.p (.int .i64 14)],H):=by have h:=vL s;rw[hn]at h;refine ah (fn:=bH) rfl rfl ?_;simp(disch:=first|exact Dq|fail)only[go_sem,bH,h]
theorem rput_ok{k:SK}(S:QSt Y X RR RT room L fl ld dr md H)(hN:Nms L)(ft:Fit L fl)(hfl:fl.length<=800)(hl:L.length<=900)(hroom:room<=1000000)(s:List UInt8)(hn:nameB s=true)(hu:s∈L\/used fl+1480<=room)(hld:0<=ld/\ld<=100000)(hdr:0<=dr/\dr<=100000)(hmd:0<=md/\md<=1000){fp mp B}(hp:Prep s L fl md fp mp B){now:Int}(ps:List (Int×Int))(hps:ps.length<=100):∃H',resW Γ 577 [.bx Y 0,.p (.int .i64 now),.p (.str s),.p (.sl k 2 (ptsP ps))] H=some ([.p (.int .i64 (if 1<=now/\now<=4294967295 then((updS (kS s) now ps B).1:Nat)else 0)),.p (.int .i64 (errP now (updS (kS s) now ps B).1 ps.length))],H')/\QSt Y X RR RT room (addS s L) (if 1<=now/\now<=4294967295 then fput (gr s) (updS (kS s) now ps B).2 fp else fp) (if 1<=now/\now<=4294967295 then ld+((updS (kS s) now ps B).1:Nat)else ld) (if 1<=now/\now<=4294967295 then dr+((ps.length:Int)-((updS (kS s) now ps B).1:Nat))else dr) mp H'/\Since (KQ Y X RT) H H':=by
 have hsl:=bA hn;have hfn:=@gS s;have e1:=oZ s (by omega);have e0:=vL s;rw[hn]at e0;have e2:=Il S.row (by omega) s;have lp:=@sZ ps;have pre:∃H1,(s∈L/\H1=H\/s∉L/\∃G1 G2 G3 k0,resW Γ 585 [.bx RR 0,.p (.str s)] H=some ([hdrT (kS s) k0,.p (.bool true)],G1)/\resW Γ 584 [.bx X 0,.p (.str (gr s)),hdrT (kS s) k0] (G1++[.box [.p (.int .i64 (agI (kS s))),.p (.int .i64 (xfI (kS s))),.own k0 2]])=some ([.p (.int .i64 0)],G2)/\resW Γ 402 [.bx RT 0,.p (.str s)] G2=some ([.p (.int .i64 0)],G3)/\G1[Y]?=some (.box [.bx X 0,.bx RR 0,.bx RT 0,.p (.int .i64 ld),.p (.int .i64 dr),.p (.int .i64 md)])/\(∀G,(G1++G)[Y]?=some (.box [.bx X 0,.bx RR 0,.bx RT 0,.p (.int .i64 ld),.p (.int .i64 dr),.p (.int .i64 md)]))/\G2[Y]?=some (.box [.bx X 0,.bx RR 0,.bx RT 0,.p (.int .i64 ld),.p (.int .i64 dr),.p (.int .i64 md)])/\G3[Y]?=some (.box [.bx X 0,.bx RR 0,.bx RT 0,.p (.int .i64 ld),.p (.int .i64 dr),.p (.int .i64 md)])/\H1=G3.set Y (.box [.bx X 0,.bx RR 0,.bx RT 0,.p (.int .i64 ld),.p (.int .i64 dr),.p (.int .i64 (md+1))]))/\QSt Y X RR RT room (addS s L) fp ld dr mp H1/\Since (KQ Y X RT) H H1/\IsF (kS s) B/\fget (gr s) fp=some B/\fp.length<=801:=by
  rcases hp with⟨hm,rfl,rfl,hg⟩|⟨hm,rfl,rfl,rfl⟩;·obtain⟨B',b1,b2⟩:=ft.has s hm;rw[hg]at b2;cases b2;exact⟨H,.inl ⟨hm,rfl⟩,by rw[addS,if_pos hm];exact S,Since.refl H,b1,hg,by omega⟩
  ·have hu:used fl+1480<=room:=by rcases hu with h|h;exact absurd h hm;exact h
   obtain⟨G,k0,g1,g2,g3⟩:=Gd S.rule (s:=s) (by omega) (name_any hn);obtain⟨H1,hH1⟩:∃H1,H++G=H1:=⟨_,rfl⟩;rw[hH1]at g1 g2;have x1:Since (λ_=>False) H H1:=by rw[<-hH1];exact Since.app _ _
   have x2:∀G,Since (λ_=>False) H1 (H1++G):=λG=>Since.app _ _;have S1:=S.ext x1;have hg:=ft.none hN hn hm;have k2:(H1++[.box [.p (.int .i64 (agI (kS s))),.p (.int .i64 (xfI (kS s))),.own k0 2]])[k0]?=some (rowC false):=by rw[List.getElem?_append_left (List.getElem?_eq_some_iff.1 g2).1];exact g2
   have F2:RfS X room H fl 0 (H1++[.box [.p (.int .i64 (agI (kS s))),.p (.int .i64 (xfI (kS s))),.own k0 2]]):=by have f1:=S.fs.keepE (Ext0.app H G);rw[hH1]at f1;exact f1.keepE (.app _ _)
   obtain⟨H3,a1,a2,a3⟩:=UT (κ:=kS s) F2 (by omega) (by omega) hg (by omega) k2 g3 hroom hu;have S3:=S.files a2;obtain⟨H4,b1,b2,b3⟩:=Jz S3.row (by omega) (λt ht=>by have :=bA (hN.ok t ht);omega) s (by omega) hn hm;have S4:=S3.rows b2 b3;have S5:=S4.nums (ld':=ld) (dr':=dr) (md':=md+1);have k4:Since (KQ Y X RT) H H4:=(a2.since.mono λj hj=>.inl hj).trans (b3.mono λj hj=>.inr (.inr hj));have k5:=k4.set (b:=.box [.bx X 0,.bx RR 0,.bx RT 0,.p (.int .i64 ld),.p (.int .i64 dr),.p (.int .i64 (md+1))]) (.inl ⟨.inr (.inl rfl),_,S4.core⟩);refine⟨_,.inr ⟨hm,H1,H3,H4,k0,g1,a1,b1,S1.core,λG=>(S1.ext (x2 G)).core,S3.core,S4.core,rfl⟩,by rw[addS,if_neg hm];exact S5,k5,Ij,nw,?_⟩;rw[wa hg,List.length_append];simp only[List.length_singleton];omega
 obtain⟨H1,hm,S1,k1,hB,hg,hfp⟩:=pre;have c0:=S.core;have c1:=S1.core;by_cases hnow:1<=now/\now<=4294967295
 ·simp only[if_pos hnow];obtain⟨H2,a1,a2,a3⟩:=Rz S1.fs (by omega) hB hg (by omega) hnow ps hps (k:=k);have nb:=(vV (κ:=kS s) (now:=now) (ps:=ps) (x:=(0,B)) hB).2;have nb:(updS (kS s) now ps B).1<=ps.length:=by simpa[updS]using nb
  generalize hn1:(updS (kS s) now ps B).1=n at*;have S2:=S1.files a2;have S3:=S2.nums (ld':=ld+(n:Nat)) (dr':=dr+((ps.length:Int)-(n:Nat))) (md':=mp);have c3:=S2.core;have hcl:=(List.getElem?_eq_some_iff.1 c3).1;have c4:∀b,(H2.set Y b)[Y]?=some b:=λb=>List.getElem?_set_self hcl;have zz:dr+(ps.length:Int)-n=dr+((ps.length:Int)-n):=by omega
  refine⟨_,?_,S3,(k1.trans (a2.since.mono λj hj=>.inl hj)).set (.inl ⟨.inr (.inl rfl),_,S2.core⟩)⟩;refine ah (fn:=bH) rfl rfl ?_;unfold errP;rw[if_pos hnow];rcases hm with⟨hm,rfl⟩|⟨hm,G1,G2,G3,k0,g1,a5,b1,q1,q2,q3,q4,rfl⟩
  ·rw[decide_eq_true hm]at e2;by_cases hz:n=0/\0<ps.length;·rw[if_pos hz];simp(disch:=first|exact Dq|fail)only[go_sem,bH,e0,e2,iO,c1,c3,c4,e1,lK,a1,List.set_set,lp,zz,decide_eq_true (show(n:Int)=0 by omega),decide_eq_true (show(ps.length:Int)>0 by omega)];rw[hz.1];rfl
   ·rw[if_neg hz];by_cases hz2:n=0;·simp(disch:=first|exact Dq|fail)only[go_sem,bH,e0,e2,iO,c1,c3,c4,e1,lK,a1,List.set_set,lp,zz,decide_eq_true (show(n:Int)=0 by omega),decide_eq_false (show¬(ps.length:Int)>0 by omega)];done
    ·simp(disch:=first|exact Dq|fail)only[go_sem,bH,e0,e2,iO,c1,c3,c4,e1,lK,a1,List.set_set,lp,zz,decide_eq_false (show¬(n:Int)=0 by omega)];done
  ·rw[decide_eq_false hm]at e2;unfold hdrT at g1 a5;by_cases hz:n=0/\0<ps.length;·rw[if_pos hz];simp(disch:=first|exact Dq|fail)only[go_sem,bH,e0,e2,iO,c0,wo,g1,q2,q3,q4,vJ,a5,vU,b1,dB,dR,c1,c3,c4,e1,lK,a1,List.set_set,lp,zz,decide_eq_true (show(n:Int)=0 by omega),decide_eq_true (show(ps.length:Int)>0 by omega)];rw[hz.1];rfl
   ·rw[if_neg hz];by_cases hz2:n=0;·simp(disch:=first|exact Dq|fail)only[go_sem,bH,e0,e2,iO,c0,wo,g1,q2,q3,q4,vJ,a5,vU,b1,dB,dR,c1,c3,c4,e1,lK,a1,List.set_set,lp,zz,decide_eq_true (show(n:Int)=0 by omega),decide_eq_false (show¬(ps.length:Int)>0 by omega)];done
    ·simp(disch:=first|exact Dq|fail)only[go_sem,bH,e0,e2,iO,c0,wo,g1,q2,q3,q4,vJ,a5,vU,b1,dB,dR,c1,c3,c4,e1,lK,a1,List.set_set,lp,zz,decide_eq_false (show¬(n:Int)=0 by omega)];done
 ·simp only[if_neg hnow];obtain⟨H2,a1,a2⟩:=HM S1.fs (by omega) hB hg (by omega) hnow (v:=.sl k 2 (ptsP ps));refine⟨H2,?_,S1.ext (.ext a2),k1.trans (.mono (K:=λ_=>False) (.ext a2) λ_ e=>False.elim e)⟩;refine ah (fn:=bH) rfl rfl ?_;unfold errP;rw[if_neg hnow];rcases hm with⟨hm,rfl⟩|⟨hm,G1,G2,G3,k0,g1,a5,b1,q1,q2,q3,q4,rfl⟩;·rw[decide_eq_true hm]at e2;simp(disch:=first|exact Dq|fail)only[go_sem,bH,e0,e2,iO,c1,e1,lK,a1];done
  ·rw[decide_eq_false hm]at e2;unfold hdrT at g1 a5;simp(disch:=first|exact Dq|fail)only[go_sem,bH,e0,e2,iO,c0,wo,g1,q2,q3,q4,vJ,a5,vU,b1,dB,dR,c1,e1,lK,a1];done
end
theorem rS:aw Γ 643=true:=rfl
theorem Ll:aw Γ 642=true:=rfl
section


variable{Y X RR RT room:Nat}{L:Path}{fl:Fl}{ld dr md:Int}{H:Heap}
theorem LR(S:QSt Y X RR RT room L fl ld dr md H)(hl:L.length<=900)(s:List UInt8)(_hs:s.length<=1000):resW Γ 643 [.bx Y 0,.p (.str s)] H=some ([.p (.int .i64 (errH s L))],H):=by
 have h:=vL s;have hh:=Il S.row (by omega) s;have c0:=S.core;unfold errH;refine ah (fn:=gE) rfl rfl ?_;cases hn:nameB s<;>rw[hn]at h;·simp(disch:=first|exact Dq|fail)only[go_sem,gE,h];try rfl
 ·by_cases hm:s∈L;·rw[decide_eq_true hm]at hh;simp only[hm,if_true];simp(disch:=first|exact Dq|fail)only[go_sem,gE,h,c0,iO,hh]
  ·rw[decide_eq_false hm]at hh;simp only[hm,if_true,if_false];simp(disch:=first|exact Dq|fail)only[go_sem,gE,h,c0,iO,hh]
theorem rs_getNo(S:QSt Y X RR RT room L fl ld dr md H)(hl:L.length<=900)(ft:Fit L fl)(hfl:fl.length<=900)(s:List UInt8)(hs:s.length<=1000){now fr un:Int}(he:errG s L now fr un≠0):∃H',resW Γ 638 [.bx Y 0,.p (.int .i64 now),.p (.str s),.p (.int .i64 fr),.p (.int .i64 un)] H=some ([.p zSer,.p (.int .i64 (errG s L now fr un))],H')/\Since (λ_=>False) H H':=by
 have x1:Ext0 H (H++[.box [.p (.str []),.p (.int .i64 0),.p (.int .i64 0),.p (.sl .nil 2 []),.p (.int .i64 0)]]):=.app _ _;have S1:=S.ext (.ext x1);have h1:=LR S1 hl s hs;have key:=ci (Γ:=Γ) (f:=638) (fn:=fx) (args:=[.bx Y 0,.p (.int .i64 now),.p (.str s),.p (.int .i64 fr),.p (.int .i64 un)]) (H:=H) (K:=λrs H'=>rs=[.p zSer,.p (.int .i64 (errG s L now fr un))]/\Since (λ_=>False) H H') rfl rfl ?_;·obtain⟨rs,H',b1,rfl,b2⟩:=key;exact⟨H',b1,b2⟩
 unfold errG at he⊢;by_cases c:errH s L=0;·rw[if_pos c]at he⊢;rw[c]at h1;obtain⟨hn,hm⟩:=qJ c;have hsl:=bA hn;have hfl:=@gS s;have e1:=oZ s (by omega);obtain⟨B,hB,hg⟩:=ft.has s hm;obtain⟨H2,a1,a2⟩:=MB S1.fs (by omega) hB hg (by omega) he;have a2:=Since.ext (K:=λ_=>False) a2;have c0:=S1.core;have b0:=a2.box H.length _ (by rw[af];rfl) (λe=>e);have hl:=(List.getElem?_eq_some_iff.1 b0).1;have b1:∀G:Heap,(H2++G)[H.length]?=some (.box [.p (.str []),.p (.int .i64 0),.p (.int .i64 0),.p (.sl .nil 2 []),.p (.int .i64 0)]):=λG=>(Ext0.app H2 G).get b0;have b2:∀(G:Heap)b,((H2++G).set H.length b)[H.length]?=some b:=λG b=>List.getElem?_set_self (by simp;omega);have d:decide (rgE now fr un≠0)=true:=decide_eq_true he;unfold zSer at a1;simp(disch:=first|exact Dq|fail)only[go_sem,fx,rS,h1,c0,e1,Ll,a1,af,aB,Nat.zero_add,b1,b2,d];exact⟨rfl,(((Since.ext x1).trans a2).trans (.app _ _)).set (.inr (Nat.le_refl _))⟩
 ·rw[if_neg c]at he⊢;have d:decide (errH s L≠0)=true:=decide_eq_true c;simp(disch:=first|exact Dq|fail)only[go_sem,fx,rS,h1,d,af,aB,Nat.zero_add];exact⟨rfl,.ext x1⟩
theorem rs_get(S:QSt Y X RR RT room L fl ld dr md H)(hl:L.length<=900){s:List UInt8}(hfl:fl.length<=900)(hs:s.length<=1000){now fr un:Int}(he:errG s L now fr un=0){B:List UInt8}(hB:IsF (kS s) B)(hg:fget (gr s) fl=some B):∃H' R,resW Γ 638 [.bx Y 0,.p (.int .i64 now),.p (.str s),.p (.int .i64 fr),.p (.int .i64 un)] H=some ([.agg [.p (.str s),.p (.int .i64 (stG now fr)),.p (.int .i64 (stp (iF now fr))),.own R (nF now fr un),.p (.int .i64 0)],.p (.int .i64 0)],H')/\Since (λ_=>False) H H'/\H'[R]?=some (.row false 2 (vpv (vlF B now fr un)))/\H.length<=R:=by
 have x1:Ext0 H (H++[.box [.p (.str []),.p (.int .i64 0),.p (.int .i64 0),.p (.sl .nil 2 []),.p (.int .i64 0)]]):=.app _ _;have S1:=S.ext (.ext x1);have h1:=LR S1 hl s hs;have c:errH s L=0:=by
  unfold errG at he;split at he;·assumption
  ·exact he
 unfold errG at he;rw[if_pos c]at he;rw[c]at h1;obtain⟨hn,hm⟩:=qJ c;obtain⟨r1,r2⟩:=GY he;have hsl:=bA hn;have hfl:=@gS s;have e1:=oZ s (by omega);obtain⟨H2,R,a1,a2,a3,a4⟩:=r7_fetch S1.fs (by omega) hB hg (by omega) r1 r2;have c0:=S1.core;have b0:=a2.box H.length _ (by rw[af];rfl) (λe=>e);have hl:=(List.getElem?_eq_some_iff.1 b0).1;have b1:∀G:Heap,(H2++G)[H.length]?=some (.box [.p (.str []),.p (.int .i64 0),.p (.int .i64 0),.p (.sl .nil 2 []),.p (.int .i64 0)]):=λG=>(Ext0.app H2 G).get b0;have b2:∀(G:Heap)b,((H2++G).set H.length b)[H.length]?=some b:=λG b=>List.getElem?_set_self (by simp;omega);have l1:(H++[Blk.box [.p (.str []),.p (.int .i64 0),.p (.int .i64 0),.p (.sl .nil 2 []),.p (.int .i64 0)]]).length=H.length+1:=by simp
 rw[l1]at a4;have key:=ci (Γ:=Γ) (f:=638) (fn:=fx) (args:=[.bx Y 0,.p (.int .i64 now),.p (.str s),.p (.int .i64 fr),.p (.int .i64 un)]) (H:=H) (K:=λrs H'=>rs=[.agg [.p (.str s),.p (.int .i64 (stG now fr)),.p (.int .i64 (stp (iF now fr))),.own R (nF now fr un),.p (.int .i64 0)],.p (.int .i64 0)]/\Since (λ_=>False) H H'/\H'[R]?=some (.row false 2 (vpv (vlF B now fr un)))) rfl rfl ?_;·obtain⟨rs,H',b1,rfl,b2,b3⟩:=key;exact⟨H',R,b1,b2,b3,by omega⟩
 simp(disch:=first|exact Dq|fail)only[go_sem,fx,rS,h1,c0,e1,Ll,a1,af,aB,Nat.zero_add,b1,b2];refine⟨(((Since.ext x1).trans a2).trans (.app _ _)).set (.inr (Nat.le_refl _)),?_⟩;rw[List.getElem?_set_ne (by omega)];exact(Ext0.app H2 _).get a3
theorem Us(S:QSt Y X RR RT room L fl ld dr md H)(hl:L.length<=900)(s:List UInt8)(hs:s.length<=1000)(he:errH s L≠0):∃H',resW Γ 639 [.bx Y 0,.p (.str s)] H=some ([.p (.agg [.int .i64 0,.int .i64 0,.sl .nil 2 []]),.p (.int .i64 (errH s L))],H')/\Since (λ_=>False) H H':=by have x1:Ext0 H (H++[.box [.p (.int .i64 0),.p (.int .i64 0),.p (.sl .nil 2 [])]]):=.app _ _;have h1:=LR (S.ext (.ext x1)) hl s hs;have d:decide (errH s L≠0)=true:=decide_eq_true he;refine⟨_,ah (fn:=fW) rfl rfl ?_,.ext x1⟩;simp(disch:=first|exact Dq|fail)only[go_sem,fW,rS,h1,d,af,aB,Nat.zero_add]
theorem rs_info(S:QSt Y X RR RT room L fl ld dr md H)(hl:L.length<=900)(ft:Fit L fl)(hfl:fl.length<=900)(s:List UInt8)(hs:s.length<=1000)(he:errH s L=0):∃H',resW Γ 639 [.bx Y 0,.p (.str s)] H=some ([.p (hdrP (kS s) .any),.p (.int .i64 0)],H')/\Since (λ_=>False) H H':=by have x1:Ext0 H (H++[.box [.p (.int .i64 0),.p (.int .i64 0),.p (.sl .nil 2 [])]]):=.app _ _;have S1:=S.ext (.ext x1);have h1:=LR S1 hl s hs;rw[he]at h1;obtain⟨hn,hm⟩:=qJ he;have hsl:=bA hn;have hfl:=@gS s;have e1:=oZ s (by omega);obtain⟨B,hB,hg⟩:=ft.has s hm;obtain⟨H2,a1,a2⟩:=wN S1.fs (by omega) hB hg (by omega);have a2:=Since.ext (K:=λ_=>False) a2;have c0:=S1.core;have b0:=a2.box H.length _ (by rw[af];rfl) (λe=>e);have hl:=(List.getElem?_eq_some_iff.1 b0).1;have b2:∀b,(H2.set H.length b)[H.length]?=some b:=λb=>List.getElem?_set_self hl;refine⟨_,ah (fn:=fW) rfl rfl ?_,((Since.ext x1).trans a2).set (i:=H.length) (b:=.box (hdrA (kS s) .any)) (.inr (Nat.le_refl _))⟩;unfold hdrP at a1⊢;simp(disch:=first|exact Dq|fail)only[go_sem,fW,rS,h1,c0,e1,gh,a1,Nat.zero_add,b0,b2];rfl
end
def t39:List UInt8:=[115,99,104,101,109,97,32,46,32,49,115,58,49,109,105,110,44,49,48,115,58,49,48,109,105,110,10,114,117,108,101,32,98,32,109,97,120,32,48]
theorem Pg:resM Γ 0 486 [.p (.str t39)] []=some ([.bx 0 0,.p (.int .i64 0)],[.box [.p (.sl .any 4 [schP]),.p (.sl .any 5 [rulP])]]):=pS 600 (by kernel_rfl)
theorem JF:resM Γ 0 611 [.p (.str t39)] []=some ([.bx 0 0,.p (.int .i64 0)],[.box [.p (.sl .any 2 [schR]),.p (.sl .any 3 [rulR])]]):=pS 600 (by kernel_rfl)
theorem Dd(a:List UInt8)(ha:a.length<=1000):res Γ 541 [.str (a++[46,119,115,112]),.str [46,119,115,112]]=some [.bool true]:=by
 have hl:(a++[46,119,115,112]).length=a.length+4:=by simp
 have z:decide (((a.length+4:Nat):Int)>=4)=true:=decide_eq_true (by omega);have hs:((a.length+4:Nat):Int)-4=(a.length:Nat):=by omega
 refine ae (fn:=bV) rfl rfl ?_;simp(disch:=first|exact Dq|fail)only[go_sem,bV,hl];rw[show(((a.length+4:Nat):Int)-((4:Nat):Int)).toNat=a.length by omega];simp
theorem Ck(a:List UInt8)(ha:a.length<=1000):res Γ 497 [.str (a++[46,119,115,112]),.str [46,119,115,112]]=some [.str a,.bool true]:=by
 have h1:=Dd a ha;have hl:(a++[46,119,115,112]).length=a.length+4:=by simp
 have hs:((a.length+4:Nat):Int)-4=(a.length:Nat):=by omega
 have h2:res Γ 519 [.str (a++[46,119,115,112]),.str [46,119,115,112]]=some [.str a,.bool true]:=by refine ae (fn:=bN) rfl rfl ?_;simp(disch:=first|exact Dq|fail)only[go_sem,bN,h1,hl];rw[show(((a.length+4:Nat):Int)-((4:Nat):Int)).toNat=a.length by omega];simp
 refine ae (fn:=strings_CutSuffix) rfl rfl ?_;simp(disch:=first|exact Dq|fail)only[go_sem,strings_CutSuffix,h2];done
theorem PI{s:List UInt8}(hn:nameB s=true):res Γ 484 [.str (gr s)]=some [.str s,.bool true]:=by
 have hsl:=bA hn;have h1:=Ck (fK 46 47 s) (by rw[iZ];omega);have h2:res Γ 487 [.str (fK 46 47 s),.str [47],.str [46]]=some [.str s]:=by have :res Γ 487 [.str (fK 46 47 s),.str [47],.str [46]]=some [.str (fK 47 46 (fK 46 47 s))]:=nM (lr (g:=IJ) rfl (by simp[IJ];have :=@iZ 46 47 s;omega));rwa[pg (Ci hn)]at this
 have h3:=kK s (by omega);rw[hn]at h3;have h4:=pm s (by omega);have h5:∀x:List UInt8,decide (x≠x)=false:=λx=>by simp
 unfold gr at h4⊢;refine ae (fn:=Df) rfl rfl ?_;simp(disch:=first|exact Dq|fail)only[go_sem,Df,h1,h2,h3,h4,h5];done
theorem QU:∀{A B:Path},(A.Pairwise λa b=>prt a<prt b)->(B.Pairwise λa b=>prt a<prt b)->(∀x,x∈A↔x∈B)->A=B
 |[],[],_,_,_=>rfl|[],b::B,_,_,h=>absurd ((h b).2 (by simp)) (by simp)|a::A,[],_,_,h=>absurd ((h a).1 (by simp)) (by simp)|a::A,b::B,hA,hB,h=>by
  rw[List.pairwise_cons]at hA hB;have e:a=b:=by
   rcases List.mem_cons.1 ((h a).1 (by simp))with e|h1;·exact e
   ·rcases List.mem_cons.1 ((h b).2 (by simp))with e|h2;·exact e.symm
    ·exact absurd (hB.1 a h1) (List.lt_asymm (hA.1 b h2))
  subst e;rw[QU hA.2 hB.2 λx=>⟨λhx=>?_,λhx=>?_⟩]
  ·rcases List.mem_cons.1 ((h x).1 (by simp[hx]))with e|h1;·subst e;exact absurd (hA.1 x hx) (List.lt_irrefl _)
   ·exact h1
  ·rcases List.mem_cons.1 ((h x).2 (by simp[hx]))with e|h1;·subst e;exact absurd (hB.1 x hx) (List.lt_irrefl _)
   ·exact h1
theorem map_of{α β:Type}{f:α->β}{P:α->Prop}:∀{l:List β},(∀x∈l,∃s,P s/\x=f s)->∃ks:List α,l=ks.map f/\∀s∈ks,P s
 |[],_=>⟨[],rfl,by simp⟩|x::r,h=>by obtain⟨s,h1,h2⟩:=h x (by simp);obtain⟨ks,h3,h4⟩:=map_of (l:=r) λy hy=>h y (by simp[hy]);exact⟨s::ks,by rw[h2,h3];rfl,λt ht=>by rcases List.mem_cons.1 ht with rfl|ht;exact h1;exact h4 t ht⟩
theorem BJ{x:List UInt8}:∀{ks L:Path},x∈ks.foldl (λL s=>addS s L) L↔x∈ks\/x∈L|[],L=>by simp|s::r,L=>by rw[List.foldl_cons,BJ,mem_addS,List.mem_cons];grind
theorem Bw:∀{ks L:Path},Nms L->(∀s∈ks,nameB s=true)->L.length+ks.length<=1000->Nms (ks.foldl (λL s=>addS s L) L)
 |[],_,h,_,_=>h|s::r,L,h,hk,hl=>by simp only[List.length_cons]at hl;have :=@sU s L;exact Bw (L:=addS s L) (sL h (hk s (by simp)) (by omega)) (λt ht=>hk t (by simp[ht])) (by split at this<;>omega)
theorem Qx{L:Path}{fl:Fl}(ft:Fit L fl)(hN:Nms L)(hl:fl.length<=900):∃ks:Path,nR (fl.map (·.1))=ks.map gr/\(∀s∈ks,nameB s=true)/\ks.length<=900/\ks.foldl (λL s=>addS s L) []=L:=by
 obtain⟨ks,h1,h2⟩:=map_of (f:=gr) (P:=λs=>s∈L) (l:=nR (fl.map (·.1))) λx hx=>by obtain⟨y,hy,rfl⟩:=List.mem_map.1 ((gw _).mem_iff.1 hx);obtain⟨s,a1,a2,_⟩:=ft.all y hy;exact⟨s,a1,a2⟩
 have h3:ks.length<=900:=by have :=(gw (fl.map (·.1))).length_eq;rw[h1,List.length_map,List.length_map]at this;omega
 have ok:∀s∈ks,nameB s=true:=λs hs=>hN.ok s (h2 s hs);refine⟨ks,h1,ok,h3,QU (Bw ⟨.nil,by simp,by simp⟩ ok (by simp;omega)).sorted hN.sorted λx=>?_⟩;rw[BJ];constructor
 ·rintro(h|h);·exact h2 x h
  ·simp at h
 ·intro hx;obtain⟨B,_,hg⟩:=ft.has x hx;have hm:gr x∈nR (fl.map (·.1)):=(gw _).mem_iff.2 (List.mem_map.2 ⟨_,Cq hg,rfl⟩);rw[h1]at hm;obtain⟨t,t1,t2⟩:=List.mem_map.1 hm;rw[wZ (hN.ok x hx) (ok t t1) t2.symm];exact .inl t1
section


variable{C F Pd M ru r room:Nat}{fl:Fl}
theorem open_l1{H0:Heap}{kk:SK}(ks:Path)(hk:∀s∈ks,nameB s=true)(hlen:ks.length<=900)(Q:Out->Prop)(hQ:∀e H' N,look e 8=.bx C 0->PSt C F Pd M ru r room N (ks.foldl (λL s=>addS s L) []) fl 0 0 0 H'->Ext0 H0 H'->(∀i,Foot N i->H0.length<=i)->Q (.ex 0,e,H')):∀(f i:Nat)(H:Heap)(N:Tri)(L:Path),i+f=ks.length->PSt C F Pd M ru r room N L fl 0 0 0 H->L.length<=i->(ks.drop i).foldl (λL s=>addS s L) L=ks.foldl (λL s=>addS s L) []->Ext0 H0 H->(∀i,Foot N i->H0.length<=i)->Wp Γ gD [(8,.bx C 0),(29,.p (.sl kk 1 (strs (ks.map gr)))),(30,.p (.int .i64 (ks.length:Int))),(31,.p (.int .i64 (i:Int)))] H Q:=by intro f;induction f with
 |zero=>
  intro i H N L hi S hL hf hE hF;have hi:i=ks.length:=by omega
  subst hi;rw[List.drop_length,List.foldl_nil]at hf;subst hf;rw[aa (L:=gD) rfl];simp(disch:=first|exact Dq|fail)only[go_sem,gD];exact hQ _ _ _ rfl S hE hF|succ f ih=>
  intro i H N L hi S hL hf hE hF;have hlt:i<ks.length:=by omega
  have hdrop:ks.drop i=ks.getD i []::ks.drop (i+1):=by rw[List.drop_eq_getElem_cons hlt,List.getD_eq_getElem?_getD,List.getElem?_eq_getElem hlt];rfl
  have hn:=hk (ks.getD i []) (getD_mem hlt);have hsl:=bA hn;rw[hdrop,List.foldl_cons]at hf;obtain⟨N',H',b1,b2,b3⟩:=zY S.trie S.nms (ks.getD i []) (by omega) hn;have S':=S.tri b2 b3 (sL S.nms hn (by omega));have al:=@sU (ks.getD i []) L;have hH:=hE.1;have ih:=ih (i+1) H' N' _ (by omega) S' (by split at al<;>omega) hf ⟨Nat.le_trans hE.1 b3.1,λj hj=>(b3.2.1 j (by omega) λh=>by have :=hF j h;omega).trans (hE.2 j hj)⟩ (λj hj=>by rcases b3.2.2 j hj with h|h;exact hF j h;omega);have e1:=PI hn;have g:(ks.map gr).getD i []=gr (ks.getD i []):=by simp[List.getD_eq_getElem?_getD,List.getElem?_eq_getElem hlt]
  have c0:=S.core;rw[aa (L:=gD) rfl];simp(disch:=first|exact Dq|fail)only[go_sem,gD,g,e1,c0,DW,b1];exact ih
end
theorem still485:aw Γ 485=true:=rfl
section


variable{F Pd M room:Nat}{fl:Fl}{L:Path}{H:Heap}
theorem Rc(h:FsS F Pd M room (λ_=>False) H fl 0 H)(ft:Fit L fl)(hN:Nms L)(hl:fl.length<=900):∃Sb C ru r N H',resW Γ 471 [.bx F 0,.p (.str t39)] H=some ([.bx Sb 0,.p (.int .i64 0)],H')/\H'[Sb]?=some (.box [.bx C 0])/\PSt C F Pd M ru r room N L fl 0 0 0 H'/\Ext0 H H'/\(∀i,Foot N i->H.length<=i)/\H.length<=ru/\ru<C/\C<Sb/\Sb<H'.length:=by
 obtain⟨ks,k1,k2,k3,k4⟩:=Qx ft hN hl;obtain⟨kk,hkk⟩:=RA (ks.map gr);have hp:=Pg;obtain⟨H1,hH1⟩:∃H1,H++[Blk.box [.p (.sl .any 4 [schP]),.p (.sl .any 5 [rulP])]]=H1:=⟨_,rfl⟩;have x1:Ext0 H H1:=by rw[<-hH1];exact .app _ _
 have l1:H1.length=H.length+1:=by rw[<-hH1];simp
 obtain⟨H2,a1,a2⟩:=op_new (kk:=.nil) (H:=H1) [] (by simp) (by simp);have a1:resW Γ 395 [.p (.sl .nil 1 [])] H1=some ([.bx (H1.length+1) 0],H2):=a1;obtain⟨N,t1,t2⟩:=a2.at_;have x2:Ext0 H1 H2:=⟨a2.len,a2.old⟩;obtain⟨H3,hH3⟩:∃H3,H2++[Blk.box [.bx (H1.length+1) 0,.bx F 0,.bx H.length 0,.p (.int .i64 0),.p (.int .i64 0),.p (.int .i64 0)]]=H3:=⟨_,rfl⟩;have x3:Ext0 H2 H3:=by rw[<-hH3];exact .app _ _
 have X3:Since (λ_=>False) H H3:=.ext ((x1.trans x2).trans x3);have F3:FsS F Pd M room (λ_=>False) H3 fl 0 H3:=h.re X3 (λe=>e) (λe=>e) (λe=>e);have hfl:∀x∈fl,x.1.length<=1000:=λx hx=>by obtain⟨s,b1,b2,_⟩:=ft.all x hx;have :=bA (hN.ok s b1);rw[b2,gS];omega
 have e1:=fs_list F3 hfl (by omega);rw[k1,hkk]at e1;have x4:Ext0 H3 (H3++[.box [.mp M]]):=.app _ _;have ml:=h.lt;have l2:=a2.len;have l3:H3.length=H2.length+1:=by rw[<-hH3];simp
 have S4:PSt H2.length F Pd M H.length (H1.length+1) room N [] fl 0 0 0 (H3++[.box [.mp M]]):={
  core:=x4.get (by rw[<-hH3,af];rfl)
  fs:=F3.re (K:=λ_=>False) (.ext x4) (λe=>e) (λe=>e) (λe=>e)
  trie:=(t1.ext x3).ext x4
  nms:=⟨.nil,by simp,by simp⟩
  rules:=x4.get (x3.get (x2.get (by rw[<-hH1,af];rfl)))
  sep:=λhf=>by have :=t2 _ hf;omega};have key:=ci (Γ:=Γ) (f:=471) (fn:=pE) (args:=[.bx F 0,.p (.str t39)]) (H:=H) (K:=λrs H'=>∃Sb C ru r N,rs=[.bx Sb 0,.p (.int .i64 0)]/\H'[Sb]?=some (.box [.bx C 0])/\PSt C F Pd M ru r room N L fl 0 0 0 H'/\Ext0 H H'/\(∀i,Foot N i->H.length<=i)/\H.length<=ru/\ru<C/\C<Sb/\Sb<H'.length) rfl rfl ?_;·obtain⟨rs,H',b1,Sb,C,ru,r,N,rfl,b2⟩:=key;exact⟨Sb,C,ru,r,N,H',b1,b2⟩
 have kl:(strs (ks.map gr)).length=ks.length:=by rw[strs_len,List.length_map]
 simp(disch:=first|exact Dq|fail)only[go_sem,pE,hp,hH1,still395,a1,Nat.add_zero,hH3,still485,e1,kl];refine open_l1 ks k2 k3 _ (λe H' N' e8 S' hE hF=>?_) ks.length 0 _ N [] (by omega) S4 (by simp) rfl (H0:=H1) ((x2.trans x3).trans x4) t2;have e4:=hE.1;simp(disch:=first|exact Dq|fail)only[go_sem,e8];have x5:Ext0 H' (H'++[.box [.bx H2.length 0]]):=.app _ _;refine⟨H'.length,H2.length,H.length,H1.length+1,N',rfl,by rw[af];rfl,?_,(x1.trans hE).trans x5,λi hi=>?_,?_,?_,?_,?_⟩;·rw[k4]at S';exact S'.ext (.ext x5)
 ·have :=hF i hi;omega
 ·omega
 ·omega
 ·exact(List.getElem?_eq_some_iff.1 S'.core).1
 ·simp
end
theorem CK:aw Γ 471=true:=rfl
theorem still483:aw Γ 483=true:=rfl
theorem still581:aw Γ 581=true:=rfl
theorem still586:aw Γ 586=true:=rfl
theorem still587:aw Γ 587=true:=rfl
theorem still598:aw Γ 598=true:=rfl
theorem Lq{f:Nat}{args:List AV}{H:Heap}{r:List AV×Heap}(n:Nat)(h:callOf Γ (ev Γ n) f args H=some r):resW Γ f args H=some r:=rA ⟨n,h⟩
def rmB:Nat:=131072
def hP4:Heap:=[.box [.nov,.nov],.box [.p (.sl .nil 4 []),.mp 0],.box [.nov,.nov],.box [.bx 1 0,.p (.int .i64 131072),.mp 2]]
theorem resW_new:resW Γ 483 [.p (.int .i64 131072)] []=some ([.bx 3 0,.p (.int .i64 0)],hP4):=Lq 60 (by kernel_rfl)
def xB:Blk:=.box [.p (.int .i64 131072),.p (.sl .nil 2 []),.p (.sl .nil 2 []),.p (.sl .nil 4 [])]
theorem TF:resW Γ 587 [.p (.int .i64 131072)] hP4=some ([.bx 4 0,.p (.int .i64 0)],hP4++[xB]):=Lq 60 (by kernel_rfl)
theorem NI{H:Heap}{X:Nat}(h:H[X]?=some xB):∃H',resW Γ 598 [.bx X 0,.p (.str t39)] H=some ([.bx (H.length+2) 0,.p (.int .i64 0)],H')/\H'=H++[Blk.box [.p (.sl .any 2 [schR]),.p (.sl .any 3 [rulR])],.box [.p (.sl .nil 1 [])],.box [.bx X 0,.bx H.length 0,.bx (H.length+1) 0,.p (.int .i64 0),.p (.int .i64 0),.p (.int .i64 0)]]:=by
 have hp:=JF;have hx:∀G:Heap,(H++G)[X]?=some xB:=λG=>by rw[List.getElem?_append_left (List.getElem?_eq_some_iff.1 h).1];exact h
 unfold xB at hx;have z:decide (((0:Nat):Int)<((0:Nat):Int))=false:=rfl;have e3:∀G:Heap,resW Γ 581 [.bx X 0] (H++G)=some ([.p (.sl .nil 1 [])],H++G):=λG=>by refine ah (fn:=pJ) rfl rfl ?_;simp(disch:=first|exact Dq|fail)only[go_sem,pJ];rw[aa (L:=mO) rfl];simp(disch:=first|exact Dq|fail)only[go_sem,mO,hx]
 refine⟨_,ah (fn:=vZ) rfl rfl ?_,rfl⟩;simp(disch:=first|exact Dq|fail)only[go_sem,vZ,hp,Nat.add_zero,List.length_append,Nat.zero_add,still581,e3];rw[aa (L:=qY) rfl];simp(disch:=first|exact Dq|fail)only[go_sem,qY];done
structure Ids where
 C:Nat
 ru:Nat
 r:Nat
 Sb:Nat
 RR:Nat
structure Pr(I:Ids)(N:Tri)(L:Path)(fl:Fl)(ld dr md:Int)(H:Heap):Prop where
 ps:PSt I.C 3 1 2 I.ru I.r rmB N L fl ld dr md H
 qs:QSt (I.RR+2) 4 I.RR (I.RR+1) rmB L fl ld dr md H
 w:H[5]?=some (.box [.bx 3 0,.bx 4 0,.bx I.Sb 0,.bx (I.RR+2) 0,.p (.str t39)])sb:H[I.Sb]?=some (.box [.bx I.C 0])fit:Fit L fl
 len:fl.length=L.length
 ord:5<I.ru/\I.ru<I.C/\I.C<I.Sb/\I.Sb<I.RR
theorem Pr.ext{I:Ids}{N:Tri}{L:Path}{fl:Fl}{ld dr md:Int}{H H':Heap}(P:Pr I N L fl ld dr md H)(hS:Since (λ_=>False) H H'):Pr I N L fl ld dr md H':=⟨P.ps.ext hS,P.qs.ext hS,hS.box 5 _ P.w (λe=>e),hS.box _ _ P.sb (λe=>e),P.fit,P.len,P.ord⟩
def pB(a b:AV):Blk:=.box [.bx 3 0,.bx 4 0,a,b,.p (.str t39)]
theorem Pc:∃I N H',resW Γ 578 [.p (.int .i64 131072),.p (.str t39)] []=some ([.bx 5 0,.p (.bool true)],H')/\Pr I N [] [] 0 0 0 H':=by
 have a1:=resW_new;have a2:=TF;obtain⟨H0,hH0⟩:∃H0,hP4++[xB,pB (.p .nilp) (.p .nilp)]=H0:=⟨_,rfl⟩;have l0:H0.length=6:=by rw[<-hH0];rfl
 have F0:FsS 3 1 2 rmB (λ_=>False) H0 [] 0 H0:=by rw[<-hH0];exact⟨rfl,⟨[],rfl,trivial,by intro x hx;simp at hx⟩,λ_ e=>e.elim,⟨_,_,rfl,.inl ⟨rfl,rfl⟩⟩,.refl _⟩
 have ft:Fit [] []:=⟨by simp,by simp⟩;obtain⟨Sb,C,ru,r,N,H1,b1,b2,b3,b4,b5,b6,b7,b8,b9⟩:=Rc F0 ft ⟨.nil,by simp,by simp⟩ (by simp);have x4:H1[4]?=some xB:=b4.get (by rw[<-hH0];rfl);have x5:H1[5]?=some (pB (.p .nilp) (.p .nilp)):=b4.get (by rw[<-hH0];rfl);obtain⟨H2,c1,hH2⟩:=NI x4;have e2:Ext0 H1 H2:=by rw[hH2];exact .app _ _
 have y5:=e2.get x5;have g0:H0[5]?=some (pB (.p .nilp) (.p .nilp)):=by rw[<-hH0];rfl
 have l2:H2.length=H1.length+3:=by rw[hH2];simp
 obtain⟨H3,hH3⟩:∃H3,H2.set 5 (pB (.bx Sb 0) (.bx (H1.length+2) 0))=H3:=⟨_,rfl⟩;have s5:∀b,(H2.set 5 b)[5]?=some b:=λb=>List.getElem?_set_self (by omega);have K3:Since (λi=>i=5) H2 H3:=by rw[<-hH3];exact(Since.refl H2).set (.inl ⟨rfl,_,y5⟩)
 have z5:H3[5]?=some (pB (.bx Sb 0) (.bx (H1.length+2) 0)):=by rw[<-hH3];exact s5 _
 have op:resW Γ 586 [.bx 5 0] H0=some ([.p (.bool true)],H3):=by unfold pB at*;refine ah (fn:=kz) rfl rfl ?_;simp(disch:=first|exact Dq|fail)only[go_sem,kz,g0,CK,b1,x5,still598,c1,y5,s5,List.set_set,hH3]
 have g2:∀i,i≠5->H3[i]?=H2[i]?:=λi hi=>by rw[<-hH3];exact List.getElem?_set_ne (λe=>hi e.symm)
 refine⟨⟨C,ru,r,Sb,H1.length⟩,N,H3,?_,?_⟩
 ·obtain⟨G,hG⟩:∃G,hP4++[xB]=G:=⟨_,rfl⟩;have lG:G.length=5:=by rw[<-hG];rfl
  have hG0:G++[pB (.p .nilp) (.p .nilp)]=H0:=by rw[<-hG,<-hH0];rfl
  rw[hG]at a2;unfold pB at*;refine ah (fn:=tc) rfl rfl ?_;simp(disch:=first|exact Dq|fail)only[go_sem,tc,still483,a1,still587,a2,lG,hG0,still586,op,z5];done
 ·constructor;·exact(b3.ext (.ext e2)).keep K3 (by omega) (by omega) (by omega) (by omega) (by omega) λi hi=>by have :=b5 i hi;omega
  ·refine⟨?_,⟨⟨.nil,.sl .nil 2 [],.p (.sl .nil 4 []),?_,.inl ⟨rfl,rfl⟩⟩,.refl _⟩,⟨.nil,?_,.inr ⟨rfl,rfl⟩⟩,?_⟩;·rw[g2 _ (by simp;omega),hH2,ba];rfl
   ·rw[g2 _ (by simp),e2.get x4];rfl
   ·show H3[H1.length+1]?=_;rw[g2 _ (by omega),hH2,ba];rfl
   ·show H3[H1.length]?=_;rw[g2 _ (by omega),hH2,af];rfl
  ·exact z5
  ·show H3[Sb]?=_;rw[g2 _ (by omega)];exact e2.get b2
  ·exact ft
  ·rfl
  ·show 5<ru/\ru<C/\C<Sb/\Sb<H1.length;omega
section


variable{I:Ids}{N:Tri}{L:Path}{fl:Fl}{ld dr md:Int}{H:Heap}
theorem GV(S:QSt (I.RR+2) 4 I.RR (I.RR+1) rmB L fl ld dr md H){N:Tri}{L':Path}{r:Nat}(t:TrieN N H r L'):¬Foot N (I.RR+2)/\¬Foot N 4/\¬Foot N I.RR/\¬Foot N (I.RR+1):=by obtain⟨k,w,lv,h1,_⟩:=S.fs.x;have u1:H[I.RR]?=some (.box [.p (.sl .any 2 [schR]),.p (.sl .any 3 [rulR])]):=S.rule;obtain⟨kk,r1,_⟩:=S.row;exact⟨gY t.lies S.core (λm e=>by cases e) (λe=>by cases e),gY t.lies h1 (λm e=>by cases e) (λe=>by cases e),gY t.lies u1 (λm e=>by cases e) (λe=>by cases e),gY t.lies r1 (λm e=>by cases e) (λe=>by cases e)⟩
theorem Sk(h:H[5]?=some (.box [.bx 3 0,.bx 4 0,.bx I.Sb 0,.bx (I.RR+2) 0,.p (.str t39)]))(h2:H[I.Sb]?=some (.box [.bx I.C 0])){N:Tri}{L':Path}{r:Nat}(t:TrieN N H r L'):¬Foot N 5/\¬Foot N I.Sb:=⟨gY t.lies h (λm e=>by cases e) (λe=>by cases e),gY t.lies h2 (λm e=>by cases e) (λe=>by cases e)⟩
theorem pr_mid{H2:Heap}(P:Pr I N L fl ld dr md H)(hS:Since (KP N I.C 1 2) H H2):QSt (I.RR+2) 4 I.RR (I.RR+1) rmB L fl ld dr md H2/\H2[5]?=some (.box [.bx 3 0,.bx 4 0,.bx I.Sb 0,.bx (I.RR+2) 0,.p (.str t39)])/\H2[I.Sb]?=some (.box [.bx I.C 0]):=by
 obtain⟨q1,q2,q3,q4⟩:=GV P.qs P.ps.trie;obtain⟨q5,q6⟩:=Sk P.w P.sb P.ps.trie;have o:=P.ord;have key:∀{j:Nat},¬Foot N j->j≠1->j≠2->j≠I.C->¬KP N I.C 1 2 j:=λhf h1 h2 h3 h=>by
  rcases h with h|h|h|h;·exact h1 h
  ·exact h2 h
  ·exact h3 h
  ·exact hf h
 exact⟨P.qs.keep hS (key q1 (by omega) (by omega) (by omega)) (key q2 (by omega) (by omega) (by omega)) (key q3 (by omega) (by omega) (by omega)) (key q4 (by omega) (by omega) (by omega)),hS.box 5 _ P.w (key q5 (by omega) (by omega) (by omega)),hS.box _ _ P.sb (key q6 (by omega) (by omega) (by omega))⟩
theorem pr_end{N':Tri}{L':Path}{fl':Fl}{ld' dr' md':Int}{H2 H3:Heap}(S2:PSt I.C 3 1 2 I.ru I.r rmB N' L' fl' ld' dr' md' H2)(Q2:QSt (I.RR+2) 4 I.RR (I.RR+1) rmB L fl ld dr md H2)(w2:H2[5]?=some (.box [.bx 3 0,.bx 4 0,.bx I.Sb 0,.bx (I.RR+2) 0,.p (.str t39)]))(b2:H2[I.Sb]?=some (.box [.bx I.C 0]))(Q3:QSt (I.RR+2) 4 I.RR (I.RR+1) rmB L' fl' ld' dr' md' H3)(hS:Since (KQ (I.RR+2) 4 (I.RR+1)) H2 H3)(fit:Fit L' fl')(len:fl'.length=L'.length)(o:5<I.ru/\I.ru<I.C/\I.C<I.Sb/\I.Sb<I.RR):Pr I N' L' fl' ld' dr' md' H3:=by
 obtain⟨q1,q2,q3,q4⟩:=GV Q2 S2.trie;have key:∀{j:Nat},j≠4->j≠I.RR+2->j≠I.RR+1->¬KQ (I.RR+2) 4 (I.RR+1) j:=λh1 h2 h3 h=>by
  rcases h with h|h|h;·exact h1 h
  ·exact h2 h
  ·exact h3 h
 exact⟨S2.keep hS (key (by omega) (by omega) (by omega)) (key (by omega) (by omega) (by omega)) (key (by omega) (by omega) (by omega)) (key (by omega) (by omega) (by omega)) (key (by omega) (by omega) (by omega)) (λi hi=>key (λe=>q2 (e▸hi)) (λe=>q1 (e▸hi)) (λe=>q4 (e▸hi))),Q3,hS.box 5 _ w2 (key (by omega) (by omega) (by omega)),hS.box _ _ b2 (key (by omega) (by omega) (by omega)),fit,len,o⟩
theorem uz{s b c:List UInt8}:∀{l:Fl},fget s l=some c->(fput s b l).length=l.length
 |[],h=>by cases h|(t,d)::l,h=>by
  unfold fget at h;unfold fput;split at h;·rename_i e;rw[if_pos e];rfl
  ·rename_i e;rw[if_neg e];simp[uz h]
theorem pr_put{k1 k2:SK}(P:Pr I N L fl ld dr md H)(hL:L.length<=80)(hld:0<=ld/\ld<=10000)(hdr:0<=dr/\dr<=10000)(hmd:0<=md/\md<=100)(now:Int)(s:List UInt8)(hs:s.length<=1000)(ps:List (Int×Int))(hps:ps.length<=10):∃N' L' fl' ld' dr' md' n e H2 H3,resW Γ 476 [.bx I.Sb 0,.p (.int .i64 now),.p (.str s),.p (.sl k1 2 (ptsP ps))] H=some ([.p (.int .i64 n),.p (.int .i64 e)],H2)/\resW Γ 577 [.bx (I.RR+2) 0,.p (.int .i64 now),.p (.str s),.p (.sl k2 2 (ptsP ps))] H2=some ([.p (.int .i64 n),.p (.int .i64 e)],H3)/\H2[5]?=some (.box [.bx 3 0,.bx 4 0,.bx I.Sb 0,.bx (I.RR+2) 0,.p (.str t39)])/\(∀(j:Nat)v cs,5<j->H[j]?=some (.box (.p v::cs))->H2[j]?=some (.box (.p v::cs)))/\Pr I N' L' fl' ld' dr' md' H3/\L'.length<=L.length+1/\(0<=ld'/\ld'<=ld+10)/\(0<=dr'/\dr'<=dr+10)/\(0<=md'/\md'<=md+1):=by have hfl:=P.len;cases hn:nameB s with|false=>exact⟨N,L,fl,ld,dr,md,_,_,H,H,put_bad s hs hn now,rput_bad s hn now,P.w,λ_ _ _ _ h=>h,P,by omega,by omega,by omega,by omega⟩|true=>
  have hu:=P.fit.used;obtain⟨fp,mp,B,hp,hmp⟩:∃fp mp B,Prep s L fl md fp mp B/\0<=mp/\mp<=md+1:=by
   by_cases hm:s∈L;·obtain⟨B,_,hg⟩:=P.fit.has s hm;exact⟨fl,md,B,.inl ⟨hm,rfl,rfl,hg⟩,by omega,by omega⟩
   ·exact⟨_,md+1,_,.inr ⟨hm,rfl,rfl,rfl⟩,by omega,by omega⟩
  have hu2:s∈L\/used fl+1480<=rmB:=.inr (by unfold rmB;omega);obtain⟨N',H2,a1,a2,a3,a4⟩:=put_ok P.ps P.sb P.fit (by omega) (by decide) s hn hu2 (by omega) (by omega) (by omega) hp (now:=now) ps (by omega) (k:=k1);obtain⟨Q2,w2,b2⟩:=pr_mid P a3;obtain⟨H3,c1,c2,c3⟩:=rput_ok Q2 P.ps.nms P.fit (by omega) (by omega) (by decide) s hn hu2 (by omega) (by omega) (by omega) hp (now:=now) ps (by omega) (k:=k2);obtain⟨hB,hg,_⟩:=KW P.ps P.fit (by omega) (by decide) s hn hu2 (by omega) hp 0;have U:=vV (κ:=kS s) (now:=now) (ps:=ps) (x:=(0,B)) hB;have nb:(updS (kS s) now ps B).1<=ps.length:=by simpa[updS]using U.2
  have hB2:IsF (kS s) (updS (kS s) now ps B).2:=U.1;have al:=@sU s L;have fp1:Fit (addS s L) fp/\fp.length=(addS s L).length:=by
   rcases hp with⟨h1,rfl,_⟩|⟨h1,rfl,_,rfl⟩;·rw[addS,if_pos h1];exact⟨P.fit,hfl⟩
   ·refine⟨P.fit.put P.ps.nms hn Ij,?_⟩;rw[wa (P.fit.none P.ps.nms hn h1),List.length_append,al,if_neg h1,hfl];rfl
  have fin:Fit (addS s L) (if 1<=now/\now<=4294967295 then fput (gr s) (updS (kS s) now ps B).2 fp else fp)/\(if 1<=now/\now<=4294967295 then fput (gr s) (updS (kS s) now ps B).2 fp else fp).length=(addS s L).length:=by
   split;·refine⟨?_,by rw[uz hg];exact fp1.2⟩;have :=fp1.1.put (sL P.ps.nms hn (by omega)) hn hB2;rwa[show addS s (addS s L)=addS s L by rw[addS,if_pos (mem_addS.2 (.inl rfl))]]at this
   ·exact fp1
  have kb:∀(j:Nat)v cs,5<j->H[j]?=some (.box (.p v::cs))->H2[j]?=some (.box (.p v::cs)):=λj v cs hj h=>by
   refine a3.box j _ h λhk=>?_;rcases hk with hk|hk|hk|hk;·omega
   ·omega
   ·rw[hk,P.ps.core]at h;cases h
   ·exact gY P.ps.trie.lies h (λm e=>by cases e) (λe=>by cases e) hk
  refine⟨N',_,_,_,_,_,_,_,H2,H3,a1,c1,w2,kb,pr_end a2 Q2 w2 b2 c2 c3 fin.1 fin.2 P.ord,by split at al<;>omega,?_,?_,by omega⟩;·split<;>omega
  ·split<;>omega
end
theorem Id(s:List UInt8)(hs:s.length<=4096):(∃e,e≠0/\res Γ 16 [.str s]=some [.sl .nil 1 [],.int .i64 e]/\res Γ 15 [.str s]=some [.sl .nil 1 [],.int .i64 e])\/(∃out kk,Exp s out/\out.length<=512/\(∀p∈out,p.length<=s.length)/\res Γ 16 [.str s]=some [.sl .any 1 (strs out),.int .i64 0]/\res Γ 15 [.str s]=some [.sl kk 1 (strs out),.int .i64 0]):=by cases hsc:scan 0 s with|false=>exact .inl ⟨8,by decide,uq s (by omega) (.inr hsc),zE s (by omega) (.inr hsc)⟩|true=>
  obtain⟨out,hE⟩:=Ic hsc;have h1:=AY s hs hE;obtain⟨kk,h2⟩:=GC s hs hE;unfold Ia at h1;unfold DM at h2;by_cases hgt:512<out.length;·rw[if_pos hgt]at h1 h2;exact .inl ⟨13,by decide,h1,h2⟩
  ·rw[if_neg hgt]at h1 h2;by_cases hok:out.all okE=true;·rw[if_pos hok]at h1 h2;exact .inr ⟨out,kk,hE,by omega,xY hE,h1,h2⟩
   ·rw[if_neg hok]at h1 h2;exact .inl ⟨8,by decide,h1,h2⟩
theorem hitL_eq{K:List HitB}:hitL K=K.map hitP:=by simp[hitL,aggs,hitC,hitP,Function.comp_def]
theorem rowH_eq(K:List HitB):∃kk,rowH K=.sl kk 2 (hitL K):=by cases K with|nil=>exact⟨_,rfl⟩|cons x r=>exact⟨.any,by rw[hitL_eq];rfl⟩
theorem prt_ne{p:List UInt8}:prt p≠[]:=gG p
inductive TrieV(H:Heap):AV->Path->Prop|nil:TrieV H (.p .nilp) []|att(N:Tri)(r:Nat)(L:Path)(h:TrieN N H r L)(hL:Nms L):TrieV H (.bx r 0) L
theorem TrieV.ext{H H':Heap}{t:AV}{L:Path}(h:TrieV H t L)(hx:Ext0 H H'):TrieV H' t L:=by cases h with|nil=>exact .nil|att N r L h hL=>exact .att N r L (h.ext hx) hL
theorem Li{ws:List Path}:refK ws [] []=[]:=by induction ws with|nil=>rfl|cons w ws ih=>exact ih
theorem SQ{H:Heap}{t:AV}{L:Path}(h:TrieV H t L){s:List UInt8}{out:Path}(hl:out.length<=512)(hp:∀p∈out,p.length<=10000)(h1:res Γ 16 [.str s]=some [.sl .any 1 (strs out),.int .i64 0]):∃v e H',resW Γ 394 [t,.p (.str s)] H=some ([.p v,.p (.int .i64 e)],H')/\Ext0 H H'/\(((∀p∈out,patOk p=true)/\512<(refK (out.map prt) L []).length/\v=.sl .nil 2 []/\e=13)\/((∀p∈out,patOk p=true)/\¬512<(refK (out.map prt) L []).length/\(∃kk,v=.sl kk 2 (hitL (refK (out.map prt) L [])))/\e=0)\/((¬∀p∈out,patOk p=true)/\v=.sl .nil 2 []/\e=8)):=by
  by_cases hok:∀p∈out,patOk p=true;·cases h with
    |nil=>
      obtain⟨H',a,b⟩:=Io (H:=H) h1 (by omega) (λp h=>Nat.le_trans (hp p h) (by omega)) hok;refine⟨_,_,H',a,b,.inr (.inl ⟨hok,?_,⟨.nil,?_⟩,rfl⟩)⟩;·rw[Li];simp
      ·rw[Li];rfl|att N r L hT hL=>
      have hw:∀w∈out.map prt,w≠[]:=λw hw=>by obtain⟨p,_,rfl⟩:=List.mem_map.1 hw;exact prt_ne
      obtain⟨H',a,b⟩:=op_find hT hL h1 (by omega) hp hok;have e1:=Mq hT hL hw;have e2:=EU hT hL hw;unfold Sh at a;by_cases hgt:512<(refK (out.map prt) L []).length;·rw[if_pos (by omega)]at a;exact⟨_,_,H',a,b,.inl ⟨hok,hgt,rfl,rfl⟩⟩
      ·rw[if_neg (by omega),e1]at a;obtain⟨kk,e3⟩:=rowH_eq (refK (out.map prt) L []);exact⟨_,_,H',a,b,.inr (.inl ⟨hok,hgt,⟨kk,e3⟩,rfl⟩)⟩
  ·obtain⟨H',a,b⟩:=Jd (t:=t) (H:=H) h1 (by omega) (λp h=>Nat.le_trans (hp p h) (by omega)) hok;exact⟨_,_,H',a,b,.inr (.inr ⟨hok,rfl,rfl⟩)⟩
theorem Pt{H:Heap}{t:AV}{L:Path}{x:Nat}(h:TrieV H t L)(hR:RowR H x L)(hN:∀s∈L,s.length<=1000)(hL:L.length<=1000)(s:List UInt8)(hs:s.length<=4096):∃A k1 k2 e H1 H2,resW Γ 394 [t,.p (.str s)] H=some ([.p (.sl k1 2 (hitL A)),.p (.int .i64 e)],H1)/\Ext0 H H1/\resW Γ 405 [.bx x 0,.p (.str s)] H1=some ([.p (.sl k2 2 (hitL A)),.p (.int .i64 e)],H2)/\Ext0 H1 H2/\A.length<=512:=by
 rcases Id s hs with⟨e,he,h1,h2⟩|⟨out,kk,hE,hl,hp,h1,h2⟩;·exact⟨[],.nil,.nil,e,H,H,Je h1 he,.refl _,Gw h2 he,.refl _,by simp⟩
 ·have hp:∀p∈out,p.length<=10000:=λp h=>Nat.le_trans (hp p h) (by omega);obtain⟨v1,e1,H1,a1,b1,c1⟩:=SQ h hl hp h1;obtain⟨v2,e2,H2,a2,b2,c2⟩:=rop_find (hR.ext b1) hN hL h2 (by omega) hp;rcases c1 with⟨x1,x2,rfl,rfl⟩|⟨x1,x2,⟨ka,rfl⟩,rfl⟩|⟨x1,rfl,rfl⟩
  ·rcases c2 with⟨y1,y2,rfl,rfl⟩|⟨y1,y2,⟨kb,rfl⟩,rfl⟩|⟨y1,rfl,rfl⟩;·exact⟨[],.nil,.nil,_,H1,H2,a1,b1,a2,b2,by simp⟩
   ·exact absurd x2 y2
   ·exact absurd x1 y1
  ·rcases c2 with⟨y1,y2,rfl,rfl⟩|⟨y1,y2,⟨kb,rfl⟩,rfl⟩|⟨y1,rfl,rfl⟩;·exact absurd y2 x2
   ·exact⟨_,ka,kb,_,H1,H2,a1,b1,a2,b2,by omega⟩
   ·exact absurd x1 y1
  ·rcases c2 with⟨y1,y2,rfl,rfl⟩|⟨y1,y2,⟨kb,rfl⟩,rfl⟩|⟨y1,rfl,rfl⟩;·exact absurd y1 x1
   ·exact absurd y1 x1
   ·exact⟨[],.nil,.nil,_,H1,H2,a1,b1,a2,b2,by simp⟩
theorem still476:aw Γ 476=true:=rfl
theorem still577:aw Γ 577=true:=rfl
def actP(kd now fr un:Int)(s:List UInt8)(k:SK)(ps:List (Int×Int)):PV:=.agg [.int .i64 kd,.int .i64 now,.int .i64 fr,.int .i64 un,.str s,.sl k 2 (ptsP ps)]
def ActR(I:Ids)(L:Path)(ld dr md:Int)(H':Heap):Prop:=∃N' L' fl' ld' dr' md',Pr I N' L' fl' ld' dr' md' H'/\L'.length<=L.length+1/\(0<=ld'/\ld'<=ld+10)/\(0<=dr'/\dr'<=dr+10)/\(0<=md'/\md'<=md+1)
section


variable{I:Ids}{N:Tri}{L:Path}{fl:Fl}{ld dr md:Int}{H:Heap}
theorem act_put{k:SK}(P:Pr I N L fl ld dr md H)(hL:L.length<=80)(hld:0<=ld/\ld<=10000)(hdr:0<=dr/\dr<=10000)(hmd:0<=md/\md<=100)(now fr un:Int)(s:List UInt8)(hs:s.length<=1000)(ps:List (Int×Int))(hps:ps.length<=10):∃H',resW Γ 636 [.bx 5 0,.p (actP 1 now fr un s k ps)] H=some ([.p (.bool true)],H')/\ActR I L ld dr md H':=by have x1:Ext0 H (H++[.box [.p (.int .i64 1),.p (.int .i64 now),.p (.int .i64 fr),.p (.int .i64 un),.p (.str s),.p (.sl k 2 (ptsP ps))]]):=.app _ _;have P1:=P.ext (.ext x1);obtain⟨N',L',fl',ld',dr',md',n,e,H2,H3,a1,a2,w2,kb,P3,q⟩:=pr_put (k1:=k) (k2:=k) P1 hL hld hdr hmd now s hs ps hps;have w1:=P1.w;have o:=P.ord;have hw:=P.w;have h6:5<H.length:=(List.getElem?_eq_some_iff.1 hw).1;have b2:=kb H.length _ _ h6 (by rw[af];rfl);refine⟨H3,ah (fn:=bT) rfl rfl ?_,N',L',fl',ld',dr',md',P3,q⟩;unfold actP;simp(disch:=first|exact Dq|fail)only[go_sem,bT,w1,af,Nat.zero_add,still476,a1,w2,b2,still577,a2];done
theorem act_none{k:SK}(P:Pr I N L fl ld dr md H)(hld:0<=ld)(hdr:0<=dr)(hmd:0<=md){kd:Int}(hk:kd≠1/\kd≠2/\kd≠3/\kd≠4/\kd≠5)(now fr un:Int)(s:List UInt8)(ps:List (Int×Int)):∃H',resW Γ 636 [.bx 5 0,.p (actP kd now fr un s k ps)] H=some ([.p (.bool true)],H')/\ActR I L ld dr md H':=by have d1:decide (kd=1)=false:=decide_eq_false hk.1;have d2:decide (kd=2)=false:=decide_eq_false hk.2.1;have d3:decide (kd=3)=false:=decide_eq_false hk.2.2.1;have d4:decide (kd=4)=false:=decide_eq_false hk.2.2.2.1;have d5:decide (kd=5)=false:=decide_eq_false hk.2.2.2.2;refine⟨_,ah (fn:=bT) rfl rfl ?_,N,L,fl,ld,dr,md,P.ext (.app H [.box [.p (.int .i64 kd),.p (.int .i64 now),.p (.int .i64 fr),.p (.int .i64 un),.p (.str s),.p (.sl k 2 (ptsP ps))]]),by omega,by omega,by omega,by omega⟩;unfold actP;simp(disch:=first|exact Dq|fail)only[go_sem,bT,af,Nat.zero_add,d1,d2,d3,d4,d5];done
end
theorem still475:aw Γ 475=true:=rfl
theorem still394:aw Γ 394=true:=rfl
theorem still405:aw Γ 405=true:=rfl
theorem HF{H:Heap}{k1 k2:SK}(A:List HitB)(hA:A.length<=600)(Q:Out->Prop)(hQ:∀e,Q (.ex 1,e,H)):∀(f i:Nat),i+f=A.length->Wp Γ fg [(9,.p (.sl k1 2 (hitL A))),(11,.p (.sl k2 2 (hitL A))),(13,.p (.int .i64 (i:Int)))] H Q:=by intro f;induction f with
 |zero=>
  intro i hi;have hi:i=A.length:=by omega
  subst hi;rw[aa (L:=fg) rfl];simp(disch:=first|exact Dq|fail)only[go_sem,fg,eD];exact hQ _|succ f ih=>
  intro i hi;have hlt:i<A.length:=by omega
  have hg:=Dg hlt;have hia:∀kk,iaddrA H 2 (.p (.sl kk 2 (hitL A))) (.p (.int .i64 (i:Int)))=some (.p (.ptr [.str (A.getD i jr).1,.bool (A.getD i jr).2])):=λkk=>by rw[<-hg];exact my (by omega) (by simpa using hlt)
  have e1:aN [2,1] [.str (A.getD i jr).1,.bool (A.getD i jr).2] [.str (A.getD i jr).1,.bool (A.getD i jr).2]=some true:=by simp[aN]
  have ih:=ih (i+1) (by omega);rw[aa (L:=fg) rfl];simp(disch:=first|exact Dq|fail)only[go_sem,fg,eD,hia,e1];exact ih
section


variable{I:Ids}{N:Tri}{L:Path}{fl:Fl}{ld dr md:Int}{H:Heap}
theorem act_find{k:SK}(P:Pr I N L fl ld dr md H)(hld:0<=ld)(hdr:0<=dr)(hmd:0<=md)(now fr un:Int)(s:List UInt8)(hs:s.length<=1000)(ps:List (Int×Int)):∃H',resW Γ 636 [.bx 5 0,.p (actP 2 now fr un s k ps)] H=some ([.p (.bool true)],H')/\ActR I L ld dr md H':=by
 have x1:Ext0 H (H++[.box [.p (.int .i64 2),.p (.int .i64 now),.p (.int .i64 fr),.p (.int .i64 un),.p (.str s),.p (.sl k 2 (ptsP ps))]]):=.app _ _;have P1:=P.ext (.ext x1);obtain⟨A,k1,k2,e,H2,H3,a1,a2,a3,a4,a5⟩:=Pt (TrieV.att _ _ _ P1.ps.trie P1.ps.nms) P1.qs.row (λt ht=>by have :=bA (P1.ps.nms.ok t ht);omega) P1.ps.nms.len s (by omega);have P2:=P1.ext (.ext a2);have P3:=P2.ext (.ext a4);have w1:=P1.w;have w2:=P2.w;have b2:=a2.get (i:=H.length) (b:=.box [.p (.int .i64 2),.p (.int .i64 now),.p (.int .i64 fr),.p (.int .i64 un),.p (.str s),.p (.sl k 2 (ptsP ps))]) (by rw[af];rfl);have y2:=P2.qs.core;have f1:resW Γ 475 [.bx I.Sb 0,.p (.str s)] (H++[.box [.p (.int .i64 2),.p (.int .i64 now),.p (.int .i64 fr),.p (.int .i64 un),.p (.str s),.p (.sl k 2 (ptsP ps))]])=some ([.p (.sl k1 2 (hitL A)),.p (.int .i64 e)],H2):=by have s1:=P1.sb;have c1:=P1.ps.core;refine ah (fn:=gX) rfl rfl ?_;simp(disch:=first|exact Dq|fail)only[go_sem,gX,s1,c1,still394,a1];done
 have h6:5<H.length:=(List.getElem?_eq_some_iff.1 P.w).1;refine⟨H3,ah (fn:=bT) rfl rfl ?_,N,L,fl,ld,dr,md,P3,by omega,by omega,by omega,by omega⟩;unfold actP;simp(disch:=first|exact Dq|fail)only[go_sem,bT,w1,af,Nat.zero_add,still475,f1,w2,b2,y2,still405,a3,eD];refine HF A (by omega) _ (λe=>?_) A.length 0 (by omega);simp(disch:=first|exact Dq|fail)only[go_sem];done
end
end Ab
