/- Dead instructions: the function that tells what is needed. Dead instructions: a function with just what is needed. The reference's runs: what they hold, how they end, and what an operation comes to. What an operation comes to. -/
import Derived.Test.YtkmmpbmmmbebgaaT2
import Derived.Test.YtkmmpbmmmbebgaaM4
set_option linter.all false
namespace Go.Ab.Ytkmmpbmmmbebgaa
set_option maxRecDepth 100000
set_option maxHeartbeats 8000000
/-- What is reckoned so far, in the machine. -/
def PhR(t:NS)(c:A×A×List (List A)):Prop:=RowR CellR t.1 c.2.2/\NeedR t.2 c.1 c.2.1
theorem needed_ok{f:TFunc}{e:List A}(h:FuncR f e)(hs:FuncSmall f)(hd:DceOK f):WC E 39 [.agg e] [] fun r _=> ∃o es,Needed f o/\r= .own 1 es/\RowR BRow o es:=by
 obtain⟨name,params,result,vars,blocks,size⟩:=f;obtain⟨sz,hsz⟩:∃ sz:Nat,size=Int.ofNat sz:=⟨size.toNat,by have:=hd.size.1;simp only[Int.ofNat_eq_natCast]at this ⊢;omega⟩;subst hsz;have hsl:sz<=524288:=by have:=hd.size.2;simp only[Int.ofNat_eq_natCast]at this;omega
 obtain⟨_,_,rfl,⟨nv,vs,nvl,rfl,hvl,h3,hv,_⟩,⟨nb,bs,nbl,rfl,hbl,h4,hb,_⟩⟩:=h;have hsb:=hs.b
 simp only at h3 h4 hv hb hsb;refine WC.enter rfl rfl rfl ?_;unfold b39 ki mt mw ft ll iz ov oo;refine W.seq ?_
 repeat' (first|refine W.easy (k:=?_)|fail)
 refine W.scopeK (l:=0) (by rfl) (fun k τ => ∃ (a20 a21:A) (s:List Bool × List Int) (x y:A) (rb:List (List A)),((a20 = .ud /\ a21 = .ud) \/ (a20 = .v (.bool true) /\ ∃ v,a21 = .v (.int .i64 v))) /\
  τ = ⟨[.agg [.v (.string name),.v (.int .i64 params),.v (.bool result),.imm nv 6 vs,.imm nb 5 bs,.v (.int .i64 (Int.ofNat sz))],.v (.slice none 0 0),.pt 0 0,.pt 1 0,.pt 2 0,.v (.int .i64 (Int.ofNat nbl)),.v (.int .i64 (Int.ofNat nbl)),.v (.bool false),.imm nb 5 bs,
   .top,.top,.top,.top,.top,.top,.top,.imm false 1 rb,.top,.clo 55 [] [.pt 1 0,.pt 2 0],.top,a20,a21,.ud,.ud,.ud,.ud,.ud,.ud,.ud,.ud,.ud,.ud,.ud],[],
   [.cells [.v (.string name),.v (.int .i64 params),.v (.bool result),.imm nv 6 vs,.imm nb 5 bs,.v (.int .i64 (Int.ofNat sz))],.cells [x],.cells [y]]⟩/\
  RowR CellR (phase ⟨name,params,result,vars,blocks,Int.ofNat sz⟩ blocks).1 rb/\GoodM sz 100000000 (phase ⟨name,params,result,vars,blocks,Int.ofNat sz⟩ blocks).1/\NeedR s x y/\GoodS sz k s/\k<=sz/\ ∀o,Pops (phase ⟨name,params,result,vars,blocks,Int.ofNat sz⟩ blocks).1 s o->Pops (phase ⟨name,params,result,vars,blocks,Int.ofNat sz⟩ blocks).1 (phase ⟨name,params,result,vars,blocks,Int.ofNat sz⟩ blocks).2 o) ?_ ?_
 ·rintro k τ ⟨a20,a21,s,x,y,rb,ha,rfl,hB,hM,hN,hG,hk,hpops⟩;obtain⟨o,w⟩:=s;refine W.seq (W.skip ?_);rcases List.eq_nil_or_concat w with rfl|⟨w',v,rfl⟩
  ·as_aux_lemma=>
    have hneed:=hpops o .done;obtain⟨⟨r,n,rfl,hrn,hn,hR⟩,hy⟩:=hN
    have hyl:y= .v (.slice none 0 0)\/y= .own 1 []:=by
     rcases hy with⟨rfl,_⟩|⟨ry,ny,rfl,hyl,hyn,hyR⟩
     ·exact .inl rfl
     ·refine .inr ?_;cases hyR;rfl
    have hr0:RowR BRow ((blocks.take 0).foldl (keepBlock (Int.ofNat sz)) o) r:=hR;have hol:=hG.len
    simp only at hol;rcases ha with⟨rfl,rfl⟩|⟨rfl,v0,rfl⟩
    all_goals
     rcases hyl with rfl|rfl
    all_goals
     repeat' (first|refine W.seq ?_|refine W.block ?_|refine W.skip ?_|(refine W.condL (h:=?_);change W _ _ _ _)|refine W.regS ?_|refine WS.done ?_|refine WS.pre (k:=?_)|refine WS.len (h:=?_)|(refine WS.cmp (k1:=fun h=>?_) (k2:=fun h=>?_)<;>simp only[Zq]at h<;>(try(exfalso;omega)))|refine WS.consN (k:=?_)|fail)
    all_goals
     refine W.forA nbl (fun i (r:List (List A)) σ=>sn 22 i (sb 1 0 (.own 1 r) σ)) (fun i r=>RowR BRow ((blocks.take i).foldl (keepBlock (Int.ofNat sz)) o) r) 0 (Nat.zero_le _) ?_ ?_
     ·exact⟨r,by cbv,hr0⟩
     intro QA kA i r1 hi hR1
     by_cases hin:i<nbl
     ·have hib:i<blocks.length:=by omega
      obtain⟨eb,heb,hRb⟩:=hb.at i hib;have hbi:blocks[i]?=some blocks[i]:=Gg hib
      have hil:=hs.i _ (Gm hib);have hfin:∀ r,RowR BRow (keepBlock (Int.ofNat sz) ((blocks.take i).foldl (keepBlock (Int.ofNat sz)) o) blocks[i]) r->RowR BRow ((blocks.take (i+1)).foldl (keepBlock (Int.ofNat sz)) o) r:=fun r h=>by rw[foldl_take hbi];exact h
      have hlen:=keep_len (Int.ofNat sz) (blocks.take i) o;generalize blocks[i]=b at hRb hbi hil hfin;generalize (blocks.take i).foldl (keepBlock (Int.ofNat sz)) o=ob at*
      obtain⟨ins,⟨kind,a,to,els⟩⟩:=b;obtain⟨_,rfl,⟨ni,is,nil,rfl,hil2,h5,hI,_⟩⟩:=hRb;simp only at hil h5 hI;refine W.norm (k:=?_);unfold l39_5 ki vi mw ft lg ov oo
      repeat' (first|refine W.seq ?_|refine W.block ?_|refine W.skip ?_|(refine W.condL (h:=?_);change W _ _ _ _)|refine W.regS ?_|refine WS.done ?_|refine WS.pre (k:=?_)|refine WS.len (h:=?_)|refine WS.iaddr (h:=?_)|(refine WS.cmp (k1:=fun h=>?_) (k2:=fun h=>?_)<;>simp only[Zq]at h<;>(try(exfalso;omega)))|refine WS.consN (k:=?_)|fail)
      refine W.forA nil (fun k (r:List (List A)) σ=>sn 27 k (sb 1 0 (.own 1 r) σ)) (fun k r=>RowR BRow ((ins.take k).foldl (keepStep (Int.ofNat sz)) ob) r) 0 (Nat.zero_le _) ?_ ?_
      ·exact⟨r1,by cbv,hR1⟩
      intro QB kB k r2 hk hR2
      by_cases hkn:k<nil
      ·have hki:k<ins.length:=by omega
       obtain⟨ek,hek,hRk⟩:=hI.at k hki;have hxk:ins[k]?=some ins[k]:=Gg hki
       have hlen2:=keepBlock_len (Int.ofNat sz) (ins.take k) ob;have hfin2:∀ r,RowR BRow (keepStep (Int.ofNat sz) ((ins.take k).foldl (keepStep (Int.ofNat sz)) ob) ins[k]) r->RowR BRow ((ins.take (k+1)).foldl (keepStep (Int.ofNat sz)) ob) r:=fun r h=>by rw[foldl_take hxk];exact h
       generalize ins[k]=xx at*
       generalize (ins.take k).foldl (keepStep (Int.ofNat sz)) ob=ok at*
       have ch:=has_ok hRk;have cs:=stay_ok hRk
       have hrl:=hR2.len;obtain⟨op,dst,xa,xb,var,num,args⟩:=xx;obtain⟨_,rfl,⟨na,as,nal,rfl,hal,h6,hA,_⟩⟩:=hRk
       by_cases hdr:0<=dst/\dst<sz
       case' pos=>
        obtain⟨j,rfl,hj⟩:=intOf hdr;have hjo:j<ok.length:=by omega
        have hej:=bRow_of hR2 hjo;generalize ok[j]=bj at hej
       all_goals
        refine W.norm (k:=?_);unfold l39_4 ki kb vi mw ft ll lg lt iz og ov oo
        repeat' (first|refine W.seq ?_|refine W.block ?_|refine W.skip ?_|(refine W.condL (h:=?_);change W _ _ _ _)|refine W.regS ?_|refine WS.done ?_|refine WS.pre (k:=?_)|refine WS.iaddr (h:=?_)|(refine WS.cmp (k1:=fun h=>?_) (k2:=fun h=>?_)<;>simp only[Zq]at h<;>(try(exfalso;omega)))|refine WS.consN (k:=?_)|fail)
       all_goals
        refine WS.call (hc:=(ch)) (k:=?_);rintro _ _ (⟨rfl,hh⟩|⟨rfl,hh⟩)
       all_goals
        refine⟨_,_,_,by cbv;first|done|fail,by cbv;first|done|fail,?_⟩
        repeat' (first|refine W.skip ?_|(refine W.condL (h:=?_);change W _ _ _ _)|refine W.regS ?_|refine WS.done ?_|refine WS.pre (k:=?_)|(refine WS.guard (h:=?_);change WS _ _ _ _)|(refine WS.cmp (k1:=fun h=>?_) (k2:=fun h=>?_)<;>simp only[Zq]at h<;>(try(exfalso;omega)))|refine WS.inc (h:=?_)|refine WS.consN (k:=?_)|fail)
       all_goals try
        refine WS.call (hc:=(cs)) (k:=?_);rintro _ _ (⟨rfl,hst⟩|⟨rfl,hst⟩)
        all_goals
         refine⟨_,_,_,by cbv;first|done|fail,by cbv;first|done|fail,?_⟩
         repeat' (first|refine W.skip ?_|(refine W.condL (h:=?_);change W _ _ _ _)|refine W.regS ?_|refine WS.done ?_|refine WS.stoP (k:=fun q hq=>?_)|refine WS.pre (k:=?_)|refine WS.iaddrO (k:=?_)|refine WS.inc (h:=?_)|refine WS.consN (k:=?_)|fail)
       all_goals
        have hun:∀ xx:TIns,¬(¬hasF xx/\xx.op≠46/\0<=xx.dst/\xx.dst<(Int.ofNat sz)/\stayF xx)->keepStep (Int.ofNat sz) ok xx=ok:=fun xx h=>if_neg h
        first
         | (refine ⟨by omega,_,by cbv,hfin2 _ ?_⟩
            rw [hun _ (fun hc => by
             first
              |exact hc.1 hh
              |exact hst hc.2.2.2.2
              |exact hdr ⟨hc.2.2.1,hc.2.2.2.1⟩
              | (have h46:=hc.2.1
                 simp only[ne_eq]at h46
                 omega))]
            exact hR2)
         | (refine ⟨by omega,_,by cbv,hfin2 _ ?_⟩
            have hcc:keepStep (Int.ofNat sz) ok ⟨op,Int.ofNat j,xa,xb,var,num,args⟩=ok.set j true:=if_pos ⟨hh,by simp only[ne_eq];omega,hdr.1,hdr.2,hst⟩
            rw[hcc,<-hq]
            exact hR2.set j rfl)
      ·have hk':ins.take k=ins:=List.take_of_length_le (by omega);rw[hk']at hR2;refine W.norm (k:=?_);unfold l39_4 ki kb vi mw ft ll lg lt iz og ov oo
       repeat' (first|refine W.seq ?_|refine W.exit ?_|(refine W.condL (h:=?_);change W _ _ _ _)|refine W.regS ?_|refine WS.done ?_|(refine WS.cmp (k1:=fun h=>?_) (k2:=fun h=>?_)<;>simp only[Zq]at h<;>(try(exfalso;omega)))|fail)
       refine kB _ _ ?_
       repeat' (first|refine W.regS ?_|refine WS.done ?_|refine WS.inc (h:=?_)|refine WS.consN (k:=?_)|fail)
       exact⟨by omega,_,by cbv,hfin _ hR2⟩
     ·have hi':blocks.take i=blocks:=List.take_of_length_le (by omega);rw[hi']at hR1;refine W.norm (k:=?_);unfold l39_5 ki vi mw ft lg ov oo
      repeat' (first|refine W.seq ?_|refine W.exit ?_|(refine W.condL (h:=?_);change W _ _ _ _)|refine W.regS ?_|refine WS.done ?_|(refine WS.cmp (k1:=fun h=>?_) (k2:=fun h=>?_)<;>simp only[Zq]at h<;>(try(exfalso;omega)))|fail)
      refine kA _ _ ?_
      repeat' (first|refine W.seq ?_|refine W.easy (k:=?_)|refine W.ret ?_|refine W.frz (k:=?_)|refine Ret.ret (k:=?_)|fail)
      exact⟨_,r1,⟨o,hneed,rfl⟩,rfl,hR1⟩
  ·as_aux_lemma=>
    rw[List.concat_eq_append]at*
    have hv:=hG.work v (by simp);obtain⟨j,rfl,hj⟩:=intOf hv;have hmu:=hG.mu
    simp only[List.length_append,List.length_cons,List.length_nil]at hmu;have hG':GoodS sz (k-1) (o,w'):=⟨hG.len,fun u hu=>hG.work u (by simp[hu]),by simp only;omega⟩
    obtain⟨hx,hy⟩:=hN;rcases hy with⟨rfl,hy⟩|⟨ry,ny,rfl,hyl,hyn,hyR⟩
    ·simp at hy
    have hx0:=hx;obtain⟨rx,nx,rfl,_,_,_⟩:=hx0;obtain⟨l1,l2,l3⟩:=intR_last hyR;obtain⟨wl,hwl⟩:∃ wl,wl=w'.length:=⟨_,rfl⟩;rw[<-hwl]at l1 l2 l3;have hwl2:wl<=524288:=by omega
    have hjm:j<(phase ⟨name,params,result,vars,blocks,Int.ofNat sz⟩ blocks).1.length:=by rw[hM.1];exact hj
    obtain⟨ej,hej,hC⟩:=hB.at j hjm;have hgd:(phase ⟨name,params,result,vars,blocks,Int.ofNat sz⟩ blocks).1.getD (Int.ofNat j).toNat []=(phase ⟨name,params,result,vars,blocks,Int.ofNat sz⟩ blocks).1[j]:=by rw[List.getD_eq_getElem?_getD];show((phase ⟨name,params,result,vars,blocks,Int.ofNat sz⟩ blocks).1[j]?).getD []=_;rw[Gg hjm];rfl
    have hml:=hM.2 _ (Gm hjm);have hps:=fun o' (h:Pops (phase ⟨name,params,result,vars,blocks,Int.ofNat sz⟩ blocks).1 (needF ((phase ⟨name,params,result,vars,blocks,Int.ofNat sz⟩ blocks).1.getD (Int.ofNat j).toNat []) (o,w')) o')=>hpops o' (.step h)
    rw[hgd]at hps;have hG2:=needF_good _ _ hG' hml.2
    generalize (phase ⟨name,params,result,vars,blocks,Int.ofNat sz⟩ blocks).1[j]=lj at*
    have hbl:rb.length=sz:=by rw[hB.len,hM.1]
    rcases ha with⟨rfl,rfl⟩|⟨rfl,v0,rfl⟩
    all_goals
     rcases hC with⟨rfl,hnil⟩|⟨old,rfl,hold⟩
    all_goals
     repeat' (first|refine W.seq ?_|(refine W.condL (h:=?_);change W _ _ _ _)|refine W.regS ?_|refine WS.done ?_|refine WS.loadP (k:=?_)|refine WS.pre (k:=?_)|refine WS.lenO (k:=?_)|refine WS.iaddrO (k:=?_)|refine WS.iaddr (h:=?_)|(refine WS.cmp (k1:=fun h=>?_) (k2:=fun h=>?_)<;>simp only[Zq]at h<;>(try(exfalso;omega)))|refine WS.dec (h:=?_)|refine WS.subO (k:=?_)|refine WS.stoSub (h:=fun r hr=>?_)|refine WS.consN (k:=?_)|fail)
    all_goals
     have hrow:RowR IntR w' r:=by rw[<-hr];exact l3
     have hN1:NeedR (o,w') (.own 1 rx) (.own 1 r):=⟨hx,.inr ⟨r,_,rfl,rfl,hrow.len,hrow⟩⟩;have hmu2:=hG'.mu
     have hln2:=hG'.len;simp only at hmu2 hln2
    case' refine_1.inr.inr.inl.inl.refine_1|refine_1.inr.inr.inr.inl.refine_1=>
     rw[hnil]at hps hG2;refine WS.callv (hc:=(need_nil hN1)) (k:=?_)
    case' refine_1.inr.inr.inl.inr.refine_1|refine_1.inr.inr.inr.inr.refine_1=>
     refine WS.callv (hc:=(need_ok (slA_own hold) hN1 (by rw[hln2];exact hml.2) (by simp only;omega))) (k:=?_)
    all_goals
     rintro _ _ ⟨rfl,x',y',rfl,hN'⟩;have hN2:=hN'
     obtain⟨⟨r3,n3,rfl,hrn3,hn3,hR3⟩,hy3⟩:=hN';rcases hy3 with⟨rfl,hy3⟩|⟨ry3,ny3,rfl,hyl3,hyn3,hyR3⟩
    all_goals
     refine⟨_,_,_,by cbv;first|done|fail,by cbv;first|done|fail,?_⟩
     repeat' (first|refine WS.done ?_|fail)
     refine W.goto ?_;exact⟨k-1,by omega,_,_,_,_,_,rb,.inr ⟨rfl,_,rfl⟩,by cbv,hB,hM,hN2,hG2,by omega,hps⟩
 intro hrest
 repeat' (first|refine W.seq ?_|refine W.easy (k:=?_)|refine W.block ?_|refine W.regS ?_|refine WS.done ?_|refine WS.pre (k:=?_)|refine WS.len (h:=?_)|refine WS.mk' (k:=fun r hr=>?_)|refine WS.consN (k:=?_)|fail)
 rename_i r_1 hr_1;have hr1:RowR BRow (List.replicate sz false) r_1:=by subst hr_1;exact RowR.replicate (R:=BRow) (x:=false) rfl sz
 have hr2:RowR CellR (List.replicate sz []) r:=by subst hr;exact RowR.replicate (.inl ⟨rfl,rfl⟩) sz
 have hN0:NeedR (List.replicate sz false,[]) (.own 1 r_1) (.v (.slice none 0 0)):=⟨⟨_,_,rfl,rfl,hr1.len,hr1⟩,.inl ⟨rfl,rfl⟩⟩;clear hr1;have hdi:∀ b,b∈blocks->blockOK sz b:=fun b hb'=>⟨fun x hx=>hd.ins b hb' x hx,hd.term b hb'⟩
 have hdw:=hd.w;simp only[funcW]at hdw
 refine W.forA nbl (fun i (c:A×A×List (List A)) σ=>sn 5 i (sv 16 (.own 1 c.2.2) (sb 1 0 c.1 (sb 2 0 c.2.1 σ)))) (fun i c=>GoodN sz ((blocks.take i).map insW).sum ((blocks.take i).foldl blockStep (List.replicate sz [],(List.replicate sz false,[])))/\PhR ((blocks.take i).foldl blockStep (List.replicate sz [],(List.replicate sz false,[]))) c) 0 (Nat.zero_le _) ?_ ?_
 ·exact⟨(.own 1 r_1,.v (.slice none 0 0),r),by cbv,goodN_zero sz,hr2,hN0⟩
 clear hr2 hN0;rintro QA kA i ⟨x1,y1,by1⟩ hi ⟨hG,hB,hN⟩;simp only at hB hN
 by_cases hin:i<nbl
 ·have hib:i<blocks.length:=by omega
  obtain⟨eb,heb,hRb⟩:=hb.at i hib;have hbi:blocks[i]?=some blocks[i]:=Gg hib
  have hbo:=hdi _ (Gm hib);have hil:=hs.i _ (Gm hib)
  have hx:=hs.a _ (Gm hib);have hwi:=sum_take_le insW blocks (i+1)
  have hsw:((blocks.take (i+1)).map insW).sum=((blocks.take i).map insW).sum+insW blocks[i]:=by
   rw[take_snoc hbi,List.map_append,List.sum_append];rfl
  rw[hsw]at hwi
  have hfinB:∀ c,GoodN sz (((blocks.take i).map insW).sum+insW blocks[i]) (blockStep ((blocks.take i).foldl blockStep (List.replicate sz [],(List.replicate sz false,[]))) blocks[i])->PhR (blockStep ((blocks.take i).foldl blockStep (List.replicate sz [],(List.replicate sz false,[]))) blocks[i]) c->GoodN sz ((blocks.take (i+1)).map insW).sum ((blocks.take (i+1)).foldl blockStep (List.replicate sz [],(List.replicate sz false,[])))/\PhR ((blocks.take (i+1)).foldl blockStep (List.replicate sz [],(List.replicate sz false,[]))) c:=fun c h1 h2=>by
   rw[foldl_take hbi,hsw];exact⟨h1,h2⟩
  generalize ((blocks.take i).map insW).sum=m at*
  generalize blocks[i]=b at hRb hbo hbi hil hx hwi hfinB;generalize (blocks.take i).foldl blockStep _=t at*
  obtain⟨ins,⟨kind,a,to,els⟩⟩:=b;obtain⟨_,rfl,⟨ni,is,nil,rfl,hil2,h5,hI,_⟩⟩:=hRb;simp only at hil h5 hI hx;simp only[insW]at hwi;have hG0:=hG
  refine W.norm (k:=?_);unfold l39_3 ki vi mt mw fa ft ll lg ov oo
  repeat' (first|refine W.seq ?_|refine W.block ?_|refine W.skip ?_|(refine W.condL (h:=?_);change W _ _ _ _)|refine W.regS ?_|refine WS.done ?_|refine WS.pre (k:=?_)|refine WS.len (h:=?_)|refine WS.iaddr (h:=?_)|(refine WS.cmp (k1:=fun h=>?_) (k2:=fun h=>?_)<;>simp only[Zq]at h<;>(try(exfalso;omega)))|refine WS.consN (k:=?_)|fail)
  refine W.forA nil (fun k (c:A×A×List (List A)) σ=>sn 10 k (sv 16 (.own 1 c.2.2) (sb 1 0 c.1 (sb 2 0 c.2.1 σ)))) (fun k c=>GoodN sz (m+((ins.take k).map fun x=>x.args.length+2).sum) ((ins.take k).foldl insStep t)/\PhR ((ins.take k).foldl insStep t) c) 0 (Nat.zero_le _) ?_ ?_
  ·exact⟨(x1,y1,by1),by cbv,hG,hB,hN⟩
  clear hG hB hN;rintro QB kB k ⟨x2,y2,by2⟩ hk ⟨hG,hB,hN⟩;simp only at hB hN
  by_cases hkn:k<nil
  ·as_aux_lemma=>
    have hki:k<ins.length:=by omega
    obtain⟨ek,hek,hRk⟩:=hI.at k hki;have hxk:ins[k]?=some ins[k]:=Gg hki
    have hxo:=hbo.1 _ (Gm hki);have hxa:=hx _ (Gm hki)
    have hwk:=sum_take_le (fun x:TIns=>x.args.length+2) ins (k+1)
    have hsw:((ins.take (k+1)).map fun x=>x.args.length+2).sum=((ins.take k).map fun x=>x.args.length+2).sum+(ins[k].args.length+2):=by
     rw[take_snoc hxk,List.map_append,List.sum_append];rfl
    rw[hsw]at hwk
    have hfin:∀ c,GoodN sz (m+(((ins.take k).map fun x=>x.args.length+2).sum+(ins[k].args.length+2))) (insStep ((ins.take k).foldl insStep t) ins[k])->PhR (insStep ((ins.take k).foldl insStep t) ins[k]) c->GoodN sz (m+((ins.take (k+1)).map fun x=>x.args.length+2).sum) ((ins.take (k+1)).foldl insStep t)/\PhR ((ins.take (k+1)).foldl insStep t) c:=fun c h1 h2=>by
     rw[foldl_take hxk,hsw];exact⟨h1,h2⟩
    generalize ((ins.take k).map fun x=>x.args.length+2).sum=mk at*
    generalize ins[k]=x at*
    generalize (ins.take k).foldl insStep t=tk at*
    have hstep:=insStep_good hG hxo;rw[Nat.add_assoc]at hstep;have ch:=has_ok hRk
    have cl:=looks_ok hRk;obtain⟨op,dst,xa,xb,var,num,args⟩:=x;obtain⟨_,rfl,⟨na,as,nal,rfl,hal,h6,hA,_⟩⟩:=hRk;simp only at hxo hxa h6;have hN0:=hN
    obtain⟨⟨r2,n2,rfl,hrn,hn2,hR⟩,hy⟩:=hN;have hs1:=hG.s.len
    have hs2:=hG.s.mu;rcases hy with⟨rfl,hy⟩|⟨ry,ny,rfl,hyl,hyn,hyR⟩
    all_goals
     refine W.norm (k:=?_);unfold l39_2 ki vi mt mw ft ll lg lt iz ov oo
     repeat' (first|refine W.seq ?_|refine W.block ?_|refine W.skip ?_|(refine W.condL (h:=?_);change W _ _ _ _)|refine W.regS ?_|refine WS.done ?_|refine WS.pre (k:=?_)|refine WS.iaddr (h:=?_)|(refine WS.cmp (k1:=fun h=>?_) (k2:=fun h=>?_)<;>simp only[Zq]at h<;>(try(exfalso;omega)))|refine WS.consN (k:=?_)|fail)
    all_goals
     refine WS.call (hc:=(ch)) (k:=?_);rintro _ _ (⟨rfl,hh⟩|⟨rfl,hh⟩)
     ·
      refine⟨_,_,_,by cbv;first|done|fail,by cbv;first|done|fail,?_⟩;obtain⟨j,rfl,hj⟩:=intOf (hxo.1 hh)
      have hst:insStep tk ⟨op,Int.ofNat j,xa,xb,var,num,args⟩=(tk.1.set j (tk.1.getD j []++looksF ⟨op,Int.ofNat j,xa,xb,var,num,args⟩),tk.2):=by
       unfold insStep;rw[if_pos hh];rfl
      have hll:=looks_len ⟨op,Int.ofNat j,xa,xb,var,num,args⟩;simp only at hll;have hjm:j<tk.1.length:=by rw[hG.ms.1];exact hj
      have hbl2:by2.length=tk.1.length:=hB.len;obtain⟨ej,hej,hC⟩:=hB.at j hjm;have hgd:tk.1.getD j []=tk.1[j]:=by rw[List.getD_eq_getElem?_getD,Gg hjm];rfl
      have hml:=(hG.ms.2 _ (Gm hjm)).1
      have hset:∀ q,RowR IntR (tk.1.getD j []++looksF ⟨op,Int.ofNat j,xa,xb,var,num,args⟩) q->RowR CellR (insStep tk ⟨op,Int.ofNat j,xa,xb,var,num,args⟩).1 (by2.set j [.own 1 q]):=by
       intro q hq;rw[hst];exact hB.set j (.inr ⟨q,rfl,hq⟩)
      have hN1:∀ a b,NeedR tk.2 a b->NeedR (insStep tk ⟨op,Int.ofNat j,xa,xb,var,num,args⟩).2 a b:=fun a b h=>by rw[hst];exact h
      rw[hgd]at hset;rcases hC with⟨rfl,hnil⟩|⟨old,rfl,hold⟩
      ·
       repeat' (first|refine W.seq ?_|refine W.frz (k:=?_)|(refine W.condL (h:=?_);change W _ _ _ _)|refine WS.done ?_|refine WS.consN (k:=?_)|refine W.beginD (h:=?_)|refine WD.loadP (h:=?_)|refine WD.pre (k:=?_)|refine WD.iaddrO (h:=?_)|fail)
       refine WD.qcall (hc:=(cl)) (k:=?_);rintro _ _ ⟨nu,es,nn,rfl,hn1,hnn,hU,_⟩;have hufl:=intR_flat hU
       refine⟨_,_,_,by cbv;first|done|fail,by cbv;first|done|fail,by cbv;first|done|fail,?_⟩
       repeat' (first|refine W.regS ?_|refine WS.done ?_|refine WS.inc (h:=?_)|refine WS.consN (k:=?_)|(refine WD.done ⟨_,by cbv;first|done|fail,?_⟩;dsimp only)|refine WD.stoP (k:=fun q hq=>?_)|refine WD.iaddrO (h:=?_)|(refine WD.appN0 (h:=fun h0=>?_) (k:=fun h0=>?_))|fail)
       ·subst h0;exact⟨by omega,(_,_,q),by cbv,hfin (_,_,_) hstep ⟨by rw[<-hq,hst];exact hB.set j (.inl ⟨rfl,by rw[hgd,hnil,List.length_eq_zero_iff.1 (hnn.symm.trans hn1.symm)];rfl⟩),hN1 _ _ hN0⟩⟩
       ·exact⟨by omega,(_,_,q),by cbv,hfin (_,_,_) hstep ⟨by rw[<-hq];exact hset _ (by rw[hnil];simpa using hU),hN1 _ _ hN0⟩⟩
      ·have hol:=hold.len;obtain⟨no,hno⟩:∃ no,no=old.length:=⟨_,rfl⟩
       repeat' (first|refine W.seq ?_|refine W.frz (k:=?_)|(refine W.condL (h:=?_);change W _ _ _ _)|refine WS.done ?_|refine WS.consN (k:=?_)|refine W.beginD (h:=?_)|refine WD.loadP (h:=?_)|refine WD.pre (k:=?_)|refine WD.iaddrO (h:=?_)|fail)
       refine WD.qcall (hc:=(cl)) (k:=?_);rintro _ _ ⟨nu,es,nn,rfl,hn1,hnn,hU,_⟩;have hufl:=intR_flat hU
       refine⟨_,_,_,by cbv;first|done|fail,by cbv;first|done|fail,by cbv;first|done|fail,?_⟩
       repeat' (first|refine WD.appIN (k:=?_)|fail)
       refine WD.iaddrH (k:=10) (kq:=?_)
       repeat' (first|refine W.regS ?_|refine WS.done ?_|refine WS.inc (h:=?_)|refine WS.consN (k:=?_)|(refine WD.done ⟨_,by cbv;first|done|fail,?_⟩;dsimp only)|refine WD.stoN (k:=fun q hq=>?_)|fail)
       exact⟨by omega,(_,_,q),by cbv,hfin (_,_,_) hstep ⟨by rw[<-hq];exact hset _ (by simpa using hold.append hU),hN1 _ _ hN0⟩⟩
     ·
      refine⟨_,_,_,by cbv;first|done|fail,by cbv;first|done|fail,?_⟩
      by_cases h46:op=46
      ·subst h46
       have hst:insStep tk ⟨46,dst,xa,xb,var,num,args⟩=tk:=by
        unfold insStep;rw[if_neg hh,if_pos rfl]
       have hB1:RowR CellR (insStep tk ⟨46,dst,xa,xb,var,num,args⟩).1 by2:=by rw[hst];exact hB
       have hN1:∀ a b,NeedR tk.2 a b->NeedR (insStep tk ⟨46,dst,xa,xb,var,num,args⟩).2 a b:=fun a b h=>by rw[hst];exact h
       repeat' (first|refine W.seq ?_|refine W.skip ?_|(refine W.condL (h:=?_);change W _ _ _ _)|refine W.regS ?_|refine WS.done ?_|refine WS.pre (k:=?_)|(refine WS.cmp (k1:=fun h=>?_) (k2:=fun h=>?_)<;>simp only[Zq]at h<;>(try(exfalso;omega)))|refine WS.inc (h:=?_)|refine WS.consN (k:=?_)|fail)
       exact⟨by omega,(_,_,_),by cbv,hfin (_,_,_) hstep ⟨hB1,hN1 _ _ hN0⟩⟩
      ·have hst:insStep tk ⟨op,dst,xa,xb,var,num,args⟩=(tk.1,needF (looksF ⟨op,dst,xa,xb,var,num,args⟩) tk.2):=by
        unfold insStep;rw[if_neg hh,if_neg h46]
       have hll:=looks_len ⟨op,dst,xa,xb,var,num,args⟩;simp only at hll;have hlk:=hxo.2
       repeat' (first|refine W.seq ?_|refine W.frz (k:=?_)|(refine W.condL (h:=?_);change W _ _ _ _)|refine W.regS ?_|refine WS.done ?_|refine WS.pre (k:=?_)|(refine WS.cmp (k1:=fun h=>?_) (k2:=fun h=>?_)<;>simp only[Zq]at h<;>(try(exfalso;omega)))|refine WS.consN (k:=?_)|fail)
       refine WS.call (hc:=(cl)) (k:=?_);rintro _ _ hU;have cn:=need_ok hU hN0 (by rw[hs1];exact hlk) (by omega)
       obtain⟨nu,es,nn,rfl,hn1,hnn,hU,_⟩:=hU;have hufl:=intR_flat hU
       refine⟨_,_,_,by cbv;first|done|fail,by cbv;first|done|fail,?_⟩
       repeat' (first|refine W.seq ?_|refine W.easy (k:=?_)|refine W.easyD (k:=?_)|refine W.block ?_|refine W.skip ?_|refine W.ret ?_|refine W.exit ?_|refine W.frz (k:=?_)|refine Ret.ret (k:=?_)|refine Ret.normal (k:=?_)|(refine W.condL (h:=?_);change W _ _ _ _)|refine W.cond (ha:=fun h=>?_) (hb:=fun h=>?_)|refine W.regS ?_|refine WS.done ?_|refine WS.setApp (h:=fun r hr=>?_)|refine WS.stoApp (h:=fun r hr=>?_)|refine WS.loadP (k:=?_)|refine WS.stoP (k:=fun q hq=>?_)|refine WS.pre (k:=?_)|(refine WS.guard (h:=?_);change WS _ _ _ _)|refine WS.lenO (k:=?_)|refine WS.len (h:=?_)|refine WS.iaddrO (k:=?_)|refine WS.iaddr (h:=?_)|(refine WS.cmp (k1:=fun h=>?_) (k2:=fun h=>?_)<;>simp only[Zq]at h<;>(try(exfalso;omega)))|refine WS.inc (h:=?_)|(refine WS.add (h:=fun c hc=>?_)<;>(try simp only[oC]at hc))|refine WS.mk' (k:=fun r hr=>?_)|refine WS.app (hn:=(news_imm (by assumption))) (h:=?_)|refine WS.app (h:=?_)|refine WS.dec (h:=?_)|refine WS.subO (k:=?_)|refine WS.stoSub (h:=fun r hr=>?_)|refine WS.lookI (h:=fun hin=>?_) (h0:=fun hin=>?_)|refine WS.upI (h:=fun ks' es' hks' hkv'=>?_)|refine WS.strNe (k:=?_)|refine WS.strEq (k:=?_)|refine WS.eqSame (k:=?_)|refine WS.consN (k:=?_)|refine W.beginD (h:=?_)|(refine WD.done ⟨_,by cbv;first|done|fail,?_⟩;dsimp only)|refine WD.setApp (h:=fun r hr=>?_)|refine WD.stoApp (h:=fun r hr=>?_)|refine WD.loadP (h:=?_)|refine WD.stoP (k:=fun q hq=>?_)|refine WD.stoN (k:=fun q hq=>?_)|refine WD.pre (k:=?_)|(refine WD.guard (h:=?_);change WD _ _ _ _ _ _ _ _)|refine WD.want (h:=?_)|refine WD.lenO (k:=?_)|refine WD.len (h:=?_)|refine WD.iaddrO (h:=?_)|refine WD.iaddr (h:=?_)|(refine WD.cmp (k1:=fun h=>?_) (k2:=fun h=>?_)<;>simp only[Zq]at h<;>(try(exfalso;omega)))|(refine WD.add (h:=fun c hc=>?_)<;>(try simp only[oC]at hc))|refine WD.appN (k:=?_)|refine WD.appI (h:=?_)|refine WD.app (h:=?_)|(refine WD.appN0 (h:=fun h0=>?_) (k:=fun h0=>?_))|refine WD.appIN (k:=?_)|refine WD.strNeV (h:=?_)|refine WD.strNe (k:=?_)|refine WD.strEq (k:=?_)|refine WD.eqSame (k:=?_)|refine WD.oneN (k:=?_)|refine WS.appN0 (h:=fun h0=>?_) (k:=fun r hr hr0=>?_)|refine WD.iaddrN (k:=?_)|refine WD.lenN (k:=?_)|refine WD.loadN (h:=?_)|refine WD.stoR (k:=fun p hp t ht=>?_)|refine WD.mk' (k:=fun r hr=>?_)|(refine WS.sbt (h:=fun c hc=>?_)<;>(try simp only[oC]at hc))|(refine WD.sbt (h:=fun c hc=>?_)<;>(try simp only[oC]at hc))|refine WD.alloc (k:=?_)|refine WS.adt (h:=fun c hc=>?_)|fail)
       refine WS.callv (hc:=(cn)) (k:=?_);rintro _ _ ⟨rfl,x',y',rfl,hN'⟩;have hB1:RowR CellR (insStep tk ⟨op,dst,xa,xb,var,num,args⟩).1 by2:=by rw[hst];exact hB
       have hN2:NeedR (insStep tk ⟨op,dst,xa,xb,var,num,args⟩).2 x' y':=by rw[hst];exact hN'
       obtain⟨⟨r3,n3,rfl,hrn3,hn3,hR3⟩,hy3⟩:=hN';rcases hy3 with⟨rfl,hy3⟩|⟨ry3,ny3,rfl,hyl3,hyn3,hyR3⟩
       all_goals
        refine⟨_,_,_,by cbv;first|done|fail,by cbv;first|done|fail,?_⟩
        repeat' (first|refine W.regS ?_|refine WS.done ?_|refine WS.inc (h:=?_)|refine WS.consN (k:=?_)|fail)
        exact⟨by omega,(_,_,_),by cbv,hfin (_,_,_) hstep ⟨hB1,hN2⟩⟩
  ·as_aux_lemma=>
    have hk':ins.take k=ins:=List.take_of_length_le (by omega);rw[hk']at hB hN hG;have hbs:GoodN sz (m+insW ⟨ins,⟨kind,a,to,els⟩⟩) (blockStep t ⟨ins,⟨kind,a,to,els⟩⟩):=blockStep_good hG0 hbo
    have hN0:=hN;have hs1:=hG.s.len
    have hs2:=hG.s.mu;obtain⟨⟨r2,n2,rfl,hrn,hn2,hR⟩,hy⟩:=hN
    by_cases hk1:kind=1
    ·subst hk1;have hst:blockStep t ⟨ins,⟨1,a,to,els⟩⟩=ins.foldl insStep t:=by unfold blockStep;rw[if_pos rfl]
     have hB1:RowR CellR (blockStep t ⟨ins,⟨1,a,to,els⟩⟩).1 by2:=by rw[hst];exact hB
     have hN1:∀ x y,NeedR (ins.foldl insStep t).2 x y->NeedR (blockStep t ⟨ins,⟨1,a,to,els⟩⟩).2 x y:=fun x y h=>by rw[hst];exact h
     rcases hy with⟨rfl,hy⟩|⟨ry,ny,rfl,hyl,hyn,hyR⟩
     all_goals
      refine W.norm (k:=?_);unfold l39_2 ki vi mt mw ft ll lg lt iz ov oo
      repeat' (first|refine W.seq ?_|refine W.exit ?_|(refine W.condL (h:=?_);change W _ _ _ _)|refine W.regS ?_|refine WS.done ?_|(refine WS.cmp (k1:=fun h=>?_) (k2:=fun h=>?_)<;>simp only[Zq]at h<;>(try(exfalso;omega)))|fail)
      refine kB _ _ ?_
      repeat' (first|refine W.seq ?_|refine W.skip ?_|(refine W.condL (h:=?_);change W _ _ _ _)|refine W.regS ?_|refine WS.done ?_|refine WS.pre (k:=?_)|(refine WS.cmp (k1:=fun h=>?_) (k2:=fun h=>?_)<;>simp only[Zq]at h<;>(try(exfalso;omega)))|refine WS.inc (h:=?_)|refine WS.consN (k:=?_)|fail)
      exact⟨by omega,(_,_,_),by cbv,hfinB (_,_,_) hbs ⟨hB1,hN1 _ _ hN0⟩⟩
    ·have hst:blockStep t ⟨ins,⟨kind,a,to,els⟩⟩=((ins.foldl insStep t).1,needF [a] (ins.foldl insStep t).2):=by unfold blockStep;rw[if_neg hk1]
     have hB1:RowR CellR (blockStep t ⟨ins,⟨kind,a,to,els⟩⟩).1 by2:=by rw[hst];exact hB
     have hN1:∀ x y,NeedR (needF [a] (ins.foldl insStep t).2) x y->NeedR (blockStep t ⟨ins,⟨kind,a,to,els⟩⟩).2 x y:=fun x y h=>by rw[hst];exact h
     have cn:=need_ok (slA_own (z:=1) (intR1 a)) hN0 (by rw[hs1];intro v hv;simp at hv;subst hv;exact hbo.2 hk1) (by simp;omega);rcases hy with⟨rfl,hy⟩|⟨ry,ny,rfl,hyl,hyn,hyR⟩
     all_goals
      refine W.norm (k:=?_);unfold l39_2 ki vi mt mw ft ll lg lt iz ov oo
      repeat' (first|refine W.seq ?_|refine W.exit ?_|(refine W.condL (h:=?_);change W _ _ _ _)|refine W.regS ?_|refine WS.done ?_|(refine WS.cmp (k1:=fun h=>?_) (k2:=fun h=>?_)<;>simp only[Zq]at h<;>(try(exfalso;omega)))|fail)
      refine kB _ _ ?_
      repeat' (first|refine W.seq ?_|(refine W.condL (h:=?_);change W _ _ _ _)|refine W.regS ?_|refine WS.done ?_|refine WS.pre (k:=?_)|(refine WS.cmp (k1:=fun h=>?_) (k2:=fun h=>?_)<;>simp only[Zq]at h<;>(try(exfalso;omega)))|fail)
      refine WS.callv (hc:=(cn)) (k:=?_);rintro _ _ ⟨rfl,x',y',rfl,hN'⟩;have hN2:=hN'
      obtain⟨⟨r3,n3,rfl,hrn3,hn3,hR3⟩,hy3⟩:=hN';rcases hy3 with⟨rfl,hy3⟩|⟨ry3,ny3,rfl,hyl3,hyn3,hyR3⟩
      all_goals
       refine⟨_,_,_,by cbv;first|done|fail,by cbv;first|done|fail,?_⟩
       repeat' (first|refine W.regS ?_|refine WS.done ?_|refine WS.inc (h:=?_)|refine WS.consN (k:=?_)|fail)
       exact⟨by omega,(_,_,_),by cbv,hfinB (_,_,_) hbs ⟨hB1,hN1 _ _ hN2⟩⟩
 ·as_aux_lemma=>
   obtain rfl:i=nbl:=by omega
   have hi':blocks.take i=blocks:=List.take_of_length_le (by omega);rw[hi']at hB hN hG;have hN0:=hN
   obtain⟨⟨r2,n2,rfl,hrn,hn2,hR⟩,hy⟩:=hN;have hfin:=fun y hN0=>hrest sz _ ⟨.ud,.ud,_,.own 1 r2,y,by1,.inl ⟨rfl,rfl⟩,rfl,hB,goodM_mono hG.ms (by omega),hN0,hG.s,Nat.le_refl _,fun o h=>h⟩
   rcases hy with⟨rfl,hy⟩|⟨ry,ny,rfl,hyl,hyn,hyR⟩
   all_goals
    refine W.norm (k:=?_);unfold l39_3 ki vi mt mw fa ft ll lg ov oo
    repeat' (first|refine W.seq ?_|refine W.exit ?_|(refine W.condL (h:=?_);change W _ _ _ _)|refine W.regS ?_|refine WS.done ?_|(refine WS.cmp (k1:=fun h=>?_) (k2:=fun h=>?_)<;>simp only[Zq]at h<;>(try(exfalso;omega)))|fail)
    refine kA _ _ ?_
    repeat' (first|refine W.seq ?_|refine W.frz (k:=?_)|fail)
    refine W.label ?_;refine(W.unskip (hfin _ hN0)).mono fun e ρ he=>?_;cases e<;>exact he
def dceI(o:List Bool)(x:TIns):Option TIns:=
 if hasF x/\o.getD x.dst.toNat false=false then none
 else some (if x.op=46/\0<=x.a/\o.getD x.a.toNat false=false then{x with a:=-1}else x)
def dceB(o:List Bool)(b:TBlock):TBlock:={b with ins:=b.ins.filterMap (dceI o)}
def dceF(o:List Bool)(f:TFunc):TFunc:={f with blocks:=f.blocks.map (dceB o)}
theorem growR_one{α:Type}{z:Nat}{R:α->List A->Prop}{l:List α}{x:α}{e:List A}(he:R x e)(hl:l=[]):GrowR z R (l++[x]) (.own z [e]):=by
 subst hl;exact .inr ⟨_,_,rfl,rfl,rfl,.cons he .nil⟩
theorem fm_none{α β:Type}{g:α->Option β}{l:List α}{k:Nat}{x:α}(h:l[k]?=some x)(hg:g x=none):(l.take (k+1)).filterMap g=(l.take k).filterMap g:=by
 rw[take_snoc h,List.filterMap_append];simp[hg]
theorem fm_some{α β:Type}{g:α->Option β}{l:List α}{k:Nat}{x:α}{y:β}(h:l[k]?=some x)(hg:g x=some y):(l.take (k+1)).filterMap g=(l.take k).filterMap g++[y]:=by
 rw[take_snoc h,List.filterMap_append];simp[hg]
theorem needed_len{f:TFunc}{o:List Bool}(hd:DceOK f)(h:Needed f o):o.length=f.size.toNat:=by
 obtain⟨o1,h1,rfl⟩:=h;rw[keep_len]
 have hg:GoodN f.size.toNat (0+(f.blocks.map insW).sum) (phase f f.blocks):=by
  have hn:((f.size.toNat:Nat):Int)=f.size:=by have:=hd.size.1;omega
  refine foldB_good f.blocks 0 _ (goodN_zero _) fun b hb=>⟨fun x hx=>?_,fun hk=>?_⟩
  ·have:=hd.ins b hb x hx;unfold insOK;rw[hn];exact this
  ·rw[hn];exact hd.term b hb hk
 have key:∀ (ms:List (List Int)) (s:List Bool×List Int) (o1:List Bool),Pops ms s o1->o1.length=s.1.length:=by
  intro ms s o1 h
  induction h with
  |done=>rfl
  |step _ ih=>rw[ih,needF_len]
 rw[key _ _ _ h1];exact hg.s.len
theorem function_ok{f:TFunc}{e:List A}(h:FuncR f e)(hs:FuncSmall f)(hd:DceOK f)(hbd:∀ b,b∈f.blocks-> ∀x,x∈b.ins->x.op=46->x.a<f.size):WC E 29 [.agg e] [] fun r _=> ∃o e',Needed f o/\r= .agg e'/\FuncR (dceF o f) e':=by
 have cn:=needed_ok h hs hd;have hlen:=fun o=>needed_len (o:=o) hd
 obtain⟨name,params,result,vars,blocks,size⟩:=f;obtain⟨sz,hsz⟩:∃ sz:Nat,size=Int.ofNat sz:=⟨size.toNat,by have:=hd.size.1;simp only[Int.ofNat_eq_natCast]at this ⊢;omega⟩;subst hsz;have hsl:sz<=524288:=by have:=hd.size.2;simp only[Int.ofNat_eq_natCast]at this;omega
 obtain⟨_,_,rfl,⟨nv,vs,nvl,rfl,hvl,h3,hv,_⟩,⟨nb,bs,nbl,rfl,hbl,h4,hb,_⟩⟩:=h;have hsb:=hs.b
 simp only at h3 h4 hv hb hsb hbd hlen;have hvs:SlA 6 VarR vars (.imm nv 6 vs):=⟨nv,vs,nvl,rfl,hvl,h3,hv,‹_›⟩
 refine WC.enter rfl rfl rfl ?_;unfold b29 ki vi mw ft lt ov oo
 repeat' (first|refine W.seq ?_|refine W.easy (k:=?_)|refine W.frz (k:=?_)|refine W.regS ?_|refine WS.pre (k:=?_)|fail)
 refine WS.call (hc:=(cn)) (k:=?_);rintro _ _ ⟨o,es,hO,rfl,hE⟩;have hol:o.length=sz:=hlen o hO
 have hel:es.length=sz:=by rw[hE.len];exact hol
 refine⟨_,_,_,by cbv;first|done|fail,by cbv;first|done|fail,?_⟩
 repeat' (first|refine W.seq ?_|refine W.easy (k:=?_)|refine W.block ?_|refine W.frz (k:=?_)|refine W.regS ?_|refine WS.done ?_|refine WS.pre (k:=?_)|refine WS.len (h:=?_)|refine WS.consN (k:=?_)|fail)
 refine W.forS nbl (fun i (x:A) σ=>sn 4 i (sb 2 4 x σ)) (fun i x=>GrowR 5 BlockR ((blocks.take i).map (dceB o)) x) 0 (Nat.zero_le _) ?_ ?_
 ·exact⟨_,by cbv,.inl ⟨rfl,rfl⟩⟩
 intro i x hi hP;refine W.norm (k:=?_);unfold l29_1 ki vi mt mw ft ll lg lt ov oo
 by_cases hin:i<nbl
 ·have hib:i<blocks.length:=by omega
  obtain⟨eb,heb,hRb⟩:=hb.at i hib;have hbi:blocks[i]?=some blocks[i]:=Gg hib
  have hil:=hs.i _ (Gm hib);have hx:=hs.a _ (Gm hib)
  have hdi:=hd.ins _ (Gm hib);have hbdi:=hbd _ (Gm hib)
  have htm:(blocks.take (i+1)).map (dceB o)=(blocks.take i).map (dceB o)++[dceB o blocks[i]]:=by rw[take_snoc hbi,List.map_append];rfl
  generalize blocks[i]=b at hRb hbi hil hx hdi hbdi htm;obtain⟨ins,⟨kind,a,to,els⟩⟩:=b;obtain⟨_,rfl,⟨ni,is,nil,rfl,hil2,h5,hI,_⟩⟩:=hRb;simp only at hil h5 hI hx hdi hbdi;rcases hP with⟨rfl,hz⟩|⟨rz,nz,rfl,hzl,hzn,hzR⟩
  case' inr=>
   have hnz:nz<=100000:=by rw[hzn,List.length_map,List.length_take];omega
  all_goals
   repeat' (first|refine W.seq ?_|refine W.easy (k:=?_)|refine W.block ?_|refine W.skip ?_|(refine W.condL (h:=?_);change W _ _ _ _)|refine W.regS ?_|refine WS.done ?_|refine WS.pre (k:=?_)|refine WS.len (h:=?_)|refine WS.iaddr (h:=?_)|(refine WS.cmp (k1:=fun h=>?_) (k2:=fun h=>?_)<;>simp only[Zq]at h<;>(try(exfalso;omega)))|refine WS.consN (k:=?_)|fail)
  all_goals
   refine W.forS nil (fun k (y:A) σ=>sn 9 k (sv 17 y σ)) (fun k y=>GrowR 7 InsR ((ins.take k).filterMap (dceI o)) y) 0 (Nat.zero_le _) ?_ ?_
   ·exact⟨_,by cbv,.inl ⟨rfl,rfl⟩⟩
   intro k y hk hQ;refine W.norm (k:=?_);unfold l29_0 ki kb vi mt mw ft ll lg lt og ov oo
   by_cases hkn:k<nil
   ·have hki:k<ins.length:=by omega
    obtain⟨ek,hek,hRk⟩:=hI.at k hki;have hxk:ins[k]?=some ins[k]:=Gg hki
    have hxa:=hx _ (Gm hki);have hxo:=hdi _ (Gm hki)
    have hxb:=hbdi _ (Gm hki);have hfl:((ins.take k).filterMap (dceI o)).length<=100000:=Nat.le_trans (List.length_filterMap_le _ _) (by rw[List.length_take];omega)
    generalize ins[k]=x at*
    have ch:=has_ok hRk;obtain⟨op,dst,xa,xb,var,num,args⟩:=x;obtain⟨_,rfl,⟨na,as,nal,rfl,hal,h6,hA,_⟩⟩:=hRk;have hc:=clone_ok (l:=args) ⟨na,as,nal,rfl,hal,h6,hA,‹_›⟩ (by simp only at hxa;omega)
    simp only at hxa h6 hxo hxb;have hi0:args=[]-> ∀v,InsR ⟨op,dst,v,xb,var,num,args⟩ [.v (.int .u8 op),.v (.int .i64 dst),.v (.int .i64 v),.v (.int .i64 xb),.v (.int .i64 var),.v (.int .i64 num),.imm true 1 []]:=fun h v=>⟨_,rfl,slA_frz0 (l:=args) h rfl⟩
    have hi1:∀ r,RowR IntR args r-> ∀v,InsR ⟨op,dst,v,xb,var,num,args⟩ [.v (.int .u8 op),.v (.int .i64 dst),.v (.int .i64 v),.v (.int .i64 xb),.v (.int .i64 var),.v (.int .i64 num),.imm false 1 r]:=fun r h v=>⟨_,rfl,slA_own h⟩;have hQ0:=hQ
    have hdrop:dceI o ⟨op,dst,xa,xb,var,num,args⟩=none->GrowR 7 InsR ((ins.take (k+1)).filterMap (dceI o)) y:=fun h=>by rw[fm_none hxk h];exact hQ
    have hkeep:=fun y (h:dceI o ⟨op,dst,xa,xb,var,num,args⟩=some y)=>fm_some hxk h;have hel2:=hE
    have case1:hasF ⟨op,dst,xa,xb,var,num,args⟩->op≠46/\ ∃j:Nat,dst=Int.ofNat j/\j<sz:=fun h=>⟨fun e=>h (by simp[e]),intOf (hxo.1 h)⟩;rcases hQ with⟨rfl,hy⟩|⟨ry,ny,rfl,hyl,hyn,hyR⟩
    case' inr=>
     have hny:ny<=100000:=by rw[hyn];exact hfl
    all_goals
     repeat' (first|refine W.seq ?_|refine W.block ?_|refine W.skip ?_|(refine W.condL (h:=?_);change W _ _ _ _)|refine W.regS ?_|refine WS.done ?_|refine WS.pre (k:=?_)|refine WS.iaddr (h:=?_)|(refine WS.cmp (k1:=fun h=>?_) (k2:=fun h=>?_)<;>simp only[Zq]at h<;>(try(exfalso;omega)))|refine WS.consN (k:=?_)|fail)
    all_goals
     refine WS.call (hc:=(ch)) (k:=?_);rintro _ _ (⟨rfl,hh⟩|⟨rfl,hh⟩)
     ·obtain⟨h46,j,rfl,hj⟩:=case1 hh;have hjo:j<o.length:=by omega
      have hej:=bRow_of hE hjo;have hgd:o.getD (Int.ofNat j).toNat false=o[j]:=by rw[List.getD_eq_getElem?_getD];show(o[j]?).getD false=_;rw[Gg hjo];rfl
      have hdi0:o[j]=false->dceI o ⟨op,Int.ofNat j,xa,xb,var,num,args⟩=none:=fun h=>if_pos ⟨hh,hgd.trans h⟩
      have hdi1:o[j]=true->dceI o ⟨op,Int.ofNat j,xa,xb,var,num,args⟩=some ⟨op,Int.ofNat j,xa,xb,var,num,args⟩:=fun h=>by
       unfold dceI;rw[if_neg (fun hc=>by have:=hc.2;simp only[hgd,h]at this;cases this),if_neg (fun hc=>h46 hc.1)]
      generalize o[j]=bj at*
      cases bj
      all_goals
       refine⟨_,_,_,by cbv;first|done|fail,by cbv;first|done|fail,?_⟩
       repeat' (first|refine W.seq ?_|refine W.skip ?_|refine W.exit ?_|refine W.frz (k:=?_)|(refine W.condL (h:=?_);change W _ _ _ _)|refine W.regS ?_|refine WS.done ?_|refine WS.pre (k:=?_)|(refine WS.guard (h:=?_);change WS _ _ _ _)|refine WS.iaddr (h:=?_)|(refine WS.cmp (k1:=fun h=>?_) (k2:=fun h=>?_)<;>simp only[Zq]at h<;>(try(exfalso;omega)))|refine WS.inc (h:=?_)|refine WS.consN (k:=?_)|fail)
      ·exact⟨by omega,_,by cbv,hdrop (hdi0 rfl)⟩
      ·have hdi':=hdi1 rfl;refine WS.call (hc:=(hc)) (k:=?_);rintro _ _ (⟨rfl,hca⟩|⟨rc,nc,rfl,hcl,hcn,hcR⟩)
       all_goals
        refine⟨_,_,_,by cbv;first|done|fail,by cbv;first|done|fail,?_⟩
        repeat' (first|refine W.seq ?_|refine W.frz (k:=?_)|refine W.regS ?_|refine WS.done ?_|refine WS.setApp (h:=fun r hr=>?_)|refine WS.pre (k:=?_)|refine WS.inc (h:=?_)|refine WS.app (h:=?_)|refine WS.consN (k:=?_)|fail)
       all_goals first
        |exact⟨by omega,_,by cbv,by rw[hkeep _ hdi'];exact growR_one (hi0 hca _) hy⟩
        |exact⟨by omega,_,by cbv,by rw[hkeep _ hdi'];exact growR_one (hi1 _ hcR _) hy⟩
        |exact⟨by omega,_,by cbv,by rw[hkeep _ hdi'];exact growR_snoc (hi0 hca _) hyR hr⟩
        |exact⟨by omega,_,by cbv,by rw[hkeep _ hdi'];exact growR_snoc (hi1 _ hcR _) hyR hr⟩
     ·have hnh:∀ z,dceI o ⟨op,dst,xa,xb,var,num,args⟩=some z↔(if op=46/\0<=xa/\o.getD xa.toNat false=false then(⟨op,dst,-1,xb,var,num,args⟩:TIns)else⟨op,dst,xa,xb,var,num,args⟩)=z:=fun z=>by
       unfold dceI;rw[if_neg (fun hc=>hh hc.1)];exact Option.some_inj
      by_cases h46:op=46/\0<=xa
      ·obtain⟨rfl,ha0⟩:=h46;obtain⟨j,rfl,hj⟩:=intOf (n:=sz) ⟨ha0,hxb rfl⟩;have hjo:j<o.length:=by omega
       have hej:=bRow_of hE hjo;have hgd:o.getD (Int.ofNat j).toNat false=o[j]:=by rw[List.getD_eq_getElem?_getD];show(o[j]?).getD false=_;rw[Gg hjo];rfl
       have hdi0:o[j]=false->dceI o ⟨46,dst,Int.ofNat j,xb,var,num,args⟩=some ⟨46,dst,-1,xb,var,num,args⟩:=fun h=>(hnh _).2 (if_pos ⟨rfl,ha0,hgd.trans h⟩);have hdi1:o[j]=true->dceI o ⟨46,dst,Int.ofNat j,xb,var,num,args⟩=some ⟨46,dst,Int.ofNat j,xb,var,num,args⟩:=fun h=>(hnh _).2 (if_neg fun hc=>by have:=hgd.symm.trans hc.2.2;rw[h]at this;cases this)
       generalize o[j]=bj at*
       cases bj
       all_goals
        refine⟨_,_,_,by cbv;first|done|fail,by cbv;first|done|fail,?_⟩
        repeat' (first|refine W.seq ?_|refine W.easy (k:=?_)|refine W.skip ?_|refine W.frz (k:=?_)|(refine W.condL (h:=?_);change W _ _ _ _)|refine W.regS ?_|refine WS.done ?_|refine WS.pre (k:=?_)|(refine WS.guard (h:=?_);change WS _ _ _ _)|refine WS.iaddr (h:=?_)|(refine WS.cmp (k1:=fun h=>?_) (k2:=fun h=>?_)<;>simp only[Zq]at h<;>(try(exfalso;omega)))|refine WS.consN (k:=?_)|fail)
       ·have hdi':=hdi0 rfl;refine WS.call (hc:=(hc)) (k:=?_);rintro _ _ (⟨rfl,hca⟩|⟨rc,nc,rfl,hcl,hcn,hcR⟩)
        all_goals
         refine⟨_,_,_,by cbv;first|done|fail,by cbv;first|done|fail,?_⟩
         repeat' (first|refine W.seq ?_|refine W.frz (k:=?_)|refine W.regS ?_|refine WS.done ?_|refine WS.setApp (h:=fun r hr=>?_)|refine WS.pre (k:=?_)|refine WS.inc (h:=?_)|refine WS.app (h:=?_)|refine WS.consN (k:=?_)|fail)
        all_goals first
         |exact⟨by omega,_,by cbv,by rw[hkeep _ hdi'];exact growR_one (hi0 hca _) hy⟩
         |exact⟨by omega,_,by cbv,by rw[hkeep _ hdi'];exact growR_one (hi1 _ hcR _) hy⟩
         |exact⟨by omega,_,by cbv,by rw[hkeep _ hdi'];exact growR_snoc (hi0 hca _) hyR hr⟩
         |exact⟨by omega,_,by cbv,by rw[hkeep _ hdi'];exact growR_snoc (hi1 _ hcR _) hyR hr⟩
       ·have hdi':=hdi1 rfl;refine WS.call (hc:=(hc)) (k:=?_);rintro _ _ (⟨rfl,hca⟩|⟨rc,nc,rfl,hcl,hcn,hcR⟩)
        all_goals
         refine⟨_,_,_,by cbv;first|done|fail,by cbv;first|done|fail,?_⟩
         repeat' (first|refine W.seq ?_|refine W.frz (k:=?_)|refine W.regS ?_|refine WS.done ?_|refine WS.setApp (h:=fun r hr=>?_)|refine WS.pre (k:=?_)|refine WS.inc (h:=?_)|refine WS.app (h:=?_)|refine WS.consN (k:=?_)|fail)
        all_goals first
         |exact⟨by omega,_,by cbv,by rw[hkeep _ hdi'];exact growR_one (hi0 hca _) hy⟩
         |exact⟨by omega,_,by cbv,by rw[hkeep _ hdi'];exact growR_one (hi1 _ hcR _) hy⟩
         |exact⟨by omega,_,by cbv,by rw[hkeep _ hdi'];exact growR_snoc (hi0 hca _) hyR hr⟩
         |exact⟨by omega,_,by cbv,by rw[hkeep _ hdi'];exact growR_snoc (hi1 _ hcR _) hyR hr⟩
      ·have hdi':dceI o ⟨op,dst,xa,xb,var,num,args⟩=some ⟨op,dst,xa,xb,var,num,args⟩:=(hnh _).2 (if_neg fun hc=>h46 ⟨hc.1,hc.2.1⟩);refine⟨_,_,_,by cbv;first|done|fail,by cbv;first|done|fail,?_⟩
       repeat' (first|refine W.seq ?_|refine W.skip ?_|refine W.frz (k:=?_)|(refine W.condL (h:=?_);change W _ _ _ _)|refine W.regS ?_|refine WS.done ?_|refine WS.pre (k:=?_)|(refine WS.guard (h:=?_);change WS _ _ _ _)|(refine WS.cmp (k1:=fun h=>?_) (k2:=fun h=>?_)<;>simp only[Zq]at h<;>(try(exfalso;omega)))|refine WS.consN (k:=?_)|fail)
       all_goals try
        first
        |(exfalso;omega)
        |skip
       all_goals
        refine WS.call (hc:=(hc)) (k:=?_);rintro _ _ (⟨rfl,hca⟩|⟨rc,nc,rfl,hcl,hcn,hcR⟩)
        all_goals
         refine⟨_,_,_,by cbv;first|done|fail,by cbv;first|done|fail,?_⟩
         repeat' (first|refine W.seq ?_|refine W.frz (k:=?_)|refine W.regS ?_|refine WS.done ?_|refine WS.setApp (h:=fun r hr=>?_)|refine WS.pre (k:=?_)|refine WS.inc (h:=?_)|refine WS.app (h:=?_)|refine WS.consN (k:=?_)|fail)
        all_goals first
         |exact⟨by omega,_,by cbv,by rw[hkeep _ hdi'];exact growR_one (hi0 hca _) hy⟩
         |exact⟨by omega,_,by cbv,by rw[hkeep _ hdi'];exact growR_one (hi1 _ hcR _) hy⟩
         |exact⟨by omega,_,by cbv,by rw[hkeep _ hdi'];exact growR_snoc (hi0 hca _) hyR hr⟩
         |exact⟨by omega,_,by cbv,by rw[hkeep _ hdi'];exact growR_snoc (hi1 _ hcR _) hyR hr⟩
   ·have hk':ins.take k=ins:=List.take_of_length_le (by omega);rw[hk']at hQ;have hblk:∀ y',SlA 7 InsR (ins.filterMap (dceI o)) y'->BlockR (dceB o ⟨ins,⟨kind,a,to,els⟩⟩) [y',.v (.int .u8 kind),.v (.int .i64 a),.v (.int .i64 to),.v (.int .i64 els)]:=fun y' hy'=>⟨_,rfl,hy'⟩
    rcases hQ with⟨rfl,hy⟩|⟨ry,ny,rfl,hyl,hyn,hyR⟩
    all_goals
     repeat' (first|refine W.seq ?_|refine W.easy (k:=?_)|refine W.exit ?_|refine W.frz (k:=?_)|(refine W.condL (h:=?_);change W _ _ _ _)|refine W.regS ?_|refine WS.done ?_|refine WS.stoApp (h:=fun r hr=>?_)|refine WS.pre (k:=?_)|(refine WS.cmp (k1:=fun h=>?_) (k2:=fun h=>?_)<;>simp only[Zq]at h<;>(try(exfalso;omega)))|refine WS.inc (h:=?_)|refine WS.app (h:=?_)|refine WS.consN (k:=?_)|fail)
    all_goals first
     |exact⟨by omega,_,by cbv,by rw[htm];exact growR_one (hblk _ (slA_frz0 hy rfl)) hz⟩
     |exact⟨by omega,_,by cbv,by rw[htm];exact growR_one (hblk _ (slA_own hyR)) hz⟩
     |exact⟨by omega,_,by cbv,by rw[htm];exact growR_snoc (hblk _ (slA_frz0 hy rfl)) hzR hr⟩
     |exact⟨by omega,_,by cbv,by rw[htm];exact growR_snoc (hblk _ (slA_own hyR)) hzR hr⟩
 ·have hi':blocks.take i=blocks:=List.take_of_length_le (by omega);rw[hi']at hP;rcases hP with⟨rfl,hz⟩|⟨rz,nz,rfl,hzl,hzn,hzR⟩
  ·
   repeat' (first|refine W.seq ?_|refine W.easy (k:=?_)|refine W.ret ?_|refine W.exit ?_|refine W.frz (k:=?_)|refine Ret.ret (k:=?_)|(refine W.condL (h:=?_);change W _ _ _ _)|refine W.regS ?_|refine WS.done ?_|(refine WS.cmp (k1:=fun h=>?_) (k2:=fun h=>?_)<;>simp only[Zq]at h<;>(try(exfalso;omega)))|fail)
   exact⟨o,_,hO,rfl,_,_,rfl,hvs,slA_frz0 hz rfl⟩
  ·
   repeat' (first|refine W.seq ?_|refine W.easy (k:=?_)|refine W.ret ?_|refine W.exit ?_|refine W.frz (k:=?_)|refine Ret.ret (k:=?_)|(refine W.condL (h:=?_);change W _ _ _ _)|refine W.regS ?_|refine WS.done ?_|(refine WS.cmp (k1:=fun h=>?_) (k2:=fun h=>?_)<;>simp only[Zq]at h<;>(try(exfalso;omega)))|fail)
   exact⟨o,_,hO,rfl,_,_,rfl,hvs,slA_own hzR⟩
structure TKn where
 var:Int
 num:Int
 gone:Bool
structure TEv where
 kind:Int
 num:Int
 point:Int
 func:Int
 vals:List TKn
def KnR(x:TKn)(e:List A):Prop:=e=[.v (.int .i64 x.var),.v (.int .i64 x.num),.v (.bool x.gone)]
def ValsR(l:List TKn)(a:A):Prop:=(a= .v (.slice none 0 0)/\l=[])\/SlA 3 KnR l a
def EvR(x:TEv)(e:List A):Prop:=∃ a,e=[.v (.int .u8 x.kind),.v (.int .i64 x.num),.v (.int .i64 x.point),.v (.int .i64 x.func),a]/\ValsR x.vals a
def ev0(kind num func:Int):TEv:=⟨kind,num,0,func,[]⟩
theorem ev0R(kind num func:Int):EvR (ev0 kind num func) [.v (.int .u8 kind),.v (.int .i64 num),.v (.int .i64 0),.v (.int .i64 func),.v (.slice none 0 0)]:=⟨_,rfl,.inl ⟨rfl,rfl⟩⟩
/-- The end of a run. -/
theorem ends_ok{nf:Bool}{fs:List (List A)}{main:Int}{np:Bool}{ps:List (List A)}{w a l:A}{fuel left first k:Int}{over long:Bool}{ev:List TEv}(hl:GrowR 5 EvR ev l)(hb:ev.length<=1000000000):
  WC E 59 [.pt 0 0,.v (.int .u8 k)] [.cells [.imm nf 6 fs,.v (.int .i64 main),.imm np 3 ps,w,a,.v (.int .i64 fuel),.v (.int .i64 left),l,.v (.bool over),.v (.bool long),.v (.int .i64 first)]]
   fun r bx=>r= .tup []/\ ∃l',bx=[.cells [.imm nf 6 fs,.v (.int .i64 main),.imm np 3 ps,w,a,.v (.int .i64 fuel),.v (.int .i64 left),l',.v (.bool true),.v (.bool long),.v (.int .i64 first)]]/\GrowR 5 EvR (ev++[ev0 k 0 0]) l':=by
 refine WC.enter rfl rfl rfl ?_;unfold b59 kb vi mt fa ll oo;rcases hl with⟨rfl,hq⟩|⟨rq,nq,rfl,hql,hqn,hqR⟩
 case' inr=>have hnq:rq.length<=1000000000:=by omega
 all_goals
  repeat' (first|refine W.seq ?_|refine W.easy (k:=?_)|refine Ret.normal (k:=?_)|refine W.regS ?_|refine WS.done ?_|refine WS.stoApp (h:=fun r hr=>?_)|refine WS.pre (k:=?_)|refine WS.app (h:=?_)|refine WS.consN (k:=?_)|fail)
  refine⟨rfl,_,rfl,?_⟩
 ·exact growR_snoc (R:=EvR) (ev0R k 0 0) hqR (by assumption)
 ·exact growR_one (ev0R k 0 0) hq
section
variable {E:Nat->Option AF} {σ:St} {d:Dst} {os:List AOper} {Q:St->Prop}
theorem WS.binE{op:BinOp}{x y:Opd}{a b:Int}{τ:Int->St}(hx:σ.rd x=some (.v (.int .i64 a)):=by cbv;first|done|fail)(hy:σ.rd y=some (.v (.int .i64 b)):=by cbv;first|done|fail)(he:∃ c,binI op .i64 a b=some (.v (.int .i64 c)):=by first|exact⟨_,rfl⟩|exact⟨_,if_neg (by omega)⟩)(hp:∀ c,σ.putV d (.v (.int .i64 c))=some (τ c):=by intro c;cbv;first|done|fail)
  (h:∀ c,WS E os (τ c) Q):WS E (⟨d,.bin op x y,none⟩::os) σ Q:=by
 obtain⟨c,he⟩:=he;refine WS.op 1 ?_ (hp c) (h c);simp only[ago,aop,pop,hx,hy,if_true,he]
theorem WS.negE{x:Opd}{a:Int}{τ:Int->St}(hx:σ.rd x=some (.v (.int .i64 a)):=by cbv;first|done|fail)(hp:∀ c,σ.putV d (.v (.int .i64 c))=some (τ c):=by intro c;cbv;first|done|fail)
  (h:∀ c,WS E os (τ c) Q):WS E (⟨d,.un .neg x,none⟩::os) σ Q:=by
 refine WS.op 1 (show ago E 1 (.un .neg x) σ=some (.v (.int .i64 (IntKind.i64.wrap (0-a))),σ)from ?_) (hp _) (h _);simp only[ago,aop,pop,hx]
end
/-- What an operation comes to: something. -/
theorem does_ok{op a b:Int}:WC E 68 [.v (.int .u8 op),.v (.int .i64 a),.v (.int .i64 b)] [] fun r _=> ∃v is,r= .tup [.v (.int .i64 v),.v (.bool is)]:=by
 refine WC.enter rfl rfl rfl ?_;unfold b68 ki kb mt mw ov oo
 repeat' (first|refine W.seq ?_|refine W.easy (k:=?_)|refine W.block ?_|refine W.skip ?_|refine W.ret ?_|refine Ret.ret (k:=?_)|(refine W.condL (h:=?_);change W _ _ _ _)|refine W.regS ?_|refine WS.done ?_|refine WS.pre (k:=?_)|(refine WS.cmp (k1:=fun h=>?_) (k2:=fun h=>?_)<;>simp only[Zq]at h<;>(try(exfalso;omega)))|refine WS.consN (k:=?_)|fail)
 all_goals try first
  |refine WS.binE (h:=fun c=>?_)
  |refine WS.negE (h:=fun c=>?_)
 all_goals
  repeat' (first|refine W.ret ?_|refine Ret.ret (k:=?_)|refine WS.done ?_|refine WS.consN (k:=?_)|fail)
 all_goals exact⟨_,_,rfl⟩
end Go.Ab.Ytkmmpbmmmbebgaa
