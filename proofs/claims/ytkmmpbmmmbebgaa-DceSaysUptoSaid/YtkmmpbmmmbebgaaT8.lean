/- Is a function sound? The reference's runs: what holds all through a call's main loop. The reference's runs: a call. Small: what it says. Is a unit sound? Dead instructions: a unit with just what is needed. -/
import Derived.Test.YtkmmpbmmmbebgaaT4
import Derived.Test.YtkmmpbmmmbebgaaM4
import Derived.Test.YtkmmpbmmmbebgaaT7
import Derived.Test.YtkmmpbmmmbebgaaT3
set_option linter.all false
namespace Go.Ab.Ytkmmpbmmmbebgaa
set_option maxRecDepth 100000
set_option maxHeartbeats 8000000
def MarkBefore(f:TFunc)(b i:Nat)(v:Int):Prop:=∃ p q x,insAt f p q=some x/\(p<b\/p=b/\q<i)/\x.op=45/\x.num=v
def insLen(f:TFunc)(p:Nat):Nat:=match f.blocks[p]? with|some b=>b.ins.length|none=>0
def UseP(f:TFunc)(b i:Nat)(x:TIns)(k:Nat)(u:Int):Prop:=
 if x.op=47 then∃(l:List Int) (w:Int),(waysF f)[b]?=some l/\l[k]?=some w/\ThereP f u w.toNat (insLen f w.toNat)else ThereP f u b i
structure SoundI(f:TFunc)(b i:Nat)(x:TIns):Prop where
 get:x.op≠34/\x.op≠35
 use:∀ (k:Nat) (u:Int),(usesF x)[k]?=some u->UseP f b i x k u
 made:0<=makesF x->FirstMade f (makesF x) b i
 mark:x.op=45-> ¬MarkBefore f b i x.num
structure SoundB(f:TFunc)(b:Nat)(y:TBlock):Prop where
 way:Way f (-1) b
 ins:∀ (i:Nat) (x:TIns),y.ins[i]?=some x->SoundI f b i x
 term:y.term.kind≠1->0<=y.term.a->ThereP f y.term.a b y.ins.length
def SoundF(f:TFunc):Prop:=∀ (b:Nat) (y:TBlock),f.blocks[b]?=some y->SoundB f b y
theorem addWays_range(i N:Int)(hi:0<=i/\i<N):∀ (l:List Int) (w:List (List Int)),(∀r,r∈w-> ∀v,v∈r->0<=v/\v<N)-> ∀r,r∈addWays i l w-> ∀v,v∈r->0<=v/\v<N
 |[],w,h=>h
 | d::l,w,h=>by
   rw[addWays];refine addWays_range i N hi l _ fun r hr v hv=>?_;rcases List.mem_or_eq_of_mem_set hr with h1|rfl
   ·exact h r h1 v hv
   ·rcases List.mem_append.1 hv with h2|h2
    ·rw[List.getD_eq_getElem?_getD]at h2;cases hg:w[d.toNat]? with
     |none=>rw[hg]at h2;cases h2
     |some r=>rw[hg]at h2;exact h r (Mg hg) v h2
    ·simp at h2;subst h2;exact hi
theorem waysTo_range(N:Nat):∀ (bs:List TBlock) (i:Nat) (w:List (List Int)),i+bs.length<=N->(∀r,r∈w-> ∀v,v∈r->0<=v/\v<(N:Int))-> ∀r,r∈waysTo bs i w-> ∀v,v∈r->0<=v/\v<(N:Int)
 |[],i,w,_,h=>h
 | b::bs,i,w,hi,h=>by
   rw[waysTo];simp only[List.length_cons]at hi;exact waysTo_range N bs (i+1) _ (by omega) (addWays_range i N (by omega) _ _ h)
theorem ways_range{f:TFunc}:∀ r,r∈waysF f-> ∀v,v∈r->0<=v/\v<f.blocks.length:=
 waysTo_range f.blocks.length f.blocks 0 _ (by omega) fun r hr v hv=>by rw[(List.mem_replicate.1 hr).2]at hv;cases hv
theorem markBefore_zero{f:TFunc}{v:Int}:¬ MarkBefore f 0 0 v:=by rintro⟨p,q,x,_,h,_⟩;omega
theorem markBefore_snoc{f:TFunc}{b i:Nat}{x:TIns}(h:insAt f b i=some x)(v:Int):MarkBefore f b (i+1) v↔MarkBefore f b i v\/(x.op=45/\v=x.num):=by
 constructor
 ·rintro⟨p,q,y,h1,h2,h3,h4⟩
  by_cases hq:p=b/\q=i
  ·obtain⟨rfl,rfl⟩:=hq;rw[h]at h1;cases h1;exact .inr ⟨h3,h4.symm⟩
  ·exact .inl ⟨p,q,y,h1,by omega,h3,h4⟩
 ·rintro(⟨p,q,y,h1,h2,h3,h4⟩|⟨h3,rfl⟩)
  ·exact⟨p,q,y,h1,by omega,h3,h4⟩
  ·exact⟨b,i,x,h,by omega,h3,rfl⟩
theorem markBefore_next{f:TFunc}{b:Nat}{y:TBlock}(h:f.blocks[b]?=some y)(v:Int):MarkBefore f (b+1) 0 v↔MarkBefore f b y.ins.length v:=by
 constructor
 ·rintro⟨p,q,x,h1,h2,h3,h4⟩;refine⟨p,q,x,h1,?_,h3,h4⟩
  by_cases hp:p=b
  ·subst hp;rw[insAt_of h]at h1;have:=(Ge h1).1
   exact .inr ⟨rfl,this⟩
  ·omega
 ·rintro⟨p,q,x,h1,h2,h3,h4⟩;exact⟨p,q,x,h1,by omega,h3,h4⟩
theorem soundF_ok{u:TUnit}{n:Int}{f:TFunc}{e:List A}(h:FuncR f e)(hs:FuncSmall f)(hp:FunP u n f):WC E 38 [.agg e] [] fun r _=> ∃a b t,r= .tup [.v (.int .i64 a),.v (.int .i64 b),.v (.bool t)]/\(t=true↔SoundF f):=by
 have hE:=ends_of hp.term;have h0:0<f.blocks.length:=by have:=hp.head;omega
 have ct:=table_ok h h0 hs.b hE;have cw:=ways_ok h hs.b hE
 have cr:=reached_ok h h0 hs.b hE;have cth:=fun{t:A} (ht:TableR f t) (v:Int) {b i:Nat} (hb:b<f.blocks.length)=>there_ok (i:=i) h hs ht v hb
 have cm:=made_ok h hs;have hph:=hp.ins
 have hwl:(waysF f).length=f.blocks.length:=by unfold waysF;rw[waysTo_len,List.length_replicate]
 have hwr:=ways_range (f:=f);have hSB:=fun b y (hy:f.blocks[b]?=some y) (hS:SoundF f)=>hS b y hy
 have hSF:(∀b y,f.blocks[b]?=some y->SoundB f b y)->SoundF f:=fun h=>h;have hil:∀ (p:Nat) (y:TBlock),f.blocks[p]?=some y->insLen f p=y.ins.length:=fun p y hy=>by unfold insLen;rw[hy]
 obtain⟨_,_,rfl,⟨nv,vs,nvl,rfl,hvl,h3,hv,_⟩,⟨nb,bs,nbl,rfl,hbl,h4,hb,_⟩⟩:=h;have hsb:=hs.b
 refine WC.enter rfl rfl rfl ?_;unfold b38 ki kb mw lt ov oo
 repeat' (first|refine W.seq ?_|refine W.easy (k:=?_)|refine W.frz (k:=?_)|refine W.regS ?_|refine WS.pre (k:=?_)|fail)
 refine WS.call (hc:=(ct)) (k:=?_);rintro _ _ ht;have ht0:=ht
 obtain⟨nt,et,nT,rfl,ht1,ht2,ht3⟩:=ht;refine⟨_,_,_,by cbv;first|done|fail,by cbv;first|done|fail,?_⟩
 repeat' (first|refine W.seq ?_|refine W.frz (k:=?_)|refine W.regS ?_|refine WS.done ?_|refine WS.pre (k:=?_)|refine WS.consN (k:=?_)|fail)
 refine WS.call (hc:=(cw)) (k:=?_);rintro _ _ ⟨nw,ws,nwl,rfl,hw1,hw2,hW,_⟩;refine⟨_,_,_,by cbv;first|done|fail,by cbv;first|done|fail,?_⟩
 repeat' (first|refine W.seq ?_|refine W.frz (k:=?_)|refine W.regS ?_|refine WS.done ?_|refine WS.pre (k:=?_)|refine WS.consN (k:=?_)|fail)
 refine WS.call (hc:=(cr)) (k:=?_);rintro _ _ ⟨lr,⟨nr,rs,nrl,rfl,hr1,hr2,hRr,_⟩,hlr,hra⟩;refine⟨_,_,_,by cbv;first|done|fail,by cbv;first|done|fail,?_⟩
 repeat' (first|refine W.seq ?_|refine W.easy (k:=?_)|refine W.block ?_|refine W.frz (k:=?_)|refine WS.done ?_|refine WS.consN (k:=?_)|fail)
 have hrat:∀ i,i<f.blocks.length-> ∃t,rs[i]?=some [.v (.bool t)]/\(t=true↔Way f (-1) i):=fun i hi=>by
  obtain⟨t,h1,h2⟩:=bools_at hlr hra (j:=i) hi;exact⟨t,bRow_at hRr h1,h2⟩
 refine W.forA nbl (fun i (es:List (Value×A)) σ=>sn 5 i (sm 1 es σ)) (fun i es=>(∃ks,MapI ks es/\ ∀v,v∈ks↔MarkBefore f i 0 v)/\ ∀(j:Nat) (y:TBlock),j<i->f.blocks[j]?=some y->SoundB f j y) 0 (Nat.zero_le _) ?_ ?_
 ·exact⟨[],by cbv,⟨[],rfl,fun v=>iff_of_false (by simp) markBefore_zero⟩,upto_zero⟩
 rintro QA kA i es hi ⟨⟨ks,hks,hkv⟩,hBs⟩;refine W.norm (k:=?_);unfold l38_2 ki kb vi mt mw fa ft ll lg iz og ov oo
 by_cases hin:i<nbl
 ·as_aux_lemma=>
   have hib:i<f.blocks.length:=by omega
   obtain⟨eb,heb,hRb⟩:=hb.at i hib;have hbi:f.blocks[i]?=some f.blocks[i]:=Gg hib
   have hils:=hs.i _ (Gm hib);have hals:=hs.a _ (Gm hib)
   obtain⟨t0,hrt,hrw⟩:=hrat i hib;have hnext:=fun v=>markBefore_next hbi v
   have hbad:∀ Q:Prop,(SoundB f i f.blocks[i]->Q)->SoundF f->Q:=fun Q k h=>k (hSB i _ hbi h);have hphi:=hph i _ hbi
   have hat:∀ q,insAt f i q=f.blocks[i].ins[q]?:=fun q=>insAt_of hbi;have hsn:=fun h=>upto_snoc (P:=fun j y=>SoundB f j y) hBs hbi h
   have cthi:=fun(v:Int) (k:Nat)=>cth ht0 v (b:=i) (i:=k) hib;generalize f.blocks[i]=b at hRb hbi hils hals hnext hbad hphi hat hsn;obtain⟨ins,⟨kind,a,to,els⟩⟩:=b;obtain⟨_,rfl,⟨ni,is,nil,rfl,hil2,h5,hI,_⟩⟩:=hRb;simp only at h5 hils hals hI hnext hphi hat;cases t0
   ·
    repeat' (first|refine W.seq ?_|refine W.easy (k:=?_)|refine W.block ?_|refine W.skip ?_|refine W.ret ?_|(refine W.condL (h:=?_);change W _ _ _ _)|refine W.regS ?_|refine WS.done ?_|refine WS.pre (k:=?_)|refine WS.len (h:=?_)|refine WS.iaddr (h:=?_)|(refine WS.cmp (k1:=fun h=>?_) (k2:=fun h=>?_)<;>simp only[Zq]at h<;>(try(exfalso;omega)))|fail)
    refine kA _ _ ?_
    repeat' (first|refine Ret.ret (k:=?_)|fail)
    exact⟨_,_,_,rfl,iff_of_false (by simp) (hbad False fun h=>by have:=hrw.2 h.way;cases this)⟩
   have hway:=hrw.1 rfl
   repeat' (first|refine W.seq ?_|refine W.easy (k:=?_)|refine W.block ?_|refine W.skip ?_|(refine W.condL (h:=?_);change W _ _ _ _)|refine W.regS ?_|refine WS.done ?_|refine WS.pre (k:=?_)|refine WS.len (h:=?_)|refine WS.iaddr (h:=?_)|(refine WS.cmp (k1:=fun h=>?_) (k2:=fun h=>?_)<;>simp only[Zq]at h<;>(try(exfalso;omega)))|refine WS.consN (k:=?_)|fail)
   refine W.forA nil (fun k (es:List (Value×A)) σ=>sn 9 k (sm 1 es σ)) (fun k es=>(∃ks,MapI ks es/\ ∀v,v∈ks↔MarkBefore f i k v)/\ ∀(j:Nat) (y:TIns),j<k->ins[j]?=some y->SoundI f i j y) 0 (Nat.zero_le _) ?_ ?_
   ·exact⟨es,by cbv,⟨ks,hks,hkv⟩,upto_zero⟩
   clear hks hkv;clear ks;rintro QB kB k es2 hk ⟨⟨ks,hks,hkv⟩,hIs⟩;refine W.norm (k:=?_);unfold l38_1 ki kb vi mt mw ft ll lg lt iz og ov oo
   by_cases hkn:k<nil
   ·as_aux_lemma=>
     have hki:k<ins.length:=by omega
     obtain⟨ek,hek,hRk⟩:=hI.at k hki;have hxk:ins[k]?=some ins[k]:=Gg hki
     have hxa:=hals _ (Gm hki);have hatk:=hat k
     rw[hxk]at hatk;have hphk:=hphi k _ hxk
     have hsnI:=fun h=>upto_snoc (P:=fun j y=>SoundI f i j y) hIs hxk h;generalize ins[k]=x at*
     have cu:=uses_ok hRk (by omega);have cmk:=makes_ok hRk
     have hbadI:∀ Q:Prop,(SoundI f i k x->Q)->SoundF f->Q:=fun Q kk=>hbad Q fun h=>kk (h.ins k x hxk);have hmb:=markBefore_snoc hatk
     have hul:=uses_len x;have hu47:x.op=47->usesF x=x.args:=fun h=>by unfold usesF;rw[h];rfl
     have hma:MadeAt f (makesF x) i k:=⟨x,hatk,rfl⟩;obtain⟨op,dst,xa,xb,var,num,args⟩:=x;obtain⟨_,rfl,⟨na,as,nal,rfl,hal,h6,hA,_⟩⟩:=hRk;simp only at hxa h6 hul hu47 hmb
     repeat' (first|refine W.seq ?_|refine W.easy (k:=?_)|refine W.block ?_|refine W.skip ?_|refine W.ret ?_|refine W.frz (k:=?_)|(refine W.condL (h:=?_);change W _ _ _ _)|refine W.regS ?_|refine WS.done ?_|refine WS.pre (k:=?_)|(refine WS.guard (h:=?_);change WS _ _ _ _)|refine WS.len (h:=?_)|refine WS.iaddr (h:=?_)|(refine WS.cmp (k1:=fun h=>?_) (k2:=fun h=>?_)<;>simp only[Zq]at h<;>(try(exfalso;omega)))|refine WS.consN (k:=?_)|fail)
     all_goals try
      refine kB _ _ (kA _ _ ?_)
      repeat' (first|refine Ret.ret (k:=?_)|fail)
      exact⟨_,_,_,rfl,iff_of_false (by simp) (hbadI False fun h=>by have:=h.get;simp only[ne_eq]at this;omega)⟩
     refine WS.call (hc:=(cu)) (k:=?_);rintro _ _ ⟨nu,us,un,rfl,hn1,hnn,hU,_⟩;refine⟨_,_,_,by cbv;first|done|fail,by cbv;first|done|fail,?_⟩
     repeat' (first|refine W.seq ?_|refine W.easy (k:=?_)|refine W.block ?_|refine W.frz (k:=?_)|refine WS.done ?_|refine WS.consN (k:=?_)|fail)
     have hun:un=(usesF ⟨op,dst,xa,xb,var,num,args⟩).length:=hnn;refine W.forA un (fun q (_:Unit) σ=>sn 14 q σ) (fun q _=> ∀(j:Nat) (y:Int),j<q->(usesF ⟨op,dst,xa,xb,var,num,args⟩)[j]?=some y->UseP f i k ⟨op,dst,xa,xb,var,num,args⟩ j y) 0 (Nat.zero_le _) ?_ ?_
     ·exact⟨(),by cbv,upto_zero⟩
     rintro QC kC q _ hq hN;refine W.norm (k:=?_);unfold l38_0 ki kb mt mw fa ft ll lt iz ov oo
     by_cases hqn:q<un
     ·as_aux_lemma=>
       have hqu:q<(usesF ⟨op,dst,xa,xb,var,num,args⟩).length:=by omega
       obtain⟨eq,heq,rfl⟩:=hU.at q hqu;have hqy:(usesF ⟨op,dst,xa,xb,var,num,args⟩)[q]?=some (usesF ⟨op,dst,xa,xb,var,num,args⟩)[q]:=Gg hqu
       have hsnU:=fun h=>upto_snoc (P:=fun j y=>UseP f i k ⟨op,dst,xa,xb,var,num,args⟩ j y) hN hqy h;have hbadU:∀ Q:Prop,(UseP f i k ⟨op,dst,xa,xb,var,num,args⟩ q (usesF ⟨op,dst,xa,xb,var,num,args⟩)[q]->Q)->SoundF f->Q:=fun Q kk=>hbadI Q fun h=>kk (h.use q _ hqy)
       have hq47:op=47->q<args.length:=fun h=>by rw[<-hu47 h];exact hqu
       generalize (usesF ⟨op,dst,xa,xb,var,num,args⟩)[q]=y at*
       have c1:=cthi y k;have hU1:op≠47->(UseP f i k ⟨op,dst,xa,xb,var,num,args⟩ q y↔ThereP f y i k):=fun h=>by unfold UseP;rw[if_neg h]
       by_cases h47:op=47
       ·subst h47;obtain⟨w1,w2,wl,hwl1,hwl2⟩:=hphk.phi rfl;simp only at hwl2;have hqw:q<wl.length:=by rw[<-hwl2];exact hq47 rfl
        have hwlk:wl[q]?=some wl[q]:=Gg hqw;have hwr2:=hwr wl (Mg hwl1) _ (Gm hqw)
        have hiw:i<(waysF f).length:=(Ge hwl1).1;obtain⟨ew,hew,hC⟩:=hW.at i hiw;have hwe:(waysF f)[i]=wl:=by rw[Gg hiw]at hwl1;exact Option.some.inj hwl1
        rw[hwe]at hC;rcases hC with⟨_,rfl⟩|⟨old,rfl,hold⟩
        ·simp at hqw
        obtain⟨eo,heo,hoe⟩:=hold.at q hqw;generalize wl[q]=wv at*
        subst hoe;obtain⟨wb,rfl,hwb⟩:=intOf hwr2;have hol:=hold.len
        obtain⟨e2,he2,hR2⟩:=hb.at wb (by omega);have hb2:f.blocks[wb]?=some f.blocks[wb]:=Gg (by omega)
        have hil2:=hil wb _ hb2;generalize f.blocks[wb]=b2 at hR2 hb2 hil2;obtain⟨ins2,⟨kind2,a2,to2,els2⟩⟩:=b2;obtain⟨_,rfl,⟨ni2,is2,nil2,rfl,hil22,h52,hI2,_⟩⟩:=hR2;simp only at h52 hil2;have c2:=cth ht0 y (b:=wb) (i:=nil2) (by omega)
        have hU2:UseP f i k ⟨47,dst,xa,xb,var,num,args⟩ q y↔ThereP f y wb nil2:=by
         unfold UseP;rw[if_pos rfl];constructor
         ·rintro⟨l,w,k1,k2,k3⟩;rw[hwl1]at k1;cases k1;rw[hwlk]at k2;cases k2;have e:(Int.ofNat wb).toNat=wb:=rfl
          rw[e,hil2,<-h52]at k3;exact k3
         ·intro k3;refine⟨wl,_,hwl1,hwlk,?_⟩;have e:(Int.ofNat wb).toNat=wb:=rfl
          rw[e,hil2,<-h52];exact k3
        repeat' (first|refine W.seq ?_|refine W.block ?_|refine W.skip ?_|(refine W.condL (h:=?_);change W _ _ _ _)|refine W.regS ?_|refine WS.done ?_|refine WS.pre (k:=?_)|refine WS.len (h:=?_)|(refine WS.cmp (k1:=fun h=>?_) (k2:=fun h=>?_)<;>simp only[Zq]at h<;>(try(exfalso;omega)))|refine W.beginD (h:=?_)|refine WD.pre (k:=?_)|refine WD.iaddr (h:=?_)|fail)
        refine WD.call (hc:=(c1)) (k:=?_);rintro _ _ (⟨rfl,hp1⟩|⟨rfl,hp1⟩)
        all_goals
         refine⟨_,_,_,by cbv;first|done|fail,by cbv;first|done|fail,?_⟩
         repeat' (first|refine W.seq ?_|(refine W.condL (h:=?_);change W _ _ _ _)|refine W.regS ?_|refine WS.done ?_|refine WS.pre (k:=?_)|(refine WS.cmp (k1:=fun h=>?_) (k2:=fun h=>?_)<;>simp only[Zq]at h<;>(try(exfalso;omega)))|refine W.beginD (h:=?_)|(refine WD.done ⟨_,by cbv;first|done|fail,?_⟩;dsimp only)|refine WD.pre (k:=?_)|refine WD.len (h:=?_)|refine WD.iaddr (h:=?_)|refine WD.oneN (k:=?_)|fail)
         refine WD.call (hc:=(c2)) (k:=?_);rintro _ _ (⟨rfl,hp2⟩|⟨rfl,hp2⟩)
         all_goals
          refine⟨_,_,_,by cbv;first|done|fail,by cbv;first|done|fail,?_⟩
          repeat' (first|refine W.seq ?_|refine W.easy (k:=?_)|refine W.skip ?_|refine W.ret ?_|(refine W.condL (h:=?_);change W _ _ _ _)|refine W.regS ?_|refine WS.done ?_|refine WS.pre (k:=?_)|refine WS.inc (h:=?_)|refine WS.consN (k:=?_)|(refine WD.done ⟨_,by cbv;first|done|fail,?_⟩;dsimp only)|refine WD.oneN (k:=?_)|fail)
        ·exact⟨by omega,(),by cbv,hsnU (hU2.2 hp2)⟩
        ·refine kC _ _ (kB _ _ (kA _ _ ?_))
         repeat' (first|refine Ret.ret (k:=?_)|fail)
         exact⟨_,_,_,rfl,iff_of_false (by simp) (hbadU False fun h=>hp2 (hU2.1 h))⟩
        ·exact⟨by omega,(),by cbv,hsnU (hU2.2 hp2)⟩
        ·refine kC _ _ (kB _ _ (kA _ _ ?_))
         repeat' (first|refine Ret.ret (k:=?_)|fail)
         exact⟨_,_,_,rfl,iff_of_false (by simp) (hbadU False fun h=>hp2 (hU2.1 h))⟩
       ·
        repeat' (first|refine W.seq ?_|refine W.block ?_|refine W.skip ?_|(refine W.condL (h:=?_);change W _ _ _ _)|refine W.regS ?_|refine WS.done ?_|refine WS.pre (k:=?_)|refine WS.len (h:=?_)|(refine WS.cmp (k1:=fun h=>?_) (k2:=fun h=>?_)<;>simp only[Zq]at h<;>(try(exfalso;omega)))|refine W.beginD (h:=?_)|refine WD.pre (k:=?_)|refine WD.iaddr (h:=?_)|fail)
        refine WD.call (hc:=(c1)) (k:=?_);rintro _ _ (⟨rfl,hp1⟩|⟨rfl,hp1⟩)
        all_goals
         refine⟨_,_,_,by cbv;first|done|fail,by cbv;first|done|fail,?_⟩
         repeat' (first|refine W.seq ?_|refine W.easy (k:=?_)|refine W.skip ?_|refine W.ret ?_|(refine W.condL (h:=?_);change W _ _ _ _)|refine W.regS ?_|refine WS.done ?_|refine WS.pre (k:=?_)|(refine WS.cmp (k1:=fun h=>?_) (k2:=fun h=>?_)<;>simp only[Zq]at h<;>(try(exfalso;omega)))|refine WS.inc (h:=?_)|refine WS.consN (k:=?_)|(refine WD.done ⟨_,by cbv;first|done|fail,?_⟩;dsimp only)|refine WD.oneN (k:=?_)|fail)
        ·exact⟨by omega,(),by cbv,hsnU ((hU1 h47).2 hp1)⟩
        ·refine kC _ _ (kB _ _ (kA _ _ ?_))
         repeat' (first|refine Ret.ret (k:=?_)|fail)
         exact⟨_,_,_,rfl,iff_of_false (by simp) (hbadU False fun h=>hp1 ((hU1 h47).1 h))⟩
     ·have hallU:=upto_all hN (by omega);have hmk:=fun a b c=>hsnI (SoundI.mk a hallU b c)
      simp only at hmk;have hFM:∀ p q,FirstMade f (makesF ⟨op,dst,xa,xb,var,num,args⟩) p q->(FirstMade f (makesF ⟨op,dst,xa,xb,var,num,args⟩) i k↔p=i/\q=k):=fun p q h=>⟨fun h'=>firstMade_eq h h',fun hh=>by rw[<-hh.1,<-hh.2];exact h⟩
      have hbadM:0<=makesF ⟨op,dst,xa,xb,var,num,args⟩-> ∀Q:Prop,(FirstMade f (makesF ⟨op,dst,xa,xb,var,num,args⟩) i k->Q)->SoundF f->Q:=fun h0 Q kk=>hbadI Q fun h=>kk (h.made h0);have hbadK:op=45-> ∀Q:Prop,(¬MarkBefore f i k num->Q)->SoundF f->Q:=fun h0 Q kk=>hbadI Q fun h=>kk (h.mark h0)
      have cmm:=fun v=>cm v;generalize makesF ⟨op,dst,xa,xb,var,num,args⟩=mv at*
      have hks45:op≠45-> ∀v,v∈ks↔MarkBefore f i (k+1) v:=fun h v=>(hkv v).trans ((hmb v).trans (or_iff_left fun hh=>h hh.1)).symm;have hks1:op=45-> ∀ks':List Int,(∀v,v∈ks'↔v∈ks\/v=num)-> ∀v,v∈ks'↔MarkBefore f i (k+1) v:=fun h ks' hk' v=>(hk' v).trans ((or_congr (hkv v) ⟨fun e=>⟨h,e⟩,fun e=>e.2⟩).trans (hmb v).symm)
      have hkn:=hkv num
      repeat' (first|refine W.seq ?_|refine W.exit ?_|(refine W.condL (h:=?_);change W _ _ _ _)|refine W.regS ?_|refine WS.done ?_|refine WS.pre (k:=?_)|refine WS.len (h:=?_)|(refine WS.cmp (k1:=fun h=>?_) (k2:=fun h=>?_)<;>simp only[Zq]at h<;>(try(exfalso;omega)))|fail)
      refine kC _ _ ?_
      repeat' (first|refine W.seq ?_|refine W.regS ?_|refine WS.pre (k:=?_)|fail)
      refine WS.call (hc:=(cmk)) (k:=?_);rintro _ _ rfl;refine⟨_,_,_,by cbv;first|done|fail,by cbv;first|done|fail,?_⟩
      repeat' (first|refine W.seq ?_|refine W.easy (k:=?_)|refine W.skip ?_|refine W.ret ?_|(refine W.condL (h:=?_);change W _ _ _ _)|refine W.regS ?_|refine WS.done ?_|refine WS.pre (k:=?_)|(refine WS.cmp (k1:=fun h=>?_) (k2:=fun h=>?_)<;>simp only[Zq]at h<;>(try(exfalso;omega)))|refine WS.inc (h:=?_)|refine WS.lookI (h:=fun hin=>?_) (h0:=fun hin=>?_)|refine WS.upI (h:=fun ks' es' hks' hkv'=>?_)|refine WS.consN (k:=?_)|fail)
      ·
       refine WS.call (hc:=(cmm mv)) (k:=?_);rintro _ _ (⟨p',q',rfl,hfm⟩|⟨rfl,hno⟩)
       ·have hFM':=hFM p' q' hfm;refine⟨_,_,_,by cbv;first|done|fail,by cbv;first|done|fail,?_⟩
        repeat' (first|refine W.seq ?_|refine W.easy (k:=?_)|refine W.skip ?_|refine W.ret ?_|(refine W.condL (h:=?_);change W _ _ _ _)|refine W.regS ?_|refine WS.done ?_|refine WS.pre (k:=?_)|(refine WS.guard (h:=?_);change WS _ _ _ _)|(refine WS.cmp (k1:=fun h=>?_) (k2:=fun h=>?_)<;>simp only[Zq]at h<;>(try(exfalso;omega)))|refine WS.inc (h:=?_)|refine WS.lookI (h:=fun hin=>?_) (h0:=fun hin=>?_)|refine WS.upI (h:=fun ks' es' hks' hkv'=>?_)|refine WS.consN (k:=?_)|fail)
        all_goals try
         refine kB _ _ (kA _ _ ?_)
         repeat' (first|refine Ret.ret (k:=?_)|fail)
         first
          |exact⟨_,_,_,rfl,iff_of_false (by simp) (hbadM (by omega) False fun h=>by have:=hFM'.1 h;omega)⟩
          |exact⟨_,_,_,rfl,iff_of_false (by simp) (hbadK (by omega) False fun h=>h (hkn.1 hin))⟩
        ·exact⟨by omega,es',by cbv,⟨ks',hks',hks1 (by omega) ks' hkv'⟩,hmk ⟨by omega,by omega⟩ (fun _=>hFM'.2 ⟨by omega,by omega⟩) (fun _ h=>hin (hkn.2 h))⟩
        ·exact⟨by omega,es2,by cbv,⟨ks,hks,hks45 (by omega)⟩,hmk ⟨by omega,by omega⟩ (fun _=>hFM'.2 ⟨by omega,by omega⟩) (fun h=>(by omega))⟩
       ·exact absurd hma (hno i k)
      all_goals try
       refine kB _ _ (kA _ _ ?_)
       repeat' (first|refine Ret.ret (k:=?_)|fail)
       exact⟨_,_,_,rfl,iff_of_false (by simp) (hbadK (by omega) False fun h=>h (hkn.1 hin))⟩
      ·exact⟨by omega,es',by cbv,⟨ks',hks',hks1 (by omega) ks' hkv'⟩,hmk ⟨by omega,by omega⟩ (fun h=>(by omega)) (fun _ h=>hin (hkn.2 h))⟩
      ·exact⟨by omega,es2,by cbv,⟨ks,hks,hks45 (by omega)⟩,hmk ⟨by omega,by omega⟩ (fun h=>(by omega)) (fun h=>(by omega))⟩
   ·have hall:=upto_all hIs (by omega);have hkl:k=ins.length:=by omega
    have hnx:∀ v,v∈ks↔MarkBefore f (i+1) 0 v:=fun v=>(hkv v).trans (by rw[hkl];exact(hnext v).symm);have c3:=cthi a nil
    have hbadT:kind≠1->0<=a-> ∀Q:Prop,(ThereP f a i nil->Q)->SoundF f->Q:=fun h1 h2 Q kk=>hbad Q fun h=>kk (by rw[h5];exact h.term h1 h2);have hmkB:=fun h=>hsn (SoundB.mk hway hall h)
    simp only[<-h5]at hmkB
    repeat' (first|refine W.seq ?_|refine W.exit ?_|(refine W.condL (h:=?_);change W _ _ _ _)|refine W.regS ?_|refine WS.done ?_|refine WS.pre (k:=?_)|refine WS.len (h:=?_)|(refine WS.cmp (k1:=fun h=>?_) (k2:=fun h=>?_)<;>simp only[Zq]at h<;>(try(exfalso;omega)))|fail)
    refine kB _ _ ?_
    repeat' (first|refine W.seq ?_|refine W.skip ?_|(refine W.condL (h:=?_);change W _ _ _ _)|refine W.regS ?_|refine WS.done ?_|refine WS.pre (k:=?_)|(refine WS.guard (h:=?_);change WS _ _ _ _)|refine WS.len (h:=?_)|refine WS.iaddr (h:=?_)|(refine WS.cmp (k1:=fun h=>?_) (k2:=fun h=>?_)<;>simp only[Zq]at h<;>(try(exfalso;omega)))|refine WS.inc (h:=?_)|refine WS.consN (k:=?_)|fail)
    all_goals try
     refine WS.call (hc:=(c3)) (k:=?_);rintro _ _ (⟨rfl,hp3⟩|⟨rfl,hp3⟩)
     all_goals
      refine⟨_,_,_,by cbv;first|done|fail,by cbv;first|done|fail,?_⟩
      repeat' (first|refine W.seq ?_|refine W.skip ?_|refine W.ret ?_|(refine W.condL (h:=?_);change W _ _ _ _)|refine W.regS ?_|refine WS.done ?_|refine WS.pre (k:=?_)|refine WS.len (h:=?_)|refine WS.inc (h:=?_)|refine WS.consN (k:=?_)|fail)
    all_goals first
     |exact⟨by omega,es2,by cbv,⟨ks,hks,hnx⟩,hmkB fun h1 h2=>(by first|exact hp3|(exfalso;simp only[ne_eq]at h1;omega))⟩
     | (refine kA _ _ ?_
        repeat' (first|refine Ret.ret (k:=?_)|fail)
        exact⟨_,_,_,rfl,iff_of_false (by simp) (hbadT (by omega) (by omega) False fun h=>hp3 h)⟩)
 ·have hall:=upto_all hBs (by omega)
  repeat' (first|refine W.seq ?_|refine W.exit ?_|(refine W.condL (h:=?_);change W _ _ _ _)|refine W.regS ?_|refine WS.done ?_|refine WS.pre (k:=?_)|refine WS.len (h:=?_)|(refine WS.cmp (k1:=fun h=>?_) (k2:=fun h=>?_)<;>simp only[Zq]at h<;>(try(exfalso;omega)))|fail)
  refine kA _ _ ?_
  repeat' (first|refine W.seq ?_|refine W.easy (k:=?_)|refine W.ret ?_|refine Ret.ret (k:=?_)|fail)
  exact⟨_,_,_,rfl,iff_of_true rfl (hSF hall)⟩
/-- What is known of a unit that runs. -/
structure RunCtx(c:RunK)(u:TUnit):Prop where
 fs:RowR FuncR u.funcs c.fs
 ps:RowR PointR u.points c.ps
 ws:RowR WayR (u.funcs.map waysF) c.ws
 first:c.first=0
 may:MayP u
 get:∀ f,f∈u.funcs-> ∀b,b∈f.blocks-> ∀x,x∈b.ins->x.op≠34/\x.op≠35
 few:∀ f,f∈u.funcs->f.vars.length<=6000/\ ∀b,b∈f.blocks->b.ins.length<=6000
 args:∀ f,f∈u.funcs-> ∀b,b∈f.blocks-> ∀x,x∈b.ins->x.args.length<=2000000
 scope:∀ p,p∈u.points->p.scope.length<=100000000
 ways:∀ f,f∈u.funcs-> ∀l,l∈waysF f->l.length<=1000000
/-- What a call does, so far as k. -/
def CallStmt(c:RunK)(u:TUnit)(k:Nat):Prop:=∀ (deep:Int) (n:Nat) (f:TFunc) (args:List Int) (s:RS) (rc:List A) (ar:A),u.funcs[n]?=some f->(args.length:Int)=f.params->RunR c s rc->SlN 1 IntR args ar->s.over=false->s.left<k->0<=deep/\deep<=5001-> -(5002-deep)*20000-20000<=s.left->(s.ev.length:Int)+3*s.left<=100000000->0<=s.fuel/\s.fuel<=1000000000->s.inp.length<=1000000000->s.left<=100000000->
  WC E 58 [.pt 0 0,.v (.int .i64 (Int.ofNat n)),ar,.v (.int .i64 deep)] [.cells rc] (CallR c (callP u k deep (Int.ofNat n) args s))
/-- What holds at a round's beginning. -/
structure LoopK(f:TFunc)(args:List Int)(deep:Int)(k i:Nat)(x:Fr)(s:RS)(b:Nat):Prop where
 ok:FrOK f args x
 blk:b<f.blocks.length
 up:s.left<=(k:Int)-i
 low:-(5002-deep)*20000-20000<=s.left
 pot:(s.ev.length:Int)+3*s.left<=100000000
 fuel:0<=s.fuel/\s.fuel<=1000000000
 inp:s.inp.length<=1000000000
 left:s.left<=100000000
/-- What holds between a block's instructions. -/
structure LoopJ(f:TFunc)(args:List Int)(B:Int)(m:Nat)(s1:RS)(q:Nat)(x:Fr)(s:RS):Prop where
 ok:FrOK f args x
 len:q<=m
 low:s.over=false-> -B-q<=s.left
 low':-B-q-6000<=s.left
 goes:Goes s1 s
theorem goes_one{s:RS}:Goes s {s with left:=s.left-1}:=⟨fun h=>⟨h,Int.le_refl _⟩,Nat.le_refl _,by simp only;omega,fun _=>by simp only;omega,by simp only;omega⟩
theorem round_ok{c:RunK}{u:TUnit}(h:RunCtx c u){k:Nat}(ih:1<=k->CallStmt c u k){deep:Int}{n:Nat}{f:TFunc}{args:List Int}(hf:u.funcs[n]?=some f)(hdp:0<=deep/\deep<=5000){d:FrK}(hdn:d.n=Int.ofNat n)(hda:SlN 1 IntR args d.args)(hV:RowR VarR f.vars d.vs)(hB:RowR BlockR f.blocks d.bs)
  {i:Nat} {x:Fr} {s:RS} {b:Nat} {fr way:Int} (hK:LoopK f args deep k i x s b) (ho:s.over=false) (h0:0<s.left):
  ∃blk,f.blocks[b]?=some blk/\RoundP c d u f args (callP u k (deep+1)) deep (fun x s b _ _=>LoopK f args deep k (i+1) x s b) x s b fr way blk:=by
 have hfm:=Mg hf;have hFP:=h.may.funcs n f hf
 obtain⟨hfv,hfi⟩:=h.few f hfm;have hblk:f.blocks[b]?=some (f.blocks[b]'hK.blk):=Gg hK.blk
 generalize f.blocks[b]'hK.blk=blk at hblk;have hbm:=Mg hblk
 have hbi:=hfi blk hbm;have hwlen:(waysF f).length=f.blocks.length:=by unfold waysF;rw[waysTo_len,List.length_replicate]
 have hwb:(waysF f)[b]?=some ((waysF f).getD b []):=by
  have h1:b<(waysF f).length:=by rw[hwlen];exact hK.blk
  rw[List.getD_eq_getElem?_getD,Gg h1,Option.getD_some]
 generalize hwle:(waysF f).getD b []=wl at hwb;have hwm:=Mg hwb
 have hdi:Inert d.args:=by
  rcases hda with⟨h1,_⟩|h1
  ·rw[h1];exact Inert.v _
  ·exact SlA.inert h1
 have hins:=hFP.ins b blk hblk;have hgoesC:∀ n l (s':RS),s'.over=false->Goes s' (callP u k (deep+1) n l s').2:=fun n l s' h'=>callP_goes u k (deep+1) n l s' h'
 have hlowC:∀ n l (s':RS),s'.over=false->Low ((5002-(deep+1))*20000) s' (callP u k (deep+1) n l s').2:=fun n l s' h'=>callP_low h.few k (deep+1) n l s' h';have hB0:(5002-(deep+1))*20000=(5001-deep)*20000:=by omega
 rw[hB0]at hlowC;generalize hBB:(5001-deep)*20000=B at hlowC;have hBr:0<=B/\B<=100020000:=by omega
 have hup:=hK.up;have hk1:1<=k:=by omega
 have hpot:=hK.pot;have hfu:=hK.fuel
 have hin:=hK.inp;have hlf:=hK.left
 refine⟨blk,hblk,by omega,?_,?_⟩
 ·intro rc fc hR hF;rw[hwle];refine phis_ok hR hF hdi hdn hf h.ws hB hwb hblk (ways_range wl hwm) (h.ways f hfm wl hwm) (by omega) ?_;intro y hy hop;obtain⟨q,hq⟩:=List.getElem?_of_mem hy;have hI:=hins q y hq
  obtain⟨_,_,w,hw1,hw2⟩:=hI.phi hop;rw[hwb]at hw1;obtain rfl:=Option.some.inj hw1;have hvl:=hK.ok.v
  refine⟨hw2,fun v hv=>?_,?_⟩
  ·have hu:=hI.uses v (by
    unfold usesF
    rw[if_neg (by omega),if_neg (by omega),if_pos (.inr hop)]
    exact hv)
   omega
  ·have hm:=hI.makes
   have e:makesF y=y.dst:=by
    unfold makesF;exact if_neg (by omega)
   rw[e]at hm;have:¬ y.dst<0:=fun hd=>(hm.2.2 hd).elim (by omega) fun hn=>hn (by unfold makesB;omega)
   omega
 ·rw[hwle];have hx1:FrOK f args {x with v:=phisP f wl fr way blk.ins x.v}:=phis_frok hK.ok _ _ _ _
  have hg1:(0:Int)<=s.left-1:=by omega
  generalize {x with v:=phisP f wl fr way blk.ins x.v}=x1 at hx1;refine⟨LoopJ f args B blk.ins.length {s with left:=s.left-1},⟨hx1,Nat.zero_le _,fun _=>by simp only;omega,by simp only;omega,Goes.refl _⟩,?_,?_,?_,?_,?_⟩
  ·intro q x' s' hJ;have h1:=hJ.low'
   have h2:=hJ.goes.left;have h3:=hJ.len
   simp only at h2;omega
  ·intro q y x' s' hq h47 hJ ho';have h1:=hJ.low ho'
   have hql:=(Ge hq).1;exact⟨hJ.ok,hql,fun _=>by simp only;omega,by simp only;omega,hJ.goes.trans goes_one ho'⟩
  ·intro q y x' s' hq h47 hJ ho';have h1:=hJ.low ho'
   have hql:=(Ge hq).1;have h2:=oneP_low (call:=callP u k (deep+1)) (u:=u) (f:=f) (args:=args) (i:=y) (x:=x') (s:={s' with left:=s'.left-1}) (B:=B) hlowC ho'
   have h3:=oneP_goes (call:=callP u k (deep+1)) (u:=u) (f:=f) (args:=args) (i:=y) (x:=x') ho' hgoesC;refine⟨oneP_frok hJ.ok,hql,?_,?_,hJ.goes.trans h3 ho'⟩
   ·intro ho2;rcases h2 with h2|h2
    ·rw[h2];simp only
     omega
    ·have:=h2.1 ho2;omega
   ·rcases h2 with h2|h2
    ·rw[h2];simp only
     omega
    ·have h4:=h2.2;simp only at h4;omega
  ·intro q y x' s' rc fc e hq h47 hJ ho' hR hF hi;have h1:=hJ.low ho'
   have hql:=(Ge hq).1;have g1:=hJ.goes.fuel hfu.1
   have g2:=hJ.goes.inp;have g3:=hJ.goes.left
   have g4:=hJ.goes.pot ho';simp only at g1 g2 g3 g4;have hym:=Mg hq
   refine one_ok (n:=n) (b:=b) (q:=q) (l:=blk.ins) hi hR hF hda hJ.ok (hins q y hq) (h.get f hfm blk hbm y hym) h47 (h.args f hfm blk hbm y hym) h.ps hV ?_ h.scope ?_ (by omega) (by simp only;omega) (by simp only;omega) (by simp only;omega) ?_
   ·intro p hp hpn v hv;obtain⟨j,hj⟩:=List.getElem?_of_mem hp;obtain⟨_,f',hf',hs⟩:=h.may.points j p hj;rw[hpn,Int.toNat_natCast,hf]at hf';obtain rfl:=Option.some.inj hf';exact hs v hv
   ·intro t ht;obtain⟨j,hj⟩:=List.getElem?_of_mem ht;exact(h.may.vars n f hf j t hj).2
   ·intro h42;have hkn:=(hins q y hq).known
    unfold knownP at hkn;rw[if_neg (by omega),if_neg (by omega),if_neg (by omega),if_neg (by omega),if_neg (by omega),if_neg (by omega),if_pos h42]at hkn;obtain⟨hn0,g,hg,hgl⟩:=hkn;have ht1:(({s' with left:=s'.left-1}:RS).tell (ev0 3 0 y.num)).ev.length=s'.ev.length+1:=by simp[RS.tell]
    have ht2:(({s' with left:=s'.left-1}:RS).tell (ev0 3 0 y.num)).left=s'.left-1:=rfl;have ht3:(({s' with left:=s'.left-1}:RS).tell (ev0 3 0 y.num)).fuel=s'.fuel:=rfl
    have ht4:(({s' with left:=s'.left-1}:RS).tell (ev0 3 0 y.num)).inp=s'.inp:=rfl;have ht5:(({s' with left:=s'.left-1}:RS).tell (ev0 3 0 y.num)).over=s'.over:=rfl
    generalize ({s' with left:=s'.left-1}:RS).tell (ev0 3 0 y.num)=s2 at*
    constructor
    ·intro rc' ar hR' hA;obtain⟨j,hj⟩:=Int.eq_ofNat_of_zero_le hn0;have hjn:y.num=Int.ofNat j:=hj
     rw[hjn]at hg ⊢
     have hcs:=ih hk1 (deep+1) j g (y.args.map (gi x'.v)) s2 rc' ar hg (by rw[List.length_map];exact hgl) hR' (.inr hA) (by rw[ht5];exact ho') (by omega) (by omega) (by omega) (by omega) (by rw[ht3];omega) (by rw[ht4];omega) (by omega);exact hcs
    ·have hgo:=(hgoesC y.num (y.args.map (gi x'.v)) s2 (by rw[ht5];exact ho')).pot1;have hlo:=(hlowC y.num (y.args.map (gi x'.v)) s2 (by rw[ht5];exact ho')).2
     omega
  ·intro q x' s' hJ _ ho';have hT:=hFP.term b blk hblk
   have hv:=hJ.ok.v;have hk:=hT.kind
   have g1:=hJ.goes.fuel hfu.1;have g2:=hJ.goes.inp
   have g3:=hJ.goes.left;have g4:=hJ.goes.pot ho'
   have g5:=hJ.low ho';have g6:=hJ.len
   simp only at g1 g2 g3 g4;have hnk:∀ (t:Nat),t<f.blocks.length->LoopK f args deep k (i+1) x' s' t:=fun t ht=>⟨hJ.ok,ht,by omega,by omega,by omega,by omega,by omega,by omega⟩
   have hnx:∀ v,v∈nextF blk.term-> ∃t:Nat,v=t/\LoopK f args deep k (i+1) x' s' t:=fun v hv=>by
    have hr:=hT.next v hv;obtain⟨j,hj⟩:=Int.eq_ofNat_of_zero_le hr.1;exact⟨j,hj,hnk j (by omega)⟩
   refine⟨fun _ _=>by omega,fun _=>by omega,fun h3=>hnx _ ?_,fun h2=>hnx _ ?_⟩
   ·unfold nextF;split
    ·exact List.mem_cons_self
    ·rw[if_pos (by omega)];exact List.mem_cons_self
   ·unfold nextF;rw[if_neg (by omega),if_pos h2];exact List.mem_cons_of_mem _ List.mem_cons_self
theorem call_step{c:RunK}{u:TUnit}(h:RunCtx c u)(k:Nat)(ih:1<=k->CallStmt c u k):CallStmt c u (k+1):=by
  intro deep n f args s rc ar hf hal hR har ho hk hdp hlow hpot hfu hin hlf;have hcF:=h.fs
  obtain⟨nf,fs,main,np,ps,ws,first⟩:=c;have hfirst:first=0:=h.first
  subst hfirst;have h0c:=h
  have hnl:=(Ge hf).1;obtain⟨ef,hef,hFf⟩:=hcF.at n hnl;have hfe:u.funcs[n]=f:=by rw[Gg hnl]at hf;exact Option.some.inj hf
  rw[hfe]at hFf;have hfm:=Mg hf
  obtain⟨hfv,hfi⟩:=h.few f hfm;have hF0:=hFf
  have hcallP:callP u (k + 1) deep (Int.ofNat n) args s = (if s.left - f.vars.length <= 0 \/ 5000 < deep then (0,endsP 9 { s with left:=s.left - f.vars.length,long:=true })
   else loopP (callP u k (deep+1)) u f args deep (k+1) (fr0 f) {s with left:=s.left-f.vars.length} 0 (-1) 0):=by
   rw[callP];simp only[show(Int.ofNat n).toNat=n from rfl,hf]
  rw[hcallP];have hR0:=hR
  obtain⟨a,l,rfl,ha,hl⟩:=hR;obtain⟨ni,ei,li,rfl,hli,h7,hinR,hinl⟩:=ha;obtain⟨inp,fuel,left,ev,over,long⟩:=s;simp only at ho hk hlow hpot hfu hin hlf h7 hinR hl;subst ho;have hfl:(f.vars.length:Int)<=6000:=by omega
  obtain⟨name,params,result,vars,blocks,size⟩:=f;obtain⟨_,_,rfl,⟨nv,vs,nvl,rfl,hvl,h3,hv,_⟩,⟨nb,bs,nbl,rfl,hbl,h4,hb,_⟩⟩:=hFf;simp only at h3 h4 hv hb hfl;have hli':=hl.inert
  have hwd:∀ t,t∈vars->0<=t.words/\t.words<=16:=fun t ht=>by
   obtain⟨k',hk'⟩:=List.getElem?_of_mem ht;have:=h.may.vars n _ hf k' t hk'
   omega
  have hszc:=(h.may.funcs n _ hf).head;simp only at hszc;have har0:=har
  rcases har with⟨rfl,_⟩|⟨nar,ear,lar,rfl,_⟩
  all_goals
   refine WC.enter rfl rfl rfl ?_;unfold b58 ki kb vi mt mw fa ft ll lg lt iz og ov oo;simp only[RunK.cells]at hR0 ⊢
   repeat' (first|refine W.seq ?_|refine W.easy (k:=?_)|refine W.block ?_|refine W.skip ?_|refine W.frz (k:=?_)|(refine W.condL (h:=?_);change W _ _ _ _)|refine W.regS ?_|refine WS.done ?_|refine WS.pre (k:=?_)|(refine WS.guard (h:=?_);change WS _ _ _ _)|refine WS.iaddr (h:=?_)|(refine WS.cmp (k1:=fun h=>?_) (k2:=fun h=>?_)<;>simp only[Zq]at h<;>(try(exfalso;omega)))|refine WS.consN (k:=?_)|refine W.beginD (h:=?_)|(refine WD.done ⟨_,by cbv;first|done|fail,?_⟩;dsimp only)|refine WD.pre (k:=?_)|refine WD.len (h:=?_)|refine WD.oneN (k:=?_)|refine WD.mk' (k:=fun r hr=>?_)|(refine WD.sbt (h:=fun c hc=>?_)<;>(try simp only[oC]at hc))|fail)
  ·have hcond:left-(vars.length:Int)<=0\/5000<deep:=by omega
   have hce:left-(vars.length:Int)=c:=by omega
   have hRe:RunR ⟨nf,fs,main,np,ps,ws,0⟩ ⟨inp,fuel,c,ev,false,true⟩ _:=⟨_,_,rfl,⟨ni,ei,li,rfl,hli,h7,hinR,hinl⟩,hl⟩;refine WS.call1 (i1:=RunR.inert hRe) (hc:=ends2 (k:=9) hRe (by simp only;omega)) (kq:=?_);rintro _ _ ⟨rfl,e1,rfl,hR'⟩;have hj1:=RunR.inert hR'
   have hR1:=hR';obtain⟨a2,l2,rfl,ha2,hl2⟩:=hR';refine⟨_,_,rfl,hj1,rfl,fun _=>rfl,_,_,by cbv;first|done|fail,by cbv;first|done|fail,?_⟩
   repeat' (first|refine W.seq ?_|refine W.easy (k:=?_)|refine W.ret ?_|refine Ret.ret (k:=?_)|refine WS.done ?_|fail)
   rw[if_pos hcond,hce];exact⟨rfl,_,_,rfl,hR1⟩
  ·have hcond:left-(vars.length:Int)<=0\/5000<deep:=by omega
   have hce:left-(vars.length:Int)=c:=by omega
   have hRe:RunR ⟨nf,fs,main,np,ps,ws,0⟩ ⟨inp,fuel,c,ev,false,true⟩ _:=⟨_,_,rfl,⟨ni,ei,li,rfl,hli,h7,hinR,hinl⟩,hl⟩;refine WS.call1 (i1:=RunR.inert hRe) (hc:=ends2 (k:=9) hRe (by simp only;omega)) (kq:=?_);rintro _ _ ⟨rfl,e1,rfl,hR'⟩;have hj1:=RunR.inert hR'
   have hR1:=hR';obtain⟨a2,l2,rfl,ha2,hl2⟩:=hR';refine⟨_,_,rfl,hj1,rfl,fun _=>rfl,_,_,by cbv;first|done|fail,by cbv;first|done|fail,?_⟩
   repeat' (first|refine W.seq ?_|refine W.easy (k:=?_)|refine W.ret ?_|refine Ret.ret (k:=?_)|refine WS.done ?_|fail)
   rw[if_pos hcond,hce];exact⟨rfl,_,_,rfl,hR1⟩
  ·refine callI1 hli' (.inl rfl) hv hvl h3 hwd (by omega) ?_;intro yw yk hyw hyk;refine W.norm (k:=?_)
   repeat' (first|refine W.seq ?_|refine W.easy (k:=?_)|refine W.block ?_|fail)
   refine callI2 (sz:=size.toNat) (.inl rfl) (by rw[<-hr];exact RowR.replicate (R:=IntR) rfl _) rfl (by omega) ?_;intro q hq;refine W.norm (k:=?_)
   repeat' (first|refine W.seq ?_|refine W.easy (k:=?_)|refine W.block ?_|fail)
   have hce:left-(vars.length:Int)=c:=by omega
   subst h3
   refine callLoop (c:=⟨nf,fs,main,np,ps,ws,0⟩) (d:=⟨Int.ofNat n,name,params,result,nv,vs,nb,bs,size,.v (.slice none 0 0)⟩) (u:=u) (f:=⟨name,params,result,vars,blocks,size⟩) (args:=args) (call:=callP u k (deep+1)) (k:=k) (x:=fr0 ⟨name,params,result,vars,blocks,size⟩) (s:=⟨inp,fuel,c,ev,false,long⟩) (fun i x s b _ _=>LoopK ⟨name,params,result,vars,blocks,size⟩ args deep k i x s b) (.inl rfl) (Inert.v _) hb ⟨_,_,rfl,⟨ni,ei,li,rfl,hli,h7,hinR,hinl⟩,hl⟩ ⟨q,yw,yk,rfl,hq,hyw,hyk⟩ (by omega) ⟨fr0_ok hszc.2.2.1 (fun t ht=>(hwd t ht).1) hal,by simp only;omega,by simp only;omega,by simp only;omega,by simp only;omega,hfu,hin,by simp only;omega⟩ (fun i x' s' b fr way hK=>?_) (fun i x' s' b fr way hK ho h0=>round_ok h0c ih hf ⟨hdp.1,by omega⟩ rfl har0 hv hb hK ho h0) ?_ ?_
   ·have h1:=hK.up;have h2:=hK.low
    have h3:=hK.left;have h4:=hK.pot
    omega
   ·intro rc' fc' s' b fr way hR' hP;rw[if_neg (by omega),hce,hP];refine W.norm (k:=?_)
    repeat' (first|refine W.seq ?_|refine W.easy (k:=?_)|refine W.ret ?_|refine Ret.ret (k:=?_)|fail)
    exact⟨rfl,_,_,rfl,hR'⟩
   ·intro a0 a1 a2 a3 more rc' bx' s' v hR' hP;rw[if_neg (by omega),hce,hP];exact Ret.ret (k:=⟨rfl,_,_,rfl,hR'⟩)
  ·have hcond:left-(vars.length:Int)<=0\/5000<deep:=by omega
   have hce:left-(vars.length:Int)=c:=by omega
   have hRe:RunR ⟨nf,fs,main,np,ps,ws,0⟩ ⟨inp,fuel,c,ev,false,true⟩ _:=⟨_,_,rfl,⟨ni,ei,li,rfl,hli,h7,hinR,hinl⟩,hl⟩;refine WS.call1 (i1:=RunR.inert hRe) (hc:=ends2 (k:=9) hRe (by simp only;omega)) (kq:=?_);rintro _ _ ⟨rfl,e1,rfl,hR'⟩;have hj1:=RunR.inert hR'
   have hR1:=hR';obtain⟨a2,l2,rfl,ha2,hl2⟩:=hR';refine⟨_,_,rfl,hj1,rfl,fun _=>rfl,_,_,by cbv;first|done|fail,by cbv;first|done|fail,?_⟩
   repeat' (first|refine W.seq ?_|refine W.easy (k:=?_)|refine W.ret ?_|refine Ret.ret (k:=?_)|refine WS.done ?_|fail)
   rw[if_pos hcond,hce];exact⟨rfl,_,_,rfl,hR1⟩
  ·have hcond:left-(vars.length:Int)<=0\/5000<deep:=by omega
   have hce:left-(vars.length:Int)=c:=by omega
   have hRe:RunR ⟨nf,fs,main,np,ps,ws,0⟩ ⟨inp,fuel,c,ev,false,true⟩ _:=⟨_,_,rfl,⟨ni,ei,li,rfl,hli,h7,hinR,hinl⟩,hl⟩;refine WS.call1 (i1:=RunR.inert hRe) (hc:=ends2 (k:=9) hRe (by simp only;omega)) (kq:=?_);rintro _ _ ⟨rfl,e1,rfl,hR'⟩;have hj1:=RunR.inert hR'
   have hR1:=hR';obtain⟨a2,l2,rfl,ha2,hl2⟩:=hR';refine⟨_,_,rfl,hj1,rfl,fun _=>rfl,_,_,by cbv;first|done|fail,by cbv;first|done|fail,?_⟩
   repeat' (first|refine W.seq ?_|refine W.easy (k:=?_)|refine W.ret ?_|refine Ret.ret (k:=?_)|refine WS.done ?_|fail)
   rw[if_pos hcond,hce];exact⟨rfl,_,_,rfl,hR1⟩
  ·refine callI1 hli' (.inr ⟨_,_,rfl⟩) hv hvl h3 hwd (by omega) ?_;intro yw yk hyw hyk;refine W.norm (k:=?_)
   repeat' (first|refine W.seq ?_|refine W.easy (k:=?_)|refine W.block ?_|fail)
   refine callI2 (sz:=size.toNat) (.inr ⟨_,_,rfl⟩) (by rw[<-hr];exact RowR.replicate (R:=IntR) rfl _) rfl (by omega) ?_;intro q hq;refine W.norm (k:=?_)
   repeat' (first|refine W.seq ?_|refine W.easy (k:=?_)|refine W.block ?_|fail)
   have hce:left-(vars.length:Int)=c:=by omega
   subst h3
   refine callLoop (c:=⟨nf,fs,main,np,ps,ws,0⟩) (d:=⟨Int.ofNat n,name,params,result,nv,vs,nb,bs,size,.imm _ 1 ear⟩) (u:=u) (f:=⟨name,params,result,vars,blocks,size⟩) (args:=args) (call:=callP u k (deep+1)) (k:=k) (x:=fr0 ⟨name,params,result,vars,blocks,size⟩) (s:=⟨inp,fuel,c,ev,false,long⟩) (fun i x s b _ _=>LoopK ⟨name,params,result,vars,blocks,size⟩ args deep k i x s b) (.inr ⟨_,_,rfl⟩) (Inert.imm _ _ _) hb ⟨_,_,rfl,⟨ni,ei,li,rfl,hli,h7,hinR,hinl⟩,hl⟩ ⟨q,yw,yk,rfl,hq,hyw,hyk⟩ (by omega) ⟨fr0_ok hszc.2.2.1 (fun t ht=>(hwd t ht).1) hal,by simp only;omega,by simp only;omega,by simp only;omega,by simp only;omega,hfu,hin,by simp only;omega⟩ (fun i x' s' b fr way hK=>?_) (fun i x' s' b fr way hK ho h0=>round_ok h0c ih hf ⟨hdp.1,by omega⟩ rfl har0 hv hb hK ho h0) ?_ ?_
   ·have h1:=hK.up;have h2:=hK.low
    have h3:=hK.left;have h4:=hK.pot
    omega
   ·intro rc' fc' s' b fr way hR' hP;rw[if_neg (by omega),hce,hP];refine W.norm (k:=?_)
    repeat' (first|refine W.seq ?_|refine W.easy (k:=?_)|refine W.ret ?_|refine Ret.ret (k:=?_)|fail)
    exact⟨rfl,_,_,rfl,hR'⟩
   ·intro a0 a1 a2 a3 more rc' bx' s' v hR' hP;rw[if_neg (by omega),hce,hP];exact Ret.ret (k:=⟨rfl,_,_,rfl,hR'⟩)
theorem call_ok{c:RunK}{u:TUnit}(h:RunCtx c u):∀ k,CallStmt c u (k+1)
 |0=>call_step h 0 fun h0=>absurd h0 (by decide)
 |k+1=>call_step h (k+1) fun _=>call_ok h k
set_option maxHeartbeats 4000000
def SmallP(u:TUnit):Prop:=largeN u<=6000/\ ∀(i:Nat) (f:TFunc),u.funcs[i]?=some f->f.blocks.length<=60/\f.size<=2000
theorem small_ok{u:TUnit}{e:List A}(hu:UnitR u e)(hn:largeN u<9223372036854775807):WC E 8 [.agg e] [] fun x _=>IsB (SmallP u) x:=by
 have hcall:=large hu hn;obtain⟨funcs,main,points⟩:=u;obtain⟨_,_,rfl,⟨nf,fs,n,rfl,hfl,h1,hf,_⟩,⟨np,ps,m,rfl,hpl,h2,hp,_⟩⟩:=hu;generalize hL:largeN ⟨funcs,main,points⟩=L at*
 simp only[SmallP,hL]
 have hfn:funcs.length<=L:=by
  rw[<-hL];simp only[largeN];omega
 simp only at hf hp h1 h2;refine WC.enter rfl rfl rfl ?_;unfold b8 ki kb lt ov
 repeat' (first|refine W.seq ?_|refine W.easy (k:=?_)|refine W.regS ?_|refine WS.pre (k:=?_)|fail)
 refine WS.call (hc:=(hcall)) (k:=?_);rintro _ _ (⟨rfl,hc⟩|⟨rfl,hc⟩)
 all_goals
  refine⟨_,_,_,by cbv;first|done|fail,by cbv;first|done|fail,?_⟩
 all_goals
  repeat' (first|refine W.seq ?_|refine W.easy (k:=?_)|refine W.block ?_|refine W.skip ?_|refine W.ret ?_|refine Ret.ret (k:=?_)|(refine W.condL (h:=?_);change W _ _ _ _)|refine WS.done ?_|fail)
 ·exact .inr ⟨rfl,fun h=>by have:=h.1;omega⟩
 refine W.forS n (fun i (_:Unit) σ=>sn 4 i σ) (fun i _=> ∀(j:Nat) (f:TFunc),j<i->funcs[j]?=some f->f.blocks.length<=60/\f.size<=2000) 0 (Nat.zero_le _) ?_ ?_
 ·exact⟨(),by cbv,fun j f h=>absurd h (Nat.not_lt_zero _)⟩
 intro i _ hi hP;refine W.norm (k:=?_);unfold l8_0 ki kb mt mw fa ft ll iz og ov oo
 by_cases hin:i<n
 ·have hif:i<funcs.length:=by omega
  obtain⟨e,he,hR⟩:=hf.at i hif;have hfi:funcs[i]?=some funcs[i]:=Gg hif
  generalize funcs[i]=f at hR hfi;obtain⟨name,params,result,vars,blocks,size⟩:=f;obtain⟨_,_,rfl,⟨nv,vs,nvl,rfl,hvl,h3,hv,_⟩,⟨nb,bs,nbl,rfl,hbl,h4,hb,_⟩⟩:=hR;simp only at h4
  repeat' (first|refine W.seq ?_|refine W.easy (k:=?_)|refine W.block ?_|refine W.skip ?_|refine W.ret ?_|refine Ret.ret (k:=?_)|(refine W.condL (h:=?_);change W _ _ _ _)|refine W.regS ?_|refine WS.done ?_|refine WS.pre (k:=?_)|(refine WS.guard (h:=?_);change WS _ _ _ _)|refine WS.len (h:=?_)|refine WS.iaddr (h:=?_)|(refine WS.cmp (k1:=fun h=>?_) (k2:=fun h=>?_)<;>simp only[Zq]at h<;>(try(exfalso;omega)))|refine WS.inc (h:=?_)|refine WS.consN (k:=?_)|fail)
  all_goals first
   | (refine .inr ⟨rfl,fun h => ?_⟩
      have:=h.2 i _ hfi
      simp only at this
      omega)
   | (refine ⟨by omega,(),by cbv,fun j f hj hjf => ?_⟩
      by_cases hji:j<i
      ·exact hP j f hji hjf
      ·have:j=i:=by omega
       subst this
       rw[hfi]at hjf
       cases hjf
       exact⟨by simp only;omega,by simp only;omega⟩)
 ·
  repeat' (first|refine W.seq ?_|refine W.easy (k:=?_)|refine W.ret ?_|refine W.exit ?_|refine Ret.ret (k:=?_)|(refine W.condL (h:=?_);change W _ _ _ _)|refine W.regS ?_|refine WS.done ?_|refine WS.pre (k:=?_)|refine WS.len (h:=?_)|(refine WS.cmp (k1:=fun h=>?_) (k2:=fun h=>?_)<;>simp only[Zq]at h<;>(try(exfalso;omega)))|fail)
  refine .inl ⟨rfl,by omega,fun j f hjf=>?_⟩;have:=(Ge hjf).1
  exact hP j f (by omega) hjf
def SoundU(u:TUnit):Prop:=MayP u/\ ∀(i:Nat) (f:TFunc),u.funcs[i]?=some f->SoundF f
structure UnitSmall(u:TUnit):Prop where
 f:∀ f,f∈u.funcs->FuncSmall f/\insSum f<=1000000000
 p:u.points.length<=100000/\ ∀p,p∈u.points->p.scope.length<=100000000
theorem check_ok{u:TUnit}{e:List A}(h:UnitR u e)(hs:UnitSmall u):WC E 27 [.agg e] [] fun r _=> ∃a b c t,r= .tup [.v (.int .i64 a),.v (.int .i64 b),.v (.int .i64 c),.v (.int .i64 t)]/\(t=0↔SoundU u):=by
 have cmay:=may_ok h hs.f hs.p;obtain⟨funcs,main,points⟩:=u;obtain⟨_,_,rfl,⟨nf,fs,n,rfl,hfl,h1,hf,_⟩,⟨np,ps,m,rfl,hpl,h2,hP,_⟩⟩:=h;have hsf:=hs.f
 simp only at h1 h2 hf hP hsf;refine WC.enter rfl rfl rfl ?_;unfold b27 ki lt ov oo
 repeat' (first|refine W.seq ?_|refine W.easy (k:=?_)|refine W.regS ?_|refine WS.pre (k:=?_)|fail)
 refine WS.call (hc:=(cmay)) (k:=?_);rintro _ _ (⟨rfl,hm⟩|⟨rfl,hm⟩)
 ·have hfew:=hm.few;simp only at hfew;refine⟨_,_,_,by cbv;first|done|fail,by cbv;first|done|fail,?_⟩
  repeat' (first|refine W.seq ?_|refine W.easy (k:=?_)|refine W.block ?_|refine W.skip ?_|(refine W.condL (h:=?_);change W _ _ _ _)|refine WS.done ?_|refine WS.pre (k:=?_)|fail)
  refine W.forA n (fun i (_:Unit) σ=>sn 7 i σ) (fun i _=> ∀(j:Nat) (f:TFunc),j<i->funcs[j]?=some f->SoundF f) 0 (Nat.zero_le _) ?_ ?_
  ·exact⟨(),by cbv,upto_zero⟩
  rintro QA kA i _ hi hF;refine W.norm (k:=?_);unfold l27_0 ki mt mw ft ll lg iz ov oo
  by_cases hin:i<n
  ·have hib:i<funcs.length:=by omega
   obtain⟨e,he,hR⟩:=hf.at i hib;have hbi:funcs[i]?=some funcs[i]:=Gg hib
   have hsi:=hsf _ (Gm hib);have hmi:=hm.funcs i _ hbi
   generalize funcs[i]=f at hR hbi hsi hmi;have hc:=soundF_ok hR hsi.1 hmi
   obtain⟨_,_,rfl,⟨nv,vs,nvl,rfl,hvl,h3,hv,_⟩,⟨nb,bs,nbl,rfl,hbl,h4,hb,_⟩⟩:=hR
   repeat' (first|refine W.seq ?_|refine W.block ?_|refine W.skip ?_|(refine W.condL (h:=?_);change W _ _ _ _)|refine W.regS ?_|refine WS.done ?_|refine WS.pre (k:=?_)|refine WS.len (h:=?_)|refine WS.iaddr (h:=?_)|(refine WS.cmp (k1:=fun h=>?_) (k2:=fun h=>?_)<;>simp only[Zq]at h<;>(try(exfalso;omega)))|fail)
   refine WS.call (hc:=(hc)) (k:=?_);rintro _ _ ⟨a,b,t,rfl,ht⟩;cases t
   all_goals
    refine⟨_,_,_,by cbv;first|done|fail,by cbv;first|done|fail,?_⟩
    repeat' (first|refine W.seq ?_|refine W.easy (k:=?_)|refine W.skip ?_|refine W.ret ?_|(refine W.condL (h:=?_);change W _ _ _ _)|refine W.regS ?_|refine WS.done ?_|refine WS.pre (k:=?_)|refine WS.inc (h:=?_)|refine WS.consN (k:=?_)|fail)
   ·refine kA _ _ ?_
    repeat' (first|refine Ret.ret (k:=?_)|fail)
    refine⟨_,_,_,_,rfl,iff_of_false (by decide) fun h=>?_⟩;have:=ht.2 (h.2 i f hbi)
    cases this
   ·exact⟨by omega,(),by cbv,upto_snoc (P:=fun _ f=>SoundF f) hF hbi (ht.1 rfl)⟩
  ·have hall:=upto_all hF (by omega)
   repeat' (first|refine W.seq ?_|refine W.exit ?_|(refine W.condL (h:=?_);change W _ _ _ _)|refine W.regS ?_|refine WS.done ?_|refine WS.pre (k:=?_)|refine WS.len (h:=?_)|(refine WS.cmp (k1:=fun h=>?_) (k2:=fun h=>?_)<;>simp only[Zq]at h<;>(try(exfalso;omega)))|fail)
   refine kA _ _ ?_
   repeat' (first|refine W.seq ?_|refine W.easy (k:=?_)|refine W.ret ?_|refine Ret.ret (k:=?_)|fail)
   exact⟨_,_,_,_,rfl,iff_of_true rfl ⟨hm,hall⟩⟩
 ·
  refine⟨_,_,_,by cbv;first|done|fail,by cbv;first|done|fail,?_⟩
  repeat' (first|refine W.seq ?_|refine W.easy (k:=?_)|refine W.ret ?_|refine Ret.ret (k:=?_)|(refine W.condL (h:=?_);change W _ _ _ _)|refine WS.done ?_|refine WS.pre (k:=?_)|fail)
  exact⟨_,_,_,_,rfl,iff_of_false (by decide) fun h=>hm h.1⟩
theorem sound_ok{u:TUnit}{e:List A}(h:UnitR u e)(hs:UnitSmall u):WC E 9 [.agg e] [] fun r _=>IsB (SoundU u) r:=by
 have hc:=check_ok h hs;obtain⟨funcs,main,points⟩:=u;obtain⟨_,_,rfl,⟨nf,fs,n,rfl,hfl,h1,hf,_⟩,⟨np,ps,m,rfl,hpl,h2,hP,_⟩⟩:=h;refine WC.enter rfl rfl rfl ?_;unfold b9 ki kb mt mw lt ov oo
 repeat' (first|refine W.seq ?_|refine W.easy (k:=?_)|refine W.regS ?_|refine WS.pre (k:=?_)|fail)
 refine WS.call (hc:=(hc)) (k:=?_);rintro _ _ ⟨a,b,c,t,rfl,ht⟩;refine⟨_,_,_,by cbv;first|done|fail,by cbv;first|done|fail,?_⟩
 repeat' (first|refine W.seq ?_|refine W.ret ?_|refine Ret.ret (k:=?_)|refine W.regS ?_|refine WS.done ?_|refine WS.pre (k:=?_)|(refine WS.cmp (k1:=fun h=>?_) (k2:=fun h=>?_)<;>simp only[Zq]at h<;>(try(exfalso;omega)))|refine WS.consN (k:=?_)|fail)
 ·exact .inl ⟨rfl,ht.1 (by omega)⟩
 ·exact .inr ⟨rfl,fun h'=>by have:=ht.2 h';omega⟩
/-- Each function with what is needed of it. -/
inductive DceL:List TFunc->List TFunc->Prop
 |nil:DceL [] []
 |cons {f l l' o}:Needed f o->DceL l l'->DceL (f::l) (dceF o f::l')
theorem DceL.snoc{f:TFunc}{l l':List TFunc}{o:List Bool}(h:DceL l l')(ho:Needed f o):DceL (l++[f]) (l'++[dceF o f]):=by
 induction h with
 |nil=>exact .cons ho .nil
 |cons h1 _ ih=>exact .cons h1 ih
theorem DceL.len{l l':List TFunc}(h:DceL l l'):l'.length=l.length:=by
 induction h with
 |nil=>rfl
 |cons _ _ ih=>simp[ih]
structure DceFOK(f:TFunc):Prop where
 small:FuncSmall f
 ok:DceOK f
 bind:∀ b,b∈f.blocks-> ∀x,x∈b.ins->x.op=46->x.a<f.size
theorem unit_ok{u:TUnit}{e:List A}(h:UnitR u e)(hs:∀ f,f∈u.funcs->DceFOK f)(hn:u.funcs.length<=100000):WC E 12 [.agg e] [] fun r _=> ∃l e',DceL u.funcs l/\r= .agg e'/\UnitR {u with funcs:=l} e':=by
 obtain⟨funcs,main,points⟩:=u;obtain⟨_,_,rfl,⟨nf,fs,n,rfl,hfl,h1,hf,_⟩,⟨np,ps,m,rfl,hpl,h2,hP,_⟩⟩:=h;simp only at hs hn h1 h2 hf hP;have hps:SlA 3 PointR points (.imm np 3 ps):=⟨np,ps,m,rfl,hpl,h2,hP,‹_›⟩
 refine WC.enter rfl rfl rfl ?_;unfold b12 ki vi ft lt ov oo
 repeat' (first|refine W.seq ?_|refine W.easy (k:=?_)|refine W.block ?_|refine W.regS ?_|refine WS.done ?_|refine WS.pre (k:=?_)|refine WS.len (h:=?_)|refine WS.consN (k:=?_)|fail)
 refine W.forS n (fun i (x:A) σ=>sn 4 i (sb 2 0 x σ)) (fun i x=> ∃l,DceL (funcs.take i) l/\GrowR 6 FuncR l x) 0 (Nat.zero_le _) ?_ ?_
 ·exact⟨_,by cbv,[],.nil,.inl ⟨rfl,rfl⟩⟩
 rintro i x hi ⟨l,hl,hQ⟩;refine W.norm (k:=?_);unfold l12_0 ki vi mw ft ll lg lt ov oo
 by_cases hin:i<n
 ·have hib:i<funcs.length:=by omega
  obtain⟨e,he,hR⟩:=hf.at i hib;have hbi:funcs[i]?=some funcs[i]:=Gg hib
  have hsf:=hs _ (Gm hib);have hll:l.length<=100000:=by rw[hl.len,List.length_take];omega
  have hsn:=fun o (ho:Needed funcs[i] o)=>hl.snoc ho;rw[<-take_snoc hbi]at hsn;generalize funcs[i]=f at hR hbi hsf hsn;have hc:=function_ok hR hsf.small hsf.ok hsf.bind
  rcases hQ with⟨rfl,hy⟩|⟨ry,ny,rfl,hyl,hyn,hyR⟩
  case' inr=>
   have hny:ny<=100000:=by rw[hyn];exact hll
  all_goals
   obtain⟨_,_,rfl,⟨nv,vs,nvl,rfl,hvl,h3,hv,_⟩,⟨nb,bs,nbl,rfl,hbl,h4,hb,_⟩⟩:=hR
   repeat' (first|refine W.seq ?_|refine W.block ?_|refine W.skip ?_|refine W.frz (k:=?_)|(refine W.condL (h:=?_);change W _ _ _ _)|refine W.regS ?_|refine WS.done ?_|refine WS.pre (k:=?_)|refine WS.iaddr (h:=?_)|(refine WS.cmp (k1:=fun h=>?_) (k2:=fun h=>?_)<;>simp only[Zq]at h<;>(try(exfalso;omega)))|refine WS.consN (k:=?_)|refine W.beginD (h:=?_)|refine WD.pre (k:=?_)|fail)
  all_goals
   refine WD.qcall (hc:=(hc)) (k:=?_);rintro _ _ ⟨o,e',ho,rfl,hR'⟩;have hR2:=hR'
   have hsn2:=hsn o ho;generalize dceF o f=f' at*
   obtain⟨_,_,rfl,⟨nv',vs',nvl',rfl,hvl',h3',hv',_⟩,⟨nb',bs',nbl',rfl,hbl',h4',hb',_⟩⟩:=hR';refine⟨_,_,_,by cbv;first|done|fail,by cbv;first|done|fail,by cbv;first|done|fail,?_⟩
  all_goals
   repeat' (first|refine W.regS ?_|refine WS.done ?_|refine WS.inc (h:=?_)|refine WS.consN (k:=?_)|(refine WD.done ⟨_,by cbv;first|done|fail,?_⟩;dsimp only)|refine WD.stoApp (h:=fun r hr=>?_)|refine WD.pre (k:=?_)|refine WD.app (h:=?_)|refine WD.oneN (k:=?_)|fail)
  all_goals first
   |exact⟨by omega,_,by cbv,_,hsn2,growR_one hR2 hy⟩
   |exact⟨by omega,_,by cbv,_,hsn2,growR_snoc hR2 hyR hr⟩
 ·have hi':funcs.take i=funcs:=List.take_of_length_le (by omega);rw[hi']at hl;rcases hQ with⟨rfl,hy⟩|⟨ry,ny,rfl,hyl,hyn,hyR⟩
  ·
   repeat' (first|refine W.seq ?_|refine W.easy (k:=?_)|refine W.ret ?_|refine W.exit ?_|refine W.frz (k:=?_)|refine Ret.ret (k:=?_)|(refine W.condL (h:=?_);change W _ _ _ _)|refine W.regS ?_|refine WS.done ?_|(refine WS.cmp (k1:=fun h=>?_) (k2:=fun h=>?_)<;>simp only[Zq]at h<;>(try(exfalso;omega)))|fail)
   exact⟨l,_,hl,rfl,_,_,rfl,slA_frz0 hy rfl,hps⟩
  ·
   repeat' (first|refine W.seq ?_|refine W.easy (k:=?_)|refine W.ret ?_|refine W.exit ?_|refine W.frz (k:=?_)|refine Ret.ret (k:=?_)|(refine W.condL (h:=?_);change W _ _ _ _)|refine W.regS ?_|refine WS.done ?_|(refine WS.cmp (k1:=fun h=>?_) (k2:=fun h=>?_)<;>simp only[Zq]at h<;>(try(exfalso;omega)))|fail)
   exact⟨l,_,hl,rfl,_,_,rfl,slA_own hyR,hps⟩
end Go.Ab.Ytkmmpbmmmbebgaa
