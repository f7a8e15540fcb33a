/- Copies. Dead instructions: what single instructions look at and make. Dead instructions: what is needed. -/
import Derived.Test.YtkmmpbmmmbebgaaT1
import Derived.Test.YtkmmpbmmmbebgaaM4
set_option linter.all false
namespace Go.Ab.Ytkmmpbmmmbebgaa
set_option maxRecDepth 100000
set_option maxHeartbeats 8000000
/-- A row that grows: nil at first. -/
def GrowR{α:Type}(z:Nat)(R:α->List A->Prop)(l:List α)(x:A):Prop:=(x= .v (.slice none 0 0)/\l=[])\/ ∃r n,x= .own z r/\r.length=n/\n=l.length/\RowR R l r
theorem GrowR.zero{α:Type}{z:Nat}{R:α->List A->Prop}{l:List α}:GrowR z R (l.take 0) (.v (.slice none 0 0)):=.inl ⟨rfl,by simp⟩
theorem rowR_snoc{α:Type}{R:α->List A->Prop}{l:List α}{r:List (List A)}(h:RowR R l r){x:α}{e:List A}(he:R x e):RowR R (l++[x]) (r++[e]):=h.append (.cons he .nil)
theorem take_snoc{α:Type}{l:List α}{k:Nat}{x:α}(h:l[k]?=some x):l.take (k+1)=l.take k++[x]:=by
 rw[List.take_add_one,h];rfl
theorem GrowR.step{α:Type}{z:Nat}{R:α->List A->Prop}{l:List α}{k:Nat}{x:α}{e:List A}(h:l[k]?=some x)(he:R x e){r r':List (List A)}(hr:RowR R (l.take k) r)(hr':r++[[e]].flatten=r'):GrowR z R (l.take (k+1)) (.own z r'):=by
 subst hr';have:=rowR_snoc hr he
 exact .inr ⟨_,_,rfl,rfl,by rw[take_snoc h];exact this.len,by rw[take_snoc h];exact this⟩
theorem GrowR.step0{α:Type}{z:Nat}{R:α->List A->Prop}{l:List α}{k:Nat}{x:α}{e:List A}(h:l[k]?=some x)(he:R x e)(hr:l.take k=[]):GrowR z R (l.take (k+1)) (.own z [e]):=
 .inr ⟨_,_,rfl,rfl,by rw[take_snoc h,hr];rfl,by rw[take_snoc h,hr];exact .cons he .nil⟩
/-- A row that has grown, frozen. -/
theorem slA_frz{α:Type}{z:Nat}{R:α->List A->Prop}{l l':List α}{r:List (List A)}(h:RowR R l r)(e:l=l'):SlA z R l' (.imm false z r):=by subst e;exact slA_own h
theorem slA_frz0{α:Type}{z:Nat}{R:α->List A->Prop}{l l':List α}(h:l=[])(e:l=l'):SlA z R l' (.imm true z []):=by subst e;subst h;exact slA_nil
theorem copyFunc_ok{f:TFunc}{e:List A}(h:FuncR f e)(hs:FuncSmall f):WC E 28 [.agg e] [] fun r _=> ∃e',r= .agg e'/\FuncR f e':=by
 obtain⟨_,_,rfl,⟨nv,vs,nvl,rfl,hvl,h3,hv,_⟩,⟨nb,bs,nbl,rfl,hbl,h4,hb,_⟩⟩:=h;have hsb:=hs.b
 have hsv:=hs.v;have hfl:=varR_flat hv
 refine WC.enter rfl rfl rfl ?_;unfold b28 ki vi mw ft ll lt ov oo
 repeat' (first|refine W.seq ?_|refine W.easy (k:=?_)|refine W.block ?_|refine W.regS ?_|refine WS.done ?_|refine WS.stoApp (h:=fun r hr=>?_)|refine WS.pre (k:=?_)|refine WS.app (hn:=(news_imm (by assumption))) (h:=?_)|fail)
 have hr':RowR VarR f.vars r:=by subst hr;simpa using hv
 refine W.forS nbl (fun i (x:A) σ=>sn 3 i (sb 0 4 x σ)) (fun i x=>GrowR 5 BlockR (f.blocks.take i) x) 0 (Nat.zero_le _) ?_ ?_
 ·exact⟨_,by cbv,.zero⟩
 intro i x hi hP;refine W.norm (k:=?_);unfold l28_1 ki vi mt mw fa ft ll lg lt iz ov oo
 by_cases hin:i<nbl
 ·have hib:i<f.blocks.length:=by omega
  obtain⟨e,he,hR⟩:=hb.at i hib;have hbi:f.blocks[i]?=some f.blocks[i]:=Gg hib
  have hil:=hs.i _ (Gm hib);have hx:=hs.a _ (Gm hib)
  generalize f.blocks[i]=b at hR hbi hil hx;obtain⟨ins,⟨kind,a,to,els⟩⟩:=b;obtain⟨_,rfl,⟨ni,is,nil,rfl,hil2,h5,hI,_⟩⟩:=hR;simp only at hil h5 hI hx;have hblk:∀ y',SlA 7 InsR ins y'->BlockR ⟨ins,⟨kind,a,to,els⟩⟩ [y',.v (.int .u8 kind),.v (.int .i64 a),.v (.int .i64 to),.v (.int .i64 els)]:=fun y' hy'=>⟨_,rfl,hy'⟩
  have hg0:=fun e he (h0:f.blocks.take i=[])=>GrowR.step0 (z:=5) (R:=BlockR) (e:=e) hbi he h0;have hg1:=fun e he r r' hr hr'=>GrowR.step (z:=5) (R:=BlockR) (e:=e) hbi he (r:=r) (r':=r') hr hr'
  rcases hP with⟨rfl,hz⟩|⟨rz,nz,rfl,hzl,hzn,hzR⟩
  case' inr=>
   have hnz:nz<=100000:=by rw[hzn,List.length_take];omega
  all_goals
   repeat' (first|refine W.seq ?_|refine W.easy (k:=?_)|refine W.block ?_|refine W.skip ?_|(refine W.condL (h:=?_);change W _ _ _ _)|refine W.regS ?_|refine WS.done ?_|refine WS.pre (k:=?_)|refine WS.len (h:=?_)|refine WS.iaddr (h:=?_)|(refine WS.cmp (k1:=fun h=>?_) (k2:=fun h=>?_)<;>simp only[Zq]at h<;>(try(exfalso;omega)))|refine WS.consN (k:=?_)|fail)
  all_goals
   refine W.forS nil (fun k (y:A) σ=>sn 6 k (sb 2 0 y σ)) (fun k y=>GrowR 7 InsR (ins.take k) y) 0 (Nat.zero_le _) ?_ ?_
   ·exact⟨_,by cbv,.zero⟩
   intro k y hk hQ;refine W.norm (k:=?_);unfold l28_0 ki vi mt mw fa ft ll lg lt iz ov oo
   by_cases hkn:k<nil
   ·have hki:k<ins.length:=by omega
    obtain⟨ek,hek,hRk⟩:=hI.at k hki;have hxk:ins[k]?=some ins[k]:=Gg hki
    have hxa:=hx _ (Gm hki);generalize ins[k]=x at hRk hxk hxa;obtain⟨op,dst,xa,xb,var,num,args⟩:=x;obtain⟨_,rfl,⟨na,as,nal,rfl,hal,h6,hA,_⟩⟩:=hRk;simp only at hxa h6;have hafl:=intR_flat hA
    have hins:∀ r,[]++[as].flatten=r->InsR ⟨op,dst,xa,xb,var,num,args⟩ [.v (.int .u8 op),.v (.int .i64 dst),.v (.int .i64 xa),.v (.int .i64 xb),.v (.int .i64 var),.v (.int .i64 num),.imm false 1 r]:=fun r hr=>⟨_,rfl,slA_own (by subst hr;simpa using hA)⟩;rcases hQ with⟨rfl,hy⟩|⟨ry,ny,rfl,hyl,hyn,hyR⟩
    ·
     repeat' (first|refine W.seq ?_|refine W.block ?_|refine W.skip ?_|refine W.frz (k:=?_)|(refine W.condL (h:=?_);change W _ _ _ _)|refine W.regS ?_|refine WS.done ?_|refine WS.stoApp (h:=fun r hr=>?_)|refine WS.pre (k:=?_)|refine WS.len (h:=?_)|refine WS.iaddr (h:=?_)|(refine WS.cmp (k1:=fun h=>?_) (k2:=fun h=>?_)<;>simp only[Zq]at h<;>(try(exfalso;omega)))|refine WS.inc (h:=?_)|refine WS.app (hn:=(news_imm (by assumption))) (h:=?_)|refine WS.consN (k:=?_)|fail)
     exact⟨by omega,_,by cbv,GrowR.step0 hxk (hins r hr) hy⟩
    ·have hny:ny<=100000:=by rw[hyn,List.length_take];omega
     repeat' (first|refine W.seq ?_|refine W.block ?_|refine W.skip ?_|refine W.frz (k:=?_)|(refine W.condL (h:=?_);change W _ _ _ _)|refine W.regS ?_|refine WS.done ?_|refine WS.stoApp (h:=fun r hr=>?_)|refine WS.pre (k:=?_)|refine WS.len (h:=?_)|refine WS.iaddr (h:=?_)|(refine WS.cmp (k1:=fun h=>?_) (k2:=fun h=>?_)<;>simp only[Zq]at h<;>(try(exfalso;omega)))|refine WS.inc (h:=?_)|refine WS.app (hn:=(news_imm (by assumption))) (h:=?_)|refine WS.app (h:=?_)|refine WS.consN (k:=?_)|fail)
     exact⟨by omega,_,by cbv,GrowR.step hxk (hins _ ‹[]++[as].flatten=_›) hyR hr⟩
   ·have hk':ins.take k=ins:=List.take_of_length_le (by omega);rcases hQ with⟨rfl,hy⟩|⟨ry,ny,rfl,hyl,hyn,hyR⟩
    ·
     repeat' (first|refine W.seq ?_|refine W.exit ?_|refine W.frz (k:=?_)|(refine W.condL (h:=?_);change W _ _ _ _)|refine W.regS ?_|refine WS.done ?_|refine WS.stoApp (h:=fun r hr=>?_)|refine WS.pre (k:=?_)|refine WS.len (h:=?_)|refine WS.iaddr (h:=?_)|(refine WS.cmp (k1:=fun h=>?_) (k2:=fun h=>?_)<;>simp only[Zq]at h<;>(try(exfalso;omega)))|refine WS.inc (h:=?_)|refine WS.app (h:=?_)|refine WS.consN (k:=?_)|fail)
     first
      |exact⟨by omega,_,by cbv,hg0 _ (hblk _ (slA_frz0 hy hk')) hz⟩
      |exact⟨by omega,_,by cbv,hg1 _ (hblk _ (slA_frz0 hy hk')) _ _ hzR hr⟩
    ·
     repeat' (first|refine W.seq ?_|refine W.exit ?_|refine W.frz (k:=?_)|(refine W.condL (h:=?_);change W _ _ _ _)|refine W.regS ?_|refine WS.done ?_|refine WS.stoApp (h:=fun r hr=>?_)|refine WS.pre (k:=?_)|refine WS.len (h:=?_)|refine WS.iaddr (h:=?_)|(refine WS.cmp (k1:=fun h=>?_) (k2:=fun h=>?_)<;>simp only[Zq]at h<;>(try(exfalso;omega)))|refine WS.inc (h:=?_)|refine WS.app (h:=?_)|refine WS.consN (k:=?_)|fail)
     first
      |exact⟨by omega,_,by cbv,hg0 _ (hblk _ (slA_frz hyR hk')) hz⟩
      |exact⟨by omega,_,by cbv,hg1 _ (hblk _ (slA_frz hyR hk')) _ _ hzR hr⟩
 ·have hi':f.blocks.take i=f.blocks:=List.take_of_length_le (by omega);rcases hP with⟨rfl,hz⟩|⟨rz,nz,rfl,hzl,hzn,hzR⟩
  ·
   repeat' (first|refine W.seq ?_|refine W.easy (k:=?_)|refine W.ret ?_|refine W.exit ?_|refine W.frz (k:=?_)|refine Ret.ret (k:=?_)|(refine W.condL (h:=?_);change W _ _ _ _)|refine W.regS ?_|refine WS.done ?_|refine WS.pre (k:=?_)|refine WS.len (h:=?_)|(refine WS.cmp (k1:=fun h=>?_) (k2:=fun h=>?_)<;>simp only[Zq]at h<;>(try(exfalso;omega)))|fail)
   exact⟨_,rfl,_,_,rfl,slA_own hr',slA_frz0 hz hi'⟩
  ·
   repeat' (first|refine W.seq ?_|refine W.easy (k:=?_)|refine W.ret ?_|refine W.exit ?_|refine W.frz (k:=?_)|refine Ret.ret (k:=?_)|(refine W.condL (h:=?_);change W _ _ _ _)|refine W.regS ?_|refine WS.done ?_|refine WS.pre (k:=?_)|refine WS.len (h:=?_)|(refine WS.cmp (k1:=fun h=>?_) (k2:=fun h=>?_)<;>simp only[Zq]at h<;>(try(exfalso;omega)))|fail)
   exact⟨_,rfl,_,_,rfl,slA_own hr',slA_frz hzR hi'⟩
theorem copy_ok{u:TUnit}{e:List A}(h:UnitR u e)(hs:∀ f,f∈u.funcs->FuncSmall f)(hn:u.funcs.length<=100000/\u.points.length<=100000):WC E 11 [.agg e] [] fun r _=> ∃e',r= .agg e'/\UnitR u e':=by
 obtain⟨funcs,main,points⟩:=u;obtain⟨_,_,rfl,⟨nf,fs,n,rfl,hfl,h1,hf,_⟩,⟨np,ps,m,rfl,hpl,h2,hP,_⟩⟩:=h;simp only at hs hn h1 h2 hf hP;have hpf:=pointR_flat hP
 refine WC.enter rfl rfl rfl ?_;unfold b11 ki vi mw ft ll lt ov oo
 repeat' (first|refine W.seq ?_|refine W.easy (k:=?_)|refine W.block ?_|refine W.frz (k:=?_)|fail)
 refine W.forS n (fun i (x:A) σ=>sn 3 i (sb 0 0 x σ)) (fun i x=>GrowR 6 FuncR (funcs.take i) x) 0 (Nat.zero_le _) ?_ ?_
 ·exact⟨_,by cbv,.zero⟩
 intro i x hi hQ;refine W.norm (k:=?_);unfold l11_0 ki vi mt mw ft ll lg iz ov oo
 by_cases hin:i<n
 ·have hib:i<funcs.length:=by omega
  obtain⟨e,he,hR⟩:=hf.at i hib;have hbi:funcs[i]?=some funcs[i]:=Gg hib
  have hsf:=hs _ (Gm hib);generalize funcs[i]=f at hR hbi hsf;have hc:=copyFunc_ok hR hsf
  have hlen:e.length=6:=by obtain⟨_,_,rfl,_,_⟩:=hR;rfl
  rcases hQ with⟨rfl,hy⟩|⟨ry,ny,rfl,hyl,hyn,hyR⟩
  case' inr=>
   have hny:ny<=100000:=by rw[hyn,List.length_take];omega
  all_goals
   obtain⟨_,_,rfl,⟨nv,vs,nvl,rfl,hvl,h3,hv,_⟩,⟨nb,bs,nbl,rfl,hbl,h4,hb,_⟩⟩:=hR
   repeat' (first|refine W.seq ?_|refine W.block ?_|refine W.skip ?_|refine W.frz (k:=?_)|(refine W.condL (h:=?_);change W _ _ _ _)|refine W.regS ?_|refine WS.done ?_|refine WS.pre (k:=?_)|refine WS.len (h:=?_)|(refine WS.cmp (k1:=fun h=>?_) (k2:=fun h=>?_)<;>simp only[Zq]at h<;>(try(exfalso;omega)))|refine W.beginD (h:=?_)|refine WD.pre (k:=?_)|refine WD.iaddr (h:=?_)|fail)
  all_goals
   refine WD.qcall (hc:=(hc)) (k:=?_);rintro _ _ ⟨e',rfl,hR'⟩;have hR2:=hR'
   obtain⟨_,_,rfl,⟨nv',vs',nvl',rfl,hvl',h3',hv',_⟩,⟨nb',bs',nbl',rfl,hbl',h4',hb',_⟩⟩:=hR';refine⟨_,_,_,by cbv;first|done|fail,by cbv;first|done|fail,by cbv;first|done|fail,?_⟩
  all_goals
   repeat' (first|refine W.regS ?_|refine WS.done ?_|refine WS.pre (k:=?_)|refine WS.inc (h:=?_)|refine WS.consN (k:=?_)|(refine WD.done ⟨_,by cbv;first|done|fail,?_⟩;dsimp only)|refine WD.stoApp (h:=fun r hr=>?_)|refine WD.pre (k:=?_)|refine WD.app (h:=?_)|refine WD.oneN (k:=?_)|fail)
  all_goals first
   |exact⟨by omega,_,by cbv,GrowR.step0 hbi hR2 hy⟩
   |exact⟨by omega,_,by cbv,GrowR.step hbi hR2 hyR hr⟩
 ·have hi':funcs.take i=funcs:=List.take_of_length_le (by omega);rcases hQ with⟨rfl,hy⟩|⟨ry,ny,rfl,hyl,hyn,hyR⟩
  ·
   repeat' (first|refine W.seq ?_|refine W.easy (k:=?_)|refine W.ret ?_|refine W.exit ?_|refine W.frz (k:=?_)|refine Ret.ret (k:=?_)|(refine W.condL (h:=?_);change W _ _ _ _)|refine W.regS ?_|refine WS.done ?_|refine WS.stoApp (h:=fun r hr=>?_)|refine WS.pre (k:=?_)|refine WS.len (h:=?_)|(refine WS.cmp (k1:=fun h=>?_) (k2:=fun h=>?_)<;>simp only[Zq]at h<;>(try(exfalso;omega)))|refine WS.app (hn:=(news_imm (by assumption))) (h:=?_)|fail)
   exact⟨_,rfl,_,_,rfl,slA_frz0 hy hi',slA_own (by subst hr;simpa using hP)⟩
  ·
   repeat' (first|refine W.seq ?_|refine W.easy (k:=?_)|refine W.ret ?_|refine W.exit ?_|refine W.frz (k:=?_)|refine Ret.ret (k:=?_)|(refine W.condL (h:=?_);change W _ _ _ _)|refine W.regS ?_|refine WS.done ?_|refine WS.stoApp (h:=fun r hr=>?_)|refine WS.pre (k:=?_)|refine WS.len (h:=?_)|(refine WS.cmp (k1:=fun h=>?_) (k2:=fun h=>?_)<;>simp only[Zq]at h<;>(try(exfalso;omega)))|refine WS.app (hn:=(news_imm (by assumption))) (h:=?_)|fail)
   exact⟨_,rfl,_,_,rfl,slA_frz hyR hi',slA_own (by subst hr;simpa using hP)⟩
set_option maxHeartbeats 4000000
def looksF(x:TIns):List Int:=
 if(1<=x.op/\x.op<=13)\/x.op=38 then[x.a,x.b]
 else if x.op=14\/x.op=15\/x.op=36\/x.op=37\/x.op=40\/x.op=44 then[x.a]
 else if x.op=42\/x.op=47 then x.args else[]
def hasF(x:TIns):Prop:=¬ (x.op=4\/x.op=5\/x.op=37\/x.op=42\/x.op=43\/x.op=38\/x.op=40\/x.op=41\/x.op=44\/x.op=45\/x.op=46)
def stayF(x:TIns):Prop:=x.op=4\/x.op=5\/x.op=37\/x.op=42\/x.op=43
theorem looks_ok{x:TIns}{e:List A}(h:InsR x e):WC E 56 [.agg e] [] fun r _=>SlA 1 IntR (looksF x) r:=by
 obtain⟨op,dst,a,b,var,num,args⟩:=x;obtain⟨_,rfl,⟨nl,es,n,rfl,hes,hl,hI,hnl⟩⟩:=h;simp only at hl hI hnl;have hfl:=intR_flat hI
 have hs:SlA 1 IntR args (.imm nl 1 es):=⟨nl,es,n,rfl,hes,hl,hI,hnl⟩;refine WC.enter rfl rfl rfl ?_;unfold b56 kb vi mw ft ll og ov oo
 repeat' (first|refine W.seq ?_|refine W.easy (k:=?_)|refine W.block ?_|refine W.skip ?_|refine W.ret ?_|refine W.frz (k:=?_)|refine Ret.ret (k:=?_)|(refine W.condL (h:=?_);change W _ _ _ _)|refine W.regS ?_|refine WS.done ?_|refine WS.pre (k:=?_)|(refine WS.guard (h:=?_);change WS _ _ _ _)|(refine WS.cmp (k1:=fun h=>?_) (k2:=fun h=>?_)<;>simp only[Zq]at h<;>(try(exfalso;omega)))|refine WS.consN (k:=?_)|fail)
 all_goals first
  |(simp[looksF, *,tupA,slA_nil];done)
  |(simp[looksF, *,tupA];exact slA_own (intR1 _))
  |(simp[looksF, *,tupA];exact slA_own (intR2 _ _))
  |(simp[looksF, *,tupA];exact hs)
theorem has_ok{x:TIns}{e:List A}(h:InsR x e):WC E 40 [.agg e] [] fun r _=>IsB (hasF x) r:=by
 obtain⟨op,dst,a,b,var,num,args⟩:=x;obtain⟨_,rfl,⟨nl,es,n,rfl,hn,hl,hI,_⟩⟩:=h;refine WC.enter rfl rfl rfl ?_;unfold b40 kb mw ft ll ov oo
 repeat' (first|refine W.seq ?_|refine W.easy (k:=?_)|refine W.block ?_|refine W.skip ?_|refine W.ret ?_|refine Ret.ret (k:=?_)|(refine W.condL (h:=?_);change W _ _ _ _)|refine W.regS ?_|refine WS.done ?_|refine WS.pre (k:=?_)|(refine WS.cmp (k1:=fun h=>?_) (k2:=fun h=>?_)<;>simp only[Zq]at h<;>(try(exfalso;omega)))|refine WS.consN (k:=?_)|fail)
 all_goals first
  |(refine .inl ⟨rfl,?_⟩;simp[hasF, *];done)
  |(refine .inr ⟨rfl,?_⟩;simp[hasF, *];done)
theorem stay_ok{x:TIns}{e:List A}(h:InsR x e):WC E 57 [.agg e] [] fun r _=>IsB (stayF x) r:=by
 obtain⟨op,dst,a,b,var,num,args⟩:=x;obtain⟨_,rfl,⟨nl,es,n,rfl,hn,hl,hI,_⟩⟩:=h;refine WC.enter rfl rfl rfl ?_;unfold b57 kb mw ft ov oo
 repeat' (first|refine W.seq ?_|refine W.easy (k:=?_)|refine W.block ?_|refine W.skip ?_|refine W.ret ?_|refine Ret.ret (k:=?_)|(refine W.condL (h:=?_);change W _ _ _ _)|refine W.regS ?_|refine WS.done ?_|(refine WS.cmp (k1:=fun h=>?_) (k2:=fun h=>?_)<;>simp only[Zq]at h<;>(try(exfalso;omega)))|refine WS.consN (k:=?_)|fail)
 all_goals first
  |(refine .inl ⟨rfl,?_⟩;simp[stayF, *];done)
  |(refine .inr ⟨rfl,?_⟩;simp[stayF, *];done)
theorem clone_ok{l:List Int}{a:A}(h:SlA 1 IntR l a)(hn:l.length<=100000000):WC E 41 [a] [] fun r _=>GrowR 1 IntR l r:=by
 obtain⟨nl,es,n,rfl,hes,hl,hI,hnl⟩:=h;have hfl:=intR_flat hI
 refine WC.enter rfl rfl rfl ?_;unfold b41 vi mt mw ov oo;cases nl
 all_goals
  repeat' (first|refine W.seq ?_|refine W.easy (k:=?_)|refine W.skip ?_|refine W.ret ?_|refine Ret.ret (k:=?_)|(refine W.condL (h:=?_);change W _ _ _ _)|refine W.regS ?_|refine WS.done ?_|refine WS.setApp (h:=fun r hr=>?_)|refine WS.pre (k:=?_)|refine WS.app (hn:=(news_imm (by assumption))) (h:=?_)|refine WS.consN (k:=?_)|fail)
 ·exact .inr ⟨_,_,rfl,rfl,by subst hr;simpa[hes]using hl,by subst hr;simpa using hI⟩
 ·rw[hnl rfl];exact .inl ⟨rfl,rfl⟩
/-- What is needed, and what is still to be looked at. -/
def needF:List Int->List Bool×List Int->List Bool×List Int
 |[],s=>s
 |v::l,s=>needF l (if 0<=v/\s.1.getD v.toNat true=false then(s.1.set v.toNat true,s.2++[v])else s)
theorem needF_snoc(v:Int):∀ (l:List Int) (s:List Bool×List Int),needF (l++[v]) s=(if 0<=v/\(needF l s).1.getD v.toNat true=false then((needF l s).1.set v.toNat true,(needF l s).2++[v])else needF l s)
 |[],s=>rfl
 |x::l,s=>by rw[List.cons_append,needF,needF_snoc v l,needF]
theorem needF_len:∀ (l:List Int) (s:List Bool×List Int),(needF l s).1.length=s.1.length
 |[],s=>rfl
 | x::l,s=>by
   rw[needF,needF_len l];split
   ·simp
   ·rfl
/-- A row of bools, a row of numbers that grows. -/
def NeedR(s:List Bool×List Int)(a b:A):Prop:=(∃r n,a= .own 1 r/\r.length=n/\n=s.1.length/\RowR BRow s.1 r)/\GrowR 1 IntR s.2 b
theorem growR_snoc{α:Type}{z:Nat}{R:α->List A->Prop}{l:List α}{x:α}{e:List A}(he:R x e){r r':List (List A)}(hr:RowR R l r)(hr':r++[[e]].flatten=r'):GrowR z R (l++[x]) (.own z r'):=by
 subst hr';have:=rowR_snoc hr he
 exact .inr ⟨_,_,rfl,rfl,this.len,this⟩
theorem need_ok{l:List Int}{a:A}(hl:SlA 1 IntR l a){s:List Bool×List Int}{x y:A}(hs:NeedR s x y)(hr:∀ v,v∈l->v<s.1.length)(hb:s.1.length<=1000000/\s.2.length+l.length<=1000000000):
  WC E 55 [a,.pt 0 0,.pt 1 0] [.cells [x],.cells [y]] fun r bx=>r= .tup []/\ ∃x' y',bx=[.cells [x'],.cells [y']]/\NeedR (needF l s) x' y':=by
 obtain⟨out,work⟩:=s;obtain⟨⟨r0,n,rfl,hrn0,hn,hR0⟩,hy0⟩:=hs;obtain⟨nl,es,m,rfl,hes,hlm,hI,hnl⟩:=hl;simp only at hn hR0 hr hb;refine WC.enter rfl rfl rfl ?_;unfold b55 ki ov
 repeat' (first|refine W.seq ?_|refine W.block ?_|refine W.frz (k:=?_)|refine W.regS ?_|refine WS.done ?_|refine WS.len (h:=?_)|refine WS.consN (k:=?_)|fail)
 refine W.forS m (fun k (c:A×A) σ=>sn 3 k (sb 0 0 c.1 (sb 1 0 c.2 σ))) (fun k c=>NeedR (needF (l.take k) (out,work)) c.1 c.2/\(needF (l.take k) (out,work)).2.length<=work.length+k) 0 (Nat.zero_le _) ?_ ?_
 ·exact⟨(.own 1 r0,y),by cbv,⟨⟨r0,n,rfl,hrn0,hn,hR0⟩,hy0⟩,by simp[needF]⟩
 rintro k ⟨x',y'⟩ hk ⟨hN,hw⟩;simp only at hN;have hlen:=needF_len (l.take k) (out,work)
 simp only at hlen hw
 by_cases hkm:k<m
 ·have hkl:k<l.length:=by omega
  obtain⟨ek,hek,rfl⟩:=hI.at k hkl;have hky:l[k]?=some l[k]:=Gg hkl
  have hv:=hr _ (Gm hkl);generalize l[k]=v at*
  rw[take_snoc hky,needF_snoc];generalize needF (l.take k) (out,work)=s at*
  obtain⟨o,w⟩:=s;obtain⟨⟨r,n',rfl,hrn,hn',hR⟩,hy⟩:=hN;simp only at hn' hR hlen hy hw ⊢
  by_cases hv0:0<=v
  ·obtain⟨j,rfl,hj⟩:=intOf (n:=out.length) ⟨hv0,hv⟩;have hjo:j<o.length:=by omega
   have hej:=bRow_of hR hjo;have hgd:o.getD j true=o[j]:=by rw[List.getD_eq_getElem?_getD,Gg hjo];rfl
   have hset:RowR BRow (o.set j true) (r.set j [.v (.bool true)]):=hR.set j rfl
   have hc:(0<=Int.ofNat j/\o.getD (Int.ofNat j).toNat true=false)↔o[j]=false:=by
    rw[show(Int.ofNat j).toNat=j from rfl,hgd];exact⟨fun h=>h.2,fun h=>⟨hv0,h⟩⟩
   simp only[hc];generalize o[j]=bj at*
   rcases hy with⟨rfl,hy⟩|⟨ry,ny,rfl,hyl,hyn,hyR⟩
   all_goals
    cases bj
   all_goals
    (try simp only[reduceCtorEq,if_false,if_true])
    refine W.norm (k:=?_);unfold l55_0 ki kb vi mt mw ll iz og ov oo
    repeat' (first|refine W.seq ?_|refine W.block ?_|refine W.skip ?_|(refine W.condL (h:=?_);change W _ _ _ _)|refine W.regS ?_|refine WS.done ?_|refine WS.stoApp (h:=fun r hr=>?_)|refine WS.loadP (k:=?_)|refine WS.stoP (k:=fun q hq=>?_)|refine WS.pre (k:=?_)|(refine WS.guard (h:=?_);change WS _ _ _ _)|refine WS.iaddrO (k:=?_)|refine WS.iaddr (h:=?_)|(refine WS.cmp (k1:=fun h=>?_) (k2:=fun h=>?_)<;>simp only[Zq]at h<;>(try(exfalso;omega)))|refine WS.inc (h:=?_)|refine WS.app (h:=?_)|refine WS.consN (k:=?_)|fail)
   ·exact⟨by omega,(_,_),by cbv,⟨⟨q,_,rfl,rfl,by rw[<-hq];simp[hrn,hn'],by rw[<-hq];exact hset⟩,.inr ⟨_,_,rfl,rfl,by simp[hy],by simp only[hy];exact intR1 _⟩⟩,by(try simp only[List.length_append,List.length_cons,List.length_nil]);omega⟩
   ·exact⟨by omega,(_,_),by cbv,⟨⟨r,n',rfl,hrn,hn',hR⟩,.inl ⟨rfl,hy⟩⟩,by(try simp only[List.length_append,List.length_cons,List.length_nil]);omega⟩
   ·exact⟨by omega,(_,_),by cbv,⟨⟨q,_,rfl,rfl,by rw[<-hq];simp[hrn,hn'],by rw[<-hq];exact hset⟩,growR_snoc (R:=IntR) (x:=Int.ofNat j) rfl hyR hr⟩,by(try simp only[List.length_append,List.length_cons,List.length_nil]);omega⟩
   ·exact⟨by omega,(_,_),by cbv,⟨⟨r,n',rfl,hrn,hn',hR⟩,.inr ⟨ry,ny,rfl,hyl,hyn,hyR⟩⟩,by(try simp only[List.length_append,List.length_cons,List.length_nil]);omega⟩
  ·simp only[hv0,false_and,if_false];rcases hy with⟨rfl,hy⟩|⟨ry,ny,rfl,hyl,hyn,hyR⟩
   all_goals
    refine W.norm (k:=?_);unfold l55_0 ki kb vi mt mw ll iz og ov oo
    repeat' (first|refine W.seq ?_|refine W.block ?_|refine W.skip ?_|(refine W.condL (h:=?_);change W _ _ _ _)|refine W.regS ?_|refine WS.done ?_|refine WS.pre (k:=?_)|(refine WS.guard (h:=?_);change WS _ _ _ _)|refine WS.iaddr (h:=?_)|(refine WS.cmp (k1:=fun h=>?_) (k2:=fun h=>?_)<;>simp only[Zq]at h<;>(try(exfalso;omega)))|refine WS.inc (h:=?_)|refine WS.consN (k:=?_)|fail)
   ·exact⟨by omega,(_,_),by cbv,⟨⟨r,n',rfl,hrn,hn',hR⟩,.inl ⟨rfl,hy⟩⟩,by(try simp only[List.length_append,List.length_cons,List.length_nil]);omega⟩
   ·exact⟨by omega,(_,_),by cbv,⟨⟨r,n',rfl,hrn,hn',hR⟩,.inr ⟨ry,ny,rfl,hyl,hyn,hyR⟩⟩,by(try simp only[List.length_append,List.length_cons,List.length_nil]);omega⟩
 ·obtain⟨⟨r,n',rfl,hrn,hn',hR⟩,hy⟩:=hN;have hl:l.take k=l:=List.take_of_length_le (by omega)
  rw[hl]at hR hn' hy;refine W.norm (k:=?_);unfold l55_0 ki kb vi mt mw ll iz og ov oo
  repeat' (first|refine W.seq ?_|refine W.exit ?_|refine Ret.normal (k:=?_)|(refine W.condL (h:=?_);change W _ _ _ _)|refine W.regS ?_|refine WS.done ?_|(refine WS.cmp (k1:=fun h=>?_) (k2:=fun h=>?_)<;>simp only[Zq]at h<;>(try(exfalso;omega)))|fail)
  exact⟨rfl,_,_,rfl,⟨r,n',rfl,hrn,hn',hR⟩,hy⟩
theorem need_nil{x y:A}{s:List Bool×List Int}(hs:NeedR s x y):WC E 55 [.v (.slice none 0 0),.pt 0 0,.pt 1 0] [.cells [x],.cells [y]] fun r bx=>r= .tup []/\ ∃x' y',bx=[.cells [x'],.cells [y']]/\NeedR (needF [] s) x' y':=by
 refine WC.enter rfl rfl rfl ?_;unfold b55 ki ov
 repeat' (first|refine W.seq ?_|refine W.block ?_|refine W.frz (k:=?_)|refine W.regS ?_|refine WS.done ?_|refine WS.consN (k:=?_)|fail)
 refine W.forS 0 (fun k (_:Unit) σ=>sn 3 k σ) (fun _ _=>True) 0 (Nat.zero_le _) ?_ ?_
 ·exact⟨(),by cbv,trivial⟩
 rintro k _ hk _;obtain rfl:k=0:=by omega
 refine W.norm (k:=?_);unfold l55_0 ki kb vi mt mw ll iz og ov oo
 repeat' (first|refine W.seq ?_|refine W.exit ?_|refine Ret.normal (k:=?_)|(refine W.condL (h:=?_);change W _ _ _ _)|refine W.regS ?_|refine WS.done ?_|(refine WS.cmp (k1:=fun h=>?_) (k2:=fun h=>?_)<;>simp only[Zq]at h<;>(try(exfalso;omega)))|fail)
 exact⟨rfl,_,_,rfl,hs⟩
instance (x:TIns):Decidable (hasF x):=inferInstanceAs (Decidable (¬_))
instance (x:TIns):Decidable (stayF x):=inferInstanceAs (Decidable (_\/_))
abbrev NS:=List (List Int)×(List Bool×List Int)
def insStep(t:NS)(x:TIns):NS:=
 if hasF x then(t.1.set x.dst.toNat (t.1.getD x.dst.toNat []++looksF x),t.2)else if x.op=46 then t else(t.1,needF (looksF x) t.2)
def blockStep(t:NS)(b:TBlock):NS:=
 if b.term.kind=1 then b.ins.foldl insStep t else((b.ins.foldl insStep t).1,needF [b.term.a] (b.ins.foldl insStep t).2)
def phase(f:TFunc)(l:List TBlock):NS:=l.foldl blockStep (List.replicate f.size.toNat [],(List.replicate f.size.toNat false,[]))
/-- What is to be looked at is taken, the last one first. -/
inductive Pops(ms:List (List Int)):List Bool×List Int->List Bool->Prop
 |done {o}:Pops ms (o,[]) o
 |step {o w v o'}:Pops ms (needF (ms.getD v.toNat []) (o,w)) o'->Pops ms (o,w++[v]) o'
def keepStep(n:Int)(o:List Bool)(x:TIns):List Bool:=if¬hasF x/\x.op≠46/\0<=x.dst/\x.dst<n/\stayF x then o.set x.dst.toNat true else o
def keepBlock(n:Int)(o:List Bool)(b:TBlock):List Bool:=b.ins.foldl (keepStep n) o
/-- What is needed of a function. -/
def Needed(f:TFunc)(o:List Bool):Prop:=∃ o1,Pops (phase f f.blocks).1 (phase f f.blocks).2 o1/\o=f.blocks.foldl (keepBlock f.size) o1
def insW(b:TBlock):Nat:=(b.ins.map fun x=>x.args.length+2).sum
def funcW(f:TFunc):Nat:=(f.blocks.map insW).sum
structure DceOK(f:TFunc):Prop where
 size:0<=f.size/\f.size<=524288
 ins:∀ b,b∈f.blocks-> ∀x,x∈b.ins->(hasF x->0<=x.dst/\x.dst<f.size)/\ ∀v,v∈looksF x->v<f.size
 term:∀ b,b∈f.blocks->b.term.kind≠1->b.term.a<f.size
 w:funcW f<=100000000
structure GoodS(n m:Nat)(s:List Bool×List Int):Prop where
 len:s.1.length=n
 work:∀ v,v∈s.2->0<=v/\v<n
 mu:s.1.count false+s.2.length=m
theorem count_set_true{o:List Bool}{j:Nat}(h:o[j]?=some false):(o.set j true).count false+1=o.count false:=by
 induction o generalizing j with
 |nil=>simp at h
 | cons a o ih=>
   cases j with
   |zero=>simp at h;subst h;simp
   | succ j=>
     simp at h;have:=ih (j:=j) (by simpa using h)
     simp only[List.set_cons_succ,List.count_cons];omega
theorem needF_good{n m:Nat}:∀ (l:List Int) (s:List Bool×List Int),GoodS n m s->(∀v,v∈l->v<n)->GoodS n m (needF l s)
 |[],s,h,_=>h
 | v::l,s,h,hl=>by
   rw[needF];refine needF_good l _ ?_ fun v hv=>hl v (List.mem_cons_of_mem _ hv);split
   ·rename_i hc;obtain⟨h0,h1⟩:=hc;have hv:=hl v List.mem_cons_self
    have hj:v.toNat<s.1.length:=by rw[h.len];omega
    have hs:s.1[v.toNat]?=some false:=by
     rw[List.getD_eq_getElem?_getD,Gg hj]at h1;rw[Gg hj];exact congrArg some h1
    refine⟨by simpa using h.len,fun u hu=>?_,?_⟩
    ·rcases List.mem_append.1 hu with hu|hu
     ·exact h.work u hu
     ·simp at hu;subst hu;exact⟨h0,hv⟩
    ·have:=count_set_true hs;have:=h.mu
     simp only[List.length_append,List.length_cons,List.length_nil];omega
   ·exact h
/-- What the makers look at. -/
def GoodM(n m:Nat)(ms:List (List Int)):Prop:=ms.length=n/\ ∀l,l∈ms->l.length<=m/\ ∀v,v∈l->v<n
theorem looks_len(x:TIns):(looksF x).length<=x.args.length+2:=by
 unfold looksF;split
 ·simp
 split
 ·simp
 split
 ·omega
 ·simp
theorem getD_mem{ms:List (List Int)}{j:Nat}:ms.getD j []=[]\/ms.getD j []∈ms:=by
 rw[List.getD_eq_getElem?_getD];cases h:ms[j]? with
 |none=>exact .inl rfl
 |some l=>exact .inr (Mg h)
theorem goodM_set{n m k:Nat}{ms:List (List Int)}(h:GoodM n m ms){j:Nat}{l:List Int}(hl:l.length<=k)(hv:∀ v,v∈l->v<n):GoodM n (m+k) (ms.set j (ms.getD j []++l)):=by
 refine⟨by simpa using h.1,fun l' hl'=>?_⟩;rcases List.mem_or_eq_of_mem_set hl' with h1|rfl
 ·have:=h.2 _ h1;exact⟨by omega,this.2⟩
 ·have hg:(ms.getD j []).length<=m/\ ∀v,v∈ms.getD j []->v<n:=by
   rcases getD_mem (ms:=ms) (j:=j)with h0|h0
   ·rw[h0];exact⟨Nat.zero_le _,fun v hv=>by cases hv⟩
   ·exact h.2 _ h0
  refine⟨by rw[List.length_append];omega,fun v hv'=>?_⟩;rcases List.mem_append.1 hv' with h1|h1
  ·exact hg.2 v h1
  ·exact hv v h1
theorem goodM_mono{n m m':Nat}{ms:List (List Int)}(h:GoodM n m ms)(hm:m<=m'):GoodM n m' ms:=⟨h.1,fun l hl=>⟨Nat.le_trans (h.2 l hl).1 hm,(h.2 l hl).2⟩⟩
/-- All that is reckoned so far is in bounds. -/
structure GoodN(n m:Nat)(t:NS):Prop where
 ms:GoodM n m t.1
 s:GoodS n n t.2
def insOK(n:Nat)(x:TIns):Prop:=(hasF x->0<=x.dst/\x.dst<n)/\ ∀v,v∈looksF x->v<n
theorem insStep_good{n m:Nat}{t:NS}{x:TIns}(h:GoodN n m t)(hx:insOK n x):GoodN n (m+(x.args.length+2)) (insStep t x):=by
 unfold insStep;split
 ·exact⟨goodM_set h.ms (looks_len x) hx.2,h.s⟩
 split
 ·exact⟨goodM_mono h.ms (by omega),h.s⟩
 ·exact⟨goodM_mono h.ms (by omega),needF_good _ _ h.s hx.2⟩
theorem foldIns_good{n:Nat}:∀ (l:List TIns) (m:Nat) (t:NS),GoodN n m t->(∀x,x∈l->insOK n x)->GoodN n (m+(l.map fun x=>x.args.length+2).sum) (l.foldl insStep t)
 |[],m,t,h,_=>h
 | x::l,m,t,h,hx=>by
   have:=foldIns_good l _ _ (insStep_good h (hx x List.mem_cons_self)) fun y hy=>hx y (List.mem_cons_of_mem _ hy);rw[List.foldl_cons,List.map_cons,List.sum_cons,<-Nat.add_assoc];exact this
def blockOK(n:Nat)(b:TBlock):Prop:=(∀x,x∈b.ins->insOK n x)/\(b.term.kind≠1->b.term.a<n)
theorem blockStep_good{n m:Nat}{t:NS}{b:TBlock}(h:GoodN n m t)(hb:blockOK n b):GoodN n (m+insW b) (blockStep t b):=by
 have h1:=foldIns_good b.ins m t h hb.1;unfold blockStep;split
 ·exact h1
 ·rename_i hk;exact⟨h1.ms,needF_good _ _ h1.s fun v hv=>by simp at hv;subst hv;exact hb.2 hk⟩
theorem foldB_good{n:Nat}:∀ (l:List TBlock) (m:Nat) (t:NS),GoodN n m t->(∀b,b∈l->blockOK n b)->GoodN n (m+(l.map insW).sum) (l.foldl blockStep t)
 |[],m,t,h,_=>h
 | b::l,m,t,h,hb=>by
   have:=foldB_good l _ _ (blockStep_good h (hb b List.mem_cons_self)) fun y hy=>hb y (List.mem_cons_of_mem _ hy);rw[List.foldl_cons,List.map_cons,List.sum_cons,<-Nat.add_assoc];exact this
theorem sum_take_le{α:Type}(g:α->Nat)(l:List α)(i:Nat):((l.take i).map g).sum<=(l.map g).sum:=by
 conv=>rhs;rw[<-List.take_append_drop i l,List.map_append,List.sum_append]
 exact Nat.le_add_right _ _
theorem goodN_zero(n:Nat):GoodN n 0 (List.replicate n [],(List.replicate n false,[])):=
 ⟨⟨by simp,fun l hl=>by rw[(List.mem_replicate.1 hl).2];simp⟩,⟨by simp,fun v hv=>(by cases hv),by simp⟩⟩
theorem keepStep_len(n:Int)(o:List Bool)(x:TIns):(keepStep n o x).length=o.length:=by
 unfold keepStep;split
 ·simp
 ·rfl
theorem keepBlock_len(n:Int):∀ (l:List TIns) (o:List Bool),(l.foldl (keepStep n) o).length=o.length
 |[],o=>rfl
 |x::l,o=>by rw[List.foldl_cons,keepBlock_len n l,keepStep_len]
theorem keep_len(n:Int):∀ (l:List TBlock) (o:List Bool),(l.foldl (keepBlock n) o).length=o.length
 |[],o=>rfl
 |x::l,o=>by rw[List.foldl_cons,keep_len n l,keepBlock,keepBlock_len]
theorem foldl_take{α β:Type}{g:β->α->β}{t:β}{l:List α}{k:Nat}{x:α}(h:l[k]?=some x):(l.take (k+1)).foldl g t=g ((l.take k).foldl g t) x:=by
 rw[take_snoc h,List.foldl_append];rfl
theorem intR_last{w:List Int}{v:Int}{r:List (List A)}(h:RowR IntR (w++[v]) r):r.length=w.length+1/\r[w.length]?=some [.v (.int .i64 v)]/\RowR IntR w (r.take w.length):=by
 have hl:=h.len;rw[List.length_append]at hl;obtain⟨e,he,hv⟩:=h.at w.length (by simp);simp at hv;refine⟨by simpa using hl,by rw[he,hv],?_⟩
 have:∀ (w:List Int) (r:List (List A)),RowR IntR (w++[v]) r->RowR IntR w (r.take w.length):=by
  intro w
  induction w with
  |nil=>intro r _;exact .nil
  | cons a w ih=>
    intro r h;cases h with
    |cons h1 h2=>exact .cons h1 (ih _ h2)
 exact this w r h
end Go.Ab.Ytkmmpbmmmbebgaa
