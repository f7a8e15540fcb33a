/- What is left of a unit says what the unit says: plainly. The same variables and points. The same units. Two units with the same functions, but for their blocks. What is left of a sound unit is sound. DceSays: the law as the machine runs it. -/
import Derived.Test.YtkmmpbmmmbebgaaT10
import Derived.Test.YtkmmpbmmmbebgaaT9
set_option linter.all false
namespace Go.Ab.Ytkmmpbmmmbebgaa
set_option maxRecDepth 100000
set_option maxHeartbeats 8000000
theorem runU_of{u:TUnit}(hm:MayP u)(hs:SoundU u)(hL:largeN u<=6000)(hsz:Sizes u):RunU u:=by
 have hf:∀ f,f∈u.funcs->funcSum f<=6000:=fun f hf=>by
  have h1:=mem_le_sum (g:=funcSum) hf;unfold largeN at hL;omega
 refine⟨hm,fun f hfm b hb x hx=>?_,fun f hfm=>⟨?_,fun b hb=>?_⟩,fun f hfm b hb x hx=>?_,hsz.small.p.2⟩
 ·obtain⟨i,hi⟩:=List.getElem?_of_mem hfm;obtain⟨j,hj⟩:=List.getElem?_of_mem hb;obtain⟨k,hk⟩:=List.getElem?_of_mem hx;exact((hs.2 i f hi j b hj).ins k x hk).get
 ·have:=hf f hfm;unfold funcSum at this;omega
 ·have:=hf f hfm;have h3:=mem_le_sum (g:=fun b:TBlock=>b.ins.length) hb
  unfold funcSum insSum at this;omega
 ·exact(hsz.small.f f hfm).1.a b hb x hx
theorem runU_dce{u:TUnit}{l:List TFunc}(h:RunU u)(hm:MayP {u with funcs:=l})(hd:DceL u.funcs l):RunU {u with funcs:=l}:=by
 have hat:∀ g,g∈l-> ∃f o,f∈u.funcs/\g=dceF o f:=fun g hg=>by
  obtain⟨i,hi⟩:=List.getElem?_of_mem hg;obtain⟨f,o,h1,h2,_⟩:=hd.at i g hi;exact⟨f,o,Mg h1,h2⟩
 have hin:∀ o f b,b∈(dceF o f).blocks-> ∃b0,b0∈f.blocks/\b=dceB o b0:=fun o f b hb=>by
  obtain⟨b0,h1,h2⟩:=List.mem_map.1 hb;exact⟨b0,h1,h2.symm⟩
 have hii:∀ o b x,x∈(dceB o b).ins-> ∃y,y∈b.ins/\x.op=y.op/\x.args=y.args:=fun o b x hx=>by
  obtain⟨y,h1,h2⟩:=List.mem_filterMap.1 hx;refine⟨y,h1,dceI_op h2,?_⟩;rcases dceI_some h2 with rfl|⟨_,_,rfl⟩<;>rfl
 refine⟨hm,fun g hg b hb x hx=>?_,fun g hg=>?_,fun g hg b hb x hx=>?_,h.scope⟩
 ·obtain⟨f,o,hf,rfl⟩:=hat g hg;obtain⟨b0,hb0,rfl⟩:=hin _ _ _ hb;obtain⟨y,hy,e,_⟩:=hii _ _ _ hx;rw[e];exact h.get f hf b0 hb0 y hy
 ·obtain⟨f,o,hf,rfl⟩:=hat g hg;refine⟨(h.few f hf).1,fun b hb=>?_⟩;obtain⟨b0,hb0,rfl⟩:=hin _ _ _ hb;exact Nat.le_trans (List.length_filterMap_le _ _) ((h.few f hf).2 b0 hb0)
 ·obtain⟨f,o,hf,rfl⟩:=hat g hg;obtain⟨b0,hb0,rfl⟩:=hin _ _ _ hb;obtain⟨y,hy,_,e⟩:=hii _ _ _ hx;rw[e];exact h.args f hf b0 hb0 y hy
theorem goodV_refl(k:TKn):goodV k k:=by
 refine⟨rfl,?_⟩;cases k.gone
 ·exact .inr ⟨rfl,rfl⟩
 ·exact .inl rfl
theorem goodV_norm(a b:TKn)(h:goodV a b):goodV (kn0 a) (kn0 b):=by
 obtain⟨va,na,ga⟩:=a;obtain⟨vb,nb,gb⟩:=b;obtain⟨h1,h2⟩:=h;simp only at h1 h2;cases ga with
 |true=>cases gb<;>exact⟨h1,.inl rfl⟩
 | false=>
   obtain⟨rfl,rfl⟩:gb=false/\na=nb:=by simpa using h2
   exact⟨h1,.inr ⟨rfl,rfl⟩⟩
theorem simU_of{G:TKn->TKn->Prop}{u:TUnit}{l:List TFunc}(hm:MayP u)(hs:SoundU u)(hsz:Sizes u)(hd:DceL u.funcs l)(hr:∀ k,G k k)(hn:∀ a b,G a b->G (kn0 a) (kn0 b))
  (hb:∀ (i:Nat) f o,u.funcs[i]?=some f->SNd u i f o-> ∀x,InF f x->x.op=46->0<=x.a->o.getD x.a.toNat false=false-> ∀m,G ⟨x.var,0,true⟩ ⟨x.var,m,false⟩):SimU G u {u with funcs:=l}:=by
 refine⟨hr,hn,rfl,hsz.small.p.2,rfl,fun i hi=>?_,fun i f hf=>?_⟩
 ·exact List.getElem?_eq_none (by rw[hd.len];exact List.getElem?_eq_none_iff.1 hi)
 ·obtain⟨o,h1,h2⟩:=hd.to i f hf;have hfm:=Mg hf
  have hsn:SNd u i f o:=⟨hm.funcs i f hf,hs.2 i f hf,(dceFOK hm hs hf (hsz.small.f f hfm).1 (hsz.w f hfm)).ok,h2⟩;exact⟨o,h1,hsn,hb i f o hf hsn⟩
theorem goodL_of{a b:List TEv}(h:All2 (EvS goodV) a b):GoodL a b:=
 ⟨h.length,fun i x y hx hy => by
  have e:=h.get i x y hx hy
  exact⟨⟨e.kind,e.num,e.point,e.func,e.vals.length,fun j v w hv hw=>e.vals.get j v w hv hw⟩,by have:=e.few;omega⟩⟩
theorem run_len{u:TUnit}(hU:RunU u){inp:List Int}{fuel most:Int}(h0:0<=most/\most<=10000000):(haltP (runP u inp fuel most)).ev.length<=1000000000:=by
 have hgo:=(callP_goes u (most.toNat+1) 0 u.main [] ⟨inp,if fuel<0 then 0 else fuel,most,[],false,false⟩ rfl).pot1;have hlo:=(callP_low hU.few (most.toNat+1) 0 u.main [] ⟨inp,if fuel<0 then 0 else fuel,most,[],false,false⟩ rfl).2
 simp only[List.length_nil]at hgo hlo;unfold haltP;split
 ·unfold runP;omega
 ·unfold endsP runP;simp only[List.length_append,List.length_cons,List.length_nil];omega
/-- The theorem: what is left of a unit is as good as the unit. -/
theorem dce_good{u:TUnit}{l:List TFunc}(hm:MayP u)(hs:SoundU u)(hsz:Sizes u)(hd:DceL u.funcs l){inp:List Int}{fuel most most':Int}(h0:0<=most)(h1:most<=most')(hl:(haltP (runP u inp fuel most)).long=false):
  GoodL (haltP (runP {u with funcs:=l} inp fuel most')).ev (haltP (runP u inp fuel most)).ev:=
 goodL_of (run_sim (simU_of hm hs hsz hd goodV_refl goodV_norm fun _ _ _ _ _ _ _ _ _ _ _=>⟨rfl,.inl rfl⟩) doesF_num h0 h1 hl)
theorem sameInts13_ok{l:List Int}{a b:A}(ha:SlA 1 IntR l a)(hb:SlA 1 IntR l b)(hn:l.length<=1000000000):WC E 42 [a,b] [] fun r _=>r= .v (.bool true):=by
 obtain⟨na,es,n,rfl,h1,h2,h3,_⟩:=ha;obtain⟨nb,es',n',rfl,h1',h2',h3',_⟩:=hb;obtain rfl:=intRow_eq h3 h3';obtain rfl:n'=n:=by omega
 refine WC.enter rfl rfl rfl ?_;unfold b42 ki kb mt ov oo
 repeat' (first|refine W.seq ?_|refine W.easy (k:=?_)|refine W.block ?_|refine W.skip ?_|(refine W.condL (h:=?_);change W _ _ _ _)|refine W.regS ?_|refine WS.done ?_|refine WS.pre (k:=?_)|refine WS.len (h:=?_)|(refine WS.cmp (k1:=fun h=>?_) (k2:=fun h=>?_)<;>simp only[Zq]at h<;>(try(exfalso;omega)))|fail)
 refine W.forS n' (fun k (_:Unit) σ=>sn 4 k σ) (fun _ _=>True) 0 (Nat.zero_le _) ?_ ?_
 ·exact⟨(),by cbv,trivial⟩
 rintro k _ hk _;refine W.norm (k:=?_);unfold l42_0 ki kb mt mw ll iz ov oo
 by_cases hkn:k<n'
 ·have hkl:k<l.length:=by omega
  obtain⟨ek,hek,rfl⟩:=h3.at k hkl;generalize l[k]=v at*
  repeat' (first|refine W.seq ?_|refine W.block ?_|refine W.skip ?_|(refine W.condL (h:=?_);change W _ _ _ _)|refine W.regS ?_|refine WS.done ?_|refine WS.pre (k:=?_)|refine WS.len (h:=?_)|(refine WS.cmp (k1:=fun h=>?_) (k2:=fun h=>?_)<;>simp only[Zq]at h<;>(try(exfalso;omega)))|refine WS.inc (h:=?_)|refine WS.consN (k:=?_)|refine W.beginD (h:=?_)|(refine WD.done ⟨_,by cbv;first|done|fail,?_⟩;dsimp only)|refine WD.pre (k:=?_)|refine WD.iaddr (h:=?_)|refine WD.oneN (k:=?_)|fail)
  exact⟨by omega,(),by cbv,trivial⟩
 ·
  repeat' (first|refine W.seq ?_|refine W.easy (k:=?_)|refine W.ret ?_|refine W.exit ?_|refine Ret.ret (k:=?_)|(refine W.condL (h:=?_);change W _ _ _ _)|refine W.regS ?_|refine WS.done ?_|refine WS.pre (k:=?_)|refine WS.len (h:=?_)|(refine WS.cmp (k1:=fun h=>?_) (k2:=fun h=>?_)<;>simp only[Zq]at h<;>(try(exfalso;omega)))|fail)
  rfl
theorem sameTexts_ok{l:List ByteArray}{a b:A}(ha:SlA 1 StrR l a)(hb:SlA 1 StrR l b)(hn:l.length<=1000000000):WC E 43 [a,b] [] fun r _=>r= .v (.bool true):=by
 obtain⟨na,es,n,rfl,h1,h2,h3,_⟩:=ha;obtain⟨nb,es',n',rfl,h1',h2',h3',_⟩:=hb;obtain rfl:=strRow_eq h3 h3';obtain rfl:n'=n:=by omega
 refine WC.enter rfl rfl rfl ?_;unfold b43 ki kb mt ov oo
 repeat' (first|refine W.seq ?_|refine W.easy (k:=?_)|refine W.block ?_|refine W.skip ?_|(refine W.condL (h:=?_);change W _ _ _ _)|refine W.regS ?_|refine WS.done ?_|refine WS.pre (k:=?_)|refine WS.len (h:=?_)|(refine WS.cmp (k1:=fun h=>?_) (k2:=fun h=>?_)<;>simp only[Zq]at h<;>(try(exfalso;omega)))|fail)
 refine W.forS n' (fun k (_:Unit) σ=>sn 4 k σ) (fun _ _=>True) 0 (Nat.zero_le _) ?_ ?_
 ·exact⟨(),by cbv,trivial⟩
 rintro k _ hk _;refine W.norm (k:=?_);unfold l43_0 ki kb mt mw ll iz ov oo
 by_cases hkn:k<n'
 ·have hkl:k<l.length:=by omega
  obtain⟨ek,hek,rfl⟩:=h3.at k hkl;generalize l[k]=v at*
  repeat' (first|refine W.seq ?_|refine W.block ?_|refine W.skip ?_|(refine W.condL (h:=?_);change W _ _ _ _)|refine W.regS ?_|refine WS.done ?_|refine WS.pre (k:=?_)|refine WS.len (h:=?_)|(refine WS.cmp (k1:=fun h=>?_) (k2:=fun h=>?_)<;>simp only[Zq]at h<;>(try(exfalso;omega)))|refine WS.inc (h:=?_)|refine WS.consN (k:=?_)|refine W.beginD (h:=?_)|(refine WD.done ⟨_,by cbv;first|done|fail,?_⟩;dsimp only)|refine WD.pre (k:=?_)|refine WD.iaddr (h:=?_)|refine WD.strNeV (h:=?_)|fail)
  exact⟨by omega,(),by cbv,trivial⟩
 ·
  repeat' (first|refine W.seq ?_|refine W.easy (k:=?_)|refine W.ret ?_|refine W.exit ?_|refine Ret.ret (k:=?_)|(refine W.condL (h:=?_);change W _ _ _ _)|refine W.regS ?_|refine WS.done ?_|refine WS.pre (k:=?_)|refine WS.len (h:=?_)|(refine WS.cmp (k1:=fun h=>?_) (k2:=fun h=>?_)<;>simp only[Zq]at h<;>(try(exfalso;omega)))|fail)
  rfl
theorem sameVars_ok{l:List TVar}{a b:A}(ha:SlA 6 VarR l a)(hb:SlA 6 VarR l b)(hn:l.length<=1000000000/\ ∀v,v∈l->v.fields.length<=1000000000):WC E 32 [a,b] [] fun r _=>r= .v (.bool true):=by
 obtain⟨na,es,n,rfl,h1,h2,h3,_⟩:=ha;obtain⟨nb,es',n',rfl,h1',h2',h3',_⟩:=hb;obtain rfl:n'=n:=by omega
 refine WC.enter rfl rfl rfl ?_;unfold b32 ki kb mt ov oo
 repeat' (first|refine W.seq ?_|refine W.easy (k:=?_)|refine W.block ?_|refine W.skip ?_|(refine W.condL (h:=?_);change W _ _ _ _)|refine W.regS ?_|refine WS.done ?_|refine WS.pre (k:=?_)|refine WS.len (h:=?_)|(refine WS.cmp (k1:=fun h=>?_) (k2:=fun h=>?_)<;>simp only[Zq]at h<;>(try(exfalso;omega)))|fail)
 refine W.forS n' (fun k (_:Unit) σ=>sn 4 k σ) (fun _ _=>True) 0 (Nat.zero_le _) ?_ ?_
 ·exact⟨(),by cbv,trivial⟩
 rintro k _ hk _;refine W.norm (k:=?_);unfold l32_0 ki kb mt mw fa ll iz og ov oo
 by_cases hkn:k<n'
 ·have hkl:k<l.length:=by omega
  obtain⟨ek,hek,hV⟩:=h3.at k hkl;obtain⟨ek',hek',hV'⟩:=h3'.at k hkl;have hfl:=hn.2 _ (Gm hkl)
  generalize l[k]=v at*
  obtain⟨name,⟨tk,tn,tname⟩,words,fields⟩:=v;obtain⟨_,rfl,hF⟩:=hV;obtain⟨_,rfl,hF'⟩:=hV';have hc:=sameTexts_ok hF hF' hfl
  obtain⟨nf,fs,nfl,rfl,hf1,hf2,hf3,_⟩:=hF;obtain⟨nf',fs',nfl',rfl,hf1',hf2',hf3',_⟩:=hF'
  repeat' (first|refine W.seq ?_|refine W.block ?_|refine W.skip ?_|(refine W.condL (h:=?_);change W _ _ _ _)|refine W.regS ?_|refine WS.done ?_|refine WS.pre (k:=?_)|refine WS.len (h:=?_)|(refine WS.cmp (k1:=fun h=>?_) (k2:=fun h=>?_)<;>simp only[Zq]at h<;>(try(exfalso;omega)))|refine W.beginD (h:=?_)|refine WD.pre (k:=?_)|(refine WD.guard (h:=?_);change WD _ _ _ _ _ _ _ _)|refine WD.iaddr (h:=?_)|(refine WD.cmp (k1:=fun h=>?_) (k2:=fun h=>?_)<;>simp only[Zq]at h<;>(try(exfalso;omega)))|refine WD.strNe (k:=?_)|refine WD.eqSame (k:=?_)|fail)
  refine WD.call (hc:=(hc)) (k:=?_);rintro _ _ rfl;refine⟨_,_,_,by cbv;first|done|fail,by cbv;first|done|fail,?_⟩
  repeat' (first|refine W.skip ?_|(refine W.condL (h:=?_);change W _ _ _ _)|refine W.regS ?_|refine WS.done ?_|refine WS.pre (k:=?_)|refine WS.inc (h:=?_)|refine WS.consN (k:=?_)|(refine WD.done ⟨_,by cbv;first|done|fail,?_⟩;dsimp only)|refine WD.pre (k:=?_)|fail)
  exact⟨by omega,(),by cbv,trivial⟩
 ·
  repeat' (first|refine W.seq ?_|refine W.easy (k:=?_)|refine W.ret ?_|refine W.exit ?_|refine Ret.ret (k:=?_)|(refine W.condL (h:=?_);change W _ _ _ _)|refine W.regS ?_|refine WS.done ?_|refine WS.pre (k:=?_)|refine WS.len (h:=?_)|(refine WS.cmp (k1:=fun h=>?_) (k2:=fun h=>?_)<;>simp only[Zq]at h<;>(try(exfalso;omega)))|fail)
  rfl
theorem samePoints_ok{l:List TPoint}{a b:A}(ha:SlA 3 PointR l a)(hb:SlA 3 PointR l b)(hn:l.length<=1000000000/\ ∀v,v∈l->v.scope.length<=1000000000):WC E 30 [a,b] [] fun r _=>r= .v (.bool true):=by
 obtain⟨na,es,n,rfl,h1,h2,h3,_⟩:=ha;obtain⟨nb,es',n',rfl,h1',h2',h3',_⟩:=hb;obtain rfl:n'=n:=by omega
 refine WC.enter rfl rfl rfl ?_;unfold b30 ki kb mt ov oo
 repeat' (first|refine W.seq ?_|refine W.easy (k:=?_)|refine W.block ?_|refine W.skip ?_|(refine W.condL (h:=?_);change W _ _ _ _)|refine W.regS ?_|refine WS.done ?_|refine WS.pre (k:=?_)|refine WS.len (h:=?_)|(refine WS.cmp (k1:=fun h=>?_) (k2:=fun h=>?_)<;>simp only[Zq]at h<;>(try(exfalso;omega)))|fail)
 refine W.forS n' (fun k (_:Unit) σ=>sn 4 k σ) (fun _ _=>True) 0 (Nat.zero_le _) ?_ ?_
 ·exact⟨(),by cbv,trivial⟩
 rintro k _ hk _;refine W.norm (k:=?_);unfold l30_0 ki kb mt mw fa ll iz og ov oo
 by_cases hkn:k<n'
 ·have hkl:k<l.length:=by omega
  obtain⟨ek,hek,hV⟩:=h3.at k hkl;obtain⟨ek',hek',hV'⟩:=h3'.at k hkl;have hfl:=hn.2 _ (Gm hkl)
  generalize l[k]=v at*
  obtain⟨func,line,scope⟩:=v;obtain⟨_,rfl,hF⟩:=hV;obtain⟨_,rfl,hF'⟩:=hV';have hc:=sameInts13_ok hF hF' hfl
  obtain⟨nf,fs,nfl,rfl,hf1,hf2,hf3,_⟩:=hF;obtain⟨nf',fs',nfl',rfl,hf1',hf2',hf3',_⟩:=hF'
  repeat' (first|refine W.seq ?_|refine W.block ?_|refine W.skip ?_|(refine W.condL (h:=?_);change W _ _ _ _)|refine W.regS ?_|refine WS.done ?_|refine WS.pre (k:=?_)|refine WS.len (h:=?_)|(refine WS.cmp (k1:=fun h=>?_) (k2:=fun h=>?_)<;>simp only[Zq]at h<;>(try(exfalso;omega)))|refine W.beginD (h:=?_)|refine WD.pre (k:=?_)|(refine WD.guard (h:=?_);change WD _ _ _ _ _ _ _ _)|refine WD.iaddr (h:=?_)|(refine WD.cmp (k1:=fun h=>?_) (k2:=fun h=>?_)<;>simp only[Zq]at h<;>(try(exfalso;omega)))|fail)
  refine WD.call (hc:=(hc)) (k:=?_);rintro _ _ rfl;refine⟨_,_,_,by cbv;first|done|fail,by cbv;first|done|fail,?_⟩
  repeat' (first|refine W.skip ?_|(refine W.condL (h:=?_);change W _ _ _ _)|refine W.regS ?_|refine WS.done ?_|refine WS.pre (k:=?_)|refine WS.inc (h:=?_)|refine WS.consN (k:=?_)|(refine WD.done ⟨_,by cbv;first|done|fail,?_⟩;dsimp only)|refine WD.pre (k:=?_)|fail)
  exact⟨by omega,(),by cbv,trivial⟩
 ·
  repeat' (first|refine W.seq ?_|refine W.easy (k:=?_)|refine W.ret ?_|refine W.exit ?_|refine Ret.ret (k:=?_)|(refine W.condL (h:=?_);change W _ _ _ _)|refine W.regS ?_|refine WS.done ?_|refine WS.pre (k:=?_)|refine WS.len (h:=?_)|(refine WS.cmp (k1:=fun h=>?_) (k2:=fun h=>?_)<;>simp only[Zq]at h<;>(try(exfalso;omega)))|fail)
  rfl
theorem sameFunc_ok{f:TFunc}{e e':List A}(h:FuncR f e)(h':FuncR f e')(hs:SameSmall f):WC E 31 [.agg e,.agg e'] [] fun r _=>r= .v (.bool true):=by
 obtain⟨name,params,result,vars,blocks,size⟩:=f;obtain⟨_,_,rfl,hV,⟨nb,bs,nbl,rfl,hbl,h4,hb,_⟩⟩:=h;obtain⟨_,_,rfl,hV',⟨nb',bs',nbl',rfl,hbl',h4',hb',_⟩⟩:=h';have hc:=sameVars_ok hV hV' hs.v
 obtain⟨nv,vs,nvl,rfl,hvl,h3,hv,_⟩:=hV;obtain⟨nv',vs',nvl',rfl,hvl',h3',hv',_⟩:=hV';obtain rfl:nbl'=nbl:=by omega
 have hsb:=hs.b;simp only at h4 hb hb' hsb;refine WC.enter rfl rfl rfl ?_;unfold b31 ki kb ft ll og ov oo;cases result
 all_goals
  repeat' (first|refine W.seq ?_|refine W.easy (k:=?_)|refine W.regS ?_|refine WS.pre (k:=?_)|(refine WS.guard (h:=?_);change WS _ _ _ _)|(refine WS.cmp (k1:=fun h=>?_) (k2:=fun h=>?_)<;>simp only[Zq]at h<;>(try(exfalso;omega)))|refine WS.strNe (k:=?_)|refine WS.consN (k:=?_)|fail)
  refine WS.call (hc:=(hc)) (k:=?_);rintro _ _ rfl;refine⟨_,_,_,by cbv;first|done|fail,by cbv;first|done|fail,?_⟩
  repeat' (first|refine W.seq ?_|refine W.easy (k:=?_)|refine W.block ?_|refine W.skip ?_|(refine W.condL (h:=?_);change W _ _ _ _)|refine WS.done ?_|refine WS.pre (k:=?_)|(refine WS.guard (h:=?_);change WS _ _ _ _)|refine WS.len (h:=?_)|(refine WS.cmp (k1:=fun h=>?_) (k2:=fun h=>?_)<;>simp only[Zq]at h<;>(try(exfalso;omega)))|fail)
 all_goals
  refine W.forA nbl' (fun k (_:Unit) σ=>sn 6 k σ) (fun _ _=>True) 0 (Nat.zero_le _) ?_ ?_
  ·exact⟨(),by cbv,trivial⟩
  rintro QA kA k _ hk _;refine W.norm (k:=?_);unfold l31_1 ki kb vi mt mw ft ll lg iz og ov oo
  by_cases hkn:k<nbl'
  ·have hkl:k<blocks.length:=by omega
   obtain⟨ek,hek,hB⟩:=hb.at k hkl;obtain⟨ek',hek',hB'⟩:=hb'.at k hkl;have hil:=hs.i _ (Gm hkl)
   have hal:=hs.a _ (Gm hkl);generalize blocks[k]=b at*
   obtain⟨ins,⟨kind,a,to,els⟩⟩:=b;obtain⟨_,rfl,⟨ni,is,nil,rfl,hi1,hi2,hI,_⟩⟩:=hB;obtain⟨_,rfl,⟨ni',is',nil',rfl,hi1',hi2',hI',_⟩⟩:=hB';obtain rfl:nil'=nil:=by omega
   simp only at hi2 hil hal hI hI'
   repeat' (first|refine W.seq ?_|refine W.easy (k:=?_)|refine W.block ?_|refine W.skip ?_|(refine W.condL (h:=?_);change W _ _ _ _)|refine W.regS ?_|refine WS.done ?_|refine WS.pre (k:=?_)|(refine WS.guard (h:=?_);change WS _ _ _ _)|refine WS.len (h:=?_)|refine WS.iaddr (h:=?_)|(refine WS.cmp (k1:=fun h=>?_) (k2:=fun h=>?_)<;>simp only[Zq]at h<;>(try(exfalso;omega)))|refine WS.eqSame (k:=?_)|refine WS.consN (k:=?_)|fail)
   refine W.forA nil' (fun k (_:Unit) σ=>sn 11 k σ) (fun _ _=>True) 0 (Nat.zero_le _) ?_ ?_
   ·exact⟨(),by cbv,trivial⟩
   rintro QB kB q _ hq _;refine W.norm (k:=?_);unfold l31_0 ki kb mt mw ft ll lg iz ov oo
   by_cases hqn:q<nil'
   ·have hql:q<ins.length:=by omega
    obtain⟨eq,heq,hX⟩:=hI.at q hql;obtain⟨eq',heq',hX'⟩:=hI'.at q hql;have ci:=sameIns_ok hX hX' (hal _ (Gm hql))
    obtain⟨_,rfl,⟨na,as,nal,rfl,ha1,ha2,hA,_⟩⟩:=hX;obtain⟨_,rfl,⟨na',as',nal',rfl,ha1',ha2',hA',_⟩⟩:=hX'
    repeat' (first|refine W.seq ?_|refine W.block ?_|refine W.skip ?_|(refine W.condL (h:=?_);change W _ _ _ _)|refine W.regS ?_|refine WS.done ?_|refine WS.pre (k:=?_)|refine WS.len (h:=?_)|(refine WS.cmp (k1:=fun h=>?_) (k2:=fun h=>?_)<;>simp only[Zq]at h<;>(try(exfalso;omega)))|refine W.beginD (h:=?_)|refine WD.pre (k:=?_)|refine WD.iaddr (h:=?_)|fail)
    refine WD.call (hc:=(ci)) (k:=?_);rintro _ _ rfl;refine⟨_,_,_,by cbv;first|done|fail,by cbv;first|done|fail,?_⟩
    repeat' (first|refine W.skip ?_|(refine W.condL (h:=?_);change W _ _ _ _)|refine W.regS ?_|refine WS.done ?_|refine WS.pre (k:=?_)|refine WS.inc (h:=?_)|refine WS.consN (k:=?_)|(refine WD.done ⟨_,by cbv;first|done|fail,?_⟩;dsimp only)|refine WD.pre (k:=?_)|fail)
    exact⟨by omega,(),by cbv,trivial⟩
   ·
    repeat' (first|refine W.seq ?_|refine W.exit ?_|(refine W.condL (h:=?_);change W _ _ _ _)|refine W.regS ?_|refine WS.done ?_|refine WS.pre (k:=?_)|refine WS.len (h:=?_)|(refine WS.cmp (k1:=fun h=>?_) (k2:=fun h=>?_)<;>simp only[Zq]at h<;>(try(exfalso;omega)))|fail)
    refine kB _ _ ?_
    repeat' (first|refine W.regS ?_|refine WS.done ?_|refine WS.pre (k:=?_)|refine WS.inc (h:=?_)|refine WS.consN (k:=?_)|fail)
    exact⟨by omega,(),by cbv,trivial⟩
  ·
   repeat' (first|refine W.seq ?_|refine W.exit ?_|(refine W.condL (h:=?_);change W _ _ _ _)|refine W.regS ?_|refine WS.done ?_|refine WS.pre (k:=?_)|refine WS.len (h:=?_)|(refine WS.cmp (k1:=fun h=>?_) (k2:=fun h=>?_)<;>simp only[Zq]at h<;>(try(exfalso;omega)))|fail)
   refine kA _ _ ?_
   repeat' (first|refine W.seq ?_|refine W.easy (k:=?_)|refine W.ret ?_|refine Ret.ret (k:=?_)|fail)
   rfl
theorem same_ok{u:TUnit}{e e':List A}(h:UnitR u e)(h':UnitR u e')(hs:∀ f,f∈u.funcs->SameSmall f)(hn:u.funcs.length<=1000000000)(hp:u.points.length<=1000000000/\ ∀v,v∈u.points->v.scope.length<=1000000000):WC E 13 [.agg e,.agg e'] [] fun r _=>r= .v (.bool true):=by
 obtain⟨funcs,main,points⟩:=u;obtain⟨_,_,rfl,⟨nf,fs,n,rfl,hfl,h1,hf,_⟩,hP⟩:=h;obtain⟨_,_,rfl,⟨nf',fs',n',rfl,hfl',h1',hf',_⟩,hP'⟩:=h';have hc:=samePoints_ok hP hP' hp
 obtain⟨np,ps,m,rfl,hpl,h2,hP,_⟩:=hP;obtain⟨np',ps',m',rfl,hpl',h2',hP',_⟩:=hP';obtain rfl:n'=n:=by omega
 simp only at h1 hf hf' hn hs;refine WC.enter rfl rfl rfl ?_;unfold b13 ki kb ft ll og ov oo
 repeat' (first|refine W.seq ?_|refine W.easy (k:=?_)|refine W.regS ?_|refine WS.pre (k:=?_)|(refine WS.guard (h:=?_);change WS _ _ _ _)|refine WS.len (h:=?_)|(refine WS.cmp (k1:=fun h=>?_) (k2:=fun h=>?_)<;>simp only[Zq]at h<;>(try(exfalso;omega)))|fail)
 refine WS.call (hc:=(hc)) (k:=?_);rintro _ _ rfl;refine⟨_,_,_,by cbv;first|done|fail,by cbv;first|done|fail,?_⟩
 repeat' (first|refine W.seq ?_|refine W.easy (k:=?_)|refine W.block ?_|refine W.skip ?_|(refine W.condL (h:=?_);change W _ _ _ _)|refine WS.done ?_|refine WS.pre (k:=?_)|fail)
 refine W.forA n' (fun k (_:Unit) σ=>sn 6 k σ) (fun _ _=>True) 0 (Nat.zero_le _) ?_ ?_
 ·exact⟨(),by cbv,trivial⟩
 rintro QA kA k _ hk _;refine W.norm (k:=?_);unfold l13_0 ki kb mt mw ft ll lg iz ov oo
 by_cases hkn:k<n'
 ·have hkl:k<funcs.length:=by omega
  obtain⟨ek,hek,hF⟩:=hf.at k hkl;obtain⟨ek',hek',hF'⟩:=hf'.at k hkl;have hss:=hs _ (Gm hkl)
  generalize funcs[k]=f at*
  have cf:=sameFunc_ok hF hF' hss;obtain⟨_,_,rfl,⟨nv,vs,nvl,rfl,hvl,h3,hv,_⟩,⟨nb,bs,nbl,rfl,hbl,h4,hb,_⟩⟩:=hF;obtain⟨_,_,rfl,⟨nv',vs',nvl',rfl,hvl',h3',hv',_⟩,⟨nb',bs',nbl',rfl,hbl',h4',hb',_⟩⟩:=hF'
  repeat' (first|refine W.seq ?_|refine W.block ?_|refine W.skip ?_|(refine W.condL (h:=?_);change W _ _ _ _)|refine W.regS ?_|refine WS.done ?_|refine WS.pre (k:=?_)|refine WS.len (h:=?_)|(refine WS.cmp (k1:=fun h=>?_) (k2:=fun h=>?_)<;>simp only[Zq]at h<;>(try(exfalso;omega)))|refine W.beginD (h:=?_)|refine WD.pre (k:=?_)|refine WD.iaddr (h:=?_)|fail)
  refine WD.call (hc:=(cf)) (k:=?_);rintro _ _ rfl;refine⟨_,_,_,by cbv;first|done|fail,by cbv;first|done|fail,?_⟩
  repeat' (first|refine W.skip ?_|(refine W.condL (h:=?_);change W _ _ _ _)|refine W.regS ?_|refine WS.done ?_|refine WS.pre (k:=?_)|refine WS.inc (h:=?_)|refine WS.consN (k:=?_)|(refine WD.done ⟨_,by cbv;first|done|fail,?_⟩;dsimp only)|refine WD.pre (k:=?_)|fail)
  exact⟨by omega,(),by cbv,trivial⟩
 ·
  repeat' (first|refine W.seq ?_|refine W.exit ?_|(refine W.condL (h:=?_);change W _ _ _ _)|refine W.regS ?_|refine WS.done ?_|refine WS.pre (k:=?_)|refine WS.len (h:=?_)|(refine WS.cmp (k1:=fun h=>?_) (k2:=fun h=>?_)<;>simp only[Zq]at h<;>(try(exfalso;omega)))|fail)
  refine kA _ _ ?_
  repeat' (first|refine W.seq ?_|refine W.easy (k:=?_)|refine W.ret ?_|refine Ret.ret (k:=?_)|fail)
  rfl
/-- The same, but for the blocks. -/
def LikeF(f g:TFunc):Prop:=g.name=f.name/\g.params=f.params/\g.result=f.result/\g.vars=f.vars
theorem like_ok{u v:TUnit}{e e':List A}(h:UnitR u e)(h':UnitR v e')(hm:v.main=u.main)(hpt:v.points=u.points)(hl:v.funcs.length=u.funcs.length)(hk:∀ (i:Nat) f g,u.funcs[i]?=some f->v.funcs[i]?=some g->LikeF f g)
  (hs:∀ f,f∈u.funcs->f.vars.length<=1000000000/\ ∀v,v∈f.vars->v.fields.length<=1000000000) (hn:u.funcs.length<=1000000000) (hp:u.points.length<=1000000000/\ ∀v,v∈u.points->v.scope.length<=1000000000):
  WC E 14 [.agg e,.agg e'] [] fun r _=>r= .v (.bool true):=by
 obtain⟨funcs,main,points⟩:=u;obtain⟨funcs',main',points'⟩:=v;simp only at hm hpt hl hk hs hn hp;subst hm hpt;obtain⟨_,_,rfl,⟨nf,fs,n,rfl,hfl,h1,hf,_⟩,hP⟩:=h;obtain⟨_,_,rfl,⟨nf',fs',n',rfl,hfl',h1',hf',_⟩,hP'⟩:=h';have hc:=samePoints_ok hP hP' hp
 obtain⟨np,ps,m,rfl,hpl,h2,hP,_⟩:=hP;obtain⟨np',ps',m',rfl,hpl',h2',hP',_⟩:=hP';simp only at h1 h1' hf hf';obtain rfl:n'=n:=by omega
 refine WC.enter rfl rfl rfl ?_;unfold b14 ki kb ft ll og ov oo
 repeat' (first|refine W.seq ?_|refine W.easy (k:=?_)|refine W.regS ?_|refine WS.pre (k:=?_)|(refine WS.guard (h:=?_);change WS _ _ _ _)|refine WS.len (h:=?_)|(refine WS.cmp (k1:=fun h=>?_) (k2:=fun h=>?_)<;>simp only[Zq]at h<;>(try(exfalso;omega)))|fail)
 refine WS.call (hc:=(hc)) (k:=?_);rintro _ _ rfl;refine⟨_,_,_,by cbv;first|done|fail,by cbv;first|done|fail,?_⟩
 repeat' (first|refine W.seq ?_|refine W.easy (k:=?_)|refine W.block ?_|refine W.skip ?_|(refine W.condL (h:=?_);change W _ _ _ _)|refine WS.done ?_|refine WS.pre (k:=?_)|fail)
 refine W.forA n' (fun k (_:Unit) σ=>sn 6 k σ) (fun _ _=>True) 0 (Nat.zero_le _) ?_ ?_
 ·exact⟨(),by cbv,trivial⟩
 rintro QA kA k _ hkk _;refine W.norm (k:=?_);unfold l14_0 ki kb vi mt mw ft ll lg iz og ov oo
 by_cases hkn:k<n'
 ·have hkl:k<funcs.length:=by omega
  have hkl':k<funcs'.length:=by omega
  obtain⟨ek,hek,hF⟩:=hf.at k hkl;obtain⟨ek',hek',hF'⟩:=hf'.at k hkl';have hlk:=hk k _ _ (Gg hkl) (Gg hkl')
  have hv:=hs _ (Gm hkl);generalize funcs[k]=f at*
  generalize funcs'[k]=g at*
  obtain⟨name,params,result,vars,blocks,size⟩:=f;obtain⟨name',params',result',vars',blocks',size'⟩:=g;obtain⟨k1,k2,k3,k4⟩:=hlk;simp only at k1 k2 k3 k4 hv;subst k1 k2 k3 k4;obtain⟨_,_,rfl,hV,⟨nb,bs,nbl,rfl,hbl,h4,hb,_⟩⟩:=hF;obtain⟨_,_,rfl,hV',⟨nb',bs',nbl',rfl,hbl',h4',hb',_⟩⟩:=hF';have cv:=sameVars_ok hV hV' hv
  obtain⟨nv,vs,nvl,rfl,hvl,h3,hv,_⟩:=hV;obtain⟨nv',vs',nvl',rfl,hvl',h3',hv',_⟩:=hV';cases result'
  all_goals
   repeat' (first|refine W.seq ?_|refine W.block ?_|refine W.skip ?_|(refine W.condL (h:=?_);change W _ _ _ _)|refine W.regS ?_|refine WS.done ?_|refine WS.pre (k:=?_)|(refine WS.guard (h:=?_);change WS _ _ _ _)|refine WS.len (h:=?_)|refine WS.iaddr (h:=?_)|(refine WS.cmp (k1:=fun h=>?_) (k2:=fun h=>?_)<;>simp only[Zq]at h<;>(try(exfalso;omega)))|refine WS.strNe (k:=?_)|refine WS.consN (k:=?_)|fail)
   refine WS.call (hc:=(cv)) (k:=?_);rintro _ _ rfl;refine⟨_,_,_,by cbv;first|done|fail,by cbv;first|done|fail,?_⟩
   repeat' (first|refine W.skip ?_|(refine W.condL (h:=?_);change W _ _ _ _)|refine W.regS ?_|refine WS.done ?_|refine WS.pre (k:=?_)|refine WS.inc (h:=?_)|refine WS.consN (k:=?_)|fail)
   exact⟨by omega,(),by cbv,trivial⟩
 ·
  repeat' (first|refine W.seq ?_|refine W.exit ?_|(refine W.condL (h:=?_);change W _ _ _ _)|refine W.regS ?_|refine WS.done ?_|refine WS.pre (k:=?_)|refine WS.len (h:=?_)|(refine WS.cmp (k1:=fun h=>?_) (k2:=fun h=>?_)<;>simp only[Zq]at h<;>(try(exfalso;omega)))|fail)
  refine kA _ _ ?_
  repeat' (first|refine W.seq ?_|refine W.easy (k:=?_)|refine W.ret ?_|refine Ret.ret (k:=?_)|fail)
  rfl
theorem soundU_dce{u:TUnit}{l:List TFunc}(hm:MayP u)(hs:SoundU u)(hsz:Sizes u)(hl:DceL u.funcs l):SoundU {u with funcs:=l}:=⟨mayP_dce hm hl,fun i g hg=>by
 obtain⟨f,o,h1,rfl,h3⟩:=hl.at i g hg
 have hn:SNd u i f o:=⟨hm.funcs i f h1,hs.2 i f h1,(dceFOK hm hs h1 (hsz.small.f f (Mg h1)).1 (hsz.w f (Mg h1))).ok,h3⟩
 exact hn.dce⟩
section
variable {E:Nat->Option AF} {σ:St} {d:Dst} {os:List AOper} {Q:St->Prop}
theorem _root_.Go.Ab.WS.convU{x:Opd}{a:Int}{τ:St}(hx:σ.rd x=some (.v (.int .u16 a)):=by cbv;first|done|fail)(h0:0<=a/\a<=65535)(hp:σ.putV d (.v (.int .i64 a))=some τ:=by cbv;first|done|fail)
  (h:WS E os τ Q):WS E (⟨d,.conv .i64 x,none⟩::os) σ Q:=by
 refine WS.op (x:=.v (.int .i64 a)) 1 ?_ hp h;simp only[ago,aop,Ab.pop,hx];rw[wrap64 (by omega) (by omega)]
theorem _root_.Go.Ab.WS.remN{x:Opd}{a b:Int}{τ:Int->St}(hx:σ.rd x=some (.v (.int .i64 a)):=by cbv;first|done|fail)(h0:0<=a/\0<b)(hp:∀ c,σ.putV d (.v (.int .i64 c))=some (τ c):=by intro c;cbv;first|done|fail)
  (h:∀ c,0<=c->c<b->WS E os (τ c) Q):WS E (⟨d,.bin .rem x (.k (.v (.int .i64 b))),none⟩::os) σ Q:=by
 have h1:=Int.tmod_nonneg b h0.1;have h2:=Int.tmod_lt_of_pos a h0.2
 refine WS.op (x:=.v (.int .i64 (a.tmod b))) 1 ?_ (hp _) (h _ h1 h2);have hb:σ.rd (.k (.v (.int .i64 b)))=some (.v (.int .i64 b)):=rfl
 simp only[ago,aop,Ab.pop,hx,hb,if_true,binI];rw[if_neg (by omega)]
end
theorem says_law{u:TUnit}{e:List A}(h:UnitR u e){inp:List Int}{ai:A}(hi:SlA 1 IntR inp ai)(hz:uSz u+inp.length<=1100000){fuel:Int}(hf:0<=fuel/\fuel<=65535)(hw:WC E 10 [] [] fun r _=>r= .v (.bool true)):WC E 3 [.agg e,ai,.v (.int .u16 fuel)] [] fun r _=>r= .v (.bool true):=by
 have hlu:=large_le u;have csm:=small_ok h (by omega)
 by_cases hL:largeN u<=6000
 case' pos=>
  have hsz:=sizes_of hL (by omega);have cso:=sound_ok h hsz.small
  have hR0:=h;have ccp:=copy_ok h (fun f hf=>(hsz.small.f f hf).1) ⟨by have:=hsz.few;omega,hsz.small.p.1⟩
  obtain⟨rc,bc,⟨e1,rfl,hR1⟩,ccp⟩:=ccp.fix;have csame:=same_ok hR1 hR0 hsz.same (by have:=hsz.few;omega) ⟨by have:=hsz.pts.1;omega,fun p hp=>Nat.le_trans (hsz.pts.2 p hp) (by decide)⟩
  have key:MayP u->SoundU u-> ∃(l:List TFunc) (e2:List A),UnitR {u with funcs:=l} e2/\UnitSmall {u with funcs:=l}/\(∃b,WC E 12 [.agg e1] [] fun r b'=>r= .agg e2/\b'=b)/\SoundU {u with funcs:=l}/\
    (WC E 14 [.agg e2,.agg e] [] fun r _=>r= .v (.bool true))/\ ∀fu:Int,0<=fu->fu<301->WC E 15 [.agg e2,.agg e,ai,.v (.int .i64 fu)] [] fun r _=>r= .v (.bool true):=fun hm hs=>by
   have hok:∀ f,f∈u.funcs->DceFOK f:=fun f hf=>by
    obtain⟨i,hi⟩:=List.getElem?_of_mem hf;exact dceFOK hm hs hi (hsz.small.f f hf).1 (hsz.w f hf)
   obtain⟨r,b,⟨l,e2,hl,rfl,hR2⟩,cu⟩:=(unit_ok hR1 hok (by have:=hsz.few;omega)).fix;have hs2:=sizes_dce hsz hl
   have hS:=soundU_dce hm hs hsz hl;have hU:=runU_of hm hs hL hsz
   have hU2:=runU_dce hU hS.1 hl;refine⟨l,e2,hR2,hs2.1,⟨b,cu⟩,hS,?_,fun fu h0 h1=>?_⟩
   ·refine like_ok hR2 hR0 rfl rfl hl.len.symm (fun i g f hg hf=>?_) (fun g hg=>⟨(hs2.2 g hg).v.1,fun v hv=>(hs2.2 g hg).v.2 v hv⟩) (by have:=hsz.few;have:=hl.len;simp only;omega) ?_
    ·obtain⟨f',o,h1,h2,_⟩:=hl.at i g hg;rw[hf]at h1;cases h1;rw[h2];exact⟨rfl,rfl,rfl,rfl⟩
    ·have:=hsz.pts;exact⟨by simp only;omega,fun p hp=>by have:=this.2 p hp;omega⟩
   ·exact lawGood_ok hR0 hR2 hU hU2 (.inr hi) (by omega) (by omega) (fun hl'=>dce_good hm hs hsz hl (by omega) (by omega) hl') (run_len hU2 (by omega))
 all_goals
  obtain⟨funcs,main,points⟩:=u;obtain⟨ni,ei,li,rfl,hli,h7,hinR,hinl⟩:=hi;obtain⟨_,_,rfl,⟨nf,fs,n,rfl,hfl,h1,hF,_⟩,⟨np,ps,m,rfl,hpl,h2,hP,_⟩⟩:=h;refine WC.enter rfl rfl rfl ?_;unfold b3 ki kb vi mw lt og ov oo
  repeat' (first|refine W.seq ?_|refine W.easy (k:=?_)|refine W.regS ?_|refine WS.pre (k:=?_)|fail)
  refine WS.call (hc:=(csm)) (k:=?_);rintro _ _ (⟨rfl,hsm⟩|⟨rfl,hsm⟩)
  all_goals
   refine⟨_,_,_,by cbv;first|done|fail,by cbv;first|done|fail,?_⟩
   repeat' (first|refine W.seq ?_|(refine W.condL (h:=?_);change W _ _ _ _)|refine W.regS ?_|refine WS.done ?_|refine WS.pre (k:=?_)|(refine WS.guard (h:=?_);change WS _ _ _ _)|refine WS.len (h:=?_)|(refine WS.cmp (k1:=fun h=>?_) (k2:=fun h=>?_)<;>simp only[Zq]at h<;>(try(exfalso;omega)))|fail)
 all_goals try exact absurd hsm.1 hL
 case' pos.inl.refine_1|pos.inr|neg.inr=>
  refine WS.call (hc:=(hw)) (k:=?_);rintro _ _ rfl;refine⟨_,_,_,by cbv;first|done|fail,by cbv;first|done|fail,?_⟩
  repeat' (first|refine W.ret ?_|refine Ret.ret (k:=?_)|refine WS.done ?_|refine WS.consN (k:=?_)|fail)
  rfl
 refine WS.call (hc:=(cso)) (k:=?_);rintro _ _ (⟨rfl,hS⟩|⟨rfl,hS⟩)
 ·obtain⟨l,e2,hR2,hs2,⟨b2,cu⟩,hS2,clk,cgd⟩:=key hS.1 hS;have cso2:=sound_ok hR2 hs2
  obtain⟨_,_,rfl,⟨nf1,fs1,n1,rfl,hfl1,h11,hf1,_⟩,⟨np1,ps1,m1,rfl,hpl1,h21,hP1,_⟩⟩:=hR1;obtain⟨_,_,rfl,⟨nf2,fs2,n2,rfl,hfl2,h12,hf2,_⟩,⟨np2,ps2,m2,rfl,hpl2,h22,hP2,_⟩⟩:=hR2;refine⟨_,_,_,by cbv;first|done|fail,by cbv;first|done|fail,?_⟩
  repeat' (first|refine W.seq ?_|refine W.skip ?_|refine W.frz (k:=?_)|(refine W.condL (h:=?_);change W _ _ _ _)|refine W.regS ?_|refine WS.done ?_|refine WS.pre (k:=?_)|fail)
  refine WS.call (hc:=(ccp)) (k:=?_);rintro _ _ ⟨rfl,rfl⟩;refine⟨_,_,_,by cbv;first|done|fail,by cbv;first|done|fail,?_⟩
  repeat' (first|refine W.seq ?_|refine W.frz (k:=?_)|refine W.regS ?_|refine WS.done ?_|refine WS.pre (k:=?_)|refine WS.consN (k:=?_)|fail)
  refine WS.call (hc:=(cu)) (k:=?_);rintro _ _ ⟨rfl,rfl⟩;refine⟨_,_,_,by cbv;first|done|fail,by cbv;first|done|fail,?_⟩
  repeat' (first|refine W.seq ?_|refine W.frz (k:=?_)|refine W.regS ?_|refine WS.done ?_|refine WS.pre (k:=?_)|refine WS.consN (k:=?_)|fail)
  refine WS.call (hc:=(csame)) (k:=?_);rintro _ _ rfl;refine⟨_,_,_,by cbv;first|done|fail,by cbv;first|done|fail,?_⟩
  repeat' (first|refine WS.pre (k:=?_)|(refine WS.guard (h:=?_);change WS _ _ _ _)|fail)
  refine WS.call (hc:=(clk)) (k:=?_);rintro _ _ rfl;refine⟨_,_,_,by cbv;first|done|fail,by cbv;first|done|fail,?_⟩
  repeat' (first|refine WS.pre (k:=?_)|(refine WS.guard (h:=?_);change WS _ _ _ _)|fail)
  refine WS.call (hc:=(cso2)) (k:=?_);rintro _ _ (⟨rfl,_⟩|⟨rfl,hn⟩)
  case' inr=>exact absurd hS2 hn
  refine⟨_,_,_,by cbv;first|done|fail,by cbv;first|done|fail,?_⟩
  repeat' (first|refine WS.pre (k:=?_)|(refine WS.guard (h:=?_);change WS _ _ _ _)|fail)
  refine WS.convU (h0:=hf) (h:=?_);refine WS.guard (h:=?_);change WS _ _ _ _;refine WS.remN (h0:=⟨hf.1,by decide⟩) (h:=fun fu h0 h1=>?_)
  repeat' (first|(refine WS.guard (h:=?_);change WS _ _ _ _)|fail)
  refine WS.call (hc:=((cgd fu h0 h1))) (k:=?_);rintro _ _ rfl;refine⟨_,_,_,by cbv;first|done|fail,by cbv;first|done|fail,?_⟩
  repeat' (first|refine WS.pre (k:=?_)|(refine WS.guard (h:=?_);change WS _ _ _ _)|fail)
  refine WS.call (hc:=(hw)) (k:=?_);rintro _ _ rfl;refine⟨_,_,_,by cbv;first|done|fail,by cbv;first|done|fail,?_⟩
  repeat' (first|refine W.ret ?_|refine Ret.ret (k:=?_)|refine WS.done ?_|refine WS.pre (k:=?_)|refine WS.consN (k:=?_)|fail)
  rfl
 ·
  refine⟨_,_,_,by cbv;first|done|fail,by cbv;first|done|fail,?_⟩
  repeat' (first|refine W.seq ?_|(refine W.condL (h:=?_);change W _ _ _ _)|refine W.regS ?_|refine WS.done ?_|refine WS.pre (k:=?_)|fail)
  refine WS.call (hc:=(hw)) (k:=?_);rintro _ _ rfl;refine⟨_,_,_,by cbv;first|done|fail,by cbv;first|done|fail,?_⟩
  repeat' (first|refine W.ret ?_|refine Ret.ret (k:=?_)|refine WS.done ?_|refine WS.consN (k:=?_)|fail)
  rfl
end Go.Ab.Ytkmmpbmmmbebgaa
