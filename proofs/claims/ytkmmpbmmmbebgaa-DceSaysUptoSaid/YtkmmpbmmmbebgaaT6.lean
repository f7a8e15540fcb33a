/- The reference's runs: single instructions: operations. The reference's runs: single instructions: words. The reference's runs: instructions that call. The reference's runs: an instruction. The reference's runs: a call, plainly, and what holds all the way. The reference's runs: what holds all the way -/
import Derived.Test.YtkmmpbmmmbebgaaT5
import Derived.Test.YtkmmpbmmmbebgaaM4
import Derived.Test.YtkmmpbmmmbebgaaT4
set_option linter.all false
namespace Go.Ab.Ytkmmpbmmmbebgaa
set_option maxRecDepth 100000
set_option maxHeartbeats 8000000
theorem one_arith{c:RunK}{d:FrK}{s:RS}{x:Fr}{rc fc:List A}{deep:Int}{i:TIns}{e:List A}(hi:InsR i e)(hR:RunR c s rc)(hF:FrR d x fc)(hop:1<=i.op/\i.op<=15)(hd:0<=i.dst/\i.dst<x.v.length)(h1:0<=i.a/\i.a<x.v.length)(h2:i.op<=13->0<=i.b/\i.b<x.v.length)(hb:s.ev.length<=1000000000):
  WC E 65 [.pt 0 0,.pt 1 0,.agg e,.v (.int .i64 deep)] [.cells rc,.cells fc] (OneR c d (if(doesF i.op (gi x.v i.a) (if i.op<=13 then gi x.v i.b else 0)).2 then(x.to i.dst (doesF i.op (gi x.v i.a) (if i.op<=13 then gi x.v i.b else 0)).1,s)else(x,endsP 6 s))):=by
 obtain⟨op,dst,xa,xb,var,num,args⟩:=i;obtain⟨v,w,kn⟩:=x;simp only at hop hd h1 h2 ⊢
 obtain⟨_,rfl,⟨na,as,nal,rfl,hal,h6,hA,hnl⟩⟩:=hi;simp only at h6 hA hnl;obtain⟨r,w',k',rfl,hv,hw,hk⟩:=hF;obtain⟨a,l,rfl,ha,hl⟩:=hR;have hvl:=hv.len
 have ha0:=ha;obtain⟨ni,ei,li,rfl,hli,h7,hin,hinl⟩:=ha;simp only at hv hw hk hl ha0 h7 hin hinl hvl;obtain⟨j,rfl,hj,hej⟩:=gi_at hv hd;obtain⟨ja,rfl,hja,heja⟩:=gi_at hv h1;generalize gi v (Int.ofNat ja)=va at*
 by_cases h13:op<=13
 ·obtain⟨jb,rfl,hjb,hejb⟩:=gi_at hv (h2 h13);generalize gi v (Int.ofNat jb)=vb at*
  simp only[if_pos h13];have hc:=does_eq op va vb
  generalize doesF op va vb=p at*
  obtain⟨pv,is⟩:=p;obtain⟨nf,fs,main,np,ps,ws,first⟩:=c;obtain⟨n,name,params,result,nv,vs,nb,bs,size,ar⟩:=d;obtain⟨inp,fuel,left,ev,over,long⟩:=s;simp only at hb hl ha0;refine WC.enter rfl rfl rfl ?_;unfold b65 ki kb vi mt mw fa ft ll iz og ov oo;simp only[RunK.cells,FrK.cells]
  repeat' (first|refine W.seq ?_|refine W.easy (k:=?_)|refine W.block ?_|(refine W.condL (h:=?_);change W _ _ _ _)|refine W.regS ?_|refine WS.done ?_|refine WS.pre (k:=?_)|(refine WS.cmp (k1:=fun h=>?_) (k2:=fun h=>?_)<;>simp only[Zq]at h<;>(try(exfalso;omega)))|refine WS.consN (k:=?_)|refine W.beginD (h:=?_)|(refine WD.done ⟨_,by cbv;first|done|fail,?_⟩;dsimp only)|refine WD.loadP (h:=?_)|refine WD.pre (k:=?_)|refine WD.iaddrO (h:=?_)|refine WD.oneN (k:=?_)|fail)
  refine WD.call (hc:=(hc)) (k:=?_);rintro _ _ rfl;cases is
  ·have hl2:=hl;rcases hl with⟨rfl,_⟩|⟨_,_,rfl,_⟩
   all_goals
    refine⟨_,_,_,by cbv;first|done|fail,by cbv;first|done|fail,?_⟩
    repeat' (first|refine W.seq ?_|refine W.easy (k:=?_)|(refine W.condL (h:=?_);change W _ _ _ _)|refine W.regS ?_|refine WS.pre (k:=?_)|(refine WD.done ⟨_,by cbv;first|done|fail,?_⟩;dsimp only)|refine WD.pre (k:=?_)|refine WD.oneN (k:=?_)|fail)
    refine WS.call (hc:=(ends_ok hl2 hb)) (k:=?_);rintro _ _ ⟨rfl,l',rfl,hl'⟩;have hl3:=hl'
    rcases hl' with⟨rfl,_⟩|⟨_,_,rfl,_⟩
    all_goals
     refine⟨_,_,_,by cbv;first|done|fail,by cbv;first|done|fail,?_⟩
     repeat' (first|refine W.ret ?_|refine Ret.ret (k:=?_)|refine WS.done ?_|fail)
     exact⟨rfl,_,_,_,rfl,⟨_,_,rfl,ha0,hl3⟩,⟨_,_,_,rfl,hv,hw,hk⟩⟩
  ·
   refine⟨_,_,_,by cbv;first|done|fail,by cbv;first|done|fail,?_⟩
   repeat' (first|refine W.seq ?_|refine W.easy (k:=?_)|refine W.skip ?_|refine Ret.normal (k:=?_)|(refine W.condL (h:=?_);change W _ _ _ _)|refine W.beginD (h:=?_)|(refine WD.done ⟨_,by cbv;first|done|fail,?_⟩;dsimp only)|refine WD.stoP (k:=fun q hq=>?_)|refine WD.pre (k:=?_)|refine WD.iaddrO (h:=?_)|refine WD.oneN (k:=?_)|fail)
   exact oneR_to ha0 hl hv hw hk (by assumption)
 ·simp only[if_neg h13];have hc:=does_eq op va 0
  generalize doesF op va 0=p at*
  obtain⟨pv,is⟩:=p;obtain⟨nf,fs,main,np,ps,ws,first⟩:=c;obtain⟨n,name,params,result,nv,vs,nb,bs,size,ar⟩:=d;obtain⟨inp,fuel,left,ev,over,long⟩:=s;simp only at hb hl ha0;refine WC.enter rfl rfl rfl ?_;unfold b65 ki kb vi mt mw fa ft ll iz og ov oo;simp only[RunK.cells,FrK.cells]
  repeat' (first|refine W.seq ?_|refine W.easy (k:=?_)|refine W.block ?_|refine W.skip ?_|(refine W.condL (h:=?_);change W _ _ _ _)|refine W.regS ?_|refine WS.done ?_|refine WS.pre (k:=?_)|(refine WS.cmp (k1:=fun h=>?_) (k2:=fun h=>?_)<;>simp only[Zq]at h<;>(try(exfalso;omega)))|refine WS.consN (k:=?_)|refine W.beginD (h:=?_)|refine WD.loadP (h:=?_)|refine WD.pre (k:=?_)|refine WD.iaddrO (h:=?_)|fail)
  refine WD.call (hc:=(hc)) (k:=?_);rintro _ _ rfl;cases is
  ·have hl2:=hl;rcases hl with⟨rfl,_⟩|⟨_,_,rfl,_⟩
   all_goals
    refine⟨_,_,_,by cbv;first|done|fail,by cbv;first|done|fail,?_⟩
    repeat' (first|refine W.seq ?_|refine W.easy (k:=?_)|(refine W.condL (h:=?_);change W _ _ _ _)|refine W.regS ?_|refine WS.pre (k:=?_)|(refine WD.done ⟨_,by cbv;first|done|fail,?_⟩;dsimp only)|refine WD.pre (k:=?_)|refine WD.oneN (k:=?_)|fail)
    refine WS.call (hc:=(ends_ok hl2 hb)) (k:=?_);rintro _ _ ⟨rfl,l',rfl,hl'⟩;have hl3:=hl'
    rcases hl' with⟨rfl,_⟩|⟨_,_,rfl,_⟩
    all_goals
     refine⟨_,_,_,by cbv;first|done|fail,by cbv;first|done|fail,?_⟩
     repeat' (first|refine W.ret ?_|refine Ret.ret (k:=?_)|refine WS.done ?_|fail)
     exact⟨rfl,_,_,_,rfl,⟨_,_,rfl,ha0,hl3⟩,⟨_,_,_,rfl,hv,hw,hk⟩⟩
  ·
   refine⟨_,_,_,by cbv;first|done|fail,by cbv;first|done|fail,?_⟩
   repeat' (first|refine W.seq ?_|refine W.easy (k:=?_)|refine W.skip ?_|refine Ret.normal (k:=?_)|(refine W.condL (h:=?_);change W _ _ _ _)|refine W.beginD (h:=?_)|(refine WD.done ⟨_,by cbv;first|done|fail,?_⟩;dsimp only)|refine WD.stoP (k:=fun q hq=>?_)|refine WD.pre (k:=?_)|refine WD.iaddrO (h:=?_)|refine WD.oneN (k:=?_)|fail)
   exact oneR_to ha0 hl hv hw hk (by assumption)
theorem sw_R{w:List (List Int)}{rw' q:List (List A)}{p:List (List A)}{jw:Nat}{ww:List Int}(hwR:RowR WRow w rw')(hp:RowR IntR ww p)(hq:rw'.set jw [.own 1 p]=q):GrowR 1 WRow (sw w (Int.ofNat jw) ww) (.own 1 q):=by
 subst hq;have h:=hwR.set (R:=WRow) jw (x:=ww) (e:=[.own 1 p]) ⟨_,rfl,hp⟩
 exact .inr ⟨_,_,rfl,rfl,h.len,h⟩
theorem one_field{c:RunK}{d:FrK}{s:RS}{x:Fr}{rc fc:List A}{deep:Int}{i:TIns}{e:List A}(hi:InsR i e)(hR:RunR c s rc)(hF:FrR d x fc)(hop:i.op=39)(hd:0<=i.dst/\i.dst<x.v.length)(hvw:0<=i.var/\i.var<x.w.length)(h1:0<=i.num/\i.num<(gw x.w i.var).length):
  WC E 65 [.pt 0 0,.pt 1 0,.agg e,.v (.int .i64 deep)] [.cells rc,.cells fc] (OneR c d (x.to i.dst (gi (gw x.w i.var) i.num),s)):=by
 obtain⟨op,dst,xa,xb,var,num,args⟩:=i;obtain⟨v,w,kn⟩:=x;simp only at hop hd hvw h1 ⊢
 subst hop;obtain⟨_,rfl,⟨na,as,nal,rfl,hal,h6,hA,hnl⟩⟩:=hi;simp only at h6 hA hnl;obtain⟨r,w',k',rfl,hv,hw,hk⟩:=hF;obtain⟨a,l,rfl,ha,hl⟩:=hR;have hvl:=hv.len
 have ha0:=ha;obtain⟨ni,ei,li,rfl,hli,h7,hin,hinl⟩:=ha;simp only at hv hw hk hl ha0 h7 hin hinl hvl;obtain⟨j,rfl,hj,hej⟩:=gi_at hv hd;obtain⟨jw,rfl,hjw⟩:=intOf hvw;have hw0:=hw
 rcases hw with⟨_,rfl⟩|⟨rw',nw,rfl,hwl,hwn,hwR⟩
 ·exact absurd hjw (Nat.not_lt_zero _)
 obtain⟨ew,hew,hWw⟩:=hwR.at jw hjw
 have hgw:gw w (Int.ofNat jw)=w[jw]:=by
  show w.getD jw []=_
  rw[List.getD_eq_getElem?_getD,Gg hjw];rfl
 (try rw[hgw]at h1)
 (try rw[hgw])
 generalize w[jw]=ww at*
 obtain⟨rw2,rfl,hW2⟩:=hWw;have hW2l:=hW2.len
 have hjwr:jw<rw'.length:=by omega
 obtain⟨jn,rfl,hjn,hejn⟩:=gi_at hW2 h1;generalize gi ww (Int.ofNat jn)=va at*
 obtain⟨nf,fs,main,np,ps,ws,first⟩:=c;obtain⟨n,name,params,result,nv,vs,nb,bs,size,ar⟩:=d;obtain⟨inp,fuel,left,ev,over,long⟩:=s;refine WC.enter rfl rfl rfl ?_;unfold b65 ki kb vi mt mw fa ft ll iz og ov oo;simp only[RunK.cells,FrK.cells]
 repeat' (first|refine W.seq ?_|refine W.easy (k:=?_)|refine W.block ?_|refine Ret.normal (k:=?_)|(refine W.condL (h:=?_);change W _ _ _ _)|refine W.regS ?_|refine WS.done ?_|(refine WS.cmp (k1:=fun h=>?_) (k2:=fun h=>?_)<;>simp only[Zq]at h<;>(try(exfalso;omega)))|refine WS.consN (k:=?_)|refine W.beginD (h:=?_)|(refine WD.done ⟨_,by cbv;first|done|fail,?_⟩;dsimp only)|refine WD.loadP (h:=?_)|refine WD.stoP (k:=fun q hq=>?_)|refine WD.pre (k:=?_)|refine WD.iaddrO (h:=?_)|refine WD.iaddrN (k:=?_)|refine WD.loadN (h:=?_)|fail)
 exact oneR_to ha0 hl hv hw0 hk (by assumption)
theorem one_setf{c:RunK}{d:FrK}{s:RS}{x:Fr}{rc fc:List A}{deep:Int}{i:TIns}{e:List A}(hi:InsR i e)(hR:RunR c s rc)(hF:FrR d x fc)(hop:i.op=40)(h2:0<=i.a/\i.a<x.v.length)(hvw:0<=i.var/\i.var<x.w.length)(h1:0<=i.num/\i.num<(gw x.w i.var).length):
  WC E 65 [.pt 0 0,.pt 1 0,.agg e,.v (.int .i64 deep)] [.cells rc,.cells fc] (OneR c d ({x with w:=sw x.w i.var ((gw x.w i.var).set i.num.toNat (gi x.v i.a))},s)):=by
 obtain⟨op,dst,xa,xb,var,num,args⟩:=i;obtain⟨v,w,kn⟩:=x;simp only at hop h2 hvw h1 ⊢
 subst hop;obtain⟨_,rfl,⟨na,as,nal,rfl,hal,h6,hA,hnl⟩⟩:=hi;simp only at h6 hA hnl;obtain⟨r,w',k',rfl,hv,hw,hk⟩:=hF;obtain⟨a,l,rfl,ha,hl⟩:=hR;have hvl:=hv.len
 have ha0:=ha;obtain⟨ni,ei,li,rfl,hli,h7,hin,hinl⟩:=ha;simp only at hv hw hk hl ha0 h7 hin hinl hvl;obtain⟨ja,rfl,hja,heja⟩:=gi_at hv h2;generalize gi v (Int.ofNat ja)=va at*
 obtain⟨jw,rfl,hjw⟩:=intOf hvw;have hw0:=hw
 rcases hw with⟨_,rfl⟩|⟨rw',nw,rfl,hwl,hwn,hwR⟩
 ·exact absurd hjw (Nat.not_lt_zero _)
 obtain⟨ew,hew,hWw⟩:=hwR.at jw hjw
 have hgw:gw w (Int.ofNat jw)=w[jw]:=by
  show w.getD jw []=_
  rw[List.getD_eq_getElem?_getD,Gg hjw];rfl
 (try rw[hgw]at h1)
 (try rw[hgw])
 generalize w[jw]=ww at*
 obtain⟨rw2,rfl,hW2⟩:=hWw;have hW2l:=hW2.len
 have hjwr:jw<rw'.length:=by omega
 obtain⟨jn,rfl,hjn,hejn⟩:=gi_at hW2 h1;generalize gi ww (Int.ofNat jn)=vn at*
 have hW3:=hW2.set (R:=IntR) jn (x:=va) (e:=[.v (.int .i64 va)]) rfl;obtain⟨nf,fs,main,np,ps,ws,first⟩:=c;obtain⟨n,name,params,result,nv,vs,nb,bs,size,ar⟩:=d;obtain⟨inp,fuel,left,ev,over,long⟩:=s;refine WC.enter rfl rfl rfl ?_;unfold b65 ki kb vi mt mw fa ft ll iz og ov oo;simp only[RunK.cells,FrK.cells]
 repeat' (first|refine W.seq ?_|refine W.easy (k:=?_)|refine W.block ?_|refine Ret.normal (k:=?_)|(refine W.condL (h:=?_);change W _ _ _ _)|refine W.regS ?_|refine WS.done ?_|(refine WS.cmp (k1:=fun h=>?_) (k2:=fun h=>?_)<;>simp only[Zq]at h<;>(try(exfalso;omega)))|refine WS.consN (k:=?_)|refine W.beginD (h:=?_)|(refine WD.done ⟨_,by cbv;first|done|fail,?_⟩;dsimp only)|refine WD.loadP (h:=?_)|refine WD.pre (k:=?_)|refine WD.iaddrO (h:=?_)|refine WD.iaddrN (k:=?_)|refine WD.stoR (k:=fun p hp t ht=>?_)|fail)
 rename_i p hp t ht;subst hp;exact⟨rfl,_,_,_,rfl,⟨_,_,rfl,ha0,hl⟩,⟨_,_,_,rfl,hv,sw_R hwR hW3 (by assumption),hk⟩⟩
theorem one_zero{c:RunK}{d:FrK}{s:RS}{x:Fr}{rc fc:List A}{deep:Int}{i:TIns}{e:List A}(hi:InsR i e)(hR:RunR c s rc)(hF:FrR d x fc)(hop:i.op=41)(hvw:0<=i.var/\i.var<x.w.length)(h1:(gw x.w i.var).length<=1000):
  WC E 65 [.pt 0 0,.pt 1 0,.agg e,.v (.int .i64 deep)] [.cells rc,.cells fc] (OneR c d ({x with w:=sw x.w i.var (List.replicate (gw x.w i.var).length 0)},s)):=by
 obtain⟨op,dst,xa,xb,var,num,args⟩:=i;obtain⟨v,w,kn⟩:=x;simp only at hop hvw h1 ⊢
 subst hop;obtain⟨_,rfl,⟨na,as,nal,rfl,hal,h6,hA,hnl⟩⟩:=hi;simp only at h6 hA hnl;obtain⟨r,w',k',rfl,hv,hw,hk⟩:=hF;obtain⟨a,l,rfl,ha,hl⟩:=hR;have hvl:=hv.len
 have ha0:=ha;obtain⟨ni,ei,li,rfl,hli,h7,hin,hinl⟩:=ha;simp only at hv hw hk hl ha0 h7 hin hinl hvl;obtain⟨jw,rfl,hjw⟩:=intOf hvw;have hw0:=hw
 rcases hw with⟨_,rfl⟩|⟨rw',nw,rfl,hwl,hwn,hwR⟩
 ·exact absurd hjw (Nat.not_lt_zero _)
 obtain⟨ew,hew,hWw⟩:=hwR.at jw hjw
 have hgw:gw w (Int.ofNat jw)=w[jw]:=by
  show w.getD jw []=_
  rw[List.getD_eq_getElem?_getD,Gg hjw];rfl
 (try rw[hgw]at h1)
 (try rw[hgw])
 generalize w[jw]=ww at*
 obtain⟨rw2,rfl,hW2⟩:=hWw;have hW2l:=hW2.len
 have hjwr:jw<rw'.length:=by omega
 generalize hwn2:ww.length=n2 at*
 have hW3:RowR IntR (List.replicate n2 0) (List.replicate n2 [.v (.int .i64 0)]):=RowR.replicate (R:=IntR) rfl n2;obtain⟨nf,fs,main,np,ps,ws,first⟩:=c;obtain⟨n,name,params,result,nv,vs,nb,bs,size,ar⟩:=d;obtain⟨inp,fuel,left,ev,over,long⟩:=s;refine WC.enter rfl rfl rfl ?_;unfold b65 ki kb vi mt mw fa ft ll iz og ov oo;simp only[RunK.cells,FrK.cells]
 repeat' (first|refine W.seq ?_|refine W.easy (k:=?_)|refine W.block ?_|refine Ret.normal (k:=?_)|(refine W.condL (h:=?_);change W _ _ _ _)|refine W.regS ?_|refine WS.done ?_|(refine WS.cmp (k1:=fun h=>?_) (k2:=fun h=>?_)<;>simp only[Zq]at h<;>(try(exfalso;omega)))|refine WS.consN (k:=?_)|refine W.beginD (h:=?_)|(refine WD.done ⟨_,by cbv;first|done|fail,?_⟩;dsimp only)|refine WD.loadP (h:=?_)|refine WD.stoP (k:=fun q hq=>?_)|refine WD.pre (k:=?_)|refine WD.iaddrO (h:=?_)|refine WD.lenN (k:=?_)|refine WD.mk' (k:=fun r hr=>?_)|fail)
 subst hr;exact⟨rfl,_,_,_,rfl,⟨_,_,rfl,ha0,hl⟩,⟨_,_,_,rfl,hv,sw_R hwR hW3 (by assumption),hk⟩⟩
theorem one_load{c:RunK}{d:FrK}{s:RS}{x:Fr}{rc fc:List A}{deep:Int}{i:TIns}{e:List A}(hi:InsR i e)(hR:RunR c s rc)(hF:FrR d x fc)(hop:i.op=37)(hd:0<=i.dst/\i.dst<x.v.length)(h2:0<=i.a/\i.a<x.v.length)(hvw:0<=i.var/\i.var<x.w.length)(hb:s.ev.length<=1000000000):
  WC E 65 [.pt 0 0,.pt 1 0,.agg e,.v (.int .i64 deep)] [.cells rc,.cells fc] (OneR c d (if gi x.v i.a<0\/(gw x.w i.var).length<=gi x.v i.a then(x,endsP 7 s)else(x.to i.dst (gi (gw x.w i.var) (gi x.v i.a)),s))):=by
 obtain⟨op,dst,xa,xb,var,num,args⟩:=i;obtain⟨v,w,kn⟩:=x;simp only at hop hd h2 hvw ⊢
 subst hop;obtain⟨_,rfl,⟨na,as,nal,rfl,hal,h6,hA,hnl⟩⟩:=hi;simp only at h6 hA hnl;obtain⟨r,w',k',rfl,hv,hw,hk⟩:=hF;obtain⟨a,l,rfl,ha,hl⟩:=hR;have hvl:=hv.len
 have ha0:=ha;obtain⟨ni,ei,li,rfl,hli,h7,hin,hinl⟩:=ha;simp only at hv hw hk hl ha0 h7 hin hinl hvl;obtain⟨j,rfl,hj,hej⟩:=gi_at hv hd;obtain⟨ja,rfl,hja,heja⟩:=gi_at hv h2;generalize gi v (Int.ofNat ja)=va at*
 obtain⟨jw,rfl,hjw⟩:=intOf hvw;have hw0:=hw
 rcases hw with⟨_,rfl⟩|⟨rw',nw,rfl,hwl,hwn,hwR⟩
 ·exact absurd hjw (Nat.not_lt_zero _)
 obtain⟨ew,hew,hWw⟩:=hwR.at jw hjw
 have hgw:gw w (Int.ofNat jw)=w[jw]:=by
  show w.getD jw []=_
  rw[List.getD_eq_getElem?_getD,Gg hjw];rfl
 (try rw[hgw]at h1)
 (try rw[hgw])
 generalize w[jw]=ww at*
 obtain⟨rw2,rfl,hW2⟩:=hWw;have hW2l:=hW2.len
 have hjwr:jw<rw'.length:=by omega
 generalize hwn2:ww.length=n2 at*
 by_cases hneg:va<0
 ·rw[if_pos (.inl hneg)];obtain⟨nf,fs,main,np,ps,ws,first⟩:=c;obtain⟨n,name,params,result,nv,vs,nb,bs,size,ar⟩:=d;obtain⟨inp,fuel,left,ev,over,long⟩:=s;refine WC.enter rfl rfl rfl ?_;unfold b65 ki kb vi mt mw fa ft ll iz og ov oo;simp only[RunK.cells,FrK.cells]
  repeat' (first|refine W.seq ?_|refine W.easy (k:=?_)|refine W.block ?_|refine W.skip ?_|(refine W.condL (h:=?_);change W _ _ _ _)|refine W.regS ?_|refine WS.done ?_|refine WS.pre (k:=?_)|(refine WS.cmp (k1:=fun h=>?_) (k2:=fun h=>?_)<;>simp only[Zq]at h<;>(try(exfalso;omega)))|refine WS.consN (k:=?_)|refine W.beginD (h:=?_)|(refine WD.done ⟨_,by cbv;first|done|fail,?_⟩;dsimp only)|refine WD.loadP (h:=?_)|refine WD.pre (k:=?_)|(refine WD.guard (h:=?_);change WD _ _ _ _ _ _ _ _)|refine WD.iaddrO (h:=?_)|(refine WD.cmp (k1:=fun h=>?_) (k2:=fun h=>?_)<;>simp only[Zq]at h<;>(try(exfalso;omega)))|refine WD.oneN (k:=?_)|fail)
  simp only at hb hl ha0;have hl2:=hl
  rcases hl with⟨rfl,_⟩|⟨_,_,rfl,_⟩
  all_goals
   refine WS.call (hc:=(ends_ok hl2 hb)) (k:=?_);rintro _ _ ⟨rfl,l',rfl,hl'⟩;have hl3:=hl'
   rcases hl' with⟨rfl,_⟩|⟨_,_,rfl,_⟩
   all_goals
    refine⟨_,_,_,by cbv;first|done|fail,by cbv;first|done|fail,?_⟩
    repeat' (first|refine W.ret ?_|refine Ret.ret (k:=?_)|refine WS.done ?_|fail)
    exact⟨rfl,_,_,_,rfl,⟨_,_,rfl,ha0,hl3⟩,⟨_,_,_,rfl,hv,hw0,hk⟩⟩
 by_cases hbig:(n2:Int)<=va
 ·rw[if_pos (.inr hbig)];obtain⟨nf,fs,main,np,ps,ws,first⟩:=c;obtain⟨n,name,params,result,nv,vs,nb,bs,size,ar⟩:=d;obtain⟨inp,fuel,left,ev,over,long⟩:=s;refine WC.enter rfl rfl rfl ?_;unfold b65 ki kb vi mt mw fa ft ll iz og ov oo;simp only[RunK.cells,FrK.cells]
  repeat' (first|refine W.seq ?_|refine W.easy (k:=?_)|refine W.block ?_|refine W.skip ?_|(refine W.condL (h:=?_);change W _ _ _ _)|refine W.regS ?_|refine WS.done ?_|refine WS.pre (k:=?_)|(refine WS.cmp (k1:=fun h=>?_) (k2:=fun h=>?_)<;>simp only[Zq]at h<;>(try(exfalso;omega)))|refine WS.consN (k:=?_)|refine W.beginD (h:=?_)|(refine WD.done ⟨_,by cbv;first|done|fail,?_⟩;dsimp only)|refine WD.loadP (h:=?_)|refine WD.pre (k:=?_)|(refine WD.guard (h:=?_);change WD _ _ _ _ _ _ _ _)|refine WD.iaddrO (h:=?_)|(refine WD.cmp (k1:=fun h=>?_) (k2:=fun h=>?_)<;>simp only[Zq]at h<;>(try(exfalso;omega)))|refine WD.oneN (k:=?_)|refine WD.lenN (k:=?_)|fail)
  simp only at hb hl ha0;have hl2:=hl
  rcases hl with⟨rfl,_⟩|⟨_,_,rfl,_⟩
  all_goals
   refine WS.call (hc:=(ends_ok hl2 hb)) (k:=?_);rintro _ _ ⟨rfl,l',rfl,hl'⟩;have hl3:=hl'
   rcases hl' with⟨rfl,_⟩|⟨_,_,rfl,_⟩
   all_goals
    refine⟨_,_,_,by cbv;first|done|fail,by cbv;first|done|fail,?_⟩
    repeat' (first|refine W.ret ?_|refine Ret.ret (k:=?_)|refine WS.done ?_|fail)
    exact⟨rfl,_,_,_,rfl,⟨_,_,rfl,ha0,hl3⟩,⟨_,_,_,rfl,hv,hw0,hk⟩⟩
 ·rw[if_neg (fun h=>h.elim hneg hbig)];obtain⟨jn,rfl,hjn,hejn⟩:=gi_at hW2 (i:=va) (by omega);generalize gi ww (Int.ofNat jn)=vn at*
  obtain⟨nf,fs,main,np,ps,ws,first⟩:=c;obtain⟨n,name,params,result,nv,vs,nb,bs,size,ar⟩:=d;obtain⟨inp,fuel,left,ev,over,long⟩:=s;refine WC.enter rfl rfl rfl ?_;unfold b65 ki kb vi mt mw fa ft ll iz og ov oo;simp only[RunK.cells,FrK.cells]
  repeat' (first|refine W.seq ?_|refine W.easy (k:=?_)|refine W.block ?_|refine W.skip ?_|refine Ret.normal (k:=?_)|(refine W.condL (h:=?_);change W _ _ _ _)|refine W.regS ?_|refine WS.done ?_|refine WS.pre (k:=?_)|(refine WS.cmp (k1:=fun h=>?_) (k2:=fun h=>?_)<;>simp only[Zq]at h<;>(try(exfalso;omega)))|refine WS.consN (k:=?_)|refine W.beginD (h:=?_)|(refine WD.done ⟨_,by cbv;first|done|fail,?_⟩;dsimp only)|refine WD.loadP (h:=?_)|refine WD.stoP (k:=fun q hq=>?_)|refine WD.pre (k:=?_)|(refine WD.guard (h:=?_);change WD _ _ _ _ _ _ _ _)|refine WD.iaddrO (h:=?_)|(refine WD.cmp (k1:=fun h=>?_) (k2:=fun h=>?_)<;>simp only[Zq]at h<;>(try(exfalso;omega)))|refine WD.oneN (k:=?_)|refine WD.iaddrN (k:=?_)|refine WD.lenN (k:=?_)|refine WD.loadN (h:=?_)|fail)
  exact oneR_to ha0 hl hv hw0 hk (by assumption)
theorem one_store{c:RunK}{d:FrK}{s:RS}{x:Fr}{rc fc:List A}{deep:Int}{i:TIns}{e:List A}(hi:InsR i e)(hR:RunR c s rc)(hF:FrR d x fc)(hop:i.op=38)(h3:0<=i.b/\i.b<x.v.length)(h2:0<=i.a/\i.a<x.v.length)(hvw:0<=i.var/\i.var<x.w.length)(hb:s.ev.length<=1000000000):
  WC E 65 [.pt 0 0,.pt 1 0,.agg e,.v (.int .i64 deep)] [.cells rc,.cells fc] (OneR c d (if gi x.v i.a<0\/(gw x.w i.var).length<=gi x.v i.a then(x,endsP 7 s)else({x with w:=sw x.w i.var ((gw x.w i.var).set (gi x.v i.a).toNat (gi x.v i.b))},s))):=by
 obtain⟨op,dst,xa,xb,var,num,args⟩:=i;obtain⟨v,w,kn⟩:=x;simp only at hop h3 h2 hvw ⊢
 subst hop;obtain⟨_,rfl,⟨na,as,nal,rfl,hal,h6,hA,hnl⟩⟩:=hi;simp only at h6 hA hnl;obtain⟨r,w',k',rfl,hv,hw,hk⟩:=hF;obtain⟨a,l,rfl,ha,hl⟩:=hR;have hvl:=hv.len
 have ha0:=ha;obtain⟨ni,ei,li,rfl,hli,h7,hin,hinl⟩:=ha;simp only at hv hw hk hl ha0 h7 hin hinl hvl;obtain⟨jb,rfl,hjb,hejb⟩:=gi_at hv h3;generalize gi v (Int.ofNat jb)=vb at*
 obtain⟨ja,rfl,hja,heja⟩:=gi_at hv h2;generalize gi v (Int.ofNat ja)=va at*
 obtain⟨jw,rfl,hjw⟩:=intOf hvw;have hw0:=hw
 rcases hw with⟨_,rfl⟩|⟨rw',nw,rfl,hwl,hwn,hwR⟩
 ·exact absurd hjw (Nat.not_lt_zero _)
 obtain⟨ew,hew,hWw⟩:=hwR.at jw hjw
 have hgw:gw w (Int.ofNat jw)=w[jw]:=by
  show w.getD jw []=_
  rw[List.getD_eq_getElem?_getD,Gg hjw];rfl
 (try rw[hgw]at h1)
 (try rw[hgw])
 generalize w[jw]=ww at*
 obtain⟨rw2,rfl,hW2⟩:=hWw;have hW2l:=hW2.len
 have hjwr:jw<rw'.length:=by omega
 generalize hwn2:ww.length=n2 at*
 by_cases hneg:va<0
 ·rw[if_pos (.inl hneg)];obtain⟨nf,fs,main,np,ps,ws,first⟩:=c;obtain⟨n,name,params,result,nv,vs,nb,bs,size,ar⟩:=d;obtain⟨inp,fuel,left,ev,over,long⟩:=s;refine WC.enter rfl rfl rfl ?_;unfold b65 ki kb vi mt mw fa ft ll iz og ov oo;simp only[RunK.cells,FrK.cells]
  repeat' (first|refine W.seq ?_|refine W.easy (k:=?_)|refine W.block ?_|(refine W.condL (h:=?_);change W _ _ _ _)|refine W.regS ?_|refine WS.done ?_|refine WS.pre (k:=?_)|(refine WS.cmp (k1:=fun h=>?_) (k2:=fun h=>?_)<;>simp only[Zq]at h<;>(try(exfalso;omega)))|refine WS.consN (k:=?_)|refine W.beginD (h:=?_)|(refine WD.done ⟨_,by cbv;first|done|fail,?_⟩;dsimp only)|refine WD.loadP (h:=?_)|refine WD.pre (k:=?_)|(refine WD.guard (h:=?_);change WD _ _ _ _ _ _ _ _)|refine WD.iaddrO (h:=?_)|(refine WD.cmp (k1:=fun h=>?_) (k2:=fun h=>?_)<;>simp only[Zq]at h<;>(try(exfalso;omega)))|refine WD.oneN (k:=?_)|fail)
  simp only at hb hl ha0;have hl2:=hl
  rcases hl with⟨rfl,_⟩|⟨_,_,rfl,_⟩
  all_goals
   refine WS.call (hc:=(ends_ok hl2 hb)) (k:=?_);rintro _ _ ⟨rfl,l',rfl,hl'⟩;have hl3:=hl'
   rcases hl' with⟨rfl,_⟩|⟨_,_,rfl,_⟩
   all_goals
    refine⟨_,_,_,by cbv;first|done|fail,by cbv;first|done|fail,?_⟩
    repeat' (first|refine W.ret ?_|refine Ret.ret (k:=?_)|refine WS.done ?_|fail)
    exact⟨rfl,_,_,_,rfl,⟨_,_,rfl,ha0,hl3⟩,⟨_,_,_,rfl,hv,hw0,hk⟩⟩
 by_cases hbig:(n2:Int)<=va
 ·rw[if_pos (.inr hbig)];obtain⟨nf,fs,main,np,ps,ws,first⟩:=c;obtain⟨n,name,params,result,nv,vs,nb,bs,size,ar⟩:=d;obtain⟨inp,fuel,left,ev,over,long⟩:=s;refine WC.enter rfl rfl rfl ?_;unfold b65 ki kb vi mt mw fa ft ll iz og ov oo;simp only[RunK.cells,FrK.cells]
  repeat' (first|refine W.seq ?_|refine W.easy (k:=?_)|refine W.block ?_|(refine W.condL (h:=?_);change W _ _ _ _)|refine W.regS ?_|refine WS.done ?_|refine WS.pre (k:=?_)|(refine WS.cmp (k1:=fun h=>?_) (k2:=fun h=>?_)<;>simp only[Zq]at h<;>(try(exfalso;omega)))|refine WS.consN (k:=?_)|refine W.beginD (h:=?_)|(refine WD.done ⟨_,by cbv;first|done|fail,?_⟩;dsimp only)|refine WD.loadP (h:=?_)|refine WD.pre (k:=?_)|(refine WD.guard (h:=?_);change WD _ _ _ _ _ _ _ _)|refine WD.iaddrO (h:=?_)|(refine WD.cmp (k1:=fun h=>?_) (k2:=fun h=>?_)<;>simp only[Zq]at h<;>(try(exfalso;omega)))|refine WD.oneN (k:=?_)|refine WD.lenN (k:=?_)|fail)
  simp only at hb hl ha0;have hl2:=hl
  rcases hl with⟨rfl,_⟩|⟨_,_,rfl,_⟩
  all_goals
   refine WS.call (hc:=(ends_ok hl2 hb)) (k:=?_);rintro _ _ ⟨rfl,l',rfl,hl'⟩;have hl3:=hl'
   rcases hl' with⟨rfl,_⟩|⟨_,_,rfl,_⟩
   all_goals
    refine⟨_,_,_,by cbv;first|done|fail,by cbv;first|done|fail,?_⟩
    repeat' (first|refine W.ret ?_|refine Ret.ret (k:=?_)|refine WS.done ?_|fail)
    exact⟨rfl,_,_,_,rfl,⟨_,_,rfl,ha0,hl3⟩,⟨_,_,_,rfl,hv,hw0,hk⟩⟩
 ·rw[if_neg (fun h=>h.elim hneg hbig)];obtain⟨jn,rfl,hjn,hejn⟩:=gi_at hW2 (i:=va) (by omega);generalize gi ww (Int.ofNat jn)=vn at*
  have hW3:=hW2.set (R:=IntR) jn (x:=vb) (e:=[.v (.int .i64 vb)]) rfl;obtain⟨nf,fs,main,np,ps,ws,first⟩:=c;obtain⟨n,name,params,result,nv,vs,nb,bs,size,ar⟩:=d;obtain⟨inp,fuel,left,ev,over,long⟩:=s;refine WC.enter rfl rfl rfl ?_;unfold b65 ki kb vi mt mw fa ft ll iz og ov oo;simp only[RunK.cells,FrK.cells]
  repeat' (first|refine W.seq ?_|refine W.easy (k:=?_)|refine W.block ?_|refine W.skip ?_|refine Ret.normal (k:=?_)|(refine W.condL (h:=?_);change W _ _ _ _)|refine W.regS ?_|refine WS.done ?_|refine WS.pre (k:=?_)|(refine WS.cmp (k1:=fun h=>?_) (k2:=fun h=>?_)<;>simp only[Zq]at h<;>(try(exfalso;omega)))|refine WS.consN (k:=?_)|refine W.beginD (h:=?_)|(refine WD.done ⟨_,by cbv;first|done|fail,?_⟩;dsimp only)|refine WD.loadP (h:=?_)|refine WD.pre (k:=?_)|(refine WD.guard (h:=?_);change WD _ _ _ _ _ _ _ _)|refine WD.iaddrO (h:=?_)|(refine WD.cmp (k1:=fun h=>?_) (k2:=fun h=>?_)<;>simp only[Zq]at h<;>(try(exfalso;omega)))|refine WD.oneN (k:=?_)|refine WD.iaddrN (k:=?_)|refine WD.lenN (k:=?_)|refine WD.stoR (k:=fun p hp t ht=>?_)|fail)
  rename_i p hp t ht;subst hp;exact⟨rfl,_,_,_,rfl,⟨_,_,rfl,ha0,hl⟩,⟨_,_,_,rfl,hv,sw_R hwR hW3 (by assumption),hk⟩⟩
theorem one_mark{c:RunK}{d:FrK}{s s':RS}{x:Fr}{rc fc:List A}{deep:Int}{i:TIns}{e:List A}(hi:InsR i e)(hR:RunR c s rc)(hF:FrR d x fc)(hda:Inert d.args)(hop:i.op=45)(hm:WC E 67 [.pt 0 0,.pt 1 0,.v (.int .i64 i.num)] [.cells rc,.cells fc] (OneR c d (x,s'))):
  WC E 65 [.pt 0 0,.pt 1 0,.agg e,.v (.int .i64 deep)] [.cells rc,.cells fc] (OneR c d (x,s')):=by
 obtain⟨op,dst,xa,xb,var,num,args⟩:=i;simp only at hop hm;subst hop;obtain⟨_,rfl,⟨na,as,nal,rfl,hal,h6,hA,hnl⟩⟩:=hi;have hi1:=RunR.inert hR
 have hi2:=FrR.inert hF hda;refine WC.enter rfl rfl rfl ?_;unfold b65 ki kb vi mt mw fa ft ll iz og ov oo
 repeat' (first|refine W.seq ?_|refine W.easy (k:=?_)|refine W.block ?_|(refine W.condL (h:=?_);change W _ _ _ _)|refine W.regS ?_|refine WS.done ?_|refine WS.pre (k:=?_)|(refine WS.cmp (k1:=fun h=>?_) (k2:=fun h=>?_)<;>simp only[Zq]at h<;>(try(exfalso;omega)))|refine WS.consN (k:=?_)|fail)
 refine WS.call2 (i1:=hi1) (i2:=hi2) (hc:=hm) (kq:=?_);rintro _ _ ⟨rfl,e1,e2,more,rfl,hR',hF'⟩;have hj1:=RunR.inert hR'
 have hj2:=FrR.inert hF' hda;have hR1:=hR'
 have hF1:=hF';obtain⟨a2,l2,rfl,ha2,hl2⟩:=hR';obtain⟨r2,w2,k2,rfl,hv2,hw2,hk2⟩:=hF';refine⟨_,_,_,rfl,hj1,hj2,rfl,fun _=>rfl,_,_,by cbv;first|done|fail,by cbv;first|done|fail,?_⟩
 repeat' (first|refine Ret.normal (k:=?_)|refine WS.done ?_|fail)
 exact⟨rfl,_,_,_,rfl,hR1,hF1⟩
/-- What is held behind a call. -/
def CallR(c:RunK)(p:Int×RS):A->List Bx->Prop:=fun r bx=>r= .v (.int .i64 p.1)/\ ∃e more,bx= .cells e::more/\RunR c p.2 e
theorem one_call{c:RunK}{d:FrK}{s:RS}{x:Fr}{rc fc:List A}{deep:Int}{i:TIns}{e:List A}{p:Int×RS}(hi:InsR i e)(hR:RunR c s rc)(hF:FrR d x fc)(hop:i.op=42)
  (hcall:∀ {rc':List A} {ar:A},RunR c (s.tell (ev0 3 0 i.num)) rc'->SlA 1 IntR (i.args.map (gi x.v)) ar->WC E 58 [.pt 0 0,.v (.int .i64 i.num),ar,.v (.int .i64 (deep+1))] [.cells rc'] (CallR c p))
  (hargs:∀ v,v∈i.args->0<=v/\v<x.v.length) (hal:i.args.length<=2000000) (hd:0<=i.dst->i.dst<x.v.length) (hdeep:0<=deep/\deep<=100000) (hb:s.ev.length<=1000000000) (hb2:p.2.ev.length<=1000000000):
  WC E 65 [.pt 0 0,.pt 1 0,.agg e,.v (.int .i64 deep)] [.cells rc,.cells fc] (OneR c d (if p.2.over then(x,p.2)else(if 0<=i.dst then x.to i.dst p.1 else x,p.2.tell (ev0 4 0 0)))):=by
 obtain⟨op,dst,xa,xb,var,num,args⟩:=i;obtain⟨v,w,kn⟩:=x;simp only at hop hargs hal hd hcall ⊢
 subst hop;obtain⟨_,rfl,⟨na,as,nal,rfl,hal2,h6,hA,hnl⟩⟩:=hi;simp only at h6 hA hnl;obtain⟨r,w',k',rfl,hv,hw,hk⟩:=hF;obtain⟨a,l,rfl,ha,hl⟩:=hR;have hvl:=hv.len
 have ha0:=ha;obtain⟨ni,ei,li,rfl,hli,h7,hin,hinl⟩:=ha;obtain⟨pv,ps'⟩:=p;obtain⟨nf,fs,main,np,ps,ws,first⟩:=c;obtain⟨n,name,params,result,nv,vs,nb,bs,size,ar⟩:=d;obtain⟨inp,fuel,left,ev,over,long⟩:=s;simp only at hv hw hk hl ha0 hb hb2 hvl;refine WC.enter rfl rfl rfl ?_;unfold b65 ki kb vi mt mw fa ft ll iz og ov oo;simp only[RunK.cells,FrK.cells]
 repeat' (first|refine W.seq ?_|refine W.easy (k:=?_)|refine W.block ?_|(refine W.condL (h:=?_);change W _ _ _ _)|refine W.regS ?_|refine WS.done ?_|(refine WS.cmp (k1:=fun h=>?_) (k2:=fun h=>?_)<;>simp only[Zq]at h<;>(try(exfalso;omega)))|refine WS.consN (k:=?_)|fail)
 refine W.forA nal (fun k (y:A) σ=>sn 21 k (sv 23 y σ)) (fun k y=>GrowR 1 IntR ((args.take k).map (gi v)) y) 0 (Nat.zero_le _) ?_ ?_
 ·exact⟨_,by cbv,.inl ⟨rfl,rfl⟩⟩
 rintro QA kA k y hk' hG;have hyl:((args.take k).map (gi v)).length<=2000000:=by rw[List.length_map,List.length_take];omega
 by_cases hkn:k<nal
 ·as_aux_lemma=>
   have hka:k<args.length:=by omega
   obtain⟨ek,hek,hAk⟩:=hA.at k hka;have hkk:args[k]?=some args[k]:=Gg hka
   have hvi:=hargs _ (Gm hka);have hnx:∀ z,GrowR 1 IntR ((args.take k).map (gi v)++[gi v args[k]]) z->GrowR 1 IntR ((args.take (k+1)).map (gi v)) z:=fun z h=>by rw[take_snoc hkk,List.map_append];exact h
   generalize args[k]=av at*
   obtain rfl:ek=[.v (.int .i64 av)]:=hAk;obtain⟨j,rfl,hj,hej⟩:=gi_at hv hvi;generalize gi v (Int.ofNat j)=vv at*
   generalize (args.take k).map (gi v)=pa at*
   rcases hG with⟨rfl,hq⟩|⟨rq,nq,rfl,hql,hqn,hqR⟩
   case' inr=>have hnq:rq.length<=2000000:=by omega
   all_goals
    refine W.norm (k:=?_);unfold l65_0 ki vi mt mw fa ft ll iz ov oo
    repeat' (first|refine W.seq ?_|refine W.block ?_|refine W.skip ?_|(refine W.condL (h:=?_);change W _ _ _ _)|refine W.regS ?_|refine WS.done ?_|refine WS.pre (k:=?_)|refine WS.len (h:=?_)|(refine WS.cmp (k1:=fun h=>?_) (k2:=fun h=>?_)<;>simp only[Zq]at h<;>(try(exfalso;omega)))|refine WS.inc (h:=?_)|refine WS.consN (k:=?_)|refine W.beginD (h:=?_)|(refine WD.done ⟨_,by cbv;first|done|fail,?_⟩;dsimp only)|refine WD.setApp (h:=fun r hr=>?_)|refine WD.loadP (h:=?_)|refine WD.pre (k:=?_)|refine WD.iaddrO (h:=?_)|refine WD.iaddr (h:=?_)|refine WD.app (h:=?_)|refine WD.oneN (k:=?_)|fail)
   all_goals first
    |exact⟨by omega,_,by cbv,hnx _ (growR_snoc (R:=IntR) rfl hqR (by assumption))⟩
    |exact⟨by omega,_,by cbv,hnx _ (growR_one (R:=IntR) rfl hq)⟩
 ·have hka:args.take k=args:=List.take_of_length_le (by omega);rw[hka]at hG;obtain rfl:k=nal:=by omega
  have hwi:=hw.inert;have hki:=hk.inert
  rcases hl with⟨rfl,hlq⟩|⟨rl,nl,rfl,hll,hln,hlR⟩
  case' inr=>have hnl2:rl.length<=1000000000:=by omega
  all_goals
   rcases hG with⟨rfl,hq⟩|⟨rq,nq,rfl,hql,hqn,hqR⟩
  all_goals
   refine W.norm (k:=?_);unfold l65_0 ki vi mt mw fa ft ll iz ov oo
   repeat' (first|refine W.seq ?_|refine W.exit ?_|(refine W.condL (h:=?_);change W _ _ _ _)|refine W.regS ?_|refine WS.done ?_|refine WS.pre (k:=?_)|refine WS.len (h:=?_)|(refine WS.cmp (k1:=fun h=>?_) (k2:=fun h=>?_)<;>simp only[Zq]at h<;>(try(exfalso;omega)))|fail)
   refine kA _ _ ?_;refine W.norm (k:=?_)
   repeat' (first|refine W.seq ?_|refine W.frz (k:=?_)|refine W.regS ?_|refine WS.pre (k:=?_)|refine W.beginD (h:=?_)|(refine WD.done ⟨_,by cbv;first|done|fail,?_⟩;dsimp only)|refine WD.stoApp (h:=fun r hr=>?_)|refine WD.pre (k:=?_)|refine WD.app (h:=?_)|refine WD.oneN (k:=?_)|refine WS.adt (h:=fun c hc=>?_)|fail)
  all_goals
   simp only[hc]at hcall;refine WS.call1 (i1:=?_) (hc:=hcall ⟨_,_,rfl,ha0,by first|exact growR_snoc (R:=EvR) (ev0R 3 0 num) hlR (by assumption)|exact growR_one (R:=EvR) (ev0R 3 0 num) hlq⟩ (by first|exact slA_own hqR|(rw[hq];exact slA_nil))) (kq:=?_)
   ·repeat' (first|exact InertC.nil|refine InertC.cons ?_ ?_|exact Inert.v _|exact Inert.imm _ _ _|exact Inert.own _ _|assumption)
   rintro _ _ ⟨rfl,e1,more,rfl,hR'⟩;have hj1:=RunR.inert hR'
   obtain⟨a2,l2,rfl,ha2,hl2⟩:=hR';obtain⟨inp2,fuel2,left2,ev2,over2,long2⟩:=ps';simp only at ha2 hl2 hb2;refine⟨_,_,rfl,hj1,rfl,fun _=>rfl,_,_,by cbv;first|done|fail,by cbv;first|done|fail,?_⟩;cases over2
   ·have hl3:=hl2
    by_cases h0:0<=dst
    case' pos=>obtain⟨jd,rfl,hjd,hejd⟩:=gi_at hv ⟨h0,hd h0⟩
    all_goals
     rcases hl2 with⟨rfl,hlq2⟩|⟨rl2,nl3,rfl,hll2,hln2,hlR2⟩
    case' pos.inr|neg.inr=>have hnl4:rl2.length<=1000000000:=by omega
    all_goals
     repeat' (first|refine W.seq ?_|refine W.easy (k:=?_)|refine W.skip ?_|refine Ret.normal (k:=?_)|(refine W.condL (h:=?_);change W _ _ _ _)|refine W.regS ?_|refine WS.done ?_|refine WS.stoApp (h:=fun r hr=>?_)|refine WS.pre (k:=?_)|(refine WS.cmp (k1:=fun h=>?_) (k2:=fun h=>?_)<;>simp only[Zq]at h<;>(try(exfalso;omega)))|refine WS.app (h:=?_)|refine WS.consN (k:=?_)|refine W.beginD (h:=?_)|(refine WD.done ⟨_,by cbv;first|done|fail,?_⟩;dsimp only)|refine WD.stoP (k:=fun q hq=>?_)|refine WD.pre (k:=?_)|refine WD.iaddrO (h:=?_)|fail)
    all_goals simp only[Bool.false_eq_true,reduceIte,h0]
    all_goals first
     | (refine ⟨rfl,_,_,_,rfl,⟨_,_,rfl,ha2,?_⟩,?_⟩
        ·first
         |exact growR_snoc (R:=EvR) (ev0R 4 0 0) hlR2 (by assumption)
         |exact growR_one (R:=EvR) (ev0R 4 0 0) hlq2
        ·first
         |exact to_R hv hw hk (by assumption)
         |exact⟨_,_,_,rfl,hv,hw,hk⟩)
     |trace_state
   ·
    repeat' (first|refine W.seq ?_|refine W.easy (k:=?_)|refine W.ret ?_|refine Ret.ret (k:=?_)|(refine W.condL (h:=?_);change W _ _ _ _)|refine WS.done ?_|refine WS.consN (k:=?_)|fail)
    simp only[reduceIte];exact⟨rfl,_,_,_,rfl,⟨_,_,rfl,ha2,hl2⟩,⟨_,_,_,rfl,hv,hw,hk⟩⟩
/-- A call's rows are as long as its function says. -/
structure FrOK(f:TFunc)(args:List Int)(x:Fr):Prop where
 v:(x.v.length:Int)=f.size
 w:x.w.length=f.vars.length
 words:∀ (j:Nat) (t:TVar),f.vars[j]?=some t->((x.w.getD j []).length:Int)=t.words
 kn:x.kn.length=f.vars.length
 args:(args.length:Int)=f.params
theorem varP_elim{p:TVar->Prop}{f:TFunc}{k:Int}(h:varP p f k):∃ t,0<=k/\k<f.vars.length/\f.vars[k.toNat]?=some t/\p t:=by
 obtain⟨h0,v,h1,h2⟩:=h;have:=(Ge h1).1
 exact⟨v,h0,by omega,h1,h2⟩
theorem one_ok{c:RunK}{d:FrK}{s:RS}{x:Fr}{rc fc:List A}{deep:Int}{i:TIns}{e:List A}{u:TUnit}{n:Nat}{f:TFunc}{b q:Nat}{l:List TIns}{largs:List Int}{call:Int->List Int->RS->Int×RS}
  (hi:InsR i e) (hR:RunR c s rc) (hF:FrR d x fc) (hda:SlN 1 IntR largs d.args) (hok:FrOK f largs x) (hin:InP u n f b l q i) (hget:i.op≠34/\i.op≠35) (h47:i.op≠47) (hal:i.args.length<=2000000)
  (hP:RowR PointR u.points c.ps) (hV:RowR VarR f.vars d.vs) (hpv:∀ p,p∈u.points->p.func=n-> ∀v,v∈p.scope->0<=v/\v<f.vars.length) (hpl:∀ p,p∈u.points->p.scope.length<=100000000) (hwd:∀ t,t∈f.vars->t.words<=16)
  (hdeep:0<=deep/\deep<=100000) (hb:s.ev.length<=1000000000) (hfu:0<=s.fuel/\s.fuel<=1000000000) (hinl:s.inp.length<=1000000000)
  (hcall:i.op=42->(∀{rc':List A} {ar:A},RunR c (s.tell (ev0 3 0 i.num)) rc'->SlA 1 IntR (i.args.map (gi x.v)) ar->WC E 58 [.pt 0 0,.v (.int .i64 i.num),ar,.v (.int .i64 (deep+1))] [.cells rc'] (CallR c (call i.num (i.args.map (gi x.v)) (s.tell (ev0 3 0 i.num)))))/\(call i.num (i.args.map (gi x.v)) (s.tell (ev0 3 0 i.num))).2.ev.length<=1000000000):
  WC E 65 [.pt 0 0,.pt 1 0,.agg e,.v (.int .i64 deep)] [.cells rc,.cells fc] (OneR c d (oneP call u f largs i x s)):=by
 have hk:=hin.known;have hm:=hin.makes
 have hu:=hin.uses;have hv:=hok.v
 have hdst:makesB i->i.op≠42->0<=i.dst/\i.dst<x.v.length:=fun h1 h2=>by
  have h3:makesF i=i.dst:=by
   unfold makesB at h1;unfold makesF;exact if_neg h1
  rw[h3]at hm;have h4:¬ i.dst<0:=fun h=>(hm.2.2 h).elim h2 fun h=>h h1
  omega
 have huse:∀ v,v∈usesF i->0<=v/\v<x.v.length:=fun v h=>by
  have:=hu v h;omega
 have hU1:(i.op = 14 \/ i.op = 15 \/ i.op = 36 \/ i.op = 37 \/ i.op = 40 \/ i.op = 44) -> 0 <= i.a /\ i.a < x.v.length:=fun h => huse _ (by
  unfold usesF
  rw[if_pos (by omega)]
  exact List.mem_cons_self)
 have hU2:(i.op=38\/(1<=i.op/\i.op<=13))->(0<=i.a/\i.a<x.v.length)/\(0<=i.b/\i.b<x.v.length):=fun h=>by
  have e:usesF i=[i.a,i.b]:=by
   unfold usesF;rw[if_neg (by omega)]
   by_cases h38:i.op=38
   ·rw[if_pos h38]
   ·rw[if_neg h38,if_neg (by omega),if_neg (by omega),if_pos (by omega)]
  exact⟨huse _ (by rw[e];exact List.mem_cons_self),huse _ (by rw[e];exact List.mem_cons_of_mem _ List.mem_cons_self)⟩
 have hW:∀ {p:TVar->Prop},varP p f i.var->(0<=i.var/\i.var<x.w.length)/\(gw x.w i.var).length<=1000/\ ∃t,f.vars[i.var.toNat]?=some t/\p t/\((gw x.w i.var).length:Int)=t.words:=fun h=>by
  obtain⟨t,h0,h1,h2,h3⟩:=varP_elim h;have h4:=hok.words _ t h2
  have h5:=hwd t (Mg h2);have h6:=hok.w
  refine⟨by omega,?_,t,h2,h3,h4⟩;have:((gw x.w i.var).length:Int)=t.words:=h4
  omega
 unfold oneP;unfold knownP at hk
 by_cases h32:i.op=32
 ·rw[if_pos h32];exact one_const hi hR hF h32 (hdst (by unfold makesB;omega) (by omega))
 rw[if_neg h32]
 by_cases h33:i.op=33
 ·rw[if_pos h33];rw[if_neg (by omega),if_pos h33]at hk;refine one_arg hi hR hF h33 (hdst (by unfold makesB;omega) (by omega)) ?_ hda;have:=hok.args
  omega
 rw[if_neg h33]
 by_cases h36:i.op=36
 ·rw[if_pos h36];exact one_copy hi hR hF h36 (hdst (by unfold makesB;omega) (by omega)) (hU1 (by omega))
 rw[if_neg h36]
 by_cases h46:i.op=46
 ·rw[if_pos h46];rw[if_neg (by omega),if_neg h33,if_pos (by omega)]at hk;obtain⟨t,h0,h1,_⟩:=varP_elim hk;refine one_bind hi hR hF h46 ?_ fun ha=>?_
  ·have:=hok.kn;omega
  ·exact (huse _ (by
    unfold usesF
    rw[if_neg (by omega),if_neg (by omega),if_neg (by omega),if_pos h46,if_pos ha]
    exact List.mem_cons_self)).2
 rw[if_neg h46]
 by_cases h37:i.op=37
 ·rw[if_pos (.inl h37)];rw[if_neg (by omega),if_neg h33,if_neg (by omega),if_pos (by omega)]at hk;simp only[if_pos h37];exact one_load hi hR hF h37 (hdst (by unfold makesB;omega) (by omega)) (hU1 (by omega)) (hW hk).1 hb
 by_cases h38:i.op=38
 ·rw[if_pos (.inr h38)];rw[if_neg (by omega),if_neg h33,if_neg (by omega),if_pos (by omega)]at hk;simp only[if_neg h37];exact one_store hi hR hF h38 (hU2 (by omega)).2 (hU2 (by omega)).1 (hW hk).1 hb
 rw[if_neg (fun h=>h.elim h37 h38)]
 by_cases h39:i.op=39
 ·rw[if_pos h39];rw[if_neg (by omega),if_neg h33,if_neg (by omega),if_neg (by omega),if_pos (by omega)]at hk;obtain⟨h1,_,t,h2,_,h3⟩:=hW hk.1;obtain⟨t',_,_,h4,h5⟩:=varP_elim hk.2.2;rw[h2]at h4;cases h4;exact one_field hi hR hF h39 (hdst (by unfold makesB;omega) (by omega)) h1 (by have:=hk.2.1;omega)
 rw[if_neg h39]
 by_cases h40:i.op=40
 ·rw[if_pos h40];rw[if_neg (by omega),if_neg h33,if_neg (by omega),if_neg (by omega),if_pos (by omega)]at hk;obtain⟨h1,_,t,h2,_,h3⟩:=hW hk.1;obtain⟨t',_,_,h4,h5⟩:=varP_elim hk.2.2;rw[h2]at h4;cases h4;exact one_setf hi hR hF h40 (hU1 (by omega)) h1 (by have:=hk.2.1;omega)
 rw[if_neg h40]
 by_cases h41:i.op=41
 ·rw[if_pos h41];rw[if_neg (by omega),if_neg h33,if_neg (by omega),if_neg (by omega),if_neg (by omega),if_pos h41]at hk;have h1:(0<=i.var/\i.var<x.w.length)/\(gw x.w i.var).length<=1000:=hk.elim (fun h=>⟨(hW h).1,(hW h).2.1⟩) fun h=>⟨(hW h).1,(hW h).2.1⟩
  exact one_zero hi hR hF h41 h1.1 h1.2
 rw[if_neg h41]
 by_cases h42:i.op=42
 ·rw[if_pos h42];obtain⟨hc1,hc2⟩:=hcall h42
  have hargs:∀ v,v ∈ i.args -> 0 <= v /\ v < x.v.length:=fun v h => huse v (by
   unfold usesF
   rw[if_neg (by omega),if_neg (by omega),if_pos (by omega)]
   exact h)
  have hd:0<=i.dst->i.dst<x.v.length:=fun _=>by
   have h3:makesF i=i.dst:=by unfold makesF;rw[if_neg (by omega)]
   rw[h3]at hm;omega
  exact one_call hi hR hF h42 hc1 hargs hal hd hdeep hb hc2
 rw[if_neg h42]
 by_cases h43:i.op=43
 ·rw[if_pos h43];cases hn:s.inp with
  |nil=>exact one_input0 hi hR hF h43 hn hb
  |cons m mm=>exact one_input hi hR hF h43 (hdst (by unfold makesB;omega) (by omega)) hn hinl
 rw[if_neg h43]
 by_cases h44:i.op=44
 ·rw[if_pos h44];exact one_print hi hR hF h44 (hU1 (by omega)) hb
 rw[if_neg h44]
 by_cases h45:i.op=45
 ·rw[if_pos h45];rw[if_neg (by omega),if_neg h33,if_neg (by omega),if_neg (by omega),if_neg (by omega),if_neg h41,if_neg h42,if_pos h45]at hk;obtain⟨h0,p,hp,hpf⟩:=hk;refine one_mark hi hR hF (SlN.inert hda) h45 ?_;have he:i.num=Int.ofNat i.num.toNat:=by simp only[Int.ofNat_eq_natCast];omega
  rw[he];have hpm:=Mg hp
  exact mark_ok hR hF (SlN.inert hda) hP hV hp (hpv p hpm hpf) hok.kn hb (hpl p hpm) hfu
 rw[if_neg h45]
 have h1:1<=i.op/\i.op<=15:=by
  rw[if_neg (by omega),if_neg h33,if_neg (by omega),if_neg (by omega),if_neg (by omega),if_neg h41,if_neg h42,if_neg h45]at hk;exact hk
 have ha:0<=i.a/\i.a<x.v.length:=by
  by_cases h:i.op<=13
  ·exact(hU2 (by omega)).1
  ·exact hU1 (by omega)
 exact one_arith hi hR hF h1 (hdst (by unfold makesB;omega) (by omega)) ha (fun h=>(hU2 (by omega)).2) hb
noncomputable def insP(call:Int->List Int->RS->Int×RS)(u:TUnit)(f:TFunc)(args:List Int):List TIns->Fr->RS->Fr×RS
 |[],x,s=>(x,s)
 | i::l,x,s=>
   if s.over then(x,s)
   else if i.op=47 then insP call u f args l x {s with left:=s.left-1}
   else insP call u f args l (oneP call u f args i x {s with left:=s.left-1}).1 (oneP call u f args i x {s with left:=s.left-1}).2
noncomputable def loopP(call:Int->List Int->RS->Int×RS)(u:TUnit)(f:TFunc)(args:List Int)(deep:Int):Nat->Fr->RS->Nat->Int->Int->Int×RS
 |0,_,s,_,_,_=>(0,s)
 | k+1,x,s,b,from',way=>
   if s.over then(0,s)
   else if s.left<=0\/5000<deep then(0,endsP 9 {s with long:=true})
   else match f.blocks[b]? with
    |none=>(0,s)
    | some blk=>
      if(insP call u f args blk.ins {x with v:=phisP f ((waysF f).getD b []) from' way blk.ins x.v} {s with left:=s.left-1}).2.over then(0,(insP call u f args blk.ins {x with v:=phisP f ((waysF f).getD b []) from' way blk.ins x.v} {s with left:=s.left-1}).2)
      else if blk.term.kind=3 then
       ((if 0<=blk.term.a then gi (insP call u f args blk.ins {x with v:=phisP f ((waysF f).getD b []) from' way blk.ins x.v} {s with left:=s.left-1}).1.v blk.term.a else 0),(insP call u f args blk.ins {x with v:=phisP f ((waysF f).getD b []) from' way blk.ins x.v} {s with left:=s.left-1}).2)
      else if blk.term.kind=2/\gi (insP call u f args blk.ins {x with v:=phisP f ((waysF f).getD b []) from' way blk.ins x.v} {s with left:=s.left-1}).1.v blk.term.a=0 then
       loopP call u f args deep k (insP call u f args blk.ins {x with v:=phisP f ((waysF f).getD b []) from' way blk.ins x.v} {s with left:=s.left-1}).1 (insP call u f args blk.ins {x with v:=phisP f ((waysF f).getD b []) from' way blk.ins x.v} {s with left:=s.left-1}).2 blk.term.els.toNat (b:Int) 1
      else
       loopP call u f args deep k (insP call u f args blk.ins {x with v:=phisP f ((waysF f).getD b []) from' way blk.ins x.v} {s with left:=s.left-1}).1 (insP call u f args blk.ins {x with v:=phisP f ((waysF f).getD b []) from' way blk.ins x.v} {s with left:=s.left-1}).2 blk.term.to.toNat (b:Int) 0
/-- How a call begins. -/
def fr0(f:TFunc):Fr:=⟨List.replicate f.size.toNat 0,f.vars.map fun t=>List.replicate t.words.toNat 0,(List.range f.vars.length).map fun(i:Nat)=>⟨(i:Int),0,true⟩⟩
noncomputable def callP(u:TUnit):Nat->Int->Int->List Int->RS->Int×RS
 |0,_,_,_,s=>(0,endsP 9 s)
 | k+1,deep,n,args,s=>match u.funcs[n.toNat]? with
   |none=>(0,endsP 9 s)
   | some f=>
     if s.left-f.vars.length<=0\/5000<deep then(0,endsP 9 {s with left:=s.left-f.vars.length,long:=true})
     else loopP (callP u k (deep+1)) u f args deep (k+1) (fr0 f) {s with left:=s.left-f.vars.length} 0 (-1) 0
/-- What a stretch of a run leaves of what it was given. -/
structure Goes(s s':RS):Prop where
 fuel:0<=s.fuel->0<=s'.fuel/\s'.fuel<=s.fuel
 inp:s'.inp.length<=s.inp.length
 left:s'.left<=s.left
 pot:s'.over=false->(s'.ev.length:Int)+3*s'.left<=s.ev.length+3*s.left
 pot1:(s'.ev.length:Int)+3*s'.left<=s.ev.length+3*s.left+1
theorem Goes.refl(s:RS):Goes s s:=⟨fun h=>⟨h,Int.le_refl _⟩,Nat.le_refl _,Int.le_refl _,fun _=>Int.le_refl _,by omega⟩
theorem Goes.trans{s s' s'':RS}(h:Goes s s')(h':Goes s' s'')(ho:s'.over=false):Goes s s'':=
 ⟨fun h0 => ⟨(h'.fuel (h.fuel h0).1).1,by have:=(h'.fuel (h.fuel h0).1).2; have:=(h.fuel h0).2; omega⟩,by have:=h.inp; have:=h'.inp; omega,by have:=h.left; have:=h'.left; omega,
  fun h2=>by have:=h'.pot h2;have:=h.pot ho;omega,by have:=h'.pot1;have:=h.pot ho;omega⟩
/-- One instruction, its count taken. -/
theorem oneP_goes{call:Int->List Int->RS->Int×RS}{u:TUnit}{f:TFunc}{args:List Int}{i:TIns}{x:Fr}{s:RS}(ho:s.over=false)(hc:∀ n l (s':RS),s'.over=false->Goes s' (call n l s').2):
  Goes s (oneP call u f args i x {s with left:=s.left-1}).2:=by
 have h0:Goes s {s with left:=s.left-1}:=⟨fun h=>⟨h,Int.le_refl _⟩,Nat.le_refl _,by simp only;omega,fun _=>by simp only;omega,by simp only;omega⟩
 have hend:∀ k,Goes s (endsP k {s with left:=s.left-1}):=fun k=>by
  refine⟨fun h=>⟨h,Int.le_refl _⟩,Nat.le_refl _,by simp only[endsP];omega,fun h=>(by cases (show true=false from h)),?_⟩;simp only[endsP,List.length_append,List.length_cons,List.length_nil];omega
 have htell:∀ e:TEv,Goes s (RS.tell {s with left:=s.left-1} e):=fun e=>by
  refine⟨fun h=>⟨h,Int.le_refl _⟩,Nat.le_refl _,by simp only[RS.tell];omega,fun _=>?_,?_⟩
  all_goals
   simp only[RS.tell,List.length_append,List.length_cons,List.length_nil];omega
 unfold oneP
 by_cases h32:i.op=32
 ·rw[if_pos h32];exact h0
 rw[if_neg h32]
 by_cases h33:i.op=33
 ·rw[if_pos h33];exact h0
 rw[if_neg h33]
 by_cases h36:i.op=36
 ·rw[if_pos h36];exact h0
 rw[if_neg h36]
 by_cases h46:i.op=46
 ·rw[if_pos h46];exact h0
 rw[if_neg h46]
 by_cases h378:i.op=37\/i.op=38
 ·rw[if_pos h378];split
  ·exact hend 7
  ·split<;>exact h0
 rw[if_neg h378]
 by_cases h39:i.op=39
 ·rw[if_pos h39];exact h0
 rw[if_neg h39]
 by_cases h40:i.op=40
 ·rw[if_pos h40];exact h0
 rw[if_neg h40]
 by_cases h41:i.op=41
 ·rw[if_pos h41];exact h0
 rw[if_neg h41]
 by_cases h42:i.op=42
 ·rw[if_pos h42];have h1:=hc i.num (i.args.map (gi x.v)) (RS.tell {s with left:=s.left-1} (ev0 3 0 i.num)) ho
  have e1:((RS.tell {s with left:=s.left-1} (ev0 3 0 i.num)).ev.length:Int)=s.ev.length+1:=by simp[RS.tell]
  have e2:(RS.tell {s with left:=s.left-1} (ev0 3 0 i.num)).left=s.left-1:=rfl;have e3:(RS.tell {s with left:=s.left-1} (ev0 3 0 i.num)).fuel=s.fuel:=rfl
  have e4:(RS.tell {s with left:=s.left-1} (ev0 3 0 i.num)).inp=s.inp:=rfl;generalize call i.num (i.args.map (gi x.v)) (RS.tell {s with left:=s.left-1} (ev0 3 0 i.num))=p at*
  have g1:=h1.fuel;have g2:=h1.inp
  have g3:=h1.left;have g4:=h1.pot
  have g5:=h1.pot1;rw[e3]at g1;rw[e4]at g2;rw[e2]at g3 g4 g5;rw[e1]at g4 g5
  by_cases hpo:p.2.over=true
  ·rw[if_pos hpo];exact⟨g1,g2,(by show p.2.left<=s.left;omega),fun h=>(by rw[show p.2.over=false from h]at hpo;cases hpo),(by show(p.2.ev.length:Int)+3*p.2.left<=_;omega)⟩
  ·rw[if_neg hpo];have g6:=g4 (by simpa using hpo)
   have e5:((p.2.tell (ev0 4 0 0)).ev.length:Int)=p.2.ev.length+1:=by simp[RS.tell]
   refine⟨g1,g2,?_,fun _=>?_,?_⟩
   ·show p.2.left<=s.left
    omega
   ·show((p.2.tell (ev0 4 0 0)).ev.length:Int)+3*p.2.left<=_
    omega
   ·show((p.2.tell (ev0 4 0 0)).ev.length:Int)+3*p.2.left<=_
    omega
 rw[if_neg h42]
 by_cases h43:i.op=43
 ·rw[if_pos h43];split
  ·exact hend 8
  ·rename_i n l hn;have hn':s.inp=n::l:=hn
   refine⟨fun h=>⟨h,Int.le_refl _⟩,?_,by simp only;omega,fun _=>by simp only;omega,by simp only;omega⟩;rw[hn'];exact Nat.le_succ _
 rw[if_neg h43]
 by_cases h44:i.op=44
 ·rw[if_pos h44];exact htell _
 rw[if_neg h44]
 by_cases h45:i.op=45
 ·rw[if_pos h45];unfold markP
  by_cases hf:s.fuel=0
  ·rw[if_pos hf];exact hend 9
  ·rw[if_neg hf];split
   ·refine⟨fun h=>by simp only;omega,Nat.le_refl _,by simp only;omega,fun _=>?_,?_⟩
    all_goals
     simp only[List.length_append,List.length_cons,List.length_nil];omega
   ·exact h0
 rw[if_neg h45];generalize (if i.op<=13 then gi x.v i.b else 0)=z;split
 ·exact h0
 ·exact hend 6
theorem insP_goes{call:Int->List Int->RS->Int×RS}{u:TUnit}{f:TFunc}{args:List Int}(hc:∀ n l (s':RS),s'.over=false->Goes s' (call n l s').2):∀ (l:List TIns) (x:Fr) (s:RS),Goes s (insP call u f args l x s).2
 |[],x,s=>Goes.refl s
 | i::l,x,s=>by
   rw[insP]
   by_cases ho1:s.over=true
   ·rw[if_pos ho1];exact Goes.refl s
   ·have ho:s.over=false:=by simpa using ho1
    rw[if_neg ho1];have h0:Goes s {s with left:=s.left-1}:=⟨fun h=>⟨h,Int.le_refl _⟩,Nat.le_refl _,by simp only;omega,fun _=>by simp only;omega,by simp only;omega⟩
    by_cases h47:i.op=47
    ·rw[if_pos h47];exact h0.trans (insP_goes hc l x _) ho
    ·rw[if_neg h47];have h1:=oneP_goes (call:=call) (u:=u) (f:=f) (args:=args) (i:=i) (x:=x) ho hc
     generalize oneP call u f args i x {s with left:=s.left-1}=p at*
     by_cases hp:p.2.over=true
     case neg=>exact h1.trans (insP_goes hc l p.1 p.2) (by simpa using hp)
     case pos=>
      have e:insP call u f args l p.1 p.2=(p.1,p.2):=by
       cases l with
       |nil=>rfl
       |cons j l=>rw[insP,if_pos hp]
      rw[e];exact h1
theorem ends_goes{s:RS}{left:Int}{long:Bool}(k:Int)(h:left<=s.left):Goes s (endsP k {s with left:=left,long:=long}):=by
 refine⟨fun h=>⟨h,Int.le_refl _⟩,Nat.le_refl _,h,fun h=>(by cases (show true=false from h)),?_⟩;simp only[endsP,List.length_append,List.length_cons,List.length_nil];omega
theorem loopP_goes{call:Int->List Int->RS->Int×RS}{u:TUnit}{f:TFunc}{args:List Int}{deep:Int}(hc:∀ n l (s':RS),s'.over=false->Goes s' (call n l s').2):∀ (k:Nat) (x:Fr) (s:RS) (b:Nat) (from' way:Int),Goes s (loopP call u f args deep k x s b from' way).2
 |0,x,s,b,from',way=>Goes.refl s
 | k+1,x,s,b,from',way=>by
   rw[loopP]
   by_cases ho1:s.over=true
   ·rw[if_pos ho1];exact Goes.refl s
   ·have ho:s.over=false:=by simpa using ho1
    rw[if_neg ho1];split
    ·exact ends_goes 9 (Int.le_refl _)
    split
    ·exact Goes.refl s
    ·rename_i blk hblk;have h0:Goes s {s with left:=s.left-1}:=⟨fun h=>⟨h,Int.le_refl _⟩,Nat.le_refl _,by simp only;omega,fun _=>by simp only;omega,by simp only;omega⟩
     have h1:=h0.trans (insP_goes (call:=call) (u:=u) (f:=f) (args:=args) hc blk.ins {x with v:=phisP f ((waysF f).getD b []) from' way blk.ins x.v} {s with left:=s.left-1}) ho;generalize insP call u f args blk.ins {x with v:=phisP f ((waysF f).getD b []) from' way blk.ins x.v} {s with left:=s.left-1}=p at*
     by_cases hp1:p.2.over=true
     ·rw[if_pos hp1];exact h1
     ·have hp:p.2.over=false:=by simpa using hp1
      rw[if_neg hp1];split
      ·exact h1
      split
      ·exact h1.trans (loopP_goes hc k _ _ _ _ _) hp
      ·exact h1.trans (loopP_goes hc k _ _ _ _ _) hp
theorem callP_goes(u:TUnit):∀ (k:Nat) (deep n:Int) (l:List Int) (s:RS),s.over=false->Goes s (callP u k deep n l s).2
 | 0,_,_,_,s,_=>by
   rw[callP];exact ends_goes (left:=s.left) (long:=s.long) 9 (Int.le_refl _)
 | k+1,deep,n,l,s,ho=>by
   rw[callP];split
   ·exact ends_goes (left:=s.left) (long:=s.long) 9 (Int.le_refl _)
   ·rename_i f hf;split
    ·exact ends_goes 9 (by omega)
    ·have h0:Goes s {s with left:=s.left-f.vars.length}:=⟨fun h=>⟨h,Int.le_refl _⟩,Nat.le_refl _,by simp only;omega,fun _=>by simp only;omega,by simp only;omega⟩;exact h0.trans (loopP_goes (fun n l s' h=>callP_goes u k (deep+1) n l s' h) (k+1) _ _ _ _ _) ho
end Go.Ab.Ytkmmpbmmmbebgaa
