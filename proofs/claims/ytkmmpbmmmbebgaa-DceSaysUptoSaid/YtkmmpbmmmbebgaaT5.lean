/- The reference's runs: a Mark. The reference's runs: single instructions. The reference's runs: the Phis of a block. The reference's runs: the Phis of a block, what they take. The reference's runs: the Phis of a block, all at once. The reference's runs: single instructions, more. -/
import Derived.Test.YtkmmpbmmmbebgaaT4
import Derived.Test.YtkmmpbmmmbebgaaM4
set_option linter.all false
namespace Go.Ab.Ytkmmpbmmmbebgaa
set_option maxRecDepth 100000
set_option maxHeartbeats 8000000
theorem _root_.Go.Ab.Ytkmmpbmmmbebgaa.GrowR.inert{α:Type}{z:Nat}{R:α->List A->Prop}{l:List α}{x:A}(h:GrowR z R l x):Inert x:=by
 rcases h with⟨rfl,_⟩|⟨_,_,rfl,_⟩
 ·exact .v _
 ·exact .own _ _
theorem SlA.inert{α:Type}{z:Nat}{R:α->List A->Prop}{l:List α}{x:A}(h:SlA z R l x):Inert x:=by
 obtain⟨_,_,_,rfl,_⟩:=h;exact .imm _ _ _
theorem SlN.inert{α:Type}{z:Nat}{R:α->List A->Prop}{l:List α}{x:A}(h:SlN z R l x):Inert x:=by
 rcases h with⟨rfl,_⟩|h
 ·exact .v _
 ·exact SlA.inert h
theorem run_inert{c:RunK}{s:RS}{a l:A}(ha:Inert a)(hl:Inert l):InertC (c.cells a l s):=
 .cons (.imm _ _ _) (.cons (.v _) (.cons (.imm _ _ _) (.cons (.own _ _) (.cons ha (.cons (.v _) (.cons (.v _) (.cons hl (.cons (.v _) (.cons (.v _) (.cons (.v _) .nil))))))))))
theorem RunR.inert{c:RunK}{s:RS}{e:List A}(h:RunR c s e):InertC e:=by
 obtain⟨a,l,rfl,ha,hl⟩:=h;exact run_inert (SlA.inert ha) hl.inert
theorem FrR.inert{d:FrK}{x:Fr}{e:List A}(h:FrR d x e)(ha:Inert d.args):InertC e:=by
 obtain⟨r,w,k,rfl,_,hw,hk⟩:=h;exact .cons (.v _) (.cons (.v _) (.cons (.v _) (.cons (.v _) (.cons (.imm _ _ _) (.cons (.imm _ _ _) (.cons (.v _) (.cons ha (.cons (.own _ _) (.cons hw.inert (.cons hk.inert .nil))))))))))
theorem ends2{c:RunK}{s:RS}{e:List A}{k:Int}(h:RunR c s e)(hb:s.ev.length<=1000000000):WC E 59 [.pt 0 0,.v (.int .u8 k)] [.cells e] fun r bx=>r= .tup []/\ ∃e',bx=[.cells e']/\RunR c (endsP k s) e':=by
 obtain⟨a,l,rfl,ha,hl⟩:=h;refine(ends_ok hl hb).mono fun r bx ⟨h1,l',h2,h3⟩=>⟨h1,_,h2,a,l',rfl,ha,h3⟩
theorem tr_leaf{i n:Nat}{α:Type}{P:α->Prop}{X:St}{Y:α->St}{x':α}(hi:i<n)(hp:P x')(he:X=Y x'):i<n/\ ∃x',X=Y x'/\P x':=⟨hi,x',he,hp⟩
theorem mark_ok{c:RunK}{d:FrK}{s:RS}{x:Fr}{rc fc:List A}{n:Nat}{u:TUnit}{f:TFunc}{p:TPoint}(hR:RunR c s rc)(hF:FrR d x fc)(hda:Inert d.args)(hP:RowR PointR u.points c.ps)(hV:RowR VarR f.vars d.vs)(hp:u.points[n]?=some p)(hsc:∀ v,v∈p.scope->0<=v/\v<f.vars.length)(hkn:x.kn.length=f.vars.length)(hb:s.ev.length<=1000000000)(hscl:p.scope.length<=100000000)(hfu:0<=s.fuel/\s.fuel<=1000000000):
  WC E 67 [.pt 0 0,.pt 1 0,.v (.int .i64 (Int.ofNat n))] [.cells rc,.cells fc] (OneR c d (x,markP u f x s (Int.ofNat n))):=by
 have hR0:=hR;have cend:=ends2 hR hb (k:=9)
 obtain⟨v,w,kn⟩:=x;obtain⟨r,w',k',rfl,hv,hw,hk⟩:=hF;obtain⟨a,l,rfl,ha,hl⟩:=hR;have hin1:=RunR.inert hR0
 obtain⟨nf,fs,main,np,ps,ws,first⟩:=c;obtain⟨dn,name,params,result,nv,vs,nb,bs,size,ar⟩:=d;have ha0:=ha
 obtain⟨ni,ei,li,rfl,hli,h7,hin,hinl⟩:=ha;obtain⟨inp,fuel,left,ev,over,long⟩:=s;simp only at hv hw hk hl ha0 hb hfu hkn hP hV hda;have hnp:=(Ge hp).1
 obtain⟨ep,hep,hPp⟩:=hP.at n hnp;have hpe:u.points[n]=p:=by rw[Gg hnp]at hp;exact Option.some.inj hp
 rw[hpe]at hPp;obtain⟨pf,pl,sc⟩:=p;obtain⟨_,rfl,⟨nsc,scs,scl,rfl,hscs,h8,hS,_⟩⟩:=hPp;simp only at hsc hscl h8 hS;refine WC.enter rfl rfl rfl ?_;unfold b67 ki vi mt mw fa ll lt iz ov oo;simp only[RunK.cells,FrK.cells]at cend hin1 ⊢
 by_cases hf0:fuel=0
 ·subst hf0;have hm:markP u f ⟨v,w,kn⟩ ⟨inp,0,left,ev,over,long⟩ (Int.ofNat n)=endsP 9 ⟨inp,0,left,ev,over,long⟩:=if_pos rfl
  rw[hm]
  repeat' (first|refine W.seq ?_|(refine W.condL (h:=?_);change W _ _ _ _)|refine W.regS ?_|refine WS.done ?_|refine WS.pre (k:=?_)|(refine WS.cmp (k1:=fun h=>?_) (k2:=fun h=>?_)<;>simp only[Zq]at h<;>(try(exfalso;omega)))|fail)
  refine WS.call1 (i1:=hin1) (hc:=cend) (kq:=?_);rintro _ _ ⟨rfl,e',rfl,hR'⟩;have hi':=RunR.inert hR'
  obtain⟨a2,l2,rfl,ha2,hl2⟩:=hR';refine⟨_,_,rfl,hi',rfl,fun _=>rfl,_,_,by cbv;first|done|fail,by cbv;first|done|fail,?_⟩
  repeat' (first|refine W.ret ?_|refine Ret.ret (k:=?_)|refine WS.done ?_|fail)
  exact⟨rfl,_,_,_,rfl,⟨_,_,rfl,ha2,hl2⟩,⟨_,_,_,rfl,hv,hw,hk⟩⟩
 ·have hm:markP u f ⟨v,w,kn⟩ ⟨inp,fuel,left,ev,over,long⟩ (Int.ofNat n)=⟨inp,fuel-1,left,ev++[⟨2,0,Int.ofNat n,0,valsP f ⟨v,w,kn⟩ sc⟩],over,long⟩:=by
   unfold markP;rw[if_neg hf0];simp only[show(Int.ofNat n).toNat=n from rfl,hp]
  rw[hm]
  repeat' (first|refine W.seq ?_|refine W.easy (k:=?_)|refine W.block ?_|refine W.skip ?_|refine W.frz (k:=?_)|(refine W.condL (h:=?_);change W _ _ _ _)|refine W.regS ?_|refine WS.done ?_|refine WS.pre (k:=?_)|refine WS.iaddr (h:=?_)|(refine WS.cmp (k1:=fun h=>?_) (k2:=fun h=>?_)<;>simp only[Zq]at h<;>(try(exfalso;omega)))|refine WS.consN (k:=?_)|(refine WS.sbt (h:=fun c hc=>?_)<;>(try simp only[oC]at hc))|fail)
  refine W.forA scl (fun i (y:A) σ=>sn 4 i (sb 2 4 y σ)) (fun i y=>GrowR 3 KnR (valsP f ⟨v,w,kn⟩ (sc.take i)) y) 0 (Nat.zero_le _) ?_ ?_
  ·exact⟨_,by cbv,.inl ⟨rfl,rfl⟩⟩
  rintro QA kA i y hi hG;have hli':=hl.inert
  have hwi':=hw.inert
  by_cases hin':i<scl
  ·as_aux_lemma=>
    have his:i<sc.length:=by omega
    obtain⟨ei',hei',hSi⟩:=hS.at i his;have hsi:sc[i]?=some sc[i]:=Gg his
    have hvi:=hsc _ (Gm his);generalize sc[i]=vv at hSi hsi hvi;obtain rfl:ei'=[.v (.int .i64 vv)]:=hSi;obtain⟨jv,rfl,hjv⟩:=intOf hvi;obtain⟨et,het,hTt⟩:=hV.at jv hjv;have htt:f.vars[jv]?=some f.vars[jv]:=Gg hjv
    generalize f.vars[jv]=tv at hTt htt;obtain⟨tname,⟨tkind,tn,ttn⟩,twords,tfields⟩:=tv;obtain⟨_,rfl,⟨ntf,tfs,ntl,rfl,_⟩⟩:=hTt;have hjk:jv<kn.length:=by omega
    rcases hk with⟨_,rfl⟩|⟨rk,nk,rfl,hkl,hkn',hkR⟩
    ·exact absurd hjk (Nat.not_lt_zero _)
    obtain⟨ek,hek,hKk⟩:=hkR.at jv hjk;have hkk:kn[jv]?=some kn[jv]:=Gg hjk
    generalize kn[jv]=kk at hKk hkk;obtain⟨k1,k2,k3⟩:=kk;obtain rfl:ek=[.v (.int .i64 k1),.v (.int .i64 k2),.v (.bool k3)]:=hKk;have hjkr:jv<rk.length:=by omega
    have hS':∀ z,scalarT ⟨tkind,tn,ttn⟩->GrowR 3 KnR (valsP f ⟨v,w,kn⟩ (sc.take i)++[if k3 then⟨k1,0,k3⟩else⟨k1,k2,k3⟩]) z->GrowR 3 KnR (valsP f ⟨v,w,kn⟩ (sc.take (i+1))) z:=fun z h1 h2=>by
     unfold valsP;rw[fm_some hsi (y:=if k3 then⟨k1,0,k3⟩else⟨k1,k2,k3⟩)]
     ·exact h2
     ·simp only[show(Int.ofNat jv).toNat=jv from rfl,htt,hkk];exact if_pos h1
    have hN':∀ z,¬scalarT ⟨tkind,tn,ttn⟩->GrowR 3 KnR (valsP f ⟨v,w,kn⟩ (sc.take i)) z->GrowR 3 KnR (valsP f ⟨v,w,kn⟩ (sc.take (i+1))) z:=fun z h1 h2=>by
     unfold valsP;rw[fm_none hsi]
     ·exact h2
     ·simp only[show(Int.ofNat jv).toNat=jv from rfl,htt];exact if_neg h1
    have hvl:(valsP f ⟨v,w,kn⟩ (sc.take i)).length<=100000000:=by
     have h1:=List.length_filterMap_le (fun v':Int => match f.vars[v'.toNat]? with
      |some t=>if t.type.kind=1\/t.type.kind=2 then(match kn[v'.toNat]? with|some k=>some (if k.gone then{k with num:=0}else k)|none=>none)else none
      |none=>none) (sc.take i)
     rw[List.length_take]at h1;have h2:(valsP f ⟨v,w,kn⟩ (sc.take i)).length<=min i sc.length:=h1
     omega
    have cs:=scalarT_ok ⟨tkind,tn,ttn⟩;unfold TypeA at cs;simp only at cs;have hG0:=hG
    generalize valsP f ⟨v,w,kn⟩ (sc.take i)=pv at*
    rcases hG with⟨rfl,hq⟩|⟨rq,nq,rfl,hql,hqn,hqR⟩
    case' inr=>have hnq:rq.length<=100000000:=by omega
    all_goals
     refine W.norm (k:=?_);unfold l67_0 ki vi mt mw fa ft ll lg lt iz ov oo
     repeat' (first|refine W.seq ?_|refine W.block ?_|refine W.skip ?_|(refine W.condL (h:=?_);change W _ _ _ _)|refine W.regS ?_|refine WS.done ?_|refine WS.pre (k:=?_)|refine WS.len (h:=?_)|(refine WS.cmp (k1:=fun h=>?_) (k2:=fun h=>?_)<;>simp only[Zq]at h<;>(try(exfalso;omega)))|refine W.beginD (h:=?_)|refine WD.pre (k:=?_)|refine WD.iaddr (h:=?_)|fail)
     refine WD.callX (hc:=(cs)) (k:=?_);rintro _ _ (⟨rfl,hsp⟩|⟨rfl,hsp⟩)
     case' inl=>cases k3
     all_goals
      refine⟨_,_,_,_,by cbv;first|done|fail,by cbv;first|done|fail,by cbv;first|done|fail,?_⟩
      repeat' (first|refine W.seq ?_|refine W.easy (k:=?_)|refine W.skip ?_|(refine W.condL (h:=?_);change W _ _ _ _)|refine W.regS ?_|refine WS.done ?_|refine WS.stoApp (h:=fun r hr=>?_)|refine WS.pre (k:=?_)|refine WS.inc (h:=?_)|refine WS.app (h:=?_)|refine WS.consN (k:=?_)|refine W.beginD (h:=?_)|(refine WD.done ⟨_,by cbv;first|done|fail,?_⟩;dsimp only)|refine WD.loadP (h:=?_)|refine WD.pre (k:=?_)|refine WD.iaddrO (h:=?_)|refine WD.iaddr (h:=?_)|refine WD.oneN (k:=?_)|refine WD.alloc (k:=?_)|fail)
    all_goals first
     |exact⟨by omega,_,by cbv,hN' _ hsp hG0⟩
     | (first
         |refine tr_leaf (by omega) (hS' _ hsp (growR_snoc (R:=KnR) rfl hqR (by assumption))) ?_
         |refine tr_leaf (by omega) (hS' _ hsp (growR_one (R:=KnR) rfl hq)) ?_
        show St.clr _ (St.trunc 3 ⟨_,_,_::_::_::_::[]⟩)=_
        rw[trunc3]
        ·cbv
        ·exact InertC.tr (by repeat' (first|exact InertC.nil|refine InertC.cons ?_ ?_|exact Inert.v _|exact Inert.imm _ _ _|exact Inert.own _ _|assumption)) 3
        ·exact InertC.tr (by repeat' (first|exact InertC.nil|refine InertC.cons ?_ ?_|exact Inert.v _|exact Inert.imm _ _ _|exact Inert.own _ _|assumption)) 3
        ·exact InertC.tr (by repeat' (first|exact InertC.nil|refine InertC.cons ?_ ?_|exact Inert.v _|exact Inert.imm _ _ _|exact Inert.own _ _|assumption)) 3)
  ·have hk':sc.take i=sc:=List.take_of_length_le (by omega);rw[hk']at hG;obtain rfl:i=scl:=by omega
   rcases hG with⟨rfl,hq⟩|⟨rq,nq,rfl,hql,hqn,hqR⟩
   all_goals
    rcases hl with⟨rfl,hlq⟩|⟨rl,nl,rfl,hll,hln,hlR⟩
    case' inr=>have hnl2:rl.length<=1000000000:=by omega
   all_goals
    refine W.norm (k:=?_);unfold l67_0 ki vi mt mw fa ft ll lg lt iz ov oo
    repeat' (first|refine W.seq ?_|refine W.exit ?_|(refine W.condL (h:=?_);change W _ _ _ _)|refine W.regS ?_|refine WS.done ?_|refine WS.pre (k:=?_)|refine WS.len (h:=?_)|(refine WS.cmp (k1:=fun h=>?_) (k2:=fun h=>?_)<;>simp only[Zq]at h<;>(try(exfalso;omega)))|fail)
    refine kA _ _ ?_;refine W.norm (k:=?_)
    repeat' (first|refine W.seq ?_|refine W.frz (k:=?_)|refine Ret.normal (k:=?_)|refine W.beginD (h:=?_)|(refine WD.done ⟨_,by cbv;first|done|fail,?_⟩;dsimp only)|refine WD.stoApp (h:=fun r hr=>?_)|refine WD.pre (k:=?_)|refine WD.app (h:=?_)|refine WD.oneN (k:=?_)|fail)
   all_goals
    subst hc;refine⟨rfl,_,_,_,rfl,⟨_,_,rfl,ha0,?_⟩,⟨_,_,_,rfl,hv,hw,hk⟩⟩
    first
     |exact growR_snoc (R:=EvR) ⟨_,rfl,.inr ⟨_,_,_,rfl,hql,hqn,hqR,fun h=>by cases h⟩⟩ hlR (by assumption)
     |exact growR_one (R:=EvR) ⟨_,rfl,.inr ⟨_,_,_,rfl,hql,hqn,hqR,fun h=>by cases h⟩⟩ hlq
     | (rw [hq]
        first
        |exact growR_snoc (R:=EvR) ⟨_,rfl,.inr ⟨_,_,_,rfl,rfl,rfl,.nil,fun _=>rfl⟩⟩ hlR (by assumption)
        |exact growR_one (R:=EvR) ⟨_,rfl,.inr ⟨_,_,_,rfl,rfl,rfl,.nil,fun _=>rfl⟩⟩ hlq)
     |exact growR_snoc (R:=EvR) (l:=ev) (x:=⟨2,0,Int.ofNat n,0,valsP f ⟨v,w,kn⟩ sc⟩) (e:=[.v (.int .u8 2),.v (.int .i64 0),.v (.int .i64 (Int.ofNat n)),.v (.int .i64 0),.imm false 3 rq]) ⟨_,rfl,.inr ⟨_,_,_,rfl,hql,hqn,hqR,fun h=>by cases h⟩⟩ hlR hr
theorem gi_at{v:List Int}{r:List (List A)}(hv:RowR IntR v r){i:Int}(hi:0<=i/\i<v.length):∃ j:Nat,i=Int.ofNat j/\j<r.length/\r[j]?=some [.v (.int .i64 (gi v i))]:=by
 obtain⟨j,rfl,hj⟩:=intOf hi;obtain⟨e,he,hR⟩:=hv.at j hj;refine⟨j,rfl,by rw[hv.len];exact hj,?_⟩;rw[he]
 have hg:gi v (Int.ofNat j)=v[j]:=by
  show v.getD j 0=_
  rw[List.getD_eq_getElem?_getD,Gg hj];rfl
 rw[hg];exact congrArg some hR
theorem to_R{d:FrK}{v:List Int}{w:List (List Int)}{kn:List TKn}{r q:List (List A)}{w' k':A}{j:Nat}{n:Int}(hv:RowR IntR v r)(hw:GrowR 1 WRow w w')(hk:GrowR 3 KnR kn k')(hq:r.set j [.v (.int .i64 n)]=q):FrR d (Fr.to ⟨v,w,kn⟩ (Int.ofNat j) n) (d.cells (.own 1 q) w' k'):=by
 subst hq;exact⟨_,_,_,rfl,hv.set (R:=IntR) j (x:=n) rfl,hw,hk⟩
/-- Just the frame is another one. -/
theorem oneR_to{c:RunK}{d:FrK}{s:RS}{a l:A}{v:List Int}{w:List (List Int)}{kn:List TKn}{r q:List (List A)}{w' k':A}{j:Nat}{n:Int}{more:List Bx}(ha:SlA 1 IntR s.inp a)(hl:GrowR 5 EvR s.ev l)(hv:RowR IntR v r)(hw:GrowR 1 WRow w w')(hk:GrowR 3 KnR kn k')(hq:r.set j [.v (.int .i64 n)]=q):
  OneR c d (Fr.to ⟨v,w,kn⟩ (Int.ofNat j) n,s) (.tup []) (.cells (c.cells a l s):: .cells (d.cells (.own 1 q) w' k')::more):=⟨rfl,_,_,_,rfl,⟨_,_,rfl,ha,hl⟩,to_R hv hw hk hq⟩
theorem one_const{c:RunK}{d:FrK}{s:RS}{x:Fr}{rc fc:List A}{deep:Int}{i:TIns}{e:List A}(hi:InsR i e)(hR:RunR c s rc)(hF:FrR d x fc)(hop:i.op=32)(hd:0<=i.dst/\i.dst<x.v.length):
  WC E 65 [.pt 0 0,.pt 1 0,.agg e,.v (.int .i64 deep)] [.cells rc,.cells fc] (OneR c d (x.to i.dst i.num,s)):=by
 obtain⟨op,dst,xa,xb,var,num,args⟩:=i;obtain⟨v,w,kn⟩:=x;simp only at hop hd ⊢
 subst hop;obtain⟨_,rfl,⟨na,as,nal,rfl,hal,h6,hA,hnl⟩⟩:=hi;simp only at h6 hA hnl;obtain⟨r,w',k',rfl,hv,hw,hk⟩:=hF;obtain⟨a,l,rfl,ha,hl⟩:=hR;have hvl:=hv.len
 have ha0:=ha;obtain⟨ni,ei,li,rfl,hli,h7,hin,hinl⟩:=ha;simp only at hv hw hk hl ha0 h7 hin hinl hvl;obtain⟨j,rfl,hj,hej⟩:=gi_at hv hd;obtain⟨nf,fs,main,np,ps,ws,first⟩:=c;obtain⟨n,name,params,result,nv,vs,nb,bs,size,ar⟩:=d;obtain⟨inp,fuel,left,ev,over,long⟩:=s;refine WC.enter rfl rfl rfl ?_;unfold b65 ki kb vi mt mw fa ft ll iz og ov oo;simp only[RunK.cells,FrK.cells]
 repeat' (first|refine W.seq ?_|refine W.easy (k:=?_)|refine W.block ?_|refine Ret.normal (k:=?_)|(refine W.condL (h:=?_);change W _ _ _ _)|refine W.regS ?_|refine WS.done ?_|(refine WS.cmp (k1:=fun h=>?_) (k2:=fun h=>?_)<;>simp only[Zq]at h<;>(try(exfalso;omega)))|refine WS.consN (k:=?_)|refine W.beginD (h:=?_)|(refine WD.done ⟨_,by cbv;first|done|fail,?_⟩;dsimp only)|refine WD.stoP (k:=fun q hq=>?_)|refine WD.pre (k:=?_)|refine WD.iaddrO (h:=?_)|fail)
 exact oneR_to ha0 hl hv hw hk (by assumption)
theorem one_copy{c:RunK}{d:FrK}{s:RS}{x:Fr}{rc fc:List A}{deep:Int}{i:TIns}{e:List A}(hi:InsR i e)(hR:RunR c s rc)(hF:FrR d x fc)(hop:i.op=36)(hd:0<=i.dst/\i.dst<x.v.length)(h1:0<=i.a/\i.a<x.v.length):
  WC E 65 [.pt 0 0,.pt 1 0,.agg e,.v (.int .i64 deep)] [.cells rc,.cells fc] (OneR c d (x.to i.dst (gi x.v i.a),s)):=by
 obtain⟨op,dst,xa,xb,var,num,args⟩:=i;obtain⟨v,w,kn⟩:=x;simp only at hop hd h1 ⊢
 subst hop;obtain⟨_,rfl,⟨na,as,nal,rfl,hal,h6,hA,hnl⟩⟩:=hi;simp only at h6 hA hnl;obtain⟨r,w',k',rfl,hv,hw,hk⟩:=hF;obtain⟨a,l,rfl,ha,hl⟩:=hR;have hvl:=hv.len
 have ha0:=ha;obtain⟨ni,ei,li,rfl,hli,h7,hin,hinl⟩:=ha;simp only at hv hw hk hl ha0 h7 hin hinl hvl;obtain⟨j,rfl,hj,hej⟩:=gi_at hv hd;obtain⟨ja,rfl,hja,heja⟩:=gi_at hv h1;generalize gi v (Int.ofNat ja)=va at*
 obtain⟨nf,fs,main,np,ps,ws,first⟩:=c;obtain⟨n,name,params,result,nv,vs,nb,bs,size,ar⟩:=d;obtain⟨inp,fuel,left,ev,over,long⟩:=s;refine WC.enter rfl rfl rfl ?_;unfold b65 ki kb vi mt mw fa ft ll iz og ov oo;simp only[RunK.cells,FrK.cells]
 repeat' (first|refine W.seq ?_|refine W.easy (k:=?_)|refine W.block ?_|refine Ret.normal (k:=?_)|(refine W.condL (h:=?_);change W _ _ _ _)|refine W.regS ?_|refine WS.done ?_|(refine WS.cmp (k1:=fun h=>?_) (k2:=fun h=>?_)<;>simp only[Zq]at h<;>(try(exfalso;omega)))|refine WS.consN (k:=?_)|refine W.beginD (h:=?_)|(refine WD.done ⟨_,by cbv;first|done|fail,?_⟩;dsimp only)|refine WD.loadP (h:=?_)|refine WD.stoP (k:=fun q hq=>?_)|refine WD.pre (k:=?_)|refine WD.iaddrO (h:=?_)|fail)
 exact oneR_to ha0 hl hv hw hk (by assumption)
theorem one_arg{c:RunK}{d:FrK}{s:RS}{x:Fr}{rc fc:List A}{deep:Int}{i:TIns}{e:List A}{largs:List Int}(hi:InsR i e)(hR:RunR c s rc)(hF:FrR d x fc)(hop:i.op=33)(hd:0<=i.dst/\i.dst<x.v.length)(h1:0<=i.num/\i.num<largs.length)(h2:SlN 1 IntR largs d.args):
  WC E 65 [.pt 0 0,.pt 1 0,.agg e,.v (.int .i64 deep)] [.cells rc,.cells fc] (OneR c d (x.to i.dst (gi largs i.num),s)):=by
 obtain⟨op,dst,xa,xb,var,num,args⟩:=i;obtain⟨v,w,kn⟩:=x;simp only at hop hd h1 ⊢
 subst hop;obtain⟨_,rfl,⟨na,as,nal,rfl,hal,h6,hA,hnl⟩⟩:=hi;simp only at h6 hA hnl;obtain⟨r,w',k',rfl,hv,hw,hk⟩:=hF;obtain⟨a,l,rfl,ha,hl⟩:=hR;have hvl:=hv.len
 have ha0:=ha;obtain⟨ni,ei,li,rfl,hli,h7,hin,hinl⟩:=ha;simp only at hv hw hk hl ha0 h7 hin hinl hvl;obtain⟨j,rfl,hj,hej⟩:=gi_at hv hd;rcases h2 with⟨_,rfl⟩|⟨nar,ear,lar,har,hal2,h8,hRr,_⟩
 ·exact absurd h1.2 (by simp only[List.length_nil];omega)
 obtain⟨ja,rfl,hja,heja⟩:=gi_at hRr h1;generalize gi largs (Int.ofNat ja)=va at*
 obtain⟨nf,fs,main,np,ps,ws,first⟩:=c;obtain⟨n,name,params,result,nv,vs,nb,bs,size,ar⟩:=d;obtain⟨inp,fuel,left,ev,over,long⟩:=s;refine WC.enter rfl rfl rfl ?_;unfold b65 ki kb vi mt mw fa ft ll iz og ov oo;simp only[RunK.cells,FrK.cells];simp only at har;subst har
 repeat' (first|refine W.seq ?_|refine W.easy (k:=?_)|refine W.block ?_|refine Ret.normal (k:=?_)|(refine W.condL (h:=?_);change W _ _ _ _)|refine W.regS ?_|refine WS.done ?_|(refine WS.cmp (k1:=fun h=>?_) (k2:=fun h=>?_)<;>simp only[Zq]at h<;>(try(exfalso;omega)))|refine WS.consN (k:=?_)|refine W.beginD (h:=?_)|(refine WD.done ⟨_,by cbv;first|done|fail,?_⟩;dsimp only)|refine WD.stoP (k:=fun q hq=>?_)|refine WD.pre (k:=?_)|refine WD.iaddrO (h:=?_)|refine WD.iaddr (h:=?_)|fail)
 exact oneR_to ha0 hl hv hw hk (by assumption)
theorem one_print{c:RunK}{d:FrK}{s:RS}{x:Fr}{rc fc:List A}{deep:Int}{i:TIns}{e:List A}(hi:InsR i e)(hR:RunR c s rc)(hF:FrR d x fc)(hop:i.op=44)(h1:0<=i.a/\i.a<x.v.length)(hb:s.ev.length<=1000000000):
  WC E 65 [.pt 0 0,.pt 1 0,.agg e,.v (.int .i64 deep)] [.cells rc,.cells fc] (OneR c d (x,s.tell (ev0 1 (gi x.v i.a) 0))):=by
 obtain⟨op,dst,xa,xb,var,num,args⟩:=i;obtain⟨v,w,kn⟩:=x;simp only at hop h1 ⊢
 subst hop;obtain⟨_,rfl,⟨na,as,nal,rfl,hal,h6,hA,hnl⟩⟩:=hi;simp only at h6 hA hnl;obtain⟨r,w',k',rfl,hv,hw,hk⟩:=hF;obtain⟨a,l,rfl,ha,hl⟩:=hR;have hvl:=hv.len
 have ha0:=ha;obtain⟨ni,ei,li,rfl,hli,h7,hin,hinl⟩:=ha;simp only at hv hw hk hl ha0 h7 hin hinl hvl;obtain⟨ja,rfl,hja,heja⟩:=gi_at hv h1;generalize gi v (Int.ofNat ja)=va at*
 obtain⟨nf,fs,main,np,ps,ws,first⟩:=c;obtain⟨n,name,params,result,nv,vs,nb,bs,size,ar⟩:=d;obtain⟨inp,fuel,left,ev,over,long⟩:=s;refine WC.enter rfl rfl rfl ?_;unfold b65 ki kb vi mt mw fa ft ll iz og ov oo;simp only[RunK.cells,FrK.cells];simp only at hb hl;rcases hl with⟨rfl,hq⟩|⟨rq,nq,rfl,hql,hqn,hqR⟩
 case' inr=>have hnq:rq.length<=1000000000:=by omega
 all_goals
  repeat' (first|refine W.seq ?_|refine W.easy (k:=?_)|refine W.block ?_|refine Ret.normal (k:=?_)|(refine W.condL (h:=?_);change W _ _ _ _)|refine W.regS ?_|refine WS.done ?_|(refine WS.cmp (k1:=fun h=>?_) (k2:=fun h=>?_)<;>simp only[Zq]at h<;>(try(exfalso;omega)))|refine WS.consN (k:=?_)|refine W.beginD (h:=?_)|(refine WD.done ⟨_,by cbv;first|done|fail,?_⟩;dsimp only)|refine WD.stoApp (h:=fun r hr=>?_)|refine WD.loadP (h:=?_)|refine WD.pre (k:=?_)|refine WD.iaddrO (h:=?_)|refine WD.app (h:=?_)|refine WD.oneN (k:=?_)|fail)
 all_goals refine⟨rfl,_,_,_,rfl,⟨_,_,rfl,ha0,?_⟩,⟨_,_,_,rfl,hv,hw,hk⟩⟩
 all_goals first
  |exact growR_snoc (R:=EvR) (ev0R 1 va 0) hqR (by assumption)
  |exact growR_one (ev0R 1 va 0) hq
/-- Which argument: the last way from a block that is taken. -/
def kF(pos:Nat->Bool)(from':Int):List Int->Nat->Nat->Int->Int
 |[],_,_,k=>k
 |w::l,i,seen,k=>if w=from' then kF pos from' l (i+1) (seen+1) (if pos seen then(i:Int)else k)else kF pos from' l (i+1) seen k
def phiH(l:List TIns):List TIns:=l.takeWhile fun x=>decide (x.op=47)
def bothF(t:TTerm):Prop:=t.kind=2/\t.to=t.els
instance (t:TTerm):Decidable (bothF t):=inferInstanceAs (Decidable (_/\_))
def posF(t:TTerm)(way:Int)(seen:Nat):Bool:=decide (¬bothF t\/(seen:Int)=way)
def setAll:List Int->List (Int×Int)->List Int
 |v,[]=>v
 |v,(d,n)::l=>setAll (v.set d.toNat n) l
def termAt(f:TFunc)(k:Int):TTerm:=match f.blocks[k.toNat]? with|some b=>b.term|none=>⟨0,0,0,0⟩
/-- The Phis of a block, all at once. -/
def phisP(f:TFunc)(ws:List Int)(from' way:Int)(ins:List TIns)(v:List Int):List Int:=
 if kF (posF (termAt f from') way) from' ws 0 0 (-1)<0 then v
 else setAll v ((phiH ins).map fun x=>(x.dst,gi v (gi x.args (kF (posF (termAt f from') way) from' ws 0 0 (-1)))))
theorem kF_rng(pos:Nat->Bool)(from':Int):∀ (l:List Int) (i seen:Nat) (k:Int) (n:Nat),i+l.length<=n->(k= -1\/0<=k/\k<n)->kF pos from' l i seen k= -1\/0<=kF pos from' l i seen k/\kF pos from' l i seen k<n
 |[],i,seen,k,n,_,hk=>hk
 | w::l,i,seen,k,n,hn,hk=>by
   rw[kF];simp only[List.length_cons]at hn;split
   ·refine kF_rng pos from' l _ _ _ n (by omega) ?_;split
    ·exact .inr (by omega)
    ·exact hk
   ·exact kF_rng pos from' l _ _ _ n (by omega) hk
def WayR(l:List (List Int))(e:List A):Prop:=∃ a,e=[a]/\SlA 1 CellR l a
/-- Which argument it is. -/
theorem phis1{nf:Bool}{fs:List (List A)}{main:Int}{np:Bool}{ps ws:List (List A)}{ni:Bool}{ei:List (List A)}{fuel left:Int}{l:A}{over long:Bool}{first:Int}{n:Nat}{name:ByteArray}{params:Int}{result nv:Bool}{vs:List (List A)}{nb:Bool}{bs:List (List A)}{size:Int}{ar:A}{r:List (List A)}{w' k':A}{b:Nat}{from' way:Int}{wn:Bool}{we:List (List A)}{Q:Ex->St->Prop}{wl:List Int}{f:TFunc}{wln:Nat}{kk:Int}(hwln:wl.length=wln)(hkk:kF (posF (termAt f from') way) from' wl 0 0 (-1)=kk)(hli:Inert l)(hwi:Inert w')(hki:Inert k')(hda:Inert ar)(hwle:RowR IntR wl we)(hwr:∀ v,v∈wl->0<=v/\v<f.blocks.length)(hB:RowR BlockR f.blocks bs)(hwl:wl.length<=1000000)
  (hex:∀ sd:Int,Q (.exit 0) ⟨[.pt 0 0,.pt 1 0,.v (.int .i64 (Int.ofNat b)),.v (.int .i64 from'),.v (.int .i64 way),.v (.int .i64 (Int.ofNat wln)),.imm wn 1 we,.v (.bool false),.top,.top,.top,.v (.int .i64 sd),.top,.ud,.v (.int .i64 kk),.ud,.ud,.ud,.ud],[],[.cells [.imm nf 6 fs,.v (.int .i64 main),.imm np 3 ps,.own 1 ws,.imm ni 1 ei,.v (.int .i64 fuel),.v (.int .i64 left),l,.v (.bool over),.v (.bool long),.v (.int .i64 first)],.cells [.v (.int .i64 (Int.ofNat n)),.v (.string name),.v (.int .i64 params),.v (.bool result),.imm nv 6 vs,.imm nb 5 bs,.v (.int .i64 size),ar,.own 1 r,w',k']]⟩):
  W E (.loop [7,8,9,10,12] l64_2) ⟨[.pt 0 0,.pt 1 0,.v (.int .i64 (Int.ofNat b)),.v (.int .i64 from'),.v (.int .i64 way),.v (.int .i64 0),.imm wn 1 we,.ud,.ud,.ud,.ud,.v (.int .i64 0),.ud,.ud,.v (.int .i64 (-1)),.ud,.ud,.ud,.ud],[],[.cells [.imm nf 6 fs,.v (.int .i64 main),.imm np 3 ps,.own 1 ws,.imm ni 1 ei,.v (.int .i64 fuel),.v (.int .i64 left),l,.v (.bool over),.v (.bool long),.v (.int .i64 first)],.cells [.v (.int .i64 (Int.ofNat n)),.v (.string name),.v (.int .i64 params),.v (.bool result),.imm nv 6 vs,.imm nb 5 bs,.v (.int .i64 size),ar,.own 1 r,w',k']]⟩ Q:=by
 have hwel:=hwle.len;generalize hpos:posF (termAt f from') way=pos at*
 rw[hwln]at hwel hwl;refine W.forA wln (fun i (z:Int×Int) σ=>sn 5 i (si 11 z.1 (si 14 z.2 σ))) (fun i z=> ∃sd:Nat,z.1=sd/\sd<=i/\kF pos from' wl 0 0 (-1)=kF pos from' (wl.drop i) i sd z.2) 0 (Nat.zero_le _) ?_ ?_
 ·exact⟨(0,-1),by cbv,0,rfl,Nat.zero_le _,rfl⟩
 rintro QA kA i ⟨sd',kz⟩ hi ⟨sd,hsd,hsi,hkF⟩;simp only at hsd hkF;subst hsd
 by_cases hin:i<wln
 ·as_aux_lemma=>
   have hiw:i<wl.length:=by omega
   obtain⟨ei',hei',hRi⟩:=hwle.at i hiw;have hdr:wl.drop i=wl[i]::wl.drop (i+1):=List.drop_eq_getElem_cons hiw
   have hvi:=hwr _ (Gm hiw);rw[hdr,kF]at hkF;generalize wl[i]=wv at*
   obtain rfl:ei'=[.v (.int .i64 wv)]:=hRi
   by_cases hwf:wv=from'
   ·subst hwf;rw[if_pos rfl]at hkF;obtain⟨jf,rfl,hjf⟩:=intOf hvi;obtain⟨ej,hej,hBj⟩:=hB.at jf hjf
    have htj:termAt f (Int.ofNat jf)=f.blocks[jf].term:=by
     unfold termAt;rw[show(Int.ofNat jf).toNat=jf from rfl,Gg hjf]
    rw[htj]at hpos;generalize f.blocks[jf]=bj at*
    obtain⟨bins,⟨bk,ba,bt,be⟩⟩:=bj;obtain⟨_,rfl,hbI⟩:=hBj;obtain⟨nbi,bis,nbil,rfl,_⟩:=hbI;have hps:pos sd=decide (¬(bk=2/\bt=be)\/(sd:Int)=way):=by subst hpos;rfl
    by_cases hpp:¬ (bk=2/\bt=be)\/(sd:Int)=way
    case' pos=>
     rw[hps,decide_eq_true hpp,if_pos rfl]at hkF
    case' neg=>
     rw[hps,decide_eq_false hpp,if_neg (by decide)]at hkF
    all_goals
     refine W.norm (k:=?_);unfold l64_2 ki kb vi mt mw fa ft ll lg iz og ov oo
     repeat' (first|refine W.seq ?_|refine W.easy (k:=?_)|refine W.block ?_|refine W.skip ?_|(refine W.condL (h:=?_);change W _ _ _ _)|refine W.regS ?_|refine WS.done ?_|refine WS.pre (k:=?_)|(refine WS.guard (h:=?_);change WS _ _ _ _)|refine WS.len (h:=?_)|refine WS.iaddr (h:=?_)|(refine WS.cmp (k1:=fun h=>?_) (k2:=fun h=>?_)<;>simp only[Zq]at h<;>(try(exfalso;omega)))|refine WS.inc (h:=?_)|refine WS.consN (k:=?_)|fail)
    all_goals try(exfalso;omega)
    all_goals
     refine tr_leaf (by omega) (x':=(_,_)) ⟨sd+1,rfl,by omega,hkF⟩ ?_;show St.clr _ (St.trunc 2 ⟨_,_,_::_::_::[]⟩)=_
     rw[trunc2]
     ·cbv
     ·exact InertC.tr (by repeat' (first|exact InertC.nil|refine InertC.cons ?_ ?_|exact Inert.v _|exact Inert.imm _ _ _|exact Inert.own _ _|assumption)) 2
     ·exact InertC.tr (by repeat' (first|exact InertC.nil|refine InertC.cons ?_ ?_|exact Inert.v _|exact Inert.imm _ _ _|exact Inert.own _ _|assumption)) 2
   ·rw[if_neg hwf]at hkF;refine W.norm (k:=?_);unfold l64_2 ki kb vi mt mw fa ft ll lg iz og ov oo
    repeat' (first|refine W.seq ?_|refine W.block ?_|refine W.skip ?_|refine W.exit ?_|(refine W.condL (h:=?_);change W _ _ _ _)|refine W.regS ?_|refine WS.done ?_|refine WS.pre (k:=?_)|refine WS.len (h:=?_)|refine WS.iaddr (h:=?_)|(refine WS.cmp (k1:=fun h=>?_) (k2:=fun h=>?_)<;>simp only[Zq]at h<;>(try(exfalso;omega)))|refine WS.inc (h:=?_)|refine WS.consN (k:=?_)|fail)
    exact⟨by omega,(_,_),by cbv,sd,rfl,by omega,hkF⟩
 ·have hd0:wl.drop i=[]:=List.drop_eq_nil_of_le (by omega);rw[hd0,kF]at hkF;obtain rfl:i=wln:=by omega
  obtain rfl:kk=kz:=hkk.symm.trans hkF;have hx:=hex (sd:Int)
  refine W.norm (k:=?_);unfold l64_2 ki kb vi mt mw fa ft ll lg iz og ov oo
  repeat' (first|refine W.seq ?_|refine W.exit ?_|(refine W.condL (h:=?_);change W _ _ _ _)|refine W.regS ?_|refine WS.done ?_|refine WS.pre (k:=?_)|refine WS.len (h:=?_)|(refine WS.cmp (k1:=fun h=>?_) (k2:=fun h=>?_)<;>simp only[Zq]at h<;>(try(exfalso;omega)))|fail)
  exact kA _ _ hx
theorem tw_get{α:Type}{p:α->Bool}:∀ {l:List α} {i:Nat},i<(l.takeWhile p).length-> ∃x,l[i]?=some x/\(l.takeWhile p)[i]?=some x/\p x=true
 |[],i,h=>by simp at h
 | a::l,i,h=>by
   rw[List.takeWhile_cons]at h ⊢
   cases hp:p a with
   |false=>rw[hp]at h;simp at h
   | true=>
     rw[hp]at h;simp only[if_true]at h ⊢
     cases i with
     |zero=>exact⟨a,rfl,rfl,hp⟩
     |succ i=>exact tw_get (l:=l) (by simpa using h)
theorem tw_end{α:Type}{p:α->Bool}:∀ {l:List α} {x:α},l[(l.takeWhile p).length]?=some x->p x=false
 |[],x,h=>by simp at h
 | a::l,x,h=>by
   rw[List.takeWhile_cons]at h;cases hp:p a with
   | false=>
     rw[hp]at h;simp at h;rw[<-h];exact hp
   | true=>
     rw[hp]at h;simp at h;exact tw_end h
theorem phis2{nf:Bool}{fs:List (List A)}{main:Int}{np:Bool}{ps ws:List (List A)}{ni:Bool}{ei:List (List A)}{fuel left:Int}{l:A}{over long:Bool}{first:Int}{n:Nat}{name:ByteArray}{params:Int}{result nv:Bool}{vs:List (List A)}{nb:Bool}{bs:List (List A)}{size:Int}{ar:A}{r:List (List A)}{w' k':A}{b:Nat}{from' way:Int}{wn:Bool}{we:List (List A)}{Q:Ex->St->Prop}{wln:Nat}{sd kk:Int}{ins:List TIns}{v:List Int}{is:List (List A)}{nin:Bool}{nil:Nat}{bk ba bt be:Int}(hblk:bs[b]?=some [.imm nin 7 is,.v (.int .u8 bk),.v (.int .i64 ba),.v (.int .i64 bt),.v (.int .i64 be)])(hil:is.length=nil)(hnil:nil=ins.length)(hI:RowR InsR ins is)(hni:nil<=1000000)
  (hv:RowR IntR v r) (hkk:kk= -1\/0<=kk/\kk<wln) (hphi:∀ i,i∈ins->i.op=47->i.args.length=wln/\(∀a,a∈i.args->0<=a/\a<v.length))
  {m:Nat} (hm:(if kk<0 then 0 else(phiH ins).length)=m) (hex:∀ y,GrowR 1 IntR (((phiH ins).take m).map fun x=>gi v (gi x.args kk)) y->Q (.exit 2) ⟨[.pt 0 0,.pt 1 0,.v (.int .i64 (Int.ofNat b)),.v (.int .i64 from'),.v (.int .i64 way),.v (.int .i64 (Int.ofNat wln)),.imm wn 1 we,.v (.bool false),.top,.top,.top,.v (.int .i64 sd),.top,.v (.int .i64 (Int.ofNat m)),.v (.int .i64 kk),.v (.bool false),y,.ud,.ud],[],[.cells [.imm nf 6 fs,.v (.int .i64 main),.imm np 3 ps,.own 1 ws,.imm ni 1 ei,.v (.int .i64 fuel),.v (.int .i64 left),l,.v (.bool over),.v (.bool long),.v (.int .i64 first)],.cells [.v (.int .i64 (Int.ofNat n)),.v (.string name),.v (.int .i64 params),.v (.bool result),.imm nv 6 vs,.imm nb 5 bs,.v (.int .i64 size),ar,.own 1 r,w',k']]⟩):
  W E (.loop [15] l64_1) ⟨[.pt 0 0,.pt 1 0,.v (.int .i64 (Int.ofNat b)),.v (.int .i64 from'),.v (.int .i64 way),.v (.int .i64 (Int.ofNat wln)),.imm wn 1 we,.v (.bool false),.top,.top,.top,.v (.int .i64 sd),.top,.v (.int .i64 0),.v (.int .i64 kk),.ud,.v (.slice none 0 0),.ud,.ud],[],[.cells [.imm nf 6 fs,.v (.int .i64 main),.imm np 3 ps,.own 1 ws,.imm ni 1 ei,.v (.int .i64 fuel),.v (.int .i64 left),l,.v (.bool over),.v (.bool long),.v (.int .i64 first)],.cells [.v (.int .i64 (Int.ofNat n)),.v (.string name),.v (.int .i64 params),.v (.bool result),.imm nv 6 vs,.imm nb 5 bs,.v (.int .i64 size),ar,.own 1 r,w',k']]⟩ Q:=by
 have hvl:=hv.len;have hph:(phiH ins).length<=ins.length:=(List.takeWhile_prefix _).length_le
 have hm1:kk<0->m=0:=fun h=>by rw[<-hm,if_pos h]
 have hm2:0<=kk->m=(phiH ins).length:=fun h=>by rw[<-hm,if_neg (by omega)]
 refine W.forA m (fun i (y:A) σ=>sn 13 i (sv 16 y σ)) (fun i y=>GrowR 1 IntR (((phiH ins).take i).map fun x=>gi v (gi x.args kk)) y) 0 (Nat.zero_le _) ?_ ?_
 ·exact⟨_,by cbv,.inl ⟨rfl,rfl⟩⟩
 rintro QA kA i y hi hG
 by_cases him:i<m
 ·as_aux_lemma=>
   have hk0:0<=kk:=by
    rcases hkk with h|h
    ·have:=hm1 (by omega);omega
    ·exact h.1
   have him':i<(phiH ins).length:=by have:=hm2 hk0;omega
   obtain⟨x,hx1,hx2,hx3⟩:=tw_get him';have hx47:x.op=47:=of_decide_eq_true hx3
   have hii:i<ins.length:=by omega
   obtain⟨ex,hex',hXR⟩:=hI.at i hii;rw[Gg hii]at hx1;rw[Option.some.inj hx1]at hXR;have hxm:x∈ins:=by rw[<-Option.some.inj hx1];exact Gm hii
   obtain⟨hal,hav⟩:=hphi x hxm hx47
   have hnx:∀ z,GrowR 1 IntR (((phiH ins).take i).map (fun x=>gi v (gi x.args kk))++[gi v (gi x.args kk)]) z->GrowR 1 IntR (((phiH ins).take (i+1)).map fun x=>gi v (gi x.args kk)) z:=fun z h=>by
    rw[take_snoc (show(phiH ins)[i]?=some x from hx2),List.map_append];exact h
   have hgl:(((phiH ins).take i).map fun x=>gi v (gi x.args kk)).length<=1000000:=by rw[List.length_map,List.length_take];omega
   generalize ((phiH ins).take i).map (fun x=>gi v (gi x.args kk))=pg at*
   obtain⟨op,dst,xa,xb,var,num,args⟩:=x;simp only at hx47 hal hav hnx;subst hx47;obtain⟨_,rfl,⟨na,as,nal,rfl,hal',h6,hA,_⟩⟩:=hXR;simp only at h6 hA
   have hkl:0<=kk/\kk<args.length:=by
    rcases hkk with h|h
    ·omega
    ·omega
   obtain⟨jk,rfl,hjk,hejk⟩:=gi_at hA hkl
   have hmem:gi args (Int.ofNat jk)∈args:=by
    have h1:jk<args.length:=by have:=hkl.2;simp only[Int.ofNat_eq_natCast]at this;omega
    have h2:gi args (Int.ofNat jk)=args[jk]:=by
     show args.getD jk 0=_
     rw[List.getD_eq_getElem?_getD,Gg h1];rfl
    rw[h2];exact Gm h1
   have hv2:=hav _ hmem;generalize gi args (Int.ofNat jk)=av at*
   obtain⟨ja,rfl,hja,heja⟩:=gi_at hv hv2;generalize gi v (Int.ofNat ja)=vv at*
   rcases hG with⟨rfl,hq⟩|⟨rq,nq,rfl,hql,hqn,hqR⟩
   case' inr=>have hnq:rq.length<=1000000:=by omega
   all_goals
    refine W.norm (k:=?_);unfold l64_1 ki kb vi mt mw fa ll iz og ov oo
    repeat' (first|refine W.seq ?_|refine W.block ?_|refine W.skip ?_|(refine W.condL (h:=?_);change W _ _ _ _)|refine W.regS ?_|refine WS.done ?_|refine WS.pre (k:=?_)|(refine WS.guard (h:=?_);change WS _ _ _ _)|refine WS.len (h:=?_)|refine WS.iaddr (h:=?_)|(refine WS.cmp (k1:=fun h=>?_) (k2:=fun h=>?_)<;>simp only[Zq]at h<;>(try(exfalso;omega)))|refine WS.inc (h:=?_)|refine WS.consN (k:=?_)|refine W.beginD (h:=?_)|(refine WD.done ⟨_,by cbv;first|done|fail,?_⟩;dsimp only)|refine WD.setApp (h:=fun r hr=>?_)|refine WD.loadP (h:=?_)|refine WD.pre (k:=?_)|refine WD.iaddrO (h:=?_)|refine WD.iaddr (h:=?_)|refine WD.app (h:=?_)|refine WD.oneN (k:=?_)|fail)
   all_goals first
    |exact⟨by omega,_,by cbv,hnx _ (growR_snoc (R:=IntR) rfl hqR (by assumption))⟩
    |exact⟨by omega,_,by cbv,hnx _ (growR_one (R:=IntR) rfl hq)⟩
 ·obtain rfl:i=m:=by omega
  have hx:=hex y hG
  by_cases hii:i<ins.length
  ·obtain⟨ex,hex',hXR⟩:=hI.at i hii;have hxx:ins[i]?=some ins[i]:=Gg hii
   generalize ins[i]=x at hXR hxx
   by_cases h47:x.op=47
   case' pos=>
    have hkn:kk= -1:=by
     rcases hkk with h|h
     ·exact h
     ·rw[hm2 h.1]at hxx;have:=tw_end hxx
      simp only[decide_eq_false_iff_not]at this;exact absurd h47 this
    subst hkn
   all_goals
    obtain⟨op,dst,xa,xb,var,num,args⟩:=x;simp only at h47;obtain⟨_,rfl,⟨na,as,nal,rfl,hal',h6,hA,_⟩⟩:=hXR;rcases hG with⟨rfl,hq⟩|⟨rq,nq,rfl,hql,hqn,hqR⟩
   all_goals
    refine W.norm (k:=?_);unfold l64_1 ki kb vi mt mw fa ll iz og ov oo
    repeat' (first|refine W.seq ?_|refine W.exit ?_|(refine W.condL (h:=?_);change W _ _ _ _)|refine W.regS ?_|refine WS.done ?_|refine WS.pre (k:=?_)|(refine WS.guard (h:=?_);change WS _ _ _ _)|refine WS.len (h:=?_)|refine WS.iaddr (h:=?_)|(refine WS.cmp (k1:=fun h=>?_) (k2:=fun h=>?_)<;>simp only[Zq]at h<;>(try(exfalso;omega)))|fail)
   all_goals try(exfalso;omega)
   all_goals exact kA _ _ hx
  ·rcases hG with⟨rfl,hq⟩|⟨rq,nq,rfl,hql,hqn,hqR⟩
   all_goals
    refine W.norm (k:=?_);unfold l64_1 ki kb vi mt mw fa ll iz og ov oo
    repeat' (first|refine W.seq ?_|refine W.exit ?_|(refine W.condL (h:=?_);change W _ _ _ _)|refine W.regS ?_|refine WS.done ?_|refine WS.pre (k:=?_)|(refine WS.guard (h:=?_);change WS _ _ _ _)|refine WS.len (h:=?_)|refine WS.iaddr (h:=?_)|(refine WS.cmp (k1:=fun h=>?_) (k2:=fun h=>?_)<;>simp only[Zq]at h<;>(try(exfalso;omega)))|fail)
   all_goals exact kA _ _ hx
theorem setAll_snoc(d n:Int):∀ (l:List (Int×Int)) (v:List Int),setAll v (l++[(d,n)])=(setAll v l).set d.toNat n
 |[],_=>rfl
 |(a,b)::l,v=>setAll_snoc d n l (v.set a.toNat b)
theorem setAll_len:∀ (l:List (Int×Int)) (v:List Int),(setAll v l).length=v.length
 |[],_=>rfl
 |(a,b)::l,v=>by rw[setAll,setAll_len l,List.length_set]
theorem zip_map_self{α β γ:Type}(g:α->β)(h:α×β->γ):∀ l:List α,(l.zip (l.map g)).map h=l.map fun x=>h (x,g x)
 |[]=>rfl
 |x::l=>by simp only[List.map_cons,List.zip_cons_cons,zip_map_self g h l]
theorem phis3{nf:Bool}{fs:List (List A)}{main:Int}{np:Bool}{ps ws:List (List A)}{ni:Bool}{ei:List (List A)}{fuel left:Int}{l:A}{over long:Bool}{first:Int}{n:Nat}{name:ByteArray}{params:Int}{result nv:Bool}{vs:List (List A)}{nb:Bool}{bs:List (List A)}{size:Int}{ar:A}{r:List (List A)}{w' k':A}{b:Nat}{from' way:Int}{wn:Bool}{we:List (List A)}{Q:Ex->St->Prop}{wln:Nat}{sd kk:Int}{ins hs:List TIns}{v vals:List Int}{is:List (List A)}{nin:Bool}{nil m:Nat}{bk ba bt be:Int}{y:A}(hblk:bs[b]?=some [.imm nin 7 is,.v (.int .u8 bk),.v (.int .i64 ba),.v (.int .i64 bt),.v (.int .i64 be)])(hI:RowR InsR ins is)(hnil:is.length=nil)(hni:nil<=1000000)
  (hv:RowR IntR v r) (hy:GrowR 1 IntR vals y) (hhs:∀ (i:Nat) (x:TIns),hs[i]?=some x->ins[i]?=some x/\0<=x.dst/\x.dst<v.length) (hm:m=hs.length) (hvm:vals.length=m)
  (hex:∀ q,RowR IntR (setAll v ((hs.zip vals).map fun p=>(p.1.dst,p.2))) q->Q (.exit 4) ⟨[.pt 0 0,.pt 1 0,.v (.int .i64 (Int.ofNat b)),.v (.int .i64 from'),.v (.int .i64 way),.v (.int .i64 (Int.ofNat wln)),.imm wn 1 we,.v (.bool false),.top,.top,.top,.v (.int .i64 sd),.top,.v (.int .i64 (Int.ofNat m)),.v (.int .i64 kk),.v (.bool false),y,.v (.int .i64 (Int.ofNat m)),.v (.bool false)],[],[.cells [.imm nf 6 fs,.v (.int .i64 main),.imm np 3 ps,.own 1 ws,.imm ni 1 ei,.v (.int .i64 fuel),.v (.int .i64 left),l,.v (.bool over),.v (.bool long),.v (.int .i64 first)],.cells [.v (.int .i64 (Int.ofNat n)),.v (.string name),.v (.int .i64 params),.v (.bool result),.imm nv 6 vs,.imm nb 5 bs,.v (.int .i64 size),ar,.own 1 q,w',k']]⟩):
  W E (.loop [18] l64_0) ⟨[.pt 0 0,.pt 1 0,.v (.int .i64 (Int.ofNat b)),.v (.int .i64 from'),.v (.int .i64 way),.v (.int .i64 (Int.ofNat wln)),.imm wn 1 we,.v (.bool false),.top,.top,.top,.v (.int .i64 sd),.top,.v (.int .i64 (Int.ofNat m)),.v (.int .i64 kk),.v (.bool false),y,.v (.int .i64 0),.ud],[],[.cells [.imm nf 6 fs,.v (.int .i64 main),.imm np 3 ps,.own 1 ws,.imm ni 1 ei,.v (.int .i64 fuel),.v (.int .i64 left),l,.v (.bool over),.v (.bool long),.v (.int .i64 first)],.cells [.v (.int .i64 (Int.ofNat n)),.v (.string name),.v (.int .i64 params),.v (.bool result),.imm nv 6 vs,.imm nb 5 bs,.v (.int .i64 size),ar,.own 1 r,w',k']]⟩ Q:=by
 have hil:=hI.len;refine W.forA m (fun i (z:A) σ=>sn 17 i (sb 1 8 z σ)) (fun i z=> ∃q,z= .own 1 q/\RowR IntR (setAll v (((hs.zip vals).take i).map fun p=>(p.1.dst,p.2))) q) 0 (Nat.zero_le _) ?_ ?_
 ·exact⟨_,by cbv,_,rfl,hv⟩
 rintro QA kA i z hi ⟨q,rfl,hq⟩
 by_cases him:i<m
 ·as_aux_lemma=>
   have h1:i<hs.length:=by omega
   have h2:i<vals.length:=by omega
   have hx:hs[i]?=some hs[i]:=Gg h1;obtain⟨hxi,hd0,hd1⟩:=hhs i _ hx;have hvi:vals[i]?=some vals[i]:=Gg h2
   have hz:(hs.zip vals)[i]?=some (hs[i],vals[i]):=by rw[List.getElem?_zip_eq_some];exact⟨hx,hvi⟩
   have hnx:∀ q',RowR IntR ((setAll v (((hs.zip vals).take i).map fun p=>(p.1.dst,p.2))).set hs[i].dst.toNat vals[i]) q'->RowR IntR (setAll v (((hs.zip vals).take (i+1)).map fun p=>(p.1.dst,p.2))) q':=fun q' h=>by
    rw[take_snoc hz,List.map_append];simp only[List.map_cons,List.map_nil];rw[setAll_snoc];exact h
   have hsl:=setAll_len (((hs.zip vals).take i).map fun p=>(p.1.dst,p.2)) v;generalize setAll v (((hs.zip vals).take i).map fun p=>(p.1.dst,p.2))=sv at*
   rcases hy with⟨rfl,hyq⟩|⟨rl,nl,rfl,hyl,hyn,hyR⟩
   ·rw[hyq]at h2;exact absurd h2 (Nat.not_lt_zero _)
   obtain⟨ev,hev,hRv⟩:=hyR.at i h2;generalize vals[i]=vv at*
   obtain rfl:ev=[.v (.int .i64 vv)]:=hRv;have hii:=(Ge hxi).1
   obtain⟨ex,hex',hXR⟩:=hI.at i hii;rw[Gg hii]at hxi;rw[Option.some.inj hxi]at hXR;generalize hs[i]=x at*
   obtain⟨op,dst,xa,xb,var,num,args⟩:=x;simp only at hd0 hd1 hnx;obtain⟨_,rfl,⟨na,as,nal,rfl,hal',h6,hA,_⟩⟩:=hXR;obtain⟨jd,rfl,hjd,hejd⟩:=gi_at hq (i:=dst) ⟨hd0,by rw[hsl];exact hd1⟩;have hirl:i<rl.length:=by omega
   have hqq:=hq;refine W.norm (k:=?_);unfold l64_0 ki mt mw fa ll iz ov oo
   repeat' (first|refine W.seq ?_|refine W.block ?_|refine W.skip ?_|(refine W.condL (h:=?_);change W _ _ _ _)|refine W.regS ?_|refine WS.done ?_|refine WS.pre (k:=?_)|refine WS.lenO (k:=?_)|(refine WS.cmp (k1:=fun h=>?_) (k2:=fun h=>?_)<;>simp only[Zq]at h<;>(try(exfalso;omega)))|refine WS.inc (h:=?_)|refine WS.consN (k:=?_)|refine W.beginD (h:=?_)|(refine WD.done ⟨_,by cbv;first|done|fail,?_⟩;dsimp only)|refine WD.loadP (h:=?_)|refine WD.stoP (k:=fun q hq=>?_)|refine WD.pre (k:=?_)|refine WD.iaddrO (h:=?_)|refine WD.iaddr (h:=?_)|fail)
   refine⟨by omega,_,by cbv,_,rfl,hnx _ ?_⟩;rw[<-hq];exact hqq.set (R:=IntR) jd (x:=vv) (e:=[.v (.int .i64 vv)]) rfl
 ·obtain rfl:i=m:=by omega
  have ht:(hs.zip vals).take i=hs.zip vals:=List.take_of_length_le (by rw[List.length_zip];omega);rw[ht]at hq;have hx:=hex q hq
  rcases hy with⟨rfl,hyq⟩|⟨rl,nl,rfl,hyl,hyn,hyR⟩
  case' inl=>
   have hi0:i=0:=by rw[hyq]at hvm;exact hvm.symm
  all_goals
   refine W.norm (k:=?_);unfold l64_0 ki mt mw fa ll iz ov oo
   repeat' (first|refine W.seq ?_|refine W.exit ?_|(refine W.condL (h:=?_);change W _ _ _ _)|refine W.regS ?_|refine WS.done ?_|refine WS.pre (k:=?_)|refine WS.lenO (k:=?_)|(refine WS.cmp (k1:=fun h=>?_) (k2:=fun h=>?_)<;>simp only[Zq]at h<;>(try(exfalso;omega)))|refine WS.consN (k:=?_)|fail)
  all_goals try(exfalso;omega)
  all_goals exact kA _ _ hx
theorem phis_ok{c:RunK}{d:FrK}{s:RS}{x:Fr}{rc fc:List A}{u:TUnit}{f:TFunc}{n b:Nat}{from' way:Int}{wl:List Int}{blk:TBlock}(hR:RunR c s rc)(hF:FrR d x fc)(hda:Inert d.args)
  (hdn:d.n=Int.ofNat n) (hfn:u.funcs[n]?=some f) (hW:RowR WayR (u.funcs.map waysF) c.ws) (hB:RowR BlockR f.blocks d.bs) (hwb:(waysF f)[b]?=some wl) (hblk:f.blocks[b]?=some blk)
  (hwr:∀ v,v∈wl->0<=v/\v<f.blocks.length) (hwl:wl.length<=1000000) (hil:blk.ins.length<=1000000)
  (hphi:∀ i,i∈blk.ins->i.op=47->i.args.length=wl.length/\(∀v,v∈i.args->0<=v/\v<x.v.length)/\0<=i.dst/\i.dst<x.v.length):
  WC E 64 [.pt 0 0,.pt 1 0,.v (.int .i64 (Int.ofNat b)),.v (.int .i64 from'),.v (.int .i64 way)] [.cells rc,.cells fc] (OneR c d ({x with v:=phisP f wl from' way blk.ins x.v},s)):=by
 have hR0:=hR;obtain⟨v,w,kn⟩:=x;obtain⟨r,w',k',rfl,hv,hw,hk⟩:=hF;obtain⟨a,l,rfl,ha,hl⟩:=hR;have hwi:=hw.inert
 have hki:=hk.inert;have hli:=hl.inert
 obtain⟨nf,fs,main,np,ps,ws,first⟩:=c;obtain⟨dn,name,params,result,nv,vs,nb,bs,size,ar⟩:=d;obtain⟨ni,ei,li,rfl,_⟩:=ha;obtain⟨inp,fuel,left,ev,over,long⟩:=s;simp only at hv hw hk hda hdn hW hB hphi hl;subst hdn;have hbl:=(Ge hblk).1
 have hvl:=hv.len;have hnl:=(Ge hfn).1
 obtain⟨ew,hew,hWn⟩:=hW.at n (by rw[List.length_map];exact hnl)
 have hfe:(u.funcs.map waysF)[n]'(by rw[List.length_map];exact hnl)=waysF f:=by
  rw[List.getElem_map];rw[Gg hnl]at hfn;rw[Option.some.inj hfn]
 rw[hfe]at hWn;obtain⟨_,rfl,⟨nw,wes,nwl,rfl,hwes,h3,hWe,_⟩⟩:=hWn;have hwbl:=(Ge hwb).1
 obtain⟨ec,hec,hCe⟩:=hWe.at b hwbl;have hce:(waysF f)[b]=wl:=by rw[Gg hwbl]at hwb;exact Option.some.inj hwb
 rw[hce]at hCe;have hbn:b<wes.length:=by omega
 have hnw:=hW.len;rw[List.length_map]at hnw;have hnn:n<ws.length:=by omega
 -- what is read of the ways
 obtain⟨wn,we,hwle,hwE,hwN⟩:∃ (wn:Bool) (we:List (List A)),RowR IntR wl we/\(ec=[.own 1 we]/\wn=false\/ec=[.nil]/\we=[]/\wn=true)/\(wn=true->wl=[]):=by
  rcases hCe with⟨h1,h2⟩|⟨es,h1,h2⟩
  ·subst h2;exact⟨true,[],.nil,.inr ⟨h1,rfl,rfl⟩,fun _=>rfl⟩
  ·exact⟨false,es,h2,.inl ⟨h1,rfl⟩,fun h=>by cases h⟩
 have hwel:=hwle.len;generalize hwen:we.length=wn' at*
 obtain⟨eb,heb,hBb⟩:=hB.at b hbl;have hbe:f.blocks[b]=blk:=by rw[Gg hbl]at hblk;exact Option.some.inj hblk
 rw[hbe]at hBb;have hkr:=kF_rng (posF (termAt f from') way) from' wl 0 0 (-1) wl.length (by omega) (.inl rfl)
 generalize hkk:kF (posF (termAt f from') way) from' wl 0 0 (-1)=kk at*
 have hmm:(if kk<0 then 0 else(phiH blk.ins).length)=((phiH blk.ins).take (if kk<0 then 0 else(phiH blk.ins).length)).length:=by
  rw[List.length_take];split<;>omega
 have hhd:∀ (mm j:Nat) (x:TIns),((phiH blk.ins).take mm)[j]?=some x->blk.ins[j]?=some x/\0<=x.dst/\x.dst<v.length:=fun mm j x hj=>by
  rw[List.getElem?_take]at hj;split at hj
  ·obtain⟨x',h1,h2,h3⟩:=tw_get (Ge hj).1;rw[show(phiH blk.ins)[j]?=some x' from h2]at hj;cases hj;exact⟨h1,(hphi _ (Mg h1) (of_decide_eq_true h3)).2.2⟩
  ·cases hj
 generalize hmd:(if kk<0 then 0 else(phiH blk.ins).length)=mm at*
 generalize hwln:wl.length=wln at*
 obtain⟨bins,⟨bk,ba,bt,be⟩⟩:=blk;obtain⟨_,rfl,⟨nin,is,nil',rfl,hbi1,hbi2,hbI,_⟩⟩:=hBb;simp only at hil hphi hbi2 hbI hhd hmm;have hblk':=heb
 have hph:phisP f wl from' way bins v=setAll v ((((phiH bins).take mm).zip (((phiH bins).take mm).map fun x=>gi v (gi x.args kk))).map fun p=>(p.1.dst,p.2)):=by
  unfold phisP;rw[hkk,zip_map_self]
  by_cases h0:kk<0
  ·rw[if_pos h0]at hmd;rw[if_pos h0,<-hmd];rfl
  ·rw[if_neg h0]at hmd;rw[if_neg h0,<-hmd,List.take_length]
 have hil':nil'<=1000000:=by omega
 refine WC.enter rfl rfl rfl ?_;unfold b64 ki mt mw fa ll iz ov oo;simp only[RunK.cells,FrK.cells]at hR0 ⊢
 rcases hwE with⟨rfl,rfl⟩|⟨rfl,rfl,rfl⟩
 all_goals
  repeat' (first|refine W.seq ?_|refine W.easy (k:=?_)|refine W.block ?_|refine W.frz (k:=?_)|refine W.beginD (h:=?_)|(refine WD.done ⟨_,by cbv;first|done|fail,?_⟩;dsimp only)|refine WD.loadP (h:=?_)|refine WD.pre (k:=?_)|refine WD.iaddrO (h:=?_)|refine WD.iaddr (h:=?_)|refine WD.oneN (k:=?_)|fail)
  refine phis1 (f:=f) hwln hkk hli hwi hki hda (by first|exact hwle|exact .nil) hwr hB (by rw[hwln];exact hwl) ?_;intro sd;refine W.norm (k:=?_)
  repeat' (first|refine W.seq ?_|refine W.easy (k:=?_)|refine W.block ?_|fail)
  refine phis2 hblk' hbi1 hbi2 hbI hil' hv hkr (fun i h1 h2=>⟨(hphi i h1 h2).1,(hphi i h1 h2).2.1⟩) hmd ?_;intro y hy;have hyl:=hy
  refine W.norm (k:=?_);rcases hy with⟨rfl,hyq⟩|⟨rq,nq,rfl,hyql,hyqn,hyqR⟩
  all_goals
   repeat' (first|refine W.seq ?_|refine W.easy (k:=?_)|refine W.block ?_|fail)
   refine phis3 (hs:=(phiH bins).take mm) hblk' hbI hbi1 hil' hv hyl (fun j x hj=>hhd mm j x hj) hmm (by rw[List.length_map,<-hmm]) ?_;intro q hq
   repeat' (first|refine Ret.normal (k:=?_)|fail)
   rw[<-hph]at hq;exact⟨rfl,_,_,_,rfl,hR0,⟨_,_,_,rfl,hq,hw,hk⟩⟩
theorem pop_sub1{σ:St}{x:Opd}{nl:Bool}{z:Nat}{es:List (List A)}(hx:σ.rd x=some (.imm nl z es))(h:1<=es.length):Ab.pop σ (.sub z x (some (.k (.v (.int .i64 1)))) none none)=some (.imm nl z (es.drop 1)):=by
 have h1:boundO σ es.length es.length none=some es.length:=rfl
 have h0:boundO σ 0 es.length (some (.k (.v (.int .i64 1))))=some 1:=by
  have hk:σ.rd (.k (.v (.int .i64 1)))=some (.v (.int .i64 1)):=rfl;unfold boundO;simp only[hk];unfold upTo;rw[if_pos (by omega),if_pos (by omega)];rfl
 simp only[Ab.pop,hx,lenA,boundsA,h1,h0,if_true,List.take_length]
theorem WS.sub1{E:Nat->Option AF}{d:Dst}{os:List AOper}{σ:St}{τ:List (List A)->St}{Q:St->Prop}{x:Opd}{nl:Bool}{z:Nat}{es:List (List A)}(hx:σ.rd x=some (.imm nl z es):=by cbv;first|done|fail)(hm:1<=es.length:=by omega)(hp:∀ r,σ.putV d (.imm nl z r)=some (τ r):=by intro r;cbv;first|done|fail)
  (k:∀ r,es.drop 1=r->WS E os (τ r) Q):WS E (⟨d,.sub z x (some (.k (.v (.int .i64 1)))) none none,none⟩::os) σ Q:=WS.op 1 (ago_pop rfl (pop_sub1 hx hm)) (hp _) (k _ rfl)
theorem one_bind{c:RunK}{d:FrK}{s:RS}{x:Fr}{rc fc:List A}{deep:Int}{i:TIns}{e:List A}(hi:InsR i e)(hR:RunR c s rc)(hF:FrR d x fc)(hop:i.op=46)(hd:0<=i.var/\i.var<x.kn.length)(h1:0<=i.a->i.a<x.v.length):
  WC E 65 [.pt 0 0,.pt 1 0,.agg e,.v (.int .i64 deep)] [.cells rc,.cells fc] (OneR c d ({x with kn:=x.kn.set i.var.toNat (if 0<=i.a then⟨i.var,gi x.v i.a,false⟩else⟨i.var,0,true⟩)},s)):=by
 obtain⟨op,dst,xa,xb,var,num,args⟩:=i;obtain⟨v,w,kn⟩:=x;simp only at hop hd h1 ⊢
 subst hop;obtain⟨_,rfl,⟨na,as,nal,rfl,hal,h6,hA,hnl⟩⟩:=hi;simp only at h6 hA hnl;obtain⟨r,w',k',rfl,hv,hw,hk⟩:=hF;obtain⟨a,l,rfl,ha,hl⟩:=hR;have hvl:=hv.len
 have ha0:=ha;obtain⟨ni,ei,li,rfl,hli,h7,hin,hinl⟩:=ha;simp only at hv hw hk hl ha0 h7 hin hinl hvl;obtain⟨j,rfl,hj⟩:=intOf hd;rcases hk with⟨_,rfl⟩|⟨rk,nk,rfl,hkl,hkn,hkR⟩
 ·exact absurd hj (Nat.not_lt_zero _)
 obtain⟨ek,hek,hKk⟩:=hkR.at j hj;generalize kn[j]=kk at hKk;obtain⟨k1,k2,k3⟩:=kk;obtain rfl:ek=[.v (.int .i64 k1),.v (.int .i64 k2),.v (.bool k3)]:=hKk;have hkj:j<rk.length:=by omega
 have hnj:(Int.ofNat j).toNat=j:=rfl;rw[hnj]
 by_cases h0:0<=xa
 ·obtain⟨ja,rfl,hja,heja⟩:=gi_at hv ⟨h0,h1 h0⟩;generalize gi v (Int.ofNat ja)=va at*
  rw[if_pos h0];obtain⟨nf,fs,main,np,ps,ws,first⟩:=c;obtain⟨n,name,params,result,nv,vs,nb,bs,size,ar⟩:=d;obtain⟨inp,fuel,left,ev,over,long⟩:=s;refine WC.enter rfl rfl rfl ?_;unfold b65 ki kb vi mt mw fa ft ll iz og ov oo;simp only[RunK.cells,FrK.cells]
  repeat' (first|refine W.seq ?_|refine W.easy (k:=?_)|refine W.block ?_|(refine W.condL (h:=?_);change W _ _ _ _)|refine W.regS ?_|refine WS.done ?_|refine WS.pre (k:=?_)|(refine WS.cmp (k1:=fun h=>?_) (k2:=fun h=>?_)<;>simp only[Zq]at h<;>(try(exfalso;omega)))|refine WS.consN (k:=?_)|refine W.beginD (h:=?_)|(refine WD.done ⟨_,by cbv;first|done|fail,?_⟩;dsimp only)|refine WD.loadP (h:=?_)|refine WD.stoP (k:=fun q hq=>?_)|refine WD.pre (k:=?_)|refine WD.iaddrO (h:=?_)|fail)
  rename_i q hq;have he2:q[j]?=some [.v (.int .i64 (Int.ofNat j)),.v (.int .i64 0),.v (.bool true)]:=by rw[<-hq];exact List.getElem?_set_self hkj
  have hkj2:j<q.length:=by rw[<-hq,List.length_set];exact hkj
  repeat' (first|refine Ret.normal (k:=?_)|(refine WD.done ⟨_,by cbv;first|done|fail,?_⟩;dsimp only)|refine WD.stoP (k:=fun q hq=>?_)|refine WD.iaddrO (h:=?_)|fail)
  rename_i q2 hq2;refine⟨rfl,_,_,_,rfl,⟨_,_,rfl,ha0,hl⟩,⟨_,_,_,rfl,hv,hw,?_⟩⟩;subst hq2;subst hq;rw[List.set_set];have hfin:=hkR.set (R:=KnR) j (x:=⟨Int.ofNat j,va,false⟩) (e:=[.v (.int .i64 (Int.ofNat j)),.v (.int .i64 va),.v (.bool false)]) rfl
  exact .inr ⟨_,_,rfl,rfl,hfin.len,hfin⟩
 ·rw[if_neg h0];obtain⟨nf,fs,main,np,ps,ws,first⟩:=c;obtain⟨n,name,params,result,nv,vs,nb,bs,size,ar⟩:=d;obtain⟨inp,fuel,left,ev,over,long⟩:=s;refine WC.enter rfl rfl rfl ?_;unfold b65 ki kb vi mt mw fa ft ll iz og ov oo;simp only[RunK.cells,FrK.cells]
  repeat' (first|refine W.seq ?_|refine W.easy (k:=?_)|refine W.block ?_|refine W.skip ?_|refine Ret.normal (k:=?_)|(refine W.condL (h:=?_);change W _ _ _ _)|refine W.regS ?_|refine WS.done ?_|refine WS.pre (k:=?_)|(refine WS.cmp (k1:=fun h=>?_) (k2:=fun h=>?_)<;>simp only[Zq]at h<;>(try(exfalso;omega)))|refine WS.consN (k:=?_)|refine W.beginD (h:=?_)|(refine WD.done ⟨_,by cbv;first|done|fail,?_⟩;dsimp only)|refine WD.stoP (k:=fun q hq=>?_)|refine WD.pre (k:=?_)|refine WD.iaddrO (h:=?_)|fail)
  rename_i q hq;refine⟨rfl,_,_,_,rfl,⟨_,_,rfl,ha0,hl⟩,⟨_,_,_,rfl,hv,hw,?_⟩⟩;subst hq;have hfin:=hkR.set (R:=KnR) j (x:=⟨Int.ofNat j,0,true⟩) (e:=[.v (.int .i64 (Int.ofNat j)),.v (.int .i64 0),.v (.bool true)]) rfl
  exact .inr ⟨_,_,rfl,rfl,hfin.len,hfin⟩
theorem one_input0{c:RunK}{d:FrK}{s:RS}{x:Fr}{rc fc:List A}{deep:Int}{i:TIns}{e:List A}(hi:InsR i e)(hR:RunR c s rc)(hF:FrR d x fc)(hop:i.op=43)(hin0:s.inp=[])(hb:s.ev.length<=1000000000):
  WC E 65 [.pt 0 0,.pt 1 0,.agg e,.v (.int .i64 deep)] [.cells rc,.cells fc] (OneR c d (x,endsP 8 s)):=by
 obtain⟨op,dst,xa,xb,var,num,args⟩:=i;obtain⟨v,w,kn⟩:=x;simp only at hop ⊢
 subst hop;obtain⟨_,rfl,⟨na,as,nal,rfl,hal,h6,hA,hnl⟩⟩:=hi;simp only at h6 hA hnl;obtain⟨r,w',k',rfl,hv,hw,hk⟩:=hF;obtain⟨a,l,rfl,ha,hl⟩:=hR;have hvl:=hv.len
 have ha0:=ha;obtain⟨ni,ei,li,rfl,hli,h7,hin,hinl⟩:=ha;simp only at hv hw hk hl ha0 h7 hin hinl hvl;obtain⟨nf,fs,main,np,ps,ws,first⟩:=c;obtain⟨n,name,params,result,nv,vs,nb,bs,size,ar⟩:=d;obtain⟨inp,fuel,left,ev,over,long⟩:=s;refine WC.enter rfl rfl rfl ?_;unfold b65 ki kb vi mt mw fa ft ll iz og ov oo;simp only[RunK.cells,FrK.cells];simp only at hin0 h7 hb hl ha0;subst hin0;obtain rfl:li=0:=h7
 have hl0:=hl;rcases hl with⟨rfl,_⟩|⟨rq,nq,rfl,_⟩
 all_goals
  repeat' (first|refine W.seq ?_|refine W.easy (k:=?_)|refine W.block ?_|(refine W.condL (h:=?_);change W _ _ _ _)|refine W.regS ?_|refine WS.done ?_|refine WS.pre (k:=?_)|refine WS.len (h:=?_)|(refine WS.cmp (k1:=fun h=>?_) (k2:=fun h=>?_)<;>simp only[Zq]at h<;>(try(exfalso;omega)))|refine WS.consN (k:=?_)|fail)
  refine WS.call (hc:=(ends_ok hl0 hb)) (k:=?_);rintro _ _ ⟨rfl,l',rfl,hl'⟩;have hl2:=hl'
  rcases hl' with⟨rfl,_⟩|⟨_,_,rfl,_⟩
  all_goals
   refine⟨_,_,_,by cbv;first|done|fail,by cbv;first|done|fail,?_⟩
   repeat' (first|refine W.ret ?_|refine Ret.ret (k:=?_)|refine WS.done ?_|fail)
   exact⟨rfl,_,_,_,rfl,⟨_,_,rfl,ha0,hl2⟩,⟨_,_,_,rfl,hv,hw,hk⟩⟩
theorem one_input{c:RunK}{d:FrK}{s:RS}{x:Fr}{rc fc:List A}{deep:Int}{i:TIns}{e:List A}{m:Int}{mm:List Int}(hi:InsR i e)(hR:RunR c s rc)(hF:FrR d x fc)(hop:i.op=43)(hd:0<=i.dst/\i.dst<x.v.length)(hin0:s.inp=m::mm)(hb:s.inp.length<=1000000000):
  WC E 65 [.pt 0 0,.pt 1 0,.agg e,.v (.int .i64 deep)] [.cells rc,.cells fc] (OneR c d (x.to i.dst m,{s with inp:=mm})):=by
 obtain⟨op,dst,xa,xb,var,num,args⟩:=i;obtain⟨v,w,kn⟩:=x;simp only at hop hd ⊢
 subst hop;obtain⟨_,rfl,⟨na,as,nal,rfl,hal,h6,hA,hnl⟩⟩:=hi;simp only at h6 hA hnl;obtain⟨r,w',k',rfl,hv,hw,hk⟩:=hF;obtain⟨a,l,rfl,ha,hl⟩:=hR;have hvl:=hv.len
 have ha0:=ha;obtain⟨ni,ei,li,rfl,hli,h7,hin,hinl⟩:=ha;simp only at hv hw hk hl ha0 h7 hin hinl hvl;obtain⟨j,rfl,hj,hej⟩:=gi_at hv hd;obtain⟨nf,fs,main,np,ps,ws,first⟩:=c;obtain⟨n,name,params,result,nv,vs,nb,bs,size,ar⟩:=d;obtain⟨inp,fuel,left,ev,over,long⟩:=s;refine WC.enter rfl rfl rfl ?_;unfold b65 ki kb vi mt mw fa ft ll iz og ov oo;simp only[RunK.cells,FrK.cells]
 simp only at hin0 h7 hb hl ha0 hin hinl;subst hin0;have hlp:0<li:=by rw[h7];exact Nat.succ_pos _
 obtain⟨e0,he0,hR0⟩:=hin.at 0 (Nat.succ_pos _);obtain rfl:e0=[.v (.int .i64 m)]:=hR0
 repeat' (first|refine W.seq ?_|refine W.easy (k:=?_)|refine W.block ?_|refine W.skip ?_|(refine W.condL (h:=?_);change W _ _ _ _)|refine W.regS ?_|refine WS.done ?_|refine WS.pre (k:=?_)|refine WS.len (h:=?_)|(refine WS.cmp (k1:=fun h=>?_) (k2:=fun h=>?_)<;>simp only[Zq]at h<;>(try(exfalso;omega)))|refine WS.consN (k:=?_)|refine W.beginD (h:=?_)|(refine WD.done ⟨_,by cbv;first|done|fail,?_⟩;dsimp only)|refine WD.stoP (k:=fun q hq=>?_)|refine WD.pre (k:=?_)|refine WD.iaddrO (h:=?_)|refine WD.iaddr (h:=?_)|fail)
 refine WS.sub1 (k:=fun r1 hr1=>?_)
 repeat' (first|refine Ret.normal (k:=?_)|refine WS.done ?_|refine WS.pre (k:=?_)|refine WS.consN (k:=?_)|fail)
 refine⟨rfl,_,_,_,rfl,⟨_,_,rfl,?_,hl⟩,to_R hv hw hk (by assumption)⟩;subst hr1;cases hin with
 |cons _ hR2=>exact⟨ni,_,mm.length,rfl,by rw[List.drop_one];exact hR2.len,rfl,hR2,fun h=>by have:=hinl h;cases this⟩
end Go.Ab.Ytkmmpbmmmbebgaa
