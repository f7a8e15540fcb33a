/- What single instructions and ends look at and make. The ways into each block. To which blocks a way leads. Which block stands over which. Where a virtual is made, and whether it is there. -/
import Derived.Test.YtkmmpbmmmbebgaaAbE
import Derived.Test.YtkmmpbmmmbebgaaM4
set_option linter.all false
namespace Go.Ab.Ytkmmpbmmmbebgaa
set_option maxRecDepth 100000
set_option maxHeartbeats 4000000
def nextF(t:TTerm):List Int:=if t.kind=1 then[t.to]else if t.kind=2 then[t.to,t.els]else[]
def makesF(x:TIns):Int:=if x.op=35\/x.op=38\/x.op=40\/x.op=41\/x.op=44\/x.op=45\/x.op=46 then-1 else x.dst
def usesF(x:TIns):List Int:=
 if x.op=14\/x.op=15\/x.op=36\/x.op=35\/x.op=37\/x.op=40\/x.op=44 then[x.a]
 else if x.op=38 then[x.a,x.b]
 else if x.op=42\/x.op=47 then x.args
 else if x.op=46 then(if 0<=x.a then[x.a]else[])
 else if 1<=x.op/\x.op<=13 then[x.a,x.b]else[]
def TermA(t:TTerm):A:=.agg [.v (.int .u8 t.kind),.v (.int .i64 t.a),.v (.int .i64 t.to),.v (.int .i64 t.els)]
theorem intR1(a:Int):RowR IntR [a] [[.v (.int .i64 a)]]:=.cons rfl .nil
theorem intR2(a b:Int):RowR IntR [a,b] [[.v (.int .i64 a)],[.v (.int .i64 b)]]:=.cons rfl (.cons rfl .nil)
theorem slA_own{α:Type}{z:Nat}{R:α->List A->Prop}{l:List α}{es:List (List A)}(h:RowR R l es):SlA z R l (.imm false z es):=⟨false,es,es.length,rfl,rfl,h.len,h,fun h=>by cases h⟩
theorem slA_nil{α:Type}{z:Nat}{R:α->List A->Prop}:SlA z R [] (.imm true z []):=⟨true,[],0,rfl,rfl,rfl,.nil,fun _=>rfl⟩
theorem next_ok(t:TTerm):WC E 46 [TermA t] [] fun r _=>SlA 1 IntR (nextF t) r:=by
 obtain⟨kind,a,to,els⟩:=t;refine WC.enter rfl rfl rfl ?_;unfold b46 TermA
 repeat' (first|refine W.seq ?_|refine W.easy (k:=?_)|refine W.block ?_|refine W.skip ?_|refine W.ret ?_|refine W.frz (k:=?_)|refine Ret.ret (k:=?_)|(refine W.condL (h:=?_);change W _ _ _ _)|refine W.regS ?_|refine WS.done ?_|(refine WS.cmp (k1:=fun h=>?_) (k2:=fun h=>?_)<;>simp only[Zq]at h<;>(try(exfalso;omega)))|refine WS.consN (k:=?_)|fail)
 ·simp only[nextF, *,if_true];exact slA_own (intR1 _)
 ·simp only[nextF, *,if_true,if_false];exact slA_own (intR2 _ _)
 ·simp only[nextF, *,if_false];exact slA_nil
theorem makes_ok{x:TIns}{e:List A}(h:InsR x e):WC E 18 [.agg e] [] fun r _=>r= .v (.int .i64 (makesF x)):=by
 obtain⟨op,dst,a,b,var,num,args⟩:=x;obtain⟨_,rfl,⟨nl,es,n,rfl,hn,hl,hI,_⟩⟩:=h;refine WC.enter rfl rfl rfl ?_;unfold b18 ki mw ft ll ov oo
 repeat' (first|refine W.seq ?_|refine W.easy (k:=?_)|refine W.block ?_|refine W.skip ?_|refine W.ret ?_|refine Ret.ret (k:=?_)|(refine W.condL (h:=?_);change W _ _ _ _)|refine W.regS ?_|refine WS.done ?_|(refine WS.cmp (k1:=fun h=>?_) (k2:=fun h=>?_)<;>simp only[Zq]at h<;>(try(exfalso;omega)))|refine WS.consN (k:=?_)|fail)
 all_goals simp[tupA,makesF, *]
theorem uses_ok{x:TIns}{e:List A}(h:InsR x e)(hn:x.args.length<=4294967296):WC E 36 [.agg e] [] fun r _=>SlA 1 IntR (usesF x) r:=by
 obtain⟨op,dst,a,b,var,num,args⟩:=x;obtain⟨_,rfl,⟨nl,es,n,rfl,hes,hl,hI,_⟩⟩:=h;simp only at hl hI hn;have hfl:=intR_flat hI
 refine WC.enter rfl rfl rfl ?_;unfold b36 ki kb vi mw ft ll og ov oo
 repeat' (first|refine W.seq ?_|refine W.easy (k:=?_)|refine W.block ?_|refine W.skip ?_|refine W.ret ?_|refine W.frz (k:=?_)|refine Ret.ret (k:=?_)|(refine W.condL (h:=?_);change W _ _ _ _)|refine W.regS ?_|refine WS.done ?_|refine WS.setApp (h:=fun r hr=>?_)|refine WS.pre (k:=?_)|(refine WS.guard (h:=?_);change WS _ _ _ _)|(refine WS.cmp (k1:=fun h=>?_) (k2:=fun h=>?_)<;>simp only[Zq]at h<;>(try(exfalso;omega)))|refine WS.app (hn:=(news_imm (by assumption))) (h:=?_)|refine WS.consN (k:=?_)|fail)
 all_goals first
  |(simp[usesF, *,tupA,slA_nil];done)
  |(simp[usesF, *,tupA];exact slA_own (intR1 _))
  |(simp[usesF, *,tupA];exact slA_own (intR2 _ _))
  |(subst hr;simp[usesF, *,tupA];exact slA_own ‹_›)
/-- Does it make a virtual? -/
def makesB(x:TIns):Prop:=¬ (x.op=35\/x.op=38\/x.op=40\/x.op=41\/x.op=44\/x.op=45\/x.op=46)
theorem makesB_ok{x:TIns}{e:List A}(h:InsR x e):WC E 49 [.agg e] [] fun r _=>IsB (makesB x) r:=by
 obtain⟨op,dst,a,b,var,num,args⟩:=x;obtain⟨_,rfl,⟨nl,es,n,rfl,hn,hl,hI,_⟩⟩:=h;refine WC.enter rfl rfl rfl ?_;unfold b49 kb mw ft ov oo
 repeat' (first|refine W.seq ?_|refine W.easy (k:=?_)|refine W.block ?_|refine W.skip ?_|refine W.ret ?_|refine Ret.ret (k:=?_)|(refine W.condL (h:=?_);change W _ _ _ _)|refine W.regS ?_|refine WS.done ?_|(refine WS.cmp (k1:=fun h=>?_) (k2:=fun h=>?_)<;>simp only[Zq]at h<;>(try(exfalso;omega)))|refine WS.consN (k:=?_)|fail)
 all_goals first
  |(refine .inl ⟨rfl,?_⟩;simp[makesB, *];done)
  |(refine .inr ⟨rfl,?_⟩;simp[makesB, *];done)
def TypeA(t:TType):A:=.agg [.v (.int .u8 t.kind),.v (.int .i64 t.n),.v (.string t.name)]
def scalarT(t:TType):Prop:=t.kind=1\/t.kind=2
theorem scalarT_ok(t:TType):WC E 66 [TypeA t] [] fun r _=>IsB (scalarT t) r:=by
 obtain⟨kind,n,name⟩:=t;refine WC.enter rfl rfl rfl ?_;unfold b66 TypeA
 repeat' (first|refine W.seq ?_|refine W.easy (k:=?_)|refine W.ret ?_|refine Ret.ret (k:=?_)|refine W.regS ?_|refine WS.done ?_|refine WS.pre (k:=?_)|(refine WS.guard (h:=?_);change WS _ _ _ _)|(refine WS.cmp (k1:=fun h=>?_) (k2:=fun h=>?_)<;>simp only[Zq]at h<;>(try(exfalso;omega)))|refine WS.consN (k:=?_)|fail)
 all_goals first
  |(refine .inl ⟨rfl,?_⟩;simp[scalarT, *];done)
  |(refine .inr ⟨rfl,?_⟩;simp[scalarT, *];done)
/-- Is a number a variable's that is so? -/
def varP(p:TVar->Prop)(f:TFunc)(k:Int):Prop:=0<=k/\ ∃v,f.vars[k.toNat]?=some v/\p v
def scalarP(v:TVar):Prop:=scalarT v.type/\v.words=1
def arrayP(v:TVar):Prop:=v.type.kind=3/\1<=v.words/\v.words<=16
def fieldsP(v:TVar):Prop:=v.type.kind=4/\1<=v.words/\v.words<=16
theorem intOf{k:Int}{n:Nat}(h:0<=k/\k<n):∃ j:Nat,k=Int.ofNat j/\j<n:=⟨k.toNat,by simp only[Int.ofNat_eq_natCast];omega,by omega⟩
theorem varP_of{p:TVar->Prop}{f:TFunc}{j:Nat}(hj:j<f.vars.length):varP p f (Int.ofNat j)↔p f.vars[j]:=by
 unfold varP;have e:(Int.ofNat j).toNat=j:=rfl
 rw[e,Gg hj];constructor
 ·rintro⟨_,v,hv,hp⟩;cases hv;exact hp
 ·exact fun hp=>⟨Int.natCast_nonneg j,_,rfl,hp⟩
theorem varP_not{p:TVar->Prop}{f:TFunc}{k:Int}(hk:¬ (0<=k/\k<f.vars.length)):¬ varP p f k:=by
 rintro⟨h,v,hv,_⟩;have:=(Ge hv).1
 exact hk ⟨h,by omega⟩
theorem IsB.iff{p q:Prop}{x:A}(h:IsB p x)(k:p↔q):IsB q x:=by
 rcases h with⟨h,hp⟩|⟨h,hp⟩
 ·exact .inl ⟨h,k.1 hp⟩
 ·exact .inr ⟨h,fun hq=>hp (k.2 hq)⟩
theorem scalar_ok{f:TFunc}{e:List A}(h:FuncR f e)(k:Int):WC E 60 [.agg e,.v (.int .i64 k)] [] fun r _=>IsB (varP scalarP f k) r:=by
 obtain⟨name,params,result,vars,blocks,size⟩:=f;obtain⟨_,_,rfl,⟨nv,vs,nvl,rfl,hvl,h3,hv,_⟩,⟨nb,bs,nbl,rfl,hbl,h4,hb,_⟩⟩:=h;simp only at h3 h4 hv hb
 by_cases hk:0<=k/\k<nvl
 ·obtain⟨j,rfl,hj⟩:=intOf hk;have hjv:j<vars.length:=by omega
  obtain⟨e,he,hR⟩:=hv.at j hjv;refine WC.mono (Q:=fun r _=>IsB (scalarP vars[j]) r) ?_ fun r _ hr=>IsB.iff hr (varP_of (f:=⟨name,params,result,vars,blocks,size⟩) hjv).symm;generalize vars[j]=v at hR;obtain⟨vn,⟨tk,tn,tnm⟩,words,fields⟩:=v;obtain⟨_,rfl,⟨nf,fs,nfl,rfl,hfl,h5,hf,_⟩⟩:=hR;refine WC.enter rfl rfl rfl ?_;unfold b60 ki kb mt mw og ov oo
  repeat' (first|refine W.seq ?_|refine W.easy (k:=?_)|refine W.regS ?_|refine WS.pre (k:=?_)|(refine WS.guard (h:=?_);change WS _ _ _ _)|refine WS.len (h:=?_)|refine WS.iaddr (h:=?_)|(refine WS.cmp (k1:=fun h=>?_) (k2:=fun h=>?_)<;>simp only[Zq]at h<;>(try(exfalso;omega)))|fail)
  refine WS.call (hc:=(scalarT_ok ⟨tk,tn,tnm⟩)) (k:=?_);rintro r _ (⟨rfl,hs⟩|⟨rfl,hs⟩)
  ·
   refine⟨_,_,_,by cbv;first|done|fail,by cbv;first|done|fail,?_⟩
   repeat' (first|refine W.ret ?_|refine Ret.ret (k:=?_)|refine WS.done ?_|refine WS.pre (k:=?_)|(refine WS.guard (h:=?_);change WS _ _ _ _)|refine WS.iaddr (h:=?_)|(refine WS.cmp (k1:=fun h=>?_) (k2:=fun h=>?_)<;>simp only[Zq]at h<;>(try(exfalso;omega)))|refine WS.consN (k:=?_)|fail)
   ·exact .inl ⟨rfl,hs,h⟩
   ·exact .inr ⟨rfl,fun hh=>h hh.2⟩
  ·
   refine⟨_,_,_,by cbv;first|done|fail,by cbv;first|done|fail,?_⟩
   repeat' (first|refine W.ret ?_|refine Ret.ret (k:=?_)|refine WS.done ?_|refine WS.pre (k:=?_)|(refine WS.guard (h:=?_);change WS _ _ _ _)|refine WS.consN (k:=?_)|fail)
   exact .inr ⟨rfl,fun hh=>hs hh.1⟩
 ·refine WC.mono (Q:=fun r _=>IsB False r) ?_ fun r _ hr=>IsB.iff hr (iff_of_false (fun h=>h) (varP_not (by simp only;rw[<-h3];exact hk)));refine WC.enter rfl rfl rfl ?_;unfold b60 ki kb mt mw og ov oo
  repeat' (first|refine W.seq ?_|refine W.easy (k:=?_)|refine W.ret ?_|refine Ret.ret (k:=?_)|refine W.regS ?_|refine WS.done ?_|refine WS.pre (k:=?_)|(refine WS.guard (h:=?_);change WS _ _ _ _)|refine WS.len (h:=?_)|(refine WS.cmp (k1:=fun h=>?_) (k2:=fun h=>?_)<;>simp only[Zq]at h<;>(try(exfalso;omega)))|refine WS.consN (k:=?_)|fail)
  all_goals exact .inr ⟨rfl,fun h=>h⟩
theorem array_ok{f:TFunc}{e:List A}(h:FuncR f e)(k:Int):WC E 61 [.agg e,.v (.int .i64 k)] [] fun r _=>IsB (varP arrayP f k) r:=by
 obtain⟨name,params,result,vars,blocks,size⟩:=f;obtain⟨_,_,rfl,⟨nv,vs,nvl,rfl,hvl,h3,hv,_⟩,⟨nb,bs,nbl,rfl,hbl,h4,hb,_⟩⟩:=h;simp only at h3 h4 hv hb
 by_cases hk:0<=k/\k<nvl
 ·obtain⟨j,rfl,hj⟩:=intOf hk;have hjv:j<vars.length:=by omega
  obtain⟨e,he,hR⟩:=hv.at j hjv;refine WC.mono (Q:=fun r _=>IsB (arrayP vars[j]) r) ?_ fun r _ hr=>IsB.iff hr (varP_of (f:=⟨name,params,result,vars,blocks,size⟩) hjv).symm;generalize vars[j]=v at hR;obtain⟨vn,⟨tk,tn,tnm⟩,words,fields⟩:=v;obtain⟨_,rfl,⟨nf,fs,nfl,rfl,hfl,h5,hf,_⟩⟩:=hR;refine WC.enter rfl rfl rfl ?_;unfold b61 ki kb mt mw og ov oo
  repeat' (first|refine W.seq ?_|refine W.easy (k:=?_)|refine W.ret ?_|refine Ret.ret (k:=?_)|refine W.regS ?_|refine WS.done ?_|refine WS.pre (k:=?_)|(refine WS.guard (h:=?_);change WS _ _ _ _)|refine WS.len (h:=?_)|refine WS.iaddr (h:=?_)|(refine WS.cmp (k1:=fun h=>?_) (k2:=fun h=>?_)<;>simp only[Zq]at h<;>(try(exfalso;omega)))|refine WS.consN (k:=?_)|fail)
  all_goals first
   |(refine .inl ⟨rfl,?_⟩;simp[arrayP, *];done)
   |(refine .inr ⟨rfl,?_⟩;simp[arrayP, *];done)
 ·refine WC.mono (Q:=fun r _=>IsB False r) ?_ fun r _ hr=>IsB.iff hr (iff_of_false (fun h=>h) (varP_not (by simp only;rw[<-h3];exact hk)));refine WC.enter rfl rfl rfl ?_;unfold b61 ki kb mt mw og ov oo
  repeat' (first|refine W.seq ?_|refine W.easy (k:=?_)|refine W.ret ?_|refine Ret.ret (k:=?_)|refine W.regS ?_|refine WS.done ?_|refine WS.pre (k:=?_)|(refine WS.guard (h:=?_);change WS _ _ _ _)|refine WS.len (h:=?_)|(refine WS.cmp (k1:=fun h=>?_) (k2:=fun h=>?_)<;>simp only[Zq]at h<;>(try(exfalso;omega)))|refine WS.consN (k:=?_)|fail)
  all_goals exact .inr ⟨rfl,fun h=>h⟩
theorem fields_ok{f:TFunc}{e:List A}(h:FuncR f e)(k:Int):WC E 62 [.agg e,.v (.int .i64 k)] [] fun r _=>IsB (varP fieldsP f k) r:=by
 obtain⟨name,params,result,vars,blocks,size⟩:=f;obtain⟨_,_,rfl,⟨nv,vs,nvl,rfl,hvl,h3,hv,_⟩,⟨nb,bs,nbl,rfl,hbl,h4,hb,_⟩⟩:=h;simp only at h3 h4 hv hb
 by_cases hk:0<=k/\k<nvl
 ·obtain⟨j,rfl,hj⟩:=intOf hk;have hjv:j<vars.length:=by omega
  obtain⟨e,he,hR⟩:=hv.at j hjv;refine WC.mono (Q:=fun r _=>IsB (fieldsP vars[j]) r) ?_ fun r _ hr=>IsB.iff hr (varP_of (f:=⟨name,params,result,vars,blocks,size⟩) hjv).symm;generalize vars[j]=v at hR;obtain⟨vn,⟨tk,tn,tnm⟩,words,fields⟩:=v;obtain⟨_,rfl,⟨nf,fs,nfl,rfl,hfl,h5,hf,_⟩⟩:=hR;refine WC.enter rfl rfl rfl ?_;unfold b62 ki kb mt mw og ov oo
  repeat' (first|refine W.seq ?_|refine W.easy (k:=?_)|refine W.ret ?_|refine Ret.ret (k:=?_)|refine W.regS ?_|refine WS.done ?_|refine WS.pre (k:=?_)|(refine WS.guard (h:=?_);change WS _ _ _ _)|refine WS.len (h:=?_)|refine WS.iaddr (h:=?_)|(refine WS.cmp (k1:=fun h=>?_) (k2:=fun h=>?_)<;>simp only[Zq]at h<;>(try(exfalso;omega)))|refine WS.consN (k:=?_)|fail)
  all_goals first
   |(refine .inl ⟨rfl,?_⟩;simp[fieldsP, *];done)
   |(refine .inr ⟨rfl,?_⟩;simp[fieldsP, *];done)
 ·refine WC.mono (Q:=fun r _=>IsB False r) ?_ fun r _ hr=>IsB.iff hr (iff_of_false (fun h=>h) (varP_not (by simp only;rw[<-h3];exact hk)));refine WC.enter rfl rfl rfl ?_;unfold b62 ki kb mt mw og ov oo
  repeat' (first|refine W.seq ?_|refine W.easy (k:=?_)|refine W.ret ?_|refine Ret.ret (k:=?_)|refine W.regS ?_|refine WS.done ?_|refine WS.pre (k:=?_)|(refine WS.guard (h:=?_);change WS _ _ _ _)|refine WS.len (h:=?_)|(refine WS.cmp (k1:=fun h=>?_) (k2:=fun h=>?_)<;>simp only[Zq]at h<;>(try(exfalso;omega)))|refine WS.consN (k:=?_)|fail)
  all_goals exact .inr ⟨rfl,fun h=>h⟩
/-- An element that is a row of numbers, or nil. -/
def CellR(l:List Int)(e:List A):Prop:=(e=[.nil]/\l=[])\/ ∃es,e=[.own 1 es]/\RowR IntR l es
/-- Block i goes to each of l. -/
def addWays(i:Int):List Int->List (List Int)->List (List Int)
 |[],w=>w
 |d::l,w=>addWays i l (w.set d.toNat (w.getD d.toNat []++[i]))
def waysTo:List TBlock->Nat->List (List Int)->List (List Int)
 |[],_,w=>w
 |b::bs,i,w=>waysTo bs (i+1) (addWays i (nextF b.term) w)
def waysF(f:TFunc):List (List Int):=waysTo f.blocks 0 (List.replicate f.blocks.length [])
/-- All ends go to blocks. -/
def EndsOK(f:TFunc):Prop:=∀ b,b∈f.blocks-> ∀d,d∈nextF b.term->0<=d/\d<f.blocks.length
theorem addWays_len(i:Int):∀ l w,(addWays i l w).length=w.length
 |[],w=>rfl
 |d::l,w=>by rw[addWays,addWays_len i l,List.length_set]
theorem addWays_snoc(i:Int):∀ l d w,addWays i (l++[d]) w=(addWays i l w).set d.toNat ((addWays i l w).getD d.toNat []++[i])
 |[],d,w=>rfl
 |c::l,d,w=>by rw[List.cons_append,addWays,addWays_snoc i l d,addWays]
/-- No row is longer than so many. -/
def Short(n:Nat)(w:List (List Int)):Prop:=∀ l,l∈w->l.length<=n
theorem next_len(t:TTerm):(nextF t).length<=2:=by
 unfold nextF;split
 ·simp
 ·split<;>simp
theorem ways_ok{f:TFunc}{e:List A}(h:FuncR f e)(hn:f.blocks.length<=100000)(hE:EndsOK f):WC E 47 [.agg e] [] fun r _=>SlA 1 CellR (waysF f) r:=by
 obtain⟨name,params,result,vars,blocks,size⟩:=f;obtain⟨_,_,rfl,⟨nv,vs,nvl,rfl,hvl,h3,hv,_⟩,⟨nb,bs,nbl,rfl,hbl,h4,hb,_⟩⟩:=h;simp only[waysF]at h3 h4 hv hb hn ⊢
 refine WC.enter rfl rfl rfl ?_;unfold b47 ki mt mw ft ll ov oo
 repeat' (first|refine W.seq ?_|refine W.easy (k:=?_)|refine W.block ?_|refine W.regS ?_|refine WS.done ?_|refine WS.pre (k:=?_)|refine WS.len (h:=?_)|refine WS.mk' (k:=fun r hr=>?_)|refine WS.consN (k:=?_)|fail)
 have hr0:RowR CellR (List.replicate blocks.length []) r:=by
  subst hr;have e:(Int.ofNat nbl).toNat=blocks.length:=h4
  rw[e];exact RowR.replicate (.inl ⟨rfl,rfl⟩) _
 refine W.forS nbl (fun i (r:List (List A)) σ=>sn 3 i (sv 8 (.own 1 r) σ)) (fun i r=> ∃w,RowR CellR w r/\w.length=blocks.length/\(∀l,l∈w->l.length<=2*i)/\waysTo (blocks.drop i) i w=waysTo blocks 0 (List.replicate blocks.length [])) 0 (Nat.zero_le _) ?_ ?_
 ·exact⟨_,by cbv,_,hr0,by simp,fun l hl=>by rw[(List.mem_replicate.1 hl).2];simp,rfl⟩
 rintro i r hi ⟨w,hw,hwl,hws,hwt⟩;refine W.norm (k:=?_);unfold l47_1 ki mt mw fa ft ll lg iz ov oo
 by_cases hin:i<nbl
 ·have hib:i<blocks.length:=by omega
  obtain⟨e,he,hR⟩:=hb.at i hib;have hmem:=Gm hib
  have hdrop:=List.drop_eq_getElem_cons hib;have hEb:=hE _ hmem
  generalize blocks[i]=b at hR hdrop hEb;obtain⟨ins,⟨kind,a,to,els⟩⟩:=b;obtain⟨_,rfl,⟨ni,is,nil,rfl,hil,h5,hI,_⟩⟩:=hR;simp only at hEb;rw[hdrop,waysTo]at hwt;simp only at hwt
  repeat' (first|refine W.seq ?_|refine W.block ?_|refine W.skip ?_|(refine W.condL (h:=?_);change W _ _ _ _)|refine W.regS ?_|refine WS.done ?_|refine WS.pre (k:=?_)|refine WS.len (h:=?_)|refine WS.iaddr (h:=?_)|(refine WS.cmp (k1:=fun h=>?_) (k2:=fun h=>?_)<;>simp only[Zq]at h<;>(try(exfalso;omega)))|fail)
  refine WS.call (hc:=(next_ok ⟨kind,a,to,els⟩)) (k:=?_);rintro l _ ⟨nl,ls,m,rfl,hm,hml,hL,_⟩;have hl2:=next_len ⟨kind,a,to,els⟩
  generalize nextF ⟨kind,a,to,els⟩=nx at*
  refine⟨_,_,_,by cbv;first|done|fail,by cbv;first|done|fail,?_⟩
  repeat' (first|refine W.seq ?_|refine W.easy (k:=?_)|refine W.block ?_|refine W.frz (k:=?_)|refine WS.done ?_|refine WS.consN (k:=?_)|fail)
  refine W.forS m (fun k (r:List (List A)) σ=>sn 5 k (sv 8 (.own 1 r) σ)) (fun k r=> ∃w',RowR CellR w' r/\w'.length=blocks.length/\w'=addWays i (nx.take k) w/\(∀l,l∈w'->l.length<=2*i+k)) 0 (Nat.zero_le _) ?_ ?_
  ·exact⟨_,by cbv,_,hw,hwl,rfl,fun l hl=>hws l hl⟩
  rintro k r hk ⟨w',hw',hwl',rfl,hws'⟩;refine W.norm (k:=?_);unfold l47_0 ki vi mt mw ll iz ov oo
  by_cases hkm:k<m
  ·have hkn:k<nx.length:=by omega
   obtain⟨ek,hek,rfl⟩:=hL.at k hkn;have htk:=List.take_succ_eq_append_getElem hkn
   have hd:=hEb _ (Gm hkn);generalize nx[k]=d at*
   obtain⟨j,rfl,hj⟩:=intOf hd;have hjw:j<(addWays i (nx.take k) w).length:=by omega
   have hrl:=hw'.len;obtain⟨ej,hej,hC⟩:=hw'.at j hjw;have hgd:(addWays i (nx.take k) w).getD j []=(addWays i (nx.take k) w)[j]:=by rw[List.getD_eq_getElem?_getD,Gg hjw];rfl
   have hlen:=hws' _ (Gm hjw)
   have hset:∀ q,RowR IntR ((addWays i (nx.take k) w)[j]++[(i:Int)]) q-> ∃w',RowR CellR w' (r.set j [.own 1 q])/\w'.length=blocks.length/\w'=addWays i (nx.take (k+1)) w/\(∀l,l∈w'->l.length<=2*i+(k+1)):=by
    intro q hq;refine⟨_,hw'.set j (.inr ⟨q,rfl,hq⟩),by simp[hwl'],?_,?_⟩
    ·rw[htk,addWays_snoc];show _=(addWays i (nx.take k) w).set j ((addWays i (nx.take k) w).getD j []++[(i:Int)])
     rw[hgd]
    ·intro l hl;rcases List.mem_or_eq_of_mem_set hl with h|rfl
     ·have:=hws' l h;omega
     ·simp;omega
   rcases hC with⟨rfl,hnil⟩|⟨old,rfl,hold⟩
   ·
    repeat' (first|refine W.seq ?_|refine W.block ?_|refine W.skip ?_|(refine W.condL (h:=?_);change W _ _ _ _)|refine W.regS ?_|refine WS.done ?_|refine WS.pre (k:=?_)|refine WS.len (h:=?_)|(refine WS.cmp (k1:=fun h=>?_) (k2:=fun h=>?_)<;>simp only[Zq]at h<;>(try(exfalso;omega)))|refine WS.inc (h:=?_)|refine WS.consN (k:=?_)|refine W.beginD (h:=?_)|(refine WD.done ⟨_,by cbv;first|done|fail,?_⟩;dsimp only)|refine WD.loadP (h:=?_)|refine WD.stoP (k:=fun q hq=>?_)|refine WD.pre (k:=?_)|refine WD.iaddrO (h:=?_)|refine WD.iaddr (h:=?_)|refine WD.oneN (k:=?_)|fail)
    exact⟨by omega,_,by cbv,by rw[<-hq];exact hset _ (by rw[hnil];exact intR1 _)⟩
   ·have hol:=hold.len
    repeat' (first|refine W.seq ?_|refine W.block ?_|refine W.skip ?_|(refine W.condL (h:=?_);change W _ _ _ _)|refine W.regS ?_|refine WS.done ?_|refine WS.pre (k:=?_)|refine WS.len (h:=?_)|(refine WS.cmp (k1:=fun h=>?_) (k2:=fun h=>?_)<;>simp only[Zq]at h<;>(try(exfalso;omega)))|refine WS.inc (h:=?_)|refine WS.consN (k:=?_)|refine W.beginD (h:=?_)|(refine WD.done ⟨_,by cbv;first|done|fail,?_⟩;dsimp only)|refine WD.loadP (h:=?_)|refine WD.stoN (k:=fun q hq=>?_)|refine WD.pre (k:=?_)|refine WD.iaddrO (h:=?_)|refine WD.iaddr (h:=?_)|refine WD.appN (k:=?_)|fail)
    exact⟨by omega,_,by cbv,by rw[<-hq];exact hset _ (hold.append (intR1 _))⟩
  ·
   repeat' (first|refine W.seq ?_|refine W.exit ?_|(refine W.condL (h:=?_);change W _ _ _ _)|refine W.regS ?_|refine WS.done ?_|refine WS.pre (k:=?_)|refine WS.len (h:=?_)|(refine WS.cmp (k1:=fun h=>?_) (k2:=fun h=>?_)<;>simp only[Zq]at h<;>(try(exfalso;omega)))|refine WS.inc (h:=?_)|refine WS.consN (k:=?_)|fail)
   have hkm':k=m:=by omega
   subst hkm';rw[List.take_of_length_le (by omega)]at hw' hwl' hws';exact⟨by omega,_,by cbv,_,hw',hwl',fun l hl=>by have:=hws' l hl;omega,hwt⟩
 ·
  repeat' (first|refine W.seq ?_|refine W.easy (k:=?_)|refine W.ret ?_|refine W.exit ?_|refine W.frz (k:=?_)|refine Ret.ret (k:=?_)|(refine W.condL (h:=?_);change W _ _ _ _)|refine W.regS ?_|refine WS.done ?_|refine WS.pre (k:=?_)|refine WS.len (h:=?_)|(refine WS.cmp (k1:=fun h=>?_) (k2:=fun h=>?_)<;>simp only[Zq]at h<;>(try(exfalso;omega)))|fail)
  rw[List.drop_of_length_le (by omega),waysTo]at hwt;rw[<-hwt];exact slA_own hw
def BRow(b:Bool)(e:List A):Prop:=e=[.v (.bool b)]
/-- Where a block's end goes. -/
def nextAt(f:TFunc)(a:Nat):List Int:=match f.blocks[a]? with|some b=>nextF b.term|none=>[]
/-- A way from the first block, not by block x. -/
inductive Way(f:TFunc)(x:Int):Int->Prop
 |start:x≠0->Way f x 0
 |step {a:Nat} {d:Int}:Way f x a->d∈nextAt f a->d≠x->Way f x d
theorem way_ne{f:TFunc}{x d:Int}(h:Way f x d):d≠x:=by
 cases h with
 |start h0=>exact fun e=>h0 e.symm
 |step _ _ h=>exact h
/-- What holds while blocks are marked. -/
structure Marks(f:TFunc)(x:Int)(out:List Bool)(l:List Int)(i:Nat):Prop where
 n:out.length=f.blocks.length
 z:(0:Int)∈l
 r:∀ d,d∈l->0<=d/\d<f.blocks.length
 w:∀ d,d∈l->d≠x->Way f x d
 o:∀ a:Nat,out[a]?=some true->Way f x a/\(a:Int)≠x
 s:∀ a:Nat,out[a]?=some true-> ∀d,d∈nextAt f a->d∈l
 d:∀ k:Nat,k<i-> ∀d,l[k]?=some d->d=x\/out[d.toNat]?=some true
 c:l.length+2*(out.filter (! ·)).length<=1+2*f.blocks.length
def marksM(p:List Bool×List Int×Nat):Nat:=3*(p.1.filter (! ·)).length+(p.2.1.length-p.2.2)
theorem nextAt_range{f:TFunc}(hE:EndsOK f){a:Nat}{d:Int}(h:d∈nextAt f a):0<=d/\d<f.blocks.length:=by
 unfold nextAt at h;split at h
 ·rename_i b hb;exact hE b (Mg hb) d h
 ·cases h
theorem way_range{f:TFunc}(hE:EndsOK f)(hn:0<f.blocks.length){x d:Int}(h:Way f x d):0<=d/\d<f.blocks.length:=by
 cases h with
 |start=>omega
 |step _ h _=>exact nextAt_range hE h
theorem filter_set_true:∀ (l:List Bool) (a:Nat),l[a]?=some false->((l.set a true).filter (! ·)).length+1=(l.filter (! ·)).length
 |[],a,h=>by simp at h
 |b::l,0,h=>by simp at h;subst h;simp
 | b::l,a+1,h=>by
   have:=filter_set_true l a (by simpa using h);cases b<;>simp[List.set_cons_succ]at this ⊢ <;>omega
theorem Marks.start{f:TFunc}{x:Int}(hn:0<f.blocks.length):Marks f x (List.replicate f.blocks.length false) [0] 0:=by
 refine⟨by simp,by simp,fun d hd=>by simp at hd;omega,fun d hd hx=>?_,fun a h=>?_,fun a h=>?_,fun k hk=>by omega,?_⟩
 ·simp at hd;subst hd;exact .start (fun e=>hx e.symm)
 ·rw[List.getElem?_replicate]at h;split at h<;>simp at h
 ·rw[List.getElem?_replicate]at h;split at h<;>simp at h
 ·simp[Nat.add_comm]
/-- A block is passed by. -/
theorem Marks.skip{f:TFunc}{x:Int}{out:List Bool}{l:List Int}{i:Nat}(h:Marks f x out l i){j:Nat}(hl:l[i]?=some (j:Int))(hd:(j:Int)=x\/out[j]?=some true):Marks f x out l (i+1):=
 ⟨h.n,h.z,h.r,h.w,h.o,h.s,fun k hk d hdk => by
   by_cases e:k=i
   ·subst e
    rw[hl]at hdk
    cases hdk
    exact hd
   ·exact h.d k (by omega) d hdk,h.c⟩
/-- A block is marked. -/
theorem Marks.mark{f:TFunc}{x:Int}{out:List Bool}{l:List Int}{i:Nat}(h:Marks f x out l i){j:Nat}(hl:l[i]?=some (j:Int))(hx:(j:Int)≠x)(ho:out[j]?=some false)(hE:EndsOK f):
  Marks f x (out.set j true) (l++nextAt f j) (i+1):=by
 have hjl:j<out.length:=(Ge ho).1;have hw:=h.w j (Mg hl) hx
 have hnl:(nextAt f j).length<=2:=by
  unfold nextAt;split
  ·exact next_len _
  ·simp
 have get:∀ a:Nat,(out.set j true)[a]?=some true->a=j\/out[a]?=some true:=by
  intro a ha;rw[List.getElem?_set]at ha;split at ha
  ·rename_i e;exact .inl e.symm
  ·exact .inr ha
 refine⟨by simp[h.n],by simp[h.z],fun d hd=>?_,fun d hd hdx=>?_,fun a ha=>?_,fun a ha d hd=>?_,fun k hk d hd=>?_,?_⟩
 ·rcases List.mem_append.1 hd with hd|hd
  ·exact h.r d hd
  ·exact nextAt_range hE hd
 ·rcases List.mem_append.1 hd with hd|hd
  ·exact h.w d hd hdx
  ·exact .step hw hd hdx
 ·rcases get a ha with rfl|ha
  ·exact⟨hw,hx⟩
  ·exact h.o a ha
 ·rcases get a ha with rfl|ha
  ·exact List.mem_append_right _ hd
  ·exact List.mem_append_left _ (h.s a ha d hd)
 ·have hil:i<l.length:=(Ge hl).1;rw[List.getElem?_append_left (by omega)]at hd
  by_cases e:k=i
  ·subst e;rw[hl]at hd;cases hd;right;show(out.set j true)[j]?=some true
   rw[List.getElem?_set_self hjl]
  ·rcases h.d k (by omega) d hd with h1|h1
   ·exact .inl h1
   ·right;rw[List.getElem?_set];split
    ·rfl
    ·exact h1
 ·have:=filter_set_true out j ho;have:=h.c
  simp;omega
/-- At the end the blocks are marked to which a way leads. -/
theorem Marks.done{f:TFunc}{x:Int}{out:List Bool}{l:List Int}{i:Nat}(h:Marks f x out l i)(hi:l.length<=i)(a:Nat):out[a]?=some true↔Way f x a/\(a:Int)≠x:=by
 refine⟨h.o a,?_⟩
 have all:∀ d,Way f x d->d≠x-> ∃a:Nat,d=a/\out[a]?=some true:=by
  intro d hw
  have mem:∀ d,d∈l->d≠x-> ∃a:Nat,d=a/\out[a]?=some true:=by
   intro d hd hx;obtain⟨k,hk⟩:=List.mem_iff_getElem?.1 hd;have hkl:=(Ge hk).1
   rcases h.d k (by omega) d hk with h1|h1
   ·exact absurd h1 hx
   ·exact⟨d.toNat,by have:=(h.r d hd).1;omega,h1⟩
  induction hw with
  |start=>exact mem 0 h.z
  | @step a d hwa hd _ ih=>
    intro hx;obtain⟨a',e,ho⟩:=ih (way_ne hwa);have:a'=a:=by omega
    subst this;exact mem _ (h.s a' ho d hd) hx
 rintro⟨hw,hx⟩;obtain⟨a',e,ho⟩:=all _ hw hx;have:a'=a:=by omega
 subst this;exact ho
theorem bRow_of{out:List Bool}{es:List (List A)}(h:RowR BRow out es){j:Nat}(hj:j<out.length):es[j]?=some [.v (.bool out[j])]:=by
 obtain⟨e,h1,h2⟩:=h.at j hj;rw[h1,h2]
/-- A row of bools that says of each block whether p. -/
def BoolsR(n:Nat)(p:Nat->Prop)(r:A):Prop:=∃ l,SlA 1 BRow l r/\l.length=n/\ ∀a:Nat,l[a]?=some true↔a<n/\p a
theorem without_ok{f:TFunc}{e:List A}(h:FuncR f e)(h0:0<f.blocks.length)(hn:f.blocks.length<=100000)(hE:EndsOK f)(x:Int):WC E 63 [.agg e,.v (.int .i64 x)] [] fun r _=>BoolsR f.blocks.length (fun a=>Way f x a) r:=by
 have hM0:=Marks.start (f:=f) (x:=x) h0;obtain⟨name,params,result,vars,blocks,size⟩:=f;obtain⟨_,_,rfl,⟨nv,vs,nvl,rfl,hvl,h3,hv,_⟩,⟨nb,bs,nbl,rfl,hbl,h4,hb,_⟩⟩:=h;simp only at h3 h4 hv hb hn h0 hM0 ⊢
 generalize hf:(⟨name,params,result,vars,blocks,size⟩:TFunc)=f at*
 have hfb:f.blocks=blocks:=by rw[<-hf]
 have hfl:f.blocks.length=blocks.length:=by rw[hfb]
 refine WC.enter rfl rfl rfl ?_;unfold b63 ki vi mt mw ft ll ov oo
 repeat' (first|refine W.seq ?_|refine W.easy (k:=?_)|refine W.block ?_|refine W.regS ?_|refine WS.done ?_|refine WS.pre (k:=?_)|refine WS.len (h:=?_)|refine WS.mk' (k:=fun r hr=>?_)|refine WS.consN (k:=?_)|fail)
 have hr0:RowR BRow (List.replicate blocks.length false) r:=by
  subst hr;have e:(Int.ofNat nbl).toNat=blocks.length:=h4
  rw[e];exact RowR.replicate (R:=BRow) rfl _
 refine W.whileS (α:=List Bool×List Int×Nat×List (List A)×List (List A)) (fun p=>marksM (p.1,p.2.1,p.2.2.1)) (fun p σ=>sn 4 p.2.2.1 (sv 7 (.own 1 p.2.2.2.1) (sv 5 (.own 1 p.2.2.2.2) σ)))
  (fun p=>RowR BRow p.1 p.2.2.2.1/\RowR IntR p.2.1 p.2.2.2.2/\Marks f x p.1 p.2.1 p.2.2.1) ?_ ?_
 ·exact⟨(List.replicate blocks.length false,[0],0,r,[[.v (.int .i64 0)]]),rfl,hr0,intR1 0,hM0⟩
 rintro⟨out,l,i,ro,rl⟩ ⟨hro,hrl,hM⟩;simp only at hro hrl hM ⊢
 refine W.norm (k:=?_);unfold l63_0 ki kb mt mw fa ft ll lg iz og ov oo;have hrll:=hrl.len
 obtain⟨m,hm⟩:∃ m,rl.length=m:=⟨_,rfl⟩;have hlm:m=l.length:=by omega
 have hmc:=hM.c
 by_cases hi:i<m
 ·have hil:i<l.length:=by omega
  obtain⟨e,he,hed⟩:=hrl.at i hil;have hli:l[i]?=some l[i]:=Gg hil
  have hrg:=hM.r _ (Gm hil);generalize l[i]=d at hed hli hrg;subst hed;obtain⟨j,rfl,hj⟩:=intOf hrg;have hjo:j<out.length:=by rw[hM.n];exact hj
  have hbj:=bRow_of hro hjo;have hoj:out[j]?=some out[j]:=Gg hjo
  have hrol:=hro.len;generalize out[j]=b at hbj hoj;cases b with
  | true=>
    repeat' (first|refine W.seq ?_|refine W.block ?_|refine W.skip ?_|refine W.exit ?_|(refine W.condL (h:=?_);change W _ _ _ _)|refine W.regS ?_|refine WS.done ?_|refine WS.loadP (k:=?_)|refine WS.pre (k:=?_)|(refine WS.guard (h:=?_);change WS _ _ _ _)|refine WS.lenO (k:=?_)|refine WS.iaddrO (k:=?_)|(refine WS.cmp (k1:=fun h=>?_) (k2:=fun h=>?_)<;>simp only[Zq]at h<;>(try(exfalso;omega)))|refine WS.inc (h:=?_)|refine WS.consN (k:=?_)|fail)
    exact⟨(out,l,i+1,ro,rl),by cbv,⟨hro,hrl,hM.skip hli (.inr hoj)⟩,by simp only[marksM];omega⟩
  | false=>
    by_cases hjx:(j:Int)=x
    ·
     repeat' (first|refine W.seq ?_|refine W.block ?_|refine W.skip ?_|refine W.exit ?_|(refine W.condL (h:=?_);change W _ _ _ _)|refine W.regS ?_|refine WS.done ?_|refine WS.loadP (k:=?_)|refine WS.pre (k:=?_)|(refine WS.guard (h:=?_);change WS _ _ _ _)|refine WS.lenO (k:=?_)|refine WS.iaddrO (k:=?_)|(refine WS.cmp (k1:=fun h=>?_) (k2:=fun h=>?_)<;>simp only[Zq]at h<;>(try(exfalso;omega)))|refine WS.inc (h:=?_)|refine WS.consN (k:=?_)|fail)
     exact⟨(out,l,i+1,ro,rl),by cbv,⟨hro,hrl,hM.skip hli (.inl hjx)⟩,by simp only[marksM];omega⟩
    ·have hjb:j<blocks.length:=by omega
     obtain⟨eb,heb,hbR⟩:=hb.at j hjb;have hnx:nextAt f j=nextF blocks[j].term:=by unfold nextAt;rw[hfb,Gg hjb]
     have hM2:=hM.mark hli hjx hoj hE;have hft:=filter_set_true out j hoj
     generalize blocks[j]=bj at hbR hnx;obtain⟨ins,⟨kind,a,to,els⟩⟩:=bj;obtain⟨_,rfl,⟨ni,is,nil,rfl,hil,h5,hI,_⟩⟩:=hbR
     repeat' (first|refine W.seq ?_|refine W.block ?_|refine W.skip ?_|(refine W.condL (h:=?_);change W _ _ _ _)|refine W.regS ?_|refine WS.done ?_|refine WS.loadP (k:=?_)|refine WS.stoP (k:=fun q hq=>?_)|refine WS.pre (k:=?_)|(refine WS.guard (h:=?_);change WS _ _ _ _)|refine WS.lenO (k:=?_)|refine WS.iaddrO (k:=?_)|(refine WS.cmp (k1:=fun h=>?_) (k2:=fun h=>?_)<;>simp only[Zq]at h<;>(try(exfalso;omega)))|refine W.beginD (h:=?_)|refine WD.loadP (h:=?_)|refine WD.pre (k:=?_)|refine WD.iaddrO (h:=?_)|refine WD.iaddr (h:=?_)|fail)
     refine WD.qcall (hc:=(next_ok ⟨kind,a,to,els⟩)) (k:=?_);rintro ln _ ⟨nl,ls,k,rfl,hk,hkl,hL,_⟩;have hfl2:=intR_flat hL
     have hl2:=next_len ⟨kind,a,to,els⟩;refine⟨_,_,_,by cbv;first|done|fail,by cbv;first|done|fail,by cbv;first|done|fail,?_⟩
     repeat' (first|refine W.regS ?_|refine WS.done ?_|refine WS.pre (k:=?_)|refine WS.inc (h:=?_)|refine WS.consN (k:=?_)|(refine WD.done ⟨_,by cbv;first|done|fail,?_⟩;dsimp only)|refine WD.setApp (h:=fun r hr=>?_)|refine WD.appI (h:=?_)|fail)
     exact⟨(out.set j true,l++nextAt f j,i+1,q,r),by cbv,⟨by rw[<-hq];exact hro.set j rfl,by rw[<-hr,hnx];exact hrl.append (by simpa using hL),hM2⟩,by simp only[marksM,List.length_append,hnx];omega⟩
 ·
  repeat' (first|refine W.seq ?_|refine W.easy (k:=?_)|refine W.ret ?_|refine W.exit ?_|refine W.frz (k:=?_)|refine Ret.ret (k:=?_)|(refine W.condL (h:=?_);change W _ _ _ _)|refine W.regS ?_|refine WS.done ?_|refine WS.pre (k:=?_)|refine WS.lenO (k:=?_)|(refine WS.cmp (k1:=fun h=>?_) (k2:=fun h=>?_)<;>simp only[Zq]at h<;>(try(exfalso;omega)))|fail)
  refine⟨out,slA_own hro,by rw[hM.n,hfl],fun a=>?_⟩;rw[hM.done (by omega) a];exact⟨fun h=>⟨by have:=way_range hE (by omega) h.1;omega,h.1⟩,fun h=>⟨h.2,way_ne h.2⟩⟩
theorem reached_ok{f:TFunc}{e:List A}(h:FuncR f e)(h0:0<f.blocks.length)(hn:f.blocks.length<=100000)(hE:EndsOK f):WC E 52 [.agg e] [] fun r _=>BoolsR f.blocks.length (fun a=>Way f (-1) a) r:=by
 obtain⟨x,hx⟩:∃ x:Int,x= -1:=⟨_,rfl⟩;rw[<-hx];have hM0:=Marks.start (f:=f) (x:=x) h0
 obtain⟨name,params,result,vars,blocks,size⟩:=f;obtain⟨_,_,rfl,⟨nv,vs,nvl,rfl,hvl,h3,hv,_⟩,⟨nb,bs,nbl,rfl,hbl,h4,hb,_⟩⟩:=h;simp only at h3 h4 hv hb hn h0 hM0 ⊢
 generalize hf:(⟨name,params,result,vars,blocks,size⟩:TFunc)=f at*
 have hfb:f.blocks=blocks:=by rw[<-hf]
 have hfl:f.blocks.length=blocks.length:=by rw[hfb]
 refine WC.enter rfl rfl rfl ?_;unfold b52 ki vi mt mw ft ll ov oo
 repeat' (first|refine W.seq ?_|refine W.easy (k:=?_)|refine W.block ?_|refine W.regS ?_|refine WS.done ?_|refine WS.pre (k:=?_)|refine WS.len (h:=?_)|refine WS.mk' (k:=fun r hr=>?_)|refine WS.consN (k:=?_)|fail)
 have hr0:RowR BRow (List.replicate blocks.length false) r:=by
  subst hr;have e:(Int.ofNat nbl).toNat=blocks.length:=h4
  rw[e];exact RowR.replicate (R:=BRow) rfl _
 refine W.whileS (α:=List Bool×List Int×Nat×List (List A)×List (List A)) (fun p=>marksM (p.1,p.2.1,p.2.2.1)) (fun p σ=>sn 3 p.2.2.1 (sv 6 (.own 1 p.2.2.2.1) (sv 4 (.own 1 p.2.2.2.2) σ)))
  (fun p=>RowR BRow p.1 p.2.2.2.1/\RowR IntR p.2.1 p.2.2.2.2/\Marks f x p.1 p.2.1 p.2.2.1) ?_ ?_
 ·exact⟨(List.replicate blocks.length false,[0],0,r,[[.v (.int .i64 0)]]),rfl,hr0,intR1 0,hM0⟩
 rintro⟨out,l,i,ro,rl⟩ ⟨hro,hrl,hM⟩;simp only at hro hrl hM ⊢
 refine W.norm (k:=?_);unfold l52_0 ki kb mt mw fa ft ll lg iz ov oo;have hrll:=hrl.len
 obtain⟨m,hm⟩:∃ m,rl.length=m:=⟨_,rfl⟩;have hlm:m=l.length:=by omega
 have hmc:=hM.c
 by_cases hi:i<m
 ·have hil:i<l.length:=by omega
  obtain⟨e,he,hed⟩:=hrl.at i hil;have hli:l[i]?=some l[i]:=Gg hil
  have hrg:=hM.r _ (Gm hil);generalize l[i]=d at hed hli hrg;subst hed;obtain⟨j,rfl,hj⟩:=intOf hrg;have hjo:j<out.length:=by rw[hM.n];exact hj
  have hbj:=bRow_of hro hjo;have hoj:out[j]?=some out[j]:=Gg hjo
  have hrol:=hro.len;generalize out[j]=b at hbj hoj;cases b with
  | true=>
    repeat' (first|refine W.seq ?_|refine W.block ?_|refine W.skip ?_|refine W.exit ?_|(refine W.condL (h:=?_);change W _ _ _ _)|refine W.regS ?_|refine WS.done ?_|refine WS.loadP (k:=?_)|refine WS.pre (k:=?_)|refine WS.lenO (k:=?_)|refine WS.iaddrO (k:=?_)|(refine WS.cmp (k1:=fun h=>?_) (k2:=fun h=>?_)<;>simp only[Zq]at h<;>(try(exfalso;omega)))|refine WS.inc (h:=?_)|refine WS.consN (k:=?_)|fail)
    exact⟨(out,l,i+1,ro,rl),by cbv,⟨hro,hrl,hM.skip hli (.inr hoj)⟩,by simp only[marksM];omega⟩
  | false=>
    have hjx:¬ (j:Int)=x:=by omega
    ·have hjb:j<blocks.length:=by omega
     obtain⟨eb,heb,hbR⟩:=hb.at j hjb;have hnx:nextAt f j=nextF blocks[j].term:=by unfold nextAt;rw[hfb,Gg hjb]
     have hM2:=hM.mark hli hjx hoj hE;have hft:=filter_set_true out j hoj
     generalize blocks[j]=bj at hbR hnx;obtain⟨ins,⟨kind,a,to,els⟩⟩:=bj;obtain⟨_,rfl,⟨ni,is,nil,rfl,hil,h5,hI,_⟩⟩:=hbR
     repeat' (first|refine W.seq ?_|refine W.block ?_|refine W.skip ?_|(refine W.condL (h:=?_);change W _ _ _ _)|refine W.regS ?_|refine WS.done ?_|refine WS.loadP (k:=?_)|refine WS.stoP (k:=fun q hq=>?_)|refine WS.pre (k:=?_)|refine WS.lenO (k:=?_)|refine WS.iaddrO (k:=?_)|(refine WS.cmp (k1:=fun h=>?_) (k2:=fun h=>?_)<;>simp only[Zq]at h<;>(try(exfalso;omega)))|refine W.beginD (h:=?_)|refine WD.loadP (h:=?_)|refine WD.pre (k:=?_)|refine WD.iaddrO (h:=?_)|refine WD.iaddr (h:=?_)|fail)
     refine WD.qcall (hc:=(next_ok ⟨kind,a,to,els⟩)) (k:=?_);rintro ln _ ⟨nl,ls,k,rfl,hk,hkl,hL,_⟩;have hfl2:=intR_flat hL
     have hl2:=next_len ⟨kind,a,to,els⟩;refine⟨_,_,_,by cbv;first|done|fail,by cbv;first|done|fail,by cbv;first|done|fail,?_⟩
     repeat' (first|refine W.regS ?_|refine WS.done ?_|refine WS.pre (k:=?_)|refine WS.inc (h:=?_)|refine WS.consN (k:=?_)|(refine WD.done ⟨_,by cbv;first|done|fail,?_⟩;dsimp only)|refine WD.setApp (h:=fun r hr=>?_)|refine WD.appI (h:=?_)|fail)
     exact⟨(out.set j true,l++nextAt f j,i+1,q,r),by cbv,⟨by rw[<-hq];exact hro.set j rfl,by rw[<-hr,hnx];exact hrl.append (by simpa using hL),hM2⟩,by simp only[marksM,List.length_append,hnx];omega⟩
 ·
  repeat' (first|refine W.seq ?_|refine W.easy (k:=?_)|refine W.ret ?_|refine W.exit ?_|refine W.frz (k:=?_)|refine Ret.ret (k:=?_)|(refine W.condL (h:=?_);change W _ _ _ _)|refine W.regS ?_|refine WS.done ?_|refine WS.pre (k:=?_)|refine WS.lenO (k:=?_)|(refine WS.cmp (k1:=fun h=>?_) (k2:=fun h=>?_)<;>simp only[Zq]at h<;>(try(exfalso;omega)))|fail)
  refine⟨out,slA_own hro,by rw[hM.n,hfl],fun a=>?_⟩;rw[hM.done (by omega) a];exact⟨fun h=>⟨by have:=way_range hE (by omega) h.1;omega,h.1⟩,fun h=>⟨h.2,way_ne h.2⟩⟩
/-- One block stands over another one. -/
def Dom(f:TFunc)(a b:Nat):Prop:=Way f (-1) a/\Way f (-1) b/\ ¬Way f a b
/-- An element that is a row of bools, owned. -/
def BCellR(n:Nat)(p:Nat->Prop)(e:List A):Prop:=∃ l es,e=[.own 1 es]/\RowR BRow l es/\l.length=n/\ ∀a:Nat,l[a]?=some true↔a<n/\p a
def TableR(f:TFunc)(r:A):Prop:=∃ nl es n,r= .imm nl 1 es/\es.length=n/\n=f.blocks.length/\ ∀a,a<n-> ∃e,es[a]?=some e/\BCellR n (Dom f a) e
theorem bools_at{n:Nat}{p:Nat->Prop}{l:List Bool}(hl:l.length=n)(h:∀ a:Nat,l[a]?=some true↔a<n/\p a){j:Nat}(hj:j<n):∃ b,l[j]?=some b/\(b=true↔p j):=by
 have hjl:j<l.length:=by omega
 refine⟨l[j],Gg hjl,?_⟩;have:=h j
 rw[Gg hjl]at this;simp only[Oe]at this;rw[this];exact⟨fun h=>h.2,fun h=>⟨hj,h⟩⟩
theorem bRow_at{l:List Bool}{es:List (List A)}(h:RowR BRow l es){j:Nat}{b:Bool}(hj:l[j]?=some b):es[j]?=some [.v (.bool b)]:=by
 have hjl:=(Ge hj).1;rw[Gg hjl]at hj;cases hj;exact bRow_of h hjl
theorem set_bools{l:List Bool}{n j:Nat}{p:Nat->Prop}{v:Bool}(hl:l.length=n)(h:∀ a:Nat,l[a]?=some true↔a<j/\p a)(hj:j<n)(hv:v=true↔p j)(a:Nat):(l.set j v)[a]?=some true↔a<j+1/\p a:=by
 rw[List.getElem?_set];split
 ·rename_i e;subst e;rw[if_pos (by omega)];simp only[Oe];rw[hv];exact⟨fun h=>⟨by omega,h⟩,fun h=>h.2⟩
 ·rw[h a];exact⟨fun h=>⟨by omega,h.2⟩,fun h=>⟨by omega,h.2⟩⟩
theorem table_ok{f:TFunc}{e:List A}(h:FuncR f e)(h0:0<f.blocks.length)(hn:f.blocks.length<=100000)(hE:EndsOK f):WC E 51 [.agg e] [] fun r _=>TableR f r:=by
 have hcall:=fun x=>without_ok h h0 hn hE x;obtain⟨_,_,rfl,⟨nv,vs,nvl,rfl,hvl,h3,hv,_⟩,⟨nb,bs,nbl,rfl,hbl,h4,hb,_⟩⟩:=h;rw[<-h4]at hcall;refine WC.enter rfl rfl rfl ?_;unfold b51 ki mt mw lt ov oo
 repeat' (first|refine W.seq ?_|refine W.easy (k:=?_)|refine W.frz (k:=?_)|refine W.regS ?_|refine WS.pre (k:=?_)|fail)
 refine WS.call (hc:=(hcall (-1))) (k:=?_);rintro _ _ ⟨all,⟨nA,eA,mA,rfl,hmA,hlA,hA,_⟩,hAn,hAi⟩;refine⟨_,_,_,by cbv;first|done|fail,by cbv;first|done|fail,?_⟩
 repeat' (first|refine W.seq ?_|refine W.easy (k:=?_)|refine W.block ?_|refine W.frz (k:=?_)|refine WS.done ?_|refine WS.consN (k:=?_)|fail)
 refine W.forS nbl (fun i (p:A) σ=>sn 3 i (sv 10 p σ)) (fun i p=>(p= .nil/\i=0)\/ ∃q,p= .own 1 q/\q.length=i/\ ∀a,a<i-> ∃e,q[a]?=some e/\BCellR nbl (Dom f a) e) 0 (Nat.zero_le _) ?_ ?_
 ·exact⟨.nil,rfl,.inl ⟨rfl,rfl⟩⟩
 intro i p hi hp
 have hend:∀ q,q.length=i->(∀a,a<i-> ∃e,q[a]?=some e/\BCellR nbl (Dom f a) e)-> ∀e,BCellR nbl (Dom f i) e->((q++[e]).length=i+1/\ ∀a,a<i+1-> ∃e',(q++[e])[a]?=some e'/\BCellR nbl (Dom f a) e'):=by
  intro q hq hqa e he;refine⟨by simp[hq],fun a ha=>?_⟩
  by_cases hai:a<i
  ·obtain⟨e',h1,h2⟩:=hqa a hai;exact⟨e',by rw[List.getElem?_append_left (by omega)];exact h1,h2⟩
  ·have:a=i:=by omega
   subst this;exact⟨e,by rw[List.getElem?_append_right (by omega)];simp[hq],he⟩
 rcases hp with⟨rfl,hi0⟩|⟨q,rfl,hql,hqa⟩
 all_goals
  refine W.norm (k:=?_);unfold l51_1 ki mt mw ft ll lt ov oo
  by_cases hin:i<nbl
 rotate_left
 ·exfalso;omega
 rotate_left
 ·
  repeat' (first|refine W.seq ?_|refine W.easy (k:=?_)|refine W.ret ?_|refine W.exit ?_|refine W.frz (k:=?_)|refine Ret.ret (k:=?_)|(refine W.condL (h:=?_);change W _ _ _ _)|refine W.regS ?_|refine WS.done ?_|refine WS.pre (k:=?_)|refine WS.len (h:=?_)|(refine WS.cmp (k1:=fun h=>?_) (k2:=fun h=>?_)<;>simp only[Zq]at h<;>(try(exfalso;omega)))|fail)
  have:i=nbl:=by omega
  subst this;exact⟨_,_,_,rfl,hql,by omega,fun a ha=>hqa a ha⟩
 all_goals
  obtain⟨bi,hbi,hbp⟩:=bools_at hAn hAi hin;have hei:=bRow_at hA hbi
  repeat' (first|refine W.seq ?_|refine W.block ?_|refine W.skip ?_|refine W.frz (k:=?_)|(refine W.condL (h:=?_);change W _ _ _ _)|refine W.regS ?_|refine WS.done ?_|refine WS.pre (k:=?_)|refine WS.len (h:=?_)|(refine WS.cmp (k1:=fun h=>?_) (k2:=fun h=>?_)<;>simp only[Zq]at h<;>(try(exfalso;omega)))|fail)
  refine WS.call (hc:=(hcall i)) (k:=?_);rintro _ _ ⟨lx,⟨nL,eL,mL,rfl,hmL,hlL,hL,_⟩,hLn,hLi⟩;refine⟨_,_,_,by cbv;first|done|fail,by cbv;first|done|fail,?_⟩
  repeat' (first|refine W.seq ?_|refine W.easy (k:=?_)|refine W.block ?_|refine W.frz (k:=?_)|refine W.regS ?_|refine WS.done ?_|refine WS.pre (k:=?_)|refine WS.len (h:=?_)|refine WS.mk' (k:=fun r hr=>?_)|refine WS.consN (k:=?_)|fail)
  refine W.forS nbl (fun j (r:List (List A)) σ=>sn 5 j (sv 7 (.own 1 r) σ)) (fun j r=> ∃l,RowR BRow l r/\l.length=nbl/\ ∀a:Nat,l[a]?=some true↔a<j/\Dom f i a) 0 (Nat.zero_le _) ?_ ?_
  ·refine⟨_,rfl,List.replicate nbl false,by rw[<-hr];exact RowR.replicate (R:=BRow) rfl _,by simp,fun a=>?_⟩;rw[List.getElem?_replicate];split<;>simp
  rintro j r hj ⟨l,hlr,hll,hla⟩;refine W.norm (k:=?_);unfold l51_0 ki kb mt mw ft ll iz og ov oo;have hrll:=hlr.len
  by_cases hjn:j<nbl
  ·obtain⟨bj,hbj,hbjp⟩:=bools_at hAn hAi hjn;obtain⟨lj,hlj,hljp⟩:=bools_at hLn hLi hjn;have hej:=bRow_at hA hbj
   have heL:=bRow_at hL hlj;have hlb:l[j]?=some l[j]:=Gg (by omega)
   have herj:=bRow_at hlr hlb;have hset:=fun v hv=>set_bools (p:=fun a=>Dom f i a) (v:=v) hll hla hjn hv
   cases bi with
   | false=>
     repeat' (first|refine W.seq ?_|refine W.block ?_|refine W.skip ?_|(refine W.condL (h:=?_);change W _ _ _ _)|refine W.regS ?_|refine WS.done ?_|refine WS.stoP (k:=fun q hq=>?_)|refine WS.pre (k:=?_)|(refine WS.guard (h:=?_);change WS _ _ _ _)|refine WS.len (h:=?_)|refine WS.iaddrO (k:=?_)|refine WS.iaddr (h:=?_)|(refine WS.cmp (k1:=fun h=>?_) (k2:=fun h=>?_)<;>simp only[Zq]at h<;>(try(exfalso;omega)))|refine WS.inc (h:=?_)|refine WS.consN (k:=?_)|fail)
     exact⟨by omega,q,by cbv,l.set j false,by rw[<-hq];exact hlr.set j rfl,by simp[hll],hset false (by simp[Dom]at hbp ⊢;exact fun h=>absurd h hbp)⟩
   | true=>
     cases bj with
     | false=>
       repeat' (first|refine W.seq ?_|refine W.block ?_|refine W.skip ?_|(refine W.condL (h:=?_);change W _ _ _ _)|refine W.regS ?_|refine WS.done ?_|refine WS.stoP (k:=fun q hq=>?_)|refine WS.pre (k:=?_)|(refine WS.guard (h:=?_);change WS _ _ _ _)|refine WS.len (h:=?_)|refine WS.iaddrO (k:=?_)|refine WS.iaddr (h:=?_)|(refine WS.cmp (k1:=fun h=>?_) (k2:=fun h=>?_)<;>simp only[Zq]at h<;>(try(exfalso;omega)))|refine WS.inc (h:=?_)|refine WS.consN (k:=?_)|fail)
       exact⟨by omega,q,by cbv,l.set j false,by rw[<-hq];exact hlr.set j rfl,by simp[hll],hset false (by simp[Dom]at hbjp ⊢;exact fun _ h=>absurd h hbjp)⟩
     | true=>
       cases lj with
       | true=>
         repeat' (first|refine W.seq ?_|refine W.block ?_|refine W.skip ?_|(refine W.condL (h:=?_);change W _ _ _ _)|refine W.regS ?_|refine WS.done ?_|refine WS.stoP (k:=fun q hq=>?_)|refine WS.pre (k:=?_)|(refine WS.guard (h:=?_);change WS _ _ _ _)|refine WS.len (h:=?_)|refine WS.iaddrO (k:=?_)|refine WS.iaddr (h:=?_)|(refine WS.cmp (k1:=fun h=>?_) (k2:=fun h=>?_)<;>simp only[Zq]at h<;>(try(exfalso;omega)))|refine WS.inc (h:=?_)|refine WS.consN (k:=?_)|fail)
         exact⟨by omega,q,by cbv,l.set j false,by rw[<-hq];exact hlr.set j rfl,by simp[hll],hset false (by simp[Dom]at hljp ⊢;exact fun _ _=>hljp)⟩
       | false=>
         repeat' (first|refine W.seq ?_|refine W.block ?_|refine W.skip ?_|(refine W.condL (h:=?_);change W _ _ _ _)|refine W.regS ?_|refine WS.done ?_|refine WS.stoP (k:=fun q hq=>?_)|refine WS.pre (k:=?_)|(refine WS.guard (h:=?_);change WS _ _ _ _)|refine WS.len (h:=?_)|refine WS.iaddrO (k:=?_)|refine WS.iaddr (h:=?_)|(refine WS.cmp (k1:=fun h=>?_) (k2:=fun h=>?_)<;>simp only[Zq]at h<;>(try(exfalso;omega)))|refine WS.inc (h:=?_)|refine WS.consN (k:=?_)|fail)
         exact⟨by omega,q,by cbv,l.set j true,by rw[<-hq];exact hlr.set j rfl,by simp[hll],hset true (by simp[Dom]at hljp hbp hbjp ⊢;exact⟨hbp,hbjp,hljp⟩)⟩
  ·have:j=nbl:=by omega
   subst this
   repeat' (first|refine W.seq ?_|refine W.exit ?_|(refine W.condL (h:=?_);change W _ _ _ _)|refine W.regS ?_|refine WS.done ?_|refine WS.setApp (h:=fun r hr=>?_)|refine WS.pre (k:=?_)|refine WS.len (h:=?_)|(refine WS.cmp (k1:=fun h=>?_) (k2:=fun h=>?_)<;>simp only[Zq]at h<;>(try(exfalso;omega)))|refine WS.inc (h:=?_)|refine WS.app (h:=?_)|refine WS.consN (k:=?_)|fail)
   first
    |exact⟨by omega,_,by cbv,.inr ⟨_,rfl,by rw[<-hr];exact hend q hql hqa _ ⟨l,_,rfl,hlr,hll,hla⟩⟩⟩
    | (subst hi0
       exact⟨by omega,_,by cbv,.inr ⟨_,rfl,hend [] rfl (fun a ha=>absurd ha (Nat.not_lt_zero a)) _ ⟨l,_,rfl,hlr,hll,hla⟩⟩⟩)
/-- The instruction at a place. -/
def insAt(f:TFunc)(p q:Nat):Option TIns:=match f.blocks[p]? with|some b=>b.ins[q]?|none=>none
def MadeAt(f:TFunc)(v:Int)(p q:Nat):Prop:=∃ x,insAt f p q=some x/\makesF x=v
def FirstMade(f:TFunc)(v:Int)(p q:Nat):Prop:=MadeAt f v p q/\ ∀p' q',MadeAt f v p' q'->p<p'\/p=p'/\q<=q'
theorem insAt_some{f:TFunc}{p q:Nat}{x:TIns}(h:insAt f p q=some x):∃ b,f.blocks[p]?=some b/\b.ins[q]?=some x:=by
 unfold insAt at h;split at h
 ·rename_i b hb;exact⟨b,hb,h⟩
 ·cases h
theorem insAt_of{f:TFunc}{p q:Nat}{b:TBlock}(h:f.blocks[p]?=some b):insAt f p q=b.ins[q]?:=by unfold insAt;rw[h]
theorem firstMade_eq{f:TFunc}{v:Int}{p q p' q':Nat}(h:FirstMade f v p q)(k:FirstMade f v p' q'):p=p'/\q=q':=by
 have h1:=h.2 _ _ k.1;have h2:=k.2 _ _ h.1
 omega
/-- So many cells there may be. -/
structure FuncSmall(f:TFunc):Prop where
 b:f.blocks.length<=100000
 i:∀ b,b∈f.blocks->b.ins.length<=100000
 a:∀ b,b∈f.blocks-> ∀x,x∈b.ins->x.args.length<=2000000
 v:f.vars.length<=100000
theorem made_ok{f:TFunc}{e:List A}(h:FuncR f e)(hs:FuncSmall f)(v:Int):WC E 54 [.agg e,.v (.int .i64 v)] [] fun r _=>
  (∃p q:Nat,r= .tup [.v (.int .i64 (Int.ofNat p)),.v (.int .i64 (Int.ofNat q)),.v (.bool true)]/\FirstMade f v p q)\/(r= .tup [.v (.int .i64 0),.v (.int .i64 0),.v (.bool false)]/\ ∀p q,¬MadeAt f v p q):=by
 obtain⟨_,_,rfl,⟨nv,vs,nvl,rfl,hvl,h3,hv,_⟩,⟨nb,bs,nbl,rfl,hbl,h4,hb,_⟩⟩:=h;have hsb:=hs.b
 refine WC.enter rfl rfl rfl ?_;unfold b54 ki kb ov
 repeat' (first|refine W.seq ?_|refine W.easy (k:=?_)|refine W.block ?_|fail)
 refine W.forS nbl (fun i (_:Unit) σ=>sn 5 i σ) (fun i _=> ∀p,p<i-> ∀q,¬MadeAt f v p q) 0 (Nat.zero_le _) ?_ ?_
 ·exact⟨(),by cbv,fun p hp=>absurd hp (Nat.not_lt_zero p)⟩
 intro i _ hi hP;refine W.norm (k:=?_);unfold l54_1 ki mt mw ft ll ov oo
 by_cases hin:i<nbl
 ·have hib:i<f.blocks.length:=by omega
  obtain⟨e,he,hR⟩:=hb.at i hib;have hbi:f.blocks[i]?=some f.blocks[i]:=Gg hib
  have hil:=hs.i _ (Gm hib);have hx:=hs.a _ (Gm hib)
  generalize f.blocks[i]=b at hR hbi hil hx;obtain⟨ins,⟨kind,a,to,els⟩⟩:=b;obtain⟨_,rfl,⟨ni,is,nil,rfl,hil2,h5,hI,_⟩⟩:=hR;simp only at hil h5 hI hx;have hat:∀ q,insAt f i q=ins[q]?:=fun q=>insAt_of hbi
  repeat' (first|refine W.seq ?_|refine W.easy (k:=?_)|refine W.block ?_|refine W.skip ?_|(refine W.condL (h:=?_);change W _ _ _ _)|refine W.regS ?_|refine WS.done ?_|refine WS.pre (k:=?_)|refine WS.len (h:=?_)|(refine WS.cmp (k1:=fun h=>?_) (k2:=fun h=>?_)<;>simp only[Zq]at h<;>(try(exfalso;omega)))|fail)
  refine W.forS nil (fun k (_:Unit) σ=>sn 8 k σ) (fun k _=> ∀q,q<k-> ¬MadeAt f v i q) 0 (Nat.zero_le _) ?_ ?_
  ·exact⟨(),by cbv,fun p hp=>absurd hp (Nat.not_lt_zero p)⟩
  intro k _ hk hQ;refine W.norm (k:=?_);unfold l54_0 ki kb mt mw fa ft ll lg iz ov oo
  by_cases hkn:k<nil
  ·have hki:k<ins.length:=by omega
   obtain⟨ek,hek,hRk⟩:=hI.at k hki;have hxk:=hat k
   rw[Gg hki]at hxk;generalize ins[k]=x at hRk hxk;have hcall:=makes_ok hRk
   obtain⟨op,dst,xa,xb,var,num,args⟩:=x;obtain⟨_,rfl,⟨na,as,nal,rfl,hal,h6,hA,_⟩⟩:=hRk
   repeat' (first|refine W.seq ?_|refine W.block ?_|refine W.skip ?_|(refine W.condL (h:=?_);change W _ _ _ _)|refine W.regS ?_|refine WS.done ?_|refine WS.pre (k:=?_)|refine WS.len (h:=?_)|refine WS.iaddr (h:=?_)|(refine WS.cmp (k1:=fun h=>?_) (k2:=fun h=>?_)<;>simp only[Zq]at h<;>(try(exfalso;omega)))|fail)
   refine WS.call (hc:=(hcall)) (k:=?_);rintro _ _ rfl;generalize hmv:makesF ⟨op,dst,xa,xb,var,num,args⟩=mv at*
   refine⟨_,_,_,by cbv;first|done|fail,by cbv;first|done|fail,?_⟩
   repeat' (first|refine W.seq ?_|refine W.easy (k:=?_)|refine W.skip ?_|refine W.ret ?_|refine Ret.ret (k:=?_)|(refine W.condL (h:=?_);change W _ _ _ _)|refine W.regS ?_|refine WS.done ?_|refine WS.pre (k:=?_)|(refine WS.cmp (k1:=fun h=>?_) (k2:=fun h=>?_)<;>simp only[Zq]at h<;>(try(exfalso;omega)))|refine WS.inc (h:=?_)|refine WS.consN (k:=?_)|fail)
   ·refine .inl ⟨i,k,rfl,⟨_,hxk,by rw[hmv];exact h⟩,fun p' q' hm=>?_⟩
    by_cases hp:p'<i
    ·exact absurd hm (hP p' hp q')
    ·by_cases hp2:p'=i
     ·subst hp2
      by_cases hq:q'<k
      ·exact absurd hm (hQ q' hq)
      ·omega
     ·omega
   ·refine⟨by omega,(),by cbv,fun q hq=>?_⟩
    by_cases hqk:q<k
    ·exact hQ q hqk
    ·have:q=k:=by omega
     subst this;rintro⟨x,h1,h2⟩;rw[hxk]at h1;cases h1;rw[hmv]at h2;exact absurd h2 (by assumption)
  ·
   repeat' (first|refine W.seq ?_|refine W.exit ?_|(refine W.condL (h:=?_);change W _ _ _ _)|refine W.regS ?_|refine WS.done ?_|refine WS.pre (k:=?_)|refine WS.len (h:=?_)|refine WS.iaddr (h:=?_)|(refine WS.cmp (k1:=fun h=>?_) (k2:=fun h=>?_)<;>simp only[Zq]at h<;>(try(exfalso;omega)))|refine WS.inc (h:=?_)|refine WS.consN (k:=?_)|fail)
   refine⟨by omega,(),by cbv,fun p hp q=>?_⟩
   by_cases hpi:p<i
   ·exact hP p hpi q
   ·have:p=i:=by omega
    subst this
    by_cases hq:q<k
    ·exact hQ q hq
    ·rintro⟨x,h1,h2⟩;rw[hat,List.getElem?_eq_none (by omega)]at h1;cases h1
 ·
  repeat' (first|refine W.seq ?_|refine W.easy (k:=?_)|refine W.ret ?_|refine W.exit ?_|refine Ret.ret (k:=?_)|(refine W.condL (h:=?_);change W _ _ _ _)|refine W.regS ?_|refine WS.done ?_|refine WS.pre (k:=?_)|refine WS.len (h:=?_)|(refine WS.cmp (k1:=fun h=>?_) (k2:=fun h=>?_)<;>simp only[Zq]at h<;>(try(exfalso;omega)))|fail)
  refine .inr ⟨rfl,fun p q=>?_⟩
  by_cases hpi:p<i
  ·exact hP p hpi q
  ·rintro⟨x,h1,h2⟩;unfold insAt at h1;rw[List.getElem?_eq_none (by omega)]at h1;cases h1
/-- Is a virtual there, at a place of a block? -/
def ThereP(f:TFunc)(v:Int)(b i:Nat):Prop:=∃ p q,FirstMade f v p q/\((p=b/\q<i)\/(p≠b/\Dom f p b))
theorem table_at{f:TFunc}{nl:Bool}{es:List (List A)}(h:TableR f (.imm nl 1 es)){a b:Nat}(ha:a<f.blocks.length)(hb:b<f.blocks.length):∃ r d,es[a]?=some [.own 1 r]/\r[b]?=some [.v (.bool d)]/\(d=true↔Dom f a b):=by
 obtain⟨nl',es',n,e0,h1,h2,h3⟩:=h;cases e0;obtain⟨e,he,l,r,rfl,hr,hl,hd⟩:=h3 a (by omega);obtain⟨d,hd1,hd2⟩:=bools_at hl hd (j:=b) (by omega);exact⟨r,d,he,bRow_at hr hd1,hd2⟩
theorem made_range{f:TFunc}{v:Int}{p q:Nat}(h:MadeAt f v p q):p<f.blocks.length:=by
 obtain⟨x,h1,_⟩:=h;obtain⟨b,hb,_⟩:=insAt_some h1;exact(Ge hb).1
theorem there_ok{f:TFunc}{e:List A}(h:FuncR f e)(hs:FuncSmall f){t:A}(ht:TableR f t)(v:Int){b i:Nat}(hb:b<f.blocks.length):WC E 53 [.agg e,t,.v (.int .i64 v),.v (.int .i64 (Int.ofNat b)),.v (.int .i64 (Int.ofNat i))] [] fun r _=>IsB (ThereP f v b i) r:=by
 have hcall:=made_ok h hs v;obtain⟨_,_,rfl,⟨nv,vs,nvl,rfl,hvl,h3,hv,_⟩,⟨nb,bs,nbl,rfl,hbl,h4,hb',_⟩⟩:=h;obtain⟨nt,et,nT,rfl,ht1,ht2,ht3⟩:=ht;have hat:=fun a (ha:a<f.blocks.length)=>table_at (b:=b) ⟨nt,et,nT,rfl,ht1,ht2,ht3⟩ ha hb
 refine WC.enter rfl rfl rfl ?_;unfold b53 kb mt mw lt og ov oo
 repeat' (first|refine W.seq ?_|refine W.easy (k:=?_)|refine W.regS ?_|refine WS.pre (k:=?_)|fail)
 refine WS.call (hc:=(hcall)) (k:=?_);rintro _ _ (⟨p,q,rfl,hm⟩|⟨rfl,hm⟩)
 ·obtain⟨r,d,her,hrd,hd⟩:=hat p (made_range hm.1)
  have fin:∀ P:Prop,((p=b/\q<i)\/(p≠b/\Dom f p b)↔P)->(ThereP f v b i↔P):=fun P hP=>by
   rw[<-hP];constructor
   ·rintro⟨p',q',h1,h2⟩;obtain⟨rfl,rfl⟩:=firstMade_eq h1 hm;exact h2
   ·exact fun h2=>⟨p,q,hm,h2⟩
  refine⟨_,_,_,by cbv;first|done|fail,by cbv;first|done|fail,?_⟩
  by_cases hpb:p=b
  ·subst hpb
   repeat' (first|refine W.seq ?_|refine W.ret ?_|refine Ret.ret (k:=?_)|refine W.regS ?_|refine WS.done ?_|refine WS.pre (k:=?_)|(refine WS.guard (h:=?_);change WS _ _ _ _)|(refine WS.cmp (k1:=fun h=>?_) (k2:=fun h=>?_)<;>simp only[Zq]at h<;>(try(exfalso;omega)))|refine WS.consN (k:=?_)|fail)
   all_goals first
    |exact .inl ⟨rfl,(fin _ Iff.rfl).2 (.inl ⟨rfl,by omega⟩)⟩
    | (refine .inr ⟨rfl,fun h => ?_⟩
       rcases(fin _ Iff.rfl).1 h with h|h
       ·omega
       ·exact h.1 rfl)
  ·cases d with
   | true=>
     repeat' (first|refine W.seq ?_|refine W.ret ?_|refine Ret.ret (k:=?_)|refine W.regS ?_|refine WS.done ?_|refine WS.pre (k:=?_)|(refine WS.guard (h:=?_);change WS _ _ _ _)|refine WS.iaddr (h:=?_)|(refine WS.cmp (k1:=fun h=>?_) (k2:=fun h=>?_)<;>simp only[Zq]at h<;>(try(exfalso;omega)))|refine WS.consN (k:=?_)|fail)
     all_goals exact .inl ⟨rfl,(fin _ Iff.rfl).2 (.inr ⟨hpb,hd.1 rfl⟩)⟩
   | false=>
     repeat' (first|refine W.seq ?_|refine W.ret ?_|refine Ret.ret (k:=?_)|refine W.regS ?_|refine WS.done ?_|refine WS.pre (k:=?_)|(refine WS.guard (h:=?_);change WS _ _ _ _)|refine WS.iaddr (h:=?_)|(refine WS.cmp (k1:=fun h=>?_) (k2:=fun h=>?_)<;>simp only[Zq]at h<;>(try(exfalso;omega)))|refine WS.consN (k:=?_)|fail)
     all_goals
      refine .inr ⟨rfl,fun h=>?_⟩;rcases(fin _ Iff.rfl).1 h with h|h
      ·exact hpb h.1
      ·exact absurd (hd.2 h.2) (by simp)
 ·
  refine⟨_,_,_,by cbv;first|done|fail,by cbv;first|done|fail,?_⟩
  repeat' (first|refine W.seq ?_|refine W.ret ?_|refine Ret.ret (k:=?_)|refine W.regS ?_|refine WS.done ?_|refine WS.pre (k:=?_)|(refine WS.guard (h:=?_);change WS _ _ _ _)|refine WS.consN (k:=?_)|fail)
  all_goals exact .inr ⟨rfl,fun⟨p,q,h1,_⟩=>hm p q h1.1⟩
end Go.Ab.Ytkmmpbmmmbebgaa
