/- Is it an instruction, with its variable in place? Large: what it says. May a function be? May a unit be? The reference's runs: what an instruction does, plainly. -/
import Derived.Test.YtkmmpbmmmbebgaaT1
import Derived.Test.YtkmmpbmmmbebgaaAbE
import Derived.Test.YtkmmpbmmmbebgaaM4
import Derived.Test.YtkmmpbmmmbebgaaT3
set_option linter.all false
namespace Go.Ab.Ytkmmpbmmmbebgaa
set_option maxRecDepth 100000
set_option maxHeartbeats 4000000
def knownP(u:TUnit)(f:TFunc)(n:Int)(x:TIns):Prop:=
 if x.op=32\/x.op=36\/x.op=43\/x.op=44\/x.op=47 then True
 else if x.op=33 then 0<=x.num/\x.num<f.params
 else if x.op=34\/x.op=35\/x.op=46 then varP scalarP f x.var
 else if x.op=37\/x.op=38 then varP arrayP f x.var
 else if x.op=39\/x.op=40 then varP fieldsP f x.var/\0<=x.num/\varP (fun v=>x.num<v.words) f x.var
 else if x.op=41 then varP arrayP f x.var\/varP fieldsP f x.var
 else if x.op=42 then 0<=x.num/\ ∃g,u.funcs[x.num.toNat]?=some g/\(x.args.length:Int)=g.params
 else if x.op=45 then 0<=x.num/\ ∃p,u.points[x.num.toNat]?=some p/\p.func=n
 else 1<=x.op/\x.op<=15
theorem known_ok{u:TUnit}{eu:List A}(hu:UnitR u eu){n:Nat}{f:TFunc}(hf:u.funcs[n]?=some f){x:TIns}{ex:List A}(hx:InsR x ex):WC E 48 [.agg eu,.v (.int .i64 (Int.ofNat n)),.agg ex] [] fun r _=>IsB (knownP u f n x) r:=by
 obtain⟨funcs,main,points⟩:=u;obtain⟨_,_,rfl,⟨nf,fs,fl,rfl,hfl,h1,hF,_⟩,⟨np,ps,pl,rfl,hpl,h2,hP,_⟩⟩:=hu;simp only at hf hF hP h1 h2;have hnl:=(Ge hf).1
 obtain⟨e,he,hR⟩:=hF.at n hnl;have hfe:funcs[n]=f:=by rw[Gg hnl]at hf;exact Option.some.inj hf
 rw[hfe]at hR;have cs:=fun k=>scalar_ok hR k
 have ca:=fun k=>array_ok hR k;have cf:=fun k=>fields_ok hR k
 obtain⟨name,params,result,vars,blocks,size⟩:=f;obtain⟨_,_,rfl,⟨nv,vs,nvl,rfl,hvl,h3,hv,_⟩,⟨nb,bs,nbl,rfl,hbl,h4,hb,_⟩⟩:=hR;obtain⟨op,dst,xa,xb,var,num,args⟩:=x;obtain⟨_,rfl,⟨na,as,nal,rfl,hal,h6,hA,_⟩⟩:=hx;simp only at h3 h4 hv hb h6 hA;simp only[knownP];have mem:∀ k:Int,k=32\/k=33\/k=34\/k=35\/k=36\/k=37\/k=38\/k=39\/k=40\/k=41\/k=42\/k=43\/k=44\/k=45\/k=46\/k=47\/(k<32\/47<k):=fun k=>by omega
 refine WC.enter rfl rfl rfl ?_;unfold b48 ki kb vi mt mw ft ll lg lt iz og ov oo;rcases mem op with rfl|rfl|rfl|rfl|rfl|rfl|rfl|rfl|rfl|rfl|rfl|rfl|rfl|rfl|rfl|rfl|hop
 case' inr.inr.inr.inr.inr.inr.inr.inr.inr.inr.inl=>
  by_cases hr:0<=num/\num<funcs.length
  case' pos=>
   obtain⟨j,rfl,hj⟩:=intOf hr;obtain⟨eg,heg,hG⟩:=hF.at j (by omega);have hg:funcs[j]?=some funcs[j]:=Gg (by omega)
   generalize funcs[j]=g at hG hg
   have hpt:(0 <= Int.ofNat j /\ ∃ g,funcs[(Int.ofNat j).toNat]? = some g /\ (args.length:Int) = g.params) = ((args.length:Int) = g.params):=propext ⟨fun ⟨_,v,h1,h2⟩ => by
    rw[show(Int.ofNat j).toNat=j from rfl,hg]at h1
    cases h1
    exact h2,fun h=>⟨Int.natCast_nonneg j,_,hg,h⟩⟩
   obtain⟨gname,gparams,gresult,gvars,gblocks,gsize⟩:=g;obtain⟨_,_,rfl,_,_⟩:=hG;simp only at hpt
  case' neg=>
   have hpt:(0 <= num /\ ∃ g,funcs[num.toNat]? = some g /\ (args.length:Int) = g.params) = False:=propext ⟨fun ⟨h0,v,h1,_⟩ => by
    have:=(Ge h1).1
    omega,False.elim⟩
 case' inr.inr.inr.inr.inr.inr.inr.inr.inr.inr.inr.inr.inr.inl=>
  by_cases hr:0<=num/\num<points.length
  case' pos=>
   obtain⟨j,rfl,hj⟩:=intOf hr;obtain⟨eg,heg,hG⟩:=hP.at j (by omega);have hg:points[j]?=some points[j]:=Gg (by omega)
   generalize points[j]=g at hG hg
   have hpt:(0 <= Int.ofNat j /\ ∃ p,points[(Int.ofNat j).toNat]? = some p /\ p.func = (n:Int)) = (g.func = (n:Int)):=propext ⟨fun ⟨_,v,h1,h2⟩ => by
    rw[show(Int.ofNat j).toNat=j from rfl,hg]at h1
    cases h1
    exact h2,fun h=>⟨Int.natCast_nonneg j,_,hg,h⟩⟩
   obtain⟨gfunc,gline,gscope⟩:=g;obtain⟨_,rfl,_⟩:=hG;simp only at hpt
  case' neg=>
   have hpt:(0 <= num /\ ∃ p,points[num.toNat]? = some p /\ p.func = (n:Int)) = False:=propext ⟨fun ⟨h0,v,h1,_⟩ => by
    have:=(Ge h1).1
    omega,False.elim⟩
 case' inr.inr.inr.inr.inr.inr.inr.inl|inr.inr.inr.inr.inr.inr.inr.inr.inl=>
  by_cases hr:0<=var/\var<vars.length
  case' pos=>
   obtain⟨j,rfl,hj⟩:=intOf hr;obtain⟨eg,heg,hG⟩:=hv.at j (by omega);have hg:vars[j]?=some vars[j]:=Gg (by omega)
   generalize vars[j]=g at hG hg
   have hvp:∀ p,varP p ⟨name,params,result,vars,blocks,size⟩ (Int.ofNat j) = p g:=fun p => propext ⟨fun ⟨_,v,h1,h2⟩ => by
    rw[show(Int.ofNat j).toNat=j from rfl,hg]at h1
    cases h1
    exact h2,fun h=>⟨Int.natCast_nonneg j,_,hg,h⟩⟩
   obtain⟨gname,⟨gkind,gn,gtn⟩,gwords,gfields⟩:=g;obtain⟨_,rfl,_⟩:=hG
  case' neg=>have hno:=fun p=>varP_not (p:=p) (f:=⟨name,params,result,vars,blocks,size⟩) hr
 all_goals
  repeat' (first|refine W.seq ?_|refine W.easy (k:=?_)|refine W.block ?_|refine W.skip ?_|refine W.ret ?_|refine Ret.ret (k:=?_)|(refine W.condL (h:=?_);change W _ _ _ _)|refine W.regS ?_|refine WS.done ?_|refine WS.pre (k:=?_)|(refine WS.guard (h:=?_);change WS _ _ _ _)|refine WS.len (h:=?_)|refine WS.iaddr (h:=?_)|(refine WS.cmp (k1:=fun h=>?_) (k2:=fun h=>?_)<;>simp only[Zq]at h<;>(try(exfalso;omega)))|refine WS.consN (k:=?_)|refine W.beginD (h:=?_)|(refine WD.done ⟨_,by cbv;first|done|fail,?_⟩;dsimp only)|refine WD.pre (k:=?_)|(refine WD.guard (h:=?_);change WD _ _ _ _ _ _ _ _)|refine WD.len (h:=?_)|refine WD.iaddr (h:=?_)|(refine WD.cmp (k1:=fun h=>?_) (k2:=fun h=>?_)<;>simp only[Zq]at h<;>(try(exfalso;omega)))|refine WD.oneN (k:=?_)|fail)
 all_goals first
  |(refine .inl ⟨rfl,?_⟩;simp[*];done)
  |(refine .inr ⟨rfl,?_⟩;simp[*];done)
  |(refine .inl ⟨rfl,?_⟩;(repeat' split)<;>first|trivial|omega)
  |(refine .inr ⟨rfl,?_⟩;(repeat' split)<;>first|trivial|omega)
  |(rw[if_neg (by omega),if_neg (by omega),if_neg (by omega),if_neg (by omega),if_neg (by omega),if_neg (by omega),if_pos rfl,hpt];first|exact .inl ⟨rfl,by omega⟩|exact .inr ⟨rfl,by omega⟩|exact .inr ⟨rfl,id⟩)
  |(rw[if_neg (by omega),if_neg (by omega),if_neg (by omega),if_neg (by omega),if_neg (by omega),if_neg (by omega),if_neg (by omega),if_pos rfl,hpt];first|exact .inl ⟨rfl,by omega⟩|exact .inr ⟨rfl,by omega⟩|exact .inr ⟨rfl,id⟩)
  | skip
    refine WS.call (hc:=(cs _)) (k:=?_)
  | skip
    refine WS.call (hc:=(ca _)) (k:=?_)
  | skip
    refine WD.call (hc:=(cf _)) (k:=?_)
 all_goals
  rintro _ _ (⟨rfl,hc⟩|⟨rfl,hc⟩)
  all_goals
   refine⟨_,_,_,by cbv;first|done|fail,by cbv;first|done|fail,?_⟩
 all_goals
  repeat' (first|refine W.ret ?_|refine Ret.ret (k:=?_)|refine WS.done ?_|refine WS.pre (k:=?_)|(refine WS.guard (h:=?_);change WS _ _ _ _)|refine WS.consN (k:=?_)|(refine WD.done ⟨_,by cbv;first|done|fail,?_⟩;dsimp only)|refine WD.pre (k:=?_)|(refine WD.guard (h:=?_);change WD _ _ _ _ _ _ _ _)|refine WD.iaddr (h:=?_)|(refine WD.cmp (k1:=fun h=>?_) (k2:=fun h=>?_)<;>simp only[Zq]at h<;>(try(exfalso;omega)))|refine WD.oneN (k:=?_)|fail)
 all_goals first
  |(refine .inl ⟨rfl,?_⟩;simp[*];done)
  |(refine .inr ⟨rfl,?_⟩;simp[*];done)
  |(refine .inl ⟨rfl,?_⟩;simp[varP, *];done)
  |(refine .inr ⟨rfl,?_⟩;simp[varP, *];done)
  |exact absurd hc (hno _)
  |(refine .inl ⟨rfl,?_⟩;simp only[hvp]at hc ⊢;simp[*];done)
  |(refine .inr ⟨rfl,?_⟩;simp only[hvp]at hc ⊢;simp[*];done)
  | skip
    refine WS.call (hc:=(cf _)) (k:=?_);rintro _ _ (⟨rfl,hc'⟩|⟨rfl,hc'⟩)
    all_goals
     refine⟨_,_,_,by cbv;first|done|fail,by cbv;first|done|fail,?_⟩
 all_goals
  repeat' (first|refine W.ret ?_|refine Ret.ret (k:=?_)|refine WS.done ?_|refine WS.pre (k:=?_)|refine WS.consN (k:=?_)|fail)
 all_goals first
  |(refine .inl ⟨rfl,?_⟩;simp[*];done)
  |(refine .inr ⟨rfl,?_⟩;simp[*];done)
def sumTo{α:Type}(f:α->Nat)(l:List α)(i:Nat):Nat:=((l.take i).map f).sum
theorem sumTo_zero{α:Type}(f:α->Nat)(l:List α):sumTo f l 0=0:=rfl
theorem sumTo_succ{α:Type}(f:α->Nat)(l:List α){i:Nat}(h:i<l.length):sumTo f l (i+1)=sumTo f l i+f l[i]:=by
 unfold sumTo;rw[List.take_succ_eq_append_getElem h,List.map_append,List.sum_append];simp
theorem sumTo_all{α:Type}(f:α->Nat)(l:List α){i:Nat}(h:l.length<=i):sumTo f l i=(l.map f).sum:=by
 unfold sumTo;rw[List.take_of_length_le h]
theorem sumTo_le{α:Type}(f:α->Nat)(l:List α)(i:Nat):sumTo f l i<=(l.map f).sum:=by
 unfold sumTo
 conv=>rhs;rw[<-List.take_append_drop i l,List.map_append,List.sum_append]
 exact Nat.le_add_right _ _
def insSum(f:TFunc):Nat:=(f.blocks.map fun b=>b.ins.length).sum
def funcSum(f:TFunc):Nat:=f.blocks.length+f.vars.length+insSum f
def largeN(u:TUnit):Nat:=u.funcs.length+u.points.length+(u.funcs.map funcSum).sum
theorem large{u:TUnit}{e:List A}(hu:UnitR u e)(hn:largeN u<9223372036854775807):WC E 26 [.agg e] [] fun x _=>IsB (6000<largeN u) x:=by
 obtain⟨funcs,main,points⟩:=u;obtain⟨_,_,rfl,⟨nf,fs,n,rfl,hfl,h1,hf,_⟩,⟨np,ps,m,rfl,hpl,h2,hp,_⟩⟩:=hu;simp only[largeN]at hf hp hn h1 h2 ⊢
 refine WC.enter rfl rfl rfl ?_;unfold b26 ki kb mt mw ft ll ov oo
 repeat' (first|refine W.seq ?_|refine W.easy (k:=?_)|refine W.block ?_|refine W.regS ?_|refine WS.done ?_|refine WS.pre (k:=?_)|refine WS.len (h:=?_)|(refine WS.add (h:=fun c hc=>?_)<;>(try simp only[oC]at hc))|refine WS.consN (k:=?_)|fail)
 refine W.forS n (fun i (c:Int) σ=>sn 3 i (si 5 c σ)) (fun i (c:Int)=>c=funcs.length+points.length+sumTo funcSum funcs i) 0 (Nat.zero_le _) ?_ ?_
 ·exact⟨_,by cbv,by simp only[sumTo_zero];omega⟩
 intro i c hi hc;refine W.norm (k:=?_);unfold l26_1 ki mt mw fa ft ll iz ov oo
 by_cases hin:i<n
 ·have hif:i<funcs.length:=by omega
  obtain⟨e,he,hR⟩:=hf.at i hif;have hs:=sumTo_succ funcSum funcs hif
  have hle:=sumTo_le funcSum funcs (i+1);generalize funcs[i]=f at hR hs;obtain⟨name,params,result,vars,blocks,size⟩:=f;obtain⟨_,_,rfl,⟨nv,vs,nvl,rfl,hvl,h3,hv,_⟩,⟨nb,bs,nbl,rfl,hbl,h4,hb,_⟩⟩:=hR;simp only[funcSum,insSum]at hs hv hb h3 h4
  repeat' (first|refine W.seq ?_|refine W.easy (k:=?_)|refine W.block ?_|refine W.skip ?_|(refine W.condL (h:=?_);change W _ _ _ _)|refine W.regS ?_|refine WS.done ?_|refine WS.pre (k:=?_)|refine WS.len (h:=?_)|(refine WS.cmp (k1:=fun h=>?_) (k2:=fun h=>?_)<;>simp only[Zq]at h<;>(try(exfalso;omega)))|refine W.beginD (h:=?_)|(refine WD.done ⟨_,by cbv;first|done|fail,?_⟩;dsimp only)|refine WD.pre (k:=?_)|refine WD.len (h:=?_)|refine WD.iaddr (h:=?_)|(refine WD.add (h:=fun c hc=>?_)<;>(try simp only[oC]at hc))|refine WD.oneN (k:=?_)|fail)
  refine W.forS nbl (fun j (c:Int) σ=>sn 6 j (si 5 c σ)) (fun j (c:Int)=>c=funcs.length+points.length+sumTo funcSum funcs i+blocks.length+vars.length+sumTo (fun b=>b.ins.length) blocks j) 0 (Nat.zero_le _) ?_ ?_
  ·exact⟨_,by cbv,by simp only[sumTo_zero];omega⟩
  intro j c hj hc;refine W.norm (k:=?_);unfold l26_0 ki mt mw fa ft ll iz ov oo
  by_cases hjn:j<nbl
  ·have hjb:j<blocks.length:=by omega
   obtain⟨e2,he2,hR2⟩:=hb.at j hjb;have hs2:=sumTo_succ (fun b:TBlock=>b.ins.length) blocks hjb
   have hle2:=sumTo_le (fun b:TBlock=>b.ins.length) blocks (j+1);generalize blocks[j]=b at hR2 hs2;obtain⟨ins,term⟩:=b;obtain⟨_,rfl,⟨ni,is,nil,rfl,hil,h5,hI,_⟩⟩:=hR2;simp only at hs2 h5
   repeat' (first|refine W.seq ?_|refine W.block ?_|refine W.skip ?_|(refine W.condL (h:=?_);change W _ _ _ _)|refine W.regS ?_|refine WS.done ?_|refine WS.pre (k:=?_)|refine WS.len (h:=?_)|refine WS.iaddr (h:=?_)|(refine WS.cmp (k1:=fun h=>?_) (k2:=fun h=>?_)<;>simp only[Zq]at h<;>(try(exfalso;omega)))|refine WS.inc (h:=?_)|(refine WS.add (h:=fun c hc=>?_)<;>(try simp only[oC]at hc))|refine WS.consN (k:=?_)|fail)
   exact⟨by omega,_,by cbv,by omega⟩
  ·have hs2:=sumTo_all (fun b:TBlock=>b.ins.length) blocks (i:=j) (by omega)
   repeat' (first|refine W.seq ?_|refine W.exit ?_|(refine W.condL (h:=?_);change W _ _ _ _)|refine W.regS ?_|refine WS.done ?_|refine WS.pre (k:=?_)|refine WS.len (h:=?_)|refine WS.iaddr (h:=?_)|(refine WS.cmp (k1:=fun h=>?_) (k2:=fun h=>?_)<;>simp only[Zq]at h<;>(try(exfalso;omega)))|refine WS.inc (h:=?_)|refine WS.consN (k:=?_)|fail)
   exact⟨by omega,_,by cbv,by omega⟩
 ·have hs:=sumTo_all funcSum funcs (i:=i) (by omega)
  repeat' (first|refine W.seq ?_|refine W.ret ?_|refine W.exit ?_|refine Ret.ret (k:=?_)|(refine W.condL (h:=?_);change W _ _ _ _)|refine W.regS ?_|refine WS.done ?_|refine WS.pre (k:=?_)|refine WS.len (h:=?_)|(refine WS.cmp (k1:=fun h=>?_) (k2:=fun h=>?_)<;>simp only[Zq]at h<;>(try(exfalso;omega)))|refine WS.consN (k:=?_)|fail)
  all_goals first
   |exact .inl ⟨rfl,by omega⟩
   |exact .inr ⟨rfl,by omega⟩
set_option maxHeartbeats 8000000
structure TermP(f:TFunc)(t:TTerm):Prop where
 next:∀ d,d∈nextF t->0<=d/\d<f.blocks.length
 kind:t.kind=1\/(t.kind=3/\ -1<=t.a/\t.a<f.size)\/(t.kind=2/\0<=t.a/\t.a<f.size)
/-- The k-th instruction of block i, of which all ahead are Phis iff head. -/
structure InP(u:TUnit)(n:Int)(f:TFunc)(i:Nat)(l:List TIns)(k:Nat)(x:TIns):Prop where
 known:knownP u f n x
 phi:x.op=47->(∀(j:Nat) (y:TIns),j<k->l[j]?=some y->y.op=47)/\i≠0/\ ∃w,(waysF f)[i]?=some w/\x.args.length=w.length
 makes:-1<=makesF x/\makesF x<f.size/\(makesF x<0->x.op=42\/ ¬makesB x)
 uses:∀ d,d∈usesF x->0<=d/\d<f.size
structure FunP(u:TUnit)(n:Int)(f:TFunc):Prop where
 head:1<=f.blocks.length/\f.blocks.length<=2000/\0<=f.size/\f.size<=524288/\0<=f.params/\f.params<=f.vars.length
 term:∀ (i:Nat) (b:TBlock),f.blocks[i]?=some b->TermP f b.term
 many:insSum f<=524288
 ins:∀ (i:Nat) (b:TBlock),f.blocks[i]?=some b-> ∀(k:Nat) (x:TIns),b.ins[k]?=some x->InP u n f i b.ins k x
theorem upto_snoc{α:Type}{l:List α}{P:Nat->α->Prop}{i:Nat}{x:α}(h:∀ (j:Nat) (y:α),j<i->l[j]?=some y->P j y)(hx:l[i]?=some x)(p:P i x):∀ (j:Nat) (y:α),j<i+1->l[j]?=some y->P j y:=by
 intro j y hj hy
 by_cases hji:j<i
 ·exact h j y hji hy
 ·have:j=i:=by omega
  subst this;rw[hx]at hy;cases hy;exact p
theorem upto_all{α:Type}{l:List α}{P:Nat->α->Prop}{n:Nat}(h:∀ (j:Nat) (y:α),j<n->l[j]?=some y->P j y)(hn:n=l.length):∀ (j:Nat) (y:α),l[j]?=some y->P j y:=
 fun j y hy=>h j y (by have:=(Ge hy).1;omega) hy
theorem upto_zero{α:Type}{l:List α}{P:Nat->α->Prop}:∀ (j:Nat) (y:α),j<0->l[j]?=some y->P j y:=fun _ _ h=>absurd h (Nat.not_lt_zero _)
theorem mem_of_upto{l:List Int}{P:Int->Prop}(h:∀ (j:Nat) (y:Int),l[j]?=some y->P y):∀ d,d∈l->P d:=fun d hd=>by
 obtain⟨j,hj⟩:=List.getElem?_of_mem hd;exact h j d hj
theorem uses_len(x:TIns):(usesF x).length<=x.args.length+2:=by
 unfold usesF;split
 ·simp
 split
 ·simp
 split
 ·omega
 split
 ·split<;>simp
 split<;>simp
theorem waysTo_len:∀ (bs:List TBlock) (i:Nat) (w:List (List Int)),(waysTo bs i w).length=w.length
 |[],_,w=>rfl
 |b::bs,i,w=>by rw[waysTo,waysTo_len bs,addWays_len]
theorem ends_of{f:TFunc}(h:∀ (i:Nat) (b:TBlock),f.blocks[i]?=some b->TermP f b.term):EndsOK f:=fun b hb=>by
 obtain⟨i,hi⟩:=List.getElem?_of_mem hb;exact(h i b hi).next
theorem funMay_ok{u:TUnit}{eu:List A}(hu:UnitR u eu){n:Nat}{f:TFunc}(hf:u.funcs[n]?=some f)(hs:FuncSmall f)(hsum:insSum f<=1000000000):
  WC E 35 [.agg eu,.v (.int .i64 (Int.ofNat n))] [] fun r _=>IsB (FunP u n f) r:=by
 have hu0:=hu;have hf0:=hf
 obtain⟨funcs,main,points⟩:=u;obtain⟨_,_,rfl,⟨nf,fs,fl,rfl,hfl,h1,hF,_⟩,⟨np,ps,pl,rfl,hpl,h2,hP,_⟩⟩:=hu;simp only at hf hF hP h1 h2;have hnl:=(Ge hf).1
 obtain⟨e,he,hR⟩:=hF.at n hnl;have hfe:funcs[n]=f:=by rw[Gg hnl]at hf;exact Option.some.inj hf
 rw[hfe]at hR;have hways:=ways_ok hR hs.b
 obtain⟨name,params,result,vars,blocks,size⟩:=f;obtain⟨_,_,rfl,⟨nv,vs,nvl,rfl,hvl,h3,hv,_⟩,⟨nb,bs,nbl,rfl,hbl,h4,hb,_⟩⟩:=hR;simp only at h3 h4 hv hb;have hsb:=hs.b
 simp only at hsb;refine WC.enter rfl rfl rfl ?_;unfold b35 ki kb vi mt mw ft ll lg lt iz og ov oo
 repeat' (first|refine W.seq ?_|refine W.easy (k:=?_)|refine W.block ?_|refine W.skip ?_|refine W.ret ?_|refine Ret.ret (k:=?_)|(refine W.condL (h:=?_);change W _ _ _ _)|refine W.regS ?_|refine WS.done ?_|refine WS.pre (k:=?_)|(refine WS.guard (h:=?_);change WS _ _ _ _)|refine WS.len (h:=?_)|refine WS.iaddr (h:=?_)|(refine WS.cmp (k1:=fun h=>?_) (k2:=fun h=>?_)<;>simp only[Zq]at h<;>(try(exfalso;omega)))|refine WS.consN (k:=?_)|fail)
 all_goals try
  refine .inr ⟨rfl,fun h=>?_⟩;have:=h.head
  simp only at this;omega
 refine W.forS nbl (fun i (c:Int) σ=>sn 6 i (si 15 c σ)) (fun i (c:Int)=>c=sumTo (fun b=>b.ins.length) blocks i/\ ∀(j:Nat) (b:TBlock),j<i->blocks[j]?=some b->TermP ⟨name,params,result,vars,blocks,size⟩ b.term) 0 (Nat.zero_le _) ?_ ?_
 ·exact⟨_,by cbv,by simp only[sumTo_zero];rfl,upto_zero⟩
 rintro i c hi ⟨hc,hT⟩;refine W.norm (k:=?_);unfold l35_4 ki kb vi mt mw fa ft ll lg lt iz og ov oo
 by_cases hin:i<nbl
 ·as_aux_lemma=>
   have hib:i<blocks.length:=by omega
   obtain⟨eb,heb,hRb⟩:=hb.at i hib;have hbi:blocks[i]?=some blocks[i]:=Gg hib
   have hsucc:=sumTo_succ (fun b:TBlock=>b.ins.length) blocks hib;have hle:=sumTo_le (fun b:TBlock=>b.ins.length) blocks (i+1)
   simp only[insSum]at hsum;generalize blocks[i]=b at hRb hbi hsucc;obtain⟨ins,⟨kind,a,to,els⟩⟩:=b;obtain⟨_,rfl,⟨ni,is,nil,rfl,hil,h5,hI,_⟩⟩:=hRb;simp only at h5 hsucc
   repeat' (first|refine W.seq ?_|refine W.block ?_|refine W.skip ?_|(refine W.condL (h:=?_);change W _ _ _ _)|refine W.regS ?_|refine WS.done ?_|refine WS.pre (k:=?_)|refine WS.len (h:=?_)|refine WS.iaddr (h:=?_)|(refine WS.cmp (k1:=fun h=>?_) (k2:=fun h=>?_)<;>simp only[Zq]at h<;>(try(exfalso;omega)))|refine WS.consN (k:=?_)|fail)
   refine WS.call (hc:=(next_ok ⟨kind,a,to,els⟩)) (k:=?_);rintro l _ ⟨nl,ls,m,rfl,hm,hml,hL,_⟩;have hnx:∀ Q:Prop,(TermP ⟨name,params,result,vars,blocks,size⟩ ⟨kind,a,to,els⟩->Q)->FunP ⟨funcs,main,points⟩ n ⟨name,params,result,vars,blocks,size⟩->Q:=fun Q k h=>k (h.term i _ hbi)
   have hmk:=fun h=>TermP.mk (f:=⟨name,params,result,vars,blocks,size⟩) (t:=⟨kind,a,to,els⟩) h;have hex:=fun h:TermP ⟨name,params,result,vars,blocks,size⟩ ⟨kind,a,to,els⟩=>h.next
   have hl2:=next_len ⟨kind,a,to,els⟩;generalize nextF ⟨kind,a,to,els⟩=nx at*
   refine⟨_,_,_,by cbv;first|done|fail,by cbv;first|done|fail,?_⟩
   repeat' (first|refine W.seq ?_|refine W.easy (k:=?_)|refine W.block ?_|refine W.frz (k:=?_)|refine WS.done ?_|refine WS.consN (k:=?_)|fail)
   refine W.forS m (fun k (_:Unit) σ=>sn 9 k σ) (fun k _=> ∀(j:Nat) (y:Int),j<k->nx[j]?=some y->0<=y/\y<blocks.length) 0 (Nat.zero_le _) ?_ ?_
   ·exact⟨(),by cbv,upto_zero⟩
   rintro k _ hk hN;refine W.norm (k:=?_);unfold l35_3 ki kb mt mw ll iz og ov oo
   by_cases hkm:k<m
   ·have hkn:k<nx.length:=by omega
    obtain⟨ek,hek,rfl⟩:=hL.at k hkn;have hky:nx[k]?=some nx[k]:=Gg hkn
    generalize nx[k]=y at*
    repeat' (first|refine W.seq ?_|refine W.easy (k:=?_)|refine W.block ?_|refine W.skip ?_|refine W.ret ?_|refine Ret.ret (k:=?_)|(refine W.condL (h:=?_);change W _ _ _ _)|refine W.regS ?_|refine WS.done ?_|refine WS.pre (k:=?_)|refine WS.len (h:=?_)|(refine WS.cmp (k1:=fun h=>?_) (k2:=fun h=>?_)<;>simp only[Zq]at h<;>(try(exfalso;omega)))|refine WS.inc (h:=?_)|refine WS.consN (k:=?_)|refine W.beginD (h:=?_)|(refine WD.done ⟨_,by cbv;first|done|fail,?_⟩;dsimp only)|refine WD.pre (k:=?_)|(refine WD.guard (h:=?_);change WD _ _ _ _ _ _ _ _)|refine WD.len (h:=?_)|refine WD.iaddr (h:=?_)|(refine WD.cmp (k1:=fun h=>?_) (k2:=fun h=>?_)<;>simp only[Zq]at h<;>(try(exfalso;omega)))|fail)
    all_goals first
     | (refine .inr ⟨rfl,hnx _ fun h => ?_⟩
        have:=hex h y (Mg hky)
        simp only at this
        omega)
     |exact⟨by omega,(),by cbv,upto_snoc hN hky (by omega)⟩
   ·have hall:∀ d,d∈nx->0<=d/\d<blocks.length:=mem_of_upto (upto_all hN (by omega))
    repeat' (first|refine W.seq ?_|refine W.easy (k:=?_)|refine W.skip ?_|refine W.ret ?_|refine W.exit ?_|refine Ret.ret (k:=?_)|(refine W.condL (h:=?_);change W _ _ _ _)|refine W.regS ?_|refine WS.done ?_|refine WS.pre (k:=?_)|(refine WS.guard (h:=?_);change WS _ _ _ _)|refine WS.len (h:=?_)|refine WS.iaddr (h:=?_)|(refine WS.cmp (k1:=fun h=>?_) (k2:=fun h=>?_)<;>simp only[Zq]at h<;>(try(exfalso;omega)))|refine WS.inc (h:=?_)|(refine WS.add (h:=fun c hc=>?_)<;>(try simp only[oC]at hc))|refine WS.consN (k:=?_)|fail)
    all_goals first
     | (refine .inr ⟨rfl,hnx _ fun h => ?_⟩
        have:=h.kind
        simp only at this
        omega)
     |exact⟨by omega,_,by cbv,by omega,upto_snoc hT hbi (hmk hall (by simp only;omega))⟩
 ·have hall:=upto_all hT (by omega);have hE:=ends_of (f:=⟨name,params,result,vars,blocks,size⟩) hall
  have hlen:=sumTo_all (fun b:TBlock=>b.ins.length) blocks (i:=i) (by omega);have hsi:=hs.i
  have hsa:=hs.a;simp only at hsi hsa
  repeat' (first|refine W.seq ?_|refine W.easy (k:=?_)|refine W.skip ?_|refine W.ret ?_|refine W.exit ?_|refine W.frz (k:=?_)|refine Ret.ret (k:=?_)|(refine W.condL (h:=?_);change W _ _ _ _)|refine W.regS ?_|refine WS.done ?_|refine WS.pre (k:=?_)|refine WS.len (h:=?_)|(refine WS.cmp (k1:=fun h=>?_) (k2:=fun h=>?_)<;>simp only[Zq]at h<;>(try(exfalso;omega)))|fail)
  ·refine .inr ⟨rfl,fun h=>?_⟩;have:=h.many
   simp only[insSum]at this;omega
  have hmany:insSum ⟨name,params,result,vars,blocks,size⟩<=524288:=by
   simp only[insSum];omega
  refine WS.call (hc:=(hways hE)) (k:=?_);rintro w _ ⟨nw,ws,m,rfl,hwl,hwm,hW,_⟩
  have hwlen:(waysF ⟨name,params,result,vars,blocks,size⟩).length=blocks.length:=by
   unfold waysF;rw[waysTo_len,List.length_replicate]
  have hmkI:=fun i l k x a b=>InP.mk (u:=⟨funcs,main,points⟩) (n:=n) (f:=⟨name,params,result,vars,blocks,size⟩) (i:=i) (l:=l) (k:=k) (x:=x) a b;have hphI:=fun i l k x=>InP.phi (u:=⟨funcs,main,points⟩) (n:=n) (f:=⟨name,params,result,vars,blocks,size⟩) (i:=i) (l:=l) (k:=k) (x:=x)
  generalize waysF ⟨name,params,result,vars,blocks,size⟩=wf at*
  refine⟨_,_,_,by cbv;first|done|fail,by cbv;first|done|fail,?_⟩
  repeat' (first|refine W.seq ?_|refine W.easy (k:=?_)|refine W.block ?_|refine W.frz (k:=?_)|refine WS.done ?_|refine WS.consN (k:=?_)|fail)
  refine W.forS nbl (fun i (_:Unit) σ=>sn 17 i σ) (fun i _=> ∀(j:Nat) (b:TBlock),j<i->blocks[j]?=some b-> ∀(k:Nat) (x:TIns),b.ins[k]?=some x->InP ⟨funcs,main,points⟩ n ⟨name,params,result,vars,blocks,size⟩ j b.ins k x) 0 (Nat.zero_le _) ?_ ?_
  ·exact⟨(),by cbv,upto_zero⟩
  clear hi hc hT hlen;intro i _ hi hJ;refine W.norm (k:=?_);unfold l35_2 ki kb mt mw ft ll ov oo
  by_cases hin:i<nbl
  ·have hib:i<blocks.length:=by omega
   obtain⟨eb,heb,hRb⟩:=hb.at i hib;have hbi:blocks[i]?=some blocks[i]:=Gg hib
   have hil:=hsi _ (Gm hib);have hial:=hsa _ (Gm hib)
   have hwi:i<wf.length:=by omega
   obtain⟨ew,hew,hC⟩:=hW.at i hwi;have hwi':wf[i]?=some wf[i]:=Gg hwi
   generalize wf[i]=wl at hC hwi';generalize blocks[i]=b at hRb hbi hil hial;obtain⟨ins,⟨kind,a,to,els⟩⟩:=b;obtain⟨_,rfl,⟨ni,is,nil,rfl,hil2,h5,hI,_⟩⟩:=hRb;simp only at h5 hil hial hI
   repeat' (first|refine W.seq ?_|refine W.easy (k:=?_)|refine W.block ?_|refine W.skip ?_|(refine W.condL (h:=?_);change W _ _ _ _)|refine W.regS ?_|refine WS.done ?_|refine WS.pre (k:=?_)|refine WS.len (h:=?_)|(refine WS.cmp (k1:=fun h=>?_) (k2:=fun h=>?_)<;>simp only[Zq]at h<;>(try(exfalso;omega)))|fail)
   refine W.forS nil (fun k (hd:Bool) σ=>sn 19 k (sv 21 (.v (.bool hd)) σ)) (fun k hd=>(hd=true↔ ∀(j:Nat) (y:TIns),j<k->ins[j]?=some y->y.op=47)/\ ∀(j:Nat) (y:TIns),j<k->ins[j]?=some y->InP ⟨funcs,main,points⟩ n ⟨name,params,result,vars,blocks,size⟩ i ins j y) 0 (Nat.zero_le _) ?_ ?_
   ·exact⟨true,by cbv,⟨fun _=>upto_zero,fun _=>rfl⟩,upto_zero⟩
   rintro k hd hk ⟨hh,hK⟩;refine W.norm (k:=?_);unfold l35_1 ki kb vi mt mw fa ft ll lg lt iz og ov oo
   by_cases hkn:k<nil
   ·have hki:k<ins.length:=by omega
    obtain⟨ek,hek,hRk⟩:=hI.at k hki;have hxk:ins[k]?=some ins[k]:=Gg hki
    have hxa:=hial _ (Gm hki);generalize ins[k]=x at hRk hxk hxa;have ck:=known_ok hu0 hf0 hRk
    have cm:=makes_ok hRk;have cb:=makesB_ok hRk
    have cu:=uses_ok hRk (by omega);have hbad:∀ Q:Prop,(InP ⟨funcs,main,points⟩ n ⟨name,params,result,vars,blocks,size⟩ i ins k x->Q)->FunP ⟨funcs,main,points⟩ n ⟨name,params,result,vars,blocks,size⟩->Q:=fun Q kk h=>kk (h.ins i _ hbi k _ hxk)
    have p1:=fun h:InP ⟨funcs,main,points⟩ n ⟨name,params,result,vars,blocks,size⟩ i ins k x=>h.known;have p2:=hphI i ins k x
    have p3:=fun h:InP ⟨funcs,main,points⟩ n ⟨name,params,result,vars,blocks,size⟩ i ins k x=>h.makes;have p4:=fun h:InP ⟨funcs,main,points⟩ n ⟨name,params,result,vars,blocks,size⟩ i ins k x=>h.uses
    have pm:=hmkI i ins k x;have hul:=uses_len x
    obtain⟨op,dst,xa,xb,var,num,args⟩:=x;obtain⟨_,rfl,⟨na,as,nal,rfl,hal,h6,hA,_⟩⟩:=hRk;simp only at h6 hA hxa p1 p2 p3 p4 pm hul;generalize knownP ⟨funcs,main,points⟩ ⟨name,params,result,vars,blocks,size⟩ n ⟨op,dst,xa,xb,var,num,args⟩=kp at*
    generalize makesF ⟨op,dst,xa,xb,var,num,args⟩=mv at*
    generalize makesB ⟨op,dst,xa,xb,var,num,args⟩=mb at*
    generalize usesF ⟨op,dst,xa,xb,var,num,args⟩=us at*
    by_cases h47:op=47
    case' pos=>
     subst h47;rcases hC with⟨rfl,rfl⟩|⟨old,rfl,hold⟩
     case' inr=>
      have hol:=hold.len;obtain⟨no,hno⟩:∃ no,no=wl.length:=⟨_,rfl⟩;rw[<-hno]at hol
    all_goals cases hd
    all_goals
     repeat' (first|refine W.seq ?_|refine W.block ?_|refine W.skip ?_|(refine W.condL (h:=?_);change W _ _ _ _)|refine W.regS ?_|refine WS.done ?_|refine WS.pre (k:=?_)|(refine WS.guard (h:=?_);change WS _ _ _ _)|refine WS.len (h:=?_)|refine WS.iaddr (h:=?_)|(refine WS.cmp (k1:=fun h=>?_) (k2:=fun h=>?_)<;>simp only[Zq]at h<;>(try(exfalso;omega)))|refine WS.consN (k:=?_)|refine W.beginD (h:=?_)|refine WD.pre (k:=?_)|fail)
    all_goals
     refine WD.call (hc:=(ck)) (k:=?_);rintro _ _ (⟨rfl,hk'⟩|⟨rfl,hk'⟩)
     all_goals
      refine⟨_,_,_,by cbv;first|done|fail,by cbv;first|done|fail,?_⟩
    all_goals
     repeat' (first|refine W.seq ?_|refine W.easy (k:=?_)|refine W.skip ?_|refine W.ret ?_|refine Ret.ret (k:=?_)|(refine W.condL (h:=?_);change W _ _ _ _)|refine W.regS ?_|refine WS.pre (k:=?_)|(refine WD.done ⟨_,by cbv;first|done|fail,?_⟩;dsimp only)|refine WD.pre (k:=?_)|(refine WD.guard (h:=?_);change WD _ _ _ _ _ _ _ _)|refine WD.len (h:=?_)|refine WD.iaddr (h:=?_)|(refine WD.cmp (k1:=fun h=>?_) (k2:=fun h=>?_)<;>simp only[Zq]at h<;>(try(exfalso;omega)))|refine WD.oneN (k:=?_)|fail)
    all_goals first
     | (refine .inr ⟨rfl,hbad _ fun h => ?_⟩
        first
         |exact hk' (p1 h)
         | (obtain ⟨w1,w2,w,w3,w4⟩:=p2 h rfl
            first
             |(have:=hh.2 w1;simp at this;done)
             |omega
             | (rw [hwi'] at w3
                cases w3
                (try simp only[List.length_nil]at w4)
                omega)))
     | skip
       refine WS.call (hc:=(cm)) (k:=?_);rintro _ _ rfl;refine⟨_,_,_,by cbv;first|done|fail,by cbv;first|done|fail,?_⟩
       repeat' (first|refine W.seq ?_|refine W.easy (k:=?_)|refine W.skip ?_|refine W.ret ?_|refine W.frz (k:=?_)|refine Ret.ret (k:=?_)|(refine W.condL (h:=?_);change W _ _ _ _)|refine W.regS ?_|refine WS.done ?_|refine WS.pre (k:=?_)|(refine WS.guard (h:=?_);change WS _ _ _ _)|(refine WS.cmp (k1:=fun h=>?_) (k2:=fun h=>?_)<;>simp only[Zq]at h<;>(try(exfalso;omega)))|refine WS.consN (k:=?_)|fail)
    all_goals try
     refine .inr ⟨rfl,hbad _ fun h=>?_⟩;have:=p3 h
     (try simp only at this)
     omega
    all_goals try
     refine WS.call (hc:=(cb)) (k:=?_);rintro _ _ (⟨rfl,hb'⟩|⟨rfl,hb'⟩)
     all_goals
      refine⟨_,_,_,by cbv;first|done|fail,by cbv;first|done|fail,?_⟩
     all_goals
      repeat' (first|refine W.seq ?_|refine W.easy (k:=?_)|refine W.skip ?_|refine W.ret ?_|refine W.frz (k:=?_)|refine Ret.ret (k:=?_)|(refine W.condL (h:=?_);change W _ _ _ _)|refine W.regS ?_|refine WS.done ?_|refine WS.pre (k:=?_)|fail)
    all_goals try
     refine .inr ⟨rfl,hbad _ fun h=>?_⟩;have:=(p3 h).2.2 (by omega)
     (try simp only at this)
     first
      |omega
      | (rcases this with h | h
         ·omega
         ·exact h hb')
    all_goals
     refine WS.call (hc:=(cu)) (k:=?_);rintro _ _ ⟨nu,es,nn,rfl,hn1,hn2,hU,_⟩;refine⟨_,_,_,by cbv;first|done|fail,by cbv;first|done|fail,?_⟩
    all_goals
     repeat' (first|refine W.seq ?_|refine W.easy (k:=?_)|refine W.block ?_|refine W.frz (k:=?_)|refine WS.done ?_|refine WS.consN (k:=?_)|fail)
    all_goals
     as_aux_lemma=>
      have hIn:(∀ d,d ∈ us -> 0 <= d /\ d < size) -> InP ⟨funcs,main,points⟩ n ⟨name,params,result,vars,blocks,size⟩ i ins k _:=fun hall' => pm hk' (by
       first
        |exact fun h=>absurd h h47
        | exact fun _ => ⟨hh.1 rfl,by omega,_,hwi',by (try simp only [List.length_nil]); omega⟩) ⟨by omega,by omega,fun h0 => by
       first
        |(exfalso;omega)
        |exact .inr hb'
        |exact .inl (by omega)⟩ hall'
      refine W.forS nn (fun q (_:Unit) σ=>sn 27 q σ) (fun q _=> ∀(j:Nat) (y:Int),j<q->us[j]?=some y->0<=y/\y<size) 0 (Nat.zero_le _) ?_ ?_
      ·exact⟨(),by cbv,upto_zero⟩
      rintro q _ hq hN;refine W.norm (k:=?_);unfold l35_0 ki kb mt mw ll iz og ov oo
      by_cases hqn:q<nn
      ·have hqu:q<us.length:=by omega
       obtain⟨eq,heq,rfl⟩:=hU.at q hqu;have hqy:us[q]?=some us[q]:=Gg hqu
       generalize us[q]=y at*
       repeat' (first|refine W.seq ?_|refine W.easy (k:=?_)|refine W.block ?_|refine W.skip ?_|refine W.ret ?_|refine Ret.ret (k:=?_)|(refine W.condL (h:=?_);change W _ _ _ _)|refine W.regS ?_|refine WS.done ?_|refine WS.pre (k:=?_)|refine WS.len (h:=?_)|(refine WS.cmp (k1:=fun h=>?_) (k2:=fun h=>?_)<;>simp only[Zq]at h<;>(try(exfalso;omega)))|refine WS.inc (h:=?_)|refine WS.consN (k:=?_)|refine W.beginD (h:=?_)|(refine WD.done ⟨_,by cbv;first|done|fail,?_⟩;dsimp only)|refine WD.pre (k:=?_)|(refine WD.guard (h:=?_);change WD _ _ _ _ _ _ _ _)|refine WD.iaddr (h:=?_)|(refine WD.cmp (k1:=fun h=>?_) (k2:=fun h=>?_)<;>simp only[Zq]at h<;>(try(exfalso;omega)))|fail)
       all_goals first
        | (refine .inr ⟨rfl,hbad _ fun h => ?_⟩
           have:=p4 h y (Mg hqy)
           (try simp only at this)
           omega)
        |exact⟨by omega,(),by cbv,upto_snoc hN hqy (by omega)⟩
      ·have hall':∀ d,d∈us->0<=d/\d<size:=mem_of_upto (upto_all hN (by omega))
       repeat' (first|refine W.seq ?_|refine W.exit ?_|(refine W.condL (h:=?_);change W _ _ _ _)|refine W.regS ?_|refine WS.done ?_|refine WS.pre (k:=?_)|refine WS.len (h:=?_)|(refine WS.cmp (k1:=fun h=>?_) (k2:=fun h=>?_)<;>simp only[Zq]at h<;>(try(exfalso;omega)))|refine WS.inc (h:=?_)|refine WS.consN (k:=?_)|fail)
       all_goals first
        |exact⟨by omega,true,by cbv,⟨fun _=>upto_snoc (hh.1 rfl) hxk rfl,fun _=>rfl⟩,upto_snoc hK hxk (hIn hall')⟩
        |exact⟨by omega,false,by cbv,⟨fun h=>(by cases h),fun h=>absurd (h k _ (by omega) hxk) h47⟩,upto_snoc hK hxk (hIn hall')⟩
   ·
    repeat' (first|refine W.seq ?_|refine W.exit ?_|(refine W.condL (h:=?_);change W _ _ _ _)|refine W.regS ?_|refine WS.done ?_|refine WS.pre (k:=?_)|refine WS.len (h:=?_)|refine WS.iaddr (h:=?_)|(refine WS.cmp (k1:=fun h=>?_) (k2:=fun h=>?_)<;>simp only[Zq]at h<;>(try(exfalso;omega)))|refine WS.inc (h:=?_)|refine WS.consN (k:=?_)|fail)
    exact⟨by omega,(),by cbv,upto_snoc hJ hbi (upto_all hK (by simp only;omega))⟩
  ·
   repeat' (first|refine W.seq ?_|refine W.easy (k:=?_)|refine W.ret ?_|refine W.exit ?_|refine Ret.ret (k:=?_)|(refine W.condL (h:=?_);change W _ _ _ _)|refine W.regS ?_|refine WS.done ?_|refine WS.pre (k:=?_)|refine WS.len (h:=?_)|(refine WS.cmp (k1:=fun h=>?_) (k2:=fun h=>?_)<;>simp only[Zq]at h<;>(try(exfalso;omega)))|fail)
   have h0:1<=blocks.length/\blocks.length<=2000/\0<=size/\size<=524288/\0<=params/\params<=vars.length:=by omega
   exact .inl ⟨rfl,⟨h0,hall,hmany,upto_all hJ (by simp only;omega)⟩⟩
def PointP(u:TUnit)(p:TPoint):Prop:=0<=p.func/\ ∃f,u.funcs[p.func.toNat]?=some f/\ ∀d,d∈p.scope->0<=d/\d<f.vars.length
structure MayP(u:TUnit):Prop where
 main:0<=u.main/\ ∃f,u.funcs[u.main.toNat]?=some f/\f.params=0
 few:u.funcs.length<=64
 points:∀ (i:Nat) (p:TPoint),u.points[i]?=some p->PointP u p
 vars:∀ (i:Nat) (f:TFunc),u.funcs[i]?=some f-> ∀(k:Nat) (v:TVar),f.vars[k]?=some v->1<=v.words/\v.words<=16
 funcs:∀ (i:Nat) (f:TFunc),u.funcs[i]?=some f->FunP u i f
theorem may_ok{u:TUnit}{e:List A}(hu:UnitR u e)(hs:∀ f,f∈u.funcs->FuncSmall f/\insSum f<=1000000000)(hp:u.points.length<=100000/\ ∀p,p∈u.points->p.scope.length<=100000000):WC E 16 [.agg e] [] fun r _=>IsB (MayP u) r:=by
 have hu0:=hu;obtain⟨funcs,main,points⟩:=u;obtain⟨_,_,rfl,⟨nf,fs,n,rfl,hfl,h1,hf,_⟩,⟨np,ps,m,rfl,hpl,h2,hP,_⟩⟩:=hu;simp only at hs hp h1 h2 hf hP
 have hmain:MayP ⟨funcs,main,points⟩->0<=main/\main<funcs.length/\funcs.length<=64:=fun h=>by
  obtain⟨f,h3,_⟩:=h.main.2;have h4:=(Ge h3).1
  have h5:=h.main.1;have h6:=h.few
  simp only at h4 h5 h6;omega
 refine WC.enter rfl rfl rfl ?_;unfold b16 ki kb ft ll og ov oo
 by_cases hm:0<=main/\main<funcs.length
 case' pos=>
  obtain⟨mj,rfl,hmj⟩:=intOf hm;obtain⟨em,hem,hM⟩:=hf.at mj (by omega);have hfm:funcs[mj]?=some funcs[mj]:=Gg (by omega)
  generalize funcs[mj]=mf at hM hfm
  have hmp:MayP ⟨funcs,Int.ofNat mj,points⟩->mf.params=0:=fun h=>by
   obtain⟨f,h3,h4⟩:=h.main.2;have h5:funcs[mj]?=some f:=h3
   rw[hfm]at h5;cases h5;exact h4
  have hmm:mf.params=0->0<=(Int.ofNat mj)/\ ∃f,funcs[(Int.ofNat mj).toNat]?=some f/\f.params=0:=fun h=>⟨Int.natCast_nonneg mj,mf,hfm,h⟩;obtain⟨mname,mparams,mresult,mvars,mblocks,msize⟩:=mf;obtain⟨_,_,rfl,_,_⟩:=hM;simp only at hmp hmm
 all_goals
  repeat' (first|refine W.seq ?_|refine W.easy (k:=?_)|refine W.block ?_|refine W.skip ?_|refine W.ret ?_|refine Ret.ret (k:=?_)|(refine W.condL (h:=?_);change W _ _ _ _)|refine W.regS ?_|refine WS.done ?_|refine WS.pre (k:=?_)|(refine WS.guard (h:=?_);change WS _ _ _ _)|refine WS.len (h:=?_)|refine WS.iaddr (h:=?_)|(refine WS.cmp (k1:=fun h=>?_) (k2:=fun h=>?_)<;>simp only[Zq]at h<;>(try(exfalso;omega)))|fail)
 all_goals try
  refine .inr ⟨rfl,fun h=>?_⟩;have:=hmain h
  first
   |omega
   | (have:=hmp h
      omega)
 refine W.forS m (fun i (_:Unit) σ=>sn 4 i σ) (fun i _=> ∀(j:Nat) (p:TPoint),j<i->points[j]?=some p->PointP ⟨funcs,Int.ofNat mj,points⟩ p) 0 (Nat.zero_le _) ?_ ?_
 ·exact⟨(),by cbv,upto_zero⟩
 intro i _ hi hQ;refine W.norm (k:=?_);unfold l16_3 ki kb vi mt mw ft ll lg iz og ov oo
 by_cases hin:i<m
 ·have hib:i<points.length:=by omega
  obtain⟨ep,hep,hRp⟩:=hP.at i hib;have hpi:points[i]?=some points[i]:=Gg hib
  have hsc:=hp.2 _ (Gm hib);generalize points[i]=p at hRp hpi hsc;obtain⟨pfunc,pline,pscope⟩:=p;obtain⟨_,rfl,⟨ns,ss,sl,rfl,hsl,h3,hS,_⟩⟩:=hRp;simp only at h3 hsc hS;have hbad:∀ Q:Prop,(PointP ⟨funcs,Int.ofNat mj,points⟩ ⟨pfunc,pline,pscope⟩->Q)->MayP ⟨funcs,Int.ofNat mj,points⟩->Q:=fun Q k h=>k (h.points i _ hpi)
  by_cases hg:0<=pfunc/\pfunc<funcs.length
  ·obtain⟨gj,rfl,hgj⟩:=intOf hg;obtain⟨eg,heg,hG⟩:=hf.at gj (by omega);have hfg:funcs[gj]?=some funcs[gj]:=Gg (by omega)
   generalize funcs[gj]=g at hG hfg;obtain⟨gname,gparams,gresult,gvars,gblocks,gsize⟩:=g;obtain⟨_,_,rfl,⟨nv,vs,nvl,rfl,hvl,h4,hv,_⟩,_⟩:=hG;simp only at h4
   have hpp:PointP ⟨funcs,Int.ofNat mj,points⟩ ⟨Int.ofNat gj,pline,pscope⟩-> ∀d,d∈pscope->0<=d/\d<gvars.length:=fun h=>by
    obtain⟨_,f,h5,h6⟩:=h;have h7:funcs[gj]?=some f:=h5
    rw[hfg]at h7;cases h7;exact h6
   have hpq:(∀d,d∈pscope->0<=d/\d<gvars.length)->PointP ⟨funcs,Int.ofNat mj,points⟩ ⟨Int.ofNat gj,pline,pscope⟩:=fun h=>⟨Int.natCast_nonneg gj,_,hfg,h⟩
   repeat' (first|refine W.seq ?_|refine W.easy (k:=?_)|refine W.block ?_|refine W.skip ?_|(refine W.condL (h:=?_);change W _ _ _ _)|refine W.regS ?_|refine WS.done ?_|refine WS.pre (k:=?_)|(refine WS.guard (h:=?_);change WS _ _ _ _)|refine WS.len (h:=?_)|refine WS.iaddr (h:=?_)|(refine WS.cmp (k1:=fun h=>?_) (k2:=fun h=>?_)<;>simp only[Zq]at h<;>(try(exfalso;omega)))|refine WS.consN (k:=?_)|fail)
   refine W.forS sl (fun k (_:Unit) σ=>sn 8 k σ) (fun k _=> ∀(j:Nat) (y:Int),j<k->pscope[j]?=some y->0<=y/\y<gvars.length) 0 (Nat.zero_le _) ?_ ?_
   ·exact⟨(),by cbv,upto_zero⟩
   rintro k _ hk hN;refine W.norm (k:=?_);unfold l16_2 ki kb mt mw ft ll iz og ov oo
   by_cases hkm:k<sl
   ·have hkn:k<pscope.length:=by omega
    obtain⟨ek,hek,rfl⟩:=hS.at k hkn;have hky:pscope[k]?=some pscope[k]:=Gg hkn
    generalize pscope[k]=y at*
    repeat' (first|refine W.seq ?_|refine W.easy (k:=?_)|refine W.block ?_|refine W.skip ?_|refine W.ret ?_|refine Ret.ret (k:=?_)|(refine W.condL (h:=?_);change W _ _ _ _)|refine W.regS ?_|refine WS.done ?_|refine WS.pre (k:=?_)|refine WS.len (h:=?_)|(refine WS.cmp (k1:=fun h=>?_) (k2:=fun h=>?_)<;>simp only[Zq]at h<;>(try(exfalso;omega)))|refine WS.inc (h:=?_)|refine WS.consN (k:=?_)|refine W.beginD (h:=?_)|(refine WD.done ⟨_,by cbv;first|done|fail,?_⟩;dsimp only)|refine WD.pre (k:=?_)|(refine WD.guard (h:=?_);change WD _ _ _ _ _ _ _ _)|refine WD.len (h:=?_)|refine WD.iaddr (h:=?_)|(refine WD.cmp (k1:=fun h=>?_) (k2:=fun h=>?_)<;>simp only[Zq]at h<;>(try(exfalso;omega)))|fail)
    all_goals first
     | (refine .inr ⟨rfl,hbad _ fun h => ?_⟩
        have:=hpp h y (Mg hky)
        omega)
     |exact⟨by omega,(),by cbv,upto_snoc hN hky (by omega)⟩
   ·have hall:∀ d,d∈pscope->0<=d/\d<gvars.length:=mem_of_upto (upto_all hN (by omega))
    repeat' (first|refine W.seq ?_|refine W.exit ?_|(refine W.condL (h:=?_);change W _ _ _ _)|refine W.regS ?_|refine WS.done ?_|refine WS.pre (k:=?_)|refine WS.len (h:=?_)|(refine WS.cmp (k1:=fun h=>?_) (k2:=fun h=>?_)<;>simp only[Zq]at h<;>(try(exfalso;omega)))|refine WS.inc (h:=?_)|refine WS.consN (k:=?_)|fail)
    exact⟨by omega,(),by cbv,upto_snoc hQ hpi (hpq hall)⟩
  ·
   repeat' (first|refine W.seq ?_|refine W.easy (k:=?_)|refine W.block ?_|refine W.skip ?_|refine W.ret ?_|refine Ret.ret (k:=?_)|(refine W.condL (h:=?_);change W _ _ _ _)|refine W.regS ?_|refine WS.done ?_|refine WS.pre (k:=?_)|(refine WS.guard (h:=?_);change WS _ _ _ _)|refine WS.len (h:=?_)|refine WS.iaddr (h:=?_)|(refine WS.cmp (k1:=fun h=>?_) (k2:=fun h=>?_)<;>simp only[Zq]at h<;>(try(exfalso;omega)))|refine WS.consN (k:=?_)|fail)
   all_goals
    refine .inr ⟨rfl,hbad _ fun h=>?_⟩;obtain⟨h5,f,h6,_⟩:=h;have h7:=(Ge h6).1
    simp only at h5 h7;omega
 ·have hpall:=upto_all hQ (by omega)
  repeat' (first|refine W.seq ?_|refine W.easy (k:=?_)|refine W.block ?_|refine W.exit ?_|(refine W.condL (h:=?_);change W _ _ _ _)|refine W.regS ?_|refine WS.done ?_|refine WS.pre (k:=?_)|refine WS.len (h:=?_)|(refine WS.cmp (k1:=fun h=>?_) (k2:=fun h=>?_)<;>simp only[Zq]at h<;>(try(exfalso;omega)))|fail)
  refine W.forS n (fun i (_:Unit) σ=>sn 11 i σ) (fun i _=>(∀(j:Nat) (f:TFunc),j<i->funcs[j]?=some f-> ∀(k:Nat) (v:TVar),f.vars[k]?=some v->1<=v.words/\v.words<=16)/\ ∀(j:Nat) (f:TFunc),j<i->funcs[j]?=some f->FunP ⟨funcs,Int.ofNat mj,points⟩ j f) 0 (Nat.zero_le _) ?_ ?_
  ·exact⟨(),by cbv,upto_zero,upto_zero⟩
  clear hi hQ;rintro i _ hi ⟨hQ,hT⟩;refine W.norm (k:=?_);unfold l16_1 ki kb mt mw ft ll lt ov oo
  by_cases hin:i<n
  ·have hib:i<funcs.length:=by omega
   obtain⟨eb,heb,hRf⟩:=hf.at i hib;have hfi:funcs[i]?=some funcs[i]:=Gg hib
   obtain⟨hsf,hsi⟩:=hs _ (Gm hib);generalize funcs[i]=f at hRf hfi hsf hsi;have cf:=funMay_ok hu0 hfi hsf hsi
   have hb1:=fun(h:MayP ⟨funcs,Int.ofNat mj,points⟩)=>h.vars i _ hfi;have hb2:=fun(h:MayP ⟨funcs,Int.ofNat mj,points⟩)=>h.funcs i _ hfi
   have hsv:=hsf.v;obtain⟨name,params,result,vars,blocks,size⟩:=f;obtain⟨_,_,rfl,⟨nv,vs,nvl,rfl,hvl,h3,hv,_⟩,⟨nb,bs,nbl,rfl,hbl,h4,hb,_⟩⟩:=hRf;simp only at h3 hsv hb1 hv
   repeat' (first|refine W.seq ?_|refine W.easy (k:=?_)|refine W.block ?_|refine W.skip ?_|(refine W.condL (h:=?_);change W _ _ _ _)|refine W.regS ?_|refine WS.done ?_|refine WS.pre (k:=?_)|refine WS.len (h:=?_)|(refine WS.cmp (k1:=fun h=>?_) (k2:=fun h=>?_)<;>simp only[Zq]at h<;>(try(exfalso;omega)))|fail)
   refine W.forS nvl (fun k (_:Unit) σ=>sn 13 k σ) (fun k _=> ∀(j:Nat) (y:TVar),j<k->vars[j]?=some y->1<=y.words/\y.words<=16) 0 (Nat.zero_le _) ?_ ?_
   ·exact⟨(),by cbv,upto_zero⟩
   rintro k _ hk hN;refine W.norm (k:=?_);unfold l16_0 ki kb vi mt mw fa ft ll lg iz og ov oo
   by_cases hkm:k<nvl
   ·have hkn:k<vars.length:=by omega
    obtain⟨ek,hek,hRv⟩:=hv.at k hkn;have hky:vars[k]?=some vars[k]:=Gg hkn
    generalize vars[k]=y at hRv hky;have hb3:=fun(h:MayP ⟨funcs,Int.ofNat mj,points⟩)=>hb1 h k _ hky
    have hb4:=fun h=>upto_snoc (P:=fun _ (y:TVar)=>1<=y.words/\y.words<=16) hN hky h;obtain⟨vname,⟨tk,tn,tname⟩,words,fields⟩:=y;obtain⟨_,rfl,⟨nfl,fls,fln,rfl,hfln,hfl2,_,_⟩⟩:=hRv;simp only at hb3 hb4
    repeat' (first|refine W.seq ?_|refine W.easy (k:=?_)|refine W.block ?_|refine W.skip ?_|refine W.ret ?_|refine Ret.ret (k:=?_)|(refine W.condL (h:=?_);change W _ _ _ _)|refine W.regS ?_|refine WS.done ?_|refine WS.pre (k:=?_)|(refine WS.guard (h:=?_);change WS _ _ _ _)|refine WS.len (h:=?_)|refine WS.iaddr (h:=?_)|(refine WS.cmp (k1:=fun h=>?_) (k2:=fun h=>?_)<;>simp only[Zq]at h<;>(try(exfalso;omega)))|refine WS.inc (h:=?_)|refine WS.consN (k:=?_)|fail)
    all_goals first
     | (refine .inr ⟨rfl,fun h => ?_⟩
        have:=hb3 h
        omega)
     |exact⟨by omega,(),by cbv,hb4 (by omega)⟩
   ·have hall:=upto_all hN (by omega)
    repeat' (first|refine W.seq ?_|refine W.exit ?_|(refine W.condL (h:=?_);change W _ _ _ _)|refine W.regS ?_|refine WS.done ?_|refine WS.pre (k:=?_)|refine WS.len (h:=?_)|refine WS.iaddr (h:=?_)|(refine WS.cmp (k1:=fun h=>?_) (k2:=fun h=>?_)<;>simp only[Zq]at h<;>(try(exfalso;omega)))|fail)
    refine WS.call (hc:=(cf)) (k:=?_);rintro _ _ (⟨rfl,hk'⟩|⟨rfl,hk'⟩)
    all_goals
     refine⟨_,_,_,by cbv;first|done|fail,by cbv;first|done|fail,?_⟩
    all_goals
     repeat' (first|refine W.seq ?_|refine W.easy (k:=?_)|refine W.skip ?_|refine W.ret ?_|refine Ret.ret (k:=?_)|(refine W.condL (h:=?_);change W _ _ _ _)|refine W.regS ?_|refine WS.done ?_|refine WS.pre (k:=?_)|refine WS.inc (h:=?_)|refine WS.consN (k:=?_)|fail)
    ·exact⟨by omega,(),by cbv,upto_snoc hQ hfi hall,upto_snoc hT hfi hk'⟩
    ·exact .inr ⟨rfl,fun h=>hk' (hb2 h)⟩
  ·
   repeat' (first|refine W.seq ?_|refine W.easy (k:=?_)|refine W.ret ?_|refine W.exit ?_|refine Ret.ret (k:=?_)|(refine W.condL (h:=?_);change W _ _ _ _)|refine W.regS ?_|refine WS.done ?_|refine WS.pre (k:=?_)|refine WS.len (h:=?_)|(refine WS.cmp (k1:=fun h=>?_) (k2:=fun h=>?_)<;>simp only[Zq]at h<;>(try(exfalso;omega)))|fail)
   exact .inl ⟨rfl,⟨hmm (by omega),by simp only;omega,hpall,upto_all hQ (by simp only;omega),upto_all hT (by simp only;omega)⟩⟩
/-- A slice, or none. -/
def SlN{α:Type}(z:Nat)(R:α->List A->Prop)(l:List α)(a:A):Prop:=(a= .v (.slice none 0 0)/\l=[])\/SlA z R l a
/-- What goes on in a run. -/
structure RS where
 inp:List Int
 fuel:Int
 left:Int
 ev:List TEv
 over:Bool
 long:Bool
/-- What goes on in a call. -/
structure Fr where
 v:List Int
 w:List (List Int)
 kn:List TKn
theorem does_ex(op a b:Int):∃ p:Int×Bool,WC E 68 [.v (.int .u8 op),.v (.int .i64 a),.v (.int .i64 b)] [] fun r _=>r= .tup [.v (.int .i64 p.1),.v (.bool p.2)]:=by
 obtain⟨n,r,bx,h,v,is,hr⟩:=does_ok (op:=op) (a:=a) (b:=b);exact⟨(v,is),n,r,bx,h,hr⟩
noncomputable def doesF(op a b:Int):Int×Bool:=(does_ex op a b).choose
theorem does_eq(op a b:Int):WC E 68 [.v (.int .u8 op),.v (.int .i64 a),.v (.int .i64 b)] [] fun r _=>r= .tup [.v (.int .i64 (doesF op a b).1),.v (.bool (doesF op a b).2)]:=(does_ex op a b).choose_spec
def gi(l:List Int)(i:Int):Int:=l.getD i.toNat 0
def gw(l:List (List Int))(i:Int):List Int:=l.getD i.toNat []
def sw(l:List (List Int))(i:Int)(x:List Int):List (List Int):=l.set i.toNat x
def Fr.to(x:Fr)(d n:Int):Fr:={x with v:=x.v.set d.toNat n}
def endsP(k:Int)(s:RS):RS:={s with ev:=s.ev++[ev0 k 0 0],over:=true}
def RS.tell(s:RS)(e:TEv):RS:={s with ev:=s.ev++[e]}
def valsP(f:TFunc)(x:Fr)(l:List Int):List TKn:=l.filterMap fun v=>match f.vars[v.toNat]? with
 |some t=>if t.type.kind=1\/t.type.kind=2 then(match x.kn[v.toNat]? with|some k=>some (if k.gone then{k with num:=0}else k)|none=>none)else none
 |none=>none
def markP(u:TUnit)(f:TFunc)(x:Fr)(s:RS)(n:Int):RS:=
 if s.fuel=0 then endsP 9 s
 else match u.points[n.toNat]? with
  |some p=>{s with fuel:=s.fuel-1,ev:=s.ev++[⟨2,0,n,0,valsP f x p.scope⟩]}
  |none=>s
/-- An instruction. -/
noncomputable def oneP(call:Int->List Int->RS->Int×RS)(u:TUnit)(f:TFunc)(args:List Int)(i:TIns)(x:Fr)(s:RS):Fr×RS:=
 if i.op=32 then(x.to i.dst i.num,s)
 else if i.op=33 then(x.to i.dst (gi args i.num),s)
 else if i.op=36 then(x.to i.dst (gi x.v i.a),s)
 else if i.op=46 then({x with kn:=x.kn.set i.var.toNat (if 0<=i.a then⟨i.var,gi x.v i.a,false⟩else⟨i.var,0,true⟩)},s)
 else if i.op=37\/i.op=38 then
  (if gi x.v i.a < 0 \/ (gw x.w i.var).length <= gi x.v i.a then (x,endsP 7 s)
   else if i.op=37 then(x.to i.dst (gi (gw x.w i.var) (gi x.v i.a)),s)
   else({x with w:=sw x.w i.var ((gw x.w i.var).set (gi x.v i.a).toNat (gi x.v i.b))},s))
 else if i.op=39 then(x.to i.dst (gi (gw x.w i.var) i.num),s)
 else if i.op=40 then({x with w:=sw x.w i.var ((gw x.w i.var).set i.num.toNat (gi x.v i.a))},s)
 else if i.op=41 then({x with w:=sw x.w i.var (List.replicate (gw x.w i.var).length 0)},s)
 else if i.op=42 then
  (if (call i.num (i.args.map (gi x.v)) (s.tell (ev0 3 0 i.num))).2.over then (x,(call i.num (i.args.map (gi x.v)) (s.tell (ev0 3 0 i.num))).2)
   else(if 0<=i.dst then x.to i.dst (call i.num (i.args.map (gi x.v)) (s.tell (ev0 3 0 i.num))).1 else x,(call i.num (i.args.map (gi x.v)) (s.tell (ev0 3 0 i.num))).2.tell (ev0 4 0 0)))
 else if i.op=43 then
  (match s.inp with|[]=>(x,endsP 8 s)|n::l=>(x.to i.dst n,{s with inp:=l}))
 else if i.op=44 then(x,s.tell (ev0 1 (gi x.v i.a) 0))
 else if i.op=45 then(x,markP u f x s i.num)
 else if(doesF i.op (gi x.v i.a) (if i.op<=13 then gi x.v i.b else 0)).2 then(x.to i.dst (doesF i.op (gi x.v i.a) (if i.op<=13 then gi x.v i.b else 0)).1,s)
 else(x,endsP 6 s)
def WRow(l:List Int)(e:List A):Prop:=∃ r,e=[.own 1 r]/\RowR IntR l r
/-- A run, as it is held. -/
structure RunK where
 nf:Bool
 fs:List (List A)
 main:Int
 np:Bool
 ps:List (List A)
 ws:List (List A)
 first:Int
def RunK.cells(c:RunK)(a l:A)(s:RS):List A:=[.imm c.nf 6 c.fs,.v (.int .i64 c.main),.imm c.np 3 c.ps,.own 1 c.ws,a,.v (.int .i64 s.fuel),.v (.int .i64 s.left),l,.v (.bool s.over),.v (.bool s.long),.v (.int .i64 c.first)]
def RunR(c:RunK)(s:RS)(e:List A):Prop:=∃ a l,e=c.cells a l s/\SlA 1 IntR s.inp a/\GrowR 5 EvR s.ev l
structure FrK where
 n:Int
 name:ByteArray
 params:Int
 result:Bool
 nv:Bool
 vs:List (List A)
 nb:Bool
 bs:List (List A)
 size:Int
 args:A
def FrK.cells(c:FrK)(v w k:A):List A:=[.v (.int .i64 c.n),.v (.string c.name),.v (.int .i64 c.params),.v (.bool c.result),.imm c.nv 6 c.vs,.imm c.nb 5 c.bs,.v (.int .i64 c.size),c.args,v,w,k]
def FrR(c:FrK)(x:Fr)(e:List A):Prop:=∃ r w k,e=c.cells (.own 1 r) w k/\RowR IntR x.v r/\GrowR 1 WRow x.w w/\GrowR 3 KnR x.kn k
/-- What is held behind an instruction. -/
def OneR(c:RunK)(d:FrK)(p:Fr×RS):A->List Bx->Prop:=fun r bx=>r= .tup []/\ ∃e e' more,bx= .cells e:: .cells e'::more/\RunR c p.2 e/\FrR d p.1 e'
end Go.Ab.Ytkmmpbmmmbebgaa
