/- What is done to a unit whose instructions are sound: it may be again. The same instructions. The program's data, as it is handed in. How much there is of a unit, and of what is left of it. The reference's runs: from the beginning to the end. The reference's Good: a trace that is as good as another o -/
import Derived.Test.YtkmmpbmmmbebgaaT8
import Derived.Test.YtkmmpbmmmbebgaaT1
import Derived.Test.YtkmmpbmmmbebgaaM4
import Derived.Test.YtkmmpbmmmbebgaaT4
set_option linter.all false
namespace Go.Ab.Ytkmmpbmmmbebgaa
theorem looks_uses{x:TIns}{v:Int}(h:v∈looksF x):v∈usesF x:=by
 unfold looksF at h;unfold usesF;split at h
 ·rename_i h1
  by_cases h38:x.op=38
  ·rw[if_neg (by omega),if_pos h38];exact h
  ·rw[if_neg (by omega),if_neg h38,if_neg (by omega),if_neg (by omega),if_pos (by omega)];exact h
 split at h
 ·rw[if_pos (by omega)];exact h
 split at h
 ·rw[if_neg (by omega),if_neg (by omega),if_pos (by omega)];exact h
 ·cases h
theorem dceFOK{u:TUnit}(hm:MayP u)(hs:SoundU u){i:Nat}{f:TFunc}(hf:u.funcs[i]?=some f)(hsm:FuncSmall f)(hw:funcW f<=100000000):DceFOK f:=by
 have hp:=hm.funcs i f hf;have hso:=hs.2 i f hf
 have at':∀ b,b∈f.blocks-> ∀x,x∈b.ins->(x.op≠34/\x.op≠35)/\(-1<=makesF x/\makesF x<f.size/\(makesF x<0->x.op=42\/ ¬makesB x))/\ ∀d,d∈usesF x->0<=d/\d<f.size:=fun b hb x hx=>by
  obtain⟨p,hp'⟩:=List.getElem?_of_mem hb;obtain⟨k,hk⟩:=List.getElem?_of_mem hx;have h1:=hp.ins p b hp' k x hk
  have h2:=(hso p b hp').ins k x hk;exact⟨h2.get,h1.makes,h1.uses⟩
 refine⟨hsm,⟨⟨hp.head.2.2.1,hp.head.2.2.2.1⟩,fun b hb x hx=>?_,fun b hb hk=>?_,hw⟩,fun b hb x hx h46=>?_⟩
 ·obtain⟨h1,h2,h3⟩:=at' b hb x hx;refine⟨fun hh=>?_,fun v hv=>(h3 v (looks_uses hv)).2⟩
  have hn:¬ (x.op=35\/x.op=38\/x.op=40\/x.op=41\/x.op=44\/x.op=45\/x.op=46):=by
   unfold hasF at hh;omega
  have hmk:makesF x=x.dst:=by unfold makesF;rw[if_neg hn]
  rw[hmk]at h2;have h42:x.op≠42:=by unfold hasF at hh;omega
  by_cases h0:x.dst<0
  ·rcases h2.2.2 h0 with h|h
   ·exact absurd h h42
   ·exact absurd hn h
  ·omega
 ·obtain⟨p,hp'⟩:=List.getElem?_of_mem hb;have:=(hp.term p b hp').kind
  omega
 ·obtain⟨_,_,h3⟩:=at' b hb x hx;have h0:=hp.head.2.2.1
  by_cases ha:0<=x.a
  ·refine(h3 x.a ?_).2;unfold usesF;rw[if_neg (by omega),if_neg (by omega),if_neg (by omega),if_pos h46,if_pos ha];simp
  ·omega
/-! ### what is left -/
theorem fm_at{α β:Type}{g:α->Option β}:∀ {l:List α} {k:Nat} {y:β},(l.filterMap g)[k]?=some y-> ∃(q:Nat) (x:α),l[q]?=some x/\g x=some y/\ ∀(j:Nat) (z:β),j<k->(l.filterMap g)[j]?=some z-> ∃(q':Nat) (x':α),q'<q/\l[q']?=some x'/\g x'=some z
 |[],k,y,h=>by simp at h
 | a::l,k,y,h=>by
   cases hg:g a with
   | none=>
     rw[List.filterMap_cons_none hg]at h;obtain⟨q,x,h1,h2,h3⟩:=fm_at h;refine⟨q+1,x,by simpa using h1,h2,fun j z hj hz=>?_⟩;rw[List.filterMap_cons_none hg]at hz;obtain⟨q',x',k1,k2,k3⟩:=h3 j z hj hz;exact⟨q'+1,x',by omega,by simpa using k2,k3⟩
   | some b=>
     rw[List.filterMap_cons_some hg]at h;cases k with
     | zero=>
       simp at h;subst h;exact⟨0,a,rfl,hg,fun j z hj=>absurd hj (Nat.not_lt_zero _)⟩
     | succ k=>
       obtain⟨q,x,h1,h2,h3⟩:=fm_at (l:=l) (k:=k) (by simpa using h);refine⟨q+1,x,by simpa using h1,h2,fun j z hj hz=>?_⟩;rw[List.filterMap_cons_some hg]at hz;cases j with
       | zero=>
         simp at hz;subst hz;exact⟨0,a,by omega,rfl,hg⟩
       | succ j=>
         obtain⟨q',x',k1,k2,k3⟩:=h3 j z (by omega) (by simpa using hz);exact⟨q'+1,x',by omega,by simpa using k2,k3⟩
theorem dceI_some{o:List Bool}{x y:TIns}(h:dceI o x=some y):y=x\/(x.op=46/\0<=x.a/\y={x with a:=-1}):=by
 unfold dceI at h;split at h
 ·cases h
 ·split at h
  ·rename_i hc;cases h;exact .inr ⟨hc.1,hc.2.1,rfl⟩
  ·cases h;exact .inl rfl
theorem waysTo_map(o:List Bool):∀ (bs:List TBlock) (i:Nat) (w:List (List Int)),waysTo (bs.map (dceB o)) i w=waysTo bs i w
 |[],_,_=>rfl
 |b::bs,i,w=>by rw[List.map_cons,waysTo,waysTo,waysTo_map o bs];rfl
theorem ways_dce(o:List Bool)(f:TFunc):waysF (dceF o f)=waysF f:=by
 unfold waysF dceF;simp only[List.length_map];exact waysTo_map o _ _ _
theorem DceL.at{l l':List TFunc}(h:DceL l l'):∀ (i:Nat) g,l'[i]?=some g-> ∃f o,l[i]?=some f/\g=dceF o f/\Needed f o:=by
 induction h with
 |nil=>intro i g h;simp at h
 | cons h1 _ ih=>
   intro i g h;cases i with
   |zero=>simp at h;subst h;exact⟨_,_,rfl,rfl,h1⟩
   |succ i=>exact ih i g (by simpa using h)
theorem DceL.to{l l':List TFunc}(h:DceL l l'):∀ (i:Nat) f,l[i]?=some f-> ∃o,l'[i]?=some (dceF o f)/\Needed f o:=by
 induction h with
 |nil=>intro i g h;simp at h
 | cons h1 _ ih=>
   intro i g h;cases i with
   |zero=>simp at h;subst h;exact⟨_,rfl,h1⟩
   |succ i=>exact ih i g (by simpa using h)
theorem insSum_dce(o:List Bool)(f:TFunc):insSum (dceF o f)<=insSum f:=by
 unfold insSum dceF;simp only[List.map_map]
 induction f.blocks with
 |nil=>simp
 | cons b bs ih=>
   simp only[List.map_cons,List.sum_cons,Function.comp_apply];have:(dceB o b).ins.length<=b.ins.length:=List.length_filterMap_le _ _
   omega
theorem varP_eq{p:TVar->Prop}{f g:TFunc}(h:g.vars=f.vars)(k:Int):varP p g k↔varP p f k:=by unfold varP;rw[h]
/-- What is known of an instruction, where only what calls look at is the same. -/
theorem known_dce{u u':TUnit}{f:TFunc}{n:Int}{x y:TIns}{o:List Bool}(hl:∀ (i:Nat) g,u.funcs[i]?=some g-> ∃g',u'.funcs[i]?=some g'/\g'.params=g.params)(hp:u'.points=u.points)
  (hy:y=x\/(x.op=46/\0<=x.a/\y={x with a:=-1})) (h:knownP u f n x):knownP u' (dceF o f) n y:=by
 have hv:(dceF o f).vars=f.vars:=rfl;have hpar:(dceF o f).params=f.params:=rfl
 have hx:knownP u' (dceF o f) n x:=by
  unfold knownP at h ⊢
  simp only[varP_eq hv,hpar,hp];split at h
  ·rename_i h1;rw[if_pos h1];trivial
  rename_i h1;rw[if_neg h1];split at h
  ·rename_i h2;rw[if_pos h2];exact h
  rename_i h2;rw[if_neg h2];split at h
  ·rename_i h3;rw[if_pos h3];exact h
  rename_i h3;rw[if_neg h3];split at h
  ·rename_i h4;rw[if_pos h4];exact h
  rename_i h4;rw[if_neg h4];split at h
  ·rename_i h5;rw[if_pos h5];exact h
  rename_i h5;rw[if_neg h5];split at h
  ·rename_i h6;rw[if_pos h6];exact h
  rename_i h6;rw[if_neg h6];split at h
  ·rename_i h7;rw[if_pos h7];obtain⟨k1,g,k2,k3⟩:=h;obtain⟨g',k4,k5⟩:=hl _ _ k2;exact⟨k1,g',k4,by rw[k5];exact k3⟩
  rename_i h7;rw[if_neg h7];exact h
 rcases hy with rfl|⟨h46,_,rfl⟩
 ·exact hx
 ·unfold knownP at hx ⊢
  simp only[h46]at hx ⊢
  exact hx
theorem funP_dce{u u':TUnit}{f:TFunc}{n:Int}{o:List Bool}(hl:∀ (i:Nat) g,u.funcs[i]?=some g-> ∃g',u'.funcs[i]?=some g'/\g'.params=g.params)(hpt:u'.points=u.points)(hp:FunP u n f):FunP u' n (dceF o f):=by
 have hat:∀ (i:Nat) (b:TBlock),(dceF o f).blocks[i]?=some b-> ∃b0,f.blocks[i]?=some b0/\b=dceB o b0:=fun i b h=>by
  unfold dceF at h;simp only[List.getElem?_map,Option.map_eq_some_iff]at h;obtain⟨b0,h1,h2⟩:=h;exact⟨b0,h1,h2.symm⟩
 have hbl:(dceF o f).blocks.length=f.blocks.length:=by simp[dceF]
 refine⟨?_,fun i b hb=>?_,Nat.le_trans (insSum_dce o f) hp.many,fun i b hb k x hx=>?_⟩
 ·have:=hp.head;rw[hbl];exact this
 ·obtain⟨b0,h1,rfl⟩:=hat i b hb;have:=hp.term i b0 h1
  exact⟨fun d hd=>by rw[hbl];exact this.next d hd,this.kind⟩
 ·obtain⟨b0,h1,rfl⟩:=hat i b hb;obtain⟨q,y,h2,h3,h4⟩:=fm_at hx;have hy:=dceI_some h3
  have hI:=hp.ins i b0 h1 q y h2;have hop:x.op=y.op:=by rcases hy with rfl|⟨_,_,rfl⟩<;>rfl
  have hargs:x.args=y.args:=by rcases hy with rfl|⟨_,_,rfl⟩<;>rfl
  have hmk:makesF x=makesF y:=by
   rcases hy with rfl|⟨h46,_,rfl⟩
   ·rfl
   ·unfold makesF;simp only[h46]
  refine⟨known_dce hl hpt hy hI.known,fun h47=>?_,?_,fun d hd=>?_⟩
  ·obtain⟨k1,k2,w,k3,k4⟩:=hI.phi (by rw[<-hop];exact h47);refine⟨fun j z hj hz=>?_,k2,w,by rw[ways_dce];exact k3,by rw[hargs];exact k4⟩;obtain⟨q',x',l1,l2,l3⟩:=h4 j z hj hz;have:=k1 q' x' l1 l2
   rcases dceI_some l3 with rfl|⟨_,_,rfl⟩<;>exact this
  ·rw[hmk];refine⟨hI.makes.1,hI.makes.2.1,fun h=>?_⟩;rcases hI.makes.2.2 h with h|h
   ·exact .inl (by rw[hop];exact h)
   ·exact .inr (by unfold makesB at h ⊢;rw[hop];exact h)
  ·rcases hy with rfl|⟨h46,_,rfl⟩
   ·exact hI.uses d hd
   ·unfold usesF at hd;simp only[h46]at hd;simp at hd
theorem mayP_dce{u:TUnit}{l:List TFunc}(hm:MayP u)(h:DceL u.funcs l):MayP {u with funcs:=l}:=by
 have hl:∀ (i:Nat) g,u.funcs[i]?=some g-> ∃g',l[i]?=some g'/\g'.params=g.params:=fun i g hg=>by
  obtain⟨o,h1,_⟩:=h.to i g hg;exact⟨_,h1,rfl⟩
 refine⟨⟨hm.main.1,?_⟩,by simp only;rw[h.len];exact hm.few,fun i p hp=>?_,fun i g hg k v hv=>?_,fun i g hg=>?_⟩
 ·obtain⟨f,h1,h2⟩:=hm.main.2;obtain⟨g',h3,h4⟩:=hl _ _ h1;exact⟨g',h3,h4.trans h2⟩
 ·obtain⟨h1,f,h2,h3⟩:=hm.points i p hp;obtain⟨o,h4,_⟩:=h.to _ _ h2;exact⟨h1,_,h4,h3⟩
 ·obtain⟨f,o,h1,rfl,_⟩:=h.at i g hg;exact hm.vars i f h1 k v hv
 ·obtain⟨f,o,h1,rfl,_⟩:=h.at i g hg;exact funP_dce (u:=u) hl rfl (hm.funcs i f h1)
set_option maxRecDepth 100000
set_option maxHeartbeats 8000000
theorem rowR_eq{α:Type}{R:α->List A->Prop}(hR:∀ x e e',R x e->R x e'->e=e'){l:List α}:∀ {r r':List (List A)},RowR R l r->RowR R l r'->r=r':=by
 induction l with
 |nil=>intro r r' h h';cases h;cases h';rfl
 | cons x l ih=>
   intro r r' h h';cases h with
   | cons h1 h2=>
     cases h' with
     |cons h3 h4=>rw[hR _ _ _ h1 h3,ih h2 h4]
theorem intRow_eq{l:List Int}{r r':List (List A)}(h:RowR IntR l r)(h':RowR IntR l r'):r=r':=rowR_eq (fun _ _ _ h h'=>h.trans h'.symm) h h'
theorem strRow_eq{l:List ByteArray}{r r':List (List A)}(h:RowR StrR l r)(h':RowR StrR l r'):r=r':=rowR_eq (fun _ _ _ h h'=>h.trans h'.symm) h h'
theorem sameInts14_ok{l:List Int}{a b:A}(ha:SlA 1 IntR l a)(hb:SlA 1 IntR l b)(hn:l.length<=1000000000):WC E 50 [a,b] [] fun r _=>r= .v (.bool true):=by
 obtain⟨na,es,n,rfl,h1,h2,h3,_⟩:=ha;obtain⟨nb,es',n',rfl,h1',h2',h3',_⟩:=hb;obtain rfl:=intRow_eq h3 h3';obtain rfl:n'=n:=by omega
 refine WC.enter rfl rfl rfl ?_;unfold b50 ki kb mt ov oo
 repeat' (first|refine W.seq ?_|refine W.easy (k:=?_)|refine W.block ?_|refine W.skip ?_|(refine W.condL (h:=?_);change W _ _ _ _)|refine W.regS ?_|refine WS.done ?_|refine WS.pre (k:=?_)|refine WS.len (h:=?_)|(refine WS.cmp (k1:=fun h=>?_) (k2:=fun h=>?_)<;>simp only[Zq]at h<;>(try(exfalso;omega)))|fail)
 refine W.forS n' (fun k (_:Unit) σ=>sn 4 k σ) (fun _ _=>True) 0 (Nat.zero_le _) ?_ ?_
 ·exact⟨(),by cbv,trivial⟩
 rintro k _ hk _;refine W.norm (k:=?_);unfold l50_0 ki kb mt mw ll iz ov oo
 by_cases hkn:k<n'
 ·have hkl:k<l.length:=by omega
  obtain⟨ek,hek,rfl⟩:=h3.at k hkl;generalize l[k]=v at*
  repeat' (first|refine W.seq ?_|refine W.block ?_|refine W.skip ?_|(refine W.condL (h:=?_);change W _ _ _ _)|refine W.regS ?_|refine WS.done ?_|refine WS.pre (k:=?_)|refine WS.len (h:=?_)|(refine WS.cmp (k1:=fun h=>?_) (k2:=fun h=>?_)<;>simp only[Zq]at h<;>(try(exfalso;omega)))|refine WS.inc (h:=?_)|refine WS.consN (k:=?_)|refine W.beginD (h:=?_)|(refine WD.done ⟨_,by cbv;first|done|fail,?_⟩;dsimp only)|refine WD.pre (k:=?_)|refine WD.iaddr (h:=?_)|refine WD.oneN (k:=?_)|fail)
  exact⟨by omega,(),by cbv,trivial⟩
 ·
  repeat' (first|refine W.seq ?_|refine W.easy (k:=?_)|refine W.ret ?_|refine W.exit ?_|refine Ret.ret (k:=?_)|(refine W.condL (h:=?_);change W _ _ _ _)|refine W.regS ?_|refine WS.done ?_|refine WS.pre (k:=?_)|refine WS.len (h:=?_)|(refine WS.cmp (k1:=fun h=>?_) (k2:=fun h=>?_)<;>simp only[Zq]at h<;>(try(exfalso;omega)))|fail)
  rfl
theorem sameIns_ok{x:TIns}{e e':List A}(h:InsR x e)(h':InsR x e')(hn:x.args.length<=1000000000):WC E 37 [.agg e,.agg e'] [] fun r _=>r= .v (.bool true):=by
 obtain⟨op,dst,a,b,var,num,args⟩:=x;obtain⟨_,rfl,hA⟩:=h;obtain⟨_,rfl,hA'⟩:=h';have hc:=sameInts14_ok hA hA' hn
 obtain⟨na,es,n,rfl,h1,h2,h3,_⟩:=hA;obtain⟨nb,es',n',rfl,h1',h2',h3',_⟩:=hA';refine WC.enter rfl rfl rfl ?_;unfold b37 kb mw ft ll og ov oo
 repeat' (first|refine W.seq ?_|refine W.easy (k:=?_)|refine W.regS ?_|refine WS.pre (k:=?_)|(refine WS.guard (h:=?_);change WS _ _ _ _)|(refine WS.cmp (k1:=fun h=>?_) (k2:=fun h=>?_)<;>simp only[Zq]at h<;>(try(exfalso;omega)))|fail)
 refine WS.call (hc:=(hc)) (k:=?_);rintro _ _ rfl;refine⟨_,_,_,by cbv;first|done|fail,by cbv;first|done|fail,?_⟩
 repeat' (first|refine W.ret ?_|refine Ret.ret (k:=?_)|refine WS.done ?_|refine WS.pre (k:=?_)|refine WS.consN (k:=?_)|fail)
 rfl
/-- So many cells there may be. -/
structure SameSmall(f:TFunc):Prop where
 v:f.vars.length<=1000000000/\ ∀v,v∈f.vars->v.fields.length<=1000000000
 b:f.blocks.length<=1000000000
 i:∀ b,b∈f.blocks->b.ins.length<=1000000000
 a:∀ b,b∈f.blocks-> ∀x,x∈b.ins->x.args.length<=1000000000
theorem all2_cons'{α β:Type}{R:α->β->Prop}{a:α}{as:List α}{bs:List β}(h:All2 R (a::as) bs):∃ b bs',bs=b::bs'/\R a b/\All2 R as bs':=by
 cases h with
 |cons h1 h2=>exact⟨_,_,rfl,h1,h2⟩
theorem all2_nil'{α β:Type}{R:α->β->Prop}{bs:List β}(h:All2 R [] bs):bs=[]:=by cases h;rfl
theorem fit_int{k:IntKind}{a:A}(h:Fits (.int k) a):∃ n,a= .v (.int k n):=by cases h;exact⟨_,rfl⟩
theorem fit_bool{a:A}(h:Fits .bool a):∃ b,a= .v (.bool b):=by cases h;exact⟨_,rfl⟩
theorem fit_str{a:A}(h:Fits .str a):∃ s,a= .v (.string s):=by cases h;exact⟨_,rfl⟩
theorem row_of{α:Type}{R:α->List A->Prop}{m:α->Nat}:∀ {es:List (List A)},(∀e,e∈es-> ∃x,R x e/\m x<=szC e)-> ∃l,RowR R l es/\(l.map m).sum<=szR es
 |[],_=>⟨[],.nil,by simp[szR]⟩
 | e::es,h=>by
   obtain⟨x,h1,h2⟩:=h e List.mem_cons_self;obtain⟨l,h3,h4⟩:=row_of fun e' he=>h e' (List.mem_cons_of_mem _ he);exact⟨x::l,.cons h1 h3,by simp only[List.map_cons,List.sum_cons,szR];omega⟩
theorem sl_of{α:Type}{z:Nat}{R:α->List A->Prop}{m:α->Nat}{cs:List SC}{a:A}(hz:cs.length=z)(h:Fits (.row cs) a)(k:∀ e,All2 Fits cs e-> ∃x,R x e/\m x<=szC e):∃ l,SlA z R l a/\(l.map m).sum+1<=szA a:=by
 subst hz;cases h with
 | row _ nl es h1 h2 h3 h4=>
   obtain⟨l,hl,hs⟩:=row_of (R:=R) (m:=m) (es:=es) fun e he=>k e (All2.of (h3 e he).symm fun i s x hs hx=>h4 e he i s x hs hx);refine⟨l,⟨nl,es,es.length,rfl,rfl,hl.len,hl,fun hn=>?_⟩,by simp only[szA];omega⟩;have:=h1 hn
   subst this;cases hl;rfl
def scVar:List SC:=[.str,.int .u8,.int .i64,.str,.int .i64,.row [.str]]
def scIns:List SC:=[.int .u8,.int .i64,.int .i64,.int .i64,.int .i64,.int .i64,.row [.int .i64]]
def scBlock:List SC:=[.row scIns,.int .u8,.int .i64,.int .i64,.int .i64]
def scFunc:List SC:=[.str,.int .i64,.bool,.row scVar,.row scBlock,.int .i64]
def scPoint:List SC:=[.int .i64,.int .i64,.row [.int .i64]]
def scUnit:List SC:=[.row scFunc,.int .i64,.row scPoint]
def iSz(x:TIns):Nat:=1+x.args.length
def bSz(b:TBlock):Nat:=1+(b.ins.map iSz).sum
def vSz(v:TVar):Nat:=1+v.fields.length
def fSz(f:TFunc):Nat:=1+(f.vars.map vSz).sum+(f.blocks.map bSz).sum
def pSz(p:TPoint):Nat:=1+p.scope.length
def uSz(u:TUnit):Nat:=(u.funcs.map fSz).sum+(u.points.map pSz).sum
theorem sum_one{α:Type}(l:List α):(l.map fun _=>1).sum=l.length:=by
 induction l with
 |nil=>rfl
 |cons a l ih=>simp only[List.map_cons,List.sum_cons,List.length_cons,ih];omega
theorem fit_ints{a:A}(h:Fits (.row [.int .i64]) a):∃ l,SlA 1 IntR l a/\l.length+1<=szA a:=by
 have key:∀ e,All2 Fits [.int .i64] e-> ∃x,IntR x e/\1<=szC e:=fun e he=>by
  obtain⟨b,bs,rfl,hb,he2⟩:=all2_cons' he;obtain⟨n,rfl⟩:=fit_int hb;obtain rfl:=all2_nil' he2;exact⟨n,rfl,by simp[szC,szA]⟩
 obtain⟨l,h1,h2⟩:=sl_of (R:=IntR) (m:=fun _=>1) rfl h key;exact⟨l,h1,by rw[sum_one]at h2;exact h2⟩
theorem fit_strs{a:A}(h:Fits (.row [.str]) a):∃ l,SlA 1 StrR l a/\l.length+1<=szA a:=by
 have key:∀ e,All2 Fits [.str] e-> ∃x,StrR x e/\1<=szC e:=fun e he=>by
  obtain⟨b,bs,rfl,hb,he2⟩:=all2_cons' he;obtain⟨n,rfl⟩:=fit_str hb;obtain rfl:=all2_nil' he2;exact⟨n,rfl,by simp[szC,szA]⟩
 obtain⟨l,h1,h2⟩:=sl_of (R:=StrR) (m:=fun _=>1) rfl h key;exact⟨l,h1,by rw[sum_one]at h2;exact h2⟩
theorem fit_var{e:List A}(h:All2 Fits scVar e):∃ x,VarR x e/\vSz x<=szC e:=by
 obtain⟨_,_,rfl,h1,h⟩:=all2_cons' h;obtain⟨_,_,rfl,h2,h⟩:=all2_cons' h;obtain⟨_,_,rfl,h3,h⟩:=all2_cons' h;obtain⟨_,_,rfl,h4,h⟩:=all2_cons' h;obtain⟨_,_,rfl,h5,h⟩:=all2_cons' h;obtain⟨_,_,rfl,h6,h⟩:=all2_cons' h;rw[all2_nil' h];obtain⟨s1,rfl⟩:=fit_str h1;obtain⟨n2,rfl⟩:=fit_int h2;obtain⟨n3,rfl⟩:=fit_int h3;obtain⟨s4,rfl⟩:=fit_str h4;obtain⟨n5,rfl⟩:=fit_int h5;obtain⟨l,k1,k2⟩:=fit_strs h6
 exact⟨⟨s1,⟨n2,n3,s4⟩,n5,l⟩,⟨_,rfl,k1⟩,by simp only[vSz,szC];omega⟩
theorem fit_ins{e:List A}(h:All2 Fits scIns e):∃ x,InsR x e/\iSz x<=szC e:=by
 obtain⟨_,_,rfl,h1,h⟩:=all2_cons' h;obtain⟨_,_,rfl,h2,h⟩:=all2_cons' h;obtain⟨_,_,rfl,h3,h⟩:=all2_cons' h;obtain⟨_,_,rfl,h4,h⟩:=all2_cons' h;obtain⟨_,_,rfl,h5,h⟩:=all2_cons' h;obtain⟨_,_,rfl,h6,h⟩:=all2_cons' h;obtain⟨_,_,rfl,h7,h⟩:=all2_cons' h;rw[all2_nil' h];obtain⟨n1,rfl⟩:=fit_int h1;obtain⟨n2,rfl⟩:=fit_int h2;obtain⟨n3,rfl⟩:=fit_int h3;obtain⟨n4,rfl⟩:=fit_int h4;obtain⟨n5,rfl⟩:=fit_int h5
 obtain⟨n6,rfl⟩:=fit_int h6;obtain⟨l,k1,k2⟩:=fit_ints h7;exact⟨⟨n1,n2,n3,n4,n5,n6,l⟩,⟨_,rfl,k1⟩,by simp only[iSz,szC];omega⟩
theorem fit_block{e:List A}(h:All2 Fits scBlock e):∃ x,BlockR x e/\bSz x<=szC e:=by
 obtain⟨_,_,rfl,h1,h⟩:=all2_cons' h;obtain⟨_,_,rfl,h2,h⟩:=all2_cons' h;obtain⟨_,_,rfl,h3,h⟩:=all2_cons' h;obtain⟨_,_,rfl,h4,h⟩:=all2_cons' h;obtain⟨_,_,rfl,h5,h⟩:=all2_cons' h;rw[all2_nil' h];obtain⟨l,k1,k2⟩:=sl_of (R:=InsR) (m:=iSz) rfl h1 fun e he=>fit_ins he;obtain⟨n2,rfl⟩:=fit_int h2;obtain⟨n3,rfl⟩:=fit_int h3;obtain⟨n4,rfl⟩:=fit_int h4;obtain⟨n5,rfl⟩:=fit_int h5
 exact⟨⟨l,⟨n2,n3,n4,n5⟩⟩,⟨_,rfl,k1⟩,by simp only[bSz,szC];omega⟩
theorem fit_func{e:List A}(h:All2 Fits scFunc e):∃ x,FuncR x e/\fSz x<=szC e:=by
 obtain⟨_,_,rfl,h1,h⟩:=all2_cons' h;obtain⟨_,_,rfl,h2,h⟩:=all2_cons' h;obtain⟨_,_,rfl,h3,h⟩:=all2_cons' h;obtain⟨_,_,rfl,h4,h⟩:=all2_cons' h;obtain⟨_,_,rfl,h5,h⟩:=all2_cons' h;obtain⟨_,_,rfl,h6,h⟩:=all2_cons' h;rw[all2_nil' h];obtain⟨s1,rfl⟩:=fit_str h1;obtain⟨n2,rfl⟩:=fit_int h2;obtain⟨b3,rfl⟩:=fit_bool h3;obtain⟨l4,k1,k2⟩:=sl_of (R:=VarR) (m:=vSz) rfl h4 fun e he=>fit_var he
 obtain⟨l5,k3,k4⟩:=sl_of (R:=BlockR) (m:=bSz) rfl h5 fun e he=>fit_block he;obtain⟨n6,rfl⟩:=fit_int h6;exact⟨⟨s1,n2,b3,l4,l5,n6⟩,⟨_,_,rfl,k1,k3⟩,by simp only[fSz,szC];omega⟩
theorem fit_point{e:List A}(h:All2 Fits scPoint e):∃ x,PointR x e/\pSz x<=szC e:=by
 obtain⟨_,_,rfl,h1,h⟩:=all2_cons' h;obtain⟨_,_,rfl,h2,h⟩:=all2_cons' h;obtain⟨_,_,rfl,h3,h⟩:=all2_cons' h;rw[all2_nil' h];obtain⟨n1,rfl⟩:=fit_int h1;obtain⟨n2,rfl⟩:=fit_int h2;obtain⟨l,k1,k2⟩:=fit_ints h3;exact⟨⟨n1,n2,l⟩,⟨_,rfl,k1⟩,by simp only[pSz,szC];omega⟩
theorem fit_unit{e:List A}(h:All2 Fits scUnit e):∃ u,UnitR u e/\uSz u<=szC e:=by
 obtain⟨_,_,rfl,h1,h⟩:=all2_cons' h;obtain⟨_,_,rfl,h2,h⟩:=all2_cons' h;obtain⟨_,_,rfl,h3,h⟩:=all2_cons' h;rw[all2_nil' h];obtain⟨l,k1,k2⟩:=sl_of (R:=FuncR) (m:=fSz) rfl h1 fun e he=>fit_func he;obtain⟨n2,rfl⟩:=fit_int h2;obtain⟨l3,k3,k4⟩:=sl_of (R:=PointR) (m:=pSz) rfl h3 fun e he=>fit_point he;exact⟨⟨l,n2,l3⟩,⟨_,_,rfl,k1,k3⟩,by simp only[uSz,szC];omega⟩
/-! ### sizes -/
theorem sum_le_sum{α:Type}{g h:α->Nat}:∀ {l:List α},(∀x,x∈l->g x<=h x)->(l.map g).sum<=(l.map h).sum
 |[],_=>Nat.le_refl _
 | a::l,k=>by
   have:=k a List.mem_cons_self;have:=sum_le_sum (l:=l) fun x hx=>k x (List.mem_cons_of_mem _ hx)
   simp only[List.map_cons,List.sum_cons];omega
theorem mem_le_sum{α:Type}{g:α->Nat}{l:List α}{x:α}(h:x∈l):g x<=(l.map g).sum:=by
 induction l with
 |nil=>cases h
 | cons a l ih=>
   rw[List.map_cons,List.sum_cons];rcases List.mem_cons.1 h with rfl|h
   ·omega
   ·have:=ih h;omega
theorem len_le_sum{α:Type}{g:α->Nat}{l:List α}(h:∀ x,1<=g x):l.length<=(l.map g).sum:=by
 rw[<-sum_one];exact sum_le_sum fun x _=>h x
theorem b_le(b:TBlock):1+b.ins.length<=bSz b:=by
 unfold bSz;have:=len_le_sum (g:=iSz) (l:=b.ins) fun x=>by unfold iSz;omega
 omega
theorem f_le(f:TFunc):funcSum f<=fSz f:=by
 unfold funcSum fSz insSum;have h1:=len_le_sum (g:=vSz) (l:=f.vars) fun x=>by unfold vSz;omega
 have h2:f.blocks.length+(f.blocks.map fun b=>b.ins.length).sum<=(f.blocks.map bSz).sum:=by
  induction f.blocks with
  |nil=>simp
  | cons b bs ih=>
    have:=b_le b;simp only[List.map_cons,List.sum_cons,List.length_cons];omega
 omega
theorem large_le(u:TUnit):largeN u<=2*uSz u:=by
 unfold largeN uSz;have h1:=len_le_sum (g:=fSz) (l:=u.funcs) fun x=>by unfold fSz;omega
 have h2:=len_le_sum (g:=pSz) (l:=u.points) fun x=>by unfold pSz;omega
 have h3:=sum_le_sum (l:=u.funcs) fun f _=>f_le f;omega
/-- The same call comes to the same. -/
theorem _root_.Go.Ab.WC.fix{E:Nat->Option AF}{f:Nat}{as:List A}{bx:List Bx}{Q:A->List Bx->Prop}(h:WC E f as bx Q):∃ r b,Q r b/\WC E f as bx fun r' b'=>r'=r/\b'=b:=by
 obtain⟨n,r,b,h,q⟩:=h;exact⟨r,b,q,n,r,b,h,rfl,rfl⟩
structure Sizes(u:TUnit):Prop where
 small:UnitSmall u
 same:∀ f,f∈u.funcs->SameSmall f
 w:∀ f,f∈u.funcs->funcW f<=100000000
 few:u.funcs.length<=6000
 pts:u.points.length<=6000/\ ∀p,p∈u.points->p.scope.length<=2000000
theorem sizes_of{u:TUnit}(h:largeN u<=6000)(hz:uSz u<=1100000):Sizes u:=by
 have hf:∀ f,f∈u.funcs->funcSum f<=6000/\fSz f<=1100000:=fun f hf=>by
  have h1:=mem_le_sum (g:=funcSum) hf;have h2:=mem_le_sum (g:=fSz) hf
  unfold largeN at h;unfold uSz at hz;omega
 have hb:∀ f,f∈u.funcs-> ∀b,b∈f.blocks->b.ins.length<=6000/\bSz b<=1100000:=fun f hf' b hb=>by
  obtain⟨h1,h2⟩:=hf f hf';have h3:=mem_le_sum (g:=fun b:TBlock=>b.ins.length) hb
  have h4:=mem_le_sum (g:=bSz) hb;unfold funcSum insSum at h1;unfold fSz at h2;omega
 have hx:∀ f,f∈u.funcs-> ∀b,b∈f.blocks-> ∀x,x∈b.ins->x.args.length<=1100000:=fun f hf' b hb' x hx=>by
  obtain⟨_,h2⟩:=hb f hf' b hb';have h3:=mem_le_sum (g:=iSz) hx
  unfold bSz at h2;have h4:iSz x=1+x.args.length:=rfl
  omega
 have hv:∀ f,f∈u.funcs-> ∀v,v∈f.vars->v.fields.length<=1100000:=fun f hf' v hv=>by
  obtain⟨_,h2⟩:=hf f hf';have h3:=mem_le_sum (g:=vSz) hv
  unfold fSz at h2;have h4:vSz v=1+v.fields.length:=rfl
  omega
 have hp:∀ p,p∈u.points->p.scope.length<=1100000:=fun p hp=>by
  have h3:=mem_le_sum (g:=pSz) hp;unfold uSz at hz;have h4:pSz p=1+p.scope.length:=rfl
  omega
 have hn:u.funcs.length<=6000/\u.points.length<=6000:=by unfold largeN at h;omega
 have hfs:∀ f,f∈u.funcs->f.blocks.length<=6000/\f.vars.length<=6000/\insSum f<=6000:=fun f hf'=>by
  obtain⟨h1,_⟩:=hf f hf';unfold funcSum at h1;omega
 refine⟨⟨fun f hf'=>⟨⟨?_,fun b hb'=>?_,fun b hb' x hx'=>?_,?_⟩,?_⟩,⟨?_,fun p hp'=>?_⟩⟩,fun f hf'=>⟨⟨?_,fun v hv'=>?_⟩,?_,fun b hb'=>?_,fun b hb' x hx'=>?_⟩,fun f hf'=>?_,hn.1,⟨hn.2,fun p hp'=>?_⟩⟩
 ·have:=hfs f hf';omega
 ·have:=hb f hf' b hb';omega
 ·have:=hx f hf' b hb' x hx';omega
 ·have:=hfs f hf';omega
 ·have:=hfs f hf';omega
 ·omega
 ·have:=hp p hp';omega
 ·have:=hfs f hf';omega
 ·have:=hv f hf' v hv';omega
 ·have:=hfs f hf';omega
 ·have:=hb f hf' b hb';omega
 ·have:=hx f hf' b hb' x hx';omega
 ·have h1:funcW f<=2*(f.blocks.map bSz).sum:=by
   unfold funcW
   have key:∀ b:TBlock,insW b<=2*bSz b:=fun b=>by
    unfold insW bSz
    induction b.ins with
    |nil=>simp
    |cons x l ih=>simp only[List.map_cons,List.sum_cons,iSz]at ih ⊢;omega
   induction f.blocks with
   |nil=>simp
   |cons b l ih=>have:=key b;simp only[List.map_cons,List.sum_cons];omega
  obtain⟨_,h2⟩:=hf f hf';unfold fSz at h2;omega
 ·have:=hp p hp';omega
theorem dceB_mem{o:List Bool}{b:TBlock}{x:TIns}(h:x∈(dceB o b).ins):∃ y,y∈b.ins/\x.args=y.args:=by
 obtain⟨y,h1,h2⟩:=List.mem_filterMap.1 h;refine⟨y,h1,?_⟩;rcases dceI_some h2 with rfl|⟨_,_,rfl⟩<;>rfl
theorem sizes_dce{u:TUnit}{l:List TFunc}(h:Sizes u)(hd:DceL u.funcs l):UnitSmall {u with funcs:=l}/\ ∀g,g∈l->SameSmall g:=by
 have hat:∀ g,g∈l-> ∃f o,f∈u.funcs/\g=dceF o f:=fun g hg=>by
  obtain⟨i,hi⟩:=List.getElem?_of_mem hg;obtain⟨f,o,h1,h2,_⟩:=hd.at i g hi;exact⟨f,o,Mg h1,h2⟩
 refine⟨⟨fun g hg=>?_,h.small.p⟩,fun g hg=>?_⟩
 ·obtain⟨f,o,hf,rfl⟩:=hat g hg;obtain⟨h1,h2⟩:=h.small.f f hf;refine⟨⟨?_,fun b hb=>?_,fun b hb x hx=>?_,h1.v⟩,Nat.le_trans (insSum_dce o f) h2⟩
  ·simpa[dceF]using h1.b
  ·obtain⟨b0,hb0,rfl⟩:=List.mem_map.1 hb;exact Nat.le_trans (List.length_filterMap_le _ _) (h1.i b0 hb0)
  ·obtain⟨b0,hb0,rfl⟩:=List.mem_map.1 hb;obtain⟨y,hy,hya⟩:=dceB_mem hx;rw[hya];exact h1.a b0 hb0 y hy
 ·obtain⟨f,o,hf,rfl⟩:=hat g hg;have h1:=h.same f hf
  refine⟨h1.v,?_,fun b hb=>?_,fun b hb x hx=>?_⟩
  ·simpa[dceF]using h1.b
  ·obtain⟨b0,hb0,rfl⟩:=List.mem_map.1 hb;exact Nat.le_trans (List.length_filterMap_le _ _) (h1.i b0 hb0)
  ·obtain⟨b0,hb0,rfl⟩:=List.mem_map.1 hb;obtain⟨y,hy,hya⟩:=dceB_mem hx;rw[hya];exact h1.a b0 hb0 y hy
section
variable {E:Nat->Option AF} {σ:St} {d:Dst} {os:List AOper} {Q:St->Prop}
theorem _root_.Go.Ab.WS.mx{xs:List Opd}{a b:Int}{τ:Int->St}(hx:rds σ xs=some [.v (.int .i64 a),.v (.int .i64 b)]:=by cbv;first|done|fail)(hp:∀ c,σ.putV d (.v (.int .i64 c))=some (τ c):=by intro c;cbv;first|done|fail)
  (h:∀ c,(if b>a then b else a)=c->WS E os (τ c) Q):WS E (⟨d,.mx xs,none⟩::os) σ Q:=
 WS.op (x:=.v (.int .i64 (if b>a then b else a))) 1 (by simp only[ago,aop,Ab.pop,hx,if_true]) (hp _) (h _ rfl)
end
theorem addWays_short(i:Int):∀ (l:List Int) (w:List (List Int)) (n:Nat),Short n w->Short (n+l.length) (addWays i l w)
 |[],w,n,h=>h
 | d::l,w,n,h=>by
   rw[addWays,List.length_cons,show n+(l.length+1)=(n+1)+l.length from by omega];refine addWays_short i l _ (n+1) fun r hr=>?_;rcases List.mem_or_eq_of_mem_set hr with h1|rfl
   ·have:=h r h1;omega
   ·rw[List.length_append,List.getD_eq_getElem?_getD]
    have:((w[d.toNat]?).getD []).length<=n:=by
     cases hg:w[d.toNat]? with
     |none=>exact Nat.zero_le _
     |some r=>exact h r (Mg hg)
    simp only[List.length_cons,List.length_nil];omega
theorem waysTo_short:∀ (bs:List TBlock) (i:Nat) (w:List (List Int)) (n:Nat),Short n w->Short (n+2*bs.length) (waysTo bs i w)
 |[],_,w,n,h=>h
 | b::bs,i,w,n,h=>by
   rw[waysTo];have h1:=addWays_short i (nextF b.term) w n h
   have h2:=next_len b.term;have h3:=waysTo_short bs (i+1) _ _ h1
   intro r hr;have:=h3 r hr
   rw[List.length_cons];omega
theorem ways_short(f:TFunc):∀ l,l∈waysF f->l.length<=2*f.blocks.length:=fun l hl=>by
 have:=waysTo_short f.blocks 0 (List.replicate f.blocks.length []) 0 (fun r hr=>by rw[(List.mem_replicate.1 hr).2];exact Nat.le_refl _) l hl;omega
/-- What is known of a unit whose runs are told. -/
structure RunU(u:TUnit):Prop where
 may:MayP u
 get:∀ f,f∈u.funcs-> ∀b,b∈f.blocks-> ∀x,x∈b.ins->x.op≠34/\x.op≠35
 few:∀ f,f∈u.funcs->f.vars.length<=6000/\ ∀b,b∈f.blocks->b.ins.length<=6000
 args:∀ f,f∈u.funcs-> ∀b,b∈f.blocks-> ∀x,x∈b.ins->x.args.length<=2000000
 scope:∀ p,p∈u.points->p.scope.length<=100000000
/-- A run, from its beginning. -/
noncomputable def runP(u:TUnit)(inp:List Int)(fuel most:Int):RS:=(callP u (most.toNat+1) 0 u.main [] ⟨inp,if fuel<0 then 0 else fuel,most,[],false,false⟩).2
def haltP(s:RS):RS:=if s.over then s else endsP 5 s
theorem from_ok{u:TUnit}{eu:List A}(hu:UnitR u eu)(hU:RunU u){inp:List Int}{ai:A}(hi:SlA 1 IntR inp ai)(hil:inp.length<=2000000){fuel most:Int}(hf:0<=fuel/\fuel<=1000000000)(hm:0<=most/\most<=10000000):
  WC E 44 [.agg eu,ai,.v (.int .i64 fuel),.v (.int .i64 most),.v (.int .i64 0)] [] fun r _=> ∃le,r= .tup [le,.v (.bool (!(haltP (runP u inp fuel most)).long))]/\((∃es,le= .own 5 es/\RowR EvR (haltP (runP u inp fuel most)).ev es)\/SlA 5 EvR (haltP (runP u inp fuel most)).ev le):=by
 obtain⟨funcs,main,points⟩:=u;obtain⟨_,_,rfl,⟨nf,fs,n,rfl,hfl,h1,hF,hnf⟩,⟨np,ps,m,rfl,hpl,h2,hP,hnp⟩⟩:=hu;have hmain:=hU.may.main
 have hfew:=hU.may.few;simp only at hF hP h1 h2 hmain hfew hnf hnp;obtain⟨hm0,f0,hf0,hp0⟩:=hmain;obtain⟨jm,rfl,hjm⟩:=intOf ⟨hm0,(show main<funcs.length by have:=(Ge hf0).1;omega)⟩;obtain⟨ni,ei,li,rfl,hli,h7,hinR,hinl⟩:=hi;refine WC.enter rfl rfl rfl ?_;unfold b44 ki kb vi mt mw fa ft ll lt ov oo
 repeat' (first|refine W.seq ?_|refine W.easy (k:=?_)|refine W.regS ?_|refine WS.pre (k:=?_)|fail)
 refine WS.mx (h:=fun fu hfu=>?_);obtain rfl:fuel=fu:=by rw[<-hfu,if_neg (by omega)]
 repeat' (first|refine W.seq ?_|refine W.easy (k:=?_)|refine W.block ?_|refine WS.done ?_|refine WS.pre (k:=?_)|refine WS.consN (k:=?_)|fail)
 refine W.forA n (fun i (x:A) σ=>sn 8 i (sb 1 3 x σ)) (fun i x=>GrowR 1 WayR ((funcs.map waysF).take i) x) 0 (Nat.zero_le _) ?_ ?_
 ·exact⟨_,by cbv,.inl ⟨rfl,by simp⟩⟩
 rintro QA kA i x hi hx
 by_cases hin:i<n
 ·have hif:i<funcs.length:=by omega
  obtain⟨ef,hef,hFf⟩:=hF.at i hif;have hfi:funcs[i]?=some funcs[i]:=Gg hif
  have hwi:(funcs.map waysF)[i]?=some (waysF funcs[i]):=by rw[List.getElem?_map,hfi];rfl
  have hFP:=hU.may.funcs i _ hfi;have hfb:=hFP.head
  have hc:=ways_ok hFf (by omega) (ends_of hFP.term);generalize funcs[i]=f at*
  have hg0:=fun e he h0=>GrowR.step0 (z:=1) (R:=WayR) (e:=e) hwi he h0;have hg1:=fun e he r r' hr hr'=>GrowR.step (z:=1) (R:=WayR) (e:=e) hwi he (r:=r) (r':=r') hr hr'
  rcases hx with⟨rfl,hy⟩|⟨ry,ny,rfl,hyl,hyn,hyR⟩
  case' inr=>
   have hfn:=hU.may.few;have hny:ny<=100000:=by rw[hyn,List.length_take,List.length_map];simp only at hfn;omega
  all_goals
   obtain⟨_,_,rfl,⟨nv,vs,nvl,rfl,hvl,h3,hv,_⟩,⟨nb,bs,nbl,rfl,hbl,h4,hb,_⟩⟩:=hFf;refine W.norm (k:=?_);unfold l44_0 ki mt mw fa ft ll lg iz ov oo
   repeat' (first|refine W.seq ?_|refine W.block ?_|refine W.skip ?_|refine W.frz (k:=?_)|(refine W.condL (h:=?_);change W _ _ _ _)|refine W.regS ?_|refine WS.done ?_|refine WS.pre (k:=?_)|refine WS.len (h:=?_)|(refine WS.cmp (k1:=fun h=>?_) (k2:=fun h=>?_)<;>simp only[Zq]at h<;>(try(exfalso;omega)))|refine W.beginD (h:=?_)|refine WD.pre (k:=?_)|refine WD.iaddr (h:=?_)|fail)
  all_goals
   refine WD.qcall (hc:=(hc)) (k:=?_);rintro _ _ hS;have hW:WayR (waysF f) [_]:=⟨_,rfl,hS⟩
   have hg0':=hg0 _ hW;have hg1':=hg1 _ hW
   obtain⟨nlw,esw,mw',rfl,hmw,hmw',hSR,_⟩:=hS;refine⟨_,_,_,by cbv;first|done|fail,by cbv;first|done|fail,by cbv;first|done|fail,?_⟩
  all_goals
   repeat' (first|refine W.regS ?_|refine WS.done ?_|refine WS.pre (k:=?_)|refine WS.inc (h:=?_)|refine WS.consN (k:=?_)|(refine WD.done ⟨_,by cbv;first|done|fail,?_⟩;dsimp only)|refine WD.stoApp (h:=fun r hr=>?_)|refine WD.pre (k:=?_)|refine WD.app (h:=?_)|refine WD.oneN (k:=?_)|fail)
  all_goals first
   |exact⟨by omega,_,by cbv,hg0' hy⟩
   |exact⟨by omega,_,by cbv,hg1' _ _ hyR hr⟩
 ·rcases hx with⟨rfl,hy⟩|⟨ry,ny,rfl,hyl,hyn,hyR⟩
  ·exfalso;have h5:=congrArg List.length hy
   simp only[List.length_take,List.length_map,List.length_nil]at h5;have h6:=(Ge hf0).1
   omega
  ·have hi':(funcs.map waysF).take i=funcs.map waysF:=List.take_of_length_le (by rw[List.length_map];omega);rw[hi']at hyR;refine W.norm (k:=?_);unfold l44_0 ki mt mw fa ft ll lg iz ov oo
   repeat' (first|refine W.seq ?_|refine W.exit ?_|(refine W.condL (h:=?_);change W _ _ _ _)|refine W.regS ?_|refine WS.done ?_|refine WS.pre (k:=?_)|refine WS.len (h:=?_)|(refine WS.cmp (k1:=fun h=>?_) (k2:=fun h=>?_)<;>simp only[Zq]at h<;>(try(exfalso;omega)))|fail)
   refine kA _ _ ?_
   repeat' (first|refine W.seq ?_|refine W.regS ?_|refine WS.pre (k:=?_)|fail)
   have hRC:RunCtx ⟨nf,fs,Int.ofNat jm,np,ps,ry,0⟩ ⟨funcs,Int.ofNat jm,points⟩:=⟨hF,hP,hyR,rfl,hU.may,hU.get,hU.few,hU.args,hU.scope,fun f hf l hl => by
    have h1:=ways_short f l hl
    obtain⟨j,hj⟩:=List.getElem?_of_mem hf
    have h2:=(hU.may.funcs j f hj).head
    omega⟩
   have hR0:RunR ⟨nf,fs,Int.ofNat jm,np,ps,ry,0⟩ ⟨inp,fuel,most,[],false,false⟩ _:=⟨_,_,rfl,⟨ni,ei,li,rfl,hli,h7,hinR,hinl⟩,.inl ⟨rfl,rfl⟩⟩;have hcl:=call_ok hRC most.toNat 0 jm f0 [] _ _ _ hf0 (by rw[hp0];rfl) hR0 (.inl ⟨rfl,rfl⟩) rfl (by simp only;omega) (by omega) (by simp only;omega) (by simp only[List.length_nil];omega) (by simp only;omega) (by simp only;omega) (by simp only;omega)
   have hrun:runP ⟨funcs,Int.ofNat jm,points⟩ inp fuel most=(callP ⟨funcs,Int.ofNat jm,points⟩ (most.toNat+1) 0 (Int.ofNat jm) [] ⟨inp,fuel,most,[],false,false⟩).2:=by
    unfold runP;rw[if_neg (by omega)]
   rw[hrun];have hgo:=(callP_goes ⟨funcs,Int.ofNat jm,points⟩ (most.toNat+1) 0 (Int.ofNat jm) [] ⟨inp,fuel,most,[],false,false⟩ rfl).pot1
   have hlo:=(callP_low hU.few (most.toNat+1) 0 (Int.ofNat jm) [] ⟨inp,fuel,most,[],false,false⟩ rfl).2;generalize callP ⟨funcs,Int.ofNat jm,points⟩ (most.toNat+1) 0 (Int.ofNat jm) [] ⟨inp,fuel,most,[],false,false⟩=p at*
   simp only[List.length_nil]at hgo hlo;refine WS.call1 (i1:=RunR.inert hR0) (hc:=hcl) (kq:=?_);rintro _ _ ⟨rfl,e1,more,rfl,hR1⟩;have hj1:=RunR.inert hR1
   have hR2:=hR1;obtain⟨v,inp2,fuel2,left2,ev2,over2,long2⟩:=p;obtain⟨a3,l3,rfl,ha3,hl3⟩:=hR1;simp only at hl3 hgo hlo;refine⟨_,_,rfl,hj1,rfl,fun _=>rfl,_,_,by cbv;first|done|fail,by cbv;first|done|fail,?_⟩;cases over2
   ·
    repeat' (first|refine W.seq ?_|refine W.easy (k:=?_)|(refine W.condL (h:=?_);change W _ _ _ _)|refine W.regS ?_|refine WS.done ?_|refine WS.pre (k:=?_)|fail)
    refine WS.call1 (i1:=hj1) (hc:=ends2 (k:=5) hR2 (by simp only;omega)) (kq:=?_);rintro _ _ ⟨rfl,e1,rfl,hR3⟩;have hj2:=RunR.inert hR3
    obtain⟨a4,l4,rfl,ha4,hl4⟩:=hR3;refine⟨_,_,rfl,hj2,rfl,fun _=>rfl,_,_,by cbv;first|done|fail,by cbv;first|done|fail,?_⟩;rcases hl4 with⟨_,hq⟩|⟨rq,nq,rfl,hql,hqn,hqR⟩
    ·simp only[endsP,List.append_eq_nil_iff]at hq;exact absurd hq.2 (by simp)
    ·cases long2
     all_goals
      repeat' (first|refine W.seq ?_|refine W.easyD (k:=?_)|refine W.ret ?_|refine W.frz (k:=?_)|refine Ret.ret (k:=?_)|refine WS.done ?_|fail)
      exact⟨_,rfl,.inl ⟨_,rfl,hqR⟩⟩
   ·rcases hl3 with⟨rfl,hq⟩|⟨rq,nq,rfl,hql,hqn,hqR⟩
    all_goals
     cases long2
    all_goals
     repeat' (first|refine W.seq ?_|refine W.easy (k:=?_)|refine W.easyD (k:=?_)|refine W.skip ?_|refine W.ret ?_|refine W.frz (k:=?_)|refine Ret.ret (k:=?_)|(refine W.condL (h:=?_);change W _ _ _ _)|refine WS.done ?_|fail)
    all_goals first
     |exact⟨_,rfl,.inl ⟨_,rfl,hqR⟩⟩
     |exact⟨_,rfl,.inr (slA_frz0 hq rfl)⟩
theorem says_ok{u:TUnit}{eu:List A}(hu:UnitR u eu)(hU:RunU u){inp:List Int}{ai:A}(hi:SlN 1 IntR inp ai)(hil:inp.length<=2000000){fuel most:Int}(hf:0<=fuel/\fuel<=1000000000)(hm:0<=most/\most<=10000000):
  WC E 33 [.agg eu,ai,.v (.int .i64 fuel),.v (.int .i64 most)] [] fun r _=> ∃le,r= .tup [le,.v (.bool (!(haltP (runP u inp fuel most)).long))]/\SlA 5 EvR (haltP (runP u inp fuel most)).ev le:=by
 have hcc:=fun ai h=>from_ok hu hU (ai:=ai) h hil hf hm;obtain⟨funcs,main,points⟩:=u;obtain⟨_,_,rfl,⟨nf,fs,n,rfl,hfl,h1,hF,hnf⟩,⟨np,ps,m,rfl,hpl,h2,hP,hnp⟩⟩:=hu;generalize haltP (runP ⟨funcs,main,points⟩ inp fuel most)=S at*
 generalize S.long=bl at*
 generalize S.ev=ev at*
 rcases hi with⟨rfl,rfl⟩|⟨ni,ei,li,rfl,hli,h7,hinR,hinl⟩
 case' inl=>have hc:=hcc (.imm true 1 []) ⟨true,[],0,rfl,rfl,rfl,.nil,fun _=>rfl⟩
 case' inr=>have hc:=hcc (.imm ni 1 ei) ⟨ni,ei,li,rfl,hli,h7,hinR,hinl⟩
 all_goals
  refine WC.enter rfl rfl rfl ?_;unfold b33 ki kb mt mw lt ov oo
  repeat' (first|refine W.seq ?_|refine W.easy (k:=?_)|refine W.frz (k:=?_)|refine W.regS ?_|refine WS.pre (k:=?_)|fail)
  refine WS.call (hc:=(hc)) (k:=?_);rintro _ _ ⟨le,rfl,hS⟩;rcases hS with⟨es,rfl,hR⟩|⟨nl,es,k,rfl,hk,hk2,hR,hn⟩
  all_goals
   cases bl
  all_goals
   refine⟨_,_,_,by cbv;first|done|fail,by cbv;first|done|fail,?_⟩
   repeat' (first|refine W.seq ?_|refine W.ret ?_|refine W.frz (k:=?_)|refine Ret.ret (k:=?_)|refine WS.done ?_|refine WS.pre (k:=?_)|refine WS.consN (k:=?_)|fail)
  all_goals first
   |exact⟨_,rfl,slA_own hR⟩
   |exact⟨_,rfl,nl,es,k,rfl,hk,hk2,hR,hn⟩
def goodV(x y:TKn):Prop:=x.var=y.var/\(x.gone=true\/(y.gone=false/\x.num=y.num))
/-- An event as good as another one. -/
structure GoodE(a b:TEv):Prop where
 kind:a.kind=b.kind
 num:a.num=b.num
 point:a.point=b.point
 func:a.func=b.func
 len:a.vals.length=b.vals.length
 vals:∀ (i:Nat) (x y:TKn),a.vals[i]?=some x->b.vals[i]?=some y->goodV x y
theorem good_ok{a b:TEv}{ea eb:List A}(ha:EvR a ea)(hb:EvR b eb)(h:GoodE a b)(hl:a.vals.length<=1000000000):WC E 45 [.agg ea,.agg eb] [] fun r _=>r= .v (.bool true):=by
 obtain⟨h1,h2,h3,h4,h5,h6⟩:=h;obtain⟨kind,num,point,func,va⟩:=a;obtain⟨kind',num',point',func',vb⟩:=b;simp only at h1 h2 h3 h4 h5 h6 hl;subst h1 h2 h3 h4;obtain⟨xa,rfl,hxa⟩:=ha;obtain⟨xb,rfl,hxb⟩:=hb;rcases hxa with⟨rfl,hva⟩|⟨nla,esa,la,rfl,hla,hla2,hRa,hna⟩
 all_goals
  rcases hxb with⟨rfl,hvb⟩|⟨nlb,esb,lb,rfl,hlb,hlb2,hRb,hnb⟩
 case' inl.inr=>obtain rfl:lb=0:=by rw[hlb2,<-h5];simp only at hva;rw[hva];rfl
 case' inr.inl=>obtain rfl:la=0:=by rw[hla2,h5];simp only at hvb;rw[hvb];rfl
 case' inr.inr=>obtain rfl:la=lb:=by rw[hla2,hlb2];exact h5
 all_goals
  refine WC.enter rfl rfl rfl ?_;unfold b45 ki kb ft ll og ov oo
  repeat' (first|refine W.seq ?_|refine W.easy (k:=?_)|refine W.block ?_|refine W.skip ?_|(refine W.condL (h:=?_);change W _ _ _ _)|refine W.regS ?_|refine WS.done ?_|refine WS.pre (k:=?_)|(refine WS.guard (h:=?_);change WS _ _ _ _)|refine WS.len (h:=?_)|(refine WS.cmp (k1:=fun h=>?_) (k2:=fun h=>?_)<;>simp only[Zq]at h<;>(try(exfalso;omega)))|refine WS.consN (k:=?_)|fail)
 case inr.inr.refine_2.refine_2.refine_2.refine_2.refine_2=>
  refine W.forA la (fun i (_:Unit) σ=>sn 6 i σ) (fun _ _=>True) 0 (Nat.zero_le _) ?_ ?_
  ·exact⟨(),by cbv,trivial⟩
  rintro QA kA i _ hi _
  by_cases hin:i<la
  ·simp only at hla2 hlb2 hRa hRb hl;obtain⟨e1,he1,hR1⟩:=hRa.at i (by omega);obtain⟨e2,he2,hR2⟩:=hRb.at i (by omega);have hg:=h6 i _ _ (Gg (by omega)) (Gg (by omega))
   generalize va[i]'(by omega)=x at*
   generalize vb[i]'(by omega)=y at*
   obtain⟨v1,n1,g1⟩:=x;obtain⟨v2,n2,g2⟩:=y;obtain⟨rfl,hg⟩:=hg;simp only at hg;obtain rfl:e1=_:=hR1;obtain rfl:e2=_:=hR2;cases g1
   case true=>
    refine W.norm (k:=?_);unfold l45_0 ki kb vi mt mw ft ll lg iz og ov oo
    repeat' (first|refine W.seq ?_|refine W.block ?_|refine W.skip ?_|(refine W.condL (h:=?_);change W _ _ _ _)|refine W.regS ?_|refine WS.done ?_|refine WS.pre (k:=?_)|(refine WS.guard (h:=?_);change WS _ _ _ _)|refine WS.len (h:=?_)|refine WS.iaddr (h:=?_)|(refine WS.cmp (k1:=fun h=>?_) (k2:=fun h=>?_)<;>simp only[Zq]at h<;>(try(exfalso;omega)))|refine WS.inc (h:=?_)|refine WS.consN (k:=?_)|fail)
    exact⟨by omega,(),by cbv,trivial⟩
   case false=>
    obtain⟨rfl,rfl⟩:g2=false/\n1=n2:=by simpa using hg
    refine W.norm (k:=?_);unfold l45_0 ki kb vi mt mw ft ll lg iz og ov oo
    repeat' (first|refine W.seq ?_|refine W.block ?_|refine W.skip ?_|(refine W.condL (h:=?_);change W _ _ _ _)|refine W.regS ?_|refine WS.done ?_|refine WS.pre (k:=?_)|(refine WS.guard (h:=?_);change WS _ _ _ _)|refine WS.len (h:=?_)|refine WS.iaddr (h:=?_)|(refine WS.cmp (k1:=fun h=>?_) (k2:=fun h=>?_)<;>simp only[Zq]at h<;>(try(exfalso;omega)))|refine WS.inc (h:=?_)|refine WS.consN (k:=?_)|fail)
    exact⟨by omega,(),by cbv,trivial⟩
  ·
   refine W.norm (k:=?_);unfold l45_0 ki kb vi mt mw ft ll lg iz og ov oo
   repeat' (first|refine W.seq ?_|refine W.exit ?_|(refine W.condL (h:=?_);change W _ _ _ _)|refine W.regS ?_|refine WS.done ?_|refine WS.pre (k:=?_)|refine WS.len (h:=?_)|(refine WS.cmp (k1:=fun h=>?_) (k2:=fun h=>?_)<;>simp only[Zq]at h<;>(try(exfalso;omega)))|fail)
   refine kA _ _ ?_
   repeat' (first|refine W.seq ?_|refine W.easy (k:=?_)|refine W.ret ?_|refine Ret.ret (k:=?_)|fail)
   rfl
 all_goals
  refine W.forA 0 (fun i (_:Unit) σ=>sn 6 i σ) (fun _ _=>True) 0 (Nat.zero_le _) ?_ ?_
  ·exact⟨(),by cbv,trivial⟩
  rintro QA kA i _ hi _;refine W.norm (k:=?_);unfold l45_0 ki kb vi mt mw ft ll lg iz og ov oo;obtain rfl:i=0:=by omega
  repeat' (first|refine W.seq ?_|refine W.exit ?_|(refine W.condL (h:=?_);change W _ _ _ _)|refine W.regS ?_|refine WS.done ?_|refine WS.pre (k:=?_)|refine WS.len (h:=?_)|(refine WS.cmp (k1:=fun h=>?_) (k2:=fun h=>?_)<;>simp only[Zq]at h<;>(try(exfalso;omega)))|refine WS.consN (k:=?_)|fail)
  refine kA _ _ ?_
  repeat' (first|refine W.seq ?_|refine W.easy (k:=?_)|refine W.ret ?_|refine Ret.ret (k:=?_)|fail)
  rfl
/-- A trace as good as another one. -/
structure GoodL(a b:List TEv):Prop where
 len:a.length=b.length
 ev:∀ (i:Nat) (x y:TEv),a[i]?=some x->b[i]?=some y->GoodE x y/\x.vals.length<=1000000000
theorem goodL_ok{a b:List TEv}{ea eb:A}(ha:SlA 5 EvR a ea)(hb:SlA 5 EvR b eb)(h:GoodL a b)(hl:a.length<=1000000000):WC E 34 [ea,eb] [] fun r _=>r= .v (.bool true):=by
 obtain⟨h1,h2⟩:=h;obtain⟨nla,esa,la,rfl,hla,hla2,hRa,hna⟩:=ha;obtain⟨nlb,esb,lb,rfl,hlb,hlb2,hRb,hnb⟩:=hb;obtain rfl:la=lb:=by omega
 refine WC.enter rfl rfl rfl ?_;unfold b34 ki kb mt ov oo
 repeat' (first|refine W.seq ?_|refine W.easy (k:=?_)|refine W.block ?_|refine W.skip ?_|(refine W.condL (h:=?_);change W _ _ _ _)|refine W.regS ?_|refine WS.done ?_|refine WS.pre (k:=?_)|refine WS.len (h:=?_)|(refine WS.cmp (k1:=fun h=>?_) (k2:=fun h=>?_)<;>simp only[Zq]at h<;>(try(exfalso;omega)))|fail)
 refine W.forA la (fun i (_:Unit) σ=>sn 4 i σ) (fun _ _=>True) 0 (Nat.zero_le _) ?_ ?_
 ·exact⟨(),by cbv,trivial⟩
 rintro QA kA i _ hi _
 by_cases hin:i<la
 ·obtain⟨e1,he1,hR1⟩:=hRa.at i (by omega);obtain⟨e2,he2,hR2⟩:=hRb.at i (by omega);have hg:=h2 i _ _ (Gg (by omega)) (Gg (by omega))
  have hc:=good_ok hR1 hR2 hg.1 hg.2;obtain⟨xa,rfl,hxa⟩:=hR1;obtain⟨xb,rfl,hxb⟩:=hR2;rcases hxa with⟨rfl,_⟩|⟨n1,r1,l1,rfl,_⟩
  all_goals
   rcases hxb with⟨rfl,_⟩|⟨n2,r2,l2,rfl,_⟩
  all_goals
   refine W.norm (k:=?_);unfold l34_0 ki kb mt mw lg iz ov oo
   repeat' (first|refine W.seq ?_|refine W.block ?_|refine W.skip ?_|(refine W.condL (h:=?_);change W _ _ _ _)|refine W.regS ?_|refine WS.done ?_|refine WS.pre (k:=?_)|refine WS.len (h:=?_)|(refine WS.cmp (k1:=fun h=>?_) (k2:=fun h=>?_)<;>simp only[Zq]at h<;>(try(exfalso;omega)))|refine W.beginD (h:=?_)|refine WD.pre (k:=?_)|refine WD.iaddr (h:=?_)|fail)
   refine WD.call (hc:=(hc)) (k:=?_);rintro _ _ rfl;refine⟨_,_,_,by cbv;first|done|fail,by cbv;first|done|fail,?_⟩
   repeat' (first|refine W.skip ?_|(refine W.condL (h:=?_);change W _ _ _ _)|refine W.regS ?_|refine WS.done ?_|refine WS.pre (k:=?_)|refine WS.inc (h:=?_)|refine WS.consN (k:=?_)|(refine WD.done ⟨_,by cbv;first|done|fail,?_⟩;dsimp only)|refine WD.pre (k:=?_)|fail)
   exact⟨by omega,(),by cbv,trivial⟩
 ·
  refine W.norm (k:=?_);unfold l34_0 ki kb mt mw lg iz ov oo
  repeat' (first|refine W.seq ?_|refine W.exit ?_|(refine W.condL (h:=?_);change W _ _ _ _)|refine W.regS ?_|refine WS.done ?_|refine WS.pre (k:=?_)|refine WS.len (h:=?_)|(refine WS.cmp (k1:=fun h=>?_) (k2:=fun h=>?_)<;>simp only[Zq]at h<;>(try(exfalso;omega)))|fail)
  refine kA _ _ ?_
  repeat' (first|refine W.seq ?_|refine W.easy (k:=?_)|refine W.ret ?_|refine Ret.ret (k:=?_)|fail)
  rfl
/-- An instruction of a function. -/
def InF(f:TFunc)(x:TIns):Prop:=∃ b,b∈f.blocks/\x∈b.ins
inductive NeedP(f:TFunc):Int->Prop
 |root {x v}:InF f x-> ¬hasF x->x.op≠46->v∈looksF x->0<=v->NeedP f v
 |term {b}:b∈f.blocks->b.term.kind≠1->0<=b.term.a->NeedP f b.term.a
 |step {x v}:InF f x->hasF x->NeedP f x.dst->v∈looksF x->0<=v->NeedP f v
def StayP(f:TFunc)(v:Int):Prop:=∃ x,InF f x/\ ¬hasF x/\x.op≠46/\stayF x/\x.dst=v
theorem getD_true{o:List Bool}{j:Nat}(h:j<o.length):o.getD j true=false↔o[j]?≠some true:=by
 rw[List.getD_eq_getElem?_getD,Gg h];cases o[j]<;>simp
/-- What a look does. -/
theorem needF_spec{n m:Nat}:∀ (l:List Int) (s:List Bool×List Int),GoodS n m s->(∀v,v∈l->v<n)->
  (∀j:Nat,(needF l s).1[j]?=some true↔s.1[j]?=some true\/(j<n/\(j:Int)∈l))/\(∀v,v∈s.2->v∈(needF l s).2)/\ ∀j:Nat,(needF l s).1[j]?=some true->s.1[j]?=some true\/(j:Int)∈(needF l s).2
 |[],s,h,_=>⟨fun j=>by simp[needF],fun v hv=>hv,fun j hj=> .inl hj⟩
 | v::l,s,h,hl=>by
   have hv:=hl v List.mem_cons_self;have hl':=fun u hu=>hl u (List.mem_cons_of_mem v hu)
   rw[needF]
   by_cases hc:0<=v/\s.1.getD v.toNat true=false
   ·rw[if_pos hc];have hj:v.toNat<s.1.length:=by rw[h.len];omega
    have hg:GoodS n m (s.1.set v.toNat true,s.2++[v]):=by
     have:=needF_good [v] s h (by intro u hu;simp at hu;subst hu;exact hv);rw[needF,if_pos hc,needF]at this;exact this
    obtain⟨k1,k2,k3⟩:=needF_spec l _ hg hl'
    have hset:∀ j:Nat,(s.1.set v.toNat true)[j]?=some true↔s.1[j]?=some true\/(j:Int)=v:=fun j=>by
     by_cases hjv:v.toNat=j
     ·subst hjv;rw[List.getElem?_set_self hj];exact⟨fun _=> .inr (by omega),fun _=>rfl⟩
     ·rw[List.getElem?_set_ne hjv];exact⟨.inl,fun h=>h.elim id fun e=>absurd (by omega) hjv⟩
    refine⟨fun j=>?_,fun u hu=>k2 u (by simp[hu]),fun j hj'=>?_⟩
    ·rw[k1 j,hset j];constructor
     ·rintro((h1|h1)|⟨h1,h2⟩)
      ·exact .inl h1
      ·exact .inr ⟨by omega,by simp[h1]⟩
      ·exact .inr ⟨h1,List.mem_cons_of_mem _ h2⟩
     ·rintro(h1|⟨h1,h2⟩)
      ·exact .inl (.inl h1)
      ·rcases List.mem_cons.1 h2 with h2|h2
       ·exact .inl (.inr h2)
       ·exact .inr ⟨h1,h2⟩
    ·rcases k3 j hj' with h1|h1
     ·rcases(hset j).1 h1 with h2|h2
      ·exact .inl h2
      ·exact .inr (k2 _ (by simp[h2]))
     ·exact .inr h1
   ·rw[if_neg hc];obtain⟨k1,k2,k3⟩:=needF_spec l s h hl';refine⟨fun j=>?_,k2,k3⟩;rw[k1 j];constructor
    ·rintro(h1|⟨h1,h2⟩)
     ·exact .inl h1
     ·exact .inr ⟨h1,List.mem_cons_of_mem _ h2⟩
    ·rintro(h1|⟨h1,h2⟩)
     ·exact .inl h1
     ·rcases List.mem_cons.1 h2 with h2|h2
      ·subst h2;have hj:j<s.1.length:=by rw[h.len];exact h1
       have:¬ s.1.getD j true=false:=fun hh=>hc ⟨by omega,hh⟩;rw[getD_true hj]at this;exact .inl (Classical.not_not.1 this)
      ·exact .inr ⟨h1,h2⟩
/-! ### the first way through -/
/-- What is told so far: who needs whom, what is needed; all that is needed is to be looked at. -/
structure Told(n:Nat)(t:NS)(M:Nat->Int->Prop)(R:Nat->Prop):Prop where
 ms:∀ (j:Nat) u,j<n->(u∈t.1.getD j []↔M j u)
 o:∀ j:Nat,t.2.1[j]?=some true↔j<n/\R j
 w:∀ j:Nat,t.2.1[j]?=some true->(j:Int)∈t.2.2
theorem told_need{n m:Nat}{t:NS}{M:Nat->Int->Prop}{R:Nat->Prop}(h:Told n t M R)(hg:GoodS n m t.2){l:List Int}(hl:∀ v,v∈l->v<n):Told n (t.1,needF l t.2) M fun j=>R j\/(j:Int)∈l:=by
 obtain⟨k1,k2,k3⟩:=needF_spec l t.2 hg hl;refine⟨h.ms,fun j=>?_,fun j hj=>?_⟩
 ·simp only
  rw[k1 j,h.o j];constructor
  ·rintro(⟨h1,h2⟩|⟨h1,h2⟩)
   ·exact⟨h1,.inl h2⟩
   ·exact⟨h1,.inr h2⟩
  ·rintro⟨h1,h2|h2⟩
   ·exact .inl ⟨h1,h2⟩
   ·exact .inr ⟨h1,h2⟩
 ·rcases k3 j hj with h1|h1
  ·exact k2 _ (h.w j h1)
  ·exact h1
theorem told_ins{n m:Nat}{t:NS}{M:Nat->Int->Prop}{R:Nat->Prop}{x:TIns}(h:Told n t M R)(hg:GoodN n m t)(hx:insOK n x):
  Told n (insStep t x) (fun j u=>M j u\/(hasF x/\x.dst=j/\u∈looksF x)) fun j=>R j\/(¬hasF x/\x.op≠46/\(j:Int)∈looksF x):=by
 unfold insStep
 by_cases hh:hasF x
 ·rw[if_pos hh];have hd:=hx.1 hh
  refine⟨fun j u hj=>?_,fun j=>?_,h.w⟩
  ·simp only
   rw[List.getD_eq_getElem?_getD]
   by_cases hjd:x.dst.toNat=j
   ·subst hjd;have hlt:x.dst.toNat<t.1.length:=by rw[hg.ms.1];exact hj
    rw[List.getElem?_set_self hlt];simp only[Option.getD_some,List.mem_append];rw[h.ms _ u hj];exact or_congr Iff.rfl ⟨fun h1=>⟨hh,by omega,h1⟩,fun h1=>h1.2.2⟩
   ·rw[List.getElem?_set_ne hjd,<-List.getD_eq_getElem?_getD,h.ms j u hj];exact⟨.inl,fun h1=>h1.elim id fun h2=>absurd (by omega) hjd⟩
  ·simp only
   rw[h.o j];exact and_congr Iff.rfl ⟨.inl,fun h1=>h1.elim id fun h2=>absurd hh h2.1⟩
 ·rw[if_neg hh]
  by_cases h46:x.op=46
  ·rw[if_pos h46];refine⟨fun j u hj=>(h.ms j u hj).trans ⟨.inl,fun h1=>h1.elim id fun h2=>absurd h2.1 hh⟩,fun j=>(h.o j).trans (and_congr Iff.rfl ⟨.inl,fun h1=>h1.elim id fun h2=>absurd h46 h2.2.1⟩),h.w⟩
  ·rw[if_neg h46];have:=told_need h hg.s (l:=looksF x) hx.2
   refine⟨fun j u hj=>(this.ms j u hj).trans ⟨.inl,fun h1=>h1.elim id fun h2=>absurd h2.1 hh⟩,fun j=>(this.o j).trans (and_congr Iff.rfl (or_congr Iff.rfl ⟨fun h1=>⟨hh,h46,h1⟩,fun h1=>h1.2.2⟩)),this.w⟩
theorem told_congr{n:Nat}{t:NS}{M M':Nat->Int->Prop}{R R':Nat->Prop}(h:Told n t M R)(hM:∀ j u,M j u↔M' j u)(hR:∀ j,R j↔R' j):Told n t M' R':=
 ⟨fun j u hj=>(h.ms j u hj).trans (hM j u),fun j=>(h.o j).trans (and_congr Iff.rfl (hR j)),h.w⟩
def MOf(x:TIns)(j:Nat)(u:Int):Prop:=hasF x/\x.dst=j/\u∈looksF x
def ROf(x:TIns)(j:Nat):Prop:=¬ hasF x/\x.op≠46/\(j:Int)∈looksF x
theorem told_fold{n:Nat}:∀ (l:List TIns) (m:Nat) (t:NS) (M:Nat->Int->Prop) (R:Nat->Prop),Told n t M R->GoodN n m t->(∀x,x∈l->insOK n x)->
  Told n (l.foldl insStep t) (fun j u=>M j u\/ ∃x,x∈l/\MOf x j u) fun j=>R j\/ ∃x,x∈l/\ROf x j
 |[],m,t,M,R,h,_,_=>told_congr h (fun j u=>by simp) fun j=>by simp
 | x::l,m,t,M,R,h,hg,hx=>by
   have h1:=told_ins h hg (hx x List.mem_cons_self);have h2:=told_fold l _ _ _ _ h1 (insStep_good hg (hx x List.mem_cons_self)) fun y hy=>hx y (List.mem_cons_of_mem _ hy)
   refine told_congr h2 (fun j u=>?_) fun j=>?_
   ·constructor
    ·rintro((h3|h3)|⟨y,h3,h4⟩)
     ·exact .inl h3
     ·exact .inr ⟨x,List.mem_cons_self,h3⟩
     ·exact .inr ⟨y,List.mem_cons_of_mem _ h3,h4⟩
    ·rintro(h3|⟨y,h3,h4⟩)
     ·exact .inl (.inl h3)
     ·rcases List.mem_cons.1 h3 with rfl|h3
      ·exact .inl (.inr h4)
      ·exact .inr ⟨y,h3,h4⟩
   ·constructor
    ·rintro((h3|h3)|⟨y,h3,h4⟩)
     ·exact .inl h3
     ·exact .inr ⟨x,List.mem_cons_self,h3⟩
     ·exact .inr ⟨y,List.mem_cons_of_mem _ h3,h4⟩
    ·rintro(h3|⟨y,h3,h4⟩)
     ·exact .inl (.inl h3)
     ·rcases List.mem_cons.1 h3 with rfl|h3
      ·exact .inl (.inr h4)
      ·exact .inr ⟨y,h3,h4⟩
def MOfB(b:TBlock)(j:Nat)(u:Int):Prop:=∃ x,x∈b.ins/\MOf x j u
def ROfB(b:TBlock)(j:Nat):Prop:=(∃x,x∈b.ins/\ROf x j)\/(b.term.kind≠1/\(j:Int)=b.term.a)
theorem told_block{n m:Nat}{t:NS}{M:Nat->Int->Prop}{R:Nat->Prop}{b:TBlock}(h:Told n t M R)(hg:GoodN n m t)(hb:blockOK n b):
  Told n (blockStep t b) (fun j u=>M j u\/MOfB b j u) fun j=>R j\/ROfB b j:=by
 have h1:=told_fold b.ins m t M R h hg hb.1;have hg1:=foldIns_good b.ins m t hg hb.1
 unfold blockStep
 by_cases hk:b.term.kind=1
 ·rw[if_pos hk];exact told_congr h1 (fun j u=>Iff.rfl) fun j=>or_congr Iff.rfl ⟨.inl,fun h2=>h2.elim id fun h3=>absurd hk h3.1⟩
 ·rw[if_neg hk];have h2:=told_need h1 hg1.s (l:=[b.term.a]) fun v hv=>by simp at hv;subst hv;exact hb.2 hk
  refine told_congr h2 (fun j u=>Iff.rfl) fun j=>?_;unfold ROfB;simp only[List.mem_singleton];constructor
  ·rintro((h3|h3)|h3)
   ·exact .inl h3
   ·exact .inr (.inl h3)
   ·exact .inr (.inr ⟨hk,h3⟩)
  ·rintro(h3|h3|h3)
   ·exact .inl (.inl h3)
   ·exact .inl (.inr h3)
   ·exact .inr h3.2
theorem told_blocks{n:Nat}:∀ (l:List TBlock) (m:Nat) (t:NS) (M:Nat->Int->Prop) (R:Nat->Prop),Told n t M R->GoodN n m t->(∀b,b∈l->blockOK n b)->
  Told n (l.foldl blockStep t) (fun j u=>M j u\/ ∃b,b∈l/\MOfB b j u) fun j=>R j\/ ∃b,b∈l/\ROfB b j
 |[],m,t,M,R,h,_,_=>told_congr h (fun j u=>by simp) fun j=>by simp
 | x::l,m,t,M,R,h,hg,hx=>by
   have h1:=told_block h hg (hx x List.mem_cons_self);have h2:=told_blocks l _ _ _ _ h1 (blockStep_good hg (hx x List.mem_cons_self)) fun y hy=>hx y (List.mem_cons_of_mem _ hy)
   refine told_congr h2 (fun j u=>?_) fun j=>?_
   ·constructor
    ·rintro((h3|h3)|⟨y,h3,h4⟩)
     ·exact .inl h3
     ·exact .inr ⟨x,List.mem_cons_self,h3⟩
     ·exact .inr ⟨y,List.mem_cons_of_mem _ h3,h4⟩
    ·rintro(h3|⟨y,h3,h4⟩)
     ·exact .inl (.inl h3)
     ·rcases List.mem_cons.1 h3 with rfl|h3
      ·exact .inl (.inr h4)
      ·exact .inr ⟨y,h3,h4⟩
   ·constructor
    ·rintro((h3|h3)|⟨y,h3,h4⟩)
     ·exact .inl h3
     ·exact .inr ⟨x,List.mem_cons_self,h3⟩
     ·exact .inr ⟨y,List.mem_cons_of_mem _ h3,h4⟩
    ·rintro(h3|⟨y,h3,h4⟩)
     ·exact .inl (.inl h3)
     ·rcases List.mem_cons.1 h3 with rfl|h3
      ·exact .inl (.inr h4)
      ·exact .inr ⟨y,h3,h4⟩
end Go.Ab.Ytkmmpbmmmbebgaa
