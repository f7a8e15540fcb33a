/- The abstract machine and its soundness, part 3: what it says of the model's runs holds for every program whose functions it has. -/
import Derived.Test.YtkmmpbmmmbebgaaM2
import Derived.LoopN
import Derived.ScopeJumps
set_option linter.all false
section
namespace Go.Ab
open Go.RowKit
variable {w w':World} {tv tl:Nat->Value}
def mun(ids:List Nat)(m:Nat)(more:Bool)(i:Nat):Option Nat:=
 if i<m then nth ids i else if more then some (ids.length+(i-m))else none
theorem mun_num{ids:List Nat}(hn:ids.Nodup){m:Nat}(hm:∀ b,b∈ids->b<m){more:Bool}{j i:Nat}(h:num ids m more j=some i):mun ids m more i=some j:=by
 unfold num at h;unfold mun;split at h
 ·rw[if_pos (hm i (Mg h))];exact nth_of_get hn h
 ·rename_i hj;split at h
  ·rename_i hmo;simp only[Oe]at h;subst h;rw[if_neg (by omega),if_pos hmo];congr 1;omega
  ·cases h
def G.back(ids:List Nat)(m:Nat)(more:Bool)(n sz:Nat)(g g':G):G where
 ow k:=if k<sz/\(mine ids g k).isNone=true then g.ow k else match g'.ow k with
  |some (.bx j)=>(num ids m more j).map .bx
  | some (.row q)=>match q.r with
    | .hand 0=>some (.row ⟨.loc n,q.s⟩)
    | .box j c=>(num ids m more j).map fun i=> .row ⟨.box i c,q.s⟩
    |_=>none
  |_=>none
 hd q:=match q.r with
  | .loc k=>if k=n then g'.hd ⟨.hand 0,q.s⟩else g.hd q
  | .box i c=>match mun ids m more i with
    |some j=>g'.hd ⟨.box j c,q.s⟩
    |none=>g.hd q
  |_=>g.hd q
 blk i:=match mun ids m more i with
  |some j=>g'.blk j
  |none=>g.blk i
structure Came(ids:List Nat)(b:Bool)(m:Nat)(more:Bool)(g:G)(w:World)(g':G)(w':World):Prop where
 nd:ids.Nodup
 lt:∀ i,i∈ids->i<m
 L:Later (g.callee ids b) w g' w'
 blk:∀ j,j<ids.length->g'.blk j=(g.callee ids b).blk j
 own:∀ k,g.ow k≠none->k<w.heap.size
 own':∀ k,g'.ow k≠none->k<w'.heap.size
section
variable {ids:List Nat} {b:Bool} {m:Nat} {more:Bool} {n:Nat} {g g':G}
theorem back_old{k:Nat}(hk:k<w.heap.size)(hm:mine ids g k=none):(G.back ids m more n w.heap.size g g').ow k=g.ow k:=by
 simp only[G.back];rw[if_pos ⟨hk,by rw[hm];rfl⟩]
theorem callee_cases{k:Nat}(hm:mine ids g k=none):(g.callee ids b).ow k=none\/(g.callee ids b).ow k=some .frn:=by
 cases ho:(gB (ids.contains ·) b g).ow k with
 |none=>exact .inl (callee_none hm ho)
 |some o=>exact .inr (callee_frn hm ho)
theorem Came.still(c:Came ids b m more g w g' w'){k:Nat}(hk:k<w.heap.size)(hm:mine ids g k=none):w'.heap[k]?=w.heap[k]?/\(g'.ow k=none\/g'.ow k=some .frn):=by
 rcases callee_cases (b:=b) hm with h|h
 ·exact⟨c.L.same k hk h,.inl (c.L.free k hk h)⟩
 ·exact⟨(c.L.frn k hk h).2,.inr (c.L.frn k hk h).1⟩
theorem Came.later(c:Came ids b m more g w g' w'):Later g w (G.back ids m more n w.heap.size g g') w':=by
 refine⟨c.L.size,fun k hk h=>?_,fun k hk h=>(c.still hk (mine_none h)).1,fun k hk h=>⟨?_,(c.still hk (mine_frn h)).1⟩⟩
 ·rw[back_old hk (mine_none h)];exact h
 ·rw[back_old hk (mine_frn h)];exact h
structure Far(ids:List Nat)(m n:Nat)(p:Pl):Prop where
 out:outR (ids.contains ·) p.r=false
 loc:p.r≠ .loc n
 box:∀ i c,p.r= .box i c->i<m
theorem Far.hd{p:Pl}(h:Far ids m n p):(G.back ids m more n w.heap.size g g').hd p=g.hd p:=by
 simp only[G.back];split
 ·rename_i k hk;rw[if_neg (fun e=>h.loc (by rw[hk,e]))]
 ·rename_i i c hi;have h1:=h.box i c hi
  have h2:=h.out;rw[hi]at h2;unfold mun;rw[if_pos h1,nth_contains.2 h2]
 ·rfl
theorem Far.under{p r:Pl}(h:Far ids m n p)(hu:p.under r):Far ids m n r:=⟨by rw[<-hu.1];exact h.out,by rw[<-hu.1];exact h.loc,fun i c e=>h.box i c (by rw[hu.1];exact e)⟩
theorem Came.stays(c:Came ids b m more g w g' w'){p:Pl}(h:Far ids m n p):Stays p g w (G.back ids m more n w.heap.size g g') w':=
 { c.later with
   hd:=fun r hr=>(h.under hr).hd
   ow:=fun r k hr ho=>by rw[back_old (c.own k (by rw[ho];simp)) (mine_row ho (h.under hr).out)];exact ho
   row:=fun r k hr ho=>(c.still (c.own k (by rw[ho];simp)) (mine_row ho (h.under hr).out)).1}
theorem Came.fresh(c:Came ids b m more g w g' w'){k:Nat}{o:Ow}(ho:g'.ow k=some o)(hf:o≠ .frn):
  (G.back ids m more n w.heap.size g g').ow k=match (some o:Option Ow)with
  |some (.bx j)=>(num ids m more j).map .bx
  | some (.row q)=>match q.r with
    | .hand 0=>some (.row ⟨.loc n,q.s⟩)
    | .box j c=>(num ids m more j).map fun i=> .row ⟨.box i c,q.s⟩
    |_=>none
  |_=>none:=by
 simp only[G.back];rw[if_neg,ho];rintro⟨hk,hm⟩;have hm':mine ids g k=none:=by simpa using hm
 rcases(c.still hk hm').2 with h|h
 ·rw[ho]at h;cases h
 ·rw[ho]at h;cases h;exact hf rfl
theorem Came.blk'(c:Came ids b m more g w g' w'){i:Nat}(hi:i<m):(G.back ids m more n w.heap.size g g').blk i=g.blk i:=by
 simp only[G.back];unfold mun;rw[if_pos hi];cases hn:nth ids i with
 |none=>rfl
 | some j=>
   have hj:=nth_some hn;show g'.blk j=g.blk i
   rw[c.blk j (Ge hj).1,callee_blk hj]
theorem Came.blk2(c:Came ids b m more g w g' w'){i j:Nat}(h:num ids m more j=some i):(G.back ids m more n w.heap.size g g').blk i=g'.blk j:=by
 simp only[G.back,mun_num c.nd c.lt h]
theorem Came.repI(c:Came ids false m more g w g' w'){a:A}{v:Value}(r:RepI g' w' a v):RepI (G.back ids m more n w.heap.size g g') w' a v:=by
 have free:∀ k,g'.ow k=none->(G.back ids m more n w.heap.size g g').ow k=none:=by
  intro k hk;simp only[G.back];split
  ·rename_i h;have hm:mine ids g k=none:=by simpa using h.2
   cases ho:(gB (ids.contains ·) false g).ow k with
   |none=>exact ho
   | some o=>
     have:=c.L.frn k h.1 (callee_frn hm ho);rw[hk]at this;cases this.1
  ·rw[hk]
 induction r with
 |un u h=>exact .un u h
 |v x h=>exact .v x h
 |emp a z oa cap ha=>exact .emp a z oa cap ha
 |row a z es k off cap u ha hc hn hb hl hu _ ih=>exact .row a z es k off cap u ha hc (free k hn) hb hl hu ih
 |nilr z=>exact .nilr z
 |pimm cs k off u hn hb hu _ ih=>exact .pimm cs k off u (free k hn) hb hu ih
 |clo f=>exact .clo f
 |ifc t x u _ ih=>exact .ifc t x u ih
 |agg cs us hl _ ih=>exact .agg cs us hl ih
structure Goes(ids:List Nat)(m:Nat)(more:Bool)(n:Nat)(p q:Pl):Prop where
 s:q.s=p.s
 r:(p.r= .hand 0/\q.r= .loc n)\/ ∃j i c,p.r= .box j c/\q.r= .box i c/\num ids m more j=some i
theorem Goes.at{p q:Pl}(h:Goes ids m more n p q)(i c:Nat):Goes ids m more n (p.at i c) (q.at i c):=⟨by simp[Pl.at,h.s],h.r⟩
theorem Goes.plus{p q:Pl}(h:Goes ids m more n p q)(s:List (Nat×Nat)):Goes ids m more n (p.plus s) (q.plus s):=⟨by simp[Pl.plus,h.s],h.r⟩
theorem Came.hd(c:Came ids b m more g w g' w'){p q:Pl}(h:Goes ids m more n p q):(G.back ids m more n w.heap.size g g').hd q=g'.hd p:=by
 simp only[G.back];rcases h.r with⟨h1,h2⟩|⟨j,i,cc,h1,h2,h3⟩
 ·rw[h2];simp only[if_true];congr 1;cases p;simp_all [h.s]
 ·rw[h2];simp only[mun_num c.nd c.lt h3];congr 1;cases p;simp_all [h.s]
theorem Came.row(c:Came ids b m more g w g' w'){p q:Pl}(h:Goes ids m more n p q){k:Nat}(ho:g'.ow k=some (.row p)):(G.back ids m more n w.heap.size g g').ow k=some (.row q):=by
 rw[c.fresh ho (by simp)];have e:q.s=p.s:=h.s
 rcases h.r with⟨h1,h2⟩|⟨j,i,cc,h1,h2,h3⟩
 ·simp only[h1];cases q;simp_all
 ·simp only[h1,h3,Option.map_some];cases q;simp_all
theorem Came.repO(c:Came ids false m more g w g' w'){p q:Pl}(h:Goes ids m more n p q){a:A}{v:Value}(r:RepO g' w' p a v):RepO (G.back ids m more n w.heap.size g g') w' q a v:=
 r.place q (fun _ _ r=>c.repI r) (fun s=>c.hd (h.plus s)) (fun s _ hk=>⟨c.row (h.plus s) hk,rfl⟩)
theorem isV_rep{G0:G}{W:World}{x:A}{u:Value}(h:x.isV=true){p:Pl}(r:RepO G0 W p x u){g2:G}{w2:World}(q:Pl):RepO g2 w2 q x u:=by
 cases x<;>simp[A.isV]at h;cases r with
 | imm _ _ _ hi _=>
   cases hi with
   |v _ h1=>exact .imm _ _ _ (.v _ h1) rfl
   |emp _ _ _ _ ha=>rcases ha with ha|ha<;>cases ha
   |row _ _ _ _ _ _ _ ha=>rcases ha with ha|ha<;>cases ha
theorem Came.repOV(c:Came ids b m more g w g' w'){p q:Pl}(h:Goes ids m more n p q){z:Nat}{es:List (List A)}(hv:es.all (·.all A.isV)=true){v:Value}(r:RepO g' w' p (.own z es) v):
  RepO (G.back ids m more n w.heap.size g g') w' q (.own z es) v:=by
 cases r with
 |imm _ _ _ _ ha=>simp[A.leaf]at ha
 | own _ z es k cap cur t u h1 h2 h3 h4 h5 h6 h7 h8 h9=>
   exact .own q z es k cap cur t u ((c.hd h).trans h1) (c.row h h2) h3 h4 h5 h6 h7 h8 fun i e cc x he hx=>
    isV_rep (List.all_eq_true.1 (List.all_eq_true.1 hv e (Mg he)) x (Mg hx)) (h9 i e cc x he hx) _
def tn1(b:Bool)(x:A):A:=if b then untaintL x else x
theorem Came.repC(c:Came ids b m more g w g' w'){nb nb2:Nat}(hnb:∀ j i,j<nb->num ids m more j=some i->i<nb2){p q:Pl}(h:Goes ids m more n p q){x:A}{v:Value}(r:RepC g' w' nb p x v):
  RepC (G.back ids m more n w.heap.size g g') w' nb2 q (renL (num ids m more) (tn1 b x)) v:=by
 have hf:∀ b0 b',b0<nb->num ids m more b0=some b'->b'<nb2/\(G.back ids m more n w.heap.size g g').blk b'=g'.blk b0:=fun b0 b' h1 h2=>⟨hnb b0 b' h1 h2,c.blk2 h2⟩;cases b with
 |false=>exact r.ren hf (fun _ _ r=>c.repI r) fun r=>c.repO h r
 | true=>
   have unC:∀ y:A,(RepC g' w' nb p y v)->RepC (G.back ids m more n w.heap.size g g') w' nb2 q .un v:=fun y r=>by
    simp only[RepC];exact .imm _ _ _ (.un _ r.one) rfl
   simp only[tn1,if_true]
   cases x<;>simp only[untaintL,renL,renK]<;>first
    |exact unC _ r
    |skip
   ·-- v
    simp only[RepC]at r ⊢
    exact isV_rep rfl r q
   ·rename_i z es
    by_cases hv:es.all (·.all A.isV)=true
    ·simp only[if_pos hv,RepC]at r ⊢
     exact c.repOV h hv r
    ·simp only[if_neg hv];exact unC _ r
   ·rename_i b0 c0;simp only[RepC]at r;cases hb:num ids m more b0 with
    |none=>simp only[RepC];rw[r.2];exact .imm _ _ _ (.un _ rfl) rfl
    |some b'=>obtain⟨h1,h2⟩:=hf b0 b' r.1 hb;simp only[RepC];exact⟨h1,by rw[h2];exact r.2⟩
   ·rename_i b0;simp only[RepC]at r;cases hb:num ids m more b0 with
    |none=>simp only[RepC];rw[r.2];exact .imm _ _ _ (.un _ rfl) rfl
    |some b'=>obtain⟨h1,h2⟩:=hf b0 b' r.1 hb;simp only[RepC];exact⟨h1,by rw[h2];exact r.2⟩
end
end Go.Ab
end
section
namespace Go.Ab
open Go.RowKit
variable {w w':World} {tv tl:Nat->Value}
theorem backB_len:∀ (ids:List Nat) (xs bx:List Bx),(backB bx ids xs).length=bx.length
 |[],_,bx=>by simp[backB]
 |b::bs,[],bx=>by simp[backB]
 |b::bs,x::xs,bx=>by simp only[backB];rw[backB_len bs,List.length_set]
theorem nth_cons(b:Nat)(bs:List Nat)(i:Nat):nth (b::bs) i=if b==i then some 0 else(nth bs i).map (· +1):=by
 simp only[nth,List.findIdx?_cons]
theorem backB_get:∀ (ids:List Nat) (xs bx:List Bx) (i:Nat),ids.Nodup->xs.length=ids.length->(∀b,b∈ids->b<bx.length)->
  (backB bx ids xs)[i]?=match nth ids i with|some j=>xs[j]?|none=>bx[i]?
 |[],xs,bx,i,_,_,_=>by simp[backB,nth]
 |b::bs,[],bx,i,_,hl,_=>by simp at hl
 | b::bs,x::xs,bx,i,hn,hl,hb=>by
   simp only[backB];rw[backB_get bs xs _ i (List.nodup_cons.1 hn).2 (by simpa using hl) (fun c hc=>by rw[List.length_set];exact hb c (List.mem_cons_of_mem _ hc)),nth_cons]
   by_cases hbi:b=i
   ·subst hbi
    have:nth bs b=none:=by
     rw[nth_contains];have:=(List.nodup_cons.1 hn).1
     simpa using this
    rw[this];simp[hb b (List.mem_cons_self ..)]
   ·have hbe:(b==i)=false:=by simpa using hbi
    rw[hbe];cases nth bs i with
    |none=>simp[List.getElem?_set_ne hbi]
    |some j=>simp
def killPs:List Pl->St->St
 |[],σ=>σ
 |p::ps,σ=>killPs ps (σ.kill p)
theorem killPs_append:∀ (l k:List Pl) (σ:St),killPs (l++k) σ=killPs k (killPs l σ)
 |[],_,_=>rfl
 |p::l,k,σ=>killPs_append l k (σ.kill p)
theorem killBox_ps(b c:Nat):∀ (l:List Nat) (σ:St),killBox b c l σ=killPs (l.map fun j=>⟨.box b (c+j),[]⟩) σ
 |[],_=>rfl
 |j::l,σ=>killBox_ps b c l (σ.kill ⟨.box b (c+j),[]⟩)
theorem killPs_bx:∀ (l:List Pl) (σ:St) (bx:List Bx),killPs l {σ with bx:=bx}={killPs l σ with bx:=bx}
 |[],_,_=>rfl
 |p::l,σ,bx=>by simp only[killPs];exact killPs_bx l (σ.kill p) bx
theorem killPs_bx':∀ (l:List Pl) (σ:St),(killPs l σ).bx=σ.bx
 |[],_=>rfl
 |p::l,σ=>by simp only[killPs];rw[killPs_bx'];rfl
def cellsAt(bx:List Bx)(ids:List Nat):List Pl:=ids.flatMap fun b=>(List.range (ncells bx[b]?)).map fun j=>⟨.box b (0+j),[]⟩
theorem killBoxes_ps(bx:List Bx):∀ (ids:List Nat) (σ:St),σ.bx=bx->killBoxes ids σ=killPs (cellsAt bx ids) σ
 |[],_,_=>rfl
 | b::bs,σ,h=>by
   simp only[killBoxes,cellsAt,List.flatMap_cons];rw[killBox_ps,killPs_append,killBoxes_ps bx bs _ (by rw[killPs_bx'];exact h),h];rfl
theorem killPs_ok{g:G}:∀ (l:List Pl) (σ:St),Inv g σ w tv tl->Inv g (killPs l σ) w tv tl/\(killPs l σ).ls.length=σ.ls.length/\(killPs l σ).vs.length=σ.vs.length/\(∀r,(killPs l σ).R r=σ.R r)/\
  (∀r,RefIn (killPs l σ) r->RefIn σ r/\ ∀p,p∈l->hangs p r=false)
 |[],σ,h=>⟨h,rfl,rfl,fun _=>rfl,fun r hr=>⟨hr,fun p hp=>by cases hp⟩⟩
 | p::l,σ,h=>by
   obtain⟨h1,h2,h3,h4,h5⟩:=killPs_ok l (σ.kill p) (h.kill p);refine⟨h1,by simp only[killPs];rw[h2];simp[St.kill],by simp only[killPs];rw[h3];simp[St.kill],fun r=>(h4 r).trans (R_kill _ _ _),fun r hr=>?_⟩;obtain⟨k1,k2⟩:=h5 r hr;refine⟨refIn_sub k1,fun q hq=>?_⟩;rw[List.mem_cons]at hq;rcases hq with rfl|hq
   ·exact refIn_kill k1
   ·exact k2 q hq
theorem app_ref{x:A}{q:Pl}(h:q∈appsT x):q∈refsT x:=by
 have hL:∀ y,q∈appsL y->q∈refsL y:=by
  intro y hy;cases y<;>simp[appsL]at hy;subst hy;simp[refsL]
 have hA:∀ y,q∈appsA y->q∈refsA y:=by
  intro y hy;cases y with
  | agg cs=>
    simp only[appsA,refsA,List.mem_flatMap]at hy ⊢
    obtain⟨c,hc,h⟩:=hy;exact⟨c,hc,hL c h⟩
  |_=>simp only[appsA,refsA]at hy ⊢;exact hL _ hy
 cases x with
 | tup cs=>
   simp only[appsT,refsT,List.mem_flatMap]at h ⊢
   obtain⟨c,hc,h⟩:=h;exact⟨c,hc,hA c h⟩
 |_=>simp only[appsT,refsT]at h ⊢;exact hA _ h
def setA:A->Bool
 | .agg cs=>cs.all fun x=>!x.loose
 |x=>!x.loose
def setT:A->Bool
 | .tup vs=>vs.all setA
 |x=>setA x
def tnA(b:Bool)(x:A):A:=if b then untaintA x else x
def tnT(b:Bool)(x:A):A:=if b then untaint x else x
def tnB(b:Bool)(x:Bx):Bx:=if b then untaintB x else x
theorem repL_set{g:G}{V:Vw}{p:Pl}{x:A}{v:Value}(h:x.loose=false)(r:RepL g w V p x v):RepC g w V.nb p x v:=by
 cases x<;>first
  |exact r
  |(simp[A.loose]at h;done)
section
variable {ids:List Nat} {b:Bool} {m:Nat} {more:Bool} {n:Nat} {g g':G}
theorem Came.repA(c:Came ids b m more g w g' w'){V V2:Vw}(hnb:∀ j i,j<V.nb->num ids m more j=some i->i<V2.nb){p q:Pl}(h:Goes ids m more n p q){x:A}{v:Value}(hx:setA x=true)(r:RepA g' w' V p x v):
  RepA (G.back ids m more n w.heap.size g g') w' V2 q (renA (num ids m more) (tnA b x)) v:=by
 have one:∀ y,y=x->(∀cs,y≠ .agg cs)->y.loose=false->RepL g' w' V p y v->RepA (G.back ids m more n w.heap.size g g') w' V2 q (renL (num ids m more) (tn1 b y)) v:=fun y _ _ hy r=>
  (RepC.toL (c.repC hnb h (repL_set hy r))).toA fun cs e=>by
   have:=(RepC.toL (V:=V2) (c.repC hnb h (repL_set hy r)));rw[e]at this;exact this.noAgg
 cases x with
 | agg cs=>
   obtain⟨us,h1,h2,h3⟩:=r
   have e:renA (num ids m more) (tnA b (.agg cs))= .agg (cs.map fun x=>renL (num ids m more) (tn1 b x)):=by
    cases b<;>simp[tnA,tn1,untaintA,renA,Function.comp_def]
   rw[e];refine⟨us,h1,by simp[h2],fun k x u hx' hu=>?_⟩;rw[List.getElem?_map]at hx';cases hx0:cs[k]? with
   |none=>rw[hx0]at hx';cases hx'
   | some x0=>
     rw[hx0]at hx';cases hx';have:=List.all_eq_true.1 hx x0 (Mg hx0)
     exact RepC.toL (c.repC hnb (h.at 0 k) (repL_set (by simpa using this) (h3 k x0 u hx0 hu)))
 |tup vs=>simp[setA,A.loose]at hx
 | own z es=>
   have:=one _ rfl (fun cs e=>by cases e) (by simpa[setA]using hx) r;cases b
   ·exact this
   ·simp only[tnA,tn1,if_true,untaintA,untaintL]at this ⊢
    by_cases hv:es.all (·.all A.isV)=true
    ·simp only[if_pos hv]at this ⊢;exact this
    ·simp only[if_neg hv]at this ⊢;exact this
 | _=>
   have:=one _ rfl (fun cs e=>by cases e) (by simpa[setA]using hx) r;cases b<;>exact this
theorem Came.repT(c:Came ids b m more g w g' w'){V V2:Vw}(hnb:∀ j i,j<V.nb->num ids m more j=some i->i<V2.nb){x:A}{v:Value}(hx:setT x=true)(r:RepT g' w' V hand0 x v):
  RepT (G.back ids m more n w.heap.size g g') w' V2 ⟨.loc n,[]⟩ (renT (num ids m more) (tnT b x)) v:=by
 have h0:Goes ids m more n hand0 ⟨.loc n,[]⟩:=⟨rfl,.inl ⟨rfl,rfl⟩⟩
 have noTup:∀ y,∀cs,renA (num ids m more) (tnA b y)= .tup cs->y= .tup cs:=by
  intro y cs e
  have hK:∀ z,renK (num ids m more) z= .tup cs->z= .tup cs:=by
   intro z e
   cases z<;>simp only[renK]at e<;>first
    |exact e
    |(split at e<;>cases e)
  have hL:∀ z,renL (num ids m more) z= .tup cs->z= .tup cs:=by
   intro z e
   cases z<;>simp only[renL]at e<;>first
    |exact hK _ e
    |cases e
  have hA:∀ z,renA (num ids m more) z= .tup cs->z= .tup cs:=by
   intro z e
   cases z<;>simp only[renA]at e<;>first
    |exact hL _ e
    |cases e
  have h1:=hA _ e;cases b with
  |false=>exact h1
  | true=>
    simp only[tnA,if_true]at h1
    cases y<;>simp only[untaintA,untaintL]at h1<;>first
     |cases h1
     |(split at h1<;>cases h1)
 have one:∀ y,y=x->(∀cs,y≠ .tup cs)->setA y=true->RepA g' w' V hand0 y v->RepT (G.back ids m more n w.heap.size g g') w' V2 ⟨.loc n,[]⟩ (renA (num ids m more) (tnA b y)) v:=fun y _ ht hy r=>
  (c.repA hnb h0 hy r).toT fun cs e=>ht cs (noTup y cs e)
 cases x with
 | tup vs=>
   obtain⟨us,h1,h2,h3⟩:=r
   have e:renT (num ids m more) (tnT b (.tup vs))= .tup (vs.map fun x=>renA (num ids m more) (tnA b x)):=by
    cases b<;>simp[tnT,tnA,untaint,renT,Function.comp_def]
   rw[e];refine⟨us,h1,by simp[h2],fun k x u hx' hu=>?_⟩;rw[List.getElem?_map]at hx';cases hx0:vs[k]? with
   |none=>rw[hx0]at hx';cases hx'
   | some x0=>
     rw[hx0]at hx';cases hx';exact c.repA hnb (h0.at k 0) (List.all_eq_true.1 hx x0 (Mg hx0)) (h3 k x0 u hx0 hu)
 | own z es=>
   have:=one _ rfl (fun cs e=>by cases e) hx r;cases b
   ·exact this
   ·simp only[tnA,tnT,if_true,untaint,untaintA,untaintL]at this ⊢
    by_cases hv:es.all (·.all A.isV)=true
    ·simp only[if_pos hv]at this ⊢;exact this
    ·simp only[if_neg hv]at this ⊢;exact this
 |top=>simp[setT,setA,A.loose]at hx
 |ud=>simp[setT,setA,A.loose]at hx
 | _=>
   have:=one _ rfl (fun cs e=>by cases e) hx r;cases b<;>exact this
theorem repI_tn{G0:G}{W:World}{a:A}{v:Value}(ha:∀ cs,a≠ .agg cs)(r:RepI g' w' a v):RepI G0 W (untaintN a) v:=by
 have un:RepI G0 W .un v:=.un v (r.one ha)
 cases a<;>simp only[untaintN]<;>first
  |exact un
  | (cases r with
     |v _ h1=>exact .v _ h1
     |emp _ _ _ _ ha=>rcases ha with ha|ha<;>cases ha
     |row _ _ _ _ _ _ _ ha=>rcases ha with ha|ha<;>cases ha)
theorem Came.repM(c:Came ids b m more g w g' w'){a:A}{v:Value}(r:RepM g' w' a v):RepM (G.back ids m more n w.heap.size g g') w' (if b then untaintM a else a) v:=by
 cases b with
 | false=>
   simp only[Bool.false_eq_true,if_false]
   cases a<;>simp only[RepM]at r ⊢ <;>first
    |exact c.repI r
    |skip
   obtain⟨us,h1,h2,h3⟩:=r;exact⟨us,h1,h2,fun k x u hx hu=>⟨c.repI (h3 k x u hx hu).1,(h3 k x u hx hu).2⟩⟩
 | true=>
   simp only[if_true];have one:∀ y,y=a->(∀cs,y≠ .agg cs)->RepI g' w' y v->RepI (G.back ids m more n w.heap.size g g') w' (untaintN y) v:=fun y _ h r=>repI_tn h r
   cases a with
   | agg cs=>
     simp only[RepM,untaintM]at r ⊢
     obtain⟨us,h1,h2,h3⟩:=r;refine⟨us,h1,by simp[h2],fun k x u hx hu=>?_⟩;rw[List.getElem?_map]at hx;cases hx0:cs[k]? with
     |none=>rw[hx0]at hx;cases hx
     | some x0=>
       rw[hx0]at hx;cases hx;obtain⟨r0,l0⟩:=h3 k x0 u hx0 hu;refine⟨repI_tn (fun cs e=>by subst e;simp[A.leaf]at l0) r0,?_⟩;cases x0<;>rfl
   |_=>exact one _ rfl (fun cs e=>by cases e) r
end
end Go.Ab
end
section
namespace Go.Ab
open Go.RowKit
variable {w w':World} {tv tl:Nat->Value}
section
variable {ids:List Nat} {b:Bool} {m:Nat} {more:Bool} {n:Nat} {g g':G}
theorem Came.box(c:Came ids b m more g w g' w'){nb nb2:Nat}(hnb:∀ j i,j<nb->num ids m more j=some i->i<nb2){i j:Nat}(hj:num ids m more j=some i){x:Bx}(k:BoxOK g' w' nb j x):
  BoxOK (G.back ids m more n w.heap.size g g') w' nb2 i (renB (num ids m more) (tnB b x)):=by
 have hown:∀ t,g'.ow t=some (.bx j)->(G.back ids m more n w.heap.size g g').ow t=some (.bx i):=fun t h=>by
  rw[c.fresh h (by simp)];simp[hj]
 cases x with
 | cells cs=>
   have e:renB (num ids m more) (tnB b (.cells cs))= .cells (cs.map fun x=>renL (num ids m more) (tn1 b x)):=by
    cases b<;>simp[tnB,tn1,untaintB,renB,Function.comp_def]
   rw[e];simp only[BoxOK]at k ⊢
   rw[c.blk2 hj];obtain⟨h1,cur,t,h2,h3,h4⟩:=k;refine⟨hown _ h1,cur,t,h2,by simp[h3],fun d x hx=>?_⟩;rw[List.getElem?_map]at hx;cases hx0:cs[d]? with
   |none=>rw[hx0]at hx;cases hx
   | some x0=>
     rw[hx0]at hx;cases hx;obtain⟨u,hu,hc⟩:=h4 d x0 hx0;exact⟨u,hu,c.repC (n:=n) hnb (p:=⟨.box j d,[]⟩) (q:=⟨.box i d,[]⟩) ⟨rfl,.inr ⟨j,i,d,rfl,rfl,hj⟩⟩ hc⟩
 | map es=>
   have e:renB (num ids m more) (tnB b (.map es))= .map (es.map fun e=>(e.1,if b then untaintM e.2 else e.2)):=by
    cases b<;>simp[tnB,untaintB,renB]
   rw[e];simp only[BoxOK]at k ⊢
   rw[c.blk2 hj];obtain⟨h1,ents,clk,h2,h3,h4⟩:=k;refine⟨hown _ h1,ents,clk,h2,by simp[h3],fun d key x hx=>?_⟩;rw[List.getElem?_map]at hx;cases hx0:es[d]? with
   |none=>rw[hx0]at hx;cases hx
   | some x0=>
     rw[hx0]at hx;simp only[Option.map_some,Oe,Prod.mk.injEq]at hx;obtain⟨rfl,rfl⟩:=hx;obtain⟨e,he,hk,hv⟩:=h4 d x0.1 x0.2 hx0;exact⟨e,he,hk,c.repM hv⟩
 |gone=>cases b<;>trivial
def boxes2(ids:List Nat)(b:Bool)(m:Nat)(more:Bool)(bx bx':List Bx):List Bx:=
 let bx1:=backB bx ids ((bx'.take ids.length).map fun x=>renB (num ids m more) (tnB b x))
 if more then bx1++(bx'.drop ids.length).map fun x=>renB (num ids m more) (tnB b x)else bx1
theorem boxes2_len(bx bx':List Bx):(boxes2 ids b m more bx bx').length=bx.length+if more then bx'.length-ids.length else 0:=by
 unfold boxes2;cases more<;>simp[backB_len]
theorem boxes2_get(hn:ids.Nodup){bx bx':List Bx}(hm:bx.length=m)(hlt:∀ i,i∈ids->i<m)(hle:ids.length<=bx'.length){i:Nat}{x:Bx}(h:(boxes2 ids b m more bx bx')[i]?=some x):
  (i<m/\nth ids i=none/\bx[i]?=some x)\/ ∃j y,num ids m more j=some i/\bx'[j]?=some y/\x=renB (num ids m more) (tnB b y):=by
 have hB:∀ x,(backB bx ids ((bx'.take ids.length).map fun x=>renB (num ids m more) (tnB b x)))[i]?=some x->
   (i<m/\nth ids i=none/\bx[i]?=some x)\/ ∃j y,num ids m more j=some i/\bx'[j]?=some y/\x=renB (num ids m more) (tnB b y):=by
  intro x hx;rw[backB_get ids _ _ i hn (by simp;omega) (fun b hb=>by rw[hm];exact hlt b hb)]at hx;cases hni:nth ids i with
  | none=>
    rw[hni]at hx;exact .inl ⟨by rw[<-hm];exact(Ge hx).1,rfl,hx⟩
  | some j=>
    rw[hni]at hx;have hj:=nth_some hni
    have hjl:=(Ge hj).1;simp only[List.getElem?_map,List.getElem?_take,if_pos hjl]at hx;cases hy:bx'[j]? with
    |none=>rw[hy]at hx;cases hx
    | some y=>
      rw[hy]at hx;simp only[Option.map_some,Oe]at hx;exact .inr ⟨j,y,by unfold num;rw[if_pos hjl];exact hj,hy,hx.symm⟩
 unfold boxes2 at h;cases more with
 |false=>exact hB x (by simpa using h)
 | true=>
   simp only[if_true]at h
   by_cases hi:i<m
   ·rw[List.getElem?_append_left (by rw[backB_len,hm];exact hi)]at h;exact hB x h
   ·rw[List.getElem?_append_right (by rw[backB_len,hm];omega),backB_len,hm,List.getElem?_map,List.getElem?_drop]at h;cases hy:bx'[ids.length+(i-m)]? with
    |none=>rw[hy]at h;cases h
    | some y=>
      rw[hy]at h;simp only[Option.map_some,Oe]at h;refine .inr ⟨ids.length+(i-m),y,?_,hy,h.symm⟩;unfold num;rw[if_neg (by omega),if_pos rfl];congr 1;omega
theorem num_lt{bx bx':List Bx}(hm:bx.length=m)(hlt:∀ i,i∈ids->i<m):∀ j i,j<bx'.length->num ids m more j=some i->i<(boxes2 ids b m more bx bx').length:=by
 intro j i hj h;rw[boxes2_len,hm];unfold num at h;split at h
 ·have:=hlt i (Mg h);omega
 ·split at h
  ·rename_i hmo;simp only[Oe]at h;subst h;rw[hmo];simp only[if_true];omega
  ·cases h
theorem cells_root{bx:List Bx}{i c:Nat}{σ:St}(h:σ.bx=bx)(hc:¬ c<ncells bx[i]?):σ.root (.box i c)=none:=by
 simp only[St.root,h];cases hb:bx[i]? with
 |none=>rfl
 | some x=>
   cases x with
   | cells cs=>
     rw[hb]at hc;simp only[ncells]at hc;exact List.getElem?_eq_none (by omega)
   |_=>rfl
theorem Came.inv(c:Came ids b m more g w g' w'){σ:St}(hi:Inv g σ w tv tl)(hm:σ.bx.length=m)(hn:n=σ.ls.length){bx':List Bx}(hle:ids.length<=bx'.length)(hb':∀ j x,bx'[j]?=some x->BoxOK g' w' bx'.length j x)
  {V:Vw} (hV:V.nb=bx'.length) {r:A} {v:Value} (hr:RepT g' w' V hand0 r v) (hs:setT r=true):
  Inv (G.back ids m more n w.heap.size g g') (killBoxes ids {σ with bx:=boxes2 ids b m more σ.bx bx'}) w' tv tl/\
  RepT (G.back ids m more n w.heap.size g g') w' (killBoxes ids {σ with bx:=boxes2 ids b m more σ.bx bx'}).view ⟨.loc n,[]⟩ (renT (num ids m more) (tnT b r)) v/\
  (killBoxes ids {σ with bx:=boxes2 ids b m more σ.bx bx'}).ls.length=σ.ls.length/\
  BX g σ (G.back ids m more n w.heap.size g g') (killBoxes ids {σ with bx:=boxes2 ids b m more σ.bx bx'}):=by
 have hlen:=boxes2_len (ids:=ids) (b:=b) (m:=m) (more:=more) σ.bx bx';have hnb:=num_lt (ids:=ids) (b:=b) (m:=m) (more:=more) (bx:=σ.bx) (bx':=bx') hm c.lt
 rw[killBoxes_ps _ ids _ rfl,killPs_bx];obtain⟨k1,k2,k3,k4,k5⟩:=killPs_ok (cellsAt (boxes2 ids b m more σ.bx bx') ids) σ hi;have kb:(killPs (cellsAt (boxes2 ids b m more σ.bx bx') ids) σ).bx=σ.bx:=killPs_bx' _ _
 generalize killPs (cellsAt (boxes2 ids b m more σ.bx bx') ids) σ=τ at*
 have hfar:∀ q:Pl,τ.view.ok q->outR (ids.contains ·) q.r=false->Far ids m n q:=by
  intro q hq ho;refine⟨ho,fun e=>?_,fun i d e=>?_⟩
  ·unfold Vw.ok at hq;rw[e]at hq;simp only[St.view]at hq;omega
  ·unfold Vw.ok at hq;rw[e]at hq;simp only[St.view,kb]at hq;omega
 have hR:∀ q,τ.view.ok q->RefIn τ q->({τ with bx:=boxes2 ids b m more σ.bx bx'}:St).R q=none\/(({τ with bx:=boxes2 ids b m more σ.bx bx'}:St).R q=τ.R q/\Far ids m n q):=by
  intro q hq hin;cases ho:outR (ids.contains ·) q.r with
  | false=>
    have hf:=hfar q hq ho;refine .inr ⟨R_of_root ?_,hf⟩;cases hqr:q.r with
    | box i d=>
      simp only[St.root,kb];have hcon:ids.contains i=false:=by rw[hqr]at ho;exact ho
      have hn0:=nth_contains.2 hcon;have hi':=hf.box i d hqr
      have:(boxes2 ids b m more σ.bx bx')[i]?=σ.bx[i]?:=by
       have hlt2:i<(boxes2 ids b m more σ.bx bx').length:=by omega
       rcases boxes2_get c.nd hm c.lt hle (Gg hlt2)with⟨_,_,h⟩|⟨j,y,h,_⟩
       ·rw[h,Gg hlt2]
       ·have:=mun_num c.nd c.lt h;unfold mun at this;rw[if_pos hi',hn0]at this;cases this
      rw[this]
    |_=>rfl
  | true=>
    left;cases hqr:q.r with
    | box i d=>
      rw[hqr]at ho
      have hroot:({τ with bx:=boxes2 ids b m more σ.bx bx'}:St).root q.r=none:=by
       rw[hqr];refine cells_root rfl fun hlt=>?_
       have:=(k5 q hin).2 ⟨.box i (0 + d),[]⟩ (by
        simp only[cellsAt,List.mem_flatMap,List.mem_map,List.mem_range]
        exact⟨i,by simpa[outR]using ho,d,hlt,rfl⟩)
       simp[hangs,Rt.same,hqr]at this
      simp only[St.R,St.row,St.get,hroot]
    |_=>rw[hqr]at ho;cases ho
 have tr:∀ (p:Pl) (V0 V0':Vw) (x:A),(∀q,q∈refsT x->RefIn τ q)->Far ids m n p->V0.R=τ.R->V0'.R=({τ with bx:=boxes2 ids b m more σ.bx bx'}:St).R->V0.nl=V0'.nl->V0.nl<=τ.ls.length->V0.nb=m->V0'.nb=(boxes2 ids b m more σ.bx bx').length->
   Tr p g w V0 (G.back ids m more n w.heap.size g g') w' V0' (refsT x) (appsT x):=by
  intro p V0 V0' x hx hp e1 e2 e3 e3' e4 e5
  have ok':∀ q,V0.ok q->τ.view.ok q:=by
   intro q hq;unfold Vw.ok at hq ⊢
   split<;>rename_i e<;>simp only[e,St.view]at hq ⊢ <;>first|omega|(rw[kb,hm];omega)|trivial
  refine{c.stays hp with blk:=fun i hi=>c.blk' (by omega),nb:=by omega,ok:=?_,ref:=?_,app:=?_}
  ·intro q _ hq;unfold Vw.ok at hq ⊢
   split<;>rename_i e<;>simp only[e]at hq ⊢ <;>first|omega|trivial
  ·intro q hq hok;rw[e1,e2];rcases hR q (ok' q hok) (hx q hq)with h|⟨h,hf⟩
   ·exact .inl h
   ·exact .inr ⟨h,hf.hd⟩
  ·intro q hq hok;rw[e2];rcases hR q (ok' q hok) (hx q (app_ref hq))with h|⟨h,hf⟩
   ·exact .inl h
   ·cases hRq:τ.R q with
    |none=>rw[hRq]at h;exact .inl h
    | some zn=>
      refine .inr ⟨?_,fun t ht=>?_⟩
      ·have ho:=k1.owns hRq;exact(c.still (c.own _ (by rw[ho];simp)) (mine_row ho hf.out)).1
      ·have hlt:=c.own t (by rw[ht];simp);exact⟨by rw[back_old hlt (mine_tmp ht)];exact ht,(c.still hlt (mine_tmp ht)).1⟩
 refine⟨⟨fun k x hx=>?_,fun k x hx=>?_,fun i x hx=>?_,fun k hk=>?_⟩,?_,k2,⟨?_,fun i hi=>c.blk' (by omega)⟩⟩
 ·exact(k1.vars k x hx).tr (tr ⟨.var k,[]⟩ τ.view0 ({τ with bx:=boxes2 ids b m more σ.bx bx'}:St).view0 x (fun q hq=> .inl ⟨k,x,hx,hq⟩) ⟨rfl,by simp,fun i d e=>by cases e⟩ rfl rfl rfl (Nat.zero_le _) (by simp[St.view0,kb,hm]) rfl) (fun _ h=>h) (fun _ h=>h)
 ·have hk:k<σ.ls.length:=by rw[<-k2];exact(Ge hx).1
  exact(k1.locs k x hx).tr (tr ⟨.loc k,[]⟩ τ.view ({τ with bx:=boxes2 ids b m more σ.bx bx'}:St).view x (fun q hq=> .inr ⟨k,x,hx,hq⟩) ⟨rfl,by simp;omega,fun i d e=>by cases e⟩ rfl rfl rfl (Nat.le_refl _) (by simp[St.view,kb,hm]) rfl) (fun _ h=>h) (fun _ h=>h)
 ·simp only at hx ⊢
  rcases boxes2_get c.nd hm c.lt hle hx with⟨h1,h2,h3⟩|⟨j,y,h1,h2,rfl⟩
  ·have hbx:=k1.boxes i x (by rw[kb];exact h3);have hcon:=nth_contains.1 h2
   have hT:∀ d,Tr ⟨.box i d,[]⟩ g w ⟨τ.R,0,τ.bx.length⟩ (G.back ids m more n w.heap.size g g') w' ⟨({τ with bx:=boxes2 ids b m more σ.bx bx'}:St).R,0,(boxes2 ids b m more σ.bx bx').length⟩ (refsT .un) (appsT .un):=fun d=>
    tr ⟨.box i d,[]⟩ _ _ .un (fun q hq=>by simp[refsT,refsA,refsL]at hq) ⟨hcon,by simp,fun i' d' e=>by cases e;exact h1⟩ rfl rfl rfl (Nat.zero_le _) (by simp[kb,hm]) rfl
   cases x with
   | cells cs=>
     simp only[BoxOK]at hbx ⊢
     rw[c.blk' h1];obtain⟨b1,cur,t,b2,b3,b4⟩:=hbx;have hlt:=c.own _ (by rw[b1];simp)
     have hmn:=mine_bx b1 h2;refine⟨by rw[back_old hlt hmn];exact b1,cur,t,(c.still hlt hmn).1.trans b2,b3,fun d y hy=>?_⟩;obtain⟨u,hu,hc⟩:=b4 d y hy;exact⟨u,hu,RepC.tr (hT d) hc⟩
   | map es=>
     simp only[BoxOK]at hbx ⊢
     rw[c.blk' h1];obtain⟨b1,ents,clk,b2,b3,b4⟩:=hbx;have hlt:=c.own _ (by rw[b1];simp)
     have hmn:=mine_bx b1 h2;exact⟨by rw[back_old hlt hmn];exact b1,ents,clk,(c.still hlt hmn).1.trans b2,b3,fun d k y hy=>let ⟨e,he,hk,hv⟩:=b4 d k y hy;⟨e,he,hk,hv.later c.later⟩⟩
   |gone=>trivial
  ·exact c.box hnb h1 (hb' j y h2)
 ·simp only[G.back]at hk;split at hk
  ·rename_i h;exact Nat.lt_of_lt_of_le (c.own k hk) c.L.size
  ·refine c.own' k fun e=>?_;rw[e]at hk;exact hk rfl
 ·exact c.repT (fun j i hj h=>by rw[hV]at hj;exact hnb j i hj h) hs hr
 ·show σ.bx.length<=(boxes2 ids b m more σ.bx bx').length
  omega
end
end Go.Ab
end
section
namespace Go.Ab
open Go.RowKit
variable {w:World} {tv tl:Nat->Value}
def CallPost(g:G)(w:World)(bx:List Bx)(r:A)(bx':List Bx)(e:Ending)(w':World):Prop:=
 ∃v g',e= .returned v/\Later g w g' w'/\Same w w'/\bx.length<=bx'.length/\(∀j,j<bx.length->g'.blk j=g.blk j)/\(∀j x,bx'[j]?=some x->BoxOK g' w' bx'.length j x)/\
  (∀k,g'.ow k≠none->k<w'.heap.size)/\setT r=true/\ ∀V:Vw,V.nb=bx'.length->RepT g' w' V hand0 r v
def CallOK(P:Program)(E:Nat->Option AF)(n:Nat):Prop:=
 ∀(f:Nat) (as:List A) (bx:List Bx) (r:A) (bx':List Bx),acall E n f as bx=some (r,bx')->
  ∀(g:G) (w:World) (args:Array Value),as.length=args.size->(∀(i:Nat) x u,as[i]?=some x->args[i]?=some u-> ∀(V:Vw) p,V.nb=bx.length->RepT g w V p x u)->
   (∀j x,bx[j]?=some x->BoxOK g w bx.length j x)->(∀k,g.ow k≠none->k<w.heap.size)->Calls P f args w (CallPost g w bx r bx')
theorem Fz.box{g g':G}(h:Fz g g'){nb i:Nat}{x:Bx}(k:BoxOK g w nb i x):BoxOK g' w nb i x:=by
 have hbx:∀ t j,g.ow t=some (.bx j)->g'.ow t=some (.bx j):=by
  intro t j ht;rcases h.o t with h1|⟨⟨p,h1,_⟩,_⟩
  ·rw[h1];exact ht
  ·rw[ht]at h1;cases h1
 have st:∀ c,Stays ⟨.box i c,[]⟩ g w g' w:=fun c=>
  { h.later with
    hd:=fun r _=>by rw[h.hd]
    ow:=fun r t hr ho=>by
     rcases h.o t with h1|⟨⟨p,h1,h2⟩,_⟩
     ·rw[h1];exact ho
     ·rw[ho]at h1
      cases h1
      rw[<-hr.1]at h2
      cases h2
    row:=fun _ _ _ _=>rfl}
 cases x with
 | cells cs=>
   simp only[BoxOK]at k ⊢
   rw[h.blk];obtain⟨h1,cur,t,h2,h3,h4⟩:=k;exact⟨hbx _ _ h1,cur,t,h2,h3,fun c x hx=>let ⟨u,hu,hc⟩:=h4 c x hx;⟨u,hu,hc.keeps (st c) h.blk (Nat.le_refl _)⟩⟩
 | map es=>
   simp only[BoxOK]at k ⊢
   rw[h.blk];obtain⟨h1,ents,clk,h2,h3,h4⟩:=k;exact⟨hbx _ _ h1,ents,clk,h2,h3,fun i k x hx=>let ⟨e,he,hk,hv⟩:=h4 i k x hx;⟨e,he,hk,hv.later h.later⟩⟩
 |gone=>trivial
theorem callee_some{ids:List Nat}{b:Bool}{g:G}{k:Nat}(h:(g.callee ids b).ow k≠none):g.ow k≠none:=by
 intro e;apply h;refine callee_none (mine_none e) ?_;cases b
 ·exact e
 ·exact lent_none e
def OpPost(g:G)(w:World)(tv tl:Nat->Value)(σ σ':St)(x:A)(e:Ending)(w':World):Prop:=
 ∃v g',e= .returned v/\Inv g' σ' w' tv tl/\Later g w g' w'/\Same w w'/\BX g σ g' σ'/\σ'.ls.length=σ.ls.length/\RepT g' w' σ'.view ⟨.loc σ'.ls.length,[]⟩ x v
theorem ite_some{c:Bool}{α:Type}{y z:α}(h:(if c then none else some y)=some z):y=z:=by
 cases c
 ·exact Option.some.inj h
 ·cases h
theorem call_ok{P:Program}{E:Nat->Option AF}{n:Nat}(hC:CallOK P E n){q:Bool}{f:Nat}{ys:List A}{σ σ':St}{x:A}(h:acallOp E (n+1) q f ys σ=some (x,σ')){g:G}(hi:Inv g σ w tv tl){us:Array Value}
  (hl:ys.length=us.size) (hy:∀ (i:Nat) y u,ys[i]?=some y->us[i]?=some u->(∀p,RepT g w σ.view p y u)/\lightT y=true):Calls P f us w (OpPost g w tv tl σ σ' x):=by
 simp only[acallOp]at h;obtain⟨nd,hlt⟩:=reach_ok σ.bx 1000 (ys.flatMap idsA) [] (by simp) (by simp);generalize reach σ.bx 1000 (ys.flatMap idsA) []=ids at*
 split at h
 ·rename_i as σ1 b hg;split at h
  ·rename_i r bx' hc;replace h:=ite_some h;simp only[Prod.mk.injEq]at h;obtain⟨rfl,hσ⟩:=h;have hi0:=hi.gone ids
   obtain⟨g1,m1,fz,l1,⟨_,hbx⟩,o1⟩:=gives_ok (B:=(ids.contains ·)) ys us.toList g _ as σ1 b (fun b c hb=>gone_root hb) hi0
    (fun i y u h1 h2 => by
      obtain⟨h3,h4⟩:=hy i y u h1 (by rw[<-Array.getElem?_toList];exact h2)
      refine⟨fun p=>(h3 p).review (by simp[St.view,goneB_len]) (fun q _ hq=>?_) (fun q _ _=>gone_R q),h4⟩
      unfold Vw.ok at hq ⊢
      split<;>rename_i e<;>simp only[e,St.view,goneB_len]at hq ⊢ <;>first|exact hq|trivial) hg (by simpa using hl)
   have hnb:σ1.bx.length=σ.bx.length:=by rw[hbx,goneB_len]
   have hok:=hC f _ _ r bx' hc (g1.callee ids b) w us (by simp[l1,hl])
    (fun i x u hx hu V p hV => by
      rw[List.getElem?_map]at hx
      cases hx0:as[i]? with
      |none=>rw[hx0]at hx;cases hx
      | some x0=>
        rw[hx0]at hx
        cases hx
        obtain⟨c0,r0⟩:=o1 i x0 u hx0 (by rw[Array.getElem?_toList];exact hu)
        exact(r0 p).callee V (by rw[hV,List.length_map]) c0)
    (fun j x hx => by
      rw[List.getElem?_map]at hx
      cases hi':ids[j]? with
      |none=>rw[hi']at hx;cases hx
      | some i=>
        rw[hi']at hx
        simp only[Option.map_some,Oe]at hx
        subst hx
        have hil:=hlt i (Mg hi')
        have e:getB σ.bx i=σ.bx[i]:=by simp[getB,hil]
        rw[List.length_map,e]
        exact(fz.box (hi.boxes i _ (Gg hil))).callee (nth_of_get nd hi'))
    (fun k hk=>m1.inv.lt k (callee_some hk))
   refine hok.mono ?_;rintro e w' ⟨v,g',rfl,k1,k2,k3,k4,k5,k6,k7,k8⟩
   have came:Came ids b σ.bx.length (((idsT (if b then untaint r else r))++((bx'.take ids.length).map fun x=>if b then untaintB x else x).flatMap idsB).any (ids.length<= ·)) g1 w g' w':=
    ⟨nd,hlt,k1,fun j hj=>k4 j (by simpa using hj),m1.inv.lt,k6⟩
   obtain⟨i1,i2,i3,i4⟩:=came.inv (n:=σ1.ls.length) m1.inv hnb rfl (by simpa using k3) k5 (V:=⟨fun _=>none,0,bx'.length⟩) rfl (k8 _ rfl) k7
   have e2:∀ l:List Bx,(l.map fun x=>if b then untaintB x else x).map (renB (num ids σ.bx.length (((idsT (if b then untaint r else r))++((bx'.take ids.length).map fun x=>if b then untaintB x else x).flatMap idsB).any (ids.length<= ·))))=
     l.map fun x=>renB (num ids σ.bx.length (((idsT (if b then untaint r else r))++((bx'.take ids.length).map fun x=>if b then untaintB x else x).flatMap idsB).any (ids.length<= ·))) (tnB b x):=by
    intro l;rw[List.map_map];rfl
   rw[e2,e2]at hσ;change killBoxes ids {σ1 with bx:=boxes2 ids b σ.bx.length _ σ1.bx bx'}=σ' at hσ;subst hσ;refine⟨v,_,rfl,i1,m1.toLater.trans came.later,k2,?_,?_,?_⟩
   ·refine(BX.same (σ:=σ) (σ':=σ1) (g:=g) m1.blk hnb).trans i4
   ·rw[i3];exact m1.nl
   ·rw[i3];exact i2
  ·cases h
 ·cases h
end Go.Ab
end
section
namespace Go.Ab
open Go.RowKit
variable {w:World} {tv tl:Nat->Value}
theorem R_map{σ:St}{b:Nat}{es es':List (Value×A)}(hb:σ.bx[b]?=some (.map es))(q:Pl):({σ with bx:=σ.bx.set b (.map es')}:St).R q=σ.R q:=by
 refine R_of_root ?_;have hlt:=(Ge hb).1
 cases hr:q.r with
 | box i c=>
   simp only[St.root]
   by_cases e:i=b
   ·subst e;rw[List.getElem?_set_self hlt,hb]
   ·rw[List.getElem?_set_ne (fun e'=>e e'.symm)]
 |_=>rfl
theorem Inv.setMap{g:G}{σ:St}(h:Inv g σ w tv tl){w':World}{b:Nat}{es es':List (Value×A)}(hb:σ.bx[b]?=some (.map es))(hw:w'.heap.size=w.heap.size)(ho:∀ k,k≠g.blk b->w'.heap[k]?=w.heap[k]?)
  {ents:Array MapEntry} {clk:Nat} (hn:w'.heap[g.blk b]?=some (.map ents clk)) (hl:ents.size=es'.length)
  (hr:∀ (i:Nat) k x,es'[i]?=some (k,x)-> ∃e,ents[i]?=some e/\e.key=k/\RepM g w x e.val):
  Inv g {σ with bx:=σ.bx.set b (.map es')} w' tv tl/\Later g w g w':=by
 have hlt:=(Ge hb).1;have hbox:=h.boxes b _ hb
 simp only[BoxOK]at hbox;obtain⟨b1,_⟩:=hbox
 have other:∀ {i o},g.ow i=some o->o≠ .bx b->w'.heap[i]?=w.heap[i]?:=by
  intro i o hi hne;refine ho i (fun e=>hne ?_);rw[e,b1]at hi;injection hi with hi
  exact hi.symm
 have later:Later g w g w':=⟨by rw[hw];exact Nat.le_refl _,fun _ _ hi=>hi,fun i _ hi=>ho i (fun e=>by rw[e,b1]at hi;cases hi),fun i _ hi=>⟨hi,ho i (fun e=>by rw[e,b1]at hi;cases hi)⟩⟩;have stays:∀ p:Pl,Stays p g w g w':=fun p=>{later with hd:=fun _ _=>rfl,ow:=fun _ _ _ h=>h,row:=fun r i _ hi=>other hi (by simp)}
 have tr:∀ (p:Pl) (V V':Vw) (rs as:List Pl),V.R=σ.R->V'.R=({σ with bx:=σ.bx.set b (.map es')}:St).R->V'.nl=V.nl->V'.nb=V.nb->Tr p g w V g w' V' rs as:=by
  intro p V V' rs as e1 e2 e3 e4;refine{stays p with blk:=fun _ _=>rfl,nb:=by omega,ok:=?_,ref:=fun q _ _=> .inr ⟨by rw[e1,e2];exact R_map hb q,rfl⟩,app:=?_}
  ·intro q _ hq;unfold Vw.ok at hq ⊢
   split<;>rename_i e<;>simp only[e]at hq<;>first|omega|trivial
  ·intro q _ _;cases hR:σ.R q with
   |none=>left;rw[e2,R_map hb];exact hR
   |some zn=>exact .inr ⟨other (h.owns hR) (by simp),fun t ht=>⟨ht,other ht (by simp)⟩⟩
 refine⟨⟨fun n x hx=>?_,fun k x hx=>?_,fun i x hx=>?_,fun k hk=>by rw[hw];exact h.lt k hk⟩,later⟩
 ·exact(h.vars n x hx).tr (tr _ σ.view0 ({σ with bx:=σ.bx.set b (.map es')}:St).view0 (refsT x) (appsT x) rfl rfl rfl (by simp[St.view0])) (fun _ h=>h) (fun _ h=>h)
 ·exact(h.locs k x hx).tr (tr _ σ.view ({σ with bx:=σ.bx.set b (.map es')}:St).view (refsT x) (appsT x) rfl rfl rfl (by simp[St.view])) (fun _ h=>h) (fun _ h=>h)
 ·simp only at hx ⊢
  rw[List.length_set]
  by_cases e:i=b
  ·subst e;rw[List.getElem?_set_self hlt]at hx;cases hx;exact⟨b1,ents,clk,hn,hl,fun i k x hx=>let ⟨e,he,hk,hv⟩:=hr i k x hx;⟨e,he,hk,hv.later later⟩⟩
  ·rw[List.getElem?_set_ne (fun e'=>e e'.symm)]at hx;have k:=h.boxes i x hx
   cases x with
   | cells cs=>
     simp only[BoxOK]at k ⊢
     obtain⟨h1,cur,t,h2,h3,h4⟩:=k;exact⟨h1,cur,t,(other h1 (by simp[e])).trans h2,h3,fun c x hx=>let ⟨u,hu,hc⟩:=h4 c x hx;⟨u,hu,hc.keeps (stays _) rfl (Nat.le_refl _)⟩⟩
   | map es0=>
     simp only[BoxOK]at k ⊢
     obtain⟨h1,ents,clk,h2,h3,h4⟩:=k;exact⟨h1,ents,clk,(other h1 (by simp[e])).trans h2,h3,fun i k x hx=>let ⟨e,he,hk,hv⟩:=h4 i k x hx;⟨e,he,hk,hv.later later⟩⟩
   |gone=>trivial
theorem cmp_now{P:Program}{kt:TypeId}{kk:Nat}(hk:keyK P kt=some kk){d:TypeDesc}(hd:P.underlying kt=some d){k l:Value}{b:Bool}(h:cmpK kk k l=some b):Instr.sameNow d k l=some b:=by
 unfold keyK at hk;rw[hd]at hk
 split at hk<;>rename_i e<;>simp only[Oe,reduceCtorEq]at e hk<;>subst hk<;>subst e<;>
  (unfold cmpK at h;split at h<;>first|(cases h;done)|skip)<;>
  simp_all [Instr.sameNow]
theorem find_now{P:Program}{kt:TypeId}{kk:Nat}(hk:keyK P kt=some kk){d:TypeDesc}(hd:P.underlying kt=some d){k:Value}:∀ (es:List (Value×A)) (ents:List MapEntry) (i:Nat) (r:Option (Nat×A)),
  findK kk k es i=some r->ents.length=es.length->(∀(j:Nat) l x,es[j]?=some (l,x)-> ∃e,ents[j]?=some e/\e.key=l)->
  ∃r',Instr.findNow d k ents i=some r'/\((r=none/\r'=none)\/ ∃j x e l,r=some (i+j,x)/\es[j]?=some (l,x)/\ents[j]?=some e/\r'=some (i+j,e.val)/\cmpK kk k l=some true)
 | [],ents,i,r,h,hl,_=>by
   have:ents=[]:=List.eq_nil_of_length_eq_zero (by simpa using hl);subst this;simp only[findK,Oe]at h;subst h;exact⟨none,rfl,.inl ⟨rfl,rfl⟩⟩
 |e::es,[],i,r,h,hl,_=>by simp at hl
 | e::es,f::fs,i,r,h,hl,he=>by
   obtain⟨f',hf,hkey⟩:=he 0 e.1 e.2 rfl;simp only[List.getElem?_cons_zero,Oe]at hf;subst hf;simp only[findK]at h;cases hc:cmpK kk k e.1 with
   |none=>rw[hc]at h;cases h
   | some b=>
     rw[hc]at h;have hs:=cmp_now hk hd hc
     simp only[Instr.findNow,hkey,hs];cases b with
     | true=>
       simp only[Oe]at h;subst h;exact⟨_,rfl,.inr ⟨0,e.2,f,e.1,rfl,rfl,rfl,rfl,hc⟩⟩
     | false=>
       obtain⟨r',h1,h2⟩:=find_now hk hd es fs (i+1) r h (by simpa using hl) (fun j l x hx=>he (j+1) l x (by simpa using hx));refine⟨r',h1,?_⟩;rcases h2 with h2|⟨j,x,e',l,h3,h4,h5,h6,h7⟩
       ·exact .inl h2
       ·refine .inr ⟨j+1,x,e',l,?_,by simpa using h4,by simpa using h5,?_,h7⟩
        ·rw[h3];congr 2;omega
        ·rw[h6];congr 2;omega
section
variable {P:Program}
theorem run_find{kt:TypeId}{kk:Nat}(hk:keyK P kt=some kk){k:Value}{es:List MapEntry}{d:TypeDesc}(hd:P.underlying kt=some d){r:Option (Nat×Value)}(h:Instr.findNow d k es 0=some r)(w:World):
  (Instr.findKey kt k es).run P w= .ok r w:=by
 simp[Instr.findKey,run_underlying hd,h]
theorem run_check{kt:TypeId}{kk:Nat}(hk:keyK P kt=some kk)(b:Bool)(k:Value)(w:World):(Instr.checkKey b 10000 kt k).run P w= .ok () w:=by
 unfold keyK at hk
 split at hk<;>rename_i e<;>first
  |(cases hk;done)
  | (unfold Instr.checkKey
     simp[run_underlying e])
theorem keyK_some{kt:TypeId}{kk:Nat}(hk:keyK P kt=some kk):∃ d,P.underlying kt=some d:=by
 unfold keyK at hk
 split at hk<;>rename_i e<;>first
  |(cases hk;done)
  |exact⟨_,e⟩
theorem zeroV_ok{t:TypeId}{a:A}(h:zeroV P t=some a)(g:G)(V:Vw)(p:Pl):∃ v,(∀w,(zeroValue t).run P w= .ok v w)/\RepT g w V p a v/\lightT a=true/\(∀cs,a≠ .tup cs)/\a≠ .ud/\a≠ .top:=by
 unfold zeroV at h;split at h
 ·rename_i i hi;split at h
  ·rename_i v hv;obtain⟨h1,h2⟩:=constA_ok (w:=w) h g V p;refine⟨v,fun w=>by simp[zeroValue,typeInfo,hi,hv],h1,h2,?_,?_,?_⟩
   ·intro cs e;subst e
    cases v<;>simp only[constA]at h<;>first
     |(have:=(constLeaf_ok h).1;cases this;done)
     |(split at h<;>cases h)
   ·rintro rfl
    cases v<;>simp only[constA]at h<;>first
     |(have:=(constLeaf_ok h).1;cases this;done)
     |(split at h<;>cases h)
   ·rintro rfl
    cases v<;>simp only[constA]at h<;>first
     |(have:=(constLeaf_ok h).1;cases this;done)
     |(split at h<;>cases h)
  ·cases h
 ·cases h
variable {c:TC} {o:Oper} {ρ:Operand->Value} {g:G} {σ:St}
theorem op_mkmap(h:Cx P c o ρ tv tl g σ w){t:TypeId}(hop:o.op= .makeMap t none){x:A}{σ':St}(hy:aop σ .mkmap=some (x,σ')):IRes P o ρ tv tl g σ w x σ':=by
 simp only[aop,Oe,Prod.mk.injEq]at hy;obtain⟨rfl,rfl⟩:=hy;have hw:(w.alloc (.map #[] 0)).heap=w.heap.push (.map #[] 0):=rfl
 have hblk:(g.boxed σ.bx.length w.heap.size).blk σ.bx.length=w.heap.size:=by simp[G.boxed]
 have inv:=h.I.newBox (w':=w.alloc (.map #[] 0)) (o:=.map #[] 0) hw (x:=.map []) (by
  simp only[BoxOK]
  rw[hblk]
  exact⟨by simp[G.boxed],#[],0,heap_new w _,rfl,fun i k x hx=>by simp at hx⟩)
 refine IRes.value (v:=.map (some w.heap.size)) (w':=w.alloc (.map #[] 0)) ?_ inv (boxed_later hw) ⟨rfl,rfl,rfl⟩ ⟨by simp,fun b hb=>by simp only[G.boxed];rw[if_neg (by omega)]⟩ rfl (fun q=>?_) rfl
 ·simp[execOp,hop,Instr.makeMap,newObj,Sem.run,Result.andThen]
 ·simp only[RepT,RepA,RepL,RepC];exact⟨by simp[St.view],by rw[hblk]⟩
theorem repM_T{V:Vw}{p:Pl}{y:A}{v:Value}(r:RepM g w y v)(hy:(cellsOf y).all A.leafF=true):RepA g w V p y v/\(∀cs,y≠ .tup cs)/\lightA y=true:=by
 have one:∀ (q:Pl) (z:A) (u:Value),z.leafF=true->RepI g w z u->RepL g w V q z u/\z.light=true:=fun q z u hz r=>
  ⟨RepC.toL (RepC.ofI r (leafF_leaf hz)),by cases z<;>simp_all [A.leafF,A.light]⟩
 have leaf:∀ z,z=y->(∀cs,z≠ .agg cs)->(cellsOf z).all A.leafF=true->RepI g w z v->RepA g w V p z v/\(∀cs,z≠ .tup cs)/\lightA z=true:=by
  intro z _ h1 h2 r
  have h3:z.leafF=true:=by
   cases z<;>first
    |exact absurd rfl (h1 _)
    |(simpa[cellsOf]using h2)
  obtain⟨k1,k2⟩:=one p z v h3 r;refine⟨k1.toA h1,fun cs e=>by subst e;simp[A.leafF]at h3,?_⟩
  cases z<;>first
   |exact absurd rfl (h1 _)
   |exact k2
 cases y with
 | agg cs=>
   obtain⟨us,h1,h2,h3⟩:=r;refine⟨⟨us,h1,h2,fun k x u hx hu=>(one _ _ _ ?_ (h3 k x u hx hu).1).1⟩,(fun cs e=>by cases e),?_⟩
   ·exact List.all_eq_true.1 hy x (Mg hx)
   ·simp only[lightA,List.all_eq_true];intro x hx;have:=List.all_eq_true.1 hy x hx
    cases x<;>simp_all [A.leafF,A.light]
 |_=>exact leaf _ rfl (fun cs e=>by cases e) hy r
theorem op_look(h:Cx P c o ρ tv tl g σ w){t kt et:TypeId}{x k:Operand}{ok:Bool}(hop:o.op= .lookup t x k ok)(ht:P.underlying t=some (.map kt et)){kk:Nat}(hk:keyK P kt=some kk){z:A}(hz:zeroV P et=some z)
  {dx dk:Opd} (hx:c.opd x=some dx) (hdk:c.opd k=some dk) {y:A} (hy:pop σ (.look kk z dx dk ok)=some y):PRes P o ρ g σ w y:=by
 simp only[pop]at hy;split at hy
 ·rename_i a key ha hkey;obtain⟨d,hd⟩:=keyK_some hk;have ra:=(rd_ok h.L h.I hx ha hand0).1
  have rk:=repT_v (rd_ok h.L h.I hdk hkey hand0).1;obtain⟨zv,z1,z2,z3,z4,z5,z6⟩:=zeroV_ok (w:=w) hz g σ.view ⟨.loc σ.ls.length,[]⟩
  have zA:∀ p,RepA g w σ.view p z zv:=by
   intro p;obtain⟨zv',z1',y2,_⟩:=zeroV_ok (w:=w) hz g σ.view p
   have e:zv'=zv:=by
    have:=(z1' w).symm.trans (z1 w);simpa using this
   subst e
   cases z<;>first
    |exact y2
    |exact absurd rfl (z4 _)
    |(simp[lightT,lightA,A.light]at z3;done)
    |exact absurd rfl z5
    |exact absurd rfl z6
  have run:∀ (ents:List MapEntry) (r':Option (Nat×Value)),(ρ x= .map none/\ents=[]\/ ∃b clk,ρ x= .map (some b)/\w.heap[b]?=some (.map ents.toArray clk))->Instr.findNow d key ents 0=some r'->
    (execOp ρ o).run P w= .ok (.value (if ok then .tuple #[match r' with|some y=>y.2|none=>zv,.bool r'.isSome]else match r' with|some y=>y.2|none=>zv)) w:=by
   intro ents r' he hf;have hfk:=run_find (P:=P) hk hd hf w
   have hck:=fun b=>run_check (P:=P) hk b key w;have hzw:=z1 w
   rcases he with⟨e1,rfl⟩|⟨b,clk,e1,e2⟩
   ·cases r'<;>simp[execOp,hop,e1,rk,Instr.lookup,run_underlying ht,hck,hfk,hzw]<;>cases ok<;>simp
   ·have hgo:(getObj b).run P w= .ok (.map ents.toArray clk) w:=MapKept.run_getObj_map e2;cases r'<;>simp[execOp,hop,e1,rk,Instr.lookup,run_underlying ht,hgo,hck,hfk,hzw]<;>cases ok<;>simp
  have fin:∀ (u:A) (v:Value) (b:Bool),(∀p,RepA g w σ.view p u v)->(∀cs,u≠ .tup cs)->y=(if ok then .tup [u,.bool b]else u)->
    (execOp ρ o).run P w= .ok (.value (if ok then .tuple #[v,.bool b]else v)) w->PRes P o ρ g σ w y:=by
   rintro u v b h1 h2 rfl h3;refine PRes.same h3 ?_;cases ok with
   |false=>exact(h1 _).toT h2
   | true=>
     simp only[if_true];refine⟨[v,.bool b],rfl,rfl,fun j x' u' hx' hu'=>?_⟩
     match j with
     | 0=>
       simp only[List.getElem?_cons_zero,Oe]at hx' hu';subst hx' hu';exact h1 _
     | 1=>
       simp only[List.getElem?_cons_succ,List.getElem?_cons_zero,Oe]at hx' hu';subst hx' hu';exact(RepL.v rfl).toA (fun cs e=>by cases e)
     |j+2=>simp at hx'
  have nilCase:ρ x= .map none->y=(if ok then .tup [z,.bool false]else z)->PRes P o ρ g σ w y:=fun e1 e2=>
   fin z zv false zA z4 e2 (run [] none (.inl ⟨e1,rfl⟩) rfl)
  cases a with
  | mp b=>
    simp only[lookE]at hy;obtain⟨hb1,hb2⟩:=repT_mp ra;cases hbx:σ.bx[b]? with
    |none=>rw[hbx]at hy;cases hy
    | some bx=>
      rw[hbx]at hy;cases bx with
      | map es=>
        simp only at hy;have hbox:=h.I.boxes b _ hbx
        simp only[BoxOK]at hbox;obtain⟨b1,ents,clk,b2,b3,b4⟩:=hbox;cases hf:findK kk key es 0 with
        |none=>rw[hf]at hy;cases hy
        | some r=>
          rw[hf]at hy
          obtain ⟨r',f1,f2⟩:=find_now (P:=P) hk hd es ents.toList 0 r hf (by simpa using b3) (fun j l x hx => by
           obtain⟨e,he,hke,_⟩:=b4 j l x hx
           exact⟨e,by rw[Array.getElem?_toList];exact he,hke⟩)
          have hrun:=run ents.toList r' (.inr ⟨_,clk,hb2,by rw[Array.toArray_toList];exact b2⟩) f1;rcases f2 with⟨rfl,rfl⟩|⟨j,x',e,l,rfl,e1,e2,rfl,_⟩
          ·simp only[Oe]at hy;exact fin z zv false zA z4 hy.symm hrun
          ·simp only at hy;split at hy
           ·rename_i hlf;simp only[Oe]at hy;obtain⟨e',he',_,hm⟩:=b4 j l x' e1;rw[Array.getElem?_toList]at e2;rw[e2]at he';cases he';exact fin x' e.val true (fun p=>(repM_T hm hlf).1) (repM_T (V:=σ.view) (p:=hand0) hm hlf).2.1 hy.symm hrun
           ·cases hy
      |_=>simp at hy
  | v u=>
    have e:=repT_v ra;cases u with
    | map m=>
      cases m with
      | none=>
        simp only[lookE,Oe]at hy;exact nilCase e hy.symm
      |some b=>simp[lookE]at hy
    |_=>simp[lookE]at hy
  |_=>simp[lookE]at hy
 ·cases hy
theorem bytes_eq{a b:ByteArray}(h:(a==b)=true):a=b:=by
 rcases a with⟨a⟩
 rcases b with⟨b⟩
 have:(a==b)=true:=h;rw[eq_of_beq this]
theorem bytes_refl(a:ByteArray):(a==a)=true:=by
 rcases a with⟨a⟩
 show(a==a)=true
 simp
theorem cmpK_true{kk:Nat}{k l:Value}(h:cmpK kk k l=some true):k=l/\Instr.sameBits 10000 l k=true:=by
 unfold cmpK at h;split at h
 ·rename_i j a i b;split at h
  ·rename_i hji;subst hji;have:a=b:=by simpa using h
   subst this;exact⟨rfl,by simp[Instr.sameBits]⟩
  ·cases h
 ·rename_i a b;have:a=b:=bytes_eq (by simpa using h)
  subst this;exact⟨rfl,by simp[Instr.sameBits,bytes_refl]⟩
 ·rename_i a b;have:a=b:=by simpa using h
  subst this;exact⟨rfl,by simp[Instr.sameBits]⟩
 ·cases h
theorem op_mapup(h:Cx P c o ρ tv tl g σ w){t kt et:TypeId}{m k x:Operand}(hop:o.op= .mapUpdate t m k x)(ht:P.underlying t=some (.map kt et)){kk:Nat}(hk:keyK P kt=some kk)
  {dm dk dx:Opd} (hm:c.opd m=some dm) (hdk:c.opd k=some dk) (hx:c.opd x=some dx) {y:A} {σ':St} (hy:aop σ (.mapup kk dm dk dx)=some (y,σ')):IRes P o ρ tv tl g σ w y σ':=by
 obtain⟨d,hd⟩:=keyK_some hk;simp only[aop]at hy;split at hy
 ·rename_i b key a hrm hrk hrx;obtain⟨_,e1⟩:=repT_mp (rd_ok h.L h.I hm hrm hand0).1;have e2:=repT_v (rd_ok h.L h.I hdk hrk hand0).1
  obtain⟨rx,lx⟩:=rd_ok h.L h.I hx hrx hand0;split at hy
  ·rename_i y1 σ1 hmat;obtain⟨g1,m1,r1,o1⟩:=whole_mat g σ a y1 σ1 hand0 hand0 (ρ x) h.I hmat lx rx not_noHand0;split at hy
   ·rename_i es hbx;split at hy
    ·rename_i hent;have hbox:=m1.inv.boxes b _ hbx
     simp only[BoxOK]at hbox;obtain⟨b1,ents,clk,b2,b3,b4⟩:=hbox;rw[<-m1.blk]at e1
     have hM:RepM g1 w y1 (ρ x):=by
      have one:∀ (p:Pl) (z:A) (u:Value),z.entry=true->RepL g1 w σ1.view p z u->RepI g1 w z u/\z.leaf=true:=by
       intro p z u hz r;cases z<;>simp[A.entry]at hz<;>simp only[RepL,RepC]at r<;>(cases r with|imm _ _ _ hi _=>exact⟨hi,rfl⟩)
      cases y1 with
      | agg cs=>
        obtain⟨us,h1,h2,h3⟩:=r1;exact⟨us,h1,h2,fun j x u hx hu=>one _ _ _ (List.all_eq_true.1 hent x (Mg hx)) (h3 j x u hx hu)⟩
      |imm nl z es=>exact(one hand0 (.imm nl z es) (ρ x) rfl r1).1
      |v u=>exact(one hand0 (.v u) (ρ x) rfl r1).1
      |_=>simp[cellsOf,A.entry]at hent
     have hlt:g1.blk b<w.heap.size:=heap_lt b2;have hgo:(getObj (g1.blk b)).run P w= .ok (.map ents clk) w:=MapKept.run_getObj_map b2
     have fin:∀ (es':List (Value×A)) (ents':Array MapEntry) (clk':Nat),(execOp ρ o).run P w= .ok .skip {w with heap:=w.heap.setIfInBounds (g1.blk b) (.map ents' clk')}->ents'.size=es'.length->
       (∀(i:Nat) k x,es'[i]?=some (k,x)-> ∃e,ents'[i]?=some e/\e.key=k/\RepM g1 w x e.val)->σ'={σ1 with bx:=σ1.bx.set b (.map es')}->y= .ud->IRes P o ρ tv tl g σ w y σ':=by
      rintro es' ents' clk' hrun hl hr rfl rfl;obtain⟨i1,i2⟩:=m1.inv.setMap (w':={w with heap:=w.heap.setIfInBounds (g1.blk b) (.map ents' clk')}) (es':=es') hbx (by simp) (fun k hk=>Array.getElem?_setIfInBounds_ne (Ne.symm hk)) (by show(w.heap.setIfInBounds (g1.blk b) (.map ents' clk'))[g1.blk b]?=_;rw[Array.getElem?_setIfInBounds_self,if_pos hlt]) hl hr
      exact⟨undef,_,g1,.skip,hrun,.inr ⟨rfl,rfl⟩,i1,m1.toLater.trans i2,⟨rfl,rfl,rfl⟩,BX.same m1.blk (by simp[m1.nb]),m1.nl,fun q=>rfl,rfl⟩
     have keys:∀ (j:Nat) l x,es[j]?=some (l,x)-> ∃e,ents.toList[j]?=some e/\e.key=l:=fun j l x hx=>by
      obtain⟨e,he,hke,_⟩:=b4 j l x hx;exact⟨e,by rw[Array.getElem?_toList];exact he,hke⟩
     split at hy
     ·-- a key that there is
      rename_i i x0 hf;simp only[Oe,Prod.mk.injEq]at hy;obtain⟨r',f1,f2⟩:=find_now (P:=P) hk hd es ents.toList 0 _ hf (by simpa using b3) keys;rcases f2 with⟨f2,_⟩|⟨j,x',e,l,e3,e4,e5,rfl,e6⟩
      ·cases f2
      ·simp only[Oe,Prod.mk.injEq,Nat.zero_add]at e3;obtain⟨rfl,rfl⟩:=e3;rw[Array.getElem?_toList]at e5;obtain⟨e',he',hke,_⟩:=b4 i l x0 e4;rw[e5]at he';cases he';obtain⟨rfl,hsb⟩:=cmpK_true e6;refine fin (es.set i (key,y1)) (ents.modify i fun e=>{e with key:=key,val:=ρ x}) clk ?_ (by simp[b3]) (fun j k0 x1 hj=>?_) hy.2.symm hy.1.symm
       ·have hfk:=run_find (P:=P) hk hd f1 w;have hck:=run_check (P:=P) hk false key w
        simp only[Nat.zero_add]at hfk;simp[execOp,hop,e1,e2,Instr.mapUpdate,run_underlying ht,hgo,hck,hfk,Instr.keyThatStays,e5,hke,hsb,MapKept.run_setObj_map _ b2]
       ·rw[List.getElem?_set]at hj;split at hj
        ·rename_i hij;subst hij;split at hj
         ·simp only[Oe,Prod.mk.injEq]at hj;obtain⟨rfl,rfl⟩:=hj;exact⟨{e with key:=key,val:=ρ x},by rw[Array.getElem?_modify];simp[e5],rfl,hM⟩
         ·cases hj
        ·rename_i hij;obtain⟨e',he',hke',hM'⟩:=b4 j k0 x1 hj;exact⟨e',by rw[Array.getElem?_modify];simp[hij,he'],hke',hM'⟩
     ·-- a new key
      rename_i hf;simp only[Oe,Prod.mk.injEq]at hy;obtain⟨r',f1,f2⟩:=find_now (P:=P) hk hd es ents.toList 0 _ hf (by simpa using b3) keys;rcases f2 with⟨_,rfl⟩|⟨j,x',e,l,e3,_⟩
      ·refine fin (es++[(key,y1)]) (ents.push {key:=key,val:=ρ x,born:=clk}) (clk+1) ?_ (by simp[b3]) (fun j k0 x1 hj=>?_) hy.2.symm hy.1.symm
       ·have hfk:=run_find (P:=P) hk hd f1 w;have hck:=run_check (P:=P) hk false key w
        simp[execOp,hop,e1,e2,Instr.mapUpdate,run_underlying ht,hgo,hck,hfk,MapKept.run_setObj_map _ b2]
       ·by_cases hjl:j<es.length
        ·rw[List.getElem?_append_left hjl]at hj;obtain⟨e',he',hke',hM'⟩:=b4 j k0 x1 hj;exact⟨e',by rw[Array.getElem?_push_lt (by omega)];rw[<-he'];simp[b3,hjl],hke',hM'⟩
        ·rw[List.getElem?_append_right (by omega)]at hj
         have:j-es.length=0:=by
          have:=(Ge hj).1;simp at this;omega
         rw[this]at hj;simp only[List.getElem?_cons_zero,Oe,Prod.mk.injEq]at hj;obtain⟨rfl,rfl⟩:=hj;have hjs:j=ents.size:=by omega
         subst hjs;exact⟨_,Array.getElem?_push_size,rfl,hM⟩
      ·cases e3
     ·cases hy
    ·cases hy
   ·cases hy
  ·cases hy
 ·cases hy
end
end Go.Ab
end
section
namespace Go.Ab
open Go.RowKit
variable {w:World} {tv tl:Nat->Value}
def FnOK (P : Program) (E : Nat -> Option AF) : Prop := ∀ f F, E f = some F -> ∃ fn c, P.funcs[f]? = some fn /\ (fn.name == "runtime.NumGoroutine") = false /\ fn.body = some c
def AOp.isCall:AOp->Bool
 | .call _ _=>true| .callv _ _=>true
 |_=>false
theorem bind_nocall{α:Type}{x:Option α}{f:α->Option AOp}{op:AOp}(h:x.bind f=some op)(hf:∀ a,f a=some op->op.isCall=false):op.isCall=false:=by
 cases x with
 |none=>cases h
 |some a=>exact hf a h
theorem op_nocall{c:TC}{o:Op}{op:AOp}(h:c.op o=some op)(hn:∀ cl fv,o= .call cl->cl.callee≠ .value fv):op.isCall=false:=by
 have done':∀ {p:AOp},p.isCall=false->some p=some op->op.isCall=false:=fun hp e=>by cases e;exact hp
 cases o
 case call cl=>
  cases hcl:cl.callee with
  |value fv=>exact absurd hcl (hn cl fv rfl)
  |invoke r m=>simp[TC.op,hcl]at h
  | builtin b=>
    cases b<;>simp only[TC.op,hcl]at h<;>first
     |(cases h;done)
     | (repeat' (first
         |contradiction
         |(cases h;done)
         |exact done' rfl h
         |(refine bind_nocall h fun _ h=>?_)
         |split at h))
 all_goals (simp only[TC.op]at h)
 all_goals (repeat' (first
      |contradiction
      |(cases h;done)
      |exact done' rfl h
      |(refine bind_nocall h fun _ h=>?_)
      |split at h))
section
variable {P:Program} {E:Nat->Option AF}
theorem run_callFunc {f : Nat} {fn : Func} {c : Code} (h1 : P.funcs[f]? = some fn) (h2 : (fn.name == "runtime.NumGoroutine") = false) (h3 : fn.body = some c) (args : Array Value) (w : World) :
  (callFunc f args).run P w= .ok (.enter f args) w:=by
 unfold callFunc;simp only[program,Sem.run_bind,Sem.run,Result.andThen,h1,h2,h3,Option.isNone_some,Bool.false_eq_true,if_false];rfl
theorem acallOp_some{n:Nat}{q:Bool}{f:Nat}{ys:List A}{σ:St}{r:A×St}(h:acallOp E n q f ys σ=some r):∃ m F,n=m+1/\E f=some F:=by
 cases n with
 |zero=>simp[acallOp]at h
 | succ n=>
   simp only[acallOp]at h;split at h
   ·split at h
    ·rename_i hc;cases n with
     |zero=>simp[acall]at hc
     | succ n=>
       simp only[acall]at hc;split at hc
       ·cases hc
       ·rename_i F hF;exact⟨_,F,rfl,hF⟩
    ·cases h
   ·cases h
theorem ago_aop{n:Nat}{op:AOp}{σ:St}(h:op.isCall=false):ago E (n+1) op σ=aop σ op:=by
 cases op<;>first
  |rfl
  |(cases h;done)
theorem wp_call{o:Oper}{a:Act}{Q:Exit->Act->World->Prop}{K:Act->World->Prop}{f:Nat}{us:Array Value}(hrun:(execOp a.eval o).run P w= .ok (.enter f us) w){R:Ending->World->Prop}
  (hc:Calls P f us w R) (hR:∀ e w',R e w'-> ∃v,e= .returned v/\K (a.put o.dst v) w'):o.wp P a w K Q:=by
 unfold Oper.wp;rw[hrun];simp only[Oper.upon];refine hc.mono fun e w' he=>?_;obtain⟨v,rfl,hk⟩:=hR e w' he;exact hk
theorem caught_T{g:G}{V:Vw}{x:A}{u:Value}(h:x.caught=true)(r:RepK g w V.nb x u):(∀p,RepT g w V p x u)/\lightT x=true:=by
 have leaf:x.leafF=true->RepI g w x u->(∀p,RepT g w V p x u)/\lightT x=true:=fun hl r=>
  ⟨fun p=>repT_ofL (RepC.toL (RepC.ofI r (leafF_leaf hl))),by cases x<;>simp_all [A.leafF,lightT,lightA,A.light]⟩
 cases x<;>simp only[RepK]at r<;>first
  |exact⟨fun p=>r,rfl⟩
  |exact leaf h r
  |(simp[A.caught,A.leafF]at h;done)
theorem call_wp(hE:FnOK P E){n:Nat}(hC:∀ m,m<n->CallOK P E m){q:Bool}{f:Nat}{ys:List A}{g:G}{σ σ':St}{x:A}{us:Array Value}{o:Oper}{a:Act}{Q:Exit->Act->World->Prop}{K:Act->World->Prop}
  (hi:Inv g σ w tv tl) (hK:∀ v w' g',Inv g' σ' w' tv tl->Later g w g' w'->Same w w'->BX g σ g' σ'->σ'.ls.length=σ.ls.length->RepT g' w' σ'.view ⟨.loc σ'.ls.length,[]⟩ x v->K (a.put o.dst v) w')
  (hcall : acallOp E n q f ys σ = some (x, σ')) (hrun : ∀ fn c, P.funcs[f]? = some fn -> (fn.name == "runtime.NumGoroutine") = false -> fn.body = some c -> (execOp a.eval o).run P w = .ok (.enter f us) w)
  (hl:ys.length=us.size) (hy:∀ (i:Nat) y u,ys[i]?=some y->us[i]?=some u->(∀p,RepT g w σ.view p y u)/\lightT y=true):o.wp P a w K Q:=by
 obtain⟨m,F,rfl,hF⟩:=acallOp_some hcall;obtain⟨fn,cc,k1,k2,k3⟩:=hE f F hF;refine wp_call (hrun fn cc k1 k2 k3) (call_ok (hC m (by omega)) hcall hi hl hy) ?_;rintro e w' ⟨v,g',rfl,h1,h2,h3,h4,h5,h6⟩;exact⟨v,rfl,hK v w' g' h1 h2 h3 h4 h5 h6⟩
theorem op_call_inv{c:TC}{o:Op}{f:Nat}{ds:List Opd}(h:c.op o=some (.call f ds)):∃ cl,o= .call cl/\cl.callee= .value (.func f)/\c.opds cl.args=some ds:=by
 have bind':∀ {α:Type} {x:Option α} {k:α->Option AOp},x.bind k=some (.call f ds)->(∀a,k a=some (.call f ds)->False)->False:=by
  intro α x k h hf;cases x with
  |none=>cases h
  |some a=>exact hf a h
 cases o
 case call cl=>
  cases hcl:cl.callee with
  | value fv=>
    cases fv with
    | func f'=>
      simp only[TC.op,hcl]at h;cases hds:c.opds cl.args with
      |none=>rw[hds]at h;cases h
      | some ds'=>
        rw[hds]at h;cases h;exact⟨cl,rfl,hcl,hds⟩
    | _=>
      exfalso;simp only[TC.op,hcl]at h;refine bind' h fun _ h=>?_;refine bind' h fun _ h=>?_;cases h
  |invoke r m=>simp[TC.op,hcl]at h
  | builtin b=>
    exfalso
    cases b<;>simp only[TC.op,hcl]at h<;>first
     |(cases h;done)
     | (repeat' (first
         |contradiction
         |(cases h;done)
         |(refine bind' h fun _ h=>?_)
         |split at h))
 all_goals exfalso
 all_goals (simp only[TC.op]at h)
 all_goals (repeat' (first
      |contradiction
      |(cases h;done)
      |(refine bind' h fun _ h=>?_)
      |split at h))
theorem op_sound(hE:FnOK P E){n:Nat}(hC:∀ m,m<n->CallOK P E m):OpSound P E n:=by
 intro c o op g σ σ' w a tv tl x cx ht hag Q K hK;cases n with
 |zero=>simp[ago]at hag
 | succ n=>
   have plain:(∀cl fv,o.op= .call cl->cl.callee≠ .value fv)->(aop σ op=some (x,σ')->ORes P o a.eval tv tl g σ w x σ')->o.wp P a w K Q:=by
    intro h1 h3;rw[ago_aop (op_nocall ht h1)]at hag;exact wp_of_ores (h3 hag) hK
   have hP:=cx.P;have call:=fun f ys us=>call_wp (P:=P) (E:=E) (tv:=tv) (tl:=tl) hE (n:=n) (fun m hm=>hC m (by omega)) (q:=false) (f:=f) (ys:=ys) (σ:=σ) (σ':=σ') (x:=x) (us:=us) (o:=o) (a:=a) (w:=w) (Q:=Q) cx.I hK
   cases hop:o.op
   case call cl=>
    cases hcl:cl.callee with
    | value fv=>
      have viaV:∀ d ds,c.opd fv=some d->c.opds cl.args=some ds->op= .callv d ds->o.wp P a w K Q:=by
       rintro d ds hd hds rfl;simp only[ago]at hag;split at hag
       ·rename_i f first caps ys hrd hrds
        split at hag
        ·rename_i hcau;have r0:=(rd_ok cx.L cx.I hd hrd hand0).1
         obtain⟨us,vs,e1,l1,l2,r1,r2⟩:=r0;obtain⟨m1,m2⟩:=rds_ok cx cl.args.toList ds ys hds hrds;have hcau':=fun x hx=>List.all_eq_true.1 hcau x hx
         refine call f (first++ys++caps) (us.toArray++cl.args.map a.eval++vs.toArray) hag (fun fn cc k1 k2 k3=>?_) ?_ ?_
         ·have:=run_callFunc k1 k2 k3 (us.toArray++cl.args.map a.eval++vs.toArray) w;rw[Array.append_assoc]at this;simp[execOp,hop,resolve,hcl,e1,Deferred.ofValue,invoke,this]
         ·simp only[List.length_append,Array.size_append,List.size_toArray,Array.size_map,l1,l2,m1];rfl
         ·intro i y u hy hu;rw[<-Array.getElem?_toList]at hu;simp only[Array.toList_append,Array.toList_map]at hu
          by_cases h1:i<first.length
          ·rw[List.append_assoc,List.getElem?_append_left h1]at hy;rw[List.append_assoc,List.getElem?_append_left (by omega)]at hu;exact caught_T (hcau' y (List.mem_append_left _ (Mg hy))) (r1 i y u hy hu)
          ·by_cases h2:i<first.length+ys.length
           ·rw[List.getElem?_append_left (by simp;omega),List.getElem?_append_right (by omega)]at hy;rw[List.getElem?_append_left (by simp[<-l1,<-m1];omega),List.getElem?_append_right (by omega),List.getElem?_map,<-l1]at hu;cases hxs:cl.args.toList[i-first.length]? with
            |none=>rw[hxs]at hu;cases hu
            | some z=>
              rw[hxs]at hu;simp only[Option.map_some,Oe]at hu;subst hu;exact m2 _ z y hxs hy
           ·rw[List.getElem?_append_right (by simp;omega)]at hy;rw[List.getElem?_append_right (by simp[<-l1,<-m1];omega)]at hu;have e:i-(us++List.map a.eval cl.args.toList).length=i-(first++ys).length:=by simp[<-l1,<-m1]
            rw[e]at hu;exact caught_T (hcau' y (List.mem_append_right _ (Mg hy))) (r2 _ y u hy hu)
        ·cases hag
       ·cases hag
      rw[hop]at ht;cases fv with
      | func f=>
        simp only[TC.op,hcl]at ht;cases hds:c.opds cl.args with
        |none=>rw[hds]at ht;cases ht
        | some ds=>
          rw[hds]at ht;cases ht;simp only[ago]at hag;split at hag
          ·rename_i ys hrds;obtain⟨m1,m2⟩:=rds_ok cx cl.args.toList ds ys hds hrds;refine call f ys (cl.args.map a.eval) hag (fun fn cc k1 k2 k3=>?_) ?_ ?_
           ·have:=run_callFunc k1 k2 k3 (cl.args.map a.eval) w;simp[execOp,hop,resolve,hcl,cx.L.f,Deferred.ofValue,invoke,this]
           ·rw[m1,Array.size_map];rfl
           ·intro i y u hy hu;rw[Array.getElem?_map]at hu;cases hxs:cl.args[i]? with
            |none=>rw[hxs]at hu;cases hu
            | some z=>
              rw[hxs]at hu;simp only[Option.map_some,Oe]at hu;subst hu;exact m2 i z y (by rw[Array.getElem?_toList];exact hxs) hy
          ·cases hag
      | _=>
        simp only[TC.op,hcl]at ht;obtain⟨d,hd,ht⟩:=opd_bind ht;cases hds:c.opds cl.args with
        |none=>rw[hds]at ht;cases ht
        | some ds=>
          rw[hds]at ht;cases ht;exact viaV d ds hd hds rfl
    |invoke r m=>rw[hop]at ht;simp[TC.op,hcl]at ht
    | builtin b=>
      have hb:b= .len\/b= .append\/b= .max\/b= .min:=by
       rw[hop]at ht
       cases b<;>first
        |(simp;done)
        |(simp[TC.op,hcl]at ht;done)
      exact plain (fun cl' fv e e'=>by rw[hop]at e;cases e;rw[hcl]at e';cases e') fun hr=>op_ok4 cx ht hr hop hcl hb
   case binOp bop t y z t'=>exact plain (fun cl fv e=>by rw[hop]at e;cases e) fun hr=>op_ok3 cx ht hr hop
   case lookup t y z ok=>
    refine plain (fun cl fv e=>by rw[hop]at e;cases e) fun hr=>?_;rw[hop]at ht;simp only[TC.op,hP]at ht;split at ht
    ·rename_i kt et hu;cases hk:keyK P kt with
     |none=>rw[hk]at ht;cases ht
     | some kk=>
       cases hz:zeroV P et with
       |none=>simp[hk,hz]at ht
       | some zz=>
         simp only[hk,hz,Option.bind_eq_bind,Option.bind_some]at ht;obtain⟨dx,hd,ht⟩:=opd_bind ht;obtain⟨dk,hdk,ht⟩:=opd_bind ht;cases ht;obtain⟨h1,rfl⟩:=aop_pop hr rfl;exact(op_look cx hop hu hk hz hd hdk h1).o cx.I
    ·cases ht
   case mapUpdate t m k y=>
    refine plain (fun cl fv e=>by rw[hop]at e;cases e) fun hr=>?_;rw[hop]at ht;simp only[TC.op,hP]at ht;split at ht
    ·rename_i kt et hu;cases hk:keyK P kt with
     |none=>rw[hk]at ht;cases ht
     | some kk=>
       simp only[hk,Option.bind_eq_bind,Option.bind_some]at ht;obtain⟨dm,hdm,ht⟩:=opd_bind ht;obtain⟨dk,hdk,ht⟩:=opd_bind ht;obtain⟨dx,hdx,ht⟩:=opd_bind ht;cases ht;exact(op_mapup cx hop hu hk hdm hdk hdx hr).o
    ·cases ht
   case makeMap t r=>
    refine plain (fun cl fv e=>by rw[hop]at e;cases e) fun hr=>?_;cases r with
    | none=>
      rw[hop]at ht;simp only[TC.op,Oe]at ht;subst ht;exact(op_mkmap cx hop hr).o
    |some r=>rw[hop]at ht;simp[TC.op]at ht
   all_goals first
    |(rw[hop]at ht;simp[TC.op]at ht;done)
    |exact plain (fun cl fv e=>by rw[hop]at e;cases e) fun hr=>op_ok1 cx ht hr (by rw[hop];trivial)
    | (refine plain (fun cl fv e => by rw [hop] at e; cases e) fun hr => op_ok2 cx ht hr (by rw [hop]; trivial) ?_
       cases hb:op.byt with
       |false=>rfl
       | true=>
         exfalso
         cases op<;>simp[AOp.byt]at hb<;>simp[aop,pop]at hr)
end
end Go.Ab
end
section
namespace Go.Ab
open Go.RowKit
structure Sub(σ τ:St):Prop where
 v:∀ (n:Nat) x,σ.vs[n]?=some x->x= .top\/τ.vs[n]?=some x
 l:∀ (k:Nat) x,σ.ls[k]?=some x->x= .top\/τ.ls[k]?=some x
 b:∀ (b:Nat) x,σ.bx[b]?=some x->τ.bx[b]?=some x
section
variable {σ τ:St} (h:Sub σ τ)
include h
theorem Sub.root{r:Rt}{a:A}(hr:σ.root r=some a):a= .top\/τ.root r=some a:=by
 cases r with
 |var n=>exact h.v n a hr
 |loc k=>exact h.l k a hr
 | box b c=>
   simp only[St.root]at hr ⊢
   split at hr
   ·rename_i cs hb;rw[h.b b _ hb];exact .inr hr
   ·cases hr
 |hand k=>cases hr
theorem Sub.get{p:Pl}{y:A}(hg:σ.get p=some y):y= .top\/τ.get p=some y:=by
 unfold St.get at hg ⊢
 cases hr:σ.root p.r with
 |none=>rw[hr]at hg;cases hg
 | some a=>
   rw[hr]at hg;rcases h.root hr with rfl|h2
   ·left;cases hs:p.s with
    |nil=>rw[hs]at hg;simp only[getS,Oe]at hg;exact hg.symm
    |cons q s=>rw[hs]at hg;simp[getS,child]at hg
   ·rw[h2];exact .inr hg
theorem Sub.row{p:Pl}{r:Nat×List (List A)}(hr:σ.row p=some r):τ.row p=some r:=by
 unfold St.row at hr ⊢
 cases hg:σ.get p with
 |none=>rw[hg]at hr;cases hr
 | some y=>
   rw[hg]at hr;rcases h.get hg with rfl|h2
   ·cases hr
   ·rw[h2];exact hr
theorem Sub.getO{p:Pl}{y:A}(hg:σ.get p=some y)(hy:y≠ .top):τ.get p=some y:=(h.get hg).resolve_left hy
theorem Sub.R'{p:Pl}{n:Nat}(hr:σ.R' p=some n):τ.R' p=some n:=by
 unfold St.R' at hr ⊢
 cases hg:σ.row p with
 |none=>rw[hg]at hr;cases hr
 |some y=>rw[hg]at hr;rw[h.row hg];exact hr
theorem Sub.lenA{a:A}{n:Nat}(hl:lenA σ a=some n):lenA τ a=some n:=by
 unfold Ab.lenA at hl;split at hl
 ·exact hl
 ·exact hl
 ·simp only[Ab.lenA];split at hl
  ·rename_i hr;rw[h.row hr];exact hl
  ·cases hl
 ·simp only[Ab.lenA];split at hl
  ·rename_i hr;rw[h.row hr];exact hl
  ·cases hl
 ·simp only[Ab.lenA];split at hl
  ·rename_i hr;rw[h.row hr];exact hl
  ·cases hl
 ·cases hl
theorem Sub.lenK{k:Nat}{a:A}{n:Nat}(hl:lenK σ k a=some n):lenK τ k a=some n:=by
 unfold Ab.lenK at hl ⊢
 split at hl
 ·exact h.lenA hl
 ·exact hl
 ·rename_i b;split at hl
  ·rename_i es hb;simp only[h.b _ _ hb];exact hl
  ·cases hl
 ·exact hl
 ·cases hl
theorem Sub.loadA{n:Nat}{a:A}{cs:List A}(hl:loadA σ n a=some cs):loadA τ n a=some cs:=by
 cases a<;>simp only[Ab.loadA]at hl ⊢ <;>first
  |exact hl
  |skip
 ·split at hl
  ·rename_i es hr;rw[h.row hr];exact hl
  ·cases hl
 ·split at hl
  ·rename_i es hb;rw[h.b _ _ hb];exact hl
  ·cases hl
theorem Sub.nilA{a:A}{b:Bool}(hl:nilA σ a=some b):nilA τ a=some b:=by
 unfold Ab.nilA at hl;split at hl
 ·exact hl
 ·simp only[Ab.nilA];split at hl
  ·rename_i hr;rw[h.row hr];exact hl
  ·cases hl
 ·exact hl
 ·cases hl
theorem Sub.eqA{k:EK}{a b:A}{r:Bool}(hl:eqA σ k a b=some r):eqA τ k a b=some r:=by
 cases k with
 | slice=>
   simp only[Ab.eqA]at hl ⊢
   unfold eqL at hl ⊢
   split at hl
   ·exact h.nilA hl
   ·cases hl
 |_=>exact hl
theorem Sub.newsA{z:Nat}{a:A}{c:Bool×List (List A)}(hl:newsA σ z a=some c):newsA τ z a=some c:=by
 unfold Ab.newsA at hl;split at hl
 ·exact hl
 ·exact hl
 ·simp only[Ab.newsA];split at hl
  ·rename_i hg;rw[h.getO hg (by simp)];exact hl
  ·rename_i hg;rw[h.getO hg (by simp)];exact hl
  ·cases hl
 ·simp only[Ab.newsA];split at hl
  ·rename_i hr;rw[h.row hr];exact hl
  ·cases hl
 ·cases hl
def Known(σ τ:St)(ds:List Opd):Prop:=∀ d,d∈ds-> ∀x,σ.rd d=some x->τ.rd d=some x
omit h in
theorem Known.rds:∀ {ds:List Opd} {xs:List A},Known σ τ ds->rds σ ds=some xs->rds τ ds=some xs
 |[],xs,_,hx=>hx
 | d::ds,xs,hk,hx=>by
   simp only[Ab.rds]at hx ⊢
   split at hx
   ·rename_i y hy;rw[hk d (List.mem_cons_self ..) y hy];split at hx
    ·rename_i ys hys;rw[Known.rds (fun d hd=>hk d (List.mem_cons_of_mem _ hd)) hys];exact hx
    ·cases hx
   ·cases hx
omit h in
theorem Known.boundO{d m:Nat}{o:Option Opd}{n:Nat}(hk:Known σ τ o.toList)(hb:boundO σ d m o=some n):boundO τ d m o=some n:=by
 cases o with
 |none=>exact hb
 | some x=>
   simp only[Ab.boundO]at hb ⊢
   split at hb
   ·rename_i k i hr;rw[hk x (by simp) _ hr];exact hb
   ·cases hb
omit h in
theorem Known.boundsA{n:Nat}{lo hi:Option Opd}{r:Nat×Nat}(hk:Known σ τ (lo.toList++hi.toList))(hb:boundsA σ n lo hi=some r):boundsA τ n lo hi=some r:=by
 unfold Ab.boundsA at hb ⊢
 split at hb
 ·rename_i x hx;rw[Known.boundO (fun d hd=>hk d (List.mem_append_right _ hd)) hx];split at hb
  ·rename_i y hy;rw[Known.boundO (fun d hd=>hk d (List.mem_append_left _ hd)) hy];exact hb
  ·cases hb
 ·cases hb
omit h in
theorem Known.parts:∀ {ps:List (Nat×Nat×Opd)} {xs:List (Nat×Nat×A)},Known σ τ (ps.map (·.2.2))->ps.mapM (partA σ)=some xs->ps.mapM (partA τ)=some xs
 |[],xs,_,hx=>by simpa using hx
 | p::ps,xs,hk,hx=>by
   simp only[List.mapM_cons]at hx ⊢
   cases h1:partA σ p with
   |none=>rw[h1]at hx;cases hx
   | some y=>
     rw[h1]at hx
     have h2:partA τ p=some y:=by
      unfold partA at h1 ⊢
      split at h1
      ·rename_i z hz;rw[hk p.2.2 (by simp) z hz];exact h1
      ·cases h1
     rw[h2];cases h3:ps.mapM (partA σ)with
     |none=>simp only[h3]at hx;cases hx
     | some ys=>
       simp only[h3]at hx;rw[Known.parts (fun d hd=>hk d (by simp only[List.map_cons,List.mem_cons];exact .inr hd)) h3];exact hx
theorem Sub.pop{op:AOp}(hk:Known σ τ op.opds){x:A}(hx:pop σ op=some x):pop τ op=some x:=by
 have rd:∀ d,d∈op.opds-> ∀x,σ.rd d=some x->τ.rd d=some x:=hk;cases op<;>simp only[Ab.pop]at hx ⊢ <;>simp only[AOp.opds]at hk rd
 case move d=>exact rd d (by simp) x hx
 case pick c a b=>
  split at hx
  ·rename_i t ht;rw[rd c (by simp) _ ht];cases t
   ·exact rd b (by simp) x hx
   ·exact rd a (by simp) x hx
  ·cases hx
 case build z ps=>
  split at hx
  ·rename_i qs hq;rw[Known.parts hk hq];exact hx
  ·cases hx
 case bslice z zero n ps=>
  split at hx
  ·rename_i qs hq;rw[Known.parts hk hq];exact hx
  ·cases hx
 case load agg n d=>
  split at hx
  ·rename_i a ha;rw[rd d (by simp) _ ha];split at hx
   ·rename_i cs hc;simp only[h.loadA hc];exact hx
   ·cases hx
  ·cases hx
 case nilchk d=>
  split at hx
  ·rename_i ha;rw[rd d (by simp) _ ha];exact hx
  ·rename_i p i c ha;rw[rd d (by simp) _ ha];split at hx
   ·rename_i n hn;simp only[h.R' hn];exact hx
   ·cases hx
  ·rename_i ha;rw[rd d (by simp) _ ha];exact hx
  ·rename_i ha;rw[rd d (by simp) _ ha];exact hx
  ·cases hx
 case bin op a b=>
  split at hx
  ·rename_i h1 h2;rw[rd a (by simp) _ h1,rd b (by simp) _ h2];exact hx
  ·rename_i h1 h2;rw[rd a (by simp) _ h1,rd b (by simp) _ h2];exact hx
  ·cases hx
 case eq neg k a b=>
  split at hx
  ·rename_i h1 h2;rw[rd a (by simp) _ h1,rd b (by simp) _ h2];split at hx
   ·rename_i r hr;simp only[h.eqA hr];exact hx
   ·cases hx
  ·cases hx
 case un op a=>
  split at hx
  ·rename_i h1;rw[rd a (by simp) _ h1];exact hx
  ·rename_i h1;rw[rd a (by simp) _ h1];exact hx
  ·cases hx
 case conv k a=>
  split at hx
  ·rename_i h1;rw[rd a (by simp) _ h1];exact hx
  ·cases hx
 case mk z zero bytes l c=>
  split at hx
  ·rename_i h1 h2;rw[rd l (by simp) _ h1,rd c (by simp) _ h2];exact hx
  ·cases hx
 case sub z a lo hi mx=>
  cases mx with
  |some m=>cases hx
  | none=>
    simp only at hx ⊢
    split at hx
    ·rename_i y hy;rw[rd a (by simp) _ hy];simp only
     split at hx
     ·rename_i n hn;rw[h.lenA hn];simp only
      split at hx
      ·rename_i l k hb;rw[Known.boundsA (fun d hd=>hk d (by simp only[Option.toList_none,List.append_nil];exact List.mem_cons_of_mem _ hd)) hb];simp only
       split at hx
       ·exact hx
       ·exact hx
       ·split at hx
        ·rename_i hr;rw[h.row hr];exact hx
        ·cases hx
       ·split at hx
        ·rename_i hr;rw[h.row hr];exact hx
        ·cases hx
       ·cases hx
      ·cases hx
     ·cases hx
    ·cases hx
 case ssub a lo hi=>
  split at hx
  ·rename_i s hs;rw[rd a (by simp) _ hs];simp only
   split at hx
   ·rename_i l k hb;rw[Known.boundsA (fun d hd=>hk d (List.mem_cons_of_mem _ hd)) hb];exact hx
   ·cases hx
  ·cases hx
 case faddr off d=>
  split at hx
  ·rename_i ha;rw[rd d (by simp) _ ha];exact hx
  ·rename_i p i c ha;rw[rd d (by simp) _ ha];split at hx
   ·rename_i n hn;simp only[h.R' hn];exact hx
   ·cases hx
  ·rename_i ha;rw[rd d (by simp) _ ha];exact hx
  ·cases hx
 case fld agg off n d=>
  split at hx
  ·rename_i ha;rw[rd d (by simp) _ ha];exact hx
  ·cases hx
 case iaddr z a i=>
  split at hx
  ·rename_i y k j h1 h2;rw[rd a (by simp) _ h1,rd i (by simp) _ h2];simp only
   split at hx
   ·exact hx
   ·split at hx
    ·rename_i hr;rw[h.row hr];exact hx
    ·cases hx
   ·split at hx
    ·rename_i hr;rw[h.row hr];exact hx
    ·cases hx
   ·cases hx
  ·cases hx
 case sidx a i=>
  split at hx
  ·rename_i h1 h2;rw[rd a (by simp) _ h1,rd i (by simp) _ h2];exact hx
  ·cases hx
 case ext i d=>
  split at hx
  ·rename_i ha;rw[rd d (by simp) _ ha];exact hx
  ·cases hx
 case len k d=>
  split at hx
  ·rename_i a ha;rw[rd d (by simp) _ ha];split at hx
   ·rename_i n hn;simp only[h.lenK hn];exact hx
   ·cases hx
  ·cases hx
 case mx ds=>
  split at hx
  ·rename_i hr;rw[Known.rds hk hr];exact hx
  ·cases hx
 case mn ds=>
  split at hx
  ·rename_i hr;rw[Known.rds hk hr];exact hx
  ·cases hx
 case mkclo f a b=>
  split at hx
  ·rename_i h1 h2;rw[Known.rds (fun d hd=>hk d (List.mem_append_left _ hd)) h1,Known.rds (fun d hd=>hk d (List.mem_append_right _ hd)) h2];exact hx
  ·cases hx
 case look kk zero d k ok=>
  split at hx
  ·rename_i a key h1 h2;rw[rd d (by simp) _ h1,rd k (by simp) _ h2];simp only
   cases hl:lookE σ kk key a with
   |none=>rw[hl]at hx;cases hx
   | some r=>
     rw[hl]at hx
     have:lookE τ kk key a=some r:=by
      unfold lookE at hl;split at hl
      ·rename_i b;simp only[lookE];split at hl
       ·rename_i hb;rw[h.b _ _ hb];exact hl
       ·cases hl
      ·exact hl
      ·cases hl
     rw[this];exact hx
  ·cases hx
 all_goals cases hx
omit h in
theorem mapM_imp{α β:Type}{f f':α->Option β}(ih:∀ a x,f a=some x->f' a=some x):∀ {xs:List α} {ys:List β},xs.mapM f=some ys->xs.mapM f'=some ys
 |[],ys,hx=>by simpa using hx
 | x::xs,ys,hx=>by
   simp only[List.mapM_cons]at hx ⊢
   cases h1:f x with
   |none=>rw[h1]at hx;cases hx
   | some y=>
     rw[h1]at hx;rw[ih _ _ h1];cases h3:xs.mapM f with
     |none=>simp only[h3]at hx;cases hx
     |some zs=>simp only[h3]at hx;rw[mapM_imp ih h3];exact hx
theorem Sub.lend:∀ (n:Nat) (a x:A),lend n σ a=some x->lend n τ a=some x
 |0,_,_,hx=>by simp[Ab.lend]at hx
 | n+1,a,x,hx=>by
   have ih:=Sub.lend n
   cases a<;>first
    |exact hx
    |skip
   all_goals simp only[Ab.lend]at hx ⊢
   case clo f xs ys=>
    cases xs<;>cases ys<;>first|exact hx|cases hx
   case app z p cs=>
    split at hx
    ·rename_i z' es hl;rw[ih _ _ hl];simp only
     split at hx
     ·rename_i hz;rw[if_pos hz];split at hx
      ·rename_i ess he
       have:cs.mapM (chunk n (Ab.lend n τ)) = some ess:=mapM_imp (fun c y hc => by
        obtain⟨b,es⟩:=c
        cases b with
        |false=>exact hc
        |true=>exact mapM_imp (fun e y he=>mapM_imp (fun a x ha=>ih a x ha) he) hc) he
       rw[this];exact hx
      ·cases hx
     ·cases hx
    ·cases hx
   case sref p=>
    split at hx
    ·rename_i hg;rw[h.getO hg (by simp)];exact hx
    ·rename_i z es hg;rw[h.getO hg (by simp)];simp only
     split at hx
     ·rename_i es' he;rw[mapM_imp (fun e y he=>mapM_imp (fun a x ha=>ih a x ha) he) he];exact hx
     ·cases hx
    ·cases hx
   case sub p lo hi=>
    split at hx
    ·rename_i hl;rw[ih _ _ hl];exact hx
    ·cases hx
   case agg cs=>
    split at hx
    ·rename_i cs' hc;rw[mapM_imp (fun a x ha=>ih a x ha) hc];exact hx
    ·cases hx
theorem Sub.give1{a x:A}{b:Bool}{σ':St}(hx:give1 true σ a=some (x,σ',b)):give1 true τ a=some (x,τ,b):=by
 have gen:∀ c:Bool,(match Ab.lend 20 σ a with|some x=>some (x,σ,c)|none=>none)=some (x,σ',b)->(match Ab.lend 20 τ a with|some x=>some (x,τ,c)|none=>none)=some (x,τ,b):=by
  intro c hx;split at hx
  ·rename_i y hy;rw[h.lend 20 _ _ hy];simp only[Oe,Prod.mk.injEq]at hx ⊢
   exact⟨hx.1,trivial,hx.2.2⟩
  ·cases hx
 cases a with
 |pt _ _=>simp only[Ab.give1,Oe,Prod.mk.injEq]at hx ⊢;exact⟨hx.1,trivial,hx.2.2⟩
 |mp _=>simp only[Ab.give1,Oe,Prod.mk.injEq]at hx ⊢;exact⟨hx.1,trivial,hx.2.2⟩
 |clo _ _ _=>simp only[Ab.give1,Oe,Prod.mk.injEq]at hx ⊢;exact⟨hx.1,trivial,hx.2.2⟩
 |sref p=>simp only[Ab.give1,Bool.not_true,Bool.and_false,Bool.false_eq_true,if_false]at hx ⊢;exact gen true hx
 |_=>simp only[Ab.give1]at hx ⊢;first|exact gen _ hx|exact gen false hx|exact gen true hx
omit h in
theorem give1_same{a x:A}{b:Bool}{σ':St}(hx:give1 true σ a=some (x,σ',b)):σ'=σ:=by
 have gen:∀ c:Bool,(match lend 20 σ a with|some x=>some (x,σ,c)|none=>none)=some (x,σ',b)->σ'=σ:=by
  intro c hx;split at hx
  ·simp only[Oe,Prod.mk.injEq]at hx;exact hx.2.1.symm
  ·cases hx
 cases a with
 |pt _ _=>simp only[Ab.give1,Oe,Prod.mk.injEq]at hx;exact hx.2.1.symm
 |mp _=>simp only[Ab.give1,Oe,Prod.mk.injEq]at hx;exact hx.2.1.symm
 |clo _ _ _=>simp only[Ab.give1,Oe,Prod.mk.injEq]at hx;exact hx.2.1.symm
 |sref p=>simp only[Ab.give1,Bool.not_true,Bool.and_false,Bool.false_eq_true,if_false]at hx;exact gen true hx
 |_=>simp only[Ab.give1]at hx;first|exact gen _ hx|exact gen false hx|exact gen true hx
theorem Sub.gives1:∀ {as xs:List A} {b:Bool} {σ':St},gives1 true σ as=some (xs,σ',b)->σ'=σ/\gives1 true τ as=some (xs,τ,b)
 |[],xs,b,σ',hx=>by simp only[Ab.gives1,Oe,Prod.mk.injEq]at hx ⊢;exact⟨hx.2.1.symm,hx.1,trivial,hx.2.2⟩
 | a::as,xs,b,σ',hx=>by
   simp only[Ab.gives1]at hx ⊢
   split at hx
   ·rename_i y σ1 b1 h1;rw[give1_same h1]at hx;rw[h.give1 h1];simp only
    split at hx
    ·rename_i ys σ2 c h2;obtain⟨e2,h3⟩:=Sub.gives1 h2;rw[h3];simp only[Oe,Prod.mk.injEq]at hx ⊢
     exact⟨hx.2.1.symm.trans e2,hx.1,trivial,hx.2.2⟩
    ·cases hx
   ·cases hx
theorem Sub.give{a x:A}{b:Bool}{σ':St}(hx:give true σ a=some (x,σ',b)):σ'=σ/\give true τ a=some (x,τ,b):=by
 cases a with
 | agg cs=>
   simp only[Ab.give]at hx ⊢
   split at hx
   ·rename_i cs' σ1 c h1;obtain⟨e,h2⟩:=h.gives1 h1;rw[h2];simp only[Oe,Prod.mk.injEq]at hx ⊢
    exact⟨hx.2.1.symm.trans e,hx.1,trivial,hx.2.2⟩
   ·cases hx
 |_=>simp only[Ab.give]at hx ⊢;exact⟨give1_same hx,h.give1 hx⟩
theorem Sub.gives:∀ {as xs:List A} {b:Bool} {σ':St},gives true σ as=some (xs,σ',b)->σ'=σ/\gives true τ as=some (xs,τ,b)
 |[],xs,b,σ',hx=>by simp only[Ab.gives,Oe,Prod.mk.injEq]at hx ⊢;exact⟨hx.2.1.symm,hx.1,trivial,hx.2.2⟩
 | a::as,xs,b,σ',hx=>by
   simp only[Ab.gives]at hx ⊢
   split at hx
   ·rename_i y σ1 b1 h1;obtain⟨e,h1'⟩:=h.give h1;rw[e]at hx;rw[h1'];simp only
    split at hx
    ·rename_i ys σ2 c h2;obtain⟨e2,h3⟩:=Sub.gives h2;rw[h3];simp only[Oe,Prod.mk.injEq]at hx ⊢
     exact⟨hx.2.1.symm.trans e2,hx.1,trivial,hx.2.2⟩
    ·cases hx
   ·cases hx
end
end Go.Ab
end
section
namespace Go.Ab
open Go.RowKit
variable {w:World} {tv tl:Nat->Value}
theorem clearV_get:∀ (ns:List Nat) (vs:List A) (m:Nat),(clearV vs ns)[m]?=if ns.contains m then(vs[m]?).map (fun _=>A.top)else vs[m]?
 |[],vs,m=>by simp[clearV]
 | n::ns,vs,m=>by
   simp only[clearV];rw[clearV_get ns,List.getElem?_set]
   by_cases hnm:n=m
   ·subst hnm;simp only[if_true,List.contains_cons,beq_self_eq_true,Bool.true_or]
    by_cases hlt:n<vs.length
    ·simp[hlt]
    ·simp[hlt]
   ·have:(m==n)=false:=by simpa using fun e=>hnm e.symm
    simp only[hnm,if_false,List.contains_cons,this,Bool.false_or]
theorem clearV_len(ns:List Nat)(vs:List A):(clearV vs ns).length=vs.length:=by
 induction ns generalizing vs with
 |nil=>rfl
 |cons n ns ih=>simp only[clearV];rw[ih,List.length_set]
theorem topFrom_get:∀ (k:Nat) (xs:List A) (j:Nat),(topFrom k xs)[j]?=if j<k then xs[j]? else(xs[j]?).map fun _=>A.top
 |_,[],j=>by simp[topFrom]
 | 0,x::xs,j=>by
   cases j with
   |zero=>simp[topFrom]
   |succ j=>simp only[topFrom,List.getElem?_cons_succ];rw[topFrom_get 0 xs j];simp
 | k+1,x::xs,j=>by
   cases j with
   |zero=>simp[topFrom]
   |succ j=>simp only[topFrom,List.getElem?_cons_succ];rw[topFrom_get k xs j];simp
theorem topFrom_len:∀ (k:Nat) (xs:List A),(topFrom k xs).length=xs.length
 |_,[]=>rfl
 |0,x::xs=>by simp[topFrom,topFrom_len 0 xs]
 |k+1,x::xs=>by simp[topFrom,topFrom_len k xs]
theorem Inv.less{g:G}{σ σ':St}(h:Inv g σ w tv tl)(hv:∀ (n:Nat) x,σ'.vs[n]?=some x->x= .top\/σ.vs[n]?=some x)(hl:∀ (k:Nat) x,σ'.ls[k]?=some x->x= .top\/σ.ls[k]?=some x)(hb:σ'.bx=σ.bx)(hll:σ'.ls.length=σ.ls.length)
  (hvl:σ'.vs.length=σ.vs.length):Inv g σ' w tv tl:=by
 have hR:∀ q,σ'.R q=none\/σ'.R q=σ.R q:=by
  intro q;cases hr:σ'.root q.r with
  |none=>left;simp only[St.R,St.row,St.get,hr]
  | some a=>
    have key:a= .top\/σ.root q.r=some a:=by
     cases e:q.r with
     |var n=>rw[e]at hr;exact hv n a hr
     |loc k=>rw[e]at hr;exact hl k a hr
     |box b c=>rw[e]at hr;right;simp only[St.root]at hr ⊢;rw[<-hb];exact hr
     |hand k=>rw[e]at hr;cases hr
    rcases key with rfl|h2
    ·left;simp only[St.R,St.row,St.get,hr];cases q.s with
     |nil=>simp[getS]
     |cons x s=>simp[getS,child]
    ·exact .inr (R_of_root (hr.trans h2.symm))
 have ok:∀ (V V':Vw) q,V.nl=V'.nl->V.nb=V'.nb->V.ok q->V'.ok q:=by
  intro V V' q h1 h2 hq;unfold Vw.ok at hq ⊢
  split<;>rename_i e<;>simp only[e]at hq<;>first|omega|trivial
 refine⟨fun n x hx=>?_,fun k x hx=>?_,fun b x hx=>?_,h.lt⟩
 ·rcases hv n x hx with rfl|h2
  ·trivial
  ·exact(h.vars n x h2).review (by simp[St.view0,hb]) (fun q _ hq=>ok σ.view0 _ q rfl (by simp[St.view0,hb]) hq) (fun q _ _=>hR q)
 ·rcases hl k x hx with rfl|h2
  ·trivial
  ·exact(h.locs k x h2).review (by simp[St.view,hb]) (fun q _ hq=>ok σ.view _ q (by simp[St.view,hll]) (by simp[St.view,hb]) hq) (fun q _ _=>hR q)
 ·rw[hb]at hx ⊢
  exact h.boxes b x hx
theorem Inv.clear{g:G}{σ:St}(h:Inv g σ w tv tl)(ns:List Nat):Inv g {σ with vs:=clearV σ.vs ns} w tv tl:=by
 refine h.less (fun n x hx=>?_) (fun k x hx=> .inr hx) rfl rfl (clearV_len _ _);simp only at hx;rw[clearV_get]at hx;split at hx
 ·cases hy:σ.vs[n]? with
  |none=>rw[hy]at hx;cases hx
  |some y=>rw[hy]at hx;cases hx;exact .inl rfl
 ·exact .inr hx
theorem Inv.openV{g:G}{σ:St}(h:Inv g σ w tv tl){n:Nat}(hn:∀ x,σ.vs[n]?=some x->x= .top)(v:Value):Inv g σ w (upd tv n v) tl:=by
 refine⟨fun m x hx=>?_,h.locs,h.boxes,h.lt⟩
 by_cases e:m=n
 ·subst e;have:=hn x hx
  subst this;trivial
 ·rw[upd_ne e];exact h.vars m x hx
theorem RepE.mvx{g:G}{V:Vw}{p q:Pl}{x:A}{u:Value}(h:RepE g w V x u)(hr:∀ r,r∈refsE x-> ¬q.under r):RepE (g.mv p q) w V x u:=h.mv hr
theorem RepL.mvx{g:G}{V:Vw}{q p:Pl}{s:List (Nat×Nat)}{x:A}{v:Value}(r:RepL g w V (q.plus s) x v)(hr:∀ r,r∈refsL x-> ¬p.under r):RepL (g.mv q p) w V (p.plus s) x v:=by
 cases x
 case bld z es=>
  obtain⟨b,cap,cur,t,e1,e2,e3,e4,e5,e6,e7,e8⟩:=r;refine⟨b,cap,cur,t,e1,?_,?_,e4,e5,e6,e7,fun i e he=>⟨(e8 i e he).1,fun c x hx=>?_⟩⟩
  ·rw[<-e2];exact mv_hd s
  ·exact mv_ow s e3
  ·obtain⟨u,hu,hr'⟩:=(e8 i e he).2 c x hx;exact⟨u,hu,hr'.mvx fun r hr0=>hr r (by simp only[refsL];exact mem_flat2 he hx hr0)⟩
 case agg cs=>exact r.noAgg.elim
 case tup cs=>exact r.noTup.elim
 all_goals exact r.mv rfl hr
theorem RepA.mvx{g:G}{V:Vw}{q p:Pl}{s:List (Nat×Nat)}{x:A}{v:Value}(r:RepA g w V (q.plus s) x v)(hr:∀ r,r∈refsA x-> ¬p.under r):RepA (g.mv q p) w V (p.plus s) x v:=by
 cases x
 case agg cs=>
  obtain⟨us,h1,h2,h3⟩:=r;refine⟨us,h1,h2,fun c x u hx hu=>?_⟩;have:=h3 c x u hx hu
  rw[Pl.plus_at]at this ⊢
  exact this.mvx fun r hr0=>hr r (by simp only[refsA,List.mem_flatMap];exact⟨x,Mg hx,hr0⟩)
 all_goals
  (simp only [RepA] at r ⊢
   exact RepL.mvx r hr)
theorem RepT.mvx{g:G}{V:Vw}{q p:Pl}{x:A}{v:Value}(r:RepT g w V q x v)(hr:∀ r,r∈refsT x-> ¬p.under r):RepT (g.mv q p) w V p x v:=by
 cases x
 case tup vs=>
  obtain⟨us,h1,h2,h3⟩:=r;refine⟨us,h1,h2,fun j x u hx hu=>?_⟩;have:=h3 j x u hx hu
  rw[show q.at j 0=q.plus [(j,0)]from rfl]at this;exact this.mvx fun r hr0=>hr r (by simp only[refsT,List.mem_flatMap];exact⟨x,Mg hx,hr0⟩)
 case top=>trivial
 case ud=>exact r
 all_goals
  (simp only [RepT] at r ⊢
   have:=r
   rw[show q=q.plus []from(Pl.plus_nil q).symm]at this
   have:=RepA.mvx (p:=p) this hr
   rwa [Pl.plus_nil]at this)
theorem Inv.fillAt{g:G}{σ:St}(h:Inv g σ w tv tl){i:Nat}(hi:i<σ.ls.length){x:A}{v:Value}(hx:RepT g w σ.view ⟨.loc σ.ls.length,[]⟩ x v)(hrs:∀ r,RefIn σ r->r.r≠ .loc i)(hxr:∀ r,r∈refsT x->r.r≠ .loc i):
  ∃g',Inv g' {σ with ls:=σ.ls.set i x} w tv (upd tl i v)/\Later g w g' w/\g'.blk=g.blk:=by
 have hl:({σ with ls:=σ.ls.set i x}:St).view.nl=σ.view.nl:=by simp[St.view]
 have tr:∀ (p':Pl) (V V':Vw) (rs as:List Pl),p'.r≠ .loc i->p'.r≠ .loc σ.ls.length->V.R=σ.R->V'.R=({σ with ls:=σ.ls.set i x}:St).R->V'.nl=V.nl->V'.nb=V.nb->(∀r,r∈rs->r.r≠ .loc i)->
   Tr p' g w V (g.mv ⟨.loc σ.ls.length,[]⟩ ⟨.loc i,[]⟩) w V' rs as:=by
  intro p' V V' rs as h1 h2 e1 e2 e3 e4 hr;have hu:∀ r:Pl,r.r≠ .loc i-> ¬(⟨.loc i,[]⟩:Pl).under r:=fun r hr hu=>hr hu.1.symm
  refine{mv_later g w _ _ with hd:=?_,ow:=?_,row:=fun _ _ _ _=>rfl,blk:=fun _ _=>rfl,nb:=by omega,ok:=?_,ref:=?_,app:=?_}
  ·exact fun r hr=>mv_hd_other (hu r (by rw[<-hr.1];exact h1))
  ·exact fun r b hr ho=>mv_ow_other ho (fun hu=>h2 (by rw[hr.1];exact hu.1.symm))
  ·intro r _ hr;unfold Vw.ok at hr ⊢
   split<;>rename_i e<;>simp only[e]at hr<;>first|omega|trivial
  ·exact fun r hr0 _=> .inr ⟨by rw[e2,e1];exact R_ls (hr r hr0),mv_hd_other (hu r (hr r hr0))⟩
  ·exact fun r _ _=> .inr ⟨rfl,fun b hb=>⟨mv_tmp hb,rfl⟩⟩
 refine⟨g.mv ⟨.loc σ.ls.length,[]⟩ ⟨.loc i,[]⟩,⟨fun m y hy=>?_,fun m y hy=>?_,fun b y hy=>?_,fun b hb=>h.lt b (mv_some hb)⟩,mv_later _ _ _ _,rfl⟩
 ·exact(h.vars m y hy).tr (tr _ σ.view0 ({σ with ls:=σ.ls.set i x}:St).view0 (refsT y) (appsT y) (by simp) (by simp) rfl rfl rfl rfl fun r hr=>hrs r (.inl ⟨m,y,hy,hr⟩)) (fun _ h=>h) (fun _ h=>h)
 ·by_cases e:i=m
  ·subst e;rw[upd_self];simp only at hy;rw[List.getElem?_set_self hi]at hy;cases hy;refine(hx.mvx fun r hr hu=>hxr r hr hu.1.symm).review rfl ?_ fun r hr _=> .inr (R_ls (hxr r hr));intro r _ hr;unfold Vw.ok at hr ⊢
   split<;>rename_i e<;>simp only[e]at hr<;>first|(rw[hl];exact hr)|exact hr|trivial
  ·rw[upd_ne (fun e'=>e e'.symm)];simp only at hy;rw[List.getElem?_set_ne e]at hy;have hm:=(Ge hy).1
   exact(h.locs m y hy).tr (tr ⟨.loc m,[]⟩ σ.view ({σ with ls:=σ.ls.set i x}:St).view (refsT y) (appsT y) (by simp;exact fun e'=>e e'.symm) (by simp;omega) rfl rfl hl rfl fun r hr=>hrs r (.inr ⟨m,y,hy,hr⟩)) (fun _ h=>h) (fun _ h=>h)
 ·cases y with
  | cells cs=>
    have k:=h.boxes b _ hy;simp only[BoxOK]at k ⊢
    obtain⟨h1,cur,t,h2,h3,h4⟩:=k;refine⟨mv_bx h1,cur,t,h2,h3,fun c x0 hx0=>?_⟩;obtain⟨u,hu,hc⟩:=h4 c x0 hx0;exact⟨u,hu,hc.keeps (tr ⟨.box b c,[]⟩ σ.view ({σ with ls:=σ.ls.set i x}:St).view [] [] (by simp) (by simp) rfl rfl hl rfl (fun r hr=>by cases hr)).toStays rfl (Nat.le_refl _)⟩
  | map es=>
    have k:=h.boxes b _ hy;simp only[BoxOK]at k ⊢
    obtain⟨h1,ents,clk,h2,h3,h4⟩:=k;exact⟨mv_bx h1,ents,clk,h2,h3,fun i k' x hx=>let ⟨e,he,hk,hv⟩:=h4 i k' x hx;⟨e,he,hk,hv.later (mv_later _ _ _ _)⟩⟩
  |gone=>trivial
theorem keeps_tr{g g':G}{σ:St}{w':World}(h:Inv g σ w tv tl)(hk:Keeps (.loc σ.ls.length) g w g' w'){p:Pl}(hp:p.r≠ .loc σ.ls.length)(rs as:List Pl):Tr p g w σ.view g' w' σ.view rs as:=by
 have hroot:∀ q,σ.view.ok q->q.r≠ .loc σ.ls.length:=fun q hq=>ok_root hq (Nat.le_refl _);refine{hk.stays hp with blk:=fun b _=>by rw[hk.blk],nb:=Nat.le_refl _,ok:=fun _ _ h=>h,ref:=fun q _ hq=> .inr ⟨rfl,hk.hd q (hroot q hq)⟩,app:=fun q _ hq=>?_};cases hn:σ.R q with
 |none=>exact .inl hn
 |some zn=>exact .inr ⟨hk.row q _ (hroot q hq) (h.owns hn),fun b hb=>⟨hk.owt q b (hroot q hq) hb,hk.rowt q b (hroot q hq) hb⟩⟩
theorem frz_ok{g:G}{σ:St}(h:Inv g σ w tv tl){x:A}{v:Value}(hx:RepT g w σ.view ⟨.loc σ.ls.length,[]⟩ x v):
  ∃g',Inv g' σ w tv tl/\Later g w g' w/\g'.blk=g.blk/\RepT g' w σ.view ⟨.loc σ.ls.length,[]⟩ (frzT x) v:=by
 have hk:Keeps (.loc σ.ls.length) g w (g.fr ⟨.loc σ.ls.length,[]⟩) w:=
  { fr_later g w _ with
    blk:=rfl,hd:=fun _ _=>rfl,ow:=fun q b hq ho=>fr_ow_other ho (fun hu=>hq hu.1.symm),row:=fun _ _ _ _=>rfl,owb:=fun _ _ h=>fr_bx h,rowb:=fun _ _ _=>rfl
    owt:=fun _ _ _ h=>fr_tmp h,rowt:=fun _ _ _ _=>rfl,lt:=fun h b hb=>h b (fr_some hb)}
 have hi:=h.keeps hk
 have leaf:∀ (q:Pl) (y:A) (u:Value),(⟨.loc σ.ls.length,[]⟩:Pl).under q->RepL g w σ.view q y u->RepL (g.fr ⟨.loc σ.ls.length,[]⟩) w σ.view q (frzL y) u:=by
  intro q y u hq r
  have light:∀ z,z=y->z.light=true->RepL (g.fr ⟨.loc σ.ls.length,[]⟩) w σ.view q z u:=by
   rintro z rfl hz;have r0:=r.replace h (p':=hand0) hz
   exact(r0.tr (keeps_tr h hk (by simp[hand0]) (refsL z) (appsL z)) (fun _ h=>h) (fun _ h=>h)).replace hi hz
  cases y
  case own z es=>
   simp only[RepL,RepC]at r;simp only[frzL,RepL,RepC];exact .imm _ _ _ (fr_rep r hq).toImm rfl
  case bld z es=>exact RepL.un r.one
  case agg cs=>exact r.noAgg.elim
  case tup cs=>exact r.noTup.elim
  all_goals exact light _ rfl rfl
 have agg:∀ (q:Pl) (y:A) (u:Value),(⟨.loc σ.ls.length,[]⟩:Pl).under q->RepA g w σ.view q y u->RepA (g.fr ⟨.loc σ.ls.length,[]⟩) w σ.view q (frzA y) u:=by
  intro q y u hq r
  have one:∀ z,z=y->(∀cs,z≠ .agg cs)->RepL g w σ.view q z u->RepA (g.fr ⟨.loc σ.ls.length,[]⟩) w σ.view q (frzL z) u:=fun z _ hz r=>
   (leaf q z u hq r).toA fun cs e=>by
    cases z<;>simp only[frzL]at e<;>first
     |exact hz _ rfl
     |cases e
  cases y
  case agg cs=>
   obtain⟨us,h1,h2,h3⟩:=r;refine⟨us,h1,by simp[h2],fun c x u hx hu=>?_⟩;rw[List.getElem?_map]at hx;cases hx0:cs[c]? with
   |none=>rw[hx0]at hx;cases hx
   | some x0=>
     rw[hx0]at hx;cases hx;exact leaf _ _ _ (Pl.under_at hq 0 c) (h3 c x0 u hx0 hu)
  all_goals exact one _ rfl (fun cs e=>by cases e) r
 refine⟨g.fr ⟨.loc σ.ls.length,[]⟩,hi,fr_later _ _ _,rfl,?_⟩
 have one:∀ z,z=x->(∀cs,z≠ .tup cs)->z≠ .top->z≠ .ud->RepA g w σ.view ⟨.loc σ.ls.length,[]⟩ z v->RepT (g.fr ⟨.loc σ.ls.length,[]⟩) w σ.view ⟨.loc σ.ls.length,[]⟩ (frzA z) v:=fun z _ hz h1 h2 r=>
  (agg _ z v (Pl.under_refl _) r).toT fun cs e=>by
   cases z<;>simp only[frzA,frzL]at e<;>first
    |exact hz _ rfl
    |cases e
 cases x
 case tup vs=>
  obtain⟨us,h1,h2,h3⟩:=hx;refine⟨us,h1,by simp[h2],fun j x u hx hu=>?_⟩;rw[List.getElem?_map]at hx;cases hx0:vs[j]? with
  |none=>rw[hx0]at hx;cases hx
  | some x0=>
    rw[hx0]at hx;cases hx;exact agg _ _ _ (Pl.under_at (Pl.under_refl _) j 0) (h3 j x0 u hx0 hu)
 case top=>trivial
 case ud=>exact hx
 all_goals exact one _ rfl (fun cs e=>by cases e) (by simp) (by simp) hx
end Go.Ab
end
section
namespace Go.Ab
open Go.RowKit
variable {w:World} {tv tl:Nat->Value}
theorem aop_of_pop{σ:St}{op:AOp}{x:A}(h:pop σ op=some x):aop σ op=some (x,σ):=by
 cases op<;>first
  |(simp only[aop,h];done)
  |(simp[pop]at h;done)
theorem goneB_nil(bx:List Bx):goneB bx []=bx:=rfl
theorem acallOp_quiet{E:Nat->Option AF}{n f:Nat}{ys:List A}{σ σ' τ:St}{x:A}(h:acallOp E n true f ys σ=some (x,σ'))(hy:ys.flatMap idsA=[])(hs:Sub σ τ):acallOp E n true f ys τ=some (x,τ):=by
 cases n with
 |zero=>simp[acallOp]at h
 | succ n=>
   have r0:∀ bx,reach bx 1000 [] []=[]:=fun bx=>by unfold reach;rfl
   simp only[acallOp,hy,r0,goneB_nil]at h ⊢
   split at h
   ·rename_i as σ1 b hg;obtain⟨rfl,hg'⟩:=hs.gives hg;have e1:({τ with bx:=τ.bx}:St)=τ:=rfl
    rw[hg'];simp only
    split at h
    ·rename_i r bx hc;simp only[List.length_nil,List.take_zero,List.drop_zero,List.map_nil,List.flatMap_nil,List.append_nil,Bool.true_and]at h hc ⊢
     rw[hc];simp only
     cases hm:(idsT (if b=true then untaint r else r)).any (fun i=>decide (0<=i))with
     |true=>rw[hm]at h;cases h
     | false=>
       rw[hm]at h;simp only[Bool.false_eq_true,if_false,backB,killBoxes,Oe,Prod.mk.injEq]at h ⊢
       exact⟨h.1,trivial⟩
    ·cases h
   ·cases h
theorem app_mono{σ τ:St}(hs:Sub σ τ){z bytes:Nat}{s d:Opd}(hk:Known σ τ [s,d]){x:A}{σ':St}(h:aop σ (.app z bytes s d)=some (x,σ'))(hr:∀ r,r∈appR x->(σ.vs++σ.ls).any (appOn r)=false->(τ.vs++τ.ls).any (appOn r)=false):
  aop τ (.app z bytes s d)=some (x,τ):=by
 simp only[aop]at h ⊢
 split at h
 ·rename_i a b ha hb;rw[hk s (by simp) _ ha,hk d (by simp) _ hb];simp only
  split at h
  ·rename_i c hc;rw[hs.newsA hc];simp only
   split at h
   ·rename_i hby;rw[if_pos hby];split at h
    ·split at h
     ·rename_i he;rw[if_pos he];simp only[Oe,Prod.mk.injEq]at h ⊢
      exact⟨h.1,trivial⟩
     ·rename_i he;rw[if_neg he];split at h
      ·rename_i hl;rw[if_pos hl];split at h
       ·rename_i hc1;rw[if_pos hc1];simp only[Oe,Prod.mk.injEq]at h ⊢
        exact⟨h.1,trivial⟩
       ·rename_i hc1;rw[if_neg hc1];simp only[Oe,Prod.mk.injEq]at h ⊢
        exact⟨h.1,trivial⟩
      ·cases h
    ·rename_i p;split at h
     ·rename_i z' es hrow;rw[hs.row hrow];simp only
      split at h
      ·rename_i hz;rw[if_pos hz];split at h
       ·rename_i hl;rw[if_pos hl];split at h
        ·cases h
        ·rename_i hno;simp only[Oe,Prod.mk.injEq]at h;rw[if_neg]
         ·simp only[Oe,Prod.mk.injEq];exact⟨h.1,trivial⟩
         ·rw[hr p.r (by rw[<-h.1];simp[appR,appRA,appRL]) (by simpa using hno)];simp
       ·cases h
      ·cases h
     ·cases h
    ·cases h
   ·cases h
  ·cases h
 ·cases h
def quietS(τ:St):Option Bx->St
 |none=>τ
 |some b=>{τ with bx:=τ.bx++[b]}
section
variable {P:Program} {E:Nat->Option AF}
theorem quiet_step(hE:FnOK P E){n:Nat}(hC:∀ m,m<n->CallOK P E m){c:TC}{o:Oper}{op:AOp}{g:G}{σ τ:St}{a:Act}{x:A}{nb:Option Bx}(cx:Cx P c o a.eval tv tl g τ w)(ht:c.op o.op=some op)
  (hq:aquiet E (n+1) op σ=some (x,nb)) (hs:Sub σ τ) (hk:Known σ τ op.opds) (hap:∀ r,r∈appR x->(σ.vs++σ.ls).any (appOn r)=false->(τ.vs++τ.ls).any (appOn r)=false) (hbx:nb≠none->σ.bx.length=τ.bx.length)
  {Q:Exit->Act->World->Prop} {K:Act->World->Prop}
  (hK:∀ v w' g',Inv g' (quietS τ nb) w' tv tl->Later g w g' w'->Same w w'->BX g τ g' (quietS τ nb)->RepT g' w' (quietS τ nb).view ⟨.loc τ.ls.length,[]⟩ x v->K (a.put o.dst v) w'):o.wp P a w K Q:=by
 have viaA:∀ τ',aop τ op=some (x,τ')->τ'=quietS τ nb->op.isCall=false->o.wp P a w K Q:=by
  rintro τ' h rfl hcl;have hls:(quietS τ nb).ls.length=τ.ls.length:=by cases nb<;>rfl
  refine op_sound hE (n:=1) (fun m hm=>?_) c o op g τ (quietS τ nb) w a tv tl x cx ht (by rw[ago_aop hcl];exact h) Q K fun v w' g' h1 h2 h3 h4 h5 h6=>hK v w' g' h1 h2 h3 h4 (by rw[<-hls];exact h6);intro f as bx r bx' hac;have:m=0:=by omega
  subst this;simp[acall]at hac
 have pops:(pop σ op=some x/\nb=none)->op.isCall=false->o.wp P a w K Q:=by
  rintro⟨h1,rfl⟩ h2;exact viaA τ (aop_of_pop (hs.pop hk h1)) rfl h2
 have plain:aquiet E (n+1) op σ=(match pop σ op with|some x=>some (x,none)|none=>none)->op.isCall=false->o.wp P a w K Q:=by
  intro e h2;rw[e]at hq;split at hq
  ·rename_i y hy;simp only[Oe,Prod.mk.injEq]at hq;obtain⟨rfl,rfl⟩:=hq;exact pops ⟨hy,rfl⟩ h2
  ·cases hq
 cases op with
 | call f args=>
   simp only[aquiet]at hq;split at hq
   ·rename_i ys hys;split at hq
    ·rename_i hid;split at hq
     ·rename_i y σ1 hac;simp only[Oe,Prod.mk.injEq]at hq;obtain⟨rfl,rfl⟩:=hq;have hac':=acallOp_quiet hac (by simpa using hid) hs
      obtain⟨cl,hop,hcl,hds⟩:=op_call_inv ht;obtain⟨m1,m2⟩:=rds_ok cx cl.args.toList args ys hds (Known.rds (by simpa[AOp.opds]using hk) hys);refine call_wp hE (n:=n) hC (us:=cl.args.map a.eval) cx.I (K:=K) ?_ hac' ?_ ?_ ?_
      ·intro v w' g' h1 h2 h3 h4 h5 h6;obtain⟨g2,k1,k2,k3,k4⟩:=frz_ok h1 h6;exact hK v w' g2 k1 (h2.trans k2) h3 (h4.trans (BX.same k3 rfl)) k4
      ·intro fn cc k1 k2 k3;have:=run_callFunc k1 k2 k3 (cl.args.map a.eval) w
       simp[execOp,hop,resolve,hcl,cx.L.f,Deferred.ofValue,invoke,this]
      ·rw[m1,Array.size_map];rfl
      ·intro i y u hy hu;rw[Array.getElem?_map]at hu;cases hxs:cl.args[i]? with
       |none=>rw[hxs]at hu;cases hu
       | some z=>
         rw[hxs]at hu;simp only[Option.map_some,Oe]at hu;subst hu;exact m2 i z y (by rw[Array.getElem?_toList];exact hxs) hy
     ·cases hq
    ·cases hq
   ·cases hq
 |callv y args=>simp[aquiet,pop]at hq
 | alloc z=>
   simp only[aquiet,Oe,Prod.mk.injEq]at hq;obtain⟨rfl,rfl⟩:=hq;have e:=hbx (by simp)
   exact viaA _ (by simp only[aop];rw[e];rfl) rfl rfl
 | app z bytes s d=>
   simp only[aquiet]at hq;split at hq
   ·rename_i y σ1 hy;simp only[Oe,Prod.mk.injEq]at hq;obtain⟨rfl,rfl⟩:=hq;exact viaA τ (app_mono hs hk hy hap) rfl rfl
   ·cases hq
 |_=>exact plain rfl rfl
end
end Go.Ab
end
section
namespace Go.Ab
open Go.RowKit
variable {w:World} {tv tl:Nat->Value}
theorem Inv.putN{g:G}{σ:St}(h:Inv g σ w tv tl){q:Pl}(hq:¬ noHand q){n:Nat}{x:A}{v:Value}(hx:RepT g w σ.view q x v)(h1:oneT x=true)(hf:locFree x=true):
  ∃g',Inv g' (σ.putN n x) w (upd tv n v) tl/\Later g w g' w/\g'.blk=g.blk:=by
 have hi:=h.kill ⟨.var n,[]⟩;have hv0:=(view_kill σ ⟨.var n,[]⟩).2
 refine⟨_,hi.fillVar hq (x:=killA ⟨.var n,[]⟩ x) ?_ (killA_one h1) (fun r hr=>hangs_var (refIn_kill hr)) (fun r hr=>hangs_var (killA_refs hr)),mv_later _ _ _ _,rfl⟩;rw[hv0];refine(hx.kill ⟨.var n,[]⟩).review rfl ?_ fun r _ _=> .inr rfl;intro r hr hok;have:=locFree_refs (locFree_kill hf) r hr
 unfold Vw.ok at hok ⊢
 split<;>rename_i e<;>simp only[e]at hok<;>first|exact absurd e (this _)|exact hok|trivial
theorem Inv.putW{g:G}{σ σ':St}(h:Inv g σ w tv tl){n:Nat}{x:A}{v:Value}{p:Pl}(hx:RepT g w σ.view p x v)(hl:lightT x=true)(hp:σ.putW n x=some σ'):
  ∃g',Inv g' σ' w (upd tv n v) tl/\Later g w g' w/\σ'.ls.length=σ.ls.length/\g'.blk=g.blk/\σ'.bx.length=σ.bx.length/\σ'.vs.length=σ.vs.length:=by
 simp only[St.putW]at hp;split at hp
 ·rename_i x1 σ1 ha;split at hp
  ·rename_i hf;simp only[Oe]at hp;subst hp;have hq:¬ noHand ⟨.hand 0,[]⟩:=fun h=>h 0 rfl
   obtain⟨g1,m,hx1,h1⟩:=whole_asg g σ x x1 σ1 p ⟨.hand 0,[]⟩ v h ha hl hx hq;obtain⟨g2,i2,l2,b2⟩:=m.inv.putN (n:=n) hq hx1 h1 hf;exact⟨g2,i2,m.toLater.trans l2,by simp[St.putN,St.kill,m.nl],by rw[b2,m.blk],by simp[St.putN,St.kill,m.nb],by simp[St.putN,St.kill,m.nv]⟩
  ·cases hp
 ·cases hp
theorem putW_light{σ σ':St}{n:Nat}{x:A}(h:σ.putW n x=some σ'):lightT x=true:=by
 simp only[St.putW]at h;split at h
 ·rename_i ha;exact asg_light ha
 ·cases h
structure DTr(c:TC)(ops:Array Oper)(D:List (List Nat))(l:List (AOper×Option Nat))(L:List (Option Nat)):Prop where
 len:l.length=ops.size
 ll:L.length=ops.size
 at_:∀ (i:Nat) o,ops[i]?=some o-> ∃oA v,l[i]?=some (oA,v)/\oA.op=(({c with locs:=L.take i}:TC).op o.op).getD .dies/\GuardTr {c with locs:=L.take i} o.guard oA.guard/\
  ((o.dst = none /\ oA.dst = .loc /\ L[i]? = some none /\ v = none) \/ ∃ t,o.dst = some t /\ t < c.nt /\ (L.take i).contains (some t) = false /\
    ((∃ n,c.vars.findIdx? (· == t) = some n /\ fullAt D i = true /\ oA.dst = .var n /\ L[i]? = some none /\ v = none) \/ (∃ n,c.vars.findIdx? (· == t) = some n /\ oA.dst = .loc /\ L[i]? = some (some t) /\ v = some n) \/
     (c.vars.findIdx? (· ==t)=none/\oA.dst= .loc/\L[i]?=some (some t)/\v=none)))
theorem regD_cons{c:TC}{D:List (List Nat)}{i:Nat}{o:Oper}{os:List Oper}{l:List (AOper×Option Nat)}(h:TC.regD c D i (o::os)=some l):
  ∃oA v lo rest,l=(oA,v)::rest/\oA.op=(c.op o.op).getD .dies/\GuardTr c o.guard oA.guard/\TC.regD {c with locs:=c.locs++[lo]} D (i+1) os=some rest/\
   ((o.dst = none /\ oA.dst = .loc /\ lo = none /\ v = none) \/ ∃ t,o.dst = some t /\ t < c.nt /\ c.locs.contains (some t) = false /\
     ((∃ n,c.vars.findIdx? (· == t) = some n /\ fullAt D i = true /\ oA.dst = .var n /\ lo = none /\ v = none) \/ (∃ n,c.vars.findIdx? (· == t) = some n /\ oA.dst = .loc /\ lo = some t /\ v = some n) \/
      (c.vars.findIdx? (· ==t)=none/\oA.dst= .loc/\lo=some t/\v=none))):=by
 have guard:∀ {α:Type} {f:Option (Opd × Bool) -> Option α} {r:α},(do
   let g:Option (Opd×Bool)<-match o.guard with
    |none=>some none
    | some (j,b)=>match c.locs[j]? with
      |some (some t)=>if c.locs.findIdx? (· ==some t)=some j then some (some (.l j,b))else none
      |_=>none
   f g)=some r-> ∃gA,GuardTr c o.guard gA/\f gA=some r:=by
  intro α f r h;cases hg:o.guard with
  |none=>rw[hg]at h;exact⟨none,.inl ⟨rfl,rfl⟩,h⟩
  | some jb=>
    obtain⟨j,b⟩:=jb;rw[hg]at h;simp only at h;split at h
    ·rename_i t ht;split at h
     ·rename_i hf;exact⟨some (.l j,b),.inr ⟨j,b,t,rfl,rfl,ht,hf⟩,h⟩
     ·cases h
    ·cases h
 have fin:∀ (d:Dst) (lo v:Option Nat),(do
   let g:Option (Opd×Bool)<-match o.guard with
    |none=>some none
    | some (j,b)=>match c.locs[j]? with
      |some (some t)=>if c.locs.findIdx? (· ==some t)=some j then some (some (.l j,b))else none
      |_=>none
   let rest<-TC.regD {c with locs:=c.locs++[lo]} D (i+1) os
   some ((⟨d,(c.op o.op).getD .dies,g⟩,v)::rest):Option (List (AOper×Option Nat)))=some l->
   ∃gA rest,l=(⟨d,(c.op o.op).getD .dies,gA⟩,v)::rest/\GuardTr c o.guard gA/\TC.regD {c with locs:=c.locs++[lo]} D (i+1) os=some rest:=by
  intro d lo v h;obtain⟨gA,g1,h⟩:=guard h;cases hr:TC.regD {c with locs:=c.locs++[lo]} D (i+1) os with
  |none=>simp[hr]at h
  | some rest=>
    simp[hr]at h;exact⟨gA,rest,h.symm,g1,rfl⟩
 simp only[TC.regD]at h;cases hd:o.dst with
 | none=>
   rw[hd]at h;obtain⟨gA,rest,h1,h2,h3⟩:=fin .loc none none h;exact⟨_,_,none,rest,h1,rfl,h2,h3,.inl ⟨rfl,rfl,rfl,rfl⟩⟩
 | some t=>
   rw[hd]at h;simp only at h;split at h
   ·rename_i ht;split at h
    ·cases h
    ·rename_i hc;have hc':c.locs.contains (some t)=false:=by simpa using hc
     cases hv:c.vars.findIdx? (· ==t)with
     | some n=>
       rw[hv]at h;simp only at h;split at h
       ·rename_i hf;obtain⟨gA,rest,h1,h2,h3⟩:=fin (.var n) none none h;exact⟨_,_,none,rest,h1,rfl,h2,h3,.inr ⟨t,rfl,ht,hc',.inl ⟨n,hv,hf,rfl,rfl,rfl⟩⟩⟩
       ·obtain⟨gA,rest,h1,h2,h3⟩:=fin .loc (some t) (some n) h;exact⟨_,_,some t,rest,h1,rfl,h2,h3,.inr ⟨t,rfl,ht,hc',.inr (.inl ⟨n,hv,rfl,rfl,rfl⟩)⟩⟩
     | none=>
       rw[hv]at h;obtain⟨gA,rest,h1,h2,h3⟩:=fin .loc (some t) none h;exact⟨_,_,some t,rest,h1,rfl,h2,h3,.inr ⟨t,rfl,ht,hc',.inr (.inr ⟨hv,rfl,rfl,rfl⟩)⟩⟩
   ·cases h
theorem regD_tr:∀ (os:List Oper) (c:TC) (D:List (List Nat)) (pre:List Oper) (l:List (AOper×Option Nat)),TC.regD c D pre.length os=some l->c.locs.length=pre.length->
  ∃L:List (Option Nat),L.take pre.length=c.locs/\L.length=pre.length+os.length/\l.length=os.length/\
   ∀(i:Nat) o,os[i]?=some o-> ∃oA v,l[i]?=some (oA,v)/\oA.op=(({c with locs:=L.take (pre.length+i)}:TC).op o.op).getD .dies/\GuardTr {c with locs:=L.take (pre.length+i)} o.guard oA.guard/\
    ((o.dst = none /\ oA.dst = .loc /\ L[pre.length + i]? = some none /\ v = none) \/ ∃ t,o.dst = some t /\ t < c.nt /\ (L.take (pre.length + i)).contains (some t) = false /\
      ((∃ n,c.vars.findIdx? (· == t) = some n /\ fullAt D (pre.length + i) = true /\ oA.dst = .var n /\ L[pre.length + i]? = some none /\ v = none) \/ (∃ n,c.vars.findIdx? (· == t) = some n /\ oA.dst = .loc /\ L[pre.length + i]? = some (some t) /\ v = some n) \/
       (c.vars.findIdx? (· ==t)=none/\oA.dst= .loc/\L[pre.length+i]?=some (some t)/\v=none)))
 | [],c,D,pre,l,h,hl=>by
   simp only[TC.regD,Oe]at h;subst h;exact⟨c.locs,by rw[<-hl];simp,by simp[hl],rfl,fun i o ho=>by simp at ho⟩
 | o::os,c,D,pre,l,h,hl=>by
   obtain⟨oA,v,lo,rest,rfl,h1,h2,h3,h4⟩:=regD_cons h;obtain⟨L,k1,k2,k3,k4⟩:=regD_tr os {c with locs:=c.locs++[lo]} D (pre++[o]) rest (by simpa using h3) (by simp[hl]);simp only[List.length_append,List.length_cons,List.length_nil,Nat.zero_add]at k1 k2 k4
   have t1:L.take pre.length=c.locs:=by
    have:=congrArg (List.take pre.length) k1;rw[List.take_take,Nat.min_eq_left (by omega)]at this;rw[this,List.take_append_of_le_length (by omega),List.take_of_length_le (by omega)]
   have t2:L[pre.length]?=some lo:=by
    have:(L.take (pre.length+1))[pre.length]?=(c.locs++[lo])[pre.length]?:=by rw[k1]
    rw[List.getElem?_take,if_pos (by omega),List.getElem?_append_right (by omega)]at this;rw[this,hl];simp
   refine⟨L,t1,by simp;omega,by simp[k3],fun i o' ho=>?_⟩;cases i with
   | zero=>
     simp only[List.getElem?_cons_zero,Oe]at ho;subst ho;refine⟨oA,v,rfl,?_,?_,?_⟩
     ·rw[Nat.add_zero,t1];exact h1
     ·rw[Nat.add_zero,t1];exact h2
     ·rw[Nat.add_zero,t1,t2];rcases h4 with⟨a1,a2,a3,a4⟩|⟨t,a1,a2,a3,a4⟩
      ·exact .inl ⟨a1,a2,by rw[a3],a4⟩
      ·refine .inr ⟨t,a1,a2,a3,?_⟩;rcases a4 with⟨n,b1,b2,b3,b4,b5⟩|⟨n,b1,b2,b3,b4⟩|⟨b1,b2,b3,b4⟩
       ·exact .inl ⟨n,b1,b2,b3,by rw[b4],b5⟩
       ·exact .inr (.inl ⟨n,b1,b2,by rw[b3],b4⟩)
       ·exact .inr (.inr ⟨b1,b2,by rw[b3],b4⟩)
   | succ i=>
     obtain⟨oA',v',e1,e2⟩:=k4 i o' (by simpa using ho);refine⟨oA',v',by simpa using e1,?_⟩;rw[show pre.length+(i+1)=pre.length+1+i by omega];exact e2
theorem regD_DTr{c:TC}{D:List (List Nat)}{ops:Array Oper}{l:List (AOper×Option Nat)}(h:TC.regD {c with locs:=[]} D 0 ops.toList=some l):∃ L,DTr c ops D l L:=by
 obtain⟨L,k1,k2,k3,k4⟩:=regD_tr ops.toList {c with locs:=[]} D [] l h rfl;simp only[List.length_nil,Nat.zero_add]at k2 k3 k4;refine⟨L,by simpa using k3,by simpa using k2,fun i o ho=>?_⟩;exact k4 i o (by rw[Array.getElem?_toList];exact ho)
def DStep(E:Nat->Option AF)(N:Nat)(l:List AOper)(lv:List (Option Nat))(D:List (List Nat))(i:Nat)(T T':St×List (Nat×Nat)):Prop:=∃ oA n,l[i]?=some oA/\n<N/\
 ((wantD T.1 oA.guard = some false /\ oA.dst = .loc /\ T' = ({ T.1 with ls:=T.1.ls.set i .ud },T.2)) \/
  (wantD T.1 oA.guard = some true /\ fullAt D i = true /\ ∃ x σ1,ago E n oA.op (T.1.maskV lv D i) = some (x,σ1) /\
    ((oA.dst = .loc /\ (σ1.ls.set i x).all (locsIn (· < i)) = true /\ T' = ({ σ1 with ls:=topFrom (i + 1) (σ1.ls.set i x) },T.2)) \/
     ∃v σ2,oA.dst= .var v/\σ1.putW v x=some σ2/\(σ2.ls.set i .top).all (locsIn (· <i))=true/\T'=({σ2 with ls:=topFrom (i+1) (σ2.ls.set i .top)},T.2)))\/
  (wantD T.1 oA.guard = some true /\ fullAt D i = false /\ seesOK lv D i oA.op = true /\ oA.dst = .loc /\ ∃ x nb,aquiet E n oA.op (T.1.mask lv D i T.2) = some (x,nb) /\ quietOK D i x T.1 = true /\
    ((nb=none/\T'=({T.1 with ls:=T.1.ls.set i x},T.2))\/ ∃b,nb=some b/\T.2.all (fun k=>(D.getD i []).contains k.1)=true/\T'=({T.1 with ls:=T.1.ls.set i x,bx:=T.1.bx++[b]},T.2++[(i,T.1.bx.length)]))))
theorem adraw_trace{E:Nat->Option AF}{l:List AOper}{lv:List (Option Nat)}{D:List (List Nat)}{N:Nat}:∀ (os:List AOper) (n i:Nat) (mk:List (Nat×Nat)) (σ σ':St),n<=N->os=l.drop i->adraw E n lv D i mk os σ=some σ'->
  ∃T:Nat->St×List (Nat×Nat),T i=(σ,mk)/\(T (i+os.length)).1=σ'/\ ∀j,i<=j->j<i+os.length->DStep E N l lv D j (T j) (T (j+1))
 | [],n,i,mk,σ,σ',hn,hos,h=>by
   cases n with
   |zero=>simp[adraw]at h
   | succ n=>
     simp only[adraw,Oe]at h;subst h;exact⟨fun _=>(σ,mk),rfl,rfl,fun j h1 h2=>by simp at h2;omega⟩
 | o::os,n,i,mk,σ,σ',hn,hos,h=>by
   cases n with
   |zero=>simp[adraw]at h
   | succ n=>
     have ho:l[i]?=some o:=by
      have:=congrArg (fun l=>l[0]?) hos;simp at this;exact this.symm
     have hdrop:os=l.drop (i+1):=by
      rw[<-List.drop_drop,<-hos];rfl
     have go:∀ (mk':List (Nat×Nat)) (τ:St),adraw E n lv D (i+1) mk' os τ=some σ'->DStep E N l lv D i (σ,mk) (τ,mk')->
       ∃T:Nat->St×List (Nat×Nat),T i=(σ,mk)/\(T (i+(o::os).length)).1=σ'/\ ∀j,i<=j->j<i+(o::os).length->DStep E N l lv D j (T j) (T (j+1)):=by
      intro mk' τ h1 h2;obtain⟨T,t1,t2,t3⟩:=adraw_trace (N:=N) os n (i+1) mk' τ σ' (by omega) hdrop h1;refine⟨fun j=>if j=i then(σ,mk)else T j,by simp,?_,fun j h3 h4=>?_⟩
      ·dsimp only
       rw[if_neg (by simp)];rw[show i+(o::os).length=i+1+os.length by simp;omega];exact t2
      ·by_cases hj:j=i
       ·subst hj;dsimp only
        rw[if_pos rfl,if_neg (by omega),t1];exact h2
       ·dsimp only
        rw[if_neg hj,if_neg (by omega)];exact t3 j (by omega) (by simp at h4;omega)
     simp only[adraw]at h;cases hw:wantD σ o.guard with
     |none=>rw[hw]at h;cases h
     | some b=>
       rw[hw]at h;cases b with
       | false=>
         simp only at h;split at h
         ·rename_i hd;exact go _ _ h ⟨o,n,ho,by omega,.inl ⟨hw,hd,rfl⟩⟩
         ·cases h
       | true=>
         simp only at h;split at h
         ·rename_i hf;split at h
          ·rename_i x σ1 hag;split at h
           ·rename_i hd;split at h
            ·rename_i hlc;exact go _ _ h ⟨o,n,ho,by omega,.inr (.inl ⟨hw,hf,x,σ1,hag,.inl ⟨hd,hlc,rfl⟩⟩)⟩
            ·cases h
           ·rename_i v hd;split at h
            ·rename_i σ2 hp;split at h
             ·rename_i hlc;exact go _ _ h ⟨o,n,ho,by omega,.inr (.inl ⟨hw,hf,x,σ1,hag,.inr ⟨v,σ2,hd,hp,hlc,rfl⟩⟩)⟩
             ·cases h
            ·cases h
          ·cases h
         ·rename_i hf;have hf':fullAt D i=false:=by simpa using hf
          split at h
          ·rename_i hs;simp only[Bool.and_eq_true,decide_eq_true_eq]at hs;split at h
           ·rename_i x hq;split at h
            ·rename_i hok;exact go _ _ h ⟨o,n,ho,by omega,.inr (.inr ⟨hw,hf',hs.1,hs.2,x,none,hq,hok,.inl ⟨rfl,rfl⟩⟩)⟩
            ·cases h
           ·rename_i x b hq;split at h
            ·rename_i hok;simp only[Bool.and_eq_true]at hok;exact go _ _ h ⟨o,n,ho,by omega,.inr (.inr ⟨hw,hf',hs.1,hs.2,x,some b,hq,hok.1,.inr ⟨b,rfl,hok.2,rfl⟩⟩)⟩
            ·cases h
           ·cases h
          ·cases h
end Go.Ab
end
section
namespace Go.Ab
open Go.RowKit
variable {w:World} {tv tl:Nat->Value}
theorem deps_go(f:List (List Nat)->Oper->List Nat):∀ (os:List Oper) (acc:List (List Nat)),
  (os.foldl (fun acc o=>acc++[f acc o]) acc).length=acc.length+os.length/\(os.foldl (fun acc o=>acc++[f acc o]) acc).take acc.length=acc/\
   ∀(i:Nat) o,os[i]?=some o-> ∃pre,(os.foldl (fun acc o=>acc++[f acc o]) acc)[acc.length+i]?=some (f pre o)/\pre=(os.foldl (fun acc o=>acc++[f acc o]) acc).take (acc.length+i)
 |[],acc=>by simp
 | o::os,acc=>by
   obtain⟨h1,h2,h3⟩:=deps_go f os (acc++[f acc o]);simp only[List.foldl_cons,List.length_append,List.length_cons,List.length_nil,Nat.zero_add]at h1 h2 h3 ⊢
   have t0:(os.foldl (fun acc o=>acc++[f acc o]) (acc++[f acc o])).take acc.length=acc:=by
    have:=congrArg (List.take acc.length) h2;rw[List.take_take,Nat.min_eq_left (by omega)]at this;rw[this,List.take_append_of_le_length (by omega),List.take_of_length_le (by omega)]
   refine⟨by omega,t0,fun i o' ho=>?_⟩;cases i with
   | zero=>
     simp only[List.getElem?_cons_zero,Oe]at ho;subst ho;refine⟨acc,?_,by rw[Nat.add_zero,t0]⟩;have:((os.foldl (fun acc o=>acc++[f acc o]) (acc++[f acc o])).take (acc.length+1))[acc.length]?=(acc++[f acc o])[acc.length]?:=by rw[h2]
     rw[List.getElem?_take,if_pos (by omega),List.getElem?_append_right (by omega)]at this;rw[Nat.add_zero,this];simp
   | succ i=>
     obtain⟨pre,e1,e2⟩:=h3 i o' (by simpa using ho);exact⟨pre,by rw[show acc.length+(i+1)=acc.length+1+i by omega];exact e1,by rw[show acc.length+(i+1)=acc.length+1+i by omega];exact e2⟩
structure Deps(ops:Array Oper)(D:List (List Nat)):Prop where
 len:D.length=ops.size
 lt:∀ i j,(D.getD i []).contains j=true->j<i
 edge:∀ (i:Nat) o (e:Edge),ops[i]?=some o->e∈o.after->Region.binds .any e=true->(D.getD i []).contains e.on=true
 trans:∀ i j k,(D.getD i []).contains j=true->(D.getD j []).contains k=true->(D.getD i []).contains k=true
 from_:∀ (i:Nat) o j,ops[i]?=some o->(D.getD i []).contains j=true-> ∃e∈o.after,Region.binds .any e=true/\(e.on=j\/(D.getD e.on []).contains j=true)
 guard:∀ (i:Nat) o j b,ops[i]?=some o->o.guard=some (j,b)->(D.getD i []).contains j=true
 nd:∀ (i j:Nat) o o' t,i≠j->ops[i]?=some o->ops[j]?=some o'->o.dst=some t->o'.dst≠some t
theorem nodupB_ok:∀ (l:List Nat),nodupB l=true->l.Nodup
 |[],_=>List.nodup_nil
 | x::xs,h=>by
   simp only[nodupB,Bool.and_eq_true,Bool.not_eq_true']at h;rw[List.nodup_cons];exact⟨by simpa using h.1,nodupB_ok xs h.2⟩
theorem filterMap_nd{α:Type}(f:α->Option Nat):∀ (l:List α),(l.filterMap f).Nodup-> ∀(i j:Nat) a b t,i<j->l[i]?=some a->l[j]?=some b->f a=some t->f b≠some t
 |[],_,i,j,a,b,t,_,h,_,_=>by simp at h
 | x::xs,h,i,j,a,b,t,hij,hi,hj,ha=>by
   cases j with
   |zero=>omega
   | succ j=>
     simp only[List.getElem?_cons_succ]at hj;cases i with
     | zero=>
       simp only[List.getElem?_cons_zero,Oe]at hi;subst hi;rw[List.filterMap_cons,ha]at h;simp only[List.nodup_cons,List.mem_filterMap,not_exists,not_and]at h;exact h.1 b (Mg hj)
     | succ i=>
       simp only[List.getElem?_cons_succ]at hi
       have h':(xs.filterMap f).Nodup:=by
        rw[List.filterMap_cons]at h;split at h
        ·exact h
        ·exact(List.nodup_cons.1 h).2
       exact filterMap_nd f xs h' i j a b t (by omega) hi hj ha
theorem deps_ok{ops:Array Oper}(h:depsOK ops.toList=true):Deps ops (depsOf ops.toList):=by
 simp only[depsOK,Bool.and_eq_true]at h;obtain⟨hnd,hall⟩:=h
 have hall':∀ (i:Nat) o,ops[i]?=some o->(∀e∈o.after,Region.binds .any e=true->e.on<i)/\(∀j b,o.guard=some (j,b)-> ∃e∈o.after,e.on=j/\Region.binds .any e=true):=by
  intro i o ho
  have hm:(o,i)∈ops.toList.zipIdx:=by
   rw[List.mem_zipIdx_iff_getElem?];simpa using ho
  have:=List.all_eq_true.1 hall (o,i) hm;simp only[Bool.and_eq_true]at this;obtain⟨h1,h2⟩:=this;refine⟨fun e he hb=>?_,fun j b hg=>?_⟩
  ·have:=Array.all_eq_true_iff_forall_mem.1 h1 e he;simpa[hb]using this
  ·rw[hg]at h2;simp only at h2;obtain⟨e,he,h3⟩:=Array.any_eq_true'.1 h2;simp only[Bool.and_eq_true,beq_iff_eq]at h3;exact⟨e,he,h3.1,h3.2⟩
 obtain⟨g1,_,g3⟩:=deps_go (fun acc o=>((o.after.toList.filter (Region.binds .any)).flatMap fun e=>e.on::acc.getD e.on []).eraseDups) ops.toList [];simp only[List.length_nil,Nat.zero_add]at g1 g3;change (depsOf ops.toList).length=_ at g1
 have at_:∀ (i:Nat) o,ops[i]?=some o-> ∀j,((depsOf ops.toList).getD i []).contains j=true↔ ∃e∈o.after,Region.binds .any e=true/\(e.on=j\/((depsOf ops.toList).getD e.on []).contains j=true):=by
  intro i o ho j;obtain⟨pre,e1,e2⟩:=g3 i o (by rw[Array.getElem?_toList];exact ho);change (depsOf ops.toList)[i]?=_ at e1;change pre=(depsOf ops.toList).take i at e2
  have hD:(depsOf ops.toList).getD i []=((o.after.toList.filter (Region.binds .any)).flatMap fun e=>e.on::pre.getD e.on []).eraseDups:=by
   rw[List.getD_eq_getElem?_getD,e1];rfl
  have hpre:∀ e∈o.after,Region.binds .any e=true->pre.getD e.on []=(depsOf ops.toList).getD e.on []:=by
   intro e he hb;have hlt:=(hall' i o ho).1 e he hb
   rw[List.getD_eq_getElem?_getD,List.getD_eq_getElem?_getD,e2,List.getElem?_take,if_pos hlt]
  rw[hD,List.contains_iff_mem,List.mem_eraseDups,List.mem_flatMap];constructor
  ·rintro⟨e,he,hj⟩;rw[List.mem_filter]at he;have he':e∈o.after:=Array.mem_toList_iff.1 he.1
   refine⟨e,he',he.2,?_⟩;rw[List.mem_cons]at hj;rcases hj with rfl|hj
   ·exact .inl rfl
   ·rw[hpre e he' he.2]at hj;exact .inr (by rw[List.contains_iff_mem];exact hj)
  ·rintro⟨e,he,hb,hj⟩;refine⟨e,by rw[List.mem_filter];exact⟨Array.mem_toList_iff.2 he,hb⟩,?_⟩;rw[List.mem_cons,hpre e he hb];rcases hj with rfl|hj
   ·exact .inl rfl
   ·exact .inr (by rw[List.contains_iff_mem]at hj;exact hj)
 have some_of:∀ i j,((depsOf ops.toList).getD i []).contains j=true-> ∃o,ops[i]?=some o:=by
  intro i j hj
  have:i<(depsOf ops.toList).length:=by
   rcases Nat.lt_or_ge i (depsOf ops.toList).length with h|h
   ·exact h
   ·rw[List.getD_eq_getElem?_getD,List.getElem?_eq_none h]at hj;simp at hj
  rw[g1]at this;exact⟨_,Array.getElem?_eq_getElem (by simpa using this)⟩
 have lt:∀ i j,((depsOf ops.toList).getD i []).contains j=true->j<i:=by
  intro i
  induction i using Nat.strongRecOn with
  | _ i ih=>
    intro j hj;obtain⟨o,ho⟩:=some_of i j hj;obtain⟨e,he,hb,h1⟩:=(at_ i o ho j).1 hj;have:=(hall' i o ho).1 e he hb
    rcases h1 with rfl|h1
    ·exact this
    ·have:=ih e.on this j h1;omega
 refine⟨by rw[g1];simp,lt,fun i o e ho he hb=>(at_ i o ho _).2 ⟨e,he,hb,.inl rfl⟩,?_,fun i o j ho hj=>(at_ i o ho j).1 hj,fun i o j b ho hg=>?_,?_⟩
 ·intro i
  induction i using Nat.strongRecOn with
  | _ i ih=>
    intro j k h1 h2;obtain⟨o,ho⟩:=some_of i j h1;obtain⟨e,he,hb,h3⟩:=(at_ i o ho j).1 h1;refine(at_ i o ho k).2 ⟨e,he,hb,.inr ?_⟩;rcases h3 with rfl|h3
    ·exact h2
    ·exact ih e.on ((hall' i o ho).1 e he hb) j k h3 h2
 ·obtain⟨e,he,h1,h2⟩:=(hall' i o ho).2 j b hg;exact(at_ i o ho j).2 ⟨e,he,h2,.inl h1⟩
 ·intro i j o o' t hij hi hj ht ht';have hn:=nodupB_ok _ hnd
  rcases Nat.lt_or_ge i j with h|h
  ·exact filterMap_nd (·.dst) _ hn i j o o' t h (by rw[Array.getElem?_toList];exact hi) (by rw[Array.getElem?_toList];exact hj) ht ht'
  ·exact filterMap_nd (·.dst) _ hn j i o' o t (by omega) (by rw[Array.getElem?_toList];exact hj) (by rw[Array.getElem?_toList];exact hi) ht' ht
theorem full_at{D:List (List Nat)}{i:Nat}(h:fullAt D i=true):(∀j,j<i->(D.getD i []).contains j=true)/\ ∀j,i<j->j<D.length->(D.getD j []).contains i=true:=by
 simp only[fullAt,Bool.and_eq_true,List.all_eq_true,List.mem_range]at h;refine⟨fun j hj=>h.1 j hj,fun j hj hl=>?_⟩;have:=h.2 j hl
 simp only[Bool.or_eq_true,decide_eq_true_eq]at this;rcases this with h1|h1
 ·omega
 ·exact h1
theorem maskF_get(S:Nat->Bool):∀ (xs:List A) (j0 j:Nat),(maskF S j0 xs)[j]?=(xs[j]?).map fun x=>if S (j0+j)then x else .top
 |[],_,_=>by simp[maskF]
 |x::xs,j0,0=>by simp[maskF]
 |x::xs,j0,j+1=>by simp only[maskF,List.getElem?_cons_succ];rw[maskF_get S xs];rw[show j0+1+j=j0+(j+1)by omega]
theorem maskF_len(S:Nat->Bool):∀ (xs:List A) (j0:Nat),(maskF S j0 xs).length=xs.length
 |[],_=>rfl
 |x::xs,j0=>by simp[maskF,maskF_len S xs]
theorem mem_setV{lv:List (Option Nat)}{S:Nat->Bool}{m:Nat}:(setV lv S).contains m=true↔ ∃k,S k=true/\lv[k]?=some (some m):=by
 simp only[setV,List.contains_iff_mem,List.mem_filterMap,List.mem_range];constructor
 ·rintro⟨k,hk,h⟩;split at h
  ·rename_i hs;split at h
   ·rename_i n hn;cases h;exact⟨k,hs,hn⟩
   ·cases h
  ·cases h
 ·rintro⟨k,hs,hk⟩;refine⟨k,(Ge hk).1,?_⟩;rw[if_pos hs,hk]
theorem clearV_congr{vs:List A}{a b:List Nat}(h:∀ m,a.contains m=b.contains m):clearV vs a=clearV vs b:=by
 apply List.ext_getElem?;intro m;rw[clearV_get,clearV_get,h m]
theorem clearV_clearV{vs:List A}{a b:List Nat}(h:∀ m,a.contains m=true->b.contains m=true):clearV (clearV vs a) b=clearV vs b:=by
 apply List.ext_getElem?;intro m;rw[clearV_get,clearV_get,clearV_get];cases hb:b.contains m with
 | true=>
   simp only[if_true];split
   ·cases vs[m]?<;>rfl
   ·rfl
 | false=>
   have:a.contains m=false:=by
    cases ha:a.contains m with
    |false=>rfl
    |true=>rw[h m ha]at hb;cases hb
   rw[this];rfl
def resS(τ:St)(lv:List (Option Nat))(S:Nat->Bool)(m:Nat):St:=⟨clearV τ.vs (setV lv S),maskF S 0 τ.ls,τ.bx.take m⟩
theorem lateB_le(d:List Nat):∀ (mk:List (Nat×Nat)) (m:Nat),lateB d mk m<=m/\ ∀k b,(k,b)∈mk->d.contains k=false->lateB d mk m<=b
 |[],m=>⟨Nat.le_refl _,fun k b h=>by cases h⟩
 | (k0,b0)::mk,m=>by
   simp only[lateB];obtain⟨h1,h2⟩:=lateB_le d mk (if d.contains k0=true then m else min m b0);refine⟨Nat.le_trans h1 (by split<;>omega),fun k b hm hc=>?_⟩;rw[List.mem_cons]at hm;rcases hm with hm|hm
   ·cases hm;refine Nat.le_trans h1 ?_;rw[hc];simp only[Bool.false_eq_true,if_false];omega
   ·exact h2 k b hm hc
theorem lateB_all(d:List Nat):∀ (mk:List (Nat×Nat)) (m:Nat),mk.all (fun k=>d.contains k.1)=true->lateB d mk m=m
 |[],m,_=>rfl
 | (k0,b0)::mk,m,h=>by
   simp only[List.all_cons,Bool.and_eq_true]at h;simp only[lateB];rw[if_pos h.1];exact lateB_all d mk m h.2
section
variable {E:Nat->Option AF} {N:Nat} {l:List AOper} {lv:List (Option Nat)} {D:List (List Nat)} {T:Nat->St×List (Nat×Nat)}
def made(T:Nat->St×List (Nat×Nat))(k:Nat):Prop:=(T (k+1)).2≠(T k).2
theorem quiet_of{i:Nat}(h:DStep E N l lv D i (T i) (T (i+1)))(hf:fullAt D i=false):
  ∃ x,(T (i + 1)).1.vs = (T i).1.vs /\ (T (i + 1)).1.ls = (T i).1.ls.set i x /\ ((¬ made T i /\ (T (i + 1)).1.bx = (T i).1.bx /\ (T (i + 1)).2 = (T i).2) \/
   ∃b,made T i/\(T (i+1)).1.bx=(T i).1.bx++[b]/\(T (i+1)).2=(T i).2++[(i,(T i).1.bx.length)]):=by
 obtain⟨oA,n,_,_,h⟩:=h;rcases h with⟨_,_,h⟩|⟨_,h,_⟩|⟨_,_,_,_,x,nb,_,_,h⟩
 ·rw[h];refine⟨.ud,rfl,rfl,.inl ⟨?_,rfl,rfl⟩⟩;unfold made;rw[h];simp
 ·rw[hf]at h;cases h
 ·rcases h with⟨_,h⟩|⟨b,_,_,h⟩
  ·rw[h];refine⟨x,rfl,rfl,.inl ⟨?_,rfl,rfl⟩⟩;unfold made;rw[h];simp
  ·rw[h];refine⟨x,rfl,rfl,.inr ⟨b,?_,rfl,rfl⟩⟩;unfold made;rw[h];simp
structure Stretch(T:Nat->St×List (Nat×Nat))(a j:Nat):Prop where
 vs:(T j).1.vs=(T a).1.vs
 len:(T j).1.ls.length=(T a).1.ls.length
 hi:∀ k,j<=k->(T j).1.ls[k]?=(T a).1.ls[k]?
 lo:∀ k,k<a->(T j).1.ls[k]?=(T a).1.ls[k]?
 bx:∃ r,(T j).1.bx=(T a).1.bx++r
 mk1:∀ k q,(k,q)∈(T j).2->(k,q)∈(T a).2\/(a<=k/\k<j/\made T k/\q=(T k).1.bx.length)
 mk2:∀ k,a<=k->k<j->made T k->(k,(T k).1.bx.length)∈(T j).2
 mk3:∀ q,(T a).1.bx.length<=q->q<(T j).1.bx.length-> ∃k,a<=k/\k<j/\made T k/\(T k).1.bx.length=q
theorem stretch{a:Nat}:∀ (d:Nat),(∀i,a<=i->i<a+d->DStep E N l lv D i (T i) (T (i+1))/\fullAt D i=false)->Stretch T a (a+d)
 |0,_=>⟨rfl,rfl,fun _ _=>rfl,fun _ _=>rfl,⟨[],by simp⟩,fun k q h=> .inl h,fun k h1 h2=>by omega,fun q h1 h2=>by simp at h2;omega⟩
 | d+1,h=>by
   have ih:=stretch d fun i h1 h2=>h i h1 (by omega);obtain⟨hd,hf⟩:=h (a+d) (by omega) (by omega);obtain⟨x,q1,q2,q3⟩:=quiet_of hd hf;rw[show a+(d+1)=a+d+1 by omega];obtain⟨r,hr⟩:=ih.bx;refine⟨q1.trans ih.vs,by rw[q2,List.length_set];exact ih.len,fun k hk=>?_,fun k hk=>?_,?_,fun k q hm=>?_,fun k h1 h2 hm=>?_,fun q h1 h2=>?_⟩
   ·rw[q2,List.getElem?_set_ne (by omega)];exact ih.hi k (by omega)
   ·rw[q2,List.getElem?_set_ne (by omega)];exact ih.lo k hk
   ·rcases q3 with⟨_,q3,_⟩|⟨b,_,q3,_⟩
    ·exact⟨r,by rw[q3,hr]⟩
    ·exact⟨r++[b],by rw[q3,hr,List.append_assoc]⟩
   ·have old:(k,q)∈(T (a+d)).2->(k,q)∈(T a).2\/(a<=k/\k<a+d+1/\made T k/\q=(T k).1.bx.length):=fun h=>(ih.mk1 k q h).imp id fun⟨h1,h2,h3⟩=>⟨h1,by omega,h3⟩;rcases q3 with⟨_,_,q3⟩|⟨b,hmd,_,q3⟩
    ·rw[q3]at hm;exact old hm
    ·rw[q3,List.mem_append,List.mem_singleton]at hm;rcases hm with hm|hm
     ·exact old hm
     ·cases hm;exact .inr ⟨by omega,by omega,hmd,rfl⟩
   ·by_cases e:k=a+d
    ·subst e;rcases q3 with⟨q3,_⟩|⟨b,_,_,q3⟩
     ·exact absurd hm q3
     ·rw[q3];simp
    ·have:=ih.mk2 k h1 (by omega) hm;rcases q3 with⟨_,_,q3⟩|⟨b,_,_,q3⟩
     ·rw[q3];exact this
     ·rw[q3];exact List.mem_append_left _ this
   ·rcases q3 with⟨_,q3,_⟩|⟨b,hmd,q3,_⟩
    ·rw[q3]at h2;obtain⟨k,k1,k2,k3⟩:=ih.mk3 q h1 h2;exact⟨k,k1,by omega,k3⟩
    ·rw[q3]at h2;simp only[List.length_append,List.length_cons,List.length_nil]at h2
     by_cases e:q<(T (a+d)).1.bx.length
     ·obtain⟨k,k1,k2,k3⟩:=ih.mk3 q h1 e;exact⟨k,k1,by omega,k3⟩
     ·exact⟨a+d,by omega,by omega,hmd,by omega⟩
theorem stretch_ls{a:Nat}{j j':Nat}(h1:a<=j)(h2:j<=j')(h:∀ i,a<=i->i<j'->DStep E N l lv D i (T i) (T (i+1))/\fullAt D i=false):Stretch T j j':=by
 have:=stretch (a:=j) (E:=E) (N:=N) (l:=l) (lv:=lv) (D:=D) (T:=T) (j'-j) fun i k1 k2=>h i (by omega) (by omega)
 rwa [show j+(j'-j)=j' by omega]at this
end
end Go.Ab
end
section
namespace Go.Ab
open Go.RowKit
variable {w:World} {tv tl:Nat->Value}
theorem Lk.take{c:TC}{L:List (Option Nat)}{ρ:Operand->Value}(h:Lk {c with locs:=L} ρ tv tl)(i:Nat):Lk {c with locs:=L.take i} ρ tv tl:=by
 refine⟨h.v,fun t k hk=>h.l t k ?_,h.k,h.f⟩
 have:(L.take i++L.drop i).findIdx? (· ==some t)=some k:=by
  rw[List.findIdx?_append];simp only at hk;rw[hk];rfl
 rwa [List.take_append_drop]at this
theorem yields_of{c:TC}{g:G}{σ:St}{a:Act}(hL:Lk c a.eval tv tl)(hI:Inv g σ w tv tl){ops:Array Oper}{j t:Nat}(hd:(ops[j]?).bind (·.dst)=some t)(hf:c.locs.findIdx? (· ==some t)=some j){x:A}(hx:σ.rd (.l j)=some x):
  (∀b,x= .v (.bool b)->yielded ops a.tmps j=some b)/\(x= .ud->yielded ops a.tmps j=none):=by
 have e:tl j=a.eval (.tmp t):=hL.l t j hf
 have he:∀ u,a.eval (.tmp t)=u->yielded ops a.tmps j=(match u with| .bool b=>some b|_=>none)\/(u=undef/\yielded ops a.tmps j=none):=by
  intro u hu;simp only[Act.eval]at hu;unfold yielded;rw[hd];cases ht:a.tmps[t]? with
  | none=>
    right;rw[Array.getD_eq_getD_getElem?,ht]at hu;exact⟨hu.symm,by simp[ht]⟩
  | some y=>
    left;rw[Array.getD_eq_getD_getElem?,ht]at hu;simp only[Option.getD_some]at hu;subst hu;simp[ht];cases y<;>rfl
 simp only[St.rd]at hx;cases hy:σ.ls[j]? with
 |none=>rw[hy]at hx;cases hx
 | some y=>
   rw[hy]at hx;simp only[Oe]at hx;have hr:=(rdA_ok (p:=⟨.loc j,[]⟩) (by simp[St.get,St.root,hy,getS]) (hI.locs j y hy) hand0).1
   rw[hx]at hr;constructor
   ·rintro b rfl;have:=repT_v hr
    rw[e]at this;rcases he _ this with h1|⟨h1,_⟩
    ·exact h1
    ·cases h1
   ·rintro rfl;have:tl j=undef:=hr
    rw[e]at this;rcases he _ this with h1|⟨_,h1⟩
    ·exact h1
    ·exact h1
def updD:Dst->Option Nat->(Nat->Value)->Value->Nat->Value
 | .var n,_,tv,v=>upd tv n v
 | .loc,some n,tv,v=>upd tv n v
 | .loc,none,tv,_=>tv
structure ActOK(c:TC)(a:Act):Prop where
 sz:a.tmps.size=c.nt
 df:a.defers=[]
theorem ActOK.put{c:TC}{a:Act}(h:ActOK c a)(d:Option Nat)(v:Value):ActOK c (a.put d v):=⟨by rw[put_size];exact h.sz,by rw[put_defers];exact h.df⟩
structure DC(P:Program)(E:Nat->Option AF)(N:Nat)(c:TC)(ops:Array Oper)(D:List (List Nat))(l:List (AOper×Option Nat))(L:List (Option Nat))(T:Nat->St×List (Nat×Nat)):Prop where
 hE:FnOK P E
 hC:∀ m,m<N->CallOK P E m
 hP:c.P=P
 tr:DTr c ops D l L
 dp:Deps ops D
 st:∀ j,j<ops.size->DStep E N (l.map (·.1)) (l.map (·.2)) D j (T j) (T (j+1))
structure SI(ops:Array Oper)(D:List (List Nat))(T:Nat->St×List (Nat×Nat))(S:Nat->Bool)(a0 b m:Nat):Prop where
 ab:a0<=b
 bn:b<=ops.size
 lo:∀ i,i<a0->S i=true
 hi:∀ i,b<=i->S i=false
 nf:∀ i,a0<=i->i<b->fullAt D i=false
 fb:b<ops.size->fullAt D b=true
 dn:∀ i,S i=true-> ∀j,(D.getD i []).contains j=true->S j=true
 ll:(T a0).1.ls.length=ops.size
 tp:∀ j,a0<=j->j<ops.size->(T a0).1.ls[j]?=some .top
 m0:(T a0).1.bx.length<=m
 mkd:∀ k,a0<=k->k<b->made T k->(S k=true↔(T k).1.bx.length<m)
 rf:∀ k x,S k=true->(T b).1.ls[k]?=some x->locsIn S x=true
theorem next_full(D:List (List Nat))(n:Nat):∀ (d a:Nat),a+d=n-> ∃b,a<=b/\b<=n/\(∀i,a<=i->i<b->fullAt D i=false)/\(b<n->fullAt D b=true)
 |0,a,h=>⟨a,Nat.le_refl _,by omega,fun i h1 h2=>by omega,fun h=>by omega⟩
 | d+1,a,h=>by
   cases hf:fullAt D a with
   |true=>exact⟨a,Nat.le_refl _,by omega,fun i h1 h2=>by omega,fun _=>hf⟩
   | false=>
     obtain⟨b,h1,h2,h3,h4⟩:=next_full D n d (a+1) (by omega);refine⟨b,by omega,h2,fun i k1 k2=>?_,h4⟩
     by_cases e:i=a
     ·subst e;exact hf
     ·exact h3 i (by omega) k2
theorem locsIn_mono{S S':Nat->Bool}(h:∀ j,S j=true->S' j=true){x:A}(hx:locsIn S x=true):locsIn S' x=true:=by
 simp only[locsIn,List.all_eq_true]at hx ⊢
 intro p hp;have:=hx p hp
 split<;>rename_i e
 ·rw[e]at this;exact h _ this
 ·rfl
theorem locsIn_ref{S:Nat->Bool}{x:A}(hx:locsIn S x=true){r:Pl}(hr:r∈refsT x){j:Nat}(hj:r.r= .loc j):S j=true:=by
 simp only[locsIn,List.all_eq_true]at hx;have:=hx r hr
 rw[hj]at this;exact this
theorem var_noLoc{g:G}{σ:St}(h:Inv g σ w tv tl){n:Nat}{x:A}(hx:σ.vs[n]?=some x){r:Pl}(hr:r∈refsT x)(k:Nat):r.r≠ .loc k:=by
 intro e;have:=repT_refs (h.vars n x hx) hr
 unfold Vw.ok at this;rw[e]at this;exact Nat.not_lt_zero _ this
section
variable {P:Program} {E:Nat->Option AF} {N:Nat} {c:TC} {ops:Array Oper} {D:List (List Nat)} {l:List (AOper×Option Nat)} {L:List (Option Nat)} {T:Nat->St×List (Nat×Nat)}
theorem DC.locs(dc:DC P E N c ops D l L T){k t:Nat}(h:L[k]?=some (some t)):(ops[k]?).bind (·.dst)=some t:=by
 have hk:k<ops.size:=by rw[<-dc.tr.ll];exact(Ge h).1
 have ho:ops[k]?=some ops[k]:=Array.getElem?_eq_getElem hk;obtain⟨oA,v,_,_,_,h4⟩:=dc.tr.at_ k _ ho;rw[ho];rcases h4 with⟨_,_,h4,_⟩|⟨t',h5,_,_,⟨_,_,_,_,h4,_⟩|⟨_,_,_,h4,_⟩|⟨_,_,h4,_⟩⟩
 ·rw[h]at h4;cases h4
 ·rw[h]at h4;cases h4
 ·rw[h]at h4;cases h4;exact h5
 ·rw[h]at h4;cases h4;exact h5
theorem DC.put(dc:DC P E N c ops D l L T){a:Act}(hL:Lk {c with locs:=L} a.eval tv tl)(hsz:a.tmps.size=c.nt){i:Nat}{o:Oper}(ho:ops[i]?=some o){oA:AOper}{lvv:Option Nat}(hoA:l[i]?=some (oA,lvv))(v:Value):
  Lk {c with locs:=L} (a.put o.dst v).eval (updD oA.dst lvv tv v) (upd tl i v):=by
 obtain⟨oA',v',h1,_,_,h4⟩:=dc.tr.at_ i o ho;rw[hoA]at h1;simp only[Oe,Prod.mk.injEq]at h1;obtain⟨rfl,rfl⟩:=h1;have noloc:∀ k t',L.findIdx? (· ==some t')=some k->k=i->L[i]?=some (some t'):=fun k t' h e=>by rw[<-e];exact findIdx_get h
 rcases h4 with⟨k1,k2,k3,k4⟩|⟨t,k1,k2,k3,k4⟩
 ·rw[k1,k2,k4];refine⟨hL.v,fun t' k hk=>?_,hL.k,hL.f⟩
  have hne:k≠i:=by
   rintro rfl;have:=noloc k t' hk rfl
   rw[k3]at this;cases this
  rw[upd_ne hne];exact hL.l t' k hk
 ·have ht:t<a.tmps.size:=by rw[hsz];exact k2
  rw[k1]
  have key:∀ (tv':Nat->Value),(∀t' n,c.vars.findIdx? (· ==t')=some n->tv' n=(a.put (some t) v).eval (.tmp t'))->Lk {c with locs:=L} (a.put (some t) v).eval tv' (upd tl i v):=by
   intro tv' hv;refine⟨hv,fun t' k hk=>?_,fun x=>hL.k x,fun n=>hL.f n⟩;have hLk:=findIdx_get hk
   have hd:=dc.locs hLk;cases hok:ops[k]? with
   |none=>rw[hok]at hd;cases hd
   | some ok=>
     rw[hok]at hd;simp only[Option.bind_some]at hd
     by_cases e:k=i
     ·subst e;rw[ho]at hok;cases hok;rw[k1]at hd;cases hd;rw[upd_self,eval_put_self ht]
     ·have hne:t'≠t:=by
       rintro rfl;exact dc.dp.nd i k o ok t' (fun e'=>e e'.symm) ho hok k1 hd
      rw[upd_ne e,eval_put_ne hne];exact hL.l t' k hk
  have withV:∀ n,c.vars.findIdx? (· ==t)=some n->Lk {c with locs:=L} (a.put (some t) v).eval (upd tv n v) (upd tl i v):=by
   intro n hn;refine key _ fun t' n' hn'=>?_
   by_cases e:t'=t
   ·subst e;rw[hn]at hn';cases hn';rw[upd_self,eval_put_self ht]
   ·have h1:=findIdx_get hn;have h2:=findIdx_get hn'
    have hne:n'≠n:=by
     rintro rfl;rw[h1]at h2;simp only[Oe]at h2;exact e h2.symm
    rw[eval_put_ne e,upd_ne hne];exact hL.v t' n' hn'
  rcases k4 with⟨n,b1,_,b3,b4,b5⟩|⟨n,b1,b2,b3,b4⟩|⟨b1,b2,b3,b4⟩
  ·rw[b3];exact withV n b1
  ·rw[b2,b4];exact withV n b1
  ·rw[b2,b4];refine key _ fun t' n' hn'=>?_
   have hne:t'≠t:=by
    rintro rfl;rw[b1]at hn';cases hn'
   rw[eval_put_ne hne];exact hL.v t' n' hn'
theorem SI.stretch(dc:DC P E N c ops D l L T){S:Nat->Bool}{a0 b m:Nat}(h:SI ops D T S a0 b m){j j':Nat}(h1:a0<=j)(h2:j<=j')(h3:j'<=b):Stretch T j j':=
 stretch_ls (E:=E) (N:=N) (l:=l.map (·.1)) (lv:=l.map (·.2)) (D:=D) h1 h2 fun i k1 k2=>⟨dc.st i (by have:=h.bn;omega),h.nf i k1 (by omega)⟩
theorem SI.keep(dc:DC P E N c ops D l L T){S:Nat->Bool}{a0 b m:Nat}(h:SI ops D T S a0 b m){j j' k:Nat}(h1:a0<=j)(h2:j<=j')(h3:j'<=b)(hk:k<j):(T j').1.ls[k]?=(T j).1.ls[k]?:=
 (h.stretch dc h1 h2 h3).lo k hk
theorem SI.open_(dc:DC P E N c ops D l L T){S:Nat->Bool}{a0 b m:Nat}(h:SI ops D T S a0 b m){j k:Nat}(h1:a0<=j)(h3:j<=b)(hk:j<=k)(hn:k<ops.size):(T j).1.ls[k]?=some .top:=by
 rw[(h.stretch dc (Nat.le_refl _) h1 h3).hi k hk];exact h.tp k (by omega) hn
theorem SI.len(dc:DC P E N c ops D l L T){S:Nat->Bool}{a0 b m:Nat}(h:SI ops D T S a0 b m){j:Nat}(h1:a0<=j)(h3:j<=b):(T j).1.ls.length=ops.size:=by
 rw[(h.stretch dc (Nat.le_refl _) h1 h3).len];exact h.ll
theorem SI.boxes(dc:DC P E N c ops D l L T){S:Nat->Bool}{a0 b m:Nat}(h:SI ops D T S a0 b m){j:Nat}(h1:a0<=j)(h3:j<=b)(hS:∀ k,a0<=k->k<j->made T k->S k=true):(T j).1.bx.length<=m:=by
 rcases Nat.lt_or_ge m (T j).1.bx.length with hlt|hge
 ·obtain⟨k,k1,k2,k3,k4⟩:=(h.stretch dc (Nat.le_refl _) h1 h3).mk3 m h.m0 hlt;have:=(h.mkd k k1 (by omega) k3).1 (hS k k1 k2 k3)
  omega
 ·exact hge
theorem SI.lv(dc:DC P E N c ops D l L T){i m:Nat}:(l.map (·.2))[i]?=some (some m)-> ∃oA,l[i]?=some (oA,some m):=by
 intro h;rw[List.getElem?_map]at h;cases hl:l[i]? with
 |none=>rw[hl]at h;cases h
 |some p=>rw[hl]at h;obtain⟨oA,v⟩:=p;cases h;exact⟨oA,rfl⟩
end
end Go.Ab
end
section
namespace Go.Ab
open Go.RowKit
variable {w:World} {tv tl:Nat->Value}
theorem maskF_id{S:Nat->Bool}{xs:List A}(h:∀ (j:Nat) x,xs[j]?=some x->S j=true\/x= .top):maskF S 0 xs=xs:=by
 apply List.ext_getElem?;intro j;rw[maskF_get,Nat.zero_add];cases hx:xs[j]? with
 |none=>rfl
 | some x=>
   simp only[Option.map_some,Oe];rcases h j x hx with h|rfl
   ·rw[if_pos h]
   ·split<;>rfl
section
variable {P:Program} {E:Nat->Option AF} {N:Nat} {c:TC} {ops:Array Oper} {D:List (List Nat)} {l:List (AOper×Option Nat)} {L:List (Option Nat)} {T:Nat->St×List (Nat×Nat)}
variable (dc:DC P E N c ops D l L T) {S:Nat->Bool} {a0 b m:Nat} (h:SI ops D T S a0 b m)
include dc h
theorem SI.resLen:(resS (T b).1 (l.map (·.2)) S m).ls.length=ops.size:=by
 simp only[resS,maskF_len];exact h.len dc h.ab (Nat.le_refl _)
theorem SI.sub{i:Nat}(h1:a0<=i)(h2:i<b)(hi:S i=false)(hD:∀ j,(D.getD i []).contains j=true->S j=true):Sub ((T i).1.mask (l.map (·.2)) D i (T i).2) (resS (T b).1 (l.map (·.2)) S m):=by
 have st:=h.stretch dc h1 (Nat.le_of_lt h2) (Nat.le_refl _);refine⟨fun n x hx=>?_,fun k x hx=>?_,fun k x hx=>?_⟩
 ·simp only[St.mask]at hx;simp only[resS];rw[clearV_get]at hx ⊢
  split at hx
  ·cases hy:(T i).1.vs[n]? with
   |none=>rw[hy]at hx;cases hx
   |some y=>rw[hy]at hx;cases hx;exact .inl rfl
  ·rename_i hc;right;rw[if_neg,st.vs]
   ·exact hx
   ·intro hc2;apply hc;obtain⟨k,k1,k2⟩:=mem_setV.1 hc2;refine mem_setV.2 ⟨k,?_,k2⟩;have hne:k≠i:=by rintro rfl;rw[k1]at hi;cases hi
    have hnd:(D.getD k []).contains i=false:=by
     cases hc3:(D.getD k []).contains i with
     |false=>rfl
     |true=>have:=h.dn k k1 i hc3;rw[hi]at this;cases this
    simp[hne,hnd];simpa using hnd
 ·simp only[St.mask]at hx;simp only[resS];rw[maskF_get,Nat.zero_add]at hx ⊢
  cases hy:(T i).1.ls[k]? with
  |none=>rw[hy]at hx;cases hx
  | some y=>
    rw[hy]at hx;simp only[Option.map_some,Oe]at hx
    by_cases hk:(D.getD i []).contains k=true
    ·rw[if_pos hk]at hx;subst hx;have hlt:=dc.dp.lt i k hk
     right;rw[st.lo k hlt,hy];simp only[Option.map_some,hD k hk,if_true]
    ·rw[if_neg hk]at hx;exact .inl hx.symm
 ·simp only[St.mask]at hx;simp only[resS];rw[List.getElem?_take]at hx ⊢
  split at hx
  ·rename_i hk;have hle:=lateB_le (D.getD i []) (T i).2 (T i).1.bx.length
   have hkm:k<m:=by
    rcases Nat.lt_or_ge k m with h|hge
    ·exact h
    ·exfalso;have hlt:=(Ge hx).1
     obtain⟨j,j1,j2,j3,j4⟩:=(h.stretch dc (Nat.le_refl _) h1 (Nat.le_of_lt h2)).mk3 m h.m0 (by omega);have hm:=(h.stretch dc (Nat.le_refl _) h1 (Nat.le_of_lt h2)).mk2 j j1 j2 j3
     cases hc:(D.getD i []).contains j with
     | true=>
       have:=(h.mkd j j1 (by omega) j3).1 (hD j hc);omega
     | false=>
       have:=hle.2 j _ hm hc;omega
   rw[if_pos hkm];obtain⟨r,hr⟩:=st.bx;rw[hr,List.getElem?_append_left (Ge hx).1];exact hx
  ·cases hx
theorem SI.known{i:Nat}(h1:a0<=i)(h2:i<b)(hi:S i=false)(hD:∀ j,(D.getD i []).contains j=true->S j=true){op:AOp}(hs:seesOK (l.map (·.2)) D i op=true):
  Known ((T i).1.mask (l.map (·.2)) D i (T i).2) (resS (T b).1 (l.map (·.2)) S m) op.opds:=by
 have sb:=h.sub dc h1 h2 hi hD;have st:=h.stretch dc h1 (Nat.le_of_lt h2) (Nat.le_refl _)
 intro d hd x hx;have:=List.all_eq_true.1 hs d hd
 simp only[Bool.and_eq_true]at this;obtain⟨s1,s2⟩:=this;cases d with
 |k a=>exact hx
 | l k=>
   have hk:(D.getD i []).contains k=true:=by simpa[opdL]using s1
   simp only[St.rd,St.mask,resS]at hx ⊢
   rw[maskF_get,Nat.zero_add]at hx ⊢
   rw[st.lo k (dc.dp.lt i k hk)];cases hy:(T i).1.ls[k]? with
   |none=>rw[hy]at hx;cases hx
   | some y=>
     rw[hy]at hx;simp only[Option.map_some,hk,hD k hk,if_true]at hx ⊢
     exact hx
 | t n=>
   have hn:(turnedV (l.map (·.2)) D i).contains n=false:=by simpa[opdV]using s2
   simp only[St.rd]at hx ⊢
   cases hy:((T i).1.mask (l.map (·.2)) D i (T i).2).vs[n]? with
   |none=>rw[hy]at hx;cases hx
   | some y=>
     rw[hy]at hx;have hv:=sb.v n y hy
     have:(resS (T b).1 (l.map (·.2)) S m).vs[n]?=some y:=by
      rcases hv with rfl|hv
      ·simp only[St.mask]at hy;simp only[resS];rw[clearV_get,hn]at hy;simp only[Bool.false_eq_true,if_false]at hy;rw[clearV_get];split
       ·rw[st.vs,hy];rfl
       ·rw[st.vs];exact hy
      ·exact hv
     rw[this];exact hx
theorem SI.full(hb:b<ops.size)(hS:∀ j,j<b->S j=true):(T b).1.maskV (l.map (·.2)) D b=resS (T b).1 (l.map (·.2)) S m:=by
 obtain⟨f1,f2⟩:=full_at (h.fb hb)
 have e1:clearV (T b).1.vs (turnedV (l.map (·.2)) D b)=clearV (T b).1.vs (setV (l.map (·.2)) S):=by
  refine clearV_congr fun n=>?_
  have:(turnedV (l.map (·.2)) D b).contains n=true↔(setV (l.map (·.2)) S).contains n=true:=by
   rw[turnedV,mem_setV,mem_setV];constructor
   ·rintro⟨k,k1,k2⟩;simp only[Bool.not_eq_true',Bool.or_eq_false_iff]at k1;refine⟨k,?_,k2⟩;rcases Nat.lt_trichotomy k b with hk|hk|hk
    ·exact hS k hk
    ·subst hk;simp at k1
    ·have hkl:k<D.length:=by
      have:=(Ge k2).1;rw[List.length_map,dc.tr.len]at this;rw[dc.dp.len];exact this
     have:=f2 k hk hkl;rw[k1.2]at this;cases this
   ·rintro⟨k,k1,k2⟩
    have hk:k<b:=by
     rcases Nat.lt_or_ge k b with hk|hk
     ·exact hk
     ·rw[h.hi k hk]at k1;cases k1
    refine⟨k,?_,k2⟩
    have hnd:(D.getD k []).contains b=false:=by
     cases hc:(D.getD k []).contains b with
     |false=>rfl
     |true=>have:=dc.dp.lt k b hc;omega
    have hne:(k==b)=false:=by simp;omega
    rw[hne,hnd];rfl
  cases h1:(turnedV (l.map (·.2)) D b).contains n<;>cases h2:(setV (l.map (·.2)) S).contains n<;>simp_all
 have e2:maskF S 0 (T b).1.ls=(T b).1.ls:=by
  refine maskF_id fun j x hx=>?_;rcases Nat.lt_or_ge j b with hj|hj
  ·exact .inl (hS j hj)
  ·right;have hn:j<ops.size:=by rw[<-h.len dc h.ab (Nat.le_refl _)];exact(Ge hx).1
   have:=h.open_ dc h.ab (Nat.le_refl _) hj hn;rw[hx]at this;exact Option.some.inj this
 have e3:(T b).1.bx.take m=(T b).1.bx:=List.take_of_length_le (h.boxes dc h.ab (Nat.le_refl _) fun k k1 k2 _=>hS k k2);simp only[St.maskV,resS,e1,e2,e3]
theorem SI.all(hS:∀ j,j<ops.size->S j=true):b=ops.size/\resS (T b).1 (l.map (·.2)) S m={(T ops.size).1 with vs:=clearV (T ops.size).1.vs (setV (l.map (·.2)) fun _=>true)}:=by
 have hb:b=ops.size:=by
  rcases Nat.lt_or_ge b ops.size with h1|h1
  ·have:=hS b h1;rw[h.hi b (Nat.le_refl _)]at this;cases this
  ·have:=h.bn;omega
 refine⟨hb,?_⟩
 have e1:clearV (T b).1.vs (setV (l.map (·.2)) S)=clearV (T b).1.vs (setV (l.map (·.2)) fun _=>true):=by
  refine clearV_congr fun n=>?_
  have:(setV (l.map (·.2)) S).contains n=true↔(setV (l.map (·.2)) fun _=>true).contains n=true:=by
   rw[mem_setV,mem_setV];constructor
   ·rintro⟨k,_,k2⟩;exact⟨k,rfl,k2⟩
   ·rintro⟨k,_,k2⟩;refine⟨k,hS k ?_,k2⟩;have:=(Ge k2).1
    rwa [List.length_map,dc.tr.len]at this
  cases h1:(setV (l.map (·.2)) S).contains n<;>cases h2:(setV (l.map (·.2)) fun _=>true).contains n<;>simp_all
 have e2:maskF S 0 (T b).1.ls=(T b).1.ls:=by
  refine maskF_id fun j x hx=> .inl (hS j ?_);rw[<-h.len dc h.ab (Nat.le_refl _)];exact(Ge hx).1
 have e3:(T b).1.bx.take m=(T b).1.bx:=List.take_of_length_le (h.boxes dc h.ab (Nat.le_refl _) fun k k1 k2 _=>hS k (by omega));rw[<-hb];simp only[resS,e1,e2,e3]
end
end Go.Ab
end
section
namespace Go.Ab
open Go.RowKit
variable {w:World} {tv tl:Nat->Value}
section
variable {P:Program} {E:Nat->Option AF} {N:Nat} {c:TC} {ops:Array Oper} {D:List (List Nat)} {l:List (AOper×Option Nat)} {L:List (Option Nat)} {T:Nat->St×List (Nat×Nat)}
variable (dc:DC P E N c ops D l L T) {S:Nat->Bool} {a0 b m:Nat} (h:SI ops D T S a0 b m)
include dc h
omit dc in
theorem SI.noRef{g:G}(hI:Inv g (resS (T b).1 (l.map (·.2)) S m) w tv tl){i:Nat}(hi:S i=false){r:Pl}(hr:RefIn (resS (T b).1 (l.map (·.2)) S m) r):r.r≠ .loc i:=by
 rcases hr with⟨n,x,hx,hr⟩|⟨k,x,hx,hr⟩
 ·exact var_noLoc hI hx hr i
 ·intro e;simp only[resS]at hx;rw[maskF_get,Nat.zero_add]at hx;cases hy:(T b).1.ls[k]? with
  |none=>rw[hy]at hx;cases hx
  | some y=>
    rw[hy]at hx;simp only[Option.map_some,Oe]at hx;cases hk:S k with
    |false=>rw[hk]at hx;simp only[Bool.false_eq_true,if_false]at hx;subst hx;simp[refsT,refsA,refsL]at hr
    | true=>
      rw[hk]at hx;simp only[if_true]at hx;subst hx;have:=locsIn_ref (h.rf k y hk hy) hr e
      rw[hi]at this;cases this
theorem SI.done{i:Nat}(h1:a0<=i)(h2:i<b)(hi:S i=false)(hD:∀ j,(D.getD i []).contains j=true->S j=true){o:Oper}(ho:ops[i]?=some o){oA:AOper}{lvv:Option Nat}(hoA:l[i]?=some (oA,lvv))(hdl:oA.dst= .loc)
  {g:G} {nb:Option Bx} (hI:Inv g (quietS (resS (T b).1 (l.map (·.2)) S m) nb) w tv tl) {a:Act} (hL:Lk {c with locs:=L} a.eval tv tl) (hsz:ActOK c a) {x:A} {v:Value}
  (hx:RepT g w (quietS (resS (T b).1 (l.map (·.2)) S m) nb).view ⟨.loc ops.size,[]⟩ x v) (hxl:locsIn ((D.getD i []).contains ·) x=true) (hT:(T (i+1)).1.ls=(T i).1.ls.set i x)
  (hB:(¬made T i/\nb=none)\/ ∃bb,nb=some bb/\made T i/\(T (i+1)).1.bx=(T i).1.bx++[bb])
  (href:∀ r,RefIn (resS (T b).1 (l.map (·.2)) S m) r->r.r≠ .loc i) {S':Nat->Bool} (hS':∀ j,S' j=(S j || decide (j=i))):
  ∃g' tv' tl' m',SI ops D T S' a0 b m'/\Inv g' (resS (T b).1 (l.map (·.2)) S' m') w tv' tl'/\Lk {c with locs:=L} (a.put o.dst v).eval tv' tl'/\Later g w g' w/\
   BX g (quietS (resS (T b).1 (l.map (·.2)) S m) nb) g' (resS (T b).1 (l.map (·.2)) S' m'):=by
 have hn:i<ops.size:=(Array.getElem?_eq_some_iff.1 ho).1;have hresl:=h.resLen dc
 have hql:(quietS (resS (T b).1 (l.map (·.2)) S m) nb).ls=(resS (T b).1 (l.map (·.2)) S m).ls:=by cases nb<;>rfl
 have hqv:(quietS (resS (T b).1 (l.map (·.2)) S m) nb).vs=(resS (T b).1 (l.map (·.2)) S m).vs:=by cases nb<;>rfl
 have hlen:(quietS (resS (T b).1 (l.map (·.2)) S m) nb).ls.length=ops.size:=by rw[hql];exact hresl
 have hSi:S' i=true:=by rw[hS'];simp
 have hSS:∀ j,S j=true->S' j=true:=fun j hj=>by rw[hS',hj];rfl
 -- into its place
 obtain ⟨g1,i1,l1,b1⟩:=hI.fillAt (i:=i) (by rw [hlen]; exact hn) (x:=x) (v:=v) (by rw [hlen]; exact hx) (fun r hr => href r (by
  rcases hr with⟨n,y,hy,hr⟩|⟨k,y,hy,hr⟩
  ·rw[hqv]at hy;exact .inl ⟨n,y,hy,hr⟩
  ·rw [hql] at hy; exact .inr ⟨k,y,hy,hr⟩)) (fun r hr e => by
   have:=hD _ (locsIn_ref hxl hr e)
   rw[hi]at this;cases this)
 have i2:=i1.clear (setV (l.map (·.2)) S')
 -- the box
 have stb:=h.stretch dc h1 (Nat.le_of_lt h2) (Nat.le_refl _)
 have hxT:(T b).1.ls[i]?=some x:=by
  rw[h.keep dc (j:=i+1) (by omega) (by omega) (Nat.le_refl _) (by omega),hT];exact List.getElem?_set_self (by rw[h.len dc h1 (Nat.le_of_lt h2)];exact hn)
 have stb1:=h.stretch dc (j:=i+1) (by omega) h2 (Nat.le_refl _)
 have hmle:∀ bb,nb=some bb->m=(T i).1.bx.length/\(T b).1.bx[m]?=some bb:=by
  rintro bb rfl;rcases hB with⟨_,e⟩|⟨bb',e,hm,hb⟩
  ·cases e
  ·cases e
   have hge:m<=(T i).1.bx.length:=by
    rcases Nat.lt_or_ge (T i).1.bx.length m with hlt|hge
    ·have:=(h.mkd i h1 h2 hm).2 hlt;rw[hi]at this;cases this
    ·exact hge
   have hle:(T i).1.bx.length<=m:=by
    refine h.boxes dc h1 (Nat.le_of_lt h2) fun k k1 k2 k3=>?_
    -- all boxes ahead of it have been made
    obtain⟨oA',n',q1,_,q⟩:=dc.st i hn;have hf:=h.nf i h1 h2
    rcases q with⟨_,_,q⟩|⟨_,q,_⟩|⟨_,_,_,_,y,nb',_,_,q⟩
    ·exfalso;apply hm;rw[q]
    ·rw[hf]at q;cases q
    ·rcases q with⟨_,q⟩|⟨_,_,q,_⟩
     ·exfalso;apply hm;rw[q]
     ·have:=(h.stretch dc (Nat.le_refl _) h1 (Nat.le_of_lt h2)).mk2 k k1 k2 k3;exact hD k (List.all_eq_true.1 q _ this)
   have e:m=(T i).1.bx.length:=by omega
   refine⟨e,?_⟩;obtain⟨r,hr⟩:=stb1.bx;rw[hr,hb,e];simp
 -- the new state
 have key:∃ m',m<=m'/\(quietS (resS (T b).1 (l.map (·.2)) S m) nb).bx=(T b).1.bx.take m'/\ ∀k,a0<=k->k<b->made T k->(S' k=true↔(T k).1.bx.length<m'):=by
  have other:∀ k,k≠i->S' k=S k:=fun k hk=>by rw[hS'];simp[hk]
  rcases hB with⟨hm,rfl⟩|⟨bb,rfl,hm,hb⟩
  ·refine⟨m,Nat.le_refl _,rfl,fun k k1 k2 k3=>?_⟩;have:k≠i:=by rintro rfl;exact hm k3
   rw[other k this];exact h.mkd k k1 k2 k3
  ·obtain⟨e1,e2⟩:=hmle bb rfl;refine⟨m+1,by omega,?_,fun k k1 k2 k3=>?_⟩
   ·simp only[quietS,resS];rw[List.take_add_one,e2];rfl
   ·by_cases e:k=i
    ·subst e;rw[hSi];simp;omega
    ·rw[other k e,h.mkd k k1 k2 k3]
     have hk1:(T (k+1)).1.bx.length=(T k).1.bx.length+1:=by
      obtain⟨y,_,_,q⟩:=quiet_of (dc.st k (by have:=h.bn;omega)) (h.nf k k1 k2);rcases q with⟨q,_⟩|⟨bb',_,q,_⟩
      ·exact absurd k3 q
      ·rw[q];simp
     rcases Nat.lt_or_ge k i with hlt|hge
     ·obtain⟨r,hr⟩:=(h.stretch dc (j:=k+1) (j':=i) (by omega) (by omega) (Nat.le_of_lt h2)).bx;have:=congrArg List.length hr
      simp at this;omega
     ·obtain⟨r,hr⟩:=(h.stretch dc (j:=i+1) (j':=k) (by omega) (by omega) (Nat.le_of_lt k2)).bx;have:=congrArg List.length hr
      rw[hb]at this;simp at this;omega
 obtain⟨m',hm',hbx,hmk⟩:=key
 have hstate:({({quietS (resS (T b).1 (l.map (·.2)) S m) nb with ls:=(quietS (resS (T b).1 (l.map (·.2)) S m) nb).ls.set i x}:St)with vs:=clearV (quietS (resS (T b).1 (l.map (·.2)) S m) nb).vs (setV (l.map (·.2)) S')}:St)=resS (T b).1 (l.map (·.2)) S' m':=by
  have e1:clearV (quietS (resS (T b).1 (l.map (·.2)) S m) nb).vs (setV (l.map (·.2)) S')=clearV (T b).1.vs (setV (l.map (·.2)) S'):=by
   rw[hqv];simp only[resS];refine clearV_clearV fun n hn=>?_;obtain⟨k,k1,k2⟩:=mem_setV.1 hn;exact mem_setV.2 ⟨k,hSS k k1,k2⟩
  have e2:(quietS (resS (T b).1 (l.map (·.2)) S m) nb).ls.set i x=maskF S' 0 (T b).1.ls:=by
   rw[hql];simp only[resS];apply List.ext_getElem?;intro j;rw[maskF_get,Nat.zero_add]
   by_cases e:j=i
   ·subst e;rw[List.getElem?_set_self (by rw[maskF_len,h.len dc h.ab (Nat.le_refl _)];exact hn),hxT];simp[hSi]
   ·rw[List.getElem?_set_ne (fun e'=>e e'.symm),maskF_get,Nat.zero_add,hS' j];simp[e]
  show(⟨clearV (quietS (resS (T b).1 (l.map (·.2)) S m) nb).vs (setV (l.map (·.2)) S'),(quietS (resS (T b).1 (l.map (·.2)) S m) nb).ls.set i x,(quietS (resS (T b).1 (l.map (·.2)) S m) nb).bx⟩:St)=_
  rw[e1,e2,hbx];rfl
 rw[hstate]at i2
 have si':SI ops D T S' a0 b m':=by
  refine{ab:=h.ab,bn:=h.bn,lo:=fun j hj=>hSS j (h.lo j hj),hi:=fun j hj=>?_,nf:=h.nf,fb:=h.fb,dn:=fun j hj k hk=>?_,ll:=h.ll,tp:=h.tp,m0:=Nat.le_trans h.m0 hm',mkd:=hmk,rf:=fun k y hk hy=>?_}
  ·rw[hS',h.hi j hj];simp;omega
  ·rw[hS']at hj
   by_cases e:j=i
   ·subst e;exact hSS k (hD k hk)
   ·exact hSS k (h.dn j (by simpa[e]using hj) k hk)
  ·by_cases e:k=i
   ·subst e;rw[hxT]at hy;cases hy;exact locsIn_mono (fun j hj=>hSS j (hD j hj)) hxl
   ·rw[hS']at hk;exact locsIn_mono hSS (h.rf k y (by simpa[e]using hk) hy)
 have hput:=dc.put hL hsz.sz ho hoA v;rw[hdl]at hput;refine⟨g1,_,_,m',si',?_,hput,l1,⟨?_,fun k _=>by rw[b1]⟩⟩
 ·cases hlv:lvv with
  |none=>exact i2
  | some n=>
    simp only[updD];refine i2.openV (fun y hy=>?_) v;simp only[resS]at hy;rw[clearV_get,if_pos]at hy
    ·cases hz:(T b).1.vs[n]? with
     |none=>rw[hz]at hy;cases hy
     |some z=>rw[hz]at hy;cases hy;rfl
    ·refine mem_setV.2 ⟨i,hSi,?_⟩;rw[List.getElem?_map,hoA,hlv];rfl
 ·rw[hbx];exact Nat.le_refl _
end
end Go.Ab
end
section
namespace Go.Ab
open Go.RowKit
variable {w:World} {tv tl:Nat->Value}
def unl(n:Nat)(listed:Array Bool):Nat:=((List.range n).filter fun i=>!listed.getD i true).length
theorem filter_one{p q:Nat->Bool}{i:Nat}:∀ (l:List Nat),l.Nodup->i∈l->p i=true->q i=false->(∀x,x≠i->q x=p x)->(l.filter q).length+1=(l.filter p).length
 |[],_,h,_,_,_=>by cases h
 | x::xs,hn,h,hp,hq,hx=>by
   rw[List.nodup_cons]at hn;simp only[List.filter_cons];rw[List.mem_cons]at h
   by_cases e:i=x
   ·subst e;have:xs.filter q=xs.filter p:=List.filter_congr fun y hy=>hx y (fun e=>hn.1 (by rw[<-e];exact hy))
    rw[hp,hq,this];simp
   ·have ih:=filter_one xs hn.2 (h.resolve_left e) hp hq hx;rw[hx x (fun e'=>e e'.symm)];split
    ·simp;omega
    ·exact ih
theorem unl_zero{n:Nat}{listed:Array Bool}(h:unl n listed=0)(i:Nat)(hi:i<n):listed.getD i true=true:=by
 unfold unl at h;have:=List.eq_nil_of_length_eq_zero h
 cases hc:listed.getD i true with
 |true=>rfl
 | false=>
   have hm:i∈(List.range n).filter fun i=>!listed.getD i true:=by rw[List.mem_filter,List.mem_range,hc];exact⟨hi,rfl⟩
   rw[this]at hm;cases hm
section
variable {P:Program} {E:Nat->Option AF} {N:Nat} {c:TC} {ops:Array Oper} {D:List (List Nat)} {l:List (AOper×Option Nat)} {L:List (Option Nat)} {T:Nat->St×List (Nat×Nat)}
theorem SI.next(dc:DC P E N c ops D l L T){b:Nat}(hb:b<ops.size){S':Nat->Bool}(hS':∀ j,S' j=true↔j<=b)(hll:(T (b+1)).1.ls.length=ops.size)(htp:∀ j,b+1<=j->j<ops.size->(T (b+1)).1.ls[j]?=some .top)
  (hrf:∀ (k:Nat) x,(T (b+1)).1.ls[k]?=some x->locsIn S' x=true) {g:G} {X:St} (hI:Inv g X w tv tl) (hXv:clearV X.vs (setV (l.map (·.2)) S')=clearV (T (b+1)).1.vs (setV (l.map (·.2)) S')) (hXl:X.ls=(T (b+1)).1.ls) (hXb:X.bx=(T (b+1)).1.bx):
  ∃b' m',SI ops D T S' (b+1) b' m'/\Inv g (resS (T b').1 (l.map (·.2)) S' m') w tv tl/\m'=X.bx.length/\(resS (T b').1 (l.map (·.2)) S' m').bx=X.bx:=by
 obtain⟨b',n1,n2,n3,n4⟩:=next_full D ops.size (ops.size-(b+1)) (b+1) (by omega);have st:=stretch_ls (E:=E) (N:=N) (l:=l.map (·.1)) (lv:=l.map (·.2)) (D:=D) (T:=T) (Nat.le_refl (b+1)) n1 fun i k1 k2=>⟨dc.st i (by omega),n3 i k1 k2⟩
 have hS'f:∀ j,¬j<=b->S' j=false:=fun j hj=>by
  cases hc:S' j with
  |false=>rfl
  |true=>exact absurd ((hS' j).1 hc) hj
 have hlsb:∀ (k:Nat) x,S' k=true->(T b').1.ls[k]?=some x->(T (b+1)).1.ls[k]?=some x:=fun k x hk hx=>by
  have:=(hS' k).1 hk;rw[<-st.lo k (by omega)];exact hx
 have si:SI ops D T S' (b+1) b' (T (b+1)).1.bx.length:=by
  refine{ab:=n1,bn:=n2,lo:=fun j hj=>(hS' j).2 (by omega),hi:=fun j hj=>hS'f j (by omega),nf:=n3,fb:=n4,dn:=fun j hj k hk=>(hS' k).2 ?_,ll:=hll,tp:=htp,m0:=Nat.le_refl _,mkd:=fun k k1 k2 k3=>?_,rf:=fun k x hk hx=>hrf k x (hlsb k x hk hx)}
  ·have:=(hS' j).1 hj;have:=dc.dp.lt j k hk
   omega
  ·rw[hS'f k (by omega)]
   have:(T (b+1)).1.bx.length<=(T k).1.bx.length:=by
    obtain⟨r,hr⟩:=(stretch_ls (E:=E) (N:=N) (l:=l.map (·.1)) (lv:=l.map (·.2)) (D:=D) (T:=T) (Nat.le_refl (b+1)) k1 fun i q1 q2=>⟨dc.st i (by omega),n3 i q1 (by omega)⟩).bx;rw[hr];simp
   simp;omega
 have hbx:(T b').1.bx.take (T (b+1)).1.bx.length=X.bx:=by
  obtain⟨r,hr⟩:=st.bx;rw[hr,hXb];simp
 have hres:resS (T b').1 (l.map (·.2)) S' (T (b+1)).1.bx.length={X with vs:=clearV X.vs (setV (l.map (·.2)) S')}:=by
  have e2:maskF S' 0 (T b').1.ls=X.ls:=by
   rw[hXl];apply List.ext_getElem?;intro j;rw[maskF_get,Nat.zero_add];rcases Nat.lt_or_ge b j with hj|hj
   ·rw[hS'f j (by omega)];cases hx:(T b').1.ls[j]? with
    | none=>
      have:=List.getElem?_eq_none_iff.1 hx;rw[List.getElem?_eq_none (by rw[<-st.len];exact this)];rfl
    | some y=>
      have hjn:j<ops.size:=by rw[<-hll,<-st.len];exact(Ge hx).1
      rw[htp j (by omega) hjn];rfl
   ·rw[st.lo j (by omega)];rw[(hS' j).2 hj];cases (T (b+1)).1.ls[j]?<;>rfl
  show(⟨clearV (T b').1.vs (setV (l.map (·.2)) S'),maskF S' 0 (T b').1.ls,(T b').1.bx.take (T (b+1)).1.bx.length⟩:St)=_
  rw[e2,hbx,st.vs,<-hXv]
 exact⟨b',_,si,by rw[hres];exact hI.clear _,by rw[hXb],by rw[hres]⟩
theorem DC.wanted(dc:DC P E N c ops D l L T){S:Nat->Bool}{a0 b m i:Nat}(h:SI ops D T S a0 b m)(h1:a0<=i)(h2:i<=b)(hD:∀ j,(D.getD i []).contains j=true->S j=true){o:Oper}(ho:ops[i]?=some o){oA:AOper}{lvv:Option Nat}(hoA:l[i]?=some (oA,lvv))
  {g:G} (hI:Inv g (resS (T b).1 (l.map (·.2)) S m) w tv tl) {a:Act} (hL:Lk {c with locs:=L} a.eval tv tl) {bb:Bool} (hw:wantD (T i).1 oA.guard=some bb):Region.wanted o (yielded ops a.tmps)=bb:=by
 obtain⟨oA',v',e1,_,hg,_⟩:=dc.tr.at_ i o ho;rw[hoA]at e1;simp only[Oe,Prod.mk.injEq]at e1;obtain⟨rfl,rfl⟩:=e1;rcases hg with⟨g1,g2⟩|⟨j,b',t,g1,g2,g3,g4⟩
 ·rw[g2]at hw;simp only[wantD,Oe]at hw;simp[Region.wanted,g1,hw]
 ·have hj:=dc.dp.guard i o j b' ho g1;have hji:=dc.dp.lt i j hj
  have g3':L[j]?=some (some t):=by
   simp only at g3;rw[List.getElem?_take,if_pos hji]at g3;exact g3
  have g4':L.findIdx? (· ==some t)=some j:=by
   have:(L.take i++L.drop i).findIdx? (· ==some t)=some j:=by
    rw[List.findIdx?_append];simp only at g4;rw[g4];rfl
   rwa [List.take_append_drop]at this
  have hrd:(resS (T b).1 (l.map (·.2)) S m).rd (.l j)=(T i).1.rd (.l j):=by
   simp only[St.rd,resS];rw[maskF_get,Nat.zero_add,h.keep dc h1 h2 (Nat.le_refl _) hji];cases (T i).1.ls[j]? with
   |none=>rfl
   |some y=>simp only[Option.map_some,hD j hj,if_true]
  rw[g2]at hw;simp only[wantD]at hw;split at hw
  ·rename_i b0 hx;rw[<-hrd]at hx;have:=(yields_of hL hI (dc.locs g3') g4' hx).1 b0 rfl
   simp only[Oe]at hw;simp[Region.wanted,g1,this,hw]
  ·rename_i hx;rw[<-hrd]at hx;have:=(yields_of hL hI (dc.locs g3') g4' hx).2 rfl
   simp only[Oe]at hw;subst hw;simp[Region.wanted,g1,this]
  ·cases hw
theorem DC.cx(dc:DC P E N c ops D l L T){i:Nat}{o:Oper}(ho:ops[i]?=some o){oA:AOper}{lvv:Option Nat}(hoA:l[i]?=some (oA,lvv))(hne:oA.op≠ .dies){g:G}{σ:St}(hI:Inv g σ w tv tl){a:Act}(hL:Lk {c with locs:=L} a.eval tv tl):
  Cx P {c with locs:=L.take i} o a.eval tv tl g σ w/\({c with locs:=L.take i}:TC).op o.op=some oA.op:=by
 obtain⟨oA',v',e1,e2,_,_⟩:=dc.tr.at_ i o ho;rw[hoA]at e1;simp only[Oe,Prod.mk.injEq]at e1;obtain⟨rfl,rfl⟩:=e1;refine⟨⟨hL.take i,hI,dc.hP⟩,?_⟩;cases hop:({c with locs:=L.take i}:TC).op o.op with
 |some op=>rw[hop]at e2;simp only[Option.getD_some]at e2;rw[e2]
 |none=>rw[hop]at e2;exact absurd e2 hne
theorem appOn_R(r:Rt)(y:A):appOn r y=(appR y).any fun s=>s.same r:=by
 have hL:∀ z,appOnL r z=(appRL z).any fun s=>s.same r:=by
  intro z;cases z<;>simp[appOnL,appRL]
 have hA:∀ z,(match z with| .agg cs=>cs.any (appOnL r)|x=>appOnL r x)=(appRA z).any fun s=>s.same r:=by
  intro z;cases z
  case agg cs=>
   simp only[appRA,List.any_flatMap];congr 1
   funext z
   exact hL z
  all_goals exact hL _
 have key:∀ z,z=y->(match z with| .agg cs=>cs.any (appOnL r)|x=>appOnL r x)=(appRA z).any fun s=>s.same r:=fun z _=>hA z;cases y
 case tup vs=>
  simp only[appOn,appR,List.any_flatMap];congr 1
  funext z
  exact hA z
 all_goals exact key _ rfl
theorem same_symm(a b:Rt):a.same b=b.same a:=by
 cases a<;>cases b<;>simp only[Rt.same]<;>first
  |exact Bool.beq_comm
  |(rw[Bool.beq_comm];congr 1;exact Bool.beq_comm)
theorem apartR_on{x y:A}(h:apartR x y=true){r:Rt}(hr:r∈appR x):appOn r y=false:=by
 rw[appOn_R];simp only[apartR,List.all_eq_true,Bool.not_eq_true']at h;rw[List.any_eq_false];intro s hs;rw[same_symm,h r hr s hs];simp
theorem apartR_on'{x y:A}(h:apartR y x=true){r:Rt}(hr:r∈appR x):appOn r y=false:=by
 rw[appOn_R];simp only[apartR,List.all_eq_true,Bool.not_eq_true']at h;rw[List.any_eq_false];intro s hs;rw[h s hs r hr];simp
theorem apartAll_get(d:List Nat)(x:A):∀ (ys:List A) (j0 j:Nat) y,apartAll d x j0 ys=true->ys[j]?=some y->d.contains (j0+j)=true\/apartR x y=true
 |[],_,_,_,_,h=>by simp at h
 | z::zs,j0,0,y,h,hy=>by
   simp only[List.getElem?_cons_zero,Oe]at hy;subst hy;simp only[apartAll,Bool.and_eq_true,Bool.or_eq_true]at h;exact h.1
 | z::zs,j0,j+1,y,h,hy=>by
   simp only[apartAll,Bool.and_eq_true]at h;rw[show j0+(j+1)=j0+1+j by omega];exact apartAll_get d x zs (j0+1) j y h.2 (by simpa using hy)
theorem quiet_facts{i:Nat}{oA:AOper}(h:DStep E N (l.map (·.1)) (l.map (·.2)) D i (T i) (T (i+1)))(hoA:(l.map (·.1))[i]?=some oA)(hf:fullAt D i=false):
  (wantD (T i).1 oA.guard=some false/\oA.dst= .loc/\T (i+1)=({(T i).1 with ls:=(T i).1.ls.set i .ud},(T i).2))\/
  (wantD (T i).1 oA.guard = some true /\ seesOK (l.map (·.2)) D i oA.op = true /\ oA.dst = .loc /\ ∃ n x nb,n < N /\ aquiet E n oA.op ((T i).1.mask (l.map (·.2)) D i (T i).2) = some (x,nb) /\ quietOK D i x (T i).1 = true /\
   ((nb=none/\T (i+1)=({(T i).1 with ls:=(T i).1.ls.set i x},(T i).2))\/ ∃b,nb=some b/\(T i).2.all (fun k=>(D.getD i []).contains k.1)=true/\T (i+1)=({(T i).1 with ls:=(T i).1.ls.set i x,bx:=(T i).1.bx++[b]},(T i).2++[(i,(T i).1.bx.length)]))):=by
 obtain⟨oA',n,e1,e2,h⟩:=h;rw[hoA]at e1;cases e1;rcases h with h|⟨_,h,_⟩|⟨h1,_,h2,h3,x,nb,h4⟩
 ·exact .inl h
 ·rw[hf]at h;cases h
 ·exact .inr ⟨h1,h2,h3,n,x,nb,e2,h4⟩
end
end Go.Ab
end
section
namespace Go.Ab
open Go.RowKit
variable {w:World} {tv tl:Nat->Value}
theorem Inv.openL{g:G}{σ:St}(h:Inv g σ w tv tl){n:Nat}(hn:∀ x,σ.ls[n]?=some x->x= .top)(v:Value):Inv g σ w tv (upd tl n v):=by
 refine⟨h.vars,fun m x hx=>?_,h.boxes,h.lt⟩
 by_cases e:m=n
 ·subst e;have:=hn x hx
  subst this;trivial
 ·rw[upd_ne e];exact h.locs m x hx
section
variable {P:Program} {E:Nat->Option AF} {N:Nat} {c:TC} {ops:Array Oper} {D:List (List Nat)} {l:List (AOper×Option Nat)} {L:List (Option Nat)} {T:Nat->St×List (Nat×Nat)}
def DK(c:TC)(ops:Array Oper)(D:List (List Nat))(l:List (AOper×Option Nat))(L:List (Option Nat))(T:Nat->St×List (Nat×Nat))(g:G)(w:World)(σ:St)(S':Nat->Bool)(K:Act->World->Prop):Prop:=
 ∀a0' b' m' g' w' a' tv' tl',SI ops D T S' a0' b' m'->Inv g' (resS (T b').1 (l.map (·.2)) S' m') w' tv' tl'->Lk {c with locs:=L} a'.eval tv' tl'->ActOK c a'->
  Later g w g' w'->Same w w'->BX g σ g' (resS (T b').1 (l.map (·.2)) S' m')->K a' w'
theorem step_quiet(dc:DC P E N c ops D l L T){S:Nat->Bool}{a0 b m:Nat}(h:SI ops D T S a0 b m){i:Nat}(h1:a0<=i)(h2:i<b)(hi:S i=false)(hD:∀ j,(D.getD i []).contains j=true->S j=true){o:Oper}(ho:ops[i]?=some o)
  {g:G} (hI:Inv g (resS (T b).1 (l.map (·.2)) S m) w tv tl) {a:Act} (hL:Lk {c with locs:=L} a.eval tv tl) (hsz:ActOK c a) {S':Nat->Bool} (hS':∀ j,S' j=(S j || decide (j=i)))
  {Q:Exit->Act->World->Prop} {K:Act->World->Prop} (hK:DK c ops D l L T g w (resS (T b).1 (l.map (·.2)) S m) S' K):wpOp P ops Q i K a w:=by
 have hn:i<ops.size:=(Array.getElem?_eq_some_iff.1 ho).1;obtain⟨oA,lvv,hoA,_,_,_⟩:=dc.tr.at_ i o ho;have hoA1:(l.map (·.1))[i]?=some oA:=by rw[List.getElem?_map,hoA];rfl
 have hf:=h.nf i h1 h2;have hresl:=h.resLen dc
 unfold wpOp;simp only[ho];rcases quiet_facts (dc.st i hn) hoA1 hf with⟨q1,q2,q3⟩|⟨q1,q2,q3,n,x,nb,q4,q5,q6,q7⟩
 ·rw[dc.wanted h h1 (Nat.le_of_lt h2) hD ho hoA hI hL q1];simp only[Bool.false_eq_true,if_false];obtain⟨g',tv',tl',m',r1,r2,r3,r4,r5⟩:=h.done dc h1 h2 hi hD ho hoA q2 (nb:=none) hI hL hsz (x:=.ud) (v:=undef) rfl rfl (by rw[q3]) (.inl ⟨by unfold made;rw[q3];simp,rfl⟩) (fun r hr=>h.noRef hI hi hr) hS';exact hK a0 b m' g' w _ tv' tl' r1 r2 r3 (hsz.put _ _) r4 (Same.refl w) r5
 ·rw[dc.wanted h h1 (Nat.le_of_lt h2) hD ho hoA hI hL q1];simp only[if_true];left;cases n with
  |zero=>simp[aquiet]at q5
  | succ n=>
    have hdies:oA.op≠ .dies:=by
     intro e;rw[e]at q5;simp[aquiet,pop]at q5
    obtain⟨cx,hop⟩:=dc.cx ho hoA hdies hI hL;simp only[quietOK,Bool.and_eq_true]at q6;obtain⟨⟨k1,k2⟩,k3⟩:=q6;have st:=h.stretch dc h1 (Nat.le_of_lt h2) (Nat.le_refl _)
    have hTls:(T (i+1)).1.ls=(T i).1.ls.set i x:=by rcases q7 with⟨_,q7⟩|⟨_,_,_,q7⟩<;>rw[q7]
    have hilen:i<(T i).1.ls.length:=by rw[h.len dc h1 (Nat.le_of_lt h2)];exact hn
    refine quiet_step dc.hE (n:=n) (fun m hm=>dc.hC m (by omega)) cx hop q5 (h.sub dc h1 h2 hi hD) (h.known dc h1 h2 hi hD q2) ?_ ?_ ?_
    ·-- appends
     intro r hr hno;rw[List.any_eq_false];intro y hy;have topN:appOn r .top=false:=by simp[appOn,appOnL]
     rw[Bool.not_eq_true];rw[List.mem_append]at hy;rcases hy with hy|hy
     ·obtain⟨k,hk⟩:=List.mem_iff_getElem?.1 hy;simp only[resS]at hk;rw[clearV_get]at hk;split at hk
      ·cases hz:(T b).1.vs[k]? with
       |none=>rw[hz]at hk;cases hk
       |some z=>rw[hz]at hk;cases hk;exact topN
      ·rw[st.vs]at hk;exact apartR_on (List.all_eq_true.1 k3 y (Mg hk)) hr
     ·obtain⟨k,hk⟩:=List.mem_iff_getElem?.1 hy;simp only[resS]at hk;rw[maskF_get,Nat.zero_add]at hk;cases hz:(T b).1.ls[k]? with
      |none=>rw[hz]at hk;cases hk
      | some z=>
        rw[hz]at hk;simp only[Option.map_some,Oe]at hk;cases hSk:S k with
        |false=>rw[hSk]at hk;simp only[Bool.false_eq_true,if_false]at hk;subst hk;exact topN
        | true=>
          rw[hSk]at hk;simp only[if_true]at hk;subst hk;rcases Nat.lt_trichotomy k i with hlt|heq|hgt
          ·-- ahead of it in the region's own order
           rw[st.lo k hlt]at hz;rcases apartAll_get _ _ _ 0 k z k2 (by rw[List.getElem?_take,if_pos hlt];exact hz)with hc|hap
           ·rw[Nat.zero_add]at hc
            have hm:z∈((T i).1.mask (l.map (·.2)) D i (T i).2).vs++((T i).1.mask (l.map (·.2)) D i (T i).2).ls:=by
             refine List.mem_append_right _ (Mg (i:=k) ?_);simp only[St.mask];rw[maskF_get,Nat.zero_add,hz];simp only[Option.map_some,hc,if_true]
            have:=List.any_eq_false.1 hno z hm;simpa using this
           ·exact apartR_on hap hr
          ·subst heq;rw[hi]at hSk;cases hSk
          ·-- behind it
           have hkb:k<b:=by
            rcases Nat.lt_or_ge k b with hk|hk
            ·exact hk
            ·rw[h.hi k hk]at hSk;cases hSk
           have hkn:k<ops.size:=by have:=h.bn;omega
           have hko:ops[k]?=some ops[k]:=Array.getElem?_eq_getElem hkn;obtain⟨oK,lvK,hoK,_,_,_⟩:=dc.tr.at_ k _ hko;have hoK1:(l.map (·.1))[k]?=some oK:=by rw[List.getElem?_map,hoK];rfl
           have hzk:∀ y,(T (k+1)).1.ls=(T k).1.ls.set k y->z=y:=by
            intro y hy
            have:(T b).1.ls[k]?=some y:=by
             rw[h.keep dc (j:=k+1) (by omega) (by omega) (Nat.le_refl _) (by omega),hy];exact List.getElem?_set_self (by rw[h.len dc (by omega) (Nat.le_of_lt hkb)];exact hkn)
            rw[hz]at this;exact Option.some.inj this
           rcases quiet_facts (dc.st k hkn) hoK1 (h.nf k (by omega) hkb)with⟨_,_,p3⟩|⟨_,_,_,_,y,_,_,_,p6,p7⟩
           ·have:=hzk .ud (by rw[p3]);subst this;simp[appOn,appOnL]
           ·have e:=hzk y (by rcases p7 with⟨_,p7⟩|⟨_,_,_,p7⟩<;>rw[p7]);subst e;simp only[quietOK,Bool.and_eq_true]at p6
            have hxk:(T k).1.ls[i]?=some x:=by
             rw[h.keep dc (j:=i+1) (by omega) (by omega) (Nat.le_of_lt hkb) (by omega),hTls];exact List.getElem?_set_self hilen
            rcases apartAll_get _ _ _ 0 i x p6.1.2 (by rw[List.getElem?_take,if_pos hgt];exact hxk)with hc|hap
            ·rw[Nat.zero_add]at hc;have:=h.dn k hSk i hc
             rw[hi]at this;cases this
            ·exact apartR_on' hap hr
    ·-- boxes
     intro hnb;rcases q7 with⟨e,_⟩|⟨bb,e,hall,q7⟩
     ·exact absurd e hnb
     ·have hmade:made T i:=by unfold made;rw[q7];simp
      have hge:m<=(T i).1.bx.length:=by
       rcases Nat.lt_or_ge (T i).1.bx.length m with hlt|hge
       ·have:=(h.mkd i h1 h2 hmade).2 hlt;rw[hi]at this;cases this
       ·exact hge
      have hle:(T i).1.bx.length<=m:=h.boxes dc h1 (Nat.le_of_lt h2) fun k k1 k2 k3=>by
       have:=(h.stretch dc (Nat.le_refl _) h1 (Nat.le_of_lt h2)).mk2 k k1 k2 k3;exact hD k (List.all_eq_true.1 hall _ this)
      simp only[St.mask,resS];rw[lateB_all _ _ _ hall,List.length_take,List.length_take];obtain⟨r,hr⟩:=st.bx;have:=congrArg List.length hr
      simp at this;omega
    ·intro v w' g' r1 r2 r3 r4 r5;rw[hresl]at r5
     have hB:(¬made T i/\nb=none)\/ ∃bb,nb=some bb/\made T i/\(T (i+1)).1.bx=(T i).1.bx++[bb]:=by
      rcases q7 with⟨e,q7⟩|⟨bb,e,_,q7⟩
      ·exact .inl ⟨by unfold made;rw[q7];simp,e⟩
      ·exact .inr ⟨bb,e,by unfold made;rw[q7];simp,by rw[q7]⟩
     obtain⟨g'',tv',tl',m',s1,s2,s3,s4,s5⟩:=h.done dc h1 h2 hi hD ho hoA q3 r1 hL hsz r5 k1 hTls hB (fun r hr=>h.noRef hI hi hr) hS';exact hK a0 b m' g'' w' _ tv' tl' s1 s2 s3 (hsz.put _ _) (r2.trans s4) r3 (r4.trans s5)
theorem step_full(dc:DC P E N c ops D l L T){S:Nat->Bool}{a0 b m:Nat}(h:SI ops D T S a0 b m)(hb:b<ops.size)(hD:∀ j,(D.getD b []).contains j=true->S j=true){o:Oper}(ho:ops[b]?=some o)
  {g:G} (hI:Inv g (resS (T b).1 (l.map (·.2)) S m) w tv tl) {a:Act} (hL:Lk {c with locs:=L} a.eval tv tl) (hsz:ActOK c a) {S':Nat->Bool} (hS':∀ j,S' j=(S j || decide (j=b)))
  {Q:Exit->Act->World->Prop} {K:Act->World->Prop} (hK:DK c ops D l L T g w (resS (T b).1 (l.map (·.2)) S m) S' K):wpOp P ops Q b K a w:=by
 obtain⟨f1,f2⟩:=full_at (h.fb hb);have hS:∀ j,j<b->S j=true:=fun j hj=>hD j (f1 j hj)
 have hiS:S b=false:=h.hi b (Nat.le_refl _)
 have hS'':∀ j,S' j=true↔j<=b:=by
  intro j;rw[hS'];simp only[Bool.or_eq_true,decide_eq_true_eq];constructor
  ·rintro(hj|rfl)
   ·rcases Nat.lt_or_ge j b with h3|h3
    ·omega
    ·rw[h.hi j h3]at hj;cases hj
   ·exact Nat.le_refl _
  ·intro hj;rcases Nat.lt_or_ge j b with h3|h3
   ·exact .inl (hS j h3)
   ·exact .inr (by omega)
 obtain⟨oA,lvv,hoA,_,_,_⟩:=dc.tr.at_ b o ho;have hfull:=h.full dc hb hS
 have hresl:=h.resLen dc;have hTl:=h.len dc h.ab (Nat.le_refl _)
 have hres_ls:(resS (T b).1 (l.map (·.2)) S m).ls=(T b).1.ls:=by rw[<-hfull];rfl
 have hres_bx:(resS (T b).1 (l.map (·.2)) S m).bx=(T b).1.bx:=by rw[<-hfull];rfl
 -- how it goes on
 have fin:∀ {g':G} {w':World} {X:St} {tv1 tl1:Nat->Value} {v:Value},Inv g' X w' tv1 tl1->clearV X.vs (setV (l.map (·.2)) S')=clearV (T (b+1)).1.vs (setV (l.map (·.2)) S')->X.ls=(T (b+1)).1.ls->X.bx=(T (b+1)).1.bx->
   (T (b+1)).1.ls.length=ops.size->(∀j,b+1<=j->j<ops.size->(T (b+1)).1.ls[j]?=some .top)->(∀(k:Nat) x,(T (b+1)).1.ls[k]?=some x->locsIn S' x=true)->
   ((∃n,oA.dst= .var n/\tv1=upd tv n v)\/(oA.dst= .loc/\tv1=tv))->(tl1=upd tl b v\/(tl1=tl/\ ∀x,(T (b+1)).1.ls[b]?=some x->x= .top))->
   Later g w g' w'->Same w w'->BX g (resS (T b).1 (l.map (·.2)) S m) g' X->K (a.put o.dst v) w':=by
  intro g' w' X tv1 tl1 v i1 e1 e2 e3 e4 e5 e6 e7 e8 lt sm bx;obtain⟨b',m',n1,n2,n3,n4⟩:=SI.next dc hb hS'' e4 e5 e6 i1 e1 e2 e3;have hput:=dc.put hL hsz.sz ho hoA v
  have hlsb:∀ x,(T (b+1)).1.ls[b]?=some x->x= .top-> ∀y,(resS (T b').1 (l.map (·.2)) S' m').ls[b]?=some y->y= .top:=by
   intro x hx hxt y hy;simp only[resS]at hy;rw[maskF_get,Nat.zero_add]at hy;have hk:(T b').1.ls[b]?=(T (b+1)).1.ls[b]?:=n1.keep dc (Nat.le_refl _) n1.ab (Nat.le_refl _) (by omega)
   rw[hk,hx,hxt]at hy;simp only[Option.map_some,Oe]at hy;rw[<-hy];split<;>rfl
  have i2:Inv g' (resS (T b').1 (l.map (·.2)) S' m') w' tv1 (upd tl b v):=by
   rcases e8 with rfl|⟨rfl,e8⟩
   ·exact n2
   ·refine n2.openL (fun y hy=>?_) v;have hbl:b<(T (b+1)).1.ls.length:=by rw[e4];exact hb
    have hx:=Gg hbl;exact hlsb _ hx (e8 _ hx) y hy
  have i3:Inv g' (resS (T b').1 (l.map (·.2)) S' m') w' (updD oA.dst lvv tv v) (upd tl b v):=by
   rcases e7 with⟨n,e7,rfl⟩|⟨e7,rfl⟩
   ·rw[e7];exact i2
   ·rw[e7];cases hlv:lvv with
    |none=>exact i2
    | some n=>
      simp only[updD];refine i2.openV (fun y hy=>?_) v;simp only[resS]at hy;rw[clearV_get,if_pos]at hy
      ·cases hz:(T b').1.vs[n]? with
       |none=>rw[hz]at hy;cases hy
       |some z=>rw[hz]at hy;cases hy;rfl
      ·refine mem_setV.2 ⟨b,(hS'' b).2 (Nat.le_refl _),?_⟩;rw[List.getElem?_map,hoA,hlv];rfl
  exact hK (b+1) b' m' g' w' _ _ _ n1 i3 hput (hsz.put _ _) lt sm ⟨by rw[n4];exact bx.le,bx.blk⟩
 have rfT:∀ ys:List A,ys.all (locsIn (· <b))=true-> ∀(k:Nat) x,(topFrom (b+1) ys)[k]?=some x->locsIn S' x=true:=by
  intro ys hys k x hx;rw[topFrom_get]at hx;split at hx
  ·exact locsIn_mono (fun j hj=>(hS'' j).2 (by simp at hj;omega)) (List.all_eq_true.1 hys x (Mg hx))
  ·cases hz:ys[k]? with
   |none=>rw[hz]at hx;cases hx
   |some z=>rw[hz]at hx;cases hx;rfl
 have tpT:∀ ys:List A,ys.length=ops.size-> ∀j,b+1<=j->j<ops.size->(topFrom (b+1) ys)[j]?=some .top:=by
  intro ys hys j h1 h2;rw[topFrom_get,if_neg (by omega),Gg (by omega)];rfl
 unfold wpOp;simp only[ho];obtain⟨oA',n,e1,e2,hst⟩:=dc.st b hb;rw[List.getElem?_map,hoA]at e1;cases e1;rcases hst with⟨q1,q2,q3⟩|⟨q1,_,x,σ1,q4,q5⟩|⟨_,q,_⟩
 ·-- not wanted
  rw[dc.wanted h h.ab (Nat.le_refl _) hD ho hoA hI hL q1];simp only[Bool.false_eq_true,if_false];obtain⟨g1,i1,l1,b1⟩:=hI.fillAt (i:=b) (by rw[hresl];exact hb) (x:=.ud) (v:=undef) rfl (fun r hr=>h.noRef hI hiS hr) (fun r hr=>by simp[refsT,refsA,refsL]at hr);refine fin i1 ?_ ?_ ?_ ?_ ?_ ?_ (.inr ⟨q2,rfl⟩) (.inl rfl) l1 (Same.refl w) (BX.same b1 rfl)
  ·rw[q3];simp only[resS];refine clearV_clearV fun n hn=>?_;obtain⟨k,k1,k2⟩:=mem_setV.1 hn;exact mem_setV.2 ⟨k,by rw[hS',k1];rfl,k2⟩
  ·rw[q3];show(resS (T b).1 (l.map (·.2)) S m).ls.set b .ud=_
   rw[hres_ls]
  ·rw[q3];exact hres_bx
  ·rw[q3];simp[hTl]
  ·intro j h1 h2;rw[q3];show((T b).1.ls.set b .ud)[j]?=_
   rw[List.getElem?_set_ne (by omega)];exact h.open_ dc h.ab (Nat.le_refl _) (by omega) h2
  ·intro k x hx;rw[q3]at hx;change ((T b).1.ls.set b .ud)[k]?=some x at hx
   by_cases e:k=b
   ·subst e;rw[List.getElem?_set_self (by rw[hTl];exact hb)]at hx;cases hx;rfl
   ·rw[List.getElem?_set_ne (fun e'=>e e'.symm)]at hx;rcases Nat.lt_or_ge k b with hk|hk
    ·exact locsIn_mono (fun j hj=>by rw[hS',hj];rfl) (h.rf k x (hS k hk) hx)
    ·have hkn:k<ops.size:=by rw[<-hTl];exact(Ge hx).1
     rw[h.open_ dc h.ab (Nat.le_refl _) hk hkn]at hx;cases hx;rfl
 ·rw[dc.wanted h h.ab (Nat.le_refl _) hD ho hoA hI hL q1];simp only[if_true];left;rw[hfull]at q4
  have hdies:oA.op≠ .dies:=by
   intro e;rw[e]at q4;cases n<;>simp[ago,aop,pop]at q4
  obtain⟨cx,hop⟩:=dc.cx ho hoA hdies hI hL;refine op_sound dc.hE (n:=n) (fun m hm=>dc.hC m (by omega)) _ o oA.op g _ σ1 w a tv tl x cx hop q4 Q K fun v w' g' r1 r2 r3 r4 r5 r6=>?_;rw[hresl]at r5;rcases q5 with⟨p1,p2,p3⟩|⟨vn,σ2,p1,p2,p3,p4⟩
  ·-- a result of the region's own
   have i0:Inv g' {σ1 with ls:=σ1.ls.set b .top} w' tv tl:=by
    refine r1.less (fun n x hx=> .inr hx) (fun k y hy=>?_) rfl (by simp) rfl
    by_cases e:k=b
    ·subst e;rw[List.getElem?_set_self (by rw[r5];exact hb)]at hy;cases hy;exact .inl rfl
    ·rw[List.getElem?_set_ne (fun e'=>e e'.symm)]at hy;exact .inr hy
   have hall:=List.all_eq_true.1 p2;have hlen0:({σ1 with ls:=σ1.ls.set b .top}:St).ls.length=σ1.ls.length:=by simp
   obtain ⟨g1,i1,l1,b1⟩:=i0.fillAt (i:=b) (by rw [hlen0,r5]; exact hb) (x:=x) (v:=v) (by
     rw[hlen0]
     refine r6.review (by rfl) (fun q _ hq=>?_) (fun q hq _=>?_)
     ·unfold Vw.ok at hq ⊢
      split<;>rename_i e<;>simp only[e,St.view]at hq ⊢ <;>first|(simp;omega)|exact hq|trivial
     ·by_cases e:q.r= .loc b
      ·left
       have hrt:({σ1 with ls:=σ1.ls.set b .top}:St).root q.r=some .top:=by
        rw[e]
        simp only[St.root]
        exact List.getElem?_set_self (by rw[r5];exact hb)
       simp only[St.view,St.R,St.row,St.get,hrt]
       cases q.s with
       |nil=>rfl
       |cons y s=>simp[getS,child]
      ·exact .inr (R_ls e)) (fun r hr => by
     rcases hr with⟨n,y,hy,hr⟩|⟨k,y,hy,hr⟩
     ·exact var_noLoc r1 hy hr b
     ·intro e
      by_cases ek:k=b
      ·subst ek
       simp only at hy
       rw[List.getElem?_set_self (by rw[r5];exact hb)]at hy
       cases hy;simp[refsT,refsA,refsL]at hr
      ·simp only at hy
       rw[List.getElem?_set_ne (fun e'=>ek e'.symm)]at hy
       have hm:y∈σ1.ls.set b x:=Mg (i:=k) (by rw[List.getElem?_set_ne (fun e'=>ek e'.symm)];exact hy)
       have:=locsIn_ref (hall y hm) hr e
       simp at this) (fun r hr e => by
     have hm:x∈σ1.ls.set b x:=Mg (i:=b) (List.getElem?_set_self (by rw[r5];exact hb))
     have:=locsIn_ref (hall x hm) hr e
     simp at this)
   have i2:Inv g1 (T (b+1)).1 w' tv (upd tl b v):=by
    rw[p3];refine i1.less (fun n x hx=> .inr hx) (fun k y hy=>?_) rfl (by simp[topFrom_len]) rfl;rw[topFrom_get]at hy;simp only[List.set_set];split at hy
    ·exact .inr hy
    ·cases hz:(σ1.ls.set b x)[k]? with
     |none=>rw[hz]at hy;cases hy
     |some z=>rw[hz]at hy;cases hy;exact .inl rfl
   refine fin i2 rfl rfl rfl ?_ ?_ ?_ (.inr ⟨p1,rfl⟩) (.inl rfl) (r2.trans l1) r3 ?_
   ·rw[p3];simp[topFrom_len,r5]
   ·rw[p3];exact tpT _ (by simp[r5])
   ·rw[p3];exact rfT _ p2
   ·rw[p3];exact r4.trans (BX.same b1 rfl)
  ·-- a variable
   obtain⟨g1,i1,l1,n1,b1,x1,_⟩:=r1.putW (n:=vn) (v:=v) r6 (putW_light p2) p2
   have i2:Inv g1 (T (b+1)).1 w' (upd tv vn v) tl:=by
    rw[p4];refine i1.less (fun n x hx=> .inr hx) (fun k y hy=>?_) rfl (by simp[topFrom_len]) rfl;simp only at hy;rw[topFrom_get]at hy
    have hset:∀ y,(σ2.ls.set b .top)[k]?=some y->y= .top\/σ2.ls[k]?=some y:=by
     intro y hy
     by_cases e:k=b
     ·subst e;rw[List.getElem?_set_self (by rw[n1,r5];exact hb)]at hy;cases hy;exact .inl rfl
     ·rw[List.getElem?_set_ne (fun e'=>e e'.symm)]at hy;exact .inr hy
    split at hy
    ·exact hset y hy
    ·cases hz:(σ2.ls.set b .top)[k]? with
     |none=>rw[hz]at hy;cases hy
     |some z=>rw[hz]at hy;cases hy;exact .inl rfl
   refine fin i2 rfl rfl rfl ?_ ?_ ?_ (.inl ⟨vn,p1,rfl⟩) (.inr ⟨rfl,?_⟩) (r2.trans l1) r3 ?_
   ·rw[p4];simp[topFrom_len,n1,r5]
   ·rw[p4];exact tpT _ (by simp[n1,r5])
   ·rw[p4];exact rfT _ p3
   ·intro y hy;rw[p4]at hy;simp only at hy;rw[topFrom_get,if_pos (by omega),List.getElem?_set_self (by rw[n1,r5];exact hb)]at hy;cases hy;rfl
   ·rw[p4];exact r4.trans (BX.same b1 x1)
 ·rw[h.fb hb]at q;cases q
theorem draw_main(dc:DC P E N c ops D l L T){Q:Exit->Act->World->Prop}:∀ (fuel:Nat) (listed:Array Bool) (a:Act) (w:World) (g:G) (tv tl:Nat->Value) (a0 b m:Nat),listed.size=ops.size->unl ops.size listed=fuel->
  SI ops D T (fun i=>listed.getD i false) a0 b m->Inv g (resS (T b).1 (l.map (·.2)) (fun i=>listed.getD i false) m) w tv tl->Lk {c with locs:=L} a.eval tv tl->ActOK c a->
  (∀ g' w' a' tv' tl',Inv g' { (T ops.size).1 with vs:=clearV (T ops.size).1.vs (setV (l.map (·.2)) fun _ => true) } w' tv' tl' -> Lk { c with locs:=L } a'.eval tv' tl' -> ActOK c a' -> Later g w g' w' -> Same w w' ->
    BX g (resS (T b).1 (l.map (·.2)) (fun i=>listed.getD i false) m) g' {(T ops.size).1 with vs:=clearV (T ops.size).1.vs (setV (l.map (·.2)) fun _=>true)}->(T ops.size).1.ls.length=ops.size->Q .normal a' w')->
  wpAny P .any ops Q fuel listed a w
 | fuel,listed,a,w,g,tv,tl,a0,b,m,hsz,hu,h,hI,hL,hsz',hQ=>by
   have done:(∀i,i<ops.size->listed.getD i true=true)->Q .normal a w:=by
    intro hall
    obtain ⟨hb,hres⟩:=h.all dc (fun j hj => by
     have:=hall j hj
     have hj':j<listed.size:=by omega
     simp only[Array.getD,hj',dif_pos]at this ⊢
     exact this)
    refine hQ g w a tv tl ?_ hL hsz' (Later.refl _ _) (Same.refl w) ?_ ?_
    ·rw[<-hres];exact hI
    ·rw[hres];exact BX.refl _ _
    ·have:=h.len dc h.ab (Nat.le_refl _);rw[hb]at this;exact this
   have S_of:∀ {i:Nat},i<ops.size->listed.getD i false=listed.getD i true:=fun{i} hi=>by
    have hj':i<listed.size:=by omega
    simp[Array.getD,hj']
   -- if nothing is ready,all has been done
   have noReady:Region.ready .any ops listed=[]-> ∀i,i<ops.size->listed.getD i true=true:=by
    intro hr i
    induction i using Nat.strongRecOn with
    | _ i ih=>
      intro hi;cases hc:listed.getD i true with
      |true=>rfl
      | false=>
        exfalso
        have:i∈Region.ready .any ops listed:=by
         rw[mem_ready];refine⟨hc,ops[i],Array.getElem?_eq_getElem hi,fun e he hb=>?_⟩;have hlt:=dc.dp.lt i e.on (dc.dp.edge i _ e (Array.getElem?_eq_getElem hi) he hb)
         rw[S_of (by omega)];exact ih e.on hlt (by omega)
        rw[hr]at this;cases this
   cases fuel with
   | zero=>
     have hall:=fun i hi=>unl_zero hu i hi;refine⟨?_,done hall⟩;cases hr:Region.ready .any ops listed with
     |nil=>rfl
     | cons i is=>
       exfalso;have:i∈Region.ready .any ops listed:=by rw[hr];exact List.mem_cons_self ..
       rw[mem_ready]at this;obtain⟨h1,o,ho,_⟩:=this;rw[hall i (Array.getElem?_eq_some_iff.1 ho).1]at h1;cases h1
   | succ fuel=>
     refine⟨fun hr=>done (noReady hr),fun i hi=>?_⟩;rw[mem_ready]at hi;obtain⟨h1,o,ho,h2⟩:=hi;have hin:i<ops.size:=(Array.getElem?_eq_some_iff.1 ho).1
     have hiS:listed.getD i false=false:=by rw[S_of hin];exact h1
     have hD:∀ j,(D.getD i []).contains j=true->listed.getD j false=true:=by
      intro j hj;obtain⟨e,he,hb,h3⟩:=dc.dp.from_ i o j ho hj;have:=h2 e he hb
      rcases h3 with rfl|h3
      ·exact this
      ·exact h.dn e.on this j h3
     have hge:a0<=i:=by
      rcases Nat.lt_or_ge i a0 with hlt|hge
      ·have:=h.lo i hlt;rw[hiS]at this;cases this
      ·exact hge
     have hS':∀ j,(listed.setIfInBounds i true).getD j false=(listed.getD j false || decide (j=i)):=by
      intro j
      by_cases e:j=i
      ·subst e;have hj':j<listed.size:=by omega
       simp[Array.getD,hj']
      ·rw[getD_set_ne false (fun e'=>e e'.symm)];simp[e]
     have hu':unl ops.size (listed.setIfInBounds i true)=fuel:=by
      have key:unl ops.size (listed.setIfInBounds i true)+1=unl ops.size listed:=by
       refine filter_one (List.range ops.size) List.nodup_range (List.mem_range.2 hin) (by rw[h1];rfl) ?_ fun x hx=>?_
       ·have hj':i<listed.size:=by omega
        simp[Array.getD,hj']
       ·rw[getD_set_ne true (fun e=>hx e.symm)]
      omega
     have next:DK c ops D l L T g w (resS (T b).1 (l.map (·.2)) (fun i=>listed.getD i false) m) (fun j=>(listed.setIfInBounds i true).getD j false) (wpAny P .any ops Q fuel (listed.setIfInBounds i true)):=by
      intro a0' b' m' g' w' a' tv' tl' k1 k2 k3 k4 k5 k6 k7
      exact draw_main dc fuel (listed.setIfInBounds i true) a' w' g' tv' tl' a0' b' m' (by simp[hsz]) hu' k1 k2 k3 k4 fun g'' w'' a'' tv'' tl'' q1 q2 q3 q4 q5 q6 q7=>
       hQ g'' w'' a'' tv'' tl'' q1 q2 q3 (k5.trans q4) (k6.trans q5) (k7.trans q6) q7
     rcases Nat.lt_trichotomy i b with hlt|heq|hgt
     ·exact step_quiet dc h hge hlt hiS hD ho hI hL hsz' hS' next
     ·subst heq;exact step_full dc h hin hD ho hI hL hsz' hS' next
     ·exfalso;have hbn:b<ops.size:=by omega
      obtain⟨_,f2⟩:=full_at (h.fb hbn);have:=hD b (f2 i hgt (by rw[dc.dp.len];exact hin))
      rw[h.hi b (Nat.le_refl _)]at this;cases this
end
end Go.Ab
end
section
namespace Go.Ab
open Go.RowKit
variable {w:World} {tv tl:Nat->Value}
structure ES(c:TC)(g:G)(σ:St)(w:World)(a:Act)(tv:Nat->Value):Prop where
 I:Inv g σ w tv (fun _=>undef)
 V:∀ t n,c.vars.findIdx? (· ==t)=some n->tv n=a.eval (.tmp t)
 ls:σ.ls=[]
 ok:ActOK c a
theorem Inv.dropLs{g:G}{σ:St}(h:Inv g σ w tv tl)(tl':Nat->Value):Inv g {σ with ls:=[]} w tv tl':=by
 refine⟨fun n x hx=>?_,fun k x hx=>by simp at hx,fun b x hx=>h.boxes b x hx,h.lt⟩;refine(h.vars n x hx).review rfl (fun q _ hq=>?_) (fun q hq _=>?_)
 ·exact hq
 ·right;refine R_of_root ?_;have:=var_noLoc h hx hq
  cases e:q.r with
  |loc k=>exact absurd e (this k)
  |_=>rfl
theorem rd_loc{g:G}{σ:St}(hi:Inv g σ w tv tl){k:Nat}{x:A}(h:σ.rd (.l k)=some x)(q:Pl):RepT g w σ.view q x (tl k)/\lightT x=true:=by
 simp only[St.rd]at h;cases hy:σ.ls[k]? with
 |none=>rw[hy]at h;cases h
 | some y=>
   rw[hy]at h;simp only[Oe]at h;subst h;exact rdA_ok (p:=⟨.loc k,[]⟩) (by simp[St.get,St.root,hy,getS]) (hi.locs k y hy) q
theorem upd_same(f:Nat->Value)(n:Nat){v:Value}(h:v=f n):upd f n v=f:=by
 funext j
 unfold upd;split
 ·rename_i e;rw[e,h]
 ·rfl
theorem flush_ok:∀ (lv:List (Option Nat)) (k:Nat) (g:G) (σ σ':St),flush k lv σ=some σ'->Inv g σ w tv tl->(∀(j n:Nat),lv[j]?=some (some n)->tl (k+j)=tv n)->
  ∃g',Inv g' σ' w tv tl/\Later g w g' w/\BX g σ g' σ'
 | [],k,g,σ,σ',h,hi,_=>by
   simp only[flush,Oe]at h;subst h;exact⟨g,hi,Later.refl _ _,BX.refl _ _⟩
 | none::lv,k,g,σ,σ',h,hi,hk=>by
   simp only[flush]at h;exact flush_ok lv (k+1) g σ σ' h hi fun j n hj=>by rw[show k+1+j=k+(j+1)by omega];exact hk (j+1) n (by simpa using hj)
 | some n::lv,k,g,σ,σ',h,hi,hk=>by
   have e0:tl k=tv n:=hk 0 n rfl;have rest:∀ j m,lv[j]?=some (some m)->tl (k+1+j)=tv m:=fun j m hj=>by rw[show k+1+j=k+(j+1)by omega];exact hk (j+1) m (by simpa using hj)
   simp only[flush]at h;split at h
   ·rename_i hrd;have r:=(rd_loc hi hrd hand0).1
    obtain⟨g1,i1,l1,b1⟩:=hi.putN (n:=n) not_noHand0 r rfl rfl;rw[upd_same tv n e0]at i1;obtain⟨g2,i2,l2,b2⟩:=flush_ok lv (k+1) g1 _ σ' h i1 rest;exact⟨g2,i2,l1.trans l2,(BX.same b1 (by simp[St.putN,St.kill])).trans b2⟩
   ·rename_i x hx hrd;split at h
    ·rename_i σ1 hp;obtain⟨r,hl⟩:=rd_loc hi hrd hand0;obtain⟨g1,i1,l1,_,b1,x1,_⟩:=hi.putW r hl hp;rw[upd_same tv n e0]at i1;obtain⟨g2,i2,l2,b2⟩:=flush_ok lv (k+1) g1 σ1 σ' h i1 rest;exact⟨g2,i2,l1.trans l2,(BX.same b1 x1).trans b2⟩
    ·cases h
   ·cases h
theorem getS_app:∀ (s t:List (Nat×Nat)) (a y:A),getS a s=some y->getS a (s++t)=getS y t
 |[],t,a,y,h=>by simp only[getS,Oe]at h;subst h;rfl
 | q::s,t,a,y,h=>by
   simp only[getS,List.cons_append]at h ⊢
   cases hc:child a q with
   |none=>rw[hc]at h;cases h
   |some x=>rw[hc]at h;exact getS_app s t x y h
theorem get_plus{σ:St}{p:Pl}{y:A}(h:σ.get p=some y)(t:List (Nat×Nat)):σ.get (p.plus t)=getS y t:=by
 unfold St.get at h ⊢
 simp only[Pl.plus];cases hr:σ.root p.r with
 |none=>rw[hr]at h;cases h
 |some a=>rw[hr]at h;exact getS_app p.s t a y h
theorem nil_imm{g:G}{V:Vw}{q:Pl}{z:Nat}{u:Value}(r:RepL g w V q .nil u):RepL g w V q (.imm true z []) u:=by
 simp only[A.nil,RepL,RepC]at r ⊢
 cases r with
 | imm _ _ _ hi _=>
   cases hi with
   |v=>exact .imm _ _ _ (.nilr z) rfl
   |emp _ _ _ _ ha=>rcases ha with ha|ha<;>cases ha
   |row _ _ _ _ _ _ _ ha=>rcases ha with ha|ha<;>cases ha
theorem nil_set{g:G}{σ:St}(h:Inv g σ w tv tl){p:Pl}(hp:hintOK σ p=true)(z:Nat)(hg:σ.get p=some .nil):MS w tv tl False (fun _=>False) g σ g (σ.set p (.imm true z [])):=by
 obtain⟨hl1,hl2,hl3⟩:=set_lens σ p (.imm true z [])
 have hR:∀ r,(σ.set p (.imm true z [])).R r=σ.R r:=by
  intro r
  by_cases hu:p.under r
  ·obtain⟨t,rfl⟩:=(Pl.under_iff p r).1 hu;rw[R_set_under _ hg,getS_imm,R_eq,get_plus hg];cases t with
   |nil=>rfl
   |cons q t=>rfl
  ·exact R_set_other _ hu
 have hR':(σ.set p (.imm true z [])).R=σ.R:=funext hR;have hv0:(σ.set p (.imm true z [])).view0=σ.view0:=by simp only[St.view0,hR',hl3]
 have hv:(σ.set p (.imm true z [])).view=σ.view:=by simp only[St.view,hR',hl2,hl3]
 refine{toLater:=Later.refl g w,blk:=rfl,owb:=fun _ _ h=>h,hd:=fun _ _ _=>rfl,ow:=fun _ _ _ _ h=>h,nv:=hl1,nl:=hl2,nb:=hl3,ref:=fun r _=> .inr ⟨hR r,rfl⟩,tmp:=fun _ _ _ h=> .inr h,inv:=?_};obtain⟨r,s⟩:=p;cases r with
 | var m=>
   simp only[St.get,St.root]at hg;cases ha:σ.vs[m]? with
   |none=>rw[ha]at hg;cases hg
   | some a=>
     rw[ha]at hg;simp only at hg;have hset:σ.set ⟨.var m,s⟩ (.imm true z [])={σ with vs:=σ.vs.set m (setS a s (.imm true z []))}:=by simp only[St.set,St.root,ha,St.setRoot]
     refine⟨fun n x hx=>?_,fun k x hx=>?_,fun b x hx=>?_,h.lt⟩
     ·rw[hv0];rw[hset]at hx;simp only[List.getElem?_set]at hx;split at hx
      ·rename_i hm;subst hm;split at hx
       ·simp only[Oe]at hx;have r0:=h.vars m a ha
        cases s with
        | nil=>
          simp only[getS,Oe]at hg;simp only[setS]at hx;subst hg hx;exact nil_imm (V:=σ.view0) r0
        | cons q s=>
          obtain⟨i,c⟩:=q;cases s with
          |cons q' s=>cases i<;>simp[hintOK]at hp
          | nil=>
            cases i with
            |succ i=>simp[hintOK]at hp
            | zero=>
              simp only[hintOK,ha]at hp;cases a<;>simp at hp;rename_i cs;simp only[getS,child]at hg;obtain⟨us,e1,e2,e3⟩:=r0;cases hc:cs[c]? with
              |none=>rw[hc]at hg;cases hg
              | some y=>
                rw[hc]at hg;simp only[Oe]at hg;subst hg;simp only[setS,child,hc,setChild]at hx;subst hx;refine⟨us,e1,by simpa using e2,fun d x u hx hu=>?_⟩;rw[List.getElem?_set]at hx;split at hx
                ·rename_i hd;subst hd;split at hx
                 ·cases hx;exact nil_imm (e3 c _ u hc hu)
                 ·cases hx
                ·exact e3 d x u hx hu
       ·cases hx
      ·exact h.vars n x hx
     ·rw[hv];rw[hset]at hx;exact h.locs k x hx
     ·rw[hl3];rw[hset]at hx;exact h.boxes b x hx
 | box b c=>
   cases s with
   |cons q s=>simp[hintOK]at hp
   | nil=>
     simp only[St.get,St.root]at hg;cases hb:σ.bx[b]? with
     |none=>rw[hb]at hg;cases hg
     | some y=>
       rw[hb]at hg;cases y with
       |map es=>cases hg
       |gone=>cases hg
       | cells cs=>
         simp only[getS]at hg;cases hc:cs[c]? with
         |none=>rw[hc]at hg;cases hg
         | some y=>
           rw[hc]at hg;simp only[Oe]at hg;subst hg;have hset:σ.set ⟨.box b c,[]⟩ (.imm true z [])={σ with bx:=σ.bx.set b (.cells (cs.set c (.imm true z [])))}:=by simp only[St.set,St.root,hb,hc,St.setRoot,setS]
           refine⟨fun n x hx=>?_,fun k x hx=>?_,fun b' x hx=>?_,h.lt⟩
           ·rw[hv0];rw[hset]at hx;exact h.vars n x hx
           ·rw[hv];rw[hset]at hx;exact h.locs k x hx
           ·rw[hl3];rw[hset]at hx;simp only[List.getElem?_set]at hx;split at hx
            ·rename_i hbb;subst hbb;split at hx
             ·simp only[Oe]at hx;subst hx;have k0:=h.boxes b _ hb
              simp only[BoxOK]at k0 ⊢
              obtain⟨h1,cur,t,h2,h3,h4⟩:=k0;refine⟨h1,cur,t,h2,by simpa using h3,fun d x hx=>?_⟩;rw[List.getElem?_set]at hx;split at hx
              ·rename_i hd;subst hd;split at hx
               ·cases hx;obtain⟨u,hu,hr⟩:=h4 c _ hc
                exact ⟨u,hu,by
                 have:=nil_imm (w:=w) (V:=⟨fun _=>none,0,σ.bx.length⟩) (z:=z) (RepC.toL hr)
                 simpa only[RepL]using this⟩
               ·cases hx
              ·exact h4 d x hx
             ·cases hx
            ·exact h.boxes b' x hx
 |loc m=>cases s<;>simp[hintOK]at hp
 |hand m=>cases s<;>simp[hintOK]at hp
theorem frzAt_ok{g:G}{σ:St}(hi:Inv g σ w tv tl){p:Pl}(hp:noHand p)(z:Nat):∃ g',MS w tv tl False (fun _=>False) g σ g' (frzAt σ p z):=by
 unfold frzAt;split
 ·rename_i z es hg;exact⟨_,freeze_set hi hp hg (.inl rfl) (fun e=>by cases e)⟩
 ·rename_i hg;split
  ·exact⟨g,MS.refl hi⟩
  ·split
   ·rename_i hh;exact⟨g,nil_set hi hh z hg⟩
   ·exact⟨g,MS.refl hi⟩
 ·exact⟨g,MS.refl hi⟩
theorem frzAll_ok{f:Nat->Pl}(hf:∀ c,noHand (f c)):∀ (l:List Nat) (c:Nat) (g:G) (σ:St),Inv g σ w tv tl-> ∃g',MS w tv tl False (fun _=>False) g σ g' (frzAts f c l σ)
 |[],c,g,σ,hi=>⟨g,MS.refl hi⟩
 | z::l,c,g,σ,hi=>by
   obtain⟨g1,m1⟩:=frzAt_ok hi (hf c) z;obtain⟨g2,m2⟩:=frzAll_ok hf l (c+1) g1 _ m1.inv;exact⟨g2,m1.trans m2⟩
theorem frz_ms{g:G}{σ:St}(hi:Inv g σ w tv tl)(n:Nat)(zs:List Nat):∃ g',MS w tv tl False (fun _=>False) g σ g' (σ.frz n zs):=by
 unfold St.frz;split
 ·exact frzAll_ok (f:=fun c=>⟨.var n,[(0,c)]⟩) (fun c k e=>by cases e) _ _ g σ hi
 ·exact frzAll_ok (f:=fun c=>⟨.box _ c,[]⟩) (fun c k e=>by cases e) _ _ g σ hi
 ·split
  ·exact frzAt_ok hi (fun k e=>by cases e) _
  ·exact⟨g,MS.refl hi⟩
theorem truncL_ok{g:G}{V V':Vw}{p:Pl}{n:Nat}{x:A}{v:Value}(r:RepL g w V p x v)(hnl:V'.nl=V.nl)(hn:n<=V'.nb)(hR:∀ (q:Pl) z m,V'.R q=some (z,m)->V.R q=some (z,m)):RepL g w V' p (A.truncL n x) v:=by
 have un:RepL g w V' p .un v:=RepL.un r.one
 have ok:∀ q:Pl,V.ok q->(∀b c,q.r= .box b c->b<n)->V'.ok q:=by
  intro q hq hb;unfold Vw.ok at hq ⊢
  split<;>rename_i e<;>simp only[e]at hq
  ·omega
  ·have:=hb _ _ e;omega
  ·trivial
 have refS:∀ q:Pl,(∀b c,q.r= .box b c->b<n)->RepS g V q v->RepS g V' q v:=fun q hb r=>⟨ok q r.1 hb,r.2.1,fun z m e=>r.2.2 z m (hR q z m e)⟩
 have keepK:∀ (ys:List A) (us:List Value),ys.all (A.truncK n)=true->(∀(c:Nat) x u,ys[c]?=some x->us[c]?=some u->RepK g w V.nb x u)-> ∀(c:Nat) x u,ys[c]?=some x->us[c]?=some u->RepK g w V'.nb x u:=by
  intro ys us hall h c x u hx hu;have h1:=List.all_eq_true.1 hall x (Mg hx)
  have h2:=h c x u hx hu
  cases x<;>simp only[RepK]at h2 ⊢ <;>first
   |exact h2
   |(simp[A.truncK]at h1;exact⟨by omega,h2.2⟩)
 cases x
 case sref q=>
  simp only[A.truncL];split
  ·rename_i b c e;split
   ·rename_i hb;exact refS q (fun b' c' e'=>by rw[e]at e';cases e';exact hb) r
   ·exact un
  ·rename_i hne;exact refS q (fun b' c' e'=>absurd e' (hne b' c')) r
 case pref q i c=>
  have go:(∀b c,q.r= .box b c->b<n)->RepL g w V' p (.pref q i c) v:=fun hb=>by
   simp only[RepL]at r ⊢
   exact⟨ok q r.1 hb,r.2.1,fun z m e0 hi=>r.2.2 z m (hR q z m e0) hi⟩
  simp only[A.truncL];split
  ·rename_i b c e;split
   ·rename_i hb;exact go (fun b' c' e'=>by rw[e]at e';cases e';exact hb)
   ·exact un
  ·rename_i hne;exact go (fun b' c' e'=>absurd e' (hne b' c'))
 case pt b c=>
  simp only[A.truncL];split
  ·simp only[RepL,RepC]at r ⊢;exact⟨by omega,r.2⟩
  ·exact un
 case mp b=>
  simp only[A.truncL];split
  ·simp only[RepL,RepC]at r ⊢;exact⟨by omega,r.2⟩
  ·exact un
 case clo f xs ys=>
  simp only[A.truncL];split
  ·rename_i hall;rw[List.all_append,Bool.and_eq_true]at hall;simp only[RepL,RepC]at r ⊢
   obtain⟨us,vs,h1,h2,h3,h4,h5⟩:=r;exact⟨us,vs,h1,h2,h3,keepK xs us hall.1 h4,keepK ys vs hall.2 h5⟩
  ·exact un
 case agg cs=>exact r.noAgg.elim
 case tup cs=>exact r.noTup.elim
 case sub=>exact un
 case app=>exact un
 case bld=>exact un
 all_goals exact r
theorem truncC_ok{g:G}{nb:Nat}{p:Pl}{n:Nat}{x:A}{v:Value}(r:RepC g w nb p x v):RepC g w n p (A.truncL n x) v:=by
 have un:RepC g w n p .un v:=.imm _ _ _ (.un v r.one) rfl
 have no:∀ y,y=x->y.leaf=false->(∀z es,y≠ .own z es)->RepO g w p y v->False:=by
  intro y _ h1 h2 r;cases r with
  |imm _ _ _ _ ha=>rw[h1]at ha;cases ha
  |own=>exact h2 _ _ rfl
 have keepK:∀ (ys:List A) (us:List Value),ys.all (A.truncK n)=true->(∀(c:Nat) x u,ys[c]?=some x->us[c]?=some u->RepK g w nb x u)-> ∀(c:Nat) x u,ys[c]?=some x->us[c]?=some u->RepK g w n x u:=by
  intro ys us hall h c x u hx hu;have h1:=List.all_eq_true.1 hall x (Mg hx)
  have h2:=h c x u hx hu
  cases x<;>simp only[RepK]at h2 ⊢ <;>first
   |exact h2
   |(simp[A.truncK]at h1;exact⟨by omega,h2.2⟩)
 cases x
 case pt b c=>
  simp only[A.truncL];split
  ·rename_i hb;simp only[RepC]at r ⊢;exact⟨hb,r.2⟩
  ·exact un
 case mp b=>
  simp only[A.truncL];split
  ·rename_i hb;simp only[RepC]at r ⊢;exact⟨hb,r.2⟩
  ·exact un
 case clo f xs ys=>
  simp only[A.truncL];split
  ·rename_i hall;rw[List.all_append,Bool.and_eq_true]at hall;simp only[RepC]at r ⊢
   obtain⟨us,vs,h1,h2,h3,h4,h5⟩:=r;exact⟨us,vs,h1,h2,h3,keepK xs us hall.1 h4,keepK ys vs hall.2 h5⟩
  ·exact un
 case sref q=>exact(no _ rfl rfl (fun _ _ e=>by cases e) r).elim
 case pref q i c=>exact(no _ rfl rfl (fun _ _ e=>by cases e) r).elim
 case sub=>exact un
 case app=>exact un
 case bld=>exact un
 all_goals exact r
theorem trunc_rowL{n:Nat}(z:A)(s:List (Nat×Nat)){r:Nat×Nat}(h:rowLen (getS (A.truncL n z) s)=some r):rowLen (getS z s)=some r:=by
 have un:rowLen (getS .un s)≠some r:=by rw[getS_un];simp
 have two:∀ y,(A.truncL n z=y\/A.truncL n z= .un)->y=z->rowLen (getS z s)=some r:=by
  rintro y (e|e) rfl
  ·rw[e]at h;exact h
  ·rw[e]at h;exact absurd h un
 cases z
 case sref q=>
  refine two _ ?_ rfl;simp only[A.truncL];split
  ·split
   ·exact .inl rfl
   ·exact .inr rfl
  ·exact .inl rfl
 case pref q i c=>
  refine two _ ?_ rfl;simp only[A.truncL];split
  ·split
   ·exact .inl rfl
   ·exact .inr rfl
  ·exact .inl rfl
 case pt b c=>refine two _ ?_ rfl;simp only[A.truncL];split<;>first|exact .inl rfl|exact .inr rfl
 case mp b=>refine two _ ?_ rfl;simp only[A.truncL];split<;>first|exact .inl rfl|exact .inr rfl
 case clo f a b=>refine two _ ?_ rfl;simp only[A.truncL];split<;>first|exact .inl rfl|exact .inr rfl
 case sub=>exact absurd h un
 case app=>exact absurd h un
 case bld=>exact absurd h un
 all_goals exact h
theorem trunc_row{n:Nat}(z:A)(s:List (Nat×Nat)){r:Nat×Nat}(h:rowLen (getS (A.trunc n z) s)=some r):rowLen (getS z s)=some r:=by
 cases z
 case agg cs=>
  simp only[A.trunc]at h;cases s with
  |nil=>simp[getS,rowLen]at h
  | cons q s=>
    obtain⟨j,c⟩:=q;cases j with
    | zero=>
      simp only[getS,child,List.getElem?_map]at h ⊢
      cases hc:cs[c]? with
      |none=>rw[hc]at h;simp[rowLen]at h
      | some y=>
        rw[hc]at h;exact trunc_rowL y s h
    |succ j=>simp[getS,child,rowLen]at h
 case tup cs=>
  simp only[A.trunc]at h;cases s with
  |nil=>simp[getS,rowLen]at h
  |cons q s=>simp[getS,child,rowLen]at h
 all_goals exact trunc_rowL (n:=n) _ s h
theorem Inv.trunc{g:G}{σ:St}(h:Inv g σ w tv tl)(hls:σ.ls=[]){n:Nat}:Inv g (σ.trunc n) w tv tl/\(σ.trunc n).ls=[]/\(n<=σ.bx.length->(σ.trunc n).bx.length=n):=by
 unfold St.trunc;split
 ·rename_i hle;exact⟨h,hls,fun hn=>by omega⟩
 ·rename_i hgt;have hlen:((σ.bx.take n).map (Bx.trunc n)).length=n:=by simp;omega
  have hR:∀ (q:Pl) z m,({σ with vs:=σ.vs.map (A.trunc n),bx:=(σ.bx.take n).map (Bx.trunc n)}:St).R q=some (z,m)->σ.R q=some (z,m):=by
   intro q z m hq;rw[R_eq]at hq ⊢
   unfold St.get at hq ⊢
   cases e:q.r with
   | var k=>
     simp only[e,St.root,List.getElem?_map]at hq ⊢
     cases hx:σ.vs[k]? with
     |none=>rw[hx]at hq;simp[rowLen]at hq
     |some x=>rw[hx]at hq;exact trunc_row x q.s hq
   | loc k=>
     simp only[e,St.root]at hq ⊢
     exact hq
   | box b c=>
     simp only[e,St.root,List.getElem?_map,List.getElem?_take]at hq ⊢
     by_cases hb:b<n
     ·simp only[hb,if_true]at hq;cases hx:σ.bx[b]? with
      |none=>rw[hx]at hq;simp[rowLen]at hq
      | some x=>
        rw[hx]at hq;cases x with
        | cells cs=>
          simp only[Option.map_some,Bx.trunc,List.getElem?_map]at hq ⊢
          cases hc:cs[c]? with
          |none=>rw[hc]at hq;simp[rowLen]at hq
          |some y=>rw[hc]at hq;exact trunc_rowL y q.s hq
        |map es=>simp[Bx.trunc,rowLen]at hq
        |gone=>simp[Bx.trunc,rowLen]at hq
     ·simp[hb,rowLen]at hq
   |hand k=>simp[e,St.root,rowLen]at hq
  refine⟨⟨fun k x hx=>?_,fun k x hx=>?_,fun b x hx=>?_,h.lt⟩,hls,fun _=>hlen⟩
  ·simp only[List.getElem?_map]at hx;cases hy:σ.vs[k]? with
   |none=>rw[hy]at hx;cases hx
   | some y=>
     rw[hy]at hx;simp only[Option.map_some,Oe]at hx;subst hx;have r:=h.vars k y hy
     have leaf:∀ (p:Pl) (z:A) (u:Value),RepL g w σ.view0 p z u->RepL g w ({σ with vs:=σ.vs.map (A.trunc n),bx:=(σ.bx.take n).map (Bx.trunc n)}:St).view0 p (A.truncL n z) u:=fun p z u r=>
      truncL_ok r rfl (by simp only[St.view0,hlen];exact Nat.le_refl _) hR
     have one:∀ z,z=y->(∀cs,z≠ .agg cs)->(∀cs,z≠ .tup cs)->RepL g w σ.view0 ⟨.var k,[]⟩ z (tv k)->RepT g w ({σ with vs:=σ.vs.map (A.trunc n),bx:=(σ.bx.take n).map (Bx.trunc n)}:St).view0 ⟨.var k,[]⟩ (A.truncL n z) (tv k):=fun z _ _ _ r=>
      repT_ofL (leaf _ z _ r)
     cases y
     case agg cs=>
      obtain⟨us,h1,h2,h3⟩:=r;refine⟨us,h1,by simp[h2],fun c x u hx hu=>?_⟩;rw[List.getElem?_map]at hx;cases hc:cs[c]? with
      |none=>rw[hc]at hx;cases hx
      |some z=>rw[hc]at hx;cases hx;exact leaf _ _ _ (h3 c z u hc hu)
     case tup cs=>trivial
     case top=>trivial
     case ud=>exact r
     all_goals exact one _ rfl (fun cs e=>by cases e) (fun cs e=>by cases e) r
  ·rw[hls]at hx;simp at hx
  ·simp only[List.getElem?_map,List.getElem?_take]at hx;split at hx
   ·rename_i hb;cases hy:σ.bx[b]? with
    |none=>rw[hy]at hx;cases hx
    | some y=>
      rw[hy]at hx;simp only[Option.map_some,Oe]at hx;subst hx;have k:=h.boxes b y hy
      simp only[hlen];cases y with
      | cells cs=>
        simp only[BoxOK,Bx.trunc]at k ⊢
        obtain⟨h1,cur,t,h2,h3,h4⟩:=k;refine⟨h1,cur,t,h2,by simp[h3],fun c x hx=>?_⟩;rw[List.getElem?_map]at hx;cases hc:cs[c]? with
        |none=>rw[hc]at hx;cases hx
        | some z=>
          rw[hc]at hx;cases hx;obtain⟨u,hu,hr⟩:=h4 c z hc;exact⟨u,hu,truncC_ok hr⟩
      |map es=>exact k
      |gone=>trivial
   ·cases hx
end Go.Ab
end
section
namespace Go.Ab
open Go.RowKit
variable {w:World} {tv tl:Nat->Value}
theorem findIdx_of{L:List (Option Nat)}{x:Option Nat}:∀ {j:Nat},L[j]?=some x->(L.take j).contains x=false->L.findIdx? (· ==x)=some j:=by
 induction L with
 |nil=>intro j h;simp at h
 | cons y ys ih=>
   intro j h hc;cases j with
   | zero=>
     simp at h;subst h;simp[List.findIdx?_cons]
   | succ j=>
     simp only[List.take_succ_cons,List.contains_cons,Bool.or_eq_false_iff]at hc;simp only[List.getElem?_cons_succ]at h;rw[List.findIdx?_cons]
     have hne:(y==x)=false:=by
      have:=hc.1;rw[beq_eq_false_iff_ne]at this ⊢
      exact fun e=>this e.symm
     rw[hne,ih h hc.2];rfl
theorem Inv.openLs{g:G}{σ:St}(h:Inv g σ w tv tl)(hls:σ.ls=[])(n:Nat)(tl':Nat->Value):Inv g {σ with ls:=List.replicate n .top} w tv tl':=by
 refine⟨fun k x hx=>?_,fun k x hx=>?_,fun b x hx=>h.boxes b x hx,h.lt⟩
 ·refine(h.vars k x hx).review rfl (fun q _ hq=>hq) (fun q hq _=>?_);right;refine R_of_root ?_;have:=var_noLoc h hx hq
  cases e:q.r with
  |loc k=>exact absurd e (this k)
  |_=>rfl
 ·simp only[List.getElem?_replicate]at hx;split at hx
  ·cases hx;trivial
  ·cases hx
section
variable {P:Program} {E:Nat->Option AF} {N:Nat}
theorem draw_start{c:TC}{ops:Array Oper}{D:List (List Nat)}{l:List (AOper×Option Nat)}{L:List (Option Nat)}{T:Nat->St×List (Nat×Nat)}(dc:DC P E N c ops D l L T)
  (h0l:(T 0).1.ls=List.replicate ops.size .top):∃ b m,SI ops D T (fun _=>false) 0 b m/\resS (T b).1 (l.map (·.2)) (fun _=>false) m=(T 0).1:=by
 obtain⟨b,n1,n2,n3,n4⟩:=next_full D ops.size ops.size 0 (by omega);have st:=stretch_ls (E:=E) (N:=N) (l:=l.map (·.1)) (lv:=l.map (·.2)) (D:=D) (T:=T) (Nat.le_refl 0) n1 fun i k1 k2=>⟨dc.st i (by omega),n3 i k1 k2⟩
 have hll:(T 0).1.ls.length=ops.size:=by rw[h0l];simp
 refine⟨b,(T 0).1.bx.length,?_,?_⟩
 ·refine{ab:=n1,bn:=n2,lo:=fun j hj=>by omega,hi:=fun j hj=>rfl,nf:=n3,fb:=n4,dn:=fun j hj=>by simp at hj,ll:=hll,tp:=fun j _ hj=>by rw[h0l,List.getElem?_replicate,if_pos hj],m0:=Nat.le_refl _,mkd:=fun k k1 k2 k3=>?_,rf:=fun k x hk=>by simp at hk}
  have:(T 0).1.bx.length<=(T k).1.bx.length:=by
   obtain⟨r,hr⟩:=(stretch_ls (E:=E) (N:=N) (l:=l.map (·.1)) (lv:=l.map (·.2)) (D:=D) (T:=T) (Nat.le_refl 0) k1 fun i q1 q2=>⟨dc.st i (by omega),n3 i q1 (by omega)⟩).bx;rw[hr];simp
  simp;omega
 ·have e1:setV (l.map (·.2)) (fun _=>false)=[]:=by
   unfold setV;rw[List.filterMap_eq_nil_iff];intro a _;simp
  have e2:maskF (fun _=>false) 0 (T b).1.ls=(T 0).1.ls:=by
   rw[h0l];apply List.ext_getElem?;intro j;rw[maskF_get,List.getElem?_replicate]
   by_cases hj:j<ops.size
   ·rw[Gg (by rw[st.len,hll];exact hj),if_pos hj];rfl
   ·rw[List.getElem?_eq_none (by rw[st.len,hll];omega),if_neg hj];rfl
  have e3:(T b).1.bx.take (T 0).1.bx.length=(T 0).1.bx:=by
   obtain⟨r,hr⟩:=st.bx;rw[hr];simp
  show(⟨clearV (T b).1.vs (setV (l.map (·.2)) fun _=>false),maskF (fun _=>false) 0 (T b).1.ls,(T b).1.bx.take (T 0).1.bx.length⟩:St)=_
  rw[e1,e2,e3,st.vs];rfl
def ESP(c:TC)(g:G)(σ σ':St)(w:World)(K:Act->World->Prop):Prop:=
 ∀g' w' a' tv',ES c g' σ' w' a' tv'->Later g w g' w'->Same w w'->BX g σ g' σ'->K a' w'
theorem regD_ok(hE:FnOK P E){n:Nat}(hC:∀ m,m<n->CallOK P E m)(hm:P.follows .mixedOrders=true){id:Nat}{ops:Array Oper}{nt:Nat}{vars:List Nat}{l:List (AOper×Option Nat)}
  (hr:TC.regD ⟨P,nt,vars,[]⟩ (depsOf ops.toList) 0 ops.toList=some l) (hd:depsOK ops.toList=true) {g:G} {σ σ1 σ2:St} {a:Act}
  (h1:adraw E n (l.map (·.2)) (depsOf ops.toList) 0 [] (l.map (·.1)) {σ with ls:=List.replicate (l.map (·.1)).length .top}=some σ1)
  (h2:flush 0 (l.map (·.2)) {σ1 with vs:=clearV σ1.vs (setV (l.map (·.2)) fun _=>true)}=some σ2) (hs:ES ⟨P,nt,vars,[]⟩ g σ w a tv)
  {Q:Exit->Act->World->Prop} (hK:ESP ⟨P,nt,vars,[]⟩ g σ {σ2 with ls:=[]} w (Q .normal)):(Code.region id ops true).wp P Q a w:=by
 obtain⟨L,tr⟩:=regD_DTr (c:=⟨P,nt,vars,[]⟩) hr;obtain⟨T,t1,t2,t3⟩:=adraw_trace (l:=l.map (·.1)) (N:=n) _ n 0 [] _ σ1 (Nat.le_refl _) rfl h1;have hln:(l.map (·.1)).length=ops.size:=by rw[List.length_map];exact tr.len
 rw[List.drop_zero,hln,Nat.zero_add]at t2 t3;rw[hln]at t1;have dc:DC P E n ⟨P,nt,vars,[]⟩ ops (depsOf ops.toList) l L T:=⟨hE,hC,rfl,tr,deps_ok hd,fun j hj=>t3 j (Nat.zero_le _) hj⟩
 obtain⟨b,m,si,hres⟩:=draw_start dc (by rw[t1])
 have hrep:(fun i=>(Array.replicate ops.size false).getD i false)=fun _=>false:=by
  funext i
  simp[Array.getD]
 refine wp_region_any hm ?_;refine draw_main dc _ _ a _ g tv (fun k=>match L[k]? with|some (some t)=>a.eval (.tmp t)|_=>undef) 0 b m (by simp) ?_ (by rw[hrep];exact si) ?_ ?_ hs.ok ?_
 ·unfold unl;rw[List.filter_eq_self.2]
  ·simp
  ·intro i hi;have:i<ops.size:=by simpa using hi
   simp[Array.getD,this]
 ·rw[hrep,hres,t1];refine(hs.I.openLs hs.ls ops.size (fun k=>match L[k]? with|some (some t)=>a.eval (.tmp t)|_=>undef)).keeps ?_
  exact { size:=Nat.le_refl _,free:=fun _ _ h => h,same:=fun _ _ _ => rfl,frn:=fun _ _ h => ⟨h,rfl⟩,blk:=rfl,hd:=fun _ _ => rfl,ow:=fun _ _ _ h => h,row:=fun _ _ _ _ => rfl,owb:=fun _ _ h => h,rowb:=fun _ _ _ => rfl,
          owt:=fun _ _ _ h=>h,rowt:=fun _ _ _ _=>rfl,lt:=fun h=>h}
 ·exact⟨hs.V,fun t k hk=>by simp only[findIdx_get hk],fun _=>rfl,fun _=>rfl⟩
 ·intro g' w' a' tv' tl' i1 L1 ok1 lt1 sm1 bx1 len1;rw[hrep,hres,t1]at bx1;rw[t2]at i1 bx1
  obtain ⟨g2,i2,l2,b2⟩:=flush_ok (l.map (·.2)) 0 g' _ σ2 h2 i1 (fun j n hj => by
   rw[Nat.zero_add]
   rw[List.getElem?_map]at hj
   cases hlj:l[j]? with
   |none=>rw[hlj]at hj;cases hj
   | some p=>
     obtain⟨oA,v⟩:=p
     rw[hlj]at hj
     simp only[Option.map_some,Oe]at hj
     subst hj
     have hjl:j<ops.size:=by rw[<-tr.len];exact(Ge hlj).1
     obtain⟨oA',v',q1,_,_,q4⟩:=tr.at_ j _ (Array.getElem?_eq_getElem hjl)
     rw[hlj]at q1
     cases q1
     rcases q4 with⟨_,_,_,q⟩|⟨t,_,_,q5,⟨n',_,_,_,_,q⟩|⟨n',q6,_,q7,q⟩|⟨_,_,_,q⟩⟩
     ·cases q
     ·cases q
     ·cases q
      rw[L1.l t j (findIdx_of q7 q5),L1.v t n q6]
     ·cases q)
  have i3:Inv g2 {σ2 with ls:=[]} w' tv' (fun _=>undef):=i2.dropLs _
  have lt2:Later g w g2 w':=by
   have:Later g w g' w':=⟨lt1.size,lt1.free,lt1.same,lt1.frn⟩;exact this.trans l2
  refine hK g2 w' a' tv' ⟨i3,L1.v,rfl,ok1⟩ lt2 ⟨sm1.1,sm1.2.1,sm1.2.2⟩ ?_;have b3:=bx1.trans b2
  exact⟨b3.le,b3.blk⟩
theorem regF_ok(hE:FnOK P E){n:Nat}(hC:∀ m,m<n->CallOK P E m){id:Nat}{ops:Array Oper}{nt:Nat}{vars:List Nat}{l:List AOper}
  (hr:TC.reg ⟨P,nt,vars,[]⟩ ops.toList=some l) {g:G} {σ σ1:St} {a:Act}
  (h1:aops E n l {σ with ls:=[]}=some σ1) (hs:ES ⟨P,nt,vars,[]⟩ g σ w a tv)
  {Q:Exit->Act->World->Prop} (hK:ESP ⟨P,nt,vars,[]⟩ g σ {σ1 with ls:=[]} w (Q .normal)):(Code.region id ops false).wp P Q a w:=by
 refine wp_region ?_
 have:=aops_ok (P:=P) (E:=E) (ops:=ops) (Q:=Q) ops.toList n 0 ⟨P,nt,vars,[]⟩ g {σ with ls:=[]} σ1 w a tv (fun _=>undef) l (by simp) hr h1
  (fun m hm=>op_sound hE fun k hk=>hC k (by omega)) rfl rfl (fun j t hj=>by simp at hj) (fun j t hj=>by simp at hj)
  ⟨hs.I.dropLs _,⟨hs.V,fun t k hk=>by simp at hk,fun _=>rfl,fun _=>rfl⟩,hs.ok.sz,rfl,hs.ok.df⟩
  (fun c' g' w' a' tv' tl' e1 e2 r lt sm bx => by
    refine hK g' w' a' tv' ⟨r.I.dropLs _,fun t k hk=>r.L.v t k (by rw[e1];exact hk),rfl,⟨by rw[r.sz,e2],r.df⟩⟩ lt sm ⟨bx.le,bx.blk⟩)
 simpa using this
end
end Go.Ab
end
section
namespace Go.Ab
open Go.RowKit
variable {w:World} {tv tl:Nat->Value}
def exitOf:Ex->Exit
 | .normal=> .normal
 | .exit i=> .exit i
 | .goto l=> .goto l
 | .ret=> .ret
def jumpQ(c:Code)(J:Code->Act->World->Prop)(Q:Exit->Act->World->Prop):Exit->Act->World->Prop
 | .goto l,a,w=>match findLabel c l with
   |some r=>J r a w
   |none=>Q (.goto l) a w
 |e,a,w=>Q e a w
def jumps(P:Program)(c:Code)(Q:Exit->Act->World->Prop):Nat->Code->Act->World->Prop
 |0,_,_,_=>False
 |n+1,r,a,w=>r.wp P (jumpQ c (jumps P c Q n) Q) a w
theorem wp_scope_rounds{P:Program}{Q:Exit->Act->World->Prop}{a:Act}{w:World}{c:Code}(n:Nat)(h:jumps P c Q n c a w):(Code.scope c).wp P Q a w:=by
 intro b k cs
 have key:∀ n r a w,jumps P c Q n r a w-> ∃e a' w',Q e a' w'/\Arrives P (lone (b.at a (.code r:: .inScope c::k)) cs w) b k cs e a' w':=by
  intro n
  induction n with
  |zero=>intro r a w h;exact h.elim
  | succ n ih=>
    intro r a w h;obtain⟨e,a₁,w₁,hq,harr⟩:=h b (.inScope c::k) cs;cases e with
    |normal=>exact⟨.normal,a₁,w₁,hq,Steps.trans harr (.one step_inScope)⟩
    |exit id=>exact⟨.exit id,a₁,w₁,hq,fun k' hk=>harr k' (by simp[exitTo,hk])⟩
    | goto l=>
      simp only[jumpQ]at hq;split at hq
      ·rename_i r' hf;obtain⟨e₂,a₂,w₂,hq₂,harr₂⟩:=ih r' a₁ w₁ hq;exact⟨e₂,a₂,w₂,hq₂,.of_steps (harr _ (by simp[gotoIn,hf])) harr₂⟩
      ·rename_i hf;exact⟨.goto l,a₁,w₁,hq,fun k' hk=>harr k' (by simp[gotoIn,hf,hk])⟩
    |ret=>exact⟨_,a₁,w₁,hq,harr⟩
    |panic ch=>exact⟨_,a₁,w₁,hq,harr⟩
    |outgrown=>exact⟨_,a₁,w₁,hq,harr⟩
 obtain⟨e,a',w',hq,harr⟩:=key n c a w h;exact⟨e,a',w',hq,.of_steps (.one step_scope) harr⟩
def AC.isFrz:AC->Bool
 | .frz _ _=>true
 |_=>false
theorem strip_seq{x y:AC}(h:x.isFrz=false):(AC.seq x y).strip= .seq x.strip y.strip:=by
 cases x<;>first|rfl|cases h
section
variable {P:Program} {nt:Nat} {vars:List Nat} {dead:Nat->List Nat} {b:Nat}
theorem trC_frz(c:Code):(trC P nt vars dead b c).isFrz=false:=by
 cases c<;>try rfl
 case region id ops dr=>
  cases dr<;>simp only[trC]<;>split<;>first|rfl|(split<;>rfl)
 case cond=>simp only[trC];split<;>rfl
def Like(P:Program)(nt:Nat)(vars:List Nat)(dead:Nat->List Nat)(b:Nat)(x:AC)(c:Code):Prop:=x.strip=(trC P nt vars dead b c).strip
theorem trC_seq{x y:Code}:(trC P nt vars dead b (.seq x y)).strip= .seq (trC P nt vars dead b x).strip (trC P nt vars dead b y).strip:=by
 simp only[trC];exact strip_seq (trC_frz x)
theorem like_frz{k:Nat}{zs:List Nat}{y:AC}{c:Code}(h:Like P nt vars dead b (.seq (.frz k zs) y) c):Like P nt vars dead b y c:=h
def Inverse(P:Program)(nt:Nat)(vars:List Nat)(dead:Nat->List Nat)(b:Nat)(c:Code):AC->Prop
 | .skip=>c= .skip
 | .reg l none=> ∃id ops,c= .region id ops false/\TC.reg ⟨P,nt,vars,[]⟩ ops.toList=some l
 | .reg l (some (D,lv))=> ∃id ops ll,c= .region id ops true/\TC.regD ⟨P,nt,vars,[]⟩ (depsOf ops.toList) 0 ops.toList=some ll/\depsOK ops.toList=true/\l=ll.map (·.1)/\D=depsOf ops.toList/\lv=ll.map (·.2)
 | .frz _ _=>False
 | .seq x y=> ∃cx cy,c= .seq cx cy/\x=(trC P nt vars dead b cx).strip/\y=(trC P nt vars dead b cy).strip
 | .cond d x y=> ∃o cx cy,c= .cond o cx cy/\TC.opd ⟨P,nt,vars,[]⟩ o=some d/\x=(trC P nt vars dead b cx).strip/\y=(trC P nt vars dead b cy).strip
 | .block id x=> ∃cx,c= .block id cx/\x=(trC P nt vars dead id cx).strip
 | .loop _ x=> ∃cx,c= .loop cx/\x=(trC P nt vars dead b cx).strip
 | .exit id=>c= .exit id
 | .scope x y=> ∃cx,c= .scope cx/\x=(trC P nt vars dead b cx).strip/\y=(trC P nt vars dead b cx).strip
 | .label l=>c= .label l
 | .goto l=>c= .goto l
 | .ret=>c= .ret
 | .no=>True
theorem inverse(c:Code):Inverse P nt vars dead b c (trC P nt vars dead b c).strip:=by
 cases c
 case region id ops dr=>
  cases dr<;>simp only[trC]<;>split
  ·rename_i l h;exact⟨id,ops,rfl,h⟩
  ·trivial
  ·rename_i l h;split
   ·rename_i hd;exact⟨id,ops,l,rfl,h,hd,rfl,rfl,rfl⟩
   ·trivial
  ·trivial
 case seq x y=>
  rw[trC_seq];exact⟨x,y,rfl,rfl,rfl⟩
 case cond o x y=>
  simp only[trC];split
  ·rename_i d h;exact⟨o,x,y,rfl,h,rfl,rfl⟩
  ·trivial
 case block id x=>exact⟨x,rfl,rfl⟩
 case loop x=>exact⟨x,rfl,rfl⟩
 case scope x=>exact⟨x,rfl,rfl,rfl⟩
 case skip=>rfl
 case exit=>rfl
 case label=>rfl
 case goto=>rfl
 case ret=>rfl
 case rangeFunc=>trivial
 case refuse=>trivial
theorem Like.inv{x:AC}{c:Code}(h:Like P nt vars dead b x c):Inverse P nt vars dead b c x.strip:=by
 rw[h];exact inverse c
theorem findL_ok:∀ (x:AC) (c:Code) (l:Nat),Like P nt vars dead b x c->(∀r,findL x l=some r->r.isFrz=false/\ ∃r',findLabel c l=some r'/\Like P nt vars dead b r r')/\(findL x l=none->findLabel c l=none):=by
 intro x
 induction x with
 | seq x y ihx ihy=>
   intro c l h;cases hf:x.isFrz with
   | true=>
     cases x<;>simp[AC.isFrz]at hf;have:=ihy c l (like_frz h)
     simpa[findL]using this
   | false=>
     have hi:=h.inv;rw[strip_seq hf]at hi;obtain⟨cx,cy,rfl,e1,e2⟩:=hi;obtain⟨p1,p2⟩:=ihx cx l e1;obtain⟨q1,q2⟩:=ihy cy l e2;simp only[findL,findLabel];cases h1:findL x l with
     | some r=>
       obtain⟨f,r',k1,k2⟩:=p1 r h1;rw[k1];refine⟨fun s hs=>?_,fun hs=>by cases hs⟩;simp only[Oe]at hs;subst hs;refine⟨rfl,_,rfl,?_⟩;unfold Like;rw[strip_seq f,trC_seq,k2,e2]
     | none=>
       rw[p2 h1];exact⟨q1,q2⟩
 | label l'=>
   intro c l h;have hi:c= .label l':=h.inv
   subst hi;simp only[findL,findLabel];split
   ·exact⟨fun s hs=>(by cases hs;exact⟨rfl,_,rfl,rfl⟩),fun hs=>(by cases hs)⟩
   ·exact⟨fun s hs=>(by cases hs),fun _=>rfl⟩
 |skip=>intro c l h;have hi:c= .skip:=h.inv;subst hi;exact⟨fun r hr=>by simp[findL]at hr,fun _=>rfl⟩
 |exit id=>intro c l h;have hi:c= .exit id:=h.inv;subst hi;exact⟨fun r hr=>by simp[findL]at hr,fun _=>rfl⟩
 |goto id=>intro c l h;have hi:c= .goto id:=h.inv;subst hi;exact⟨fun r hr=>by simp[findL]at hr,fun _=>rfl⟩
 |ret=>intro c l h;have hi:c= .ret:=h.inv;subst hi;exact⟨fun r hr=>by simp[findL]at hr,fun _=>rfl⟩
 |frz k=>intro c l h;exact(h.inv:False).elim
 | reg ops dr=>
   intro c l h;have hi:=h.inv
   refine⟨fun r hr=>by simp[findL]at hr,fun _=>?_⟩;cases dr with
   |none=>obtain⟨id,os,rfl,_⟩:=hi;rfl
   |some p=>obtain⟨D,lv⟩:=p;obtain⟨id,os,ll,rfl,_⟩:=hi;rfl
 |cond d x y _ _=>intro c l h;obtain⟨o,cx,cy,rfl,_⟩:=h.inv;exact⟨fun r hr=>by simp[findL]at hr,fun _=>rfl⟩
 |block id x _=>intro c l h;obtain⟨cx,rfl,_⟩:=h.inv;exact⟨fun r hr=>by simp[findL]at hr,fun _=>rfl⟩
 |loop d x _=>intro c l h;obtain⟨cx,rfl,_⟩:=h.inv;exact⟨fun r hr=>by simp[findL]at hr,fun _=>rfl⟩
 |scope x y _ _=>intro c l h;obtain⟨cx,rfl,_⟩:=h.inv;exact⟨fun r hr=>by simp[findL]at hr,fun _=>rfl⟩
 | no=>
   intro c l h;refine⟨fun r hr=>by simp[findL]at hr,fun _=>?_⟩;have h':AC.no=(trC P nt vars dead b c).strip:=h
   cases c<;>first|rfl|skip
   case seq x y=>rw[trC_seq]at h';cases h'
   case label=>simp[trC,AC.strip]at h'
end
section
variable {P:Program} {E:Nat->Option AF} {nt:Nat} {vars:List Nat} {dead:Nat->List Nat}
theorem ES.clr{c:TC}{g:G}{σ:St}{a:Act}(h:ES c g σ w a tv)(ns:List Nat):ES c g {σ with vs:=clearV σ.vs ns} w a tv:=⟨h.I.clear ns,h.V,h.ls,h.ok⟩
theorem Nat.lts{n m:Nat}(h:m<n):m<n+1:=by omega
theorem exec_ok(hE:FnOK P E)(hm:P.follows .mixedOrders=true):∀ (n:Nat),(∀m,m<n->CallOK P E m)-> ∀(b:Nat) (x:AC) (c:Code) (g:G) (σ σ':St) (e:Ex) (w:World) (a:Act) (tv:Nat->Value) (Q:Exit->Act->World->Prop),
  ES ⟨P,nt,vars,[]⟩ g σ w a tv->ESP ⟨P,nt,vars,[]⟩ g σ σ' w (Q (exitOf e))->
  (aexec E n x σ=some (e,σ')->Like P nt vars dead b x c->c.wp P Q a w)/\
  (∀d,aexec E n (.loop d x) σ=some (e,σ')->Like P nt vars dead b x c->Code.rounds P c Q n a w)/\
  (∀y r,aexec E n (.scope x y) σ=some (e,σ')->Like P nt vars dead b x c->Like P nt vars dead b y r->jumps P c Q n r a w)
 |0,_,b,x,c,g,σ,σ',e,w,a,tv,Q,_,_=>⟨fun h=>by simp[aexec]at h,fun d h=>by simp[aexec]at h,fun y r h=>by simp[aexec]at h⟩
 | n+1,hC,b,x,c,g,σ,σ',e,w,a,tv,Q,hs,hK=>by
   have hC':∀ m,m<n->CallOK P E m:=fun m hm=>hC m (Nat.lts hm);have ih:=fun b x c g σ σ' e w a tv Q hs hK=>exec_ok hE hm n hC' b x c g σ σ' e w a tv Q hs hK
   -- the same outcome,by another road
   have pass:∀ {g g':G} {σ σ1:St} {w w':World} {K:Act->World->Prop} {σ2:St},Later g w g' w'->Same w w'->BX g σ g' σ1->ESP ⟨P,nt,vars,[]⟩ g σ σ2 w K->ESP ⟨P,nt,vars,[]⟩ g' σ1 σ2 w' K:=
    fun l s bx h g'' w'' a'' tv'' e1 e2 e3 e4=>h g'' w'' a'' tv'' e1 (l.trans e2) (s.trans e3) (bx.trans e4)
   have loopOK:∀ (b:Nat) (x:AC) (c:Code) (g:G) (σ σ':St) (e:Ex) (w:World) (a:Act) (tv:Nat->Value) (Q:Exit->Act->World->Prop) (d:List Nat),ES ⟨P,nt,vars,[]⟩ g σ w a tv->ESP ⟨P,nt,vars,[]⟩ g σ σ' w (Q (exitOf e))->
     aexec E (n+1) (.loop d x) σ=some (e,σ')->Like P nt vars dead b x c->Code.rounds P c Q (n+1) a w:=by
    intro b x c g σ σ' e w a tv Q d hs hK h hl;simp only[aexec]at h;simp only[Code.rounds];cases h1:aexec E n x {σ with vs:=clearV σ.vs d}with
    |none=>rw[h1]at h;cases h
    | some p=>
      obtain⟨e0,σ1⟩:=p;rw[h1]at h;refine(ih b x c g _ σ1 e0 w a tv _ (hs.clr d) ?_).1 h1 hl;intro g1 w1 a1 tv1 s1 l1 m1 b1;have b1':BX g σ g1 σ1:=⟨b1.le,b1.blk⟩
      cases e0 with
      | normal=>
        simp only[exitOf,Exit.then];obtain⟨t1,t2,t3⟩:=s1.I.trunc (n:=σ.bx.length) s1.ls;have b2:BX g σ g1 (σ1.trunc σ.bx.length):=⟨Nat.le_of_eq (t3 b1'.le).symm,b1'.blk⟩
        exact(ih b x c g1 (σ1.trunc σ.bx.length) σ' e w1 a1 tv1 Q ⟨t1,s1.V,t2,s1.ok⟩ (pass l1 m1 b2 hK)).2.1 d h hl
      |exit i=>simp only[Oe,Prod.mk.injEq]at h;obtain⟨rfl,rfl⟩:=h;exact hK g1 w1 a1 tv1 s1 l1 m1 b1'
      |goto i=>simp only[Oe,Prod.mk.injEq]at h;obtain⟨rfl,rfl⟩:=h;exact hK g1 w1 a1 tv1 s1 l1 m1 b1'
      |ret=>simp only[Oe,Prod.mk.injEq]at h;obtain⟨rfl,rfl⟩:=h;exact hK g1 w1 a1 tv1 s1 l1 m1 b1'
   have scopeOK:∀ (b:Nat) (x:AC) (c:Code) (g:G) (σ σ':St) (e:Ex) (w:World) (a:Act) (tv:Nat->Value) (Q:Exit->Act->World->Prop) (y:AC) (r:Code),ES ⟨P,nt,vars,[]⟩ g σ w a tv->ESP ⟨P,nt,vars,[]⟩ g σ σ' w (Q (exitOf e))->
     aexec E (n+1) (.scope x y) σ=some (e,σ')->Like P nt vars dead b x c->Like P nt vars dead b y r->jumps P c Q (n+1) r a w:=by
    intro b x c g σ σ' e w a tv Q y r hs hK h hl hr;simp only[aexec]at h;simp only[jumps];cases h1:aexec E n y σ with
    |none=>rw[h1]at h;cases h
    | some p=>
      obtain⟨e0,σ1⟩:=p;rw[h1]at h;refine(ih b y r g _ σ1 e0 w a tv _ hs ?_).1 h1 hr;intro g1 w1 a1 tv1 s1 l1 m1 b1;cases e0 with
      | goto i=>
        simp only[exitOf,jumpQ];simp only at h;obtain⟨f1,f2⟩:=findL_ok (dead:=dead) (b:=b) x c i hl;cases hf:findL x i with
        | some y'=>
          rw[hf]at h;obtain⟨_,r',k1,k2⟩:=f1 y' hf;rw[k1];exact(ih b x c g1 σ1 σ' e w1 a1 tv1 Q s1 (pass l1 m1 b1 hK)).2.2 y' r' h hl k2
        | none=>
          rw[hf]at h;rw[f2 hf];simp only[Oe,Prod.mk.injEq]at h;obtain⟨rfl,rfl⟩:=h;exact hK g1 w1 a1 tv1 s1 l1 m1 b1
      |normal=>simp only[Oe,Prod.mk.injEq]at h;obtain⟨rfl,rfl⟩:=h;exact hK g1 w1 a1 tv1 s1 l1 m1 b1
      |exit i=>simp only[Oe,Prod.mk.injEq]at h;obtain⟨rfl,rfl⟩:=h;exact hK g1 w1 a1 tv1 s1 l1 m1 b1
      |ret=>simp only[Oe,Prod.mk.injEq]at h;obtain⟨rfl,rfl⟩:=h;exact hK g1 w1 a1 tv1 s1 l1 m1 b1
   refine⟨fun h hl=>?_,fun d h hl=>loopOK b x c g σ σ' e w a tv Q d hs hK h hl,fun y r h hl hr=>scopeOK b x c g σ σ' e w a tv Q y r hs hK h hl hr⟩
   ·have hi:=hl.inv
    have here:∀ {e0:Ex},some (e0,σ)=some (e,σ')->Q (exitOf e0) a w:=by
     intro e0 h;simp only[Oe,Prod.mk.injEq]at h;obtain⟨rfl,rfl⟩:=h;exact hK g w a tv hs (Later.refl _ _) (Same.refl w) (BX.refl _ _)
    cases x
    case skip=>have e0:c= .skip:=hi;subst e0;exact wp_skip (here h)
    case label l=>have e0:c= .label l:=hi;subst e0;exact wp_label (here h)
    case exit id=>have e0:c= .exit id:=hi;subst e0;exact wp_exit (here h)
    case goto l=>have e0:c= .goto l:=hi;subst e0;exact wp_goto (here h)
    case ret=>have e0:c= .ret:=hi;subst e0;exact wp_ret (here h)
    case no=>simp[aexec]at h
    case frz k=>exact(hi:False).elim
    case reg l dr=>
     cases dr with
     | none=>
       obtain⟨id,ops,rfl,hr⟩:=hi;simp only[aexec]at h;split at h
       ·rename_i σ1 h1;simp only[Oe,Prod.mk.injEq]at h;obtain⟨rfl,rfl⟩:=h;exact regF_ok hE hC' hr h1 hs hK
       ·cases h
     | some p=>
       obtain⟨D,lv⟩:=p;obtain⟨id,ops,ll,rfl,hr,hd,rfl,rfl,rfl⟩:=hi;simp only[aexec]at h;split at h
       ·rename_i σ1 h1;split at h
        ·rename_i σ2 h2;simp only[Oe,Prod.mk.injEq]at h;obtain⟨rfl,rfl⟩:=h;exact regD_ok hE hC' hm hr hd h1 h2 hs hK
        ·cases h
       ·cases h
    case seq x y=>
     cases hf:x.isFrz with
     | true=>
       cases x<;>simp[AC.isFrz]at hf;rename_i k zs;simp only[aexec]at h;cases n with
       |zero=>simp[aexec]at h
       | succ n=>
         have e0:aexec E (n+1) (.frz k zs) σ=some (.normal,σ.frz k zs):=rfl;rw[e0]at h;simp only at h;obtain⟨g1,m1⟩:=frz_ms hs.I k zs
         have s1:ES ⟨P,nt,vars,[]⟩ g1 (σ.frz k zs) w a tv:=⟨m1.inv,hs.V,by
          have:=m1.nl
          rw[hs.ls]at this
          exact List.length_eq_zero_iff.1 this,hs.ok⟩
         have p:=pass (K:=Q (exitOf e)) (σ2:=σ') m1.toLater (Same.refl w) (BX.same m1.blk m1.nb) hK;exact(ih b y c g1 (σ.frz k zs) σ' e w a tv Q s1 p).1 h (like_frz hl)
     | false=>
       rw[strip_seq hf]at hi;obtain⟨cx,cy,rfl,e1,e2⟩:=hi;refine wp_seq ?_;simp only[aexec]at h;cases h1:aexec E n x σ with
       |none=>rw[h1]at h;cases h
       | some p=>
         obtain⟨e0,σ1⟩:=p;rw[h1]at h;refine(ih b x cx g σ σ1 e0 w a tv _ hs ?_).1 h1 e1;intro g1 w1 a1 tv1 s1 l1 m1 b1;cases e0 with
         | normal=>
           simp only[exitOf,Exit.then];exact(ih b y cy g1 σ1 σ' e w1 a1 tv1 Q s1 (pass l1 m1 b1 hK)).1 h e2
         |exit i=>simp only[Oe,Prod.mk.injEq]at h;obtain⟨rfl,rfl⟩:=h;exact hK g1 w1 a1 tv1 s1 l1 m1 b1
         |goto i=>simp only[Oe,Prod.mk.injEq]at h;obtain⟨rfl,rfl⟩:=h;exact hK g1 w1 a1 tv1 s1 l1 m1 b1
         |ret=>simp only[Oe,Prod.mk.injEq]at h;obtain⟨rfl,rfl⟩:=h;exact hK g1 w1 a1 tv1 s1 l1 m1 b1
    case cond d x y=>
     obtain⟨o,cx,cy,rfl,ho,e1,e2⟩:=hi;simp only[aexec]at h;split at h
     ·rename_i t hrd;have hL:Lk ⟨P,nt,vars,[]⟩ a.eval tv (fun _=>undef):=⟨hs.V,fun t k hk=>by simp at hk,fun _=>rfl,fun _=>rfl⟩
      have hv:=repT_v (rd_ok hL hs.I ho hrd hand0).1;refine wp_cond hv ?_;cases t with
      |true=>exact(ih b x cx g σ σ' e w a tv Q hs hK).1 h e1
      |false=>exact(ih b y cy g σ σ' e w a tv Q hs hK).1 h e2
     ·cases h
    case block id x=>
     obtain⟨cx,rfl,e1⟩:=hi;refine wp_block ?_;simp only[aexec]at h;cases h1:aexec E n x σ with
     |none=>rw[h1]at h;cases h
     | some p=>
       obtain⟨e0,σ1⟩:=p;rw[h1]at h;refine(ih id x cx g σ σ1 e0 w a tv _ hs ?_).1 h1 e1;intro g1 w1 a1 tv1 s1 l1 m1 b1;cases e0 with
       | exit i=>
         simp only[exitOf,Exit.inBlock];simp only at h;split at h
         ·rename_i hi0;rw[if_pos hi0];simp only[Oe,Prod.mk.injEq]at h;obtain⟨rfl,rfl⟩:=h;exact hK g1 w1 a1 tv1 s1 l1 m1 b1
         ·rename_i hi0;rw[if_neg hi0];simp only[Oe,Prod.mk.injEq]at h;obtain⟨rfl,rfl⟩:=h;exact hK g1 w1 a1 tv1 s1 l1 m1 b1
       |normal=>simp only[Oe,Prod.mk.injEq]at h;obtain⟨rfl,rfl⟩:=h;exact hK g1 w1 a1 tv1 s1 l1 m1 b1
       |goto i=>simp only[Oe,Prod.mk.injEq]at h;obtain⟨rfl,rfl⟩:=h;exact hK g1 w1 a1 tv1 s1 l1 m1 b1
       |ret=>simp only[Oe,Prod.mk.injEq]at h;obtain⟨rfl,rfl⟩:=h;exact hK g1 w1 a1 tv1 s1 l1 m1 b1
    case loop d x=>
     obtain⟨cx,rfl,e1⟩:=hi;refine wp_loop_rounds (n+1) ?_;exact loopOK b x cx g σ σ' e w a tv Q d hs hK h e1
    case scope x y=>
     obtain⟨cx,rfl,e1,e2⟩:=hi;refine wp_scope_rounds (n+1) ?_;exact scopeOK b x cx g σ σ' e w a tv Q y cx hs hK h e1 e2
end
end Go.Ab
end
