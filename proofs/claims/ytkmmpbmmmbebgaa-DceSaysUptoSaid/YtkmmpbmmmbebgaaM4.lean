/- The abstract machine and its soundness, part 4: what it says of the model's runs holds for every program whose functions it has. -/
import Derived.Test.YtkmmpbmmmbebgaaM3
import Derived.WalkKit
import Derived.ProofKit
import Derived.OpenShut
import Derived.ShutString
import Derived.ChangeOld
import Derived.Carry
import Derived.SizedLaws
import Derived.WideShapes
import Derived.Test.YtkmmpbmmmbebgaaM1
set_option linter.all false
section
namespace Go.Ab
open Go.RowKit
variable {w:World} {tv tl:Nat->Value}
def resM(tmps:Array Value):ResultVar->Sem Value
 | .tmp t=>pure (tmps.getD t undef)
 | .cell a t=>do loadVar t (<-asAddr (tmps.getD a undef))
theorem run_mapM_all{P:Program}{α β:Type}(f:α->Sem β):∀ (l:List α) (us:List β),l.length=us.length->(∀(i:Nat) x u,l[i]?=some x->us[i]?=some u->(f x).run P w= .ok u w)->(l.mapM f).run P w= .ok us w
 |[],[],_,_=>by simp
 |[],_::_,h,_=>by simp at h
 |_::_,[],h,_=>by simp at h
 | x::l,u::us,h,hf=>by
   have h0:=hf 0 x u rfl rfl;have h1:=run_mapM_all f l us (by simpa using h) fun i y v hy hv=>hf (i+1) y v (by simpa using hy) (by simpa using hv)
   simp[List.mapM_cons,h0,h1]
theorem run_results{P:Program}{fn:Func}{tmps:Array Value}{us:List Value}(hl:fn.results.size=us.length)(h:∀ (i:Nat) x u,fn.results.toList[i]?=some x->us[i]?=some u->(resM tmps x).run P w= .ok u w):
  (results fn tmps).run P w= .ok (if h:us.length=1 then us[0]else .tuple us.toArray) w:=by
 have e:results fn tmps = (do
   let vs<-fn.results.mapM (resM tmps)
   pure (if h:vs.size=1 then vs[0]else .tuple vs)):=rfl
 rw[e,Array.mapM_eq_mapM_toList];have:=run_mapM_all (P:=P) (resM tmps) fn.results.toList us (by simpa using hl) h
 simp[this]
theorem kept_set{x:A}(h:x.kept=true):setA x=true:=by
 cases x<;>simpa[A.kept,setA]using h
theorem set_setT{x:A}(h:setA x=true):setT x=true:=by
 cases x<;>first
  |exact h
  |(simp[setA,A.loose]at h;done)
theorem set_noTup{x:A}(h:setA x=true):∀ cs,x≠ .tup cs:=by
 rintro cs rfl;simp[setA,A.loose]at h
theorem set_repA{g:G}{V:Vw}{p:Pl}{x:A}{v:Value}(h:setA x=true)(r:RepT g w V p x v):RepA g w V p x v:=by
 cases x<;>first
  |exact r
  |(simp[setA,A.loose]at h;done)
theorem repA_set{g:G}{V V':Vw}{p:Pl}{x:A}{v:Value}(h:setA x=true)(hv:V'.nb=V.nb)(r:RepA g w V p x v):RepA g w V' p x v:=by
 have leaf:∀ (p:Pl) (x:A) (v:Value),x.loose=false->RepL g w V p x v->RepL g w V' p x v:=fun p x v h r=>by
  have:=repL_set h r;rw[<-hv]at this;exact RepC.toL this
 cases x
 case agg cs=>
  obtain⟨us,h1,h2,h3⟩:=r;refine⟨us,h1,h2,fun c x u hx hu=>leaf _ _ _ ?_ (h3 c x u hx hu)⟩;simp only[setA,List.all_eq_true]at h;simpa using h x (Mg hx)
 all_goals (simp only[setA,Bool.not_eq_true']at h;simp only[RepA]at r ⊢;exact leaf p _ v h r)
section
variable {P:Program} {E:Nat->Option AF} {vars:List Nat} {a:Act}
def trRes(P:Program)(vars:List Nat):ResultVar->ARes
 | .tmp t=> .var (idxV vars t)
 | .cell a t=> .cell (idxV vars a) (isAggT P t) (P.cellsOf t)
def rdRes(σ:St):ARes->Option A
 | .var t=>σ.rd (.t t)
 | .cell t agg n=>match σ.rd (.t t)with
   | some a=>match loadA σ n a with
     |some cs=>if agg then some (.agg cs)else cs[0]?
     |none=>none
   |none=>none
theorem idxV_ok{t:Nat}(h:vars.contains t=true):vars.findIdx? (· ==t)=some (idxV vars t):=by
 unfold idxV;cases hf:vars.findIdx? (· ==t)with
 |some n=>rfl
 | none=>
   rw[List.findIdx?_eq_none_iff]at hf;have:=hf t (by simpa using h)
   simp at this
theorem rdRes_ok{g:G}{σ:St}(hi:Inv g σ w tv (fun _=>undef))(hV:∀ t n,vars.findIdx? (· ==t)=some n->tv n=a.eval (.tmp t)){r:ResultVar}(hr:resOK P vars r=true){y:A}(hy:rdRes σ (trRes P vars r)=some y):
  ∃u,(resM a.tmps r).run P w= .ok u w/\(∀q,RepT g w σ.view q y u)/\lightT y=true:=by
 have var:∀ {t:Nat} {y:A},vars.contains t=true->σ.rd (.t (idxV vars t))=some y->(∀q,RepT g w σ.view q y (a.tmps.getD t undef))/\lightT y=true:=by
  intro t y ht hy;have hL:Lk (⟨P,0,vars,[]⟩:TC) a.eval tv (fun _=>undef):=⟨hV,fun t k hk=>by simp at hk,fun _=>rfl,fun _=>rfl⟩
  have ho:(⟨P,0,vars,[]⟩:TC).opd (.tmp t)=some (.t (idxV vars t)):=by simp[TC.opd,idxV_ok ht]
  have k:=fun q=>rd_ok (tl:=fun _=>undef) hL hi ho hy q;exact⟨fun q=>(k q).1,(k hand0).2⟩
 cases r with
 | tmp t=>
   simp only[resOK]at hr;obtain⟨h1,h2⟩:=var hr hy;exact⟨_,rfl,h1,h2⟩
 | cell x t=>
   simp only[resOK,Bool.and_eq_true]at hr;simp only[trRes,rdRes]at hy;split at hy
   ·rename_i b hb;obtain⟨h1,h2⟩:=var hr.1 hb;split at hy
    ·rename_i cs hcs;obtain⟨i,hinf⟩:=info_of_underlying hr.2;obtain⟨b,off,us,e,l1,l2,l3,l4⟩:=loadA_ok hi hcs (h1 hand0);split at hy
     ·rename_i hag;simp only[Oe]at hy;subst hy;refine⟨.agg us.toArray,?_,fun q=>⟨us,rfl,l1.trans l2.symm,fun c x u hx hu=>(l4 c x u hx hu _).1⟩,?_⟩
      ·have:=run_loadCells_list (P:=P) w ⟨b,off,none⟩ us (fun j v hv=>by rw[add_lit];exact l3 j v hv);rw[l2]at this;simp[resM,e,asAddr,loadVar,run_isAgg hr.2,hag,run_sizeOf hinf,this]
      ·simp only[lightT,lightA,List.all_eq_true];intro x hx;obtain⟨c,hc⟩:=List.mem_iff_getElem?.1 hx;have hcl:c<us.length:=by have:=(Ge hc).1;omega
       exact(l4 c x _ hc (Gg hcl) hand0).2
     ·rename_i hag;have hl0:0<us.length:=by have:=(Ge hy).1;omega
      have hu0:us[0]?=some us[0]:=Gg hl0;have:=l3 0 _ hu0
      refine⟨us[0],?_,fun q=>repT_ofL (l4 0 _ _ hy hu0 _).1,?_⟩
      ·simp only[Nat.add_zero]at this;simp[resM,e,asAddr,loadVar,run_isAgg hr.2,hag,this]
      ·have:=(l4 0 _ _ hy hu0 hand0).2;cases y<;>simp_all [lightT,lightA,A.light]
    ·cases hy
   ·cases hy
theorem resA_cons{σ:St}{r:ARes}{rs:List ARes}{ys:List A}{σ':St}(h:resA σ (r::rs)=some (ys,σ')):
  ∃y y' σ1 ys',rdRes σ r=some y/\mat σ y=some (y',σ1)/\y'.kept=true/\resA σ1 rs=some (ys',σ')/\ys=y'::ys':=by
 have e:resA σ (r::rs)=match rdRes σ r with
  | some y=>match mat σ y with
    |some (y,σ)=>if A.kept y then match resA σ rs with|some (ys,σ)=>some (y::ys,σ)|none=>none else none
    |none=>none
  |none=>none:=by
  cases r<;>rfl
 rw[e]at h;split at h
 ·rename_i y hy;split at h
  ·rename_i y' σ1 hm;split at h
   ·rename_i hk;split at h
    ·rename_i ys' σ2 hr;simp only[Oe,Prod.mk.injEq]at h;obtain⟨rfl,rfl⟩:=h;exact⟨y,y',σ1,ys',hy,hm,hk,hr,rfl⟩
    ·cases h
   ·cases h
  ·cases h
 ·cases h
theorem resA_ok(hV:∀ t n,vars.findIdx? (· ==t)=some n->tv n=a.eval (.tmp t)):∀ (rs:List ResultVar) (k:Nat) (g:G) (σ:St) (ys:List A) (σ':St),Inv g σ w tv (fun _=>undef)->(∀r,r∈rs->resOK P vars r=true)->
  resA σ (rs.map (trRes P vars))=some (ys,σ')->
  ∃(g':G) (us:List Value),MS w tv (fun _=>undef) True (fun r=> ∃j,k<=j/\(hand0.at j 0).under r) g σ g' σ'/\ys.length=us.length/\rs.length=us.length/\(∀(i:Nat) r u,rs[i]?=some r->us[i]?=some u->(resM a.tmps r).run P w= .ok u w)/\
   ∀(i:Nat) y u,ys[i]?=some y->us[i]?=some u->setA y=true/\RepT g' w σ'.view (hand0.at (k+i) 0) y u
 | [],k,g,σ,ys,σ',hi,_,h=>by
   simp only[List.map_nil,resA,Oe,Prod.mk.injEq]at h;obtain⟨rfl,rfl⟩:=h;exact⟨g,[],MS.refl hi,rfl,rfl,fun i r u hr=>by simp at hr,fun i y u hy=>by simp at hy⟩
 | r::rs,k,g,σ,ys,σ',hi,hr,h=>by
   obtain⟨y,y',σ1,ys',h1,h2,h3,h4,rfl⟩:=resA_cons h;obtain⟨u,k1,k2,k3⟩:=rdRes_ok hi hV (hr r List.mem_cons_self) h1;have hq:∀ j,¬noHand (hand0.at j 0):=fun j e=>e 0 rfl
   obtain⟨g1,m1,r1,o1⟩:=whole_mat g σ y y' σ1 hand0 (hand0.at k 0) u hi h2 k3 (k2 _) (hq k);obtain⟨g2,us,m2,l1,l2,e1,e2⟩:=resA_ok hV rs (k+1) g1 σ1 ys' σ' m1.inv (fun r' hr'=>hr r' (List.mem_cons_of_mem _ hr')) h4;refine⟨g2,u::us,(m1.mono fun q hq=>⟨k,Nat.le_refl _,hq⟩).trans (m2.mono fun q ⟨j,hj,hq⟩=>⟨j,by omega,hq⟩),by simp[l1],by simp[l2],fun i r' u' hr' hu'=>?_,fun i y0 u' hy' hu'=>?_⟩
   ·cases i with
    |zero=>simp at hr' hu';subst hr' hu';exact k1
    |succ i=>exact e1 i r' u' (by simpa using hr') (by simpa using hu')
   ·cases i with
    | zero=>
      simp at hy' hu';subst hy' hu';have hk:=kept_set h3
      refine⟨hk,?_⟩;have hA:=set_repA hk r1
      have o1':oneA y'=true:=by cases y'<;>first|exact o1|(simp[setA,A.loose]at hk;done)
      exact(hA.stepq m2 (hq k) (fun r hr ⟨j,hj,hr2⟩=>Pl.at_apart (fun e=>by injection e;omega) hr hr2) o1').toT (oneA_noTup o1')
    | succ i=>
      have:=e2 i y0 u' (by simpa using hy') (by simpa using hu');rw[show k+(i+1)=k+1+i by omega];exact this
end
def Link(P:Program)(f:Nat)(F:AF):Prop:=
 ∃fn vars dead F',P.funcs[f]?=some fn/\trF P vars dead fn=some F'/\F'.np=F.np/\F'.nv=F.nv/\F'.res=F.res/\F.body.strip=F'.body.strip
def LinkOK(P:Program)(E:Nat->Option AF):Prop:=∀ f F,E f=some F->Link P f F
section
variable {P:Program} {E:Nat->Option AF}
theorem trF_some{vars:List Nat}{dead:Nat->List Nat}{fn:Func}{F:AF}(h:trF P vars dead fn=some F):
  ∃ c, fn.body = some c /\ (fn.name == "runtime.NumGoroutine") = false /\ vars.Nodup /\ vars.take (fn.params.size + fn.nfree) = List.range (fn.params.size + fn.nfree) /\ fn.params.size + fn.nfree <= fn.ntmps /\
   (∀r,r∈fn.results.toList->resOK P vars r=true)/\F.np=fn.params.size+fn.nfree/\F.nv=vars.length/\F.body=trC P fn.ntmps vars dead 0 c/\F.res=fn.results.toList.map (trRes P vars):=by
 unfold trF at h;split at h
 ·cases h
 ·rename_i c hc;split at h
  ·rename_i hall;simp only[Bool.and_eq_true,Bool.not_eq_true',decide_eq_true_eq,beq_iff_eq]at hall;obtain⟨⟨⟨⟨⟨h1,h2⟩,h3⟩,h4⟩,h5⟩,h6⟩:=hall;cases h;refine⟨c,hc,h6,nodupB_ok _ h2,h3,h4,?_,rfl,rfl,rfl,?_⟩
   ·intro r hr;rw[Array.all_eq_true_iff_forall_mem]at h5;exact h5 r (by simpa using hr)
   ·apply List.map_congr_left;intro r _;cases r<;>rfl
  ·cases h
theorem LinkOK.fn(h:LinkOK P E):FnOK P E:=fun f F hF=>by
 obtain⟨fn,vars,dead,F',h1,h2,_⟩:=h f F hF;obtain⟨c,h3,h4,_⟩:=trF_some h2;exact⟨fn,c,h1,h4,h3⟩
theorem findIdx_nth{vars:List Nat}{t n:Nat}(h:vars.findIdx? (· ==t)=some n):vars[n]?=some t:=by
 rw[List.findIdx?_eq_some_iff_getElem]at h;obtain⟨h1,h2,_⟩:=h;rw[Gg h1];simpa using h2
theorem nth_np{vars:List Nat}{np n t:Nat}(hd:vars.Nodup)(ht:vars.take np=List.range np)(h:vars[n]?=some t):(n<np->t=n)/\(np<=n->np<=t):=by
 have k:∀ n t,n<np->vars[n]?=some t->t=n:=by
  intro n t hn h;have:(vars.take np)[n]?=some t:=by rw[List.getElem?_take,if_pos hn,h]
  rw[ht,List.getElem?_range hn]at this;exact(Option.some.inj this).symm
 refine⟨fun hn=>k n t hn h,fun hn=>?_⟩;refine Nat.le_of_not_lt fun hlt=>?_
 have hl:t<vars.length:=by
  have:=congrArg List.length ht;simp at this;omega
 have h2:vars[t]?=some t:=by
  have:=k t _ hlt (Gg hl);rw[Gg hl,this]
 have hn':=(Ge h).1
 have e1:vars[n]=vars[t]:=by
  have:=(Ge h).2;have:=(Ge h2).2
  simp_all
 have:=(List.getElem_inj hd).1 e1;omega
theorem calls_ok(hL:LinkOK P E)(hm:P.follows .mixedOrders=true):∀ n,CallOK P E n:=by
 intro n
 induction n using Nat.strongRecOn with
 | ind n ih=>
   intro f as bx r bx' hcall g w args hlen hrep hbx hlt;cases n with
   |zero=>simp[acall]at hcall
   | succ n=>
     simp only[acall]at hcall;split at hcall
     ·cases hcall
     ·rename_i F hF;split at hcall
      ·rename_i hnp;split at hcall
       ·rename_i e σ hex;split at hcall
        ·rename_i hee;split at hcall
         ·rename_i rs σ2 hres;simp only[Oe,Prod.mk.injEq]at hcall;obtain⟨rfl,rfl⟩:=hcall;obtain⟨fn,vars,dead,F',q1,q2,q3,q4,q5,q6⟩:=hL f F hF;obtain⟨c,c1,c2,c3,c4,c5,c6,c7,c8,c9,c10⟩:=trF_some q2;have hnp':args.size=fn.params.size+fn.nfree:=by omega
          refine calls_of_wp q1 c1 ?_;have hsz:(args++Array.replicate (fn.ntmps-args.size) undef).size=fn.ntmps:=by simp;omega
          have hget:∀ t,(args++Array.replicate (fn.ntmps-args.size) undef).getD t undef=if h:t<args.size then args[t]else undef:=by
           intro t;rw[Array.getD_eq_getD_getElem?,Array.getElem?_append,Array.getElem?_replicate]
           by_cases h1:t<args.size
           ·simp[h1]
           ·simp only[h1,if_false,dite_false];split<;>rfl
          have hs:ES ⟨P,fn.ntmps,vars,[]⟩ g ⟨as++List.replicate (F.nv-F.np) .ud,[],bx⟩ w {tmps:=args++Array.replicate (fn.ntmps-args.size) undef,defers:=[]}
            (fun n=>(args++Array.replicate (fn.ntmps-args.size) undef).getD (vars.getD n 0) undef):=by
           refine⟨⟨fun n x hx=>?_,fun k x hx=>by simp at hx,fun j x hx=>hbx j x hx,hlt⟩,fun t n ht=>?_,rfl,⟨hsz,rfl⟩⟩
           ·by_cases hn:n<as.length
            ·rw[List.getElem?_append_left hn]at hx
             have hnv:n<vars.length:=by
              have:=congrArg List.length c4;simp at this;omega
             have e1:vars.getD n 0=n:=by
              rw[List.getD_eq_getElem?_getD,Gg hnv];exact(nth_np c3 c4 (Gg hnv)).1 (by omega)
             simp only[e1,hget];rw[dif_pos (by omega)];exact hrep n x _ hx (Array.getElem?_eq_getElem (by omega)) _ _ rfl
            ·rw[List.getElem?_append_right (by omega),List.getElem?_replicate]at hx;split at hx
             ·rename_i hn2;cases hx;have hnv:n<vars.length:=by omega
              have e1:=(nth_np c3 c4 (Gg hnv)).2 (by omega);show _=undef
              rw[List.getD_eq_getElem?_getD,Gg hnv,hget,dif_neg (by simp only[Option.getD_some];omega)]
             ·cases hx
           ·rw[List.getD_eq_getElem?_getD,findIdx_nth ht];rfl
          have hlike:Like P fn.ntmps vars dead 0 F.body c:=by unfold Like;rw[q6,c9]
          refine(exec_ok hL.fn hm n (fun m hm'=>ih m (by omega)) 0 F.body c g _ σ e w _ _ _ hs ?_).1 hex hlike;intro g' w' a' tv' s' l' sm' b'
          have main:a'.defers=[]/\ ∃v,(results fn a'.tmps).run P w'= .ok v w'/\CallPost g w bx (tupA rs) σ2.bx (.returned v) w':=by
           refine⟨s'.ok.df,?_⟩;rw[<-q5,c10]at hres
           have fin:∀ {g2:G} {T:Prop} {D:Pl->Prop} {v:Value},MS w' tv' (fun _=>undef) T D g' σ g2 σ2->(setT (tupA rs)=true)->(∀V:Vw,V.nb=σ2.bx.length->RepT g2 w' V hand0 (tupA rs) v)->CallPost g w bx (tupA rs) σ2.bx (.returned v) w':=by
            intro g2 T D v m h1 h2;refine⟨v,g2,rfl,l'.trans m.toLater,sm',by rw[m.nb];exact b'.le,fun j hj=>?_,m.inv.boxes,m.inv.lt,h1,h2⟩;rw[m.blk];exact b'.blk j hj
           by_cases hone:∃ r0,fn.results.toList=[r0]
           ·obtain⟨r0,hr0⟩:=hone;rw[hr0]at hres c6;obtain⟨y,y',σ1,ys',k1,k2,k3,k4,rfl⟩:=resA_cons hres;simp only[resA,List.map_nil,Oe,Prod.mk.injEq]at k4;obtain⟨rfl,rfl⟩:=k4;obtain⟨u,u1,u2,u3⟩:=rdRes_ok s'.I s'.V (c6 r0 (by simp)) k1;obtain⟨g2,m2,r2,o2⟩:=whole_mat g' σ y y' σ1 hand0 hand0 u s'.I k2 u3 (u2 _) not_noHand0;have hk:=kept_set k3
            refine⟨u,?_,fin m2 (set_setT hk) fun V hV=>?_⟩
            ·have:=run_results (P:=P) (w:=w') (fn:=fn) (tmps:=a'.tmps) (us:=[u]) (by rw [<- Array.length_toList,hr0]; rfl) (fun i x v hx hv => by
              rw[hr0]at hx
              cases i with
              |zero=>simp at hx hv;subst hx hv;exact u1
              |succ i=>simp at hx)
             simpa using this
            ·exact(repA_set hk (by rw[hV];rfl) (set_repA hk r2)).toT (set_noTup hk)
           ·obtain⟨g2,us,m2,l1,l2,e1,e2⟩:=resA_ok s'.V fn.results.toList 0 g' σ rs σ2 s'.I c6 hres
            have hl1:us.length≠1:=by
             intro h;rw[h]at l2;exact hone (List.length_eq_one_iff.1 l2)
            have htup:tupA rs= .tup rs:=by
             unfold tupA;split
             ·simp at l1;omega
             ·rfl
            refine⟨.tuple us.toArray,?_,?_⟩
            ·have:=run_results (P:=P) (w:=w') (fn:=fn) (tmps:=a'.tmps) (us:=us) (by rw[<-Array.length_toList];exact l2) e1
             rwa [dif_neg hl1]at this
            ·refine fin m2 ?_ fun V hV=>?_
             ·rw[htup];simp only[setT,List.all_eq_true];intro x hx;obtain⟨i,hi⟩:=List.mem_iff_getElem?.1 hx;have hil:i<us.length:=by have:=(Ge hi).1;omega
              exact(e2 i x _ hi (Gg hil)).1
             ·rw[htup];refine⟨us,rfl,l1,fun j x u hx hu=>?_⟩;obtain⟨k1,k2⟩:=e2 j x u hx hu;rw[Nat.zero_add]at k2;exact repA_set k1 (by rw[hV];rfl) (set_repA k1 k2)
          rcases hee with rfl|rfl
          ·exact main
          ·exact main
         ·cases hcall
        ·cases hcall
       ·cases hcall
      ·cases hcall
end
end Go.Ab
end
section
namespace Go.Ab
open Go.RowKit Go.ChangeShapes Go.WideShapes
variable {w:World}
inductive SC where
 |int (k:IntKind)|bool|str|row (cs:List SC)
 deriving Inhabited
inductive All2{α β:Type}(R:α->β->Prop):List α->List β->Prop
 |nil:All2 R [] []
 |cons {a b as bs}:R a b->All2 R as bs->All2 R (a::as) (b::bs)
theorem All2.length{α β:Type}{R:α->β->Prop}{as:List α}{bs:List β}(h:All2 R as bs):as.length=bs.length:=by
 induction h with
 |nil=>rfl
 |cons _ _ ih=>simp[ih]
theorem All2.append{α β:Type}{R:α->β->Prop}{as as':List α}{bs bs':List β}(h:All2 R as bs)(k:All2 R as' bs'):All2 R (as++as') (bs++bs'):=by
 induction h with
 |nil=>exact k
 |cons h1 _ ih=>exact .cons h1 ih
theorem All2.get{α β:Type}{R:α->β->Prop}{as:List α}{bs:List β}(h:All2 R as bs):∀ (i:Nat) a b,as[i]?=some a->bs[i]?=some b->R a b:=by
 induction h with
 |nil=>intro i a b h;simp at h
 | cons h1 _ ih=>
   intro i a b ha hb;cases i with
   |zero=>simp at ha hb;subst ha hb;exact h1
   |succ i=>exact ih i a b (by simpa using ha) (by simpa using hb)
theorem All2.of{α β:Type}{R:α->β->Prop}:∀ {as:List α} {bs:List β},as.length=bs.length->(∀(i:Nat) a b,as[i]?=some a->bs[i]?=some b->R a b)->All2 R as bs
 |[],[],_,_=> .nil
 |[],_::_,h,_=>by simp at h
 |_::_,[],h,_=>by simp at h
 |a::as,b::bs,h,k=> .cons (k 0 a b rfl rfl) (All2.of (by simpa using h) fun i a b ha hb=>k (i+1) a b (by simpa using ha) (by simpa using hb))
inductive Fits:SC->A->Prop
 |int {k:IntKind} {n:Int}:(Lit.int k n).wf=true->Fits (.int k) (.v (.int k n))
 |bool (b:Bool):Fits .bool (.v (.bool b))
 |str (s:ByteArray):s.size<=maxLen->Fits .str (.v (.string s))
 |row (cs:List SC) (nl:Bool) (es:List (List A)):(nl=true->es=[])->es.length<=maxLen->(∀e,e∈es->e.length=cs.length)->
    (∀e,e∈es-> ∀(c:Nat) s x,cs[c]?=some s->e[c]?=some x->Fits s x)->Fits (.row cs) (.imm nl cs.length es)
theorem Fits.leaf{s:SC}{a:A}(h:Fits s a):a.leaf=true:=by cases h<;>rfl
section
variable (P:Program)
def shFields(sh:TypeId->Option (List SC)):Nat->List Field->Option (List SC)
 |_,[]=>some []
 | o,f::fs=>match sh f.type with
   | some cs=>if f.offset=o/\cs.length=P.cellsOf f.type then match shFields sh (o+cs.length) fs with
     |some r=>some (cs++r)
     |none=>none else none
   |none=>none
def shOf:Nat->TypeId->Option (List SC)
 |0,_=>none
 | n+1,t=>match P.underlying t with
   |some .bool=>some [.bool]
   |some (.int k)=>some [.int k]
   |some .string=>some [.str]
   | some (.slice e)=>match shOf n e with
     |some cs=>if cs.length=P.cellsOf e/\cs≠[]then some [.row cs]else none
     |none=>none
   | some (.struct fs)=>match shFields P (shOf n) 0 fs.toList with
     |some cs=>if cs.length=P.cellsOf t then some cs else none
     |none=>none
   |_=>none
def shArg(n:Nat)(t:TypeId):Option (Bool×List SC):=match shOf P n t with
 |some cs=>some (isAggT P t,cs)
 |none=>none
end
inductive FitsA:Bool×List SC->A->Prop
 |agg (ss:List SC) (cs:List A):All2 Fits ss cs->FitsA (true,ss) (.agg cs)
 |one (s:SC) (x:A):Fits s x->FitsA (false,[s]) x
mutual
def szA:A->Nat
 | .imm _ _ es=>1+szR es
 |_=>1
def szR:List (List A)->Nat
 |[]=>0
 |e::es=>szC e+szR es
def szC:List A->Nat
 |[]=>0
 |a::as=>szA a+szC as
end
def szT:A->Nat
 | .agg cs=>szC cs
 |x=>szA x
theorem szC_append:∀ as bs:List A,szC (as++bs)=szC as+szC bs
 |[],bs=>by simp[szC]
 |a::as,bs=>by simp only[List.cons_append,szC,szC_append as bs];omega
structure BulkLike{H:Type}(b:DataW H->Nat):Prop where
 one:∀ d,1<=b d
 slice:∀ es sp,(es.map b).sum+1<=b (.slice es sp)
 agg:∀ ps,(ps.map b).sum+1<=b (.agg ps)
theorem mapM_at{α β:Type}{f:α->Option β}:∀ {l:List α} {r:List β},l.mapM f=some r->r.length=l.length/\ ∀(i:Nat) x,l[i]?=some x-> ∃y,r[i]?=some y/\f x=some y
 |[],r,h=>by simp at h;subst h;exact⟨rfl,fun i x h=>by simp at h⟩
 | a::l,r,h=>by
   rw[List.mapM_cons]at h;cases h0:f a with
   |none=>rw[h0]at h;simp at h
   | some y=>
     cases h1:l.mapM f with
     |none=>rw[h0,h1]at h;simp at h
     | some ys=>
       rw[h0,h1]at h;simp at h;subst h;obtain⟨k1,k2⟩:=mapM_at h1;refine⟨by simp[k1],fun i x hx=>?_⟩;cases i with
       |zero=>simp at hx;subst hx;exact⟨y,rfl,h0⟩
       |succ i=>exact k2 i x (by simpa using hx)
theorem szR_le{β:Type}{b:β->Nat}:∀ (es:List (List A)) (ys:List β),es.length=ys.length->(∀(i:Nat) e y,es[i]?=some e->ys[i]?=some y->szC e<=b y)->szR es<=(ys.map b).sum
 |[],[],_,_=>by simp[szR]
 |[],_::_,h,_=>by simp at h
 |_::_,[],h,_=>by simp at h
 | e::es,y::ys,h,k=>by
   have h1:=k 0 e y rfl rfl;have h2:=szR_le es ys (by simpa using h) fun i e y he hy=>k (i+1) e y (by simpa using he) (by simpa using hy)
   simp only[szR,List.map_cons,List.sum_cons];omega
theorem cells?_some{base:Nat}{a:Addr}{n:Nat}{cvs:List Value}(h:w.cells? base a n=some cvs):cvs.length=n/\ ∀j v,cvs[j]?=some v->w.cell? (a.add j)=some v:=by
 unfold World.cells? at h;split at h
 ·obtain⟨h1,h2⟩:cvs.length=(List.range n).length/\ ∀(j:Nat) i v,(List.range n)[j]?=some i->cvs[j]?=some v->w.cell? (a.add i)=some v:=by
   have key:∀ (l:List Nat) (cvs:List Value),l.mapM (fun i=>w.cell? (a.add i))=some cvs->cvs.length=l.length/\ ∀(j:Nat) i v,l[j]?=some i->cvs[j]?=some v->w.cell? (a.add i)=some v:=by
    intro l
    induction l with
    |nil=>intro cvs h;simp at h;subst h;exact⟨rfl,fun j i v hj=>by simp at hj⟩
    | cons i l ih=>
      intro cvs h;rw[List.mapM_cons]at h;cases h0:w.cell? (a.add i)with
      |none=>rw[h0]at h;simp at h
      | some v=>
        cases h1:l.mapM (fun i=>w.cell? (a.add i))with
        |none=>rw[h0,h1]at h;simp at h
        | some vs=>
          rw[h0,h1]at h;simp at h;subst h;obtain⟨k1,k2⟩:=ih vs h1;refine⟨by simp[k1],fun j i' v' hj hv=>?_⟩;cases j with
          |zero=>simp at hj hv;subst hj hv;exact h0
          |succ j=>exact k2 j i' v' (by simpa using hj) (by simpa using hv)
   exact key _ _ h
  refine⟨by simpa using h1,fun j v hv=>?_⟩;have hj:j<n:=by have:=(Ge hv).1;simp at h1;omega
  exact h2 j j v (by rw[List.getElem?_range hj]) hv
 ·cases h
theorem add_add{a:Addr}(ha:a.spot=none)(i j:Nat):(a.add i).add j=⟨a.block,a.off+(i+j),none⟩:=by
 unfold Addr.add;split<;>rename_i h1<;>split<;>rename_i h2<;>cases a<;>simp_all [Nat.add_assoc]
theorem chooseL{Q:Nat->List A->Prop}:∀ (n:Nat),(∀i,i<n-> ∃e,Q i e)-> ∃es:List (List A),es.length=n/\ ∀(i:Nat) e,es[i]?=some e->Q i e
 |0,_=>⟨[],rfl,fun i e h=>by simp at h⟩
 | n+1,h=>by
   obtain⟨es,h1,h2⟩:=chooseL n fun i hi=>h i (by omega);obtain⟨e,he⟩:=h n (by omega);refine⟨es++[e],by simp[h1],fun i x hx=>?_⟩;rw[List.getElem?_append]at hx;split at hx
   ·exact h2 i x hx
   ·rename_i hi
    have hi':i-es.length=0:=by
     have:=(Ge hx).1;simp at this;omega
    rw[hi']at hx;simp at hx;subst hx;rw[show i=n by omega];exact he
section
variable {H:Type} {enc:TypeId×Value->H} {P:Program} {base:Nat} {spare:Nat->Bool} {held:Bool} {g:G}
theorem trod_fits{b:DataW H->Nat}(hb:BulkLike b)(hg:∀ b,g.ow b=none):∀ (n:Nat) (t:TypeId) (ss:List SC),shOf P n t=some ss-> ∀(fuel:Nat) (vs:List Value) (x:DataW H×List MemPlace),DataW.trod enc P w base spare held fuel t vs=some x->
  ∃as:List A,All2 Fits ss as/\All2 (RepI g w) as vs/\szC as<=b x.1
 |0,t,ss,h=>by simp[shOf]at h
 | n+1,t,ss,h=>by
   intro fuel vs x hx;cases fuel with
   |zero=>simp[DataW.trod]at hx
   | succ fuel=>
     simp only[shOf]at h;rw[DataW.trod.eq_def]at hx;simp only at hx
     have two:∀ {a b:Value} {l:List Value},vs=a::b::l->(match P.underlying t with|some (.struct _)=>False|some (.array _ _)=>False|some _=>True|none=>False)->False:=by
      intro a b l e hk;subst e;cases hu:P.underlying t with
      |none=>rw[hu]at hk;exact hk
      |some d=>rw[hu]at hk hx;cases d<;>first|exact hk|(simp at hx;done)
     have none':vs=[]->(match P.underlying t with|some (.struct _)=>False|some (.array _ _)=>False|some _=>True|none=>False)->False:=by
      intro e hk;subst e;cases hu:P.underlying t with
      |none=>rw[hu]at hk;exact hk
      |some d=>rw[hu]at hk hx;cases d<;>first|exact hk|(simp at hx;done)
     have one:(match P.underlying t with|some (.struct _)=>False|some (.array _ _)=>False|some _=>True|none=>False)-> ∃v,vs=[v]:=by
      intro hk;rcases hvs:vs with _|⟨v,_|⟨b,l⟩⟩
      ·exact(none' hvs hk).elim
      ·exact⟨v,rfl⟩
      ·exact(two hvs hk).elim
     split at h
     ·rename_i hu;cases h;obtain⟨v,rfl⟩:=one (by rw[hu];trivial);rw[hu]at hx;cases v<;>simp at hx;exact⟨[_],.cons (.bool _) .nil,.cons (.v _ rfl) .nil,by simpa[szC,szA]using hb.one _⟩
     ·rename_i k hu;cases h;obtain⟨v,rfl⟩:=one (by rw[hu];trivial);rw[hu]at hx;cases v<;>simp at hx;obtain⟨⟨rfl,hw⟩,_⟩:=hx;exact⟨[_],.cons (.int hw) .nil,.cons (.v _ rfl) .nil,by simpa[szC,szA]using hb.one _⟩
     ·rename_i hu;cases h;obtain⟨v,rfl⟩:=one (by rw[hu];trivial);rw[hu]at hx;cases v<;>simp at hx;exact⟨[_],.cons (.str _ hx.1) .nil,.cons (.v _ rfl) .nil,by simpa[szC,szA]using hb.one _⟩
     ·rename_i e hu;split at h
      ·rename_i cs hcs;split at h
       ·rename_i hz;cases h;obtain⟨v,rfl⟩:=one (by rw[hu];trivial);rw[hu]at hx;cases v<;>try(simp at hx;done)
        rename_i oa len cap;have ih:=trod_fits hb hg n e cs hcs
        cases oa with
        | none=>
          have:len=0/\cap=0:=by
           cases len<;>cases cap<;>simp at hx ⊢
          obtain⟨rfl,rfl⟩:=this;exact⟨[.imm true cs.length []],.cons (.row cs true [] (fun _=>rfl) (Nat.zero_le _) (fun e he=>by cases he) (fun e he=>by cases he)) .nil,.cons (.nilr _) .nil,by simpa[szC,szA,szR]using hb.one _⟩
        | some a=>
          simp only at hx;split at hx
          ·rename_i hlen;cases hel:(List.range len).mapM (fun i=>(w.cells? base (a.add (i*P.cellsOf e)) (P.cellsOf e)).bind (DataW.trod enc P w base spare held fuel e))with
           |none=>rw[hel]at hx;simp at hx
           | some elems=>
             have hxe:(elems.map fun y=>b y.1).sum+1<=b x.1:=by
              rw[hel]at hx;simp only[Option.bind_some,Option.map_eq_some_iff]at hx;obtain⟨rest,_,rfl⟩:=hx;have:=hb.slice (elems.map (·.1)) (rest.map (·.1))
              rw[List.map_map]at this;exact this
             have each:∀ i,i<len-> ∃cvs y,elems[i]?=some y/\w.cells? base (a.add (i*P.cellsOf e)) (P.cellsOf e)=some cvs/\DataW.trod enc P w base spare held fuel e cvs=some y:=by
              intro i hi;obtain⟨y,hyi,hy⟩:=(mapM_at hel).2 i i (by rw[List.getElem?_range hi]);cases hc:w.cells? base (a.add (i*P.cellsOf e)) (P.cellsOf e)with
              |none=>rw[hc]at hy;simp at hy
              |some cvs=>rw[hc]at hy;exact⟨cvs,y,hyi,rfl,by simpa using hy⟩
             obtain⟨es,l1,l2⟩:=chooseL (Q:=fun i as=> ∃cvs,w.cells? base (a.add (i*P.cellsOf e)) (P.cellsOf e)=some cvs/\All2 Fits cs as/\All2 (RepI g w) as cvs/\ ∃y,elems[i]?=some y/\szC as<=b y.1) len fun i hi=>by
              obtain⟨cvs,y,h0,h1,h2⟩:=each i hi;obtain⟨as,k1,k2,k3⟩:=ih fuel cvs y h2;exact⟨as,cvs,h1,k1,k2,y,h0,k3⟩
             have hmem:∀ e',e'∈es-> ∃i,es[i]?=some e':=fun e' he=>List.mem_iff_getElem?.1 he;refine⟨[.imm false cs.length es],.cons (.row cs false es (fun h=>by cases h) (by omega) (fun e' he=>?_) (fun e' he c s x hs hx=>?_)) .nil,.cons ?_ .nil,?_⟩
             ·obtain⟨i,hi⟩:=hmem e' he;obtain⟨cvs,_,k1,_,_⟩:=l2 i e' hi;exact k1.length.symm
             ·obtain⟨i,hi⟩:=hmem e' he;obtain⟨cvs,_,k1,_,_⟩:=l2 i e' hi;exact k1.get c s x hs hx
             ·by_cases h0:len=0
              ·subst h0;have:es=[]:=List.length_eq_zero_iff.1 l1
               subst this;exact .emp _ _ a cap (.inl rfl)
              ·have hpos:0<cs.length:=List.length_pos_iff.2 hz.2
               have cellat:∀ (i:Nat) e' (c:Nat) x,es[i]?=some e'->e'[c]?=some x->a.spot=none/\ ∃u,cell w a.block (a.off+(i*cs.length+c))=some u/\RepI g w x u:=by
                intro i e' c x hi hx;obtain⟨cvs,k0,k1,k2,_⟩:=l2 i e' hi;have hc:c<cvs.length:=by rw[<-k2.length];exact(Ge hx).1
                have hv:=Gg hc;have hcell:=(cells?_some k0).2 c _ hv
                have hsp:a.spot=none:=by
                 obtain⟨cvs0,k0',k1',k2',_⟩:=l2 0 es[0] (Gg (by omega));have hc0:0<cvs0.length:=by rw[<-k2'.length,<-k1'.length];exact hpos
                 have:=(cells?_some k0').2 0 _ (Gg hc0);simp only[Nat.zero_mul,Addr.add,if_true]at this;unfold World.cell? at this;split at this
                 ·split at this
                  ·cases this
                  ·rename_i hs;simpa using hs
                 ·cases this
                refine⟨hsp,_,?_,k2.get c x _ hx hv⟩;rw[add_add hsp]at hcell;rw[hz.1];exact hcell
               have hsp:a.spot=none:=by
                have h1:=Gg (l:=es) (i:=0) (by omega);obtain⟨cvs,_,k1,_,_⟩:=l2 0 _ h1;have hc:0<es[0].length:=by rw[<-k1.length];exact hpos
                exact(cellat 0 _ 0 _ h1 (Gg hc)).1
               have hblk:a.block<w.heap.size:=by
                have h1:=Gg (l:=es) (i:=0) (by omega);obtain⟨cvs,_,k1,_,_⟩:=l2 0 _ h1;have hc:0<es[0].length:=by rw[<-k1.length];exact hpos
                obtain⟨_,u,hu,_⟩:=cellat 0 _ 0 _ h1 (Gg hc);exact cell_lt hu
               have ea:a=⟨a.block,a.off,none⟩:=by cases a;simp_all
               rw[ea,<-l1];refine .row _ cs.length es a.block a.off cap (fun i c=>(cell w a.block (a.off+(i*cs.length+c))).getD undef) (.inl rfl) (by omega) (hg _) hblk (fun e' he=>?_) (fun i e' c x hi hx=>?_) (fun i e' c x hi hx=>?_)
               ·obtain⟨i,hi⟩:=hmem e' he;obtain⟨cvs,_,k1,_,_⟩:=l2 i e' hi;exact k1.length.symm
               ·obtain⟨_,u,k1,k2⟩:=cellat i e' c x hi hx;rw[k1];rfl
               ·obtain⟨_,u,k1,k2⟩:=cellat i e' c x hi hx;rw[k1];exact k2
             ·have hlen:es.length=elems.length:=by rw[l1,(mapM_at hel).1,List.length_range]
              have hle:=szR_le (b:=fun y:DataW H×List MemPlace=>b y.1) es elems hlen fun i e y he hy=>by
               obtain⟨_,_,_,_,y',h1,h2⟩:=l2 i e he;rw[hy]at h1;cases h1;exact h2
              simp only[szC,szA];omega
          ·cases hx
       ·cases h
      ·cases h
     ·rename_i fs hu;split at h
      ·rename_i cs hcs;split at h
       ·rename_i hl;cases h;rw[hu]at hx;simp only at hx;split at hx
        ·rename_i hvl;cases hm:fs.toList.mapM (fun f=>DataW.trod enc P w base spare held fuel f.type ((vs.drop f.offset).take (P.cellsOf f.type)))with
         |none=>rw[hm]at hx;simp at hx
         | some xs=>
           have hxe:(xs.map fun y=>b y.1).sum+1<=b x.1:=by
            rw[hm]at hx;simp only[Option.map_some,Oe]at hx;subst hx;have:=hb.agg (xs.map (·.1))
            rw[List.map_map]at this;exact this
           have key:∀ (l:List Field) (o:Nat) (ss:List SC) (xs:List (DataW H×List MemPlace)),shFields P (shOf P n) o l=some ss->l.mapM (fun f=>DataW.trod enc P w base spare held fuel f.type ((vs.drop f.offset).take (P.cellsOf f.type)))=some xs->
             o+ss.length<=vs.length-> ∃as:List A,All2 Fits ss as/\All2 (RepI g w) as ((vs.drop o).take ss.length)/\szC as<=(xs.map fun y=>b y.1).sum:=by
            intro l
            induction l with
            | nil=>
              intro o ss xs h _ _;simp only[shFields,Oe]at h;subst h;exact⟨[],.nil,by simpa using All2.nil,by simp[szC]⟩
            | cons f l ihl=>
              intro o ss xs h he hle;simp only[shFields]at h;split at h
              ·rename_i cs1 hcs1;split at h
               ·rename_i hf;split at h
                ·rename_i r hr;simp only[Oe]at h;subst h;rw[List.mapM_cons]at he;cases hy:DataW.trod enc P w base spare held fuel f.type ((vs.drop f.offset).take (P.cellsOf f.type))with
                 |none=>rw[hy]at he;simp at he
                 |some y=>_
                 cases hys:l.mapM (fun f=>DataW.trod enc P w base spare held fuel f.type ((vs.drop f.offset).take (P.cellsOf f.type)))with
                 |none=>rw[hy,hys]at he;simp at he
                 |some ys=>_
                 rw[hy,hys]at he;simp at he;subst he;obtain⟨as1,k1,k2,k5⟩:=trod_fits hb hg n f.type cs1 hcs1 fuel _ y hy;simp only[List.length_append]at hle;obtain⟨as2,k3,k4,k6⟩:=ihl (o+cs1.length) r ys hr hys (by omega);refine⟨as1++as2,k1.append k3,?_,by rw[szC_append,List.map_cons,List.sum_cons];omega⟩;rw[hf.1,<-hf.2]at k2;have:=k2.append k4
                 rw[List.length_append,List.take_add,List.drop_drop];exact this
                ·cases h
               ·cases h
              ·cases h
           obtain⟨as,k1,k2,k3⟩:=key fs.toList 0 _ xs hcs hm (by omega);refine⟨as,k1,?_,by omega⟩;rw[List.drop_zero,List.take_of_length_le (by omega)]at k2;exact k2
        ·cases hx
       ·cases h
      ·cases h
     ·cases h
def G0:G:=⟨fun _=>none,fun _=>(0,0),fun _=>0⟩
theorem all2_repL{ss:List SC}{as:List A}{vs:List Value}{V:Vw}{f:Nat->Pl}(h:All2 Fits ss as)(k:All2 (RepI g w) as vs):∀ (c:Nat) x u,as[c]?=some x->vs[c]?=some u->RepL g w V (f c) x u:=by
 intro c x u hx hu;have hc:c<ss.length:=by rw[h.length];exact(Ge hx).1
 exact RepC.toL (RepC.ofI (k.get c x u hx hu) (h.get c _ x (Gg hc) hx).leaf)
theorem arg_fits{b:DataW H->Nat}(hbk:BulkLike b){n:Nat}{t:TypeId}{s:Bool×List SC}(hs:shArg P n t=some s){v:Value}(hv:Value.okWide P w .any base t v){d:DataW H}{p:List MemPlace}{base':Nat}(h:DataW.Trod enc P w base' spare held t v d p)(hg:∀ b,g.ow b=none):
  ∃a:A,FitsA s a/\(∀(V:Vw) q,RepT g w V q a v)/\szT a<=b d:=by
 obtain⟨fuel,hf⟩:=h;unfold shArg at hs;split at hs
 ·rename_i cs hcs;simp only[Oe]at hs;subst hs;obtain⟨as,k1,k2,ksz⟩:=trod_fits hbk hg n t cs hcs fuel _ _ hf;unfold Value.okWide at hv;cases n with
  |zero=>simp[shOf]at hcs
  | succ n=>
    have one:∀ s,cs=[s]->isAggT P t=false->(∀vs,v≠ .agg vs)-> ∃a:A,FitsA (isAggT P t,cs) a/\(∀(V:Vw) q,RepT g w V q a v)/\szT a<=b d:=by
     intro s e1 e2 e3;subst e1;cases k1 with
     | cons h1 h2=>
       cases h2;rename_i x;rw[e2]
       have hsx:szT x<=b d:=by
        have e:szT x=szC [x]:=by cases h1<;>simp[szT,szC]
        rw[e];exact ksz
       refine⟨x,.one s x h1,fun V q=>?_,hsx⟩;have hvc:v.cells.toList=[v]:=by cases v<;>first|rfl|exact absurd rfl (e3 _)
       rw[hvc]at k2;cases k2 with
       |cons h3 _=>exact repT_ofL (RepC.toL (RepC.ofI h3 h1.leaf))
    simp only[shOf]at hcs;split at hcs
    ·rename_i hu;rw[hu]at hv;cases hcs;exact one _ rfl (by simp[isAggT,hu]) (fun vs e=>by subst e;simp[Cell.okWide,Cell.ok,hu]at hv)
    ·rename_i k hu;rw[hu]at hv;cases hcs;exact one _ rfl (by simp[isAggT,hu]) (fun vs e=>by subst e;simp[Cell.okWide,Cell.ok,hu]at hv)
    ·rename_i hu;rw[hu]at hv;cases hcs;exact one _ rfl (by simp[isAggT,hu]) (fun vs e=>by subst e;simp[Cell.okWide,Cell.ok,hu]at hv)
    ·rename_i e hu;rw[hu]at hv;split at hcs
     ·split at hcs
      ·cases hcs;exact one _ rfl (by simp[isAggT,hu]) (fun vs e=>by subst e;simp[Cell.okWide,Cell.ok,hu]at hv)
      ·cases hcs
     ·cases hcs
    ·rename_i fs hu;rw[hu]at hv;obtain⟨us,rfl,_,_⟩:=hv;have e2:isAggT P t=true:=by simp[isAggT,hu]
     rw[e2];refine⟨.agg as,.agg _ _ k1,fun V q=>⟨us.toList,rfl,k2.length,fun c x u hx hu=>?_⟩,ksz⟩;exact all2_repL (f:=fun c=>q.at 0 c) k1 k2 c x u hx hu
    ·cases hcs
 ·cases hs
theorem args_fits{b:DataW H->Nat}(hbk:BulkLike b){n:Nat}(hg:∀ b,g.ow b=none):∀ (ts:List TypeId) (ss:List (Bool×List SC)),ts.mapM (shArg P n)=some ss-> ∀(vs:List Value) (ds:List (DataW H)) (ps:List MemPlace) (base':Nat),
  (∀(j:Nat) t v,ts[j]?=some t->vs[j]?=some v->Value.okWide P w .any base t v)->DataW.TrodAll enc P w base' spare held ts vs ds ps->
  ∃as:List A,All2 FitsA ss as/\as.length=vs.length/\(∀(i:Nat) x u,as[i]?=some x->vs[i]?=some u-> ∀(V:Vw) q,RepT g w V q x u)/\(as.map szT).sum<=(ds.map b).sum
 | [],ss,h,vs,ds,ps,base',_,ht=>by
   simp at h;subst h;obtain⟨rfl,_,_⟩:=trodAll_nil ht;exact⟨[],.nil,rfl,fun i x u h=>by simp at h,by simp⟩
 | t::ts,ss,h,vs,ds,ps,base',hv,ht=>by
   rw[List.mapM_cons]at h;cases h0:shArg P n t with
   |none=>rw[h0]at h;simp at h
   | some s=>
     cases h1:ts.mapM (shArg P n)with
     |none=>rw[h0,h1]at h;simp at h
     | some ss'=>
       rw[h0,h1]at h;simp at h;subst h;obtain⟨v,vs',d,ds',p,q,rfl,rfl,rfl,k1,k2⟩:=trodAll_cons ht;obtain⟨a,a1,a2,a3⟩:=arg_fits hbk h0 (hv 0 t v rfl rfl) k1 hg;obtain⟨as,b1,b2,b3,b4⟩:=args_fits hbk hg ts ss' h1 vs' ds' q base' (fun j t v hj hv'=>hv (j+1) t v (by simpa using hj) (by simpa using hv')) k2
       refine⟨a::as,.cons a1 b1,by simp[b2],fun i x u hx hu=>?_,by simp only[List.map_cons,List.sum_cons];omega⟩;cases i with
       |zero=>simp at hx hu;subst hx hu;exact a2
       |succ i=>exact b3 i x u (by simpa using hx) (by simpa using hu)
theorem args_back{W W':World}(hl:laidOutB P=true)(hb:Below W.heap.size W W'):∀ (ts:List TypeId),(ts.all fun t=>P.readableRec t&&decide (t<P.types.size))=true-> ∀(vs:List Value) (ds:List (DataW H)) (ps:List MemPlace),
  DataW.TrodAll enc P W 0 (fun _=>true) true ts vs ds ps->DataW.TrodAll enc P W' 0 (fun b=>decide (b<W.heap.size)) true ts vs ds ps
 | [],_,vs,ds,ps,h=>by
   obtain⟨rfl,rfl,rfl⟩:=trodAll_nil h;exact trodAll_mk0
 | t::ts,ht,vs,ds,ps,h=>by
   simp only[List.all_cons,Bool.and_eq_true,decide_eq_true_eq]at ht;obtain⟨v,vs',d,ds',p,q,rfl,rfl,rfl,k1,k2⟩:=trodAll_cons h;refine trodAll_cons_mk (Below.trod hl ht.1.1 ht.1.2 k1 hb fun x hx=>?_) (args_back hl hb ts (by simpa using ht.2) vs' ds' q k2);obtain⟨m,hm⟩:=k1;exact DataW.trod_lt m _ _ _ hm x hx
theorem law_calls{b:DataW H->Nat}(hbk:BulkLike b){E:Nat->Option AF}(hL:LinkOK P E)(hm:P.follows .mixedOrders=true){f n:Nat}{ts:List TypeId}{ss:List (Bool×List SC)}(hss:ts.mapM (shArg P n)=some ss){ds:List (DataW H)}
  (hpure:∀ as:List A,All2 FitsA ss as->(as.map szT).sum<=(ds.map b).sum-> ∃k bx,acall E k f as []=some (.v (.bool true),bx)) {W:World} {base base':Nat} {args:Array Value} {ps:List MemPlace}
  (hval:∀ (j:Nat) t v,ts[j]?=some t->args[j]?=some v->Value.okWide P W .any base t v) (hA:DataW.TrodAll enc P W base' spare held ts args.toList ds ps):
  Calls P f args W fun e W'=>e= .returned (.bool true)/\Below W.heap.size W W':=by
 have hg:∀ b,G0.ow b=none:=fun _=>rfl;obtain⟨as,a1,a2,a3,a4⟩:=args_fits hbk (g:=G0) hg ts ss hss args.toList ds ps base' (fun j t v hj hv=>hval j t v hj (by rw[<-Array.getElem?_toList];exact hv)) hA;obtain⟨k,bx,hk⟩:=hpure as a1 a4
 refine(calls_ok hL hm k f as [] _ bx hk G0 W args (by simpa using a2) (fun i x u hx hu V p _=>a3 i x u hx (by rw[Array.getElem?_toList];exact hu) V p) (fun j x hx=>by simp at hx) (fun k h=>absurd rfl h)).mono ?_;rintro e W' ⟨v,g',rfl,h1,h2,_,_,_,_,_,h8⟩;have hv:=repT_v (h8 ⟨fun _=>none,0,bx.length⟩ rfl)
 subst hv;exact⟨rfl,h2.2.1,h2.1,h2.2.2,h1.size,fun k hk=>h1.same k hk rfl⟩
end
end Go.Ab
end
section
namespace Go.Ab
variable {E:Nat->Option AF}
structure Mono(E:Nat->Option AF)(n:Nat):Prop where
 call:∀ f as bx r,acall E n f as bx=some r->acall E (n+1) f as bx=some r
 callOp:∀ q f ys σ r,acallOp E n q f ys σ=some r->acallOp E (n+1) q f ys σ=some r
 go:∀ op σ r,ago E n op σ=some r->ago E (n+1) op σ=some r
 oper:∀ o σ r,aoper E n o σ=some r->aoper E (n+1) o σ=some r
 ops:∀ os σ r,aops E n os σ=some r->aops E (n+1) os σ=some r
 quiet:∀ op σ r,aquiet E n op σ=some r->aquiet E (n+1) op σ=some r
 draw:∀ lv D i mk os σ r,adraw E n lv D i mk os σ=some r->adraw E (n+1) lv D i mk os σ=some r
 exec:∀ c σ r,aexec E n c σ=some r->aexec E (n+1) c σ=some r
theorem mono(E:Nat->Option AF):∀ n,Mono E n
 | 0=>by
   constructor<;>(intros;rename_i h;simp[acall,acallOp,ago,aoper,aops,aquiet,adraw,aexec]at h)
 | n+1=>by
   have ih:=mono E n;constructor
   ·intro f as bx r h;rw[acall]at h ⊢
    split at h
    ·cases h
    ·rename_i F hF;split at h
     ·rename_i hnp;rw[if_pos hnp];split at h
      ·rename_i e σ hx;rw[ih.exec _ _ _ hx];exact h
      ·cases h
     ·cases h
   ·intro q f ys σ r h;rw[acallOp]at h ⊢
    simp only at h ⊢
    split at h
    ·rename_i as σ1 b hg;split at h
     ·rename_i r' bx' hc;rw[ih.call _ _ _ _ hc];exact h
     ·cases h
    ·cases h
   ·intro op σ r h;have other:∀ op',ago E (n+1) op' σ=aop σ op'->ago E (n+2) op' σ=aop σ op'->ago E (n+1) op' σ=some r->ago E (n+2) op' σ=some r:=fun op' h1 h2 h3=>by rw[h2,<-h1];exact h3
    cases op<;>try exact other _ rfl rfl h
    ·rw[ago]at h ⊢
     split at h
     ·exact ih.callOp _ _ _ _ _ h
     ·cases h
    ·rw[ago]at h ⊢
     split at h
     ·split at h
      ·rename_i hc;rw[if_pos hc];exact ih.callOp _ _ _ _ _ h
      ·cases h
     ·cases h
   ·intro o σ r h;rw[aoper]at h ⊢
    split at h
    ·split at h
     ·rename_i x σ1 hg;rw[ih.go _ _ _ hg];exact h
     ·cases h
    ·split at h
     ·rename_i b hb;split at h
      ·rename_i hw;rw[if_pos hw];split at h
       ·rename_i x σ1 hg;rw[ih.go _ _ _ hg];exact h
       ·cases h
      ·rename_i hw;rw[if_neg hw];exact h
     ·exact h
     ·cases h
   ·intro os σ r h;cases os with
    |nil=>exact h
    | cons o os=>
      rw[aops]at h ⊢
      split at h
      ·rename_i σ1 h1;rw[ih.oper _ _ _ h1];exact ih.ops _ _ _ h
      ·cases h
   ·intro op σ r h;cases op<;>try exact h
    rw[aquiet]at h ⊢
    split at h
    ·split at h
     ·rename_i he;rw[if_pos he];split at h
      ·rename_i x σ1 hc;rw[ih.callOp _ _ _ _ _ hc];exact h
      ·cases h
     ·cases h
    ·cases h
   ·intro lv D i mk os σ r h;cases os with
    |nil=>exact h
    | cons o os=>
      rw[adraw]at h ⊢
      split at h
      ·cases h
      ·split at h
       ·rename_i hd;rw[if_pos hd];exact ih.draw _ _ _ _ _ _ _ h
       ·cases h
      ·split at h
       ·rename_i hf;rw[if_pos hf];split at h
        ·rename_i x σ1 hg;rw[ih.go _ _ _ hg];simp only
         split at h
         ·split at h
          ·rename_i hl;rw[if_pos hl];exact ih.draw _ _ _ _ _ _ _ h
          ·cases h
         ·split at h
          ·rename_i σ2 hp;split at h
           ·rename_i hl;rw[if_pos hl];exact ih.draw _ _ _ _ _ _ _ h
           ·cases h
          ·cases h
        ·cases h
       ·rename_i hf;rw[if_neg hf];split at h
        ·rename_i hs;rw[if_pos hs];split at h
         ·rename_i x hq;rw[ih.quiet _ _ _ hq];simp only
          split at h
          ·rename_i hl;rw[if_pos hl];exact ih.draw _ _ _ _ _ _ _ h
          ·cases h
         ·rename_i x b hq;rw[ih.quiet _ _ _ hq];simp only
          split at h
          ·rename_i hl;rw[if_pos hl];exact ih.draw _ _ _ _ _ _ _ h
          ·cases h
         ·cases h
        ·cases h
   ·intro c σ r h;cases c
    case reg ops dr=>
     cases dr with
     | none=>
       rw[aexec]at h ⊢
       split at h
       ·rename_i σ1 h1;rw[ih.ops _ _ _ h1];exact h
       ·cases h
     | some p=>
       obtain⟨D,lv⟩:=p;rw[aexec]at h ⊢
       split at h
       ·rename_i σ1 h1;rw[ih.draw _ _ _ _ _ _ _ h1];exact h
       ·cases h
    case seq a b=>
     rw[aexec]at h ⊢
     cases h1:aexec E n a σ with
     |none=>rw[h1]at h;cases h
     | some p=>
       obtain⟨e,σ1⟩:=p;rw[h1]at h;rw[ih.exec _ _ _ h1];cases e with
       |normal=>exact ih.exec _ _ _ h
       |_=>exact h
    case cond x a b=>
     rw[aexec]at h ⊢
     split at h
     ·rename_i t ht;cases t with
      |true=>exact ih.exec _ _ _ h
      |false=>exact ih.exec _ _ _ h
     ·cases h
    case block id c=>
     rw[aexec]at h ⊢
     cases h1:aexec E n c σ with
     |none=>rw[h1]at h;cases h
     | some p=>
       rw[h1]at h;rw[ih.exec _ _ _ h1];exact h
    case loop d c=>
     rw[aexec]at h ⊢
     cases h1:aexec E n c {σ with vs:=clearV σ.vs d}with
     |none=>rw[h1]at h;cases h
     | some p=>
       obtain⟨e,σ1⟩:=p;rw[h1]at h;rw[ih.exec _ _ _ h1];cases e with
       |normal=>exact ih.exec _ _ _ h
       |_=>exact h
    case scope b c=>
     rw[aexec]at h ⊢
     cases h1:aexec E n c σ with
     |none=>rw[h1]at h;cases h
     | some p=>
       obtain⟨e,σ1⟩:=p;rw[h1]at h;rw[ih.exec _ _ _ h1];cases e with
       | goto l=>
         simp only at h ⊢
         split at h
         ·rename_i r' hr;exact ih.exec _ _ _ h
         ·rename_i hr;exact h
       |_=>exact h
    all_goals exact h
theorem up{α:Type}{f:Nat->Option α}(h:∀ n r,f n=some r->f (n+1)=some r){n m:Nat}{r:α}(k:f n=some r)(hm:n<=m):f m=some r:=by
 obtain⟨d,rfl⟩:=Nat.le.dest hm
 induction d with
 |zero=>exact k
 |succ d ih=>exact h _ _ (ih (Nat.le_add_right _ _))
theorem acall_up{n m f:Nat}{as:List A}{bx:List Bx}{r:A×List Bx}(h:acall E n f as bx=some r)(hm:n<=m):acall E m f as bx=some r:=up (f:=fun n=>acall E n f as bx) (fun n r=>(mono E n).call _ _ _ r) h hm
theorem ago_up{n m:Nat}{op:AOp}{σ:St}{r:A×St}(h:ago E n op σ=some r)(hm:n<=m):ago E m op σ=some r:=up (f:=fun n=>ago E n op σ) (fun n r=>(mono E n).go _ _ r) h hm
theorem aoper_up{n m:Nat}{o:AOper}{σ:St}{r:St}(h:aoper E n o σ=some r)(hm:n<=m):aoper E m o σ=some r:=up (f:=fun n=>aoper E n o σ) (fun n r=>(mono E n).oper _ _ r) h hm
theorem aops_up{n m:Nat}{os:List AOper}{σ:St}{r:St}(h:aops E n os σ=some r)(hm:n<=m):aops E m os σ=some r:=up (f:=fun n=>aops E n os σ) (fun n r=>(mono E n).ops _ _ r) h hm
theorem aquiet_up{n m:Nat}{op:AOp}{σ:St}{r:A×Option Bx}(h:aquiet E n op σ=some r)(hm:n<=m):aquiet E m op σ=some r:=up (f:=fun n=>aquiet E n op σ) (fun n r=>(mono E n).quiet _ _ r) h hm
theorem adraw_up{n m i:Nat}{lv:List (Option Nat)}{D:List (List Nat)}{mk:List (Nat×Nat)}{os:List AOper}{σ:St}{r:St}(h:adraw E n lv D i mk os σ=some r)(hm:n<=m):adraw E m lv D i mk os σ=some r:=up (f:=fun n=>adraw E n lv D i mk os σ) (fun n r=>(mono E n).draw _ _ _ _ _ _ r) h hm
theorem aexec_up{n m:Nat}{c:AC}{σ:St}{r:Ex×St}(h:aexec E n c σ=some r)(hm:n<=m):aexec E m c σ=some r:=up (f:=fun n=>aexec E n c σ) (fun n r=>(mono E n).exec _ _ r) h hm
end Go.Ab
end
section
namespace Go.Ab
variable {E:Nat->Option AF}
inductive W(E:Nat->Option AF)(c:AC)(σ:St)(Q:Ex->St->Prop):Prop
 |mk (n:Nat) (e:Ex) (τ:St) (h:aexec E n c σ=some (e,τ)) (q:Q e τ)
inductive WC(E:Nat->Option AF)(f:Nat)(as:List A)(bx:List Bx)(Q:A->List Bx->Prop):Prop
 |mk (n:Nat) (r:A) (bx':List Bx) (h:acall E n f as bx=some (r,bx')) (q:Q r bx')
theorem W.mono{c:AC}{σ:St}{Q Q':Ex->St->Prop}(h:W E c σ Q)(k:∀ e τ,Q e τ->Q' e τ):W E c σ Q':=
 let ⟨n,e,τ,h1,h2⟩:=h;⟨n,e,τ,h1,k e τ h2⟩
theorem WC.mono{f:Nat}{as:List A}{bx:List Bx}{Q Q':A->List Bx->Prop}(h:WC E f as bx Q)(k:∀ r b,Q r b->Q' r b):WC E f as bx Q':=
 let ⟨n,e,τ,h1,h2⟩:=h;⟨n,e,τ,h1,k e τ h2⟩
theorem W.reg{ops:List AOper}{vs vs' ls':List A}{bx bx':List Bx}{Q:Ex->St->Prop}(n:Nat)(h:aops E n ops ⟨vs,[],bx⟩=some ⟨vs',ls',bx'⟩)(k:Q .normal ⟨vs',[],bx'⟩):W E (.reg ops none) ⟨vs,[],bx⟩ Q:=
 ⟨n+1,.normal,⟨vs',[],bx'⟩,by rw[aexec];simp only[h],k⟩
theorem W.seq{a b:AC}{σ:St}{Q:Ex->St->Prop}(h:W E a σ fun e τ=>match e with| .normal=>W E b τ Q|e=>Q e τ):W E (.seq a b) σ Q:=by
 obtain⟨n,e,τ,h1,h2⟩:=h;cases e with
 | normal=>
   obtain⟨m,e',τ',h3,h4⟩:=h2;refine⟨max n m+1,e',τ',?_,h4⟩;rw[aexec];simp only[aexec_up h1 (Nat.le_max_left n m),aexec_up h3 (Nat.le_max_right n m)]
 |_=>exact⟨n+1,_,τ,by rw[aexec];simp only[h1],h2⟩
theorem W.cond{x:Opd}{a b:AC}{σ:St}{Q:Ex->St->Prop}{t:Bool}(hx:σ.rd x=some (.v (.bool t)):=by cbv;first|done|fail)(ha:t=true->W E a σ Q)(hb:t=false->W E b σ Q):W E (.cond x a b) σ Q:=by
 cases t with
 | true=>
   obtain⟨n,e,τ,h1,h2⟩:=ha rfl;exact⟨n+1,e,τ,by rw[aexec];simp only[hx,if_true];exact h1,h2⟩
 | false=>
   obtain⟨n,e,τ,h1,h2⟩:=hb rfl;exact⟨n+1,e,τ,by rw[aexec];simp only[hx];exact h1,h2⟩
theorem W.condL{x:Opd}{a b:AC}{σ:St}{Q:Ex->St->Prop}{t:Bool}(hx:σ.rd x=some (.v (.bool t)):=by cbv;first|done|fail)(h:match t with|true=>W E a σ Q|false=>W E b σ Q):W E (.cond x a b) σ Q:=W.cond hx (fun e=>by subst e;exact h) (fun e=>by subst e;exact h)
theorem W.skip{σ:St}{Q:Ex->St->Prop}(h:Q .normal σ):W E .skip σ Q:=⟨1,_,_,rfl,h⟩
theorem W.ret{σ:St}{Q:Ex->St->Prop}(h:Q .ret σ):W E .ret σ Q:=⟨1,_,_,rfl,h⟩
theorem W.exit{i:Nat}{σ:St}{Q:Ex->St->Prop}(h:Q (.exit i) σ):W E (.exit i) σ Q:=⟨1,_,_,rfl,h⟩
theorem W.label{i:Nat}{σ:St}{Q:Ex->St->Prop}(h:Q .normal σ):W E (.label i) σ Q:=⟨1,_,_,rfl,h⟩
theorem W.goto{i:Nat}{σ:St}{Q:Ex->St->Prop}(h:Q (.goto i) σ):W E (.goto i) σ Q:=⟨1,_,_,rfl,h⟩
theorem W.frz{i:Nat}{zs:List Nat}{σ τ:St}{Q:Ex->St->Prop}(h:σ.frz i zs=τ:=by cbv;first|done|fail)(k:Q .normal τ):W E (.frz i zs) σ Q:=⟨1,_,_,by rw[aexec];rw[h],k⟩
theorem W.block{id:Nat}{c:AC}{σ:St}{Q:Ex->St->Prop}(h:W E c σ fun e τ=>match e with| .exit i=>(match Nat.beq i id with|true=>Q .normal τ|false=>Q (.exit i) τ)|e=>Q e τ):W E (.block id c) σ Q:=by
 obtain⟨n,e,τ,h1,h2⟩:=h;cases e with
 | exit i=>
   simp only at h2
   by_cases hi:i=id
   ·subst hi;rw[Nat.beq_refl]at h2;exact⟨n+1,.normal,τ,by rw[aexec];simp only[h1,if_true],h2⟩
   ·have hb:Nat.beq i id=false:=by
     cases hb:Nat.beq i id with
     |false=>rfl
     |true=>exact absurd (Nat.eq_of_beq_eq_true hb) hi
    rw[hb]at h2;exact⟨n+1,.exit i,τ,by rw[aexec];simp only[h1];rw[if_neg hi],h2⟩
 |_=>exact⟨n+1,_,τ,by rw[aexec];simp only[h1],h2⟩
theorem W.round{d:List Nat}{c:AC}{σ τ0:St}{Q:Ex->St->Prop}(h0:{σ with vs:=clearV σ.vs d}=τ0)(h:W E c τ0 fun e τ=>match e with| .normal=>W E (.loop d c) (τ.trunc σ.bx.length) Q|e=>Q e τ):W E (.loop d c) σ Q:=by
 subst h0;obtain⟨n,e,τ,h1,h2⟩:=h;cases e with
 | normal=>
   obtain⟨m,e',τ',h3,h4⟩:=h2;refine⟨max n m+1,e',τ',?_,h4⟩;rw[aexec];simp only[aexec_up h1 (Nat.le_max_left n m),aexec_up h3 (Nat.le_max_right n m)]
 |_=>exact⟨n+1,_,τ,by rw[aexec];simp only[h1],h2⟩
def Ret(res:List ARes)(Q:A->List Bx->Prop)(e:Ex)(τ:St):Prop:=(e= .normal\/e= .ret)/\ ∃rs τ',resA τ res=some (rs,τ')/\Q (tupA rs) τ'.bx
theorem WC.enter{f np nv:Nat}{b:AC}{res:List ARes}{as vs:List A}{bx:List Bx}{Q:A->List Bx->Prop}(hF:E f=some ⟨np,nv,b,res⟩)(hl:as.length=np)(hv:as++List.replicate (nv-np) .ud=vs)
  (h:W E b ⟨vs,[],bx⟩ (Ret res Q)):WC E f as bx Q:=by
 subst hv;obtain⟨n,e,τ,h1,he,rs,τ',h2,h3⟩:=h;exact⟨n+1,_,_,by rw[acall];simp only[hF,hl,if_true,h1,he,h2],h3⟩
theorem Ret.ret{res:List ARes}{Q:A->List Bx->Prop}{τ:St}{rs:List A}{vs' ls':List A}{bx':List Bx}(h:resA τ res=some (rs,⟨vs',ls',bx'⟩):=by cbv;first|done|fail)(k:Q (tupA rs) bx'):Ret res Q .ret τ:=⟨.inr rfl,_,_,h,k⟩
theorem Ret.normal{res:List ARes}{Q:A->List Bx->Prop}{τ:St}{rs:List A}{vs' ls':List A}{bx':List Bx}(h:resA τ res=some (rs,⟨vs',ls',bx'⟩):=by cbv;first|done|fail)(k:Q (tupA rs) bx'):Ret res Q .normal τ:=⟨.inl rfl,_,_,h,k⟩
inductive WS(E:Nat->Option AF)(os:List AOper)(σ:St)(Q:St->Prop):Prop
 |mk (n:Nat) (τ:St) (h:aops E n os σ=some τ) (q:Q τ)
inductive WD(E:Nat->Option AF)(lv:List (Option Nat))(D:List (List Nat))(i:Nat)(mk:List (Nat×Nat))(os:List AOper)(σ:St)(Q:St->Prop):Prop
 |mk (n:Nat) (τ:St) (h:adraw E n lv D i mk os σ=some τ) (q:Q τ)
theorem W.loop{d:List Nat}{c:AC}{Q:Ex->St->Prop}(I:Nat->St->Prop)(step:∀ k σ,I k σ->W E c ⟨clearV σ.vs d,σ.ls,σ.bx⟩ fun e τ=>match e with| .normal=> ∃k',k'<k/\I k' (τ.trunc σ.bx.length)|e=>Q e τ):
  ∀(k:Nat) (σ:St),I k σ->W E (.loop d c) σ Q:=by
 intro k
 induction k using Nat.strongRecOn with
 | ind k ih=>
   intro σ h;refine W.round rfl ((step k σ h).mono fun e τ he=>?_);cases e with
   | normal=>
     obtain⟨k',hk,hi⟩:=he;exact ih k' hk _ hi
   |_=>exact he
def St.clr(d:List Nat)(σ:St):St:=⟨clearV σ.vs d,σ.ls,σ.bx⟩
theorem W.for{d:List Nat}{c:AC}{σ:St}{Q:Ex->St->Prop}(n:Nat)(I:Nat->St->Prop)(i0:Nat)(hi:i0<=n)(h0:I i0 (σ.clr d))
  (step:∀ i σ,i0<=i->i<=n->I i σ->W E c σ fun e τ=>match e with| .normal=>i<n/\I (i+1) ((τ.trunc σ.bx.length).clr d)|e=>Q e τ):W E (.loop d c) σ Q:=by
 refine W.loop (fun k σ=> ∃i,i0<=i/\i<=n/\k=n-i/\I i (σ.clr d)) (fun k σ h=>?_) (n-i0) σ ⟨i0,Nat.le_refl _,hi,rfl,h0⟩;obtain⟨i,h1,h2,rfl,h3⟩:=h;refine(step i _ h1 h2 h3).mono fun e τ he=>?_;cases e with
 |normal=>exact⟨n-(i+1),by omega,i+1,by omega,by omega,rfl,he.2⟩
 |_=>exact he
theorem W.while{d:List Nat}{c:AC}{σ:St}{Q:Ex->St->Prop}(I:Nat->St->Prop)(m:Nat)(h0:I m (σ.clr d))
  (step:∀ m σ,I m σ->W E c σ fun e τ=>match e with| .normal=> ∃m',m'<m/\I m' ((τ.trunc σ.bx.length).clr d)|e=>Q e τ):W E (.loop d c) σ Q:=
 W.loop (fun k σ=>I k (σ.clr d)) (fun k σ h=>step k _ h) m σ h0
theorem W.forS{α:Type}{d:List Nat}{c:AC}{σ:St}{Q:Ex->St->Prop}(n:Nat)(u:Nat->α->St->St)(P:Nat->α->Prop)(i0:Nat)(hi:i0<=n)(h0:∃ x0,σ.clr d=u i0 x0 (σ.clr d)/\P i0 x0)
  (step:∀ i x,i<=n->P i x->W E c (u i x (σ.clr d)) fun e ρ=>match e with| .normal=>i<n/\ ∃x',(ρ.trunc (u i x (σ.clr d)).bx.length).clr d=u (i+1) x' (σ.clr d)/\P (i+1) x'|e=>Q e ρ):W E (.loop d c) σ Q:=by
 obtain⟨x0,h0,hp⟩:=h0;refine W.for n (fun i τ=> ∃x,P i x/\u i x (σ.clr d)=τ) i0 hi ⟨x0,hp,h0.symm⟩ ?_;rintro i τ-hin ⟨x,hx,rfl⟩;refine(step i x hin hx).mono fun e ρ he=>?_;cases e with
 | normal=>
   obtain⟨h1,x',h2,h3⟩:=he;exact⟨h1,x',h3,h2.symm⟩
 |_=>exact he
theorem W.whileS{α:Type}{d:List Nat}{c:AC}{σ:St}{Q:Ex->St->Prop}(m:α->Nat)(u:α->St->St)(P:α->Prop)(h0:∃ x0,σ.clr d=u x0 (σ.clr d)/\P x0)
  (step:∀ x,P x->W E c (u x (σ.clr d)) fun e ρ=>match e with| .normal=> ∃x',(ρ.trunc (u x (σ.clr d)).bx.length).clr d=u x' (σ.clr d)/\P x'/\m x'<m x|e=>Q e ρ):W E (.loop d c) σ Q:=by
 obtain⟨x0,h0,hp⟩:=h0;refine W.while (fun k τ=> ∃x,P x/\m x=k/\u x (σ.clr d)=τ) (m x0) ⟨x0,hp,rfl,h0.symm⟩ ?_;rintro k τ ⟨x,hx,rfl,rfl⟩;refine(step x hx).mono fun e ρ he=>?_;cases e with
 | normal=>
   obtain⟨x',h1,h2,h3⟩:=he;exact⟨m x',h3,x',h2,rfl,h1.symm⟩
 |_=>exact he
theorem W.norm{c:AC}{σ τ:St}{Q:Ex->St->Prop}(h:σ=τ:=by cbv;first|done|fail)(k:W E c τ Q):W E c σ Q:=h ▸ k
def sv(k:Nat)(a:A)(σ:St):St:=⟨σ.vs.set k a,σ.ls,σ.bx⟩
def si(k:Nat)(n:Int)(σ:St):St:=sv k (.v (.int .i64 n)) σ
def sn(k:Nat)(n:Nat)(σ:St):St:=sv k (.v (.int .i64 (Int.ofNat n))) σ
def sb(b c:Nat)(a:A)(σ:St):St:=⟨σ.vs,σ.ls,match σ.bx[b]? with|some (.cells cs)=>σ.bx.set b (.cells (cs.set c a))|_=>σ.bx⟩
theorem W.regS{ops:List AOper}{vs:List A}{bx:List Bx}{Q:Ex->St->Prop}(h:WS E ops ⟨vs,[],bx⟩ fun τ=>Q .normal ⟨τ.vs,[],τ.bx⟩):W E (.reg ops none) ⟨vs,[],bx⟩ Q:=
 let ⟨n,τ,h1,h2⟩:=h;W.reg n h1 h2
theorem W.regD{ops:List AOper}{D:List (List Nat)}{lv:List (Option Nat)}{vs:List A}{bx:List Bx}{Q:Ex->St->Prop}
  (h:WD E lv D 0 [] ops ⟨vs,List.replicate ops.length .top,bx⟩ fun τ=> ∃τ',flush 0 lv ⟨clearV τ.vs (setV lv fun _=>true),τ.ls,τ.bx⟩=some τ'/\Q .normal ⟨τ'.vs,[],τ'.bx⟩):W E (.reg ops (some (D,lv))) ⟨vs,[],bx⟩ Q:=by
 obtain⟨n,τ,h1,τ',h2,h3⟩:=h;exact⟨n+1,.normal,⟨τ'.vs,[],τ'.bx⟩,by rw[aexec];simp only[h1,h2],h3⟩
theorem WS.done{σ:St}{Q:St->Prop}(h:Q σ):WS E [] σ Q:=⟨1,σ,rfl,h⟩
theorem WD.done{lv:List (Option Nat)}{D:List (List Nat)}{i:Nat}{mk:List (Nat×Nat)}{σ:St}{Q:St->Prop}(h:Q σ):WD E lv D i mk [] σ Q:=⟨1,σ,rfl,h⟩
theorem WS.cons{o:AOper}{os:List AOper}{σ τ:St}{Q:St->Prop}(n:Nat)(h:aoper E n o σ=some τ)(k:WS E os τ Q):WS E (o::os) σ Q:=by
 obtain⟨m,τ',h1,h2⟩:=k;exact⟨max n m+1,τ',by rw[aops];simp only[aoper_up h (Nat.le_max_left n m),aops_up h1 (Nat.le_max_right n m)],h2⟩
theorem WS.op{d:Dst}{op:AOp}{os:List AOper}{σ σ1 τ:St}{x:A}{Q:St->Prop}(n:Nat)(h:ago E n op σ=some (x,σ1))(hp:σ1.putV d x=some τ)(k:WS E os τ Q):WS E (⟨d,op,none⟩::os) σ Q:=
 WS.cons (n+1) (by rw[aoper];simp only[h,hp]) k
theorem ago_iaddr{σ:St}{z:Nat}{x i:Opd}{nl:Bool}{es:List (List A)}{k:IntKind}{j:Nat}{e:List A}(hx:σ.rd x=some (.imm nl z es))(hi:σ.rd i=some (.v (.int k (Int.ofNat j))))(he:es[j]?=some e):ago E 1 (.iaddr z x i) σ=some (.pimm e,σ):=by
 have hj:j<es.length:=(Ge he).1
 have ha:asNat (Int.ofNat j) es.length=some j:=by
  unfold asNat;rw[if_pos (show(0:Int)<=Int.ofNat j from Int.natCast_nonneg j),if_pos (show Int.ofNat j<(es.length:Int)from Int.ofNat_lt.2 hj)];rfl
 simp only[ago,aop,pop,hx,hi,if_true,ha,he]
theorem ago_len{σ:St}{x:Opd}{nl:Bool}{z n:Nat}{es:List (List A)}(hx:σ.rd x=some (.imm nl z es))(hn:es.length=n):ago E 1 (.len 0 x) σ=some (.v (.int .i64 n),σ):=by
 simp only[ago,aop,pop,hx,lenK,lenA,hn,A.int]
theorem wrap64{n:Int}(h1:-9223372036854775808<=n)(h2:n<=9223372036854775807):IntKind.i64.wrap n=n:=by
 simp[IntKind.wrap,IntKind.bits,IntKind.signed];split<;>omega
theorem ago_add{σ:St}{x y:Opd}{a b:Int}(hx:σ.rd x=some (.v (.int .i64 a)))(hy:σ.rd y=some (.v (.int .i64 b)))(h1:-9223372036854775808<=a+b)(h2:a+b<=9223372036854775807):ago E 1 (.bin .add x y) σ=some (.v (.int .i64 (a+b)),σ):=by
 simp only[ago,aop,pop,hx,hy,if_true,binI];rw[wrap64 h1 h2]
theorem ago_inc{σ:St}{x:Opd}{i:Nat}(hx:σ.rd x=some (.v (.int .i64 (Int.ofNat i))))(hi:i<9223372036854775807):ago E 1 (.bin .add x (.k (.v (.int .i64 1)))) σ=some (.v (.int .i64 ((i+1:Nat):Int)),σ):=
 ago_add (a:=(i:Int)) (b:=1) hx rfl (by omega) (by omega)
def cmpP(op:BinOp)(a b:Int):Prop:=
 match op with
 | .eql=>a=b
 | .neq=>a≠b
 | .lss=>a<b
 | .leq=>a<=b
 | .gtr=>b<a
 | .geq=>b<=a
 |_=>False
def isCmp:BinOp->Bool
 | .eql| .neq| .lss| .leq| .gtr| .geq=>true
 |_=>false
theorem oC(n:Nat):Int.ofNat n=(n:Int):=rfl
theorem Zq:(∀a b,cmpP .eql a b=(a=b))/\(∀a b,cmpP .neq a b= ¬a=b)/\(∀a b,cmpP .lss a b=(a<b))/\(∀a b,cmpP .leq a b=(a<=b))/\(∀a b,cmpP .gtr a b=(b<a))/\(∀a b,cmpP .geq a b=(b<=a))/\(∀n:Nat,Int.ofNat n=(n:Int))/\(¬True)=False/\ ∀a b:Int,(a≠b)= ¬a=b:=
 ⟨fun _ _=>rfl,fun _ _=>rfl,fun _ _=>rfl,fun _ _=>rfl,fun _ _=>rfl,fun _ _=>rfl,fun _=>rfl,not_true_eq_false,fun _ _=>rfl⟩
theorem binI_cmp{op:BinOp}{k:IntKind}{a b:Int}(h:isCmp op=true):(cmpP op a b->binI op k a b=some (.v (.bool true)))/\(¬cmpP op a b->binI op k a b=some (.v (.bool false))):=by
 cases op<;>simp[isCmp]at h<;>simp[binI,cmpP]<;>omega
theorem pop_cmp{op:BinOp}{σ:St}{x y:Opd}{k:IntKind}{a b:Int}(h:isCmp op=true)(hx:σ.rd x=some (.v (.int k a)))(hy:σ.rd y=some (.v (.int k b))):
  (cmpP op a b->pop σ (.bin op x y)=some (.v (.bool true)))/\(¬cmpP op a b->pop σ (.bin op x y)=some (.v (.bool false))):=by
 simp only[pop,hx,hy,if_true];exact binI_cmp h
def backOf(q:Bool)(ids:List Nat)(b:Bool)(σ σ1:St)(r:A)(bx:List Bx):Option (A×St):=
 let r:=if b then untaint r else r
 let old:=(bx.take ids.length).map fun x=>if b then untaintB x else x
 let new:=(bx.drop ids.length).map fun x=>if b then untaintB x else x
 let more:=(idsT r++old.flatMap idsB).any (ids.length<= ·)
 let f2:=num ids σ.bx.length more
 let bx1:=backB σ1.bx ids (old.map (renB f2))
 if q&&more then none else some (renT f2 r,killBoxes ids {σ1 with bx:=if more then bx1++new.map (renB f2)else bx1})
theorem acallOp_of{q:Bool}{f:Nat}{ys as:List A}{σ σ1 σ2:St}{b:Bool}{ids:List Nat}{r x:A}{bx':List Bx}{n:Nat}(hid:reach σ.bx 1000 (ys.flatMap idsA) []=ids)
  (hg:gives q {σ with bx:=goneB σ.bx ids} ys=some (as,σ1,b)) (hc:acall E n f (as.map (renA (nth ids))) (ids.map fun i=>renB (nth ids) (getB σ.bx i))=some (r,bx'))
  (hb:backOf q ids b σ σ1 r bx'=some (x,σ2)):acallOp E (n+1) q f ys σ=some (x,σ2):=by
 subst hid;rw[acallOp];simp only[hg,hc];exact hb
theorem WS.call{f:Nat}{args:List Opd}{d:Dst}{os:List AOper}{ys as as':List A}{σ σ1:St}{b:Bool}{ids:List Nat}{bx0:List Bx}{R:A->List Bx->Prop}{Q:St->Prop}(hr:rds σ args=some ys:=by cbv;first|done|fail)(hid:reach σ.bx 1000 (ys.flatMap idsA) []=ids:=by cbv;first|done|fail)
  (hg:gives false {σ with bx:=goneB σ.bx ids} ys=some (as,σ1,b):=by cbv;first|done|fail) (ha:as.map (renA (nth ids))=as':=by cbv;first|done|fail) (hb:(ids.map fun i=>renB (nth ids) (getB σ.bx i))=bx0:=by cbv;first|done|fail) (hc:WC E f as' bx0 R)
  (k:∀ r bx',R r bx'-> ∃x σ2 σ3,backOf false ids b σ σ1 r bx'=some (x,σ2)/\σ2.putV d x=some σ3/\WS E os σ3 Q):WS E (⟨d,.call f args,none⟩::os) σ Q:=by
 subst ha hb;obtain⟨n,r,bx',h1,h2⟩:=hc;obtain⟨x,σ2,σ3,k1,k2,k3⟩:=k r bx' h2;exact WS.op (n+2) (by rw[ago];simp only[hr];exact acallOp_of hid hg h1 k1) k2 k3
inductive RowR{α:Type}(R:α->List A->Prop):List α->List (List A)->Prop
 |nil:RowR R [] []
 |cons {x e l es}:R x e->RowR R l es->RowR R (x::l) (e::es)
theorem RowR.len{α:Type}{R:α->List A->Prop}{l:List α}{es:List (List A)}(h:RowR R l es):es.length=l.length:=by
 induction h with
 |nil=>rfl
 |cons _ _ ih=>simp[ih]
theorem RowR.at{α:Type}{R:α->List A->Prop}{l:List α}{es:List (List A)}(h:RowR R l es):∀ (j:Nat) (hj:j<l.length),∃e,es[j]?=some e/\R l[j] e:=by
 induction h with
 |nil=>intro j hj;simp at hj
 | cons h1 _ ih=>
   intro j hj;cases j with
   |zero=>exact⟨_,rfl,h1⟩
   | succ j=>
     obtain⟨e,h2,h3⟩:=ih j (by simpa using hj);exact⟨e,by simpa using h2,h3⟩
theorem RowR.append{α:Type}{R:α->List A->Prop}{l l':List α}{es es':List (List A)}(h:RowR R l es)(k:RowR R l' es'):RowR R (l++l') (es++es'):=by
 induction h with
 |nil=>exact k
 |cons h1 _ ih=>exact .cons h1 ih
theorem RowR.set{α:Type}{R:α->List A->Prop}{l:List α}{es:List (List A)}(h:RowR R l es)(j:Nat){x:α}{e:List A}(hx:R x e):RowR R (l.set j x) (es.set j e):=by
 induction h generalizing j with
 |nil=>exact .nil
 | cons h1 h2 ih=>
   cases j with
   |zero=>exact .cons hx h2
   |succ j=>exact .cons h1 (ih j)
theorem RowR.replicate{α:Type}{R:α->List A->Prop}{x:α}{e:List A}(hx:R x e):∀ n,RowR R (List.replicate n x) (List.replicate n e)
 |0=> .nil
 |n+1=> .cons hx (RowR.replicate hx n)
theorem RowR.mono{α:Type}{R R':α->List A->Prop}{l:List α}{es:List (List A)}(h:RowR R l es)(k:∀ x e,R x e->R' x e):RowR R' l es:=by
 induction h with
 |nil=>exact .nil
 |cons h1 _ ih=>exact .cons (k _ _ h1) ih
section
variable {d:Dst} {os:List AOper} {σ:St} {Q:St->Prop}
theorem WS.iaddr{τ:St}{z:Nat}{x i:Opd}{nl:Bool}{es:List (List A)}{k:IntKind}{j:Nat}{e:List A}(hx:σ.rd x=some (.imm nl z es):=by cbv;first|done|fail)(hi:σ.rd i=some (.v (.int k (Int.ofNat j))):=by cbv;first|done|fail)(he:es[j]?=some e:=by assumption)
  (hp:σ.putV d (.pimm e)=some τ:=by cbv;first|done|fail) (h:WS E os τ Q):WS E (⟨d,.iaddr z x i,none⟩::os) σ Q:=WS.op 1 (ago_iaddr hx hi he) hp h
theorem WS.len{τ:St}{x:Opd}{nl:Bool}{z n:Nat}{es:List (List A)}(hx:σ.rd x=some (.imm nl z es):=by cbv;first|done|fail)(hn:es.length=n:=by assumption)(hp:σ.putV d (.v (.int .i64 n))=some τ:=by cbv;first|done|fail)(h:WS E os τ Q):WS E (⟨d,.len 0 x,none⟩::os) σ Q:=
 WS.op 1 (ago_len hx hn) hp h
theorem WS.cmp{τ1 τ2:St}{op:BinOp}{x y:Opd}{k:IntKind}{a b:Int}(hc:isCmp op=true:=by rfl)(hx:σ.rd x=some (.v (.int k a)):=by cbv;first|done|fail)(hy:σ.rd y=some (.v (.int k b)):=by cbv;first|done|fail)(h1:σ.putV d (.v (.bool true))=some τ1:=by cbv;first|done|fail)(h2:σ.putV d (.v (.bool false))=some τ2:=by cbv;first|done|fail)
  (k1:cmpP op a b->WS E os τ1 Q) (k2:¬ cmpP op a b->WS E os τ2 Q):WS E (⟨d,.bin op x y,none⟩::os) σ Q:=by
 by_cases h:cmpP op a b
 ·exact WS.op 1 (by simp only[ago,aop,(pop_cmp hc hx hy).1 h]) h1 (k1 h)
 ·exact WS.op 1 (by simp only[ago,aop,(pop_cmp hc hx hy).2 h]) h2 (k2 h)
theorem WS.inc{τ:St}{x:Opd}{i:Nat}(hx:σ.rd x=some (.v (.int .i64 (Int.ofNat i))):=by cbv;first|done|fail)(hi:i<9223372036854775807:=by omega)(hp:σ.putV d (.v (.int .i64 ((i+1:Nat):Int)))=some τ:=by cbv;first|done|fail)(h:WS E os τ Q):
  WS E (⟨d,.bin .add x (.k (.v (.int .i64 1))),none⟩::os) σ Q:=WS.op 1 (ago_inc hx hi) hp h
theorem WS.add{τ:Int->St}{x y:Opd}{a b:Int}(hx:σ.rd x=some (.v (.int .i64 a)):=by cbv;first|done|fail)(hy:σ.rd y=some (.v (.int .i64 b)):=by cbv;first|done|fail)(h1:-9223372036854775808<=a+b/\a+b<=9223372036854775807:=by simp only[Int.ofNat_eq_natCast];omega)(hp:∀ c,σ.putV d (.v (.int .i64 c))=some (τ c):=by intro c;cbv;first|done|fail)
  (h:∀ c,a+b=c->WS E os (τ c) Q):WS E (⟨d,.bin .add x y,none⟩::os) σ Q:=WS.op 1 (ago_add hx hy h1.1 h1.2) (hp _) (h _ rfl)
end
def AOp.easy:AOp->Bool
 | .iaddr ..| .len ..| .bin ..| .call ..| .callv ..| .sub ..| .mk ..| .app ..| .eq ..| .look ..| .mapup ..| .mx ..| .mn ..| .conv ..| .ssub ..| .sidx ..=>false
 |_=>true
def AOp.isAlloc:AOp->Bool
 | .alloc _=>true
 |_=>false
def AOp.keeps:AOp->Bool
 | .store ..=>true| .move _=>true
 |_=>false
def AOper.easy(o:AOper):Bool:=o.op.easy&&(!o.op.keeps || match o.op,o.dst with| .move _,.loc=>true|_,_=>false)
def allEasy(os:List AOper):Bool:=os.all fun o=>o.op.easy
def splitEasy:List AOper->List AOper×List AOper
 |[]=>([],[])
 |o::os=>if o.easy then((o::(splitEasy os).1),(splitEasy os).2)else([],o::os)
theorem splitEasy_eq:∀ os,(splitEasy os).1++(splitEasy os).2=os
 |[]=>rfl
 | o::os=>by
   unfold splitEasy;split
   ·simp[splitEasy_eq os]
   ·rfl
theorem aops_append:∀ (os1 os2:List AOper) (n m:Nat) (σ τ ρ:St),aops E n os1 σ=some τ->aops E m os2 τ=some ρ-> ∃k,aops E k (os1++os2) σ=some ρ
 | [],os2,n,m,σ,τ,ρ,h1,h2=>by
   cases n with
   |zero=>simp[aops]at h1
   |succ n=>simp only[aops,Oe]at h1;subst h1;exact⟨m,h2⟩
 | o::os1,os2,n,m,σ,τ,ρ,h1,h2=>by
   cases n with
   |zero=>simp[aops]at h1
   | succ n=>
     rw[aops]at h1;cases h3:aoper E n o σ with
     |none=>rw[h3]at h1;cases h1
     | some σ1=>
       rw[h3]at h1;obtain⟨k,hk⟩:=aops_append os1 os2 n m σ1 τ ρ h1 h2;refine⟨max n k+1,?_⟩;rw[List.cons_append,aops,aoper_up h3 (Nat.le_max_left n k)];exact aops_up hk (Nat.le_max_right n k)
theorem W.easy{ops:List AOper}{vs vs' ls':List A}{bx bx':List Bx}{Q:Ex->St->Prop}(n:Nat:=200)(_:allEasy ops=true:=by rfl)(h:aops E n ops ⟨vs,[],bx⟩=some ⟨vs',ls',bx'⟩:=by cbv;first|done|fail)(k:Q .normal ⟨vs',[],bx'⟩):W E (.reg ops none) ⟨vs,[],bx⟩ Q:=W.reg n h k
theorem WS.pre{os os1 os2:List AOper}{o:AOper}{σ:St}{vs ls:List A}{bx:List Bx}{Q:St->Prop}(n:Nat:=200)(_:(splitEasy os).1.isEmpty=false:=by rfl)(hs:splitEasy os=(o::os1,os2):=by cbv;first|done|fail)(h:aops E n (o::os1) σ=some ⟨vs,ls,bx⟩:=by cbv;first|done|fail)(k:WS E os2 ⟨vs,ls,bx⟩ Q):WS E os σ Q:=by
 obtain⟨m,τ,h1,h2⟩:=k;have e:=splitEasy_eq os
 rw[hs]at e;subst e;obtain⟨k,hk⟩:=aops_append _ _ _ _ _ _ _ h h1;exact⟨k,τ,hk,h2⟩
theorem WS.ud{d:Dst}{op:AOp}{g:Opd×Bool}{os:List AOper}{σ:St}{vs ls:List A}{bx:List Bx}{Q:St->Prop}(hw:wantD σ (some g)=some false)(hp:σ.put d .ud=⟨vs,ls,bx⟩)(h:WS E os ⟨vs,ls,bx⟩ Q):WS E (⟨d,op,some g⟩::os) σ Q:=by
 refine WS.cons 1 ?_ h;rw[aoper];simp only
 simp only[wantD]at hw;split at hw
 ·rename_i b hb;simp only[Oe]at hw;simp only[hb,hw,Bool.false_eq_true,if_false,hp]
 ·rename_i hb;simp only[hb,hp]
 ·cases hw
theorem WS.want{d:Dst}{op:AOp}{g:Opd×Bool}{os:List AOper}{σ:St}{Q:St->Prop}(hw:wantD σ (some g)=some true)(h:WS E (⟨d,op,none⟩::os) σ Q):WS E (⟨d,op,some g⟩::os) σ Q:=by
 obtain⟨m,τ,h1,h2⟩:=h;cases m with
 |zero=>simp[aops]at h1
 | succ m=>
   refine⟨m+1,τ,?_,h2⟩;rw[aops]at h1 ⊢
   cases m with
   |zero=>simp[aoper]at h1
   | succ m=>
     rw[aoper]at h1 ⊢
     simp only at h1 ⊢
     simp only[wantD]at hw;split at hw
     ·rename_i b hb;simp only[Oe]at hw;simp only[hb,hw,if_true];exact h1
     ·cases hw
     ·cases hw
theorem WS.guard{d:Dst}{op:AOp}{g:Opd×Bool}{os:List AOper}{σ:St}{vs ls:List A}{bx:List Bx}{Q:St->Prop}{w:Bool}(hw:wantD σ (some g)=some w:=by cbv;first|done|fail)(hp:σ.put d .ud=⟨vs,ls,bx⟩:=by cbv;first|done|fail)
  (h:match w with|true=>WS E (⟨d,op,none⟩::os) σ Q|false=>WS E os ⟨vs,ls,bx⟩ Q):WS E (⟨d,op,some g⟩::os) σ Q:=by
 cases w with
 |true=>exact WS.want hw h
 |false=>exact WS.ud hw hp h
theorem pop_iaddr{σ:St}{z:Nat}{x i:Opd}{nl:Bool}{es:List (List A)}{k:IntKind}{j:Nat}{e:List A}(hx:σ.rd x=some (.imm nl z es))(hi:σ.rd i=some (.v (.int k (Int.ofNat j))))(he:es[j]?=some e):pop σ (.iaddr z x i)=some (.pimm e):=by
 have hj:j<es.length:=(Ge he).1
 have ha:asNat (Int.ofNat j) es.length=some j:=by
  unfold asNat;rw[if_pos (show(0:Int)<=Int.ofNat j from Int.natCast_nonneg j),if_pos (show Int.ofNat j<(es.length:Int)from Int.ofNat_lt.2 hj)];rfl
 simp only[pop,hx,hi,if_true,ha,he]
theorem pop_len{σ:St}{x:Opd}{nl:Bool}{z n:Nat}{es:List (List A)}(hx:σ.rd x=some (.imm nl z es))(hn:es.length=n):pop σ (.len 0 x)=some (.v (.int .i64 n)):=by
 simp only[pop,hx,lenK,lenA,hn,A.int]
theorem pop_add{σ:St}{x y:Opd}{a b:Int}(hx:σ.rd x=some (.v (.int .i64 a)))(hy:σ.rd y=some (.v (.int .i64 b)))(h1:-9223372036854775808<=a+b)(h2:a+b<=9223372036854775807):pop σ (.bin .add x y)=some (.v (.int .i64 (a+b))):=by
 simp only[pop,hx,hy,if_true,binI];rw[wrap64 h1 h2]
def AOp.isPop:AOp->Bool
 | .iaddr ..| .len ..| .bin ..| .eq ..| .conv ..| .sub ..| .mk ..| .load ..=>true
 |_=>false
theorem ago_pop{op:AOp}{σ:St}{x:A}(hi:op.isPop=true)(h:pop σ op=some x):ago E 1 op σ=some (x,σ):=by
 cases op<;>simp[AOp.isPop]at hi<;>simp only[ago,aop,h]
theorem aquiet_pop{op:AOp}{σ:St}{x:A}(hi:op.isPop=true)(h:pop σ op=some x):aquiet E 1 op σ=some (x,none):=by
 cases op<;>simp[AOp.isPop]at hi<;>simp only[aquiet,h]
section
variable {lv:List (Option Nat)} {D:List (List Nat)} {i:Nat} {mk:List (Nat×Nat)} {os:List AOper} {vs vs1 vs2 ls ls1 ls2 ls':List A} {bx bx1 bx2:List Bx} {Q:St->Prop}
theorem W.easyD{ops:List AOper}{vs0:List A}{bx0:List Bx}{Q:Ex->St->Prop}(n:Nat:=200)(_:allEasy ops=true:=by rfl)(h:adraw E n lv D 0 [] ops ⟨vs0,List.replicate ops.length .top,bx0⟩=some ⟨vs1,ls1,bx1⟩:=by cbv;first|done|fail)
  (hf:flush 0 lv ⟨clearV vs1 (setV lv fun _=>true),ls1,bx1⟩=some ⟨vs2,ls2,bx2⟩:=by cbv;first|done|fail) (k:Q .normal ⟨vs2,[],bx2⟩):W E (.reg ops (some (D,lv))) ⟨vs0,[],bx0⟩ Q:=
 W.regD ⟨n,_,h,_,hf,k⟩
theorem W.beginD{ops:List AOper}{vs0:List A}{bx0:List Bx}{Q:Ex->St->Prop}(hl:List.replicate ops.length .top=ls:=by cbv;first|done|fail)
  (h:WD E lv D 0 [] ops ⟨vs0,ls,bx0⟩ fun τ=> ∃τ',flush 0 lv ⟨clearV τ.vs (setV lv fun _=>true),τ.ls,τ.bx⟩=some τ'/\Q .normal ⟨τ'.vs,[],τ'.bx⟩):W E (.reg ops (some (D,lv))) ⟨vs0,[],bx0⟩ Q:=by
 subst hl;exact W.regD h
theorem WD.end{Q:Ex->St->Prop}(hf:flush 0 lv ⟨clearV vs (setV lv fun _=>true),ls,bx⟩=some ⟨vs2,ls2,bx2⟩)(k:Q .normal ⟨vs2,[],bx2⟩):
  WD E lv D i mk [] ⟨vs,ls,bx⟩ fun τ=> ∃τ',flush 0 lv ⟨clearV τ.vs (setV lv fun _=>true),τ.ls,τ.bx⟩=some τ'/\Q .normal ⟨τ'.vs,[],τ'.bx⟩:=WD.done ⟨_,hf,k⟩
theorem adraw_one{lv:List (Option Nat)}{D:List (List Nat)}{mk:List (Nat×Nat)}{i n m:Nat}{o:AOper}{os:List AOper}{σ τ ρ:St}(ha:o.op.isAlloc=false)(h1:adraw E n lv D i mk [o] σ=some τ)(h2:adraw E m lv D (i+1) mk os τ=some ρ):∃ k,adraw E k lv D i mk (o::os) σ=some ρ:=by
 cases n with
 |zero=>simp[adraw]at h1
 | succ n=>
   have fin:∀ {i:Nat} {σ'},adraw E n lv D i mk [] σ'=some τ->σ'=τ:=fun{i σ'} h=>by
    cases n with
    |zero=>simp[adraw]at h
    |succ n=>simpa[adraw]using h
   refine⟨max n m+1,?_⟩;rw[adraw]at h1 ⊢
   have up:∀ {σ'},adraw E n lv D (i+1) mk [] σ'=some τ->adraw E (max n m) lv D (i+1) mk os σ'=some ρ:=fun h=>by rw[fin h];exact adraw_up h2 (Nat.le_max_right n m)
   split at h1
   ·cases h1
   ·split at h1
    ·rename_i hd;rw[if_pos hd];exact up h1
    ·cases h1
   ·split at h1
    ·rename_i hf;rw[if_pos hf];split at h1
     ·rename_i x σ1 hg;rw[ago_up hg (Nat.le_max_left n m)];simp only
      split at h1
      ·split at h1
       ·rename_i hl;rw[if_pos hl];exact up h1
       ·cases h1
      ·split at h1
       ·rename_i σ2 hp;split at h1
        ·rename_i hl;rw[if_pos hl];exact up h1
        ·cases h1
       ·cases h1
     ·cases h1
    ·rename_i hf;rw[if_neg hf];split at h1
     ·rename_i hs;rw[if_pos hs];split at h1
      ·rename_i x hq;rw[aquiet_up hq (Nat.le_max_left n m)];simp only
       split at h1
       ·rename_i hl;rw[if_pos hl];exact up h1
       ·cases h1
      ·rename_i x b hq;exfalso
       have:∀ (op:AOp) σ,op.isAlloc=false->aquiet E n op σ≠some (x,some b):=by
        intro op σ ho h;cases n with
        |zero=>simp[aquiet]at h
        | succ n=>
          cases op<;>simp only[aquiet]at h<;>first
           |(simp[AOp.isAlloc]at ho;done)
           |(split at h<;>simp at h;done)
           |skip
          split at h
          ·split at h
           ·split at h<;>simp at h
           ·cases h
          ·cases h
       exact this _ _ ha hq
      ·cases h1
     ·cases h1
theorem adraw_append:∀ (os1 os2:List AOper) (i n m:Nat) (σ τ ρ:St),(os1.all fun o=>!o.op.isAlloc)=true->adraw E n lv D i mk os1 σ=some τ->adraw E m lv D (i+os1.length) mk os2 τ=some ρ-> ∃k,adraw E k lv D i mk (os1++os2) σ=some ρ
 | [],os2,i,n,m,σ,τ,ρ,_,h1,h2=>by
   cases n with
   |zero=>simp[adraw]at h1
   |succ n=>simp only[adraw,Oe]at h1;subst h1;exact⟨m,h2⟩
 | o::os1,os2,i,n,m,σ,τ,ρ,ha,h1,h2=>by
   simp only[List.all_cons,Bool.and_eq_true,Bool.not_eq_true']at ha
   have key:∃ σ1 n1,adraw E n1 lv D i mk [o] σ=some σ1/\adraw E n1 lv D (i+1) mk os1 σ1=some τ:=by
    cases n with
    |zero=>simp[adraw]at h1
    | succ n=>
      have one:∀ (i:Nat) (σ':St),adraw E (n+1) lv D i mk [] σ'=some σ':=fun _ _=>rfl;cases n with
      | zero=>
        exfalso;rw[adraw]at h1;split at h1
        ·cases h1
        ·split at h1
         ·simp[adraw]at h1
         ·cases h1
        ·split at h1
         ·split at h1
          ·rename_i hg;simp[ago]at hg
          ·cases h1
         ·split at h1
          ·split at h1
           ·rename_i hq;simp[aquiet]at hq
           ·rename_i hq;simp[aquiet]at hq
           ·cases h1
          ·cases h1
      | succ n=>
        refine ?_;rw[adraw]at h1;split at h1
        ·cases h1
        ·rename_i hw;split at h1
         ·rename_i hd;exact⟨_,n+2,by rw[adraw];simp only[hw];rw[if_pos hd];rfl,adraw_up h1 (Nat.le_succ _)⟩
         ·cases h1
        ·rename_i hw;split at h1
         ·rename_i hf;split at h1
          ·rename_i x σ1 hg;split at h1
           ·rename_i hd;split at h1
            ·rename_i hl;exact⟨_,n+2,by rw[adraw];simp only[hw];rw[if_pos hf];simp only[hg,hd];rw[if_pos hl];rfl,adraw_up h1 (Nat.le_succ _)⟩
            ·cases h1
           ·rename_i v hd;split at h1
            ·rename_i σ2 hp;split at h1
             ·rename_i hl;exact⟨_,n+2,by rw[adraw];simp only[hw];rw[if_pos hf];simp only[hg,hd,hp];rw[if_pos hl];rfl,adraw_up h1 (Nat.le_succ _)⟩
             ·cases h1
            ·cases h1
          ·cases h1
         ·rename_i hf;split at h1
          ·rename_i hs;split at h1
           ·rename_i x hq;split at h1
            ·rename_i hl;exact⟨_,n+2,by rw[adraw];simp only[hw];rw[if_neg hf,if_pos hs];simp only[hq];rw[if_pos hl];rfl,adraw_up h1 (Nat.le_succ _)⟩
            ·cases h1
           ·rename_i x b hq;exfalso
            have:∀ (op:AOp) σ,op.isAlloc=false->aquiet E (n+1) op σ≠some (x,some b):=by
             intro op σ ho h
             cases op<;>simp only[aquiet]at h<;>first
              |(simp[AOp.isAlloc]at ho;done)
              |(split at h<;>simp at h;done)
              |skip
             split at h
             ·split at h
              ·split at h<;>simp at h
              ·cases h
             ·cases h
            exact this _ _ ha.1 hq
           ·cases h1
          ·cases h1
   obtain⟨σ1,n1,k1,k2⟩:=key;obtain⟨k,hk⟩:=adraw_append os1 os2 (i+1) n1 m σ1 τ ρ ha.2 k2 (by rw[show i+1+os1.length=i+(o::os1).length by simp;omega];exact h2);exact adraw_one ha.1 k1 hk
def noAlloc(os:List AOper):Bool:=os.all fun o=>!o.op.isAlloc
theorem WD.pre{os1 os2:List AOper}{o:AOper}{σ:St}(n:Nat:=200)(_:(splitEasy os).1.isEmpty=false:=by rfl)(hs:splitEasy os=(o::os1,os2):=by cbv;first|done|fail)(ha:noAlloc (o::os1)=true:=by rfl)(h:adraw E n lv D i mk (o::os1) σ=some ⟨vs,ls,bx⟩:=by cbv;first|done|fail){j:Nat}(hj:i+(o::os1).length=j:=by cbv;first|done|fail)(k:WD E lv D j mk os2 ⟨vs,ls,bx⟩ Q):WD E lv D i mk os σ Q:=by
 obtain⟨m,τ,h1,h2⟩:=k;have e:=splitEasy_eq os
 rw[hs]at e;subst e hj;obtain⟨k,hk⟩:=adraw_append _ _ _ _ _ _ _ _ ha h h1;exact⟨k,τ,hk,h2⟩
theorem WD.one{o:AOper}{σ:St}(n:Nat)(ha:o.op.isAlloc=false)(h:adraw E n lv D i mk [o] σ=some ⟨vs,ls,bx⟩){j:Nat}(hj:i+1=j)(k:WD E lv D j mk os ⟨vs,ls,bx⟩ Q):WD E lv D i mk (o::os) σ Q:=by
 obtain⟨m,τ,h1,h2⟩:=k;subst hj;obtain⟨k,hk⟩:=adraw_one ha h h1;exact⟨k,τ,hk,h2⟩
def dSt(lv:List (Option Nat))(D:List (List Nat))(i:Nat)(mk:List (Nat×Nat))(σ:St):St:=if fullAt D i then σ.maskV lv D i else σ.mask lv D i mk
def dStep(lv:List (Option Nat))(D:List (List Nat))(i:Nat)(op:AOp)(x:A)(σ:St):Option (List A×List A):=
 if fullAt D i then(if((σ.maskV lv D i).ls.set i x).all (locsIn (· <i))then some ((σ.maskV lv D i).vs,topFrom (i+1) ((σ.maskV lv D i).ls.set i x))else none)
 else if seesOK lv D i op&&quietOK D i x σ then some (σ.vs,σ.ls.set i x)else none
theorem WD.pop{op:AOp}{x:A}(hi:op.isPop=true)(hx:pop (dSt lv D i mk ⟨vs,ls,bx⟩) op=some x)(hs:dStep lv D i op x ⟨vs,ls,bx⟩=some (vs1,ls1))(h:WD E lv D (i+1) mk os ⟨vs1,ls1,bx⟩ Q):
  WD E lv D i mk (⟨.loc,op,none⟩::os) ⟨vs,ls,bx⟩ Q:=by
 obtain⟨m,τ,h1,h2⟩:=h;refine⟨max 1 m+1,τ,?_,h2⟩;rw[adraw];unfold dSt at hx;unfold dStep at hs;have hup:=adraw_up h1 (Nat.le_max_right 1 m)
 split at hs
 ·rename_i hf;rw[if_pos hf]at hx;split at hs
  ·rename_i hk;simp only[Oe,Prod.mk.injEq]at hs;obtain⟨rfl,rfl⟩:=hs;simp only[wantD,hf,ago_up (ago_pop hi hx) (Nat.le_max_left 1 m),hk,if_true];exact hup
  ·cases hs
 ·rename_i hf;rw[if_neg hf]at hx;split at hs
  ·rename_i hk;simp only[Oe,Prod.mk.injEq]at hs;obtain⟨rfl,rfl⟩:=hs;simp only[Bool.and_eq_true]at hk;simp only[wantD,hf,hk.1,hk.2,aquiet_up (aquiet_pop hi hx) (Nat.le_max_left 1 m),Bool.false_eq_true,if_false,if_true,decide_true,Bool.and_self];exact hup
  ·cases hs
theorem WD.iaddr{z:Nat}{x j:Opd}{nl:Bool}{es:List (List A)}{k:IntKind}{q:Nat}{e:List A}(hx:(dSt lv D i mk ⟨vs,ls,bx⟩).rd x=some (.imm nl z es):=by cbv;first|done|fail)(hi:(dSt lv D i mk ⟨vs,ls,bx⟩).rd j=some (.v (.int k (Int.ofNat q))):=by cbv;first|done|fail)(he:es[q]?=some e:=by assumption)
  (hs:dStep lv D i (.iaddr z x j) (.pimm e) ⟨vs,ls,bx⟩=some (vs1,ls1):=by cbv;first|done|fail) {i':Nat} (hi':i+1=i':=by cbv;first|done|fail) (h:WD E lv D i' mk os ⟨vs1,ls1,bx⟩ Q):WD E lv D i mk (⟨.loc,.iaddr z x j,none⟩::os) ⟨vs,ls,bx⟩ Q:=by
 subst hi';exact WD.pop rfl (pop_iaddr hx hi he) hs h
theorem WD.len{x:Opd}{nl:Bool}{z n:Nat}{es:List (List A)}(hx:(dSt lv D i mk ⟨vs,ls,bx⟩).rd x=some (.imm nl z es):=by cbv;first|done|fail)(hn:es.length=n:=by assumption)(hs:dStep lv D i (.len 0 x) (.v (.int .i64 n)) ⟨vs,ls,bx⟩=some (vs1,ls1):=by cbv;first|done|fail){i':Nat}(hi':i+1=i':=by cbv;first|done|fail)
  (h:WD E lv D i' mk os ⟨vs1,ls1,bx⟩ Q):WD E lv D i mk (⟨.loc,.len 0 x,none⟩::os) ⟨vs,ls,bx⟩ Q:=by
 subst hi';exact WD.pop rfl (pop_len hx hn) hs h
theorem WD.add{x y:Opd}{a b:Int}{ls1:Int->List A}(hx:(dSt lv D i mk ⟨vs,ls,bx⟩).rd x=some (.v (.int .i64 a)):=by cbv;first|done|fail)(hy:(dSt lv D i mk ⟨vs,ls,bx⟩).rd y=some (.v (.int .i64 b)):=by cbv;first|done|fail)
  (h1:-9223372036854775808<=a+b/\a+b<=9223372036854775807:=by simp only[Int.ofNat_eq_natCast];omega) (hs:∀ c,dStep lv D i (.bin .add x y) (.v (.int .i64 c)) ⟨vs,ls,bx⟩=some (vs1,ls1 c):=by intro c;cbv;first|done|fail) {i':Nat} (hi':i+1=i':=by cbv;first|done|fail) (h:∀ c,a+b=c->WD E lv D i' mk os ⟨vs1,ls1 c,bx⟩ Q):
  WD E lv D i mk (⟨.loc,.bin .add x y,none⟩::os) ⟨vs,ls,bx⟩ Q:=by
 subst hi';exact WD.pop rfl (pop_add hx hy h1.1 h1.2) (hs _) (h _ rfl)
theorem WD.cmp{op:BinOp}{x y:Opd}{k:IntKind}{a b:Int}(hc:isCmp op=true:=by rfl)(hx:(dSt lv D i mk ⟨vs,ls,bx⟩).rd x=some (.v (.int k a)):=by cbv;first|done|fail)(hy:(dSt lv D i mk ⟨vs,ls,bx⟩).rd y=some (.v (.int k b)):=by cbv;first|done|fail)
  (hs1:dStep lv D i (.bin op x y) (.v (.bool true)) ⟨vs,ls,bx⟩=some (vs1,ls1):=by cbv;first|done|fail) (hs2:dStep lv D i (.bin op x y) (.v (.bool false)) ⟨vs,ls,bx⟩=some (vs2,ls2):=by cbv;first|done|fail) {i':Nat} (hi':i+1=i':=by cbv;first|done|fail)
  (k1:cmpP op a b->WD E lv D i' mk os ⟨vs1,ls1,bx⟩ Q) (k2:¬ cmpP op a b->WD E lv D i' mk os ⟨vs2,ls2,bx⟩ Q):
  WD E lv D i mk (⟨.loc,.bin op x y,none⟩::os) ⟨vs,ls,bx⟩ Q:=by
 subst hi'
 by_cases h:cmpP op a b
 ·exact WD.pop rfl ((pop_cmp hc hx hy).1 h) hs1 (k1 h)
 ·exact WD.pop rfl ((pop_cmp hc hx hy).2 h) hs2 (k2 h)
theorem WD.ud{op:AOp}{g:Opd×Bool}(hw:wantD ⟨vs,ls,bx⟩ (some g)=some false)(hl:ls.set i .ud=ls'){i':Nat}(hi':i+1=i')(h:WD E lv D i' mk os ⟨vs,ls',bx⟩ Q):WD E lv D i mk (⟨.loc,op,some g⟩::os) ⟨vs,ls,bx⟩ Q:=by
 subst hl hi';obtain⟨m,τ,h1,h2⟩:=h;refine⟨m+1,τ,?_,h2⟩;rw[adraw];simp only[hw,if_true];exact h1
theorem WD.want{d:Dst}{op:AOp}{g:Opd×Bool}(hw:wantD ⟨vs,ls,bx⟩ (some g)=some true:=by cbv;first|done|fail)(h:WD E lv D i mk (⟨d,op,none⟩::os) ⟨vs,ls,bx⟩ Q):WD E lv D i mk (⟨d,op,some g⟩::os) ⟨vs,ls,bx⟩ Q:=by
 obtain⟨m,τ,h1,h2⟩:=h;cases m with
 |zero=>simp[adraw]at h1
 | succ m=>
   refine⟨m+1,τ,?_,h2⟩;rw[adraw]at h1 ⊢
   simp only[hw];simpa only[wantD]using h1
theorem WD.guard{op:AOp}{g:Opd×Bool}{w:Bool}(hw:wantD ⟨vs,ls,bx⟩ (some g)=some w:=by cbv;first|done|fail)(hl:ls.set i .ud=ls':=by cbv;first|done|fail){i':Nat}(hi':i+1=i':=by cbv;first|done|fail)
  (h:match w with|true=>WD E lv D i mk (⟨.loc,op,none⟩::os) ⟨vs,ls,bx⟩ Q|false=>WD E lv D i' mk os ⟨vs,ls',bx⟩ Q):WD E lv D i mk (⟨.loc,op,some g⟩::os) ⟨vs,ls,bx⟩ Q:=by
 cases w with
 |true=>exact WD.want hw h
 |false=>exact WD.ud hw hl hi' h
end
def Flat(es:List (List A)):Prop:=es.map (·.map immLeaf)=es/\es.all (·.all A.leafF)=true
theorem flat_of{α:Type}{R:α->List A->Prop}{l:List α}{es:List (List A)}(h:RowR R l es)(k:∀ x e,R x e->e.map immLeaf=e/\e.all A.leafF=true):Flat es:=by
 induction h with
 |nil=>exact⟨rfl,rfl⟩
 |cons h1 _ ih=>exact⟨by simp only[List.map_cons,(k _ _ h1).1,ih.1],by simp only[List.all_cons,(k _ _ h1).2,ih.2,Bool.and_self]⟩
theorem news_imm{σ:St}{z:Nat}{nl:Bool}{es:List (List A)}(h:Flat es):newsA σ z (.imm nl z es)=some (false,es):=by
 simp only[newsA,if_true,h.1,h.2]
theorem ago_app{z bytes:Nat}{s x:Opd}{σ:St}{b:A}{p:Pl}{es:List (List A)}{c:Bool×List (List A)}(hs:σ.rd s=some (.sref p))(hx:σ.rd x=some b)(hn:newsA σ z b=some c)(hb:bytes<=4096)(hr:σ.row p=some (z,es))
  (hl:es.length+c.2.length<=4294967296) (ha:(σ.vs++σ.ls).any (appOn p.r)=false):ago E 1 (.app z bytes s x) σ=some (.app z p [c],σ):=by
 simp only[ago,aop,hs,hx,hn,if_pos hb,hr,if_true,bound,if_pos hl,ha,Bool.false_eq_true,if_false]
def isApp:Option A->Bool
 |some (.app _ _ _)=>true
 |_=>false
theorem matL_app{n:Nat}{σ σ1 σ2:St}{z:Nat}{p:Pl}{cs:List (Bool×List (List A))}{es:List (List A)}{ess:List (List (List A))}(h1:matL n σ (.sref p)=some (.own z es,σ1))
  (h2:mapM' (fun σ (c:Bool×List (List A))=>if c.1 then mapM' (mapM' (matL n)) σ c.2 else some (c.2,σ)) σ1 cs=some (ess,σ2)):matL (n+1) σ (.app z p cs)=some (.own z (es++ess.flatten),σ2):=by
 simp only[matL,h1,if_true,h2]
section
variable {d:Dst} {os:List AOper} {σ:St} {Q:St->Prop}
theorem WS.app{τ:St}{z bytes:Nat}{s x:Opd}{b:A}{p:Pl}{es:List (List A)}{c:Bool×List (List A)}(hs:σ.rd s=some (.sref p):=by cbv;first|done|fail)(hx:σ.rd x=some b:=by cbv;first|done|fail)(hn:newsA σ z b=some c:=by cbv;first|done|fail)(hb:bytes<=4096:=by decide)(hr:σ.row p=some (z,es):=by cbv;first|done|fail)
  (hl:es.length+c.2.length<=4294967296:=by(try dsimp only);(try simp only[List.length_nil,List.length_cons]);omega) (ha:(σ.vs++σ.ls).any (appOn p.r)=false:=by cbv;first|done|fail) (hp:σ.putV d (.app z p [c])=some τ:=by cbv;first|done|fail) (h:WS E os τ Q):WS E (⟨d,.app z bytes s x,none⟩::os) σ Q:=
 WS.op 1 (ago_app hs hx hn hb hr hl ha) hp h
theorem WS.setApp{n:Nat}{x:Opd}{z:Nat}{p:Pl}{cs:List (Bool×List (List A))}{es:List (List A)}{ess:List (List (List A))}{σ1 σ2:St}{τ:List (List A)->St}(_:isApp (σ.rd x)=true:=by rfl)(hx:σ.rd x=some (.app z p cs):=by cbv;first|done|fail)(h1:matL 19 σ (.sref p)=some (.own z es,σ1):=by cbv;first|done|fail)
  (h2:mapM' (fun σ (c:Bool×List (List A))=>if c.1 then mapM' (mapM' (matL 19)) σ c.2 else some (c.2,σ)) σ1 cs=some (ess,σ2):=by cbv;first|done|fail) (hp:∀ r,σ2.put (.var n) (.own z r)=τ r:=by intro r;cbv;first|done|fail) (h:∀ r,es++ess.flatten=r->WS E os (τ r) Q):
  WS E (⟨.var n,.move x,none⟩::os) σ Q:=by
 refine WS.op (σ1:=σ) (x:=.app z p cs) 1 (by simp only[ago,aop,pop,hx]) ?_ (h _ rfl);simp only[St.putV,asg,mat,matA,matL_app h1 h2,locFree,locFreeL,if_true,hp]
theorem WS.stoApp{x y:Opd}{a:A}{z:Nat}{p:Pl}{cs:List (Bool×List (List A))}{es:List (List A)}{ess:List (List (List A))}{σ1 σ2:St}{τ:List (List A)->St}(_:isApp (σ.rd y)=true:=by rfl)(hx:σ.rd x=some a:=by cbv;first|done|fail)(hy:σ.rd y=some (.app z p cs):=by cbv;first|done|fail)(h1:matL 19 σ (.sref p)=some (.own z es,σ1):=by cbv;first|done|fail)
  (h2:mapM' (fun σ (c:Bool×List (List A))=>if c.1 then mapM' (mapM' (matL 19)) σ c.2 else some (c.2,σ)) σ1 cs=some (ess,σ2):=by cbv;first|done|fail) (hp:∀ r,storeA σ2 1 a [.own z r]=some (τ r):=by intro r;cbv;first|done|fail) (h:∀ r,es++ess.flatten=r->WS E os ((τ r).push .ud) Q):
  WS E (⟨.loc,.store false 1 x y,none⟩::os) σ Q:=by
 refine WS.op (σ1:=τ (es++ess.flatten)) (x:=.ud) 1 ?_ rfl (h _ rfl);simp only[ago,aop,hx,hy,mat,matA,matL_app h1 h2,Bool.false_eq_true,if_false,hp]
end
section
variable {lv:List (Option Nat)} {D:List (List Nat)} {i:Nat} {mk:List (Nat×Nat)} {os:List AOper} {vs vs1 vs2 ls ls1 ls2 ls':List A} {bx bx1 bx2:List Bx} {Q:St->Prop}
def fStep(i:Nat)(x:A)(ls:List A):Option (List A):=if(ls.set i x).all (locsIn (· <i))then some (topFrom (i+1) (ls.set i x))else none
theorem WD.full{op:AOp}{x:A}{σ1:St}(n:Nat)(hf:fullAt D i=true)(hg:ago E n op (St.maskV lv D i ⟨vs,ls,bx⟩)=some (x,σ1))(hs:fStep i x σ1.ls=some ls'){i':Nat}(hi':i+1=i')(h:WD E lv D i' mk os ⟨σ1.vs,ls',σ1.bx⟩ Q):
  WD E lv D i mk (⟨.loc,op,none⟩::os) ⟨vs,ls,bx⟩ Q:=by
 subst hi';obtain⟨m,τ,h1,h2⟩:=h;refine⟨max n m+1,τ,?_,h2⟩;unfold fStep at hs;split at hs
 ·rename_i hk;simp only[Oe]at hs;subst hs;rw[adraw];simp only[wantD,hf,ago_up hg (Nat.le_max_left n m),hk,if_true];exact adraw_up h1 (Nat.le_max_right n m)
 ·cases hs
theorem WD.fullV{op:AOp}{x:A}{v:Nat}{σ1 σ2:St}(n:Nat)(hf:fullAt D i=true)(hg:ago E n op (St.maskV lv D i ⟨vs,ls,bx⟩)=some (x,σ1))(hp:σ1.putW v x=some σ2)(hs:fStep i .top σ2.ls=some ls'){i':Nat}(hi':i+1=i')(h:WD E lv D i' mk os ⟨σ2.vs,ls',σ2.bx⟩ Q):
  WD E lv D i mk (⟨.var v,op,none⟩::os) ⟨vs,ls,bx⟩ Q:=by
 subst hi';obtain⟨m,τ,h1,h2⟩:=h;refine⟨max n m+1,τ,?_,h2⟩;unfold fStep at hs;split at hs
 ·rename_i hk;simp only[Oe]at hs;subst hs;rw[adraw];simp only[wantD,hf,ago_up hg (Nat.le_max_left n m),hp,hk,if_true];exact adraw_up h1 (Nat.le_max_right n m)
 ·cases hs
theorem WD.quiet{op:AOp}{x:A}(n:Nat)(hf:fullAt D i=false)(hs:seesOK lv D i op=true)(hq:aquiet E n op (St.mask lv D i mk ⟨vs,ls,bx⟩)=some (x,none))(hk:quietOK D i x ⟨vs,ls,bx⟩=true)(hl:ls.set i x=ls'){i':Nat}(hi':i+1=i')
  (h:WD E lv D i' mk os ⟨vs,ls',bx⟩ Q):WD E lv D i mk (⟨.loc,op,none⟩::os) ⟨vs,ls,bx⟩ Q:=by
 subst hi' hl;obtain⟨m,τ,h1,h2⟩:=h;refine⟨max n m+1,τ,?_,h2⟩;rw[adraw];simp only[wantD,hf,hs,aquiet_up hq (Nat.le_max_left n m),hk,Bool.false_eq_true,if_false,if_true,decide_true,Bool.and_self];exact adraw_up h1 (Nat.le_max_right n m)
theorem WD.app{z bytes:Nat}{s x:Opd}{b:A}{p:Pl}{es:List (List A)}{c:Bool×List (List A)}(hs:(dSt lv D i mk ⟨vs,ls,bx⟩).rd s=some (.sref p):=by cbv;first|done|fail)(hx:(dSt lv D i mk ⟨vs,ls,bx⟩).rd x=some b:=by cbv;first|done|fail)(hn:newsA (dSt lv D i mk ⟨vs,ls,bx⟩) z b=some c:=by cbv;first|done|fail)(hb:bytes<=4096:=by decide)
  (hr:(dSt lv D i mk ⟨vs,ls,bx⟩).row p=some (z,es):=by cbv;first|done|fail) (hl:es.length+c.2.length<=4294967296:=by(try dsimp only);(try simp only[List.length_nil,List.length_cons]);omega) (ha:((dSt lv D i mk ⟨vs,ls,bx⟩).vs++(dSt lv D i mk ⟨vs,ls,bx⟩).ls).any (appOn p.r)=false:=by cbv;first|done|fail)
  (hd:dStep lv D i (.app z bytes s x) (.app z p [c]) ⟨vs,ls,bx⟩=some (vs1,ls1):=by cbv;first|done|fail) {i':Nat} (hi':i+1=i':=by cbv;first|done|fail) (h:WD E lv D i' mk os ⟨vs1,ls1,bx⟩ Q):WD E lv D i mk (⟨.loc,.app z bytes s x,none⟩::os) ⟨vs,ls,bx⟩ Q:=by
 have hg:=ago_app (E:=E) hs hx hn hb hr hl ha;unfold dStep at hd;split at hd
 ·rename_i hf;have hd':dSt lv D i mk ⟨vs,ls,bx⟩=St.maskV lv D i ⟨vs,ls,bx⟩:=by unfold dSt;rw[if_pos hf]
  rw[hd']at hg;split at hd
  ·rename_i hk;simp only[Oe,Prod.mk.injEq]at hd;obtain⟨rfl,rfl⟩:=hd;refine WD.full 1 hf hg ?_ hi' h;unfold fStep;rw[if_pos hk]
  ·cases hd
 ·rename_i hf;have hd':dSt lv D i mk ⟨vs,ls,bx⟩=St.mask lv D i mk ⟨vs,ls,bx⟩:=by unfold dSt;rw[if_neg hf]
  rw[hd']at hg;split at hd
  ·rename_i hk;simp only[Oe,Prod.mk.injEq]at hd;obtain⟨rfl,rfl⟩:=hd;simp only[Bool.and_eq_true]at hk;refine WD.quiet (x:=.app z p [c]) 1 (by simpa using hf) hk.1 ?_ hk.2 rfl hi' h;simp only[ago]at hg;simp only[aquiet,hg]
  ·cases hd
theorem WD.stoApp{x y:Opd}{a:A}{z:Nat}{p:Pl}{cs:List (Bool×List (List A))}{es:List (List A)}{ess:List (List (List A))}{σ σ1 σ2:St}{τ:List (List A)->St}{ls':List (List A)->List A}(_:isApp (St.rd ⟨vs,ls,bx⟩ y)=true:=by rfl)(hf:fullAt D i=true:=by cbv;first|done|fail)(hm:St.maskV lv D i ⟨vs,ls,bx⟩=σ:=by cbv;first|done|fail)(hx:σ.rd x=some a:=by cbv;first|done|fail)(hy:σ.rd y=some (.app z p cs):=by cbv;first|done|fail)
  (h1:matL 19 σ (.sref p)=some (.own z es,σ1):=by cbv;first|done|fail) (h2:mapM' (fun σ (c:Bool×List (List A))=>if c.1 then mapM' (mapM' (matL 19)) σ c.2 else some (c.2,σ)) σ1 cs=some (ess,σ2):=by cbv;first|done|fail) (hp:∀ r,storeA σ2 1 a [.own z r]=some (τ r):=by intro r;cbv;first|done|fail) (hs:∀ r,fStep i .ud (τ r).ls=some (ls' r):=by intro r;cbv;first|done|fail) {i':Nat} (hi':i+1=i':=by cbv;first|done|fail)
  (h:∀ r,es++ess.flatten=r->WD E lv D i' mk os ⟨(τ r).vs,ls' r,(τ r).bx⟩ Q):WD E lv D i mk (⟨.loc,.store false 1 x y,none⟩::os) ⟨vs,ls,bx⟩ Q:=by
 subst hm;refine WD.full 1 hf ?_ (hs _) hi' (h _ rfl);simp only[ago,aop,hx,hy,mat,matA,matL_app h1 h2,Bool.false_eq_true,if_false,hp]
theorem WD.setApp{v:Nat}{x:Opd}{z:Nat}{p:Pl}{cs:List (Bool×List (List A))}{es:List (List A)}{ess:List (List (List A))}{σ σ1 σ2:St}{τ:List (List A)->St}{ls':List (List A)->List A}(_:isApp (St.rd ⟨vs,ls,bx⟩ x)=true:=by rfl)(hf:fullAt D i=true:=by cbv;first|done|fail)(hm:St.maskV lv D i ⟨vs,ls,bx⟩=σ:=by cbv;first|done|fail)(hx:σ.rd x=some (.app z p cs):=by cbv;first|done|fail)
  (h1:matL 19 σ (.sref p)=some (.own z es,σ1):=by cbv;first|done|fail) (h2:mapM' (fun σ (c:Bool×List (List A))=>if c.1 then mapM' (mapM' (matL 19)) σ c.2 else some (c.2,σ)) σ1 cs=some (ess,σ2):=by cbv;first|done|fail) (hp:∀ r,σ2.putN v (.own z r)=τ r:=by intro r;cbv;first|done|fail) (hs:∀ r,fStep i .top (τ r).ls=some (ls' r):=by intro r;cbv;first|done|fail) {i':Nat} (hi':i+1=i':=by cbv;first|done|fail)
  (h:∀ r,es++ess.flatten=r->WD E lv D i' mk os ⟨(τ r).vs,ls' r,(τ r).bx⟩ Q):WD E lv D i mk (⟨.var v,.move x,none⟩::os) ⟨vs,ls,bx⟩ Q:=by
 subst hm;refine WD.fullV (σ1:=St.maskV lv D i ⟨vs,ls,bx⟩) (x:=.app z p cs) 1 hf (by simp only[ago,aop,Ab.pop,hx]) ?_ (hs _) hi' (h _ rfl);simp only[St.putW,asg,mat,matA,matL_app h1 h2,locFree,locFreeL,if_true,hp]
theorem WD.call{f:Nat}{args:List Opd}{ys as as':List A}{σ σ1:St}{b:Bool}{ids:List Nat}{bx0:List Bx}{R:A->List Bx->Prop}(hf:fullAt D i=true:=by cbv;first|done|fail)(hm:St.maskV lv D i ⟨vs,ls,bx⟩=σ:=by cbv;first|done|fail)(hr:rds σ args=some ys:=by cbv;first|done|fail)(hid:reach σ.bx 1000 (ys.flatMap idsA) []=ids:=by cbv;first|done|fail)
  (hg:gives false {σ with bx:=goneB σ.bx ids} ys=some (as,σ1,b):=by cbv;first|done|fail) (ha:as.map (renA (nth ids))=as':=by cbv;first|done|fail) (hb:(ids.map fun i=>renB (nth ids) (getB σ.bx i))=bx0:=by cbv;first|done|fail) (hc:WC E f as' bx0 R)
  (k:∀ r bx',R r bx'-> ∃x σ2 ls',backOf false ids b σ σ1 r bx'=some (x,σ2)/\fStep i x σ2.ls=some ls'/\WD E lv D (i+1) mk os ⟨σ2.vs,ls',σ2.bx⟩ Q):WD E lv D i mk (⟨.loc,.call f args,none⟩::os) ⟨vs,ls,bx⟩ Q:=by
 subst ha hb hm;obtain⟨n,r,bx',h1,h2⟩:=hc;obtain⟨x,σ2,ls',k1,k2,k3⟩:=k r bx' h2;exact WD.full (n+2) hf (by rw[ago];simp only[hr];exact acallOp_of hid hg h1 k1) k2 rfl k3
theorem WD.qcall{f:Nat}{args:List Opd}{ys as as':List A}{σ σ1:St}{b:Bool}{R:A->List Bx->Prop}(hf:fullAt D i=false:=by cbv;first|done|fail)(hs:seesOK lv D i (.call f args)=true:=by cbv;first|done|fail)(hm:St.mask lv D i mk ⟨vs,ls,bx⟩=σ:=by cbv;first|done|fail)(hr:rds σ args=some ys:=by cbv;first|done|fail)(hid:ys.flatMap idsA=[]:=by cbv;first|done|fail)
  (hg:gives true σ ys=some (as,σ1,b):=by cbv;first|done|fail) (ha:as.map (renA (nth []))=as':=by cbv;first|done|fail) (hc:WC E f as' [] R)
  (k:∀ r bx',R r bx'-> ∃x σ2 ls',backOf true [] b σ σ1 r bx'=some (x,σ2)/\quietOK D i (frzT x) ⟨vs,ls,bx⟩=true/\ls.set i (frzT x)=ls'/\WD E lv D (i+1) mk os ⟨vs,ls',bx⟩ Q):WD E lv D i mk (⟨.loc,.call f args,none⟩::os) ⟨vs,ls,bx⟩ Q:=by
 subst ha hm;obtain⟨n,r,bx',h1,h2⟩:=hc;obtain⟨x,σ2,ls',k1,k2,k3,k4⟩:=k r bx' h2;refine WD.quiet (x:=frzT x) (n+2) hf hs ?_ k2 k3 rfl k4;simp only[aquiet,hr,hid,List.isEmpty_nil,if_true];rw[acallOp_of (ids:=[]) (by rw[hid];rfl) hg h1 k1]
end
section
variable {σ:St} {r:Rt} {z:Nat} {es:List (List A)} {j c:Nat} {e:List A}
theorem get_root(h:σ.root r=some (.own z es)):σ.get ⟨r,[]⟩=some (.own z es):=by simp only[St.get,h,getS]
theorem row_root(h:σ.root r=some (.own z es)):σ.row ⟨r,[]⟩=some (z,es):=by simp only[St.row,get_root h]
theorem get_cell(h:σ.root r=some (.own z es))(he:es[j]?=some e){y:A}(hy:e[c]?=some y):σ.get ⟨r,[(j,c)]⟩=some y:=by simp only[St.get,h,getS,child,he,hy]
theorem set_cell(h:σ.root r=some (.own z es))(he:es[j]?=some e){y:A}(hy:e[c]?=some y)(x:A):σ.set ⟨r,[(j,c)]⟩ x=σ.setRoot r (.own z (es.set j (e.set c x))):=by
 simp only[St.set,h,setS,child,he,hy,setChild]
theorem root_own(h:σ.root r=some (.own z es))(q:Pl):(σ.kill q).root r=some (.own z es):=by
 cases r with
 | var n=>
   simp only[St.root,St.kill,List.getElem?_map]at h ⊢
   rw[h];rfl
 | loc n=>
   simp only[St.root,St.kill,List.getElem?_map]at h ⊢
   rw[h];rfl
 |box b c=>exact h
 |hand k=>cases h
theorem root_set(h:σ.root r=some (.own z es))(a:A):(σ.setRoot r a).root r=some a:=by
 cases r with
 | var n=>
   simp only[St.root,St.setRoot]at h ⊢
   rw[List.getElem?_set_self (Ge h).1]
 | loc n=>
   simp only[St.root,St.setRoot]at h ⊢
   rw[List.getElem?_set_self (Ge h).1]
 | box b c=>
   simp only[St.root]at h;split at h
   ·rename_i cs hb;have hbl:=(Ge hb).1
    have hcl:=(Ge h).1;simp only[St.root,St.setRoot,hb,List.getElem?_set_self hbl,List.getElem?_set_self hcl]
   ·cases h
 |hand k=>cases h
theorem kill_setRoot(h:σ.root r=some (.own z es))(z':Nat)(es':List (List A))(q:Pl)(b:A):((σ.setRoot r (.own z' es')).kill q).setRoot r b=(σ.kill q).setRoot r b:=by
 cases r with
 |var n=>simp[St.setRoot,St.kill,List.map_set]
 |loc n=>simp[St.setRoot,St.kill,List.map_set]
 | box b c=>
   simp only[St.root]at h;split at h
   ·rename_i cs hb;have hbl:=(Ge hb).1
    simp only[St.setRoot,St.kill,hb,List.getElem?_set_self hbl,List.set_set]
   ·cases h
 |hand k=>cases h
theorem pop_iaddrO{x i:Opd}{k:IntKind}(hx:σ.rd x=some (.sref ⟨r,[]⟩))(hi:σ.rd i=some (.v (.int k (Int.ofNat j))))(h:σ.root r=some (.own z es))(hj:j<es.length):pop σ (.iaddr z x i)=some (.pref ⟨r,[]⟩ j 0):=by
 have ha:asNat (Int.ofNat j) es.length=some j:=by
  unfold asNat;rw[if_pos (show(0:Int)<=Int.ofNat j from Int.natCast_nonneg j),if_pos (show Int.ofNat j<(es.length:Int)from Int.ofNat_lt.2 hj)];rfl
 simp only[pop,hx,hi,row_root h,if_true,ha]
def loadC(p:Pl)(j c n:Nat)(e:List A):Option (List A):=if c+n<=e.length then some (((e.drop c).take n).zipIdx.map fun(x,k)=>rdLeaf (p.at j (c+k)) x)else none
def oneOf(agg:Bool)(cs:List A):Option A:=if agg then some (.agg cs)else match cs with|[y]=>some y|_=>none
theorem pop_loadP{n:Nat}{agg:Bool}{x:Opd}{y:A}{cs:List A}(hx:σ.rd x=some (.pref ⟨r,[]⟩ j c))(h:σ.root r=some (.own z es))(he:es[j]?=some e)(hl:loadC ⟨r,[]⟩ j c n e=some cs)(ho:oneOf agg cs=some y):pop σ (.load agg n x)=some y:=by
 unfold loadC at hl;split at hl
 ·rename_i hc;simp only[Oe]at hl
  have h1:loadA σ n (.pref ⟨r,[]⟩ j c)=some cs:=by
   simp only[loadA,row_root h,he,if_pos hc,Oe];exact hl
  simp only[pop,hx,h1];unfold oneOf at ho;cases agg with
  |true=>exact ho
  |false=>rcases cs with _|⟨y',_|⟨y'',ys⟩⟩<;>simp_all
 ·cases hl
theorem storeA_P{n:Nat}{ys:List A}(hn:ys.length=n)(hl:ys.any A.loose=false)(hb:ys.any A.boxy=false)(h:σ.root r=some (.own z es))(he:es[j]?=some e)(hc:c+n<=e.length):
  storeA σ n (.pref ⟨r,[]⟩ j c) ys=some ((σ.kill ⟨r,[(0,0)]⟩).setRoot r (.own z (es.set j (putCells e c ys)))):=by
 simp only[storeA,hn,if_true,hl,hb,Bool.false_eq_true,if_false,List.nil_append,get_root (root_own h _),he,if_pos hc,St.set,root_own h,setS]
theorem keep_app{σ':St}{zi m:Nat}{old:List (List A)}{cs:List (Bool×List (List A))}{ess:List (List (List A))}(h:σ.root r=some (.own z es))(he:es[j]?=some e)(hy:e[c]?=some (.own zi old))
  (hm:mapM' (fun σ (c:Bool×List (List A))=>if c.1 then mapM' (mapM' (matL (m+1))) σ c.2 else some (c.2,σ)) (σ.setRoot r (.own z (es.set j (e.set c .un)))) cs=some (ess,σ')) (hs:σ'=σ.setRoot r (.own z (es.set j (e.set c .un)))):
  matL (m+2) σ (.app zi ⟨r,[(j,c)]⟩ cs)=some (.own zi (old++ess.flatten),σ')/\storeA σ' 1 (.pref ⟨r,[]⟩ j c) [.own zi (old++ess.flatten)]=some ((σ.kill ⟨r,[(0,0)]⟩).setRoot r (.own z (es.set j (e.set c (.own zi (old++ess.flatten)))))):=by
 have hc:=(Ge hy).1;have hj:=(Ge he).1
 constructor
 ·refine matL_app (n:=m+1) (σ1:=σ.setRoot r (.own z (es.set j (e.set c .un)))) ?_ hm;simp only[matL,get_cell h he hy,set_cell h he hy]
 ·subst hs;rw[storeA_P (n:=1) rfl rfl rfl (root_set h _) (List.getElem?_set_self hj) (by rw[List.length_set];omega),kill_setRoot h,List.set_set];simp only[putCells,List.set_set]
end
def isSref:Option A->Bool
 |some (.sref _)=>true
 |_=>false
def isPref:Option A->Bool
 |some (.pref _ _ _)=>true
 |_=>false
def isAppN:Option A->Bool
 |some (.app _ p _)=>!p.s.isEmpty
 |_=>false
def storeCells(agg:Bool)(b:A):Option (List A):=if agg then(match b with| .agg cs=>some cs|_=>none)else some [b]
section
variable {d:Dst} {os:List AOper} {σ:St} {Q:St->Prop} {r:Rt} {z:Nat} {es:List (List A)} {j c:Nat} {e:List A}
theorem WS.iaddrO{τ:St}{x i:Opd}{kk:IntKind}(_:isSref (σ.rd x)=true:=by rfl)(hx:σ.rd x=some (.sref ⟨r,[]⟩):=by cbv;first|done|fail)(hi:σ.rd i=some (.v (.int kk (Int.ofNat j))):=by cbv;first|done|fail)(h:σ.root r=some (.own z es):=by cbv;first|done|fail)(hj:j<es.length:=by omega)(hp:σ.putV d (.pref ⟨r,[]⟩ j 0)=some τ:=by cbv;first|done|fail)(k:WS E os τ Q):
  WS E (⟨d,.iaddr z x i,none⟩::os) σ Q:=WS.op 1 (ago_pop rfl (pop_iaddrO hx hi h hj)) hp k
theorem WS.loadP{τ:St}{n:Nat}{agg:Bool}{x:Opd}{y:A}{cs:List A}(_:isPref (σ.rd x)=true:=by rfl)(hx:σ.rd x=some (.pref ⟨r,[]⟩ j c):=by cbv;first|done|fail)(h:σ.root r=some (.own z es):=by cbv;first|done|fail)(he:es[j]?=some e:=by assumption)(hl:loadC ⟨r,[]⟩ j c n e=some cs:=by cbv;first|done|fail)(ho:oneOf agg cs=some y:=by cbv;first|done|fail)(hp:σ.putV d y=some τ:=by cbv;first|done|fail)(k:WS E os τ Q):
  WS E (⟨d,.load agg n x,none⟩::os) σ Q:=WS.op 1 (ago_pop rfl (pop_loadP hx h he hl ho)) hp k
theorem ago_stoP{n:Nat}{agg:Bool}{x y:Opd}{b b':A}{ys:List A}{σ1:St}(hx:σ.rd x=some (.pref ⟨r,[]⟩ j c))(hy:σ.rd y=some b)(hm:mat σ b=some (b',σ1))(hs:storeCells agg b'=some ys)(hn:ys.length=n)
  (hl:ys.any A.loose=false) (hb:ys.any A.boxy=false) (h:σ1.root r=some (.own z es)) (he:es[j]?=some e) (hc:Nat.ble (c+n) e.length=true):ago E 1 (.store agg n x y) σ=some (.ud,(σ1.kill ⟨r,[(0,0)]⟩).setRoot r (.own z (es.set j (putCells e c ys)))):=by
 have hst:=storeA_P hn hl hb h he (Nat.le_of_ble_eq_true hc);unfold storeCells at hs;cases agg with
 | false=>
   simp only[Bool.false_eq_true,if_false,Oe]at hs;subst hs;simp only[ago,aop,hx,hy,hm,Bool.false_eq_true,if_false,hst]
 | true=>
   simp only[if_true]at hs;cases b'<;>simp only[reduceCtorEq,Oe]at hs;subst hs;simp only[ago,aop,hx,hy,hm,if_true,hst]
theorem WS.stoP{n:Nat}{agg:Bool}{x y:Opd}{b b':A}{ys e':List A}{σ1:St}{τ:List (List A)->St}(_:isPref (σ.rd x)=true:=by rfl)(_:isAppN (σ.rd y)=false:=by rfl)(hx:σ.rd x=some (.pref ⟨r,[]⟩ j c):=by cbv;first|done|fail)(hy:σ.rd y=some b:=by cbv;first|done|fail)(hm:mat σ b=some (b',σ1):=by cbv;first|done|fail)(hs:storeCells agg b'=some ys:=by cbv;first|done|fail)(hn:ys.length=n:=by cbv;first|done|fail)
  (hl:ys.any A.loose=false:=by cbv;first|done|fail) (hb:ys.any A.boxy=false:=by cbv;first|done|fail) (h:σ1.root r=some (.own z es):=by cbv;first|done|fail) (he:es[j]?=some e:=by assumption) (hc:Nat.ble (c+n) e.length=true:=by rfl) (hp:putCells e c ys=e':=by cbv;first|done|fail) (ht:∀ q,(σ1.kill ⟨r,[(0,0)]⟩).setRoot r (.own z q)=τ q:=by intro q;cbv;first|done|fail)
  (k:∀ q,es.set j e'=q->WS E os ((τ q).push .ud) Q):WS E (⟨.loc,.store agg n x y,none⟩::os) σ Q:=by
 subst hp;exact WS.op 1 (ago_stoP hx hy hm hs hn hl hb h he hc) (by rw[ht];rfl) (k _ rfl)
theorem ago_stoN{x y:Opd}{zi:Nat}{old:List (List A)}{cs:List (Bool×List (List A))}{ess:List (List (List A))}{σ1:St}(hx:σ.rd x=some (.pref ⟨r,[]⟩ j c))(hy:σ.rd y=some (.app zi ⟨r,[(j,c)]⟩ cs))(h:σ.root r=some (.own z es))(he:es[j]?=some e)(ho:e[c]?=some (.own zi old))
  (hm:mapM' (fun σ (c:Bool×List (List A))=>if c.1 then mapM' (mapM' (matL 19)) σ c.2 else some (c.2,σ)) (σ.setRoot r (.own z (es.set j (e.set c .un)))) cs=some (ess,σ1)) (hs:σ1=σ.setRoot r (.own z (es.set j (e.set c .un)))):
  ago E 1 (.store false 1 x y) σ=some (.ud,(σ.kill ⟨r,[(0,0)]⟩).setRoot r (.own z (es.set j (e.set c (.own zi (old++ess.flatten)))))):=by
 obtain⟨k1,k2⟩:=keep_app (m:=18) h he ho hm hs;simp only[ago,aop,hx,hy,mat,matA,k1,k2,Bool.false_eq_true,if_false]
end
section
variable {lv:List (Option Nat)} {D:List (List Nat)} {i:Nat} {mk:List (Nat×Nat)} {os:List AOper} {vs vs1 vs2 ls ls1 ls2 ls':List A} {bx bx1 bx2:List Bx} {Q:St->Prop} {r:Rt} {z:Nat} {es:List (List A)} {j c:Nat} {e:List A}
theorem WD.iaddrO{x k:Opd}{kk:IntKind}(_:isSref (St.rd ⟨vs,ls,bx⟩ x)=true:=by rfl)(hx:(dSt lv D i mk ⟨vs,ls,bx⟩).rd x=some (.sref ⟨r,[]⟩):=by cbv;first|done|fail)(hi:(dSt lv D i mk ⟨vs,ls,bx⟩).rd k=some (.v (.int kk (Int.ofNat j))):=by cbv;first|done|fail)(h_0:(dSt lv D i mk ⟨vs,ls,bx⟩).root r=some (.own z es):=by cbv;first|done|fail)(hj:j<es.length:=by omega)
  (hs:dStep lv D i (.iaddr z x k) (.pref ⟨r,[]⟩ j 0) ⟨vs,ls,bx⟩=some (vs1,ls1):=by cbv;first|done|fail) {i':Nat} (hi':i+1=i':=by cbv;first|done|fail) (h:WD E lv D i' mk os ⟨vs1,ls1,bx⟩ Q):WD E lv D i mk (⟨.loc,.iaddr z x k,none⟩::os) ⟨vs,ls,bx⟩ Q:=by
 subst hi';exact WD.pop rfl (pop_iaddrO hx hi ‹_› hj) hs h
theorem WD.loadP{n:Nat}{agg:Bool}{x:Opd}{y:A}{cs:List A}(_:isPref (St.rd ⟨vs,ls,bx⟩ x)=true:=by rfl)(hx:(dSt lv D i mk ⟨vs,ls,bx⟩).rd x=some (.pref ⟨r,[]⟩ j c):=by cbv;first|done|fail)(h_0:(dSt lv D i mk ⟨vs,ls,bx⟩).root r=some (.own z es):=by cbv;first|done|fail)(he:es[j]?=some e:=by assumption)(hl:loadC ⟨r,[]⟩ j c n e=some cs:=by cbv;first|done|fail)(ho:oneOf agg cs=some y:=by cbv;first|done|fail)
  (hs:dStep lv D i (.load agg n x) y ⟨vs,ls,bx⟩=some (vs1,ls1):=by cbv;first|done|fail) {i':Nat} (hi':i+1=i':=by cbv;first|done|fail) (h:WD E lv D i' mk os ⟨vs1,ls1,bx⟩ Q):WD E lv D i mk (⟨.loc,.load agg n x,none⟩::os) ⟨vs,ls,bx⟩ Q:=by
 subst hi';exact WD.pop rfl (pop_loadP hx ‹_› he hl ho) hs h
theorem WD.stoP{n:Nat}{agg:Bool}{x y:Opd}{b b':A}{ys e':List A}{σ σ1:St}{τ:List (List A)->St}{ls':List (List A)->List A}(_:isPref (St.rd ⟨vs,ls,bx⟩ x)=true:=by rfl)(_:isAppN (St.rd ⟨vs,ls,bx⟩ y)=false:=by rfl)(hf:fullAt D i=true:=by cbv;first|done|fail)(hmk:St.maskV lv D i ⟨vs,ls,bx⟩=σ:=by cbv;first|done|fail)(hx:σ.rd x=some (.pref ⟨r,[]⟩ j c):=by cbv;first|done|fail)(hy:σ.rd y=some b:=by cbv;first|done|fail)(hm:mat σ b=some (b',σ1):=by cbv;first|done|fail)(hs:storeCells agg b'=some ys:=by cbv;first|done|fail)(hn:ys.length=n:=by cbv;first|done|fail)
  (hl:ys.any A.loose=false:=by cbv;first|done|fail) (hb:ys.any A.boxy=false:=by cbv;first|done|fail) (h:σ1.root r=some (.own z es):=by cbv;first|done|fail) (he:es[j]?=some e:=by assumption) (hc:Nat.ble (c+n) e.length=true:=by rfl) (hp:putCells e c ys=e':=by cbv;first|done|fail) (ht:∀ q,(σ1.kill ⟨r,[(0,0)]⟩).setRoot r (.own z q)=τ q:=by intro q;cbv;first|done|fail) (hs':∀ q,fStep i .ud (τ q).ls=some (ls' q):=by intro q;cbv;first|done|fail) {i':Nat} (hi':i+1=i':=by cbv;first|done|fail)
  (k:∀ q,es.set j e'=q->WD E lv D i' mk os ⟨(τ q).vs,ls' q,(τ q).bx⟩ Q):WD E lv D i mk (⟨.loc,.store agg n x y,none⟩::os) ⟨vs,ls,bx⟩ Q:=by
 subst hp hmk;exact WD.full 1 hf (ago_stoP hx hy hm hs hn hl hb h he hc) (by rw[ht];exact hs' _) hi' (by rw[ht];exact k _ rfl)
theorem WD.stoN{x y:Opd}{zi:Nat}{old:List (List A)}{cs:List (Bool×List (List A))}{ess:List (List (List A))}{σ:St}{τ:List (List A)->St}{ls':List (List A)->List A}(_:isAppN (St.rd ⟨vs,ls,bx⟩ y)=true:=by rfl)(hf:fullAt D i=true:=by cbv;first|done|fail)(hmk:St.maskV lv D i ⟨vs,ls,bx⟩=σ:=by cbv;first|done|fail)(hx:σ.rd x=some (.pref ⟨r,[]⟩ j c):=by cbv;first|done|fail)(hy:σ.rd y=some (.app zi ⟨r,[(j,c)]⟩ cs):=by cbv;first|done|fail)(h:σ.root r=some (.own z es):=by cbv;first|done|fail)(he:es[j]?=some e:=by assumption)(ho:e[c]?=some (.own zi old):=by cbv;first|done|fail)
  (hm:∀ q,mapM' (fun σ (c:Bool×List (List A))=>if c.1 then mapM' (mapM' (matL 19)) σ c.2 else some (c.2,σ)) (σ.setRoot r (.own z q)) cs=some (ess,σ.setRoot r (.own z q)):=by intro q;cbv;first|done|fail) (ht:∀ q,(σ.kill ⟨r,[(0,0)]⟩).setRoot r (.own z q)=τ q:=by intro q;cbv;first|done|fail) (hs':∀ q,fStep i .ud (τ q).ls=some (ls' q):=by intro q;cbv;first|done|fail) {i':Nat} (hi':i+1=i':=by cbv;first|done|fail)
  (k:∀ q,es.set j (e.set c (.own zi (old++ess.flatten)))=q->WD E lv D i' mk os ⟨(τ q).vs,ls' q,(τ q).bx⟩ Q):WD E lv D i mk (⟨.loc,.store false 1 x y,none⟩::os) ⟨vs,ls,bx⟩ Q:=by
 subst hmk;exact WD.full 1 hf (ago_stoN hx hy h he ho (hm _) rfl) (by rw[ht];exact hs' _) hi' (by rw[ht];exact k _ rfl)
theorem WD.appN{zi bytes:Nat}{s x:Opd}{b:A}{old:List (List A)}{cc:Bool×List (List A)}(hs:(dSt lv D i mk ⟨vs,ls,bx⟩).rd s=some (.sref ⟨r,[(j,c)]⟩):=by cbv;first|done|fail)(hx:(dSt lv D i mk ⟨vs,ls,bx⟩).rd x=some b:=by cbv;first|done|fail)(hn:newsA (dSt lv D i mk ⟨vs,ls,bx⟩) zi b=some cc:=by cbv;first|done|fail)(hb:bytes<=4096:=by decide)
  (h:(dSt lv D i mk ⟨vs,ls,bx⟩).root r=some (.own z es):=by cbv;first|done|fail) (he:es[j]?=some e:=by assumption) (ho:e[c]?=some (.own zi old):=by cbv;first|done|fail) (hl:old.length+cc.2.length<=4294967296:=by(try dsimp only);(try simp only[List.length_nil,List.length_cons]);omega) (ha:((dSt lv D i mk ⟨vs,ls,bx⟩).vs++(dSt lv D i mk ⟨vs,ls,bx⟩).ls).any (appOn r)=false:=by cbv;first|done|fail)
  (hd:dStep lv D i (.app zi bytes s x) (.app zi ⟨r,[(j,c)]⟩ [cc]) ⟨vs,ls,bx⟩=some (vs1,ls1):=by cbv;first|done|fail) {i':Nat} (hi':i+1=i':=by cbv;first|done|fail) (k:WD E lv D i' mk os ⟨vs1,ls1,bx⟩ Q):WD E lv D i mk (⟨.loc,.app zi bytes s x,none⟩::os) ⟨vs,ls,bx⟩ Q:=
 WD.app hs hx hn hb (by simp only[St.row,get_cell h he ho]) hl ha hd hi' k
end
theorem pop_mk{σ:St}{z bytes:Nat}{zero:List A}{l c:Opd}{a:Int}(hl:σ.rd l=some (.v (.int .i64 a)))(hc:σ.rd c=some (.v (.int .i64 a)))(hb:bytes<=4096)(h0:0<=a)(h1:a<=4294967296):pop σ (.mk z zero bytes l c)=some (.own z (List.replicate a.toNat zero)):=by
 have hu:upTo a bound=some a.toNat:=by
  unfold upTo bound;rw[if_pos h0,if_pos (by omega)]
 simp only[pop,hl,hc,if_true,hu,if_pos hb]
theorem WS.mk'{d:Dst}{os:List AOper}{σ:St}{Q:St->Prop}{τ:List (List A)->St}{z bytes:Nat}{zero:List A}{l c:Opd}{a:Int}(hl:σ.rd l=some (.v (.int .i64 a)):=by cbv;first|done|fail)(hc:σ.rd c=some (.v (.int .i64 a)):=by cbv;first|done|fail)(hb:bytes<=4096:=by decide)(h:0<=a/\a<=4294967296:=by simp only[Int.ofNat_eq_natCast];omega)
  (hp:∀ r,σ.putV d (.own z r)=some (τ r):=by intro r;cbv;first|done|fail) (k:∀ r,List.replicate a.toNat zero=r->WS E os (τ r) Q):WS E (⟨d,.mk z zero bytes l c,none⟩::os) σ Q:=
 WS.op 1 (ago_pop rfl (pop_mk hl hc hb h.1 h.2)) (hp _) (k _ rfl)
theorem pop_lenO{σ:St}{r:Rt}{x:Opd}{z n:Nat}{es:List (List A)}(hx:σ.rd x=some (.sref ⟨r,[]⟩))(h:σ.root r=some (.own z es))(hn:es.length=n):pop σ (.len 0 x)=some (.v (.int .i64 n)):=by
 simp only[pop,hx,lenK,lenA,row_root h,hn,A.int]
theorem WS.lenO{d:Dst}{os:List AOper}{σ τ:St}{Q:St->Prop}{r:Rt}{x:Opd}{z n:Nat}{es:List (List A)}(_:isSref (σ.rd x)=true:=by rfl)(hx:σ.rd x=some (.sref ⟨r,[]⟩):=by cbv;first|done|fail)(h:σ.root r=some (.own z es):=by cbv;first|done|fail)(hn:es.length=n:=by assumption)(hp:σ.putV d (.v (.int .i64 n))=some τ:=by cbv;first|done|fail)
  (k:WS E os τ Q):WS E (⟨d,.len 0 x,none⟩::os) σ Q:=WS.op 1 (ago_pop rfl (pop_lenO hx h hn)) hp k
section
variable {lv:List (Option Nat)} {D:List (List Nat)} {i:Nat} {mk:List (Nat×Nat)} {os:List AOper} {vs vs1 vs2 ls ls1 ls2 ls':List A} {bx:List Bx} {Q:St->Prop} {r:Rt}
theorem WD.lenO{x:Opd}{z n:Nat}{es:List (List A)}(_:isSref (St.rd ⟨vs,ls,bx⟩ x)=true:=by rfl)(hx:(dSt lv D i mk ⟨vs,ls,bx⟩).rd x=some (.sref ⟨r,[]⟩):=by cbv;first|done|fail)(h:(dSt lv D i mk ⟨vs,ls,bx⟩).root r=some (.own z es):=by cbv;first|done|fail)(hn:es.length=n:=by assumption)
  (hs:dStep lv D i (.len 0 x) (.v (.int .i64 n)) ⟨vs,ls,bx⟩=some (vs1,ls1):=by cbv;first|done|fail) {i':Nat} (hi':i+1=i':=by cbv;first|done|fail) (k:WD E lv D i' mk os ⟨vs1,ls1,bx⟩ Q):WD E lv D i mk (⟨.loc,.len 0 x,none⟩::os) ⟨vs,ls,bx⟩ Q:=by
 subst hi';exact WD.pop rfl (pop_lenO hx h hn) hs k
end
theorem flat_refs{es:List (List A)}(h:Flat es):es.flatMap (·.flatMap refsE)=[]:=by
 rw[List.flatMap_eq_nil_iff];intro e he;rw[List.flatMap_eq_nil_iff];intro x hx;have:=List.all_eq_true.1 (List.all_eq_true.1 h.2 e he) x hx
 cases x<;>first
  |rfl
  |(simp[A.leafF]at this;done)
theorem flat_locsIn{es:List (List A)}(h:Flat es)(ok:Nat->Bool)(z:Nat)(p:Pl):locsIn ok (.app z p [(false,es)])=locsIn ok (.app z p [(false,[])]):=by
 have e:refsT (.app z p [(false,es)])=refsT (.app z p [(false,[])]):=by
  simp only[refsT,refsA,refsL,flat,List.map_cons,List.map_nil,List.flatten_cons,List.flatten_nil,List.append_nil,flat_refs h,List.flatMap_nil]
 simp only[locsIn,e]
theorem topFrom_set:∀ (k:Nat) (l:List A) (x y:A),(topFrom (k+1) (l.set k x)).set k y=topFrom (k+1) (l.set k y)
 |_,[],_,_=>rfl
 |0,_::_,_,_=>rfl
 | k+1,a::l,x,y=>by
   simp only[List.set_cons_succ,topFrom,topFrom_set k l x y]
theorem all_set{p:A->Bool}{x y:A}(h:p x=p y):∀ (l:List A) (i:Nat),(l.set i x).all p=(l.set i y).all p
 |[],_=>rfl
 |a::l,0=>by simp[h]
 |a::l,i+1=>by simp[all_set h l i]
theorem dStep_app{lv:List (Option Nat)}{D:List (List Nat)}{i:Nat}{op:AOp}{z:Nat}{p:Pl}{es:List (List A)}{σ:St}{vs1 ls1:List A}(hf:Flat es)(h:dStep lv D i op (.app z p [(false,[])]) σ=some (vs1,ls1)):
  dStep lv D i op (.app z p [(false,es)]) σ=some (vs1,ls1.set i (.app z p [(false,es)])):=by
 have hL:=fun ok=>flat_locsIn hf ok z p;unfold dStep at h ⊢
 split at h
 ·rename_i hc;rw[if_pos hc,all_set (hL _)];split at h
  ·rename_i hk;rw[if_pos hk];simp only[Oe,Prod.mk.injEq]at h ⊢
   obtain⟨rfl,rfl⟩:=h;exact⟨rfl,(topFrom_set _ _ _ _).symm⟩
  ·cases h
 ·rename_i hc;rw[if_neg hc]
  have hq:quietOK D i (.app z p [(false,es)]) σ=quietOK D i (.app z p [(false,[])]) σ:=by
   unfold quietOK;rw[hL];have hr:appR (.app z p [(false,es)])=appR (.app z p [(false,[])]):=rfl
   have h1:∀ (d:List Nat) (k:Nat) (ys:List A),apartAll d (.app z p [(false,es)]) k ys=apartAll d (.app z p [(false,[])]) k ys:=by
    intro d k ys
    induction ys generalizing k with
    |nil=>rfl
    |cons y ys ih=>simp only[apartAll,apartR,hr,ih]
   have h2:(σ.vs.all fun y=>apartR (.app z p [(false,es)]) y)=σ.vs.all fun y=>apartR (.app z p [(false,[])]) y:=by simp only[apartR,hr]
   rw[h1,h2]
  rw[hq];split at h
  ·rename_i hk;rw[if_pos hk];simp only[Oe,Prod.mk.injEq]at h ⊢
   obtain⟨rfl,rfl⟩:=h;exact⟨rfl,by rw[List.set_set]⟩
  ·cases h
section
variable {lv:List (Option Nat)} {D:List (List Nat)} {i:Nat} {mk:List (Nat×Nat)} {os:List AOper} {vs vs1 vs2 ls ls1 ls2 ls':List A} {bx:List Bx} {Q:St->Prop}
theorem WD.appI{z bytes:Nat}{s x:Opd}{p:Pl}{es es2:List (List A)}{nl:Bool}(hs:(dSt lv D i mk ⟨vs,ls,bx⟩).rd s=some (.sref p):=by cbv;first|done|fail)(hx:(dSt lv D i mk ⟨vs,ls,bx⟩).rd x=some (.imm nl z es2):=by cbv;first|done|fail)(hf:Flat es2:=by assumption)(hb:bytes<=4096:=by decide)
  (hr:(dSt lv D i mk ⟨vs,ls,bx⟩).row p=some (z,es):=by cbv;first|done|fail) (hl:es.length+es2.length<=4294967296:=by omega) (ha:((dSt lv D i mk ⟨vs,ls,bx⟩).vs++(dSt lv D i mk ⟨vs,ls,bx⟩).ls).any (appOn p.r)=false:=by cbv;first|done|fail)
  (hd:dStep lv D i (.app z bytes s x) (.app z p [(false,[])]) ⟨vs,ls,bx⟩=some (vs1,ls1):=by cbv;first|done|fail) (h2:ls1.set i (.app z p [(false,es2)])=ls2:=by cbv;first|done|fail) {i':Nat} (hi':i+1=i':=by cbv;first|done|fail) (h:WD E lv D i' mk os ⟨vs1,ls2,bx⟩ Q):WD E lv D i mk (⟨.loc,.app z bytes s x,none⟩::os) ⟨vs,ls,bx⟩ Q:=by
 subst h2;exact WD.app hs hx (news_imm hf) hb hr hl ha (dStep_app hf hd) hi' h
end
end Go.Ab
end
section
namespace Go.Ab
def AOp.noCall:AOp->Bool
 | .call ..| .callv ..=>false
 |_=>true
theorem WS.consN{E:Nat->Option AF}{o:AOper}{os:List AOper}{σ τ:St}{Q:St->Prop}(n:Nat:=60)(_:o.op.noCall=true:=by rfl)(h:aoper E n o σ=some τ:=by cbv;first|done|fail)(k:WS E os τ Q):WS E (o::os) σ Q:=WS.cons n h k
theorem WD.oneN{E:Nat->Option AF}{lv:List (Option Nat)}{D:List (List Nat)}{i:Nat}{mk:List (Nat×Nat)}{o:AOper}{os:List AOper}{σ:St}{vs ls:List A}{bx:List Bx}{Q:St->Prop}(n:Nat:=60)(_:o.op.noCall=true:=by rfl)(ha:o.op.isAlloc=false:=by rfl)(h:adraw E n lv D i mk [o] σ=some ⟨vs,ls,bx⟩:=by cbv;first|done|fail){j:Nat}(hj:i+1=j:=by cbv;first|done|fail)(k:WD E lv D j mk os ⟨vs,ls,bx⟩ Q):WD E lv D i mk (o::os) σ Q:=WD.one n ha h hj k
structure TType where
 kind:Int
 n:Int
 name:ByteArray
structure TVar where
 name:ByteArray
 type:TType
 words:Int
 fields:List ByteArray
structure TPoint where
 func:Int
 line:Int
 scope:List Int
structure TIns where
 op:Int
 dst:Int
 a:Int
 b:Int
 var:Int
 num:Int
 args:List Int
structure TTerm where
 kind:Int
 a:Int
 to:Int
 els:Int
structure TBlock where
 ins:List TIns
 term:TTerm
structure TFunc where
 name:ByteArray
 params:Int
 result:Bool
 vars:List TVar
 blocks:List TBlock
 size:Int
structure TUnit where
 funcs:List TFunc
 main:Int
 points:List TPoint
def SlA{α:Type}(z:Nat)(R:α->List A->Prop)(l:List α)(a:A):Prop:=∃ nl es n,a= .imm nl z es/\es.length=n/\n=l.length/\RowR R l es/\(nl=true->l=[])
def IntR(n:Int)(e:List A):Prop:=e=[.v (.int .i64 n)]
def StrR(s:ByteArray)(e:List A):Prop:=e=[.v (.string s)]
def VarR(x:TVar)(e:List A):Prop:=∃ a,e=[.v (.string x.name),.v (.int .u8 x.type.kind),.v (.int .i64 x.type.n),.v (.string x.type.name),.v (.int .i64 x.words),a]/\SlA 1 StrR x.fields a
def PointR(x:TPoint)(e:List A):Prop:=∃ a,e=[.v (.int .i64 x.func),.v (.int .i64 x.line),a]/\SlA 1 IntR x.scope a
def InsR(x:TIns)(e:List A):Prop:=∃ a,e=[.v (.int .u8 x.op),.v (.int .i64 x.dst),.v (.int .i64 x.a),.v (.int .i64 x.b),.v (.int .i64 x.var),.v (.int .i64 x.num),a]/\SlA 1 IntR x.args a
def BlockR(x:TBlock)(e:List A):Prop:=∃ a,e=[a,.v (.int .u8 x.term.kind),.v (.int .i64 x.term.a),.v (.int .i64 x.term.to),.v (.int .i64 x.term.els)]/\SlA 7 InsR x.ins a
def FuncR(x:TFunc)(e:List A):Prop:=∃ a b,e=[.v (.string x.name),.v (.int .i64 x.params),.v (.bool x.result),a,b,.v (.int .i64 x.size)]/\SlA 6 VarR x.vars a/\SlA 5 BlockR x.blocks b
def UnitR(x:TUnit)(e:List A):Prop:=∃ a b,e=[a,.v (.int .i64 x.main),b]/\SlA 6 FuncR x.funcs a/\SlA 3 PointR x.points b
theorem intR_flat{l:List Int}{es:List (List A)}(h:RowR IntR l es):Flat es:=by
 refine flat_of h fun x e hx=>?_;subst hx;exact⟨rfl,rfl⟩
theorem varR_flat{l:List TVar}{es:List (List A)}(h:RowR VarR l es):Flat es:=by
 refine flat_of h fun x e hx=>?_;obtain⟨_,rfl,_,_,_,rfl,_⟩:=hx;exact⟨rfl,rfl⟩
theorem pointR_flat{l:List TPoint}{es:List (List A)}(h:RowR PointR l es):Flat es:=by
 refine flat_of h fun x e hx=>?_;obtain⟨_,rfl,_,_,_,rfl,_⟩:=hx;exact⟨rfl,rfl⟩
def IsB(p:Prop)(x:A):Prop:=(x= .v (.bool true)/\p)\/(x= .v (.bool false)/\ ¬p)
end Go.Ab
end
section
namespace Go.Ab
variable {E:Nat->Option AF}
theorem WS.callv{f:Nat}{x:Opd}{first caps:List A}{args:List Opd}{d:Dst}{os:List AOper}{zs ys as as':List A}{σ σ1:St}{b:Bool}{ids:List Nat}{bx0:List Bx}{R:A->List Bx->Prop}{Q:St->Prop}(hx:σ.rd x=some (.clo f first caps):=by cbv;first|done|fail)(hr:rds σ args=some zs:=by cbv;first|done|fail)
  (hcg:(first++caps).all A.caught=true:=by cbv;first|done|fail) (hy:first++zs++caps=ys:=by cbv;first|done|fail) (hid:reach σ.bx 1000 (ys.flatMap idsA) []=ids:=by cbv;first|done|fail)
  (hg:gives false {σ with bx:=goneB σ.bx ids} ys=some (as,σ1,b):=by cbv;first|done|fail) (ha:as.map (renA (nth ids))=as':=by cbv;first|done|fail) (hb:(ids.map fun i=>renB (nth ids) (getB σ.bx i))=bx0:=by cbv;first|done|fail) (hc:WC E f as' bx0 R)
  (k:∀ r bx',R r bx'-> ∃x σ2 σ3,backOf false ids b σ σ1 r bx'=some (x,σ2)/\σ2.putV d x=some σ3/\WS E os σ3 Q):WS E (⟨d,.callv x args,none⟩::os) σ Q:=by
 subst ha hb hy;obtain⟨n,r,bx',h1,h2⟩:=hc;obtain⟨y,σ2,σ3,k1,k2,k3⟩:=k r bx' h2;exact WS.op (n+2) (by rw[ago];simp only[hx,hr,hcg,if_true];exact acallOp_of hid hg h1 k1) k2 k3
theorem W.scopeL{b:AC}{l:Nat}{r:AC}{Q:Ex->St->Prop}(hf:findL b l=some r)(I:Nat->St->Prop)
  (step:∀ k τ,I k τ->W E r τ fun e ρ=>match e with| .goto i=>(match Nat.beq i l with|true=> ∃k',k'<k/\I k' ρ|false=>Q (.goto i) ρ/\findL b i=none)|e=>Q e ρ):
  ∀k τ,I k τ->W E (.scope b r) τ Q:=by
 intro k
 induction k using Nat.strongRecOn with
 | ind k ih=>
   intro τ h;obtain⟨n,e,ρ,h1,h2⟩:=step k τ h;cases e with
   | goto i=>
     simp only at h2;cases hb:Nat.beq i l with
     | true=>
       rw[hb]at h2;obtain⟨k',hk,hi⟩:=h2;obtain⟨m,e',ρ',h3,h4⟩:=ih k' hk ρ hi;have:i=l:=Nat.eq_of_beq_eq_true hb
       subst this;refine⟨max n m+1,e',ρ',?_,h4⟩;rw[aexec];simp only[aexec_up h1 (Nat.le_max_left n m),hf,aexec_up h3 (Nat.le_max_right n m)]
     | false=>
       rw[hb]at h2;exact⟨n+1,_,ρ,by rw[aexec];simp only[h1,h2.2],h2.1⟩
   |_=>exact⟨n+1,_,ρ,by rw[aexec];simp only[h1],h2⟩
theorem W.scope{b c:AC}{σ:St}{l:Nat}{r:AC}{Q:Ex->St->Prop}(hf:findL b l=some r)(I:Nat->St->Prop)
  (step:∀ k τ,I k τ->W E r τ fun e ρ=>match e with| .goto i=>(match Nat.beq i l with|true=> ∃k',k'<k/\I k' ρ|false=>Q (.goto i) ρ/\findL b i=none)|e=>Q e ρ)
  (h:W E c σ fun e ρ=>match e with| .goto i=>(match Nat.beq i l with|true=> ∃k,I k ρ|false=>Q (.goto i) ρ/\findL b i=none)|e=>Q e ρ):W E (.scope b c) σ Q:=by
 obtain⟨n,e,ρ,h1,h2⟩:=h;cases e with
 | goto i=>
   simp only at h2;cases hb:Nat.beq i l with
   | true=>
     rw[hb]at h2;obtain⟨k,hi⟩:=h2;obtain⟨m,e',ρ',h3,h4⟩:=W.scopeL hf I step k ρ hi;have:i=l:=Nat.eq_of_beq_eq_true hb
     subst this;refine⟨max n m+1,e',ρ',?_,h4⟩;rw[aexec];simp only[aexec_up h1 (Nat.le_max_left n m),hf,aexec_up h3 (Nat.le_max_right n m)]
   | false=>
     rw[hb]at h2;exact⟨n+1,_,ρ,by rw[aexec];simp only[h1,h2.2],h2.1⟩
 |_=>exact⟨n+1,_,ρ,by rw[aexec];simp only[h1],h2⟩
theorem W.scopeK{b c:AC}{σ:St}{l:Nat}{r:AC}{Q:Ex->St->Prop}(hf:findL b l=some r)(I:Nat->St->Prop)
  (step:∀ k τ,I k τ->W E r τ fun e ρ=>match e with| .goto i=>(match Nat.beq i l with|true=> ∃k',k'<k/\I k' ρ|false=>Q (.goto i) ρ/\findL b i=none)|e=>Q e ρ)
  (h:(∀ k τ,I k τ -> W E r τ fun e ρ => match e with | .goto i => (match Nat.beq i l with | true => ∃ k,I k ρ | false => Q (.goto i) ρ /\ findL b i = none) | e => Q e ρ) ->
    W E c σ fun e ρ=>match e with| .goto i=>(match Nat.beq i l with|true=> ∃k,I k ρ|false=>Q (.goto i) ρ/\findL b i=none)|e=>Q e ρ):W E (.scope b c) σ Q:=by
 refine W.scope hf I step (h fun k τ hi=>(step k τ hi).mono fun e ρ he=>?_);cases e with
 | goto i=>
   simp only at he ⊢
   cases hb:Nat.beq i l with
   |true=>rw[hb]at he;obtain⟨k',_,h⟩:=he;exact⟨k',h⟩
   |false=>rw[hb]at he;exact he
 |_=>exact he
theorem W.unskip{b:AC}{σ:St}{Q:Ex->St->Prop}(h:W E (.seq .skip b) σ Q):W E b σ Q:=by
 obtain⟨n,e,τ,h1,h2⟩:=h;cases n with
 |zero=>simp[aexec]at h1
 | succ n=>
   rw[aexec]at h1;cases n with
   |zero=>simp[aexec]at h1
   | succ n=>
     have hs:aexec E (n+1) .skip σ=some (.normal,σ):=by rw[aexec]
     simp only[hs]at h1;exact⟨n+1,e,τ,h1,h2⟩
def isSub:Option A->Bool
 |some (.sub _ _ _)=>true
 |_=>false
theorem WS.dec{d:Dst}{os:List AOper}{σ τ:St}{Q:St->Prop}{x:Opd}{i:Nat}(hx:σ.rd x=some (.v (.int .i64 (Int.ofNat (i+1)))):=by cbv;first|done|fail)(hi:i<9223372036854775807:=by omega)(hp:σ.putV d (.v (.int .i64 (Int.ofNat i)))=some τ:=by cbv;first|done|fail)(h:WS E os τ Q):
  WS E (⟨d,.bin .sub x (.k (.v (.int .i64 1))),none⟩::os) σ Q:=by
 refine WS.op (σ1:=σ) (x:=.v (.int .i64 (Int.ofNat i))) 1 ?_ hp h
 have e:IntKind.i64.wrap ((Int.ofNat (i+1))-1)=Int.ofNat i:=by
  rw[wrap64 (by simp only[Int.ofNat_eq_natCast];omega) (by simp only[Int.ofNat_eq_natCast];omega)];simp only[Int.ofNat_eq_natCast];omega
 have hk:σ.rd (.k (.v (.int .i64 1)))=some (.v (.int .i64 1)):=rfl;simp only[ago,aop,Ab.pop,hx,hk,if_true,binI,e]
theorem pop_subO{σ:St}{r:Rt}{z m:Nat}{es:List (List A)}{x h:Opd}{kk:IntKind}(hx:σ.rd x=some (.sref ⟨r,[]⟩))(hh:σ.rd h=some (.v (.int kk (Int.ofNat m))))(hr:σ.root r=some (.own z es))(hm:m<=es.length):Ab.pop σ (.sub z x none (some h) none)=some (.sub ⟨r,[]⟩ 0 m):=by
 have hu:upTo (Int.ofNat m) es.length=some m:=by
  unfold upTo;rw[if_pos (show(0:Int)<=Int.ofNat m from Int.natCast_nonneg m),if_pos (show Int.ofNat m<=(es.length:Int)from Int.ofNat_le.2 hm)];rfl
 have h0:boundO σ 0 m none=some 0:=rfl
 have h1:boundO σ es.length es.length (some h)=some m:=by
  unfold boundO;simp only[hh,hu]
 simp only[Ab.pop,hx,lenA,row_root hr,boundsA,h1,h0,if_true]
theorem WS.subO{d:Dst}{os:List AOper}{σ τ:St}{Q:St->Prop}{r:Rt}{z m:Nat}{es:List (List A)}{x h:Opd}{kk:IntKind}(_:isSref (σ.rd x)=true:=by rfl)(hx:σ.rd x=some (.sref ⟨r,[]⟩):=by cbv;first|done|fail)(hh:σ.rd h=some (.v (.int kk (Int.ofNat m))):=by cbv;first|done|fail)(hr:σ.root r=some (.own z es):=by cbv;first|done|fail)(hm:m<=es.length:=by omega)(hp:σ.putV d (.sub ⟨r,[]⟩ 0 m)=some τ:=by cbv;first|done|fail)
  (k:WS E os τ Q):WS E (⟨d,.sub z x none (some h) none,none⟩::os) σ Q:=WS.op 1 (ago_pop rfl (pop_subO hx hh hr hm)) hp k
theorem WS.stoSub{os:List AOper}{σ:St}{Q:St->Prop}{x y:Opd}{a:A}{z m:Nat}{p:Pl}{es:List (List A)}{σ1:St}{τ:List (List A)->St}(_:isSub (σ.rd y)=true:=by rfl)(hx:σ.rd x=some a:=by cbv;first|done|fail)(hy:σ.rd y=some (.sub p 0 m):=by cbv;first|done|fail)(h1:matL 19 σ (.sref p)=some (.own z es,σ1):=by cbv;first|done|fail)
  (hp:∀ r,storeA σ1 1 a [.own z r]=some (τ r):=by intro r;cbv;first|done|fail) (h:∀ r,es.take m=r->WS E os ((τ r).push .ud) Q):WS E (⟨.loc,.store false 1 x y,none⟩::os) σ Q:=by
 refine WS.op (σ1:=τ (es.take m)) (x:=.ud) 1 ?_ rfl (h _ rfl);have hm:matL 20 σ (.sub p 0 m)=some (.own z (es.take m),σ1):=by rw[matL];simp only[if_true,h1]
 simp only[ago,aop,hx,hy,mat,matA,hm,Bool.false_eq_true,if_false,hp]
theorem flat_locsO{es:List (List A)}(h:Flat es)(ok:Nat->Bool)(z:Nat):locsIn ok (.own z es)=locsIn ok (.own z []):=by
 have e:refsT (.own z es)=refsT (.own z []):=by
  simp only[refsT,refsA,refsL,flat_refs h,List.flatMap_nil]
 simp only[locsIn,e]
theorem dStep_own{lv:List (Option Nat)}{D:List (List Nat)}{i:Nat}{op:AOp}{z:Nat}{es:List (List A)}{σ:St}{vs1 ls1:List A}(hf:Flat es)(h:dStep lv D i op (.own z []) σ=some (vs1,ls1)):
  dStep lv D i op (.own z es) σ=some (vs1,ls1.set i (.own z es)):=by
 have hL:=fun ok=>flat_locsO hf ok z;unfold dStep at h ⊢
 split at h
 ·rename_i hc;rw[if_pos hc,all_set (hL _)];split at h
  ·rename_i hk;rw[if_pos hk];simp only[Oe,Prod.mk.injEq]at h ⊢
   obtain⟨rfl,rfl⟩:=h;exact⟨rfl,(topFrom_set _ _ _ _).symm⟩
  ·cases h
 ·rename_i hc;rw[if_neg hc]
  have hq:quietOK D i (.own z es) σ=quietOK D i (.own z []) σ:=by
   unfold quietOK;rw[hL]
   have h1:∀ (d:List Nat) (k:Nat) (ys:List A),apartAll d (.own z es) k ys=apartAll d (.own z []) k ys:=by
    intro d k ys
    induction ys generalizing k with
    |nil=>rfl
    |cons y ys ih=>simp only[apartAll,apartR,appR,appRA,appRL,ih]
   rw[h1];simp only[apartR,appR,appRA,appRL]
  rw[hq];split at h
  ·rename_i hk;rw[if_pos hk];simp only[Oe,Prod.mk.injEq]at h ⊢
   obtain⟨rfl,rfl⟩:=h;exact⟨rfl,by rw[List.set_set]⟩
  ·cases h
theorem ago_app0{z bytes:Nat}{s x:Opd}{σ:St}{nl:Bool}{es:List (List A)}(hs:σ.rd s=some (.v (.slice none 0 0)))(hx:σ.rd x=some (.imm nl z es))(hf:Flat es)(hb:bytes<=4096)(hl:es.length<=4294967296):
  ago E 1 (.app z bytes s x) σ=some (if es.isEmpty then .nil else .own z es,σ):=by
 simp only[ago,aop,hs,hx,news_imm hf,if_pos hb,bound,if_pos hl,Bool.false_eq_true,if_false];split<;>rfl
section
variable {lv:List (Option Nat)} {D:List (List Nat)} {i:Nat} {mk:List (Nat×Nat)} {os:List AOper} {vs vs1 vs2 ls ls1 ls2 ls3 ls':List A} {bx:List Bx} {Q:St->Prop} {r:Rt}
theorem WD.appAny{z bytes:Nat}{s x:Opd}{y:A}(hg:ago E 1 (.app z bytes s x) (dSt lv D i mk ⟨vs,ls,bx⟩)=some (y,dSt lv D i mk ⟨vs,ls,bx⟩))
  (hd:dStep lv D i (.app z bytes s x) y ⟨vs,ls,bx⟩=some (vs1,ls1)) {i':Nat} (hi':i+1=i') (h:WD E lv D i' mk os ⟨vs1,ls1,bx⟩ Q):WD E lv D i mk (⟨.loc,.app z bytes s x,none⟩::os) ⟨vs,ls,bx⟩ Q:=by
 unfold dStep at hd;split at hd
 ·rename_i hf;have hd':dSt lv D i mk ⟨vs,ls,bx⟩=St.maskV lv D i ⟨vs,ls,bx⟩:=by unfold dSt;rw[if_pos hf]
  rw[hd']at hg;split at hd
  ·rename_i hk;simp only[Oe,Prod.mk.injEq]at hd;obtain⟨rfl,rfl⟩:=hd;refine WD.full 1 hf hg ?_ hi' h;unfold fStep;rw[if_pos hk]
  ·cases hd
 ·rename_i hf;have hd':dSt lv D i mk ⟨vs,ls,bx⟩=St.mask lv D i mk ⟨vs,ls,bx⟩:=by unfold dSt;rw[if_neg hf]
  rw[hd']at hg;split at hd
  ·rename_i hk;simp only[Oe,Prod.mk.injEq]at hd;obtain⟨rfl,rfl⟩:=hd;simp only[Bool.and_eq_true]at hk;refine WD.quiet (x:=y) 1 (by simpa using hf) hk.1 ?_ hk.2 rfl hi' h;simp only[ago]at hg;simp only[aquiet,hg]
  ·cases hd
theorem WD.appN0{z bytes:Nat}{s x:Opd}{nl:Bool}{es:List (List A)}(hs:(dSt lv D i mk ⟨vs,ls,bx⟩).rd s=some (.v (.slice none 0 0)):=by rfl)(hx:(dSt lv D i mk ⟨vs,ls,bx⟩).rd x=some (.imm nl z es):=by cbv;first|done|fail)(hf:Flat es:=by assumption)(hb:bytes<=4096:=by decide)(hl:es.length<=4294967296:=by omega)
  (hd:dStep lv D i (.app z bytes s x) .nil ⟨vs,ls,bx⟩=some (vs1,ls1):=by cbv;first|done|fail) (hd2:dStep lv D i (.app z bytes s x) (.own z []) ⟨vs,ls,bx⟩=some (vs2,ls2):=by cbv;first|done|fail) (h3:ls2.set i (.own z es)=ls3:=by cbv;first|done|fail) {i':Nat} (hi':i+1=i':=by cbv;first|done|fail)
  (h:es=[]->WD E lv D i' mk os ⟨vs1,ls1,bx⟩ Q) (k:es≠[]->WD E lv D i' mk os ⟨vs2,ls3,bx⟩ Q):WD E lv D i mk (⟨.loc,.app z bytes s x,none⟩::os) ⟨vs,ls,bx⟩ Q:=by
 have hg:=ago_app0 (E:=E) hs hx hf hb hl;subst h3;cases es with
 |nil=>exact WD.appAny hg hd hi' (h rfl)
 |cons e es=>exact WD.appAny hg (dStep_own hf hd2) hi' (k (by simp))
theorem WD.appIN{z bytes zz j c:Nat}{e:List A}{s x:Opd}{es old es2:List (List A)}{nl:Bool}(hs:(dSt lv D i mk ⟨vs,ls,bx⟩).rd s=some (.sref ⟨r,[(j,c)]⟩):=by cbv;first|done|fail)(hx:(dSt lv D i mk ⟨vs,ls,bx⟩).rd x=some (.imm nl z es2):=by cbv;first|done|fail)(hf:Flat es2:=by assumption)(hb:bytes<=4096:=by decide)
  (h:(dSt lv D i mk ⟨vs,ls,bx⟩).root r=some (.own zz es):=by cbv;first|done|fail) (he:es[j]?=some e:=by assumption) (ho:e[c]?=some (.own z old):=by cbv;first|done|fail) (hl:old.length+es2.length<=4294967296:=by omega) (ha:((dSt lv D i mk ⟨vs,ls,bx⟩).vs++(dSt lv D i mk ⟨vs,ls,bx⟩).ls).any (appOn r)=false:=by cbv;first|done|fail)
  (hd:dStep lv D i (.app z bytes s x) (.app z ⟨r,[(j,c)]⟩ [(false,[])]) ⟨vs,ls,bx⟩=some (vs1,ls1):=by cbv;first|done|fail) (h2:ls1.set i (.app z ⟨r,[(j,c)]⟩ [(false,es2)])=ls2:=by cbv;first|done|fail) {i':Nat} (hi':i+1=i':=by cbv;first|done|fail) (k:WD E lv D i' mk os ⟨vs1,ls2,bx⟩ Q):WD E lv D i mk (⟨.loc,.app z bytes s x,none⟩::os) ⟨vs,ls,bx⟩ Q:=
 WD.appI hs hx hf hb (by simp only[St.row,get_cell h he ho]) hl ha hd h2 hi' k
theorem topFrom_set_lt:∀ (n k:Nat) (l:List A) (x:A),k<n->topFrom n (l.set k x)=(topFrom n l).set k x
 |_,_,[],_,_=>by simp[topFrom]
 |0,_,_::_,_,h=>absurd h (Nat.not_lt_zero _)
 |n+1,0,a::l,x,_=>by simp[topFrom]
 | n+1,k+1,a::l,x,h=>by
   simp only[List.set_cons_succ,topFrom,topFrom_set_lt n k l x (by omega)]
theorem fStep_hole{k z:Nat}{x:A}{p:Pl}{es:List (List A)}(hf:Flat es)(hk:k<i)(hl:ls[k]?=some (.app z p [(false,es)]))(h:fStep i x (ls.set k (.app z p [(false,[])]))=some ls'):fStep i x ls=some (ls'.set k (.app z p [(false,es)])):=by
 have e:ls=ls.set k (.app z p [(false,es)]):=by
  apply List.ext_getElem?;intro m
  by_cases hm:k=m
  ·subst hm;have hlt:=(Ge hl).1
   rw[List.getElem?_set_self hlt,hl]
  ·rw[List.getElem?_set_ne hm]
 rw[e];have hki:k≠i:=by omega
 unfold fStep at h ⊢
 rw[List.set_comm _ _ hki]at h ⊢
 rw[all_set (flat_locsIn hf _ z p)];split at h
 ·rename_i hc;rw[if_pos hc];simp only[Oe]at h ⊢
  subst h;rw[topFrom_set_lt _ k (ls.set i x) _ (by omega),topFrom_set_lt _ k (ls.set i x) _ (by omega),List.set_set]
 ·cases h
theorem WD.iaddrH(k:Nat){x o:Opd}{kk:IntKind}{z zi j:Nat}{p:Pl}{es es2:List (List A)}(hx:(St.maskV lv D i ⟨vs,ls,bx⟩).rd x=some (.sref ⟨r,[]⟩):=by cbv;first|done|fail)(hi:(St.maskV lv D i ⟨vs,ls,bx⟩).rd o=some (.v (.int kk (Int.ofNat j))):=by cbv;first|done|fail)(h:(St.maskV lv D i ⟨vs,ls,bx⟩).root r=some (.own z es):=by cbv;first|done|fail)(hj:j<es.length:=by omega)
  (hfu:fullAt D i=true:=by cbv;first|done|fail) (hk:Nat.ble (k+1) i=true:=by cbv;first|done|fail) (hl:ls[k]?=some (.app zi p [(false,es2)]):=by cbv;first|done|fail) (hf:Flat es2:=by assumption) (h0:ls.set k (.app zi p [(false,[])])=ls3:=by cbv;first|done|fail) (hs:fStep i (.pref ⟨r,[]⟩ j 0) ls3=some ls1:=by cbv;first|done|fail) (h2:ls1.set k (.app zi p [(false,es2)])=ls2:=by cbv;first|done|fail)
  (hv:clearV vs (turnedV lv D i)=vs1:=by cbv;first|done|fail) {i':Nat} (hi':i+1=i':=by cbv;first|done|fail) (kq:WD E lv D i' mk os ⟨vs1,ls2,bx⟩ Q):WD E lv D i mk (⟨.loc,.iaddr z x o,none⟩::os) ⟨vs,ls,bx⟩ Q:=by
 subst h0 h2 hv;exact WD.full 1 hfu (ago_pop rfl (pop_iaddrO hx hi h hj)) (fStep_hole (ls:=ls) hf (Nat.le_of_ble_eq_true hk) hl hs) hi' kq
end
def MapI(ks:List Int)(es:List (Value×A)):Prop:=es=ks.map fun k=>(.int .i64 k,.v (.int .i64 1))
theorem findI(key:Int):∀ (ks:List Int) (i:Nat),(key∈ks-> ∃j,findK 0 (.int .i64 key) (ks.map fun k=>(.int .i64 k,.v (.int .i64 1))) i=some (some (i+j,.v (.int .i64 1)))/\ks[j]?=some key)/\(key∉ks->findK 0 (.int .i64 key) (ks.map fun k=>(.int .i64 k,.v (.int .i64 1))) i=some none)
 |[],i=>⟨fun h=>(by cases h),fun _=>rfl⟩
 | k::ks,i=>by
   have ih:=findI key ks (i+1);have hc:cmpK 0 (.int .i64 key) (.int .i64 k)=some (key==k):=by simp only[cmpK,if_true]
   by_cases hk:key=k
   ·subst hk;refine⟨fun _=>⟨0,?_,rfl⟩,fun h=>absurd List.mem_cons_self h⟩;rw[List.map_cons,findK];simp only[hc,beq_self_eq_true];rfl
   ·have hb:(key==k)=false:=by simpa using hk
    have hf:findK 0 (.int .i64 key) ((k::ks).map fun k=>(.int .i64 k,.v (.int .i64 1))) i=findK 0 (.int .i64 key) (ks.map fun k=>(.int .i64 k,.v (.int .i64 1))) (i+1):=by
     rw[List.map_cons,findK];simp only[hc,hb]
    rw[hf];refine⟨fun h=>?_,fun h=>ih.2 fun h'=>h (List.mem_cons_of_mem _ h')⟩;rcases List.mem_cons.1 h with h|h
    ·exact absurd h hk
    ·obtain⟨j,h1,h2⟩:=ih.1 h;exact⟨j+1,by rw[h1];congr 3;omega,h2⟩
theorem WS.lookI{d:Dst}{os:List AOper}{σ:St}{Q:St->Prop}{x k:Opd}{b:Nat}{key:Int}{es:List (Value×A)}{ks:List Int}{τ:Int->St}(hx:σ.rd x=some (.mp b):=by cbv;first|done|fail)(hk:σ.rd k=some (.v (.int .i64 key)):=by cbv;first|done|fail)(hb:σ.bx[b]?=some (.map es):=by cbv;first|done|fail)(hm:MapI ks es:=by assumption)
  (hp:∀ n,σ.putV d (.v (.int .i64 n))=some (τ n):=by intro n;cbv;first|done|fail) (h:key∈ks->WS E os (τ 1) Q) (h0:key∉ks->WS E os (τ 0) Q):WS E (⟨d,.look 0 (.v (.int .i64 0)) x k false,none⟩::os) σ Q:=by
 subst hm
 by_cases hin:key∈ks
 ·obtain⟨j,h1,_⟩:=(findI key ks 0).1 hin;refine WS.op (σ1:=σ) (x:=.v (.int .i64 1)) 1 ?_ (hp 1) (h hin);simp only[ago,aop,Ab.pop,hx,hk,lookE,hb,h1,cellsOf,List.all_cons,List.all_nil,A.leafF,Bool.and_self,if_true,Bool.false_eq_true,if_false]
 ·have h1:=(findI key ks 0).2 hin;refine WS.op (σ1:=σ) (x:=.v (.int .i64 0)) 1 ?_ (hp 0) (h0 hin);simp only[ago,aop,Ab.pop,hx,hk,lookE,hb,h1,Bool.false_eq_true,if_false]
theorem WS.upI{os:List AOper}{σ:St}{Q:St->Prop}{m k x:Opd}{b:Nat}{key:Int}{es:List (Value×A)}{ks:List Int}{τ:List (Value×A)->St}(hx:σ.rd m=some (.mp b):=by cbv;first|done|fail)(hk:σ.rd k=some (.v (.int .i64 key)):=by cbv;first|done|fail)(hv:σ.rd x=some (.v (.int .i64 1)):=by cbv;first|done|fail)(hb:σ.bx[b]?=some (.map es):=by cbv;first|done|fail)(hm:MapI ks es:=by assumption)
  (hp:∀ es',({σ with bx:=σ.bx.set b (.map es')}:St).push .ud=τ es':=by intro n;cbv;first|done|fail) (h:∀ ks' es',MapI ks' es'->(∀v,v∈ks'↔v∈ks\/v=key)->WS E os (τ es') Q):WS E (⟨.loc,.mapup 0 m k x,none⟩::os) σ Q:=by
 subst hm;have hmat:mat σ (.v (.int .i64 1))=some (.v (.int .i64 1),σ):=rfl
 by_cases hin:key∈ks
 ·obtain⟨j,h1,h2⟩:=(findI key ks 0).1 hin;refine WS.op (σ1:={σ with bx:=σ.bx.set b (.map ((ks.map fun k=>(Value.int .i64 k,A.v (.int .i64 1))).set j (.int .i64 key,.v (.int .i64 1))))}) (x:=.ud) 1 ?_ (congrArg some (hp _)) (h ks _ ?_ fun v=>⟨.inl,fun h=>h.elim id fun e=>by subst e;exact hin⟩)
  ·simp only[ago,aop,hx,hk,hv,hmat,hb,h1,Nat.zero_add,cellsOf,List.all_cons,List.all_nil,A.entry,Bool.and_self,if_true]
  ·unfold MapI;apply List.ext_getElem?;intro i
   by_cases hij:j=i
   ·subst hij;have hlt:=(Ge h2).1
    rw[List.getElem?_set_self (by simpa using hlt),List.getElem?_map,h2];rfl
   ·rw[List.getElem?_set_ne hij]
 ·have h1:=(findI key ks 0).2 hin;refine WS.op (σ1:={σ with bx:=σ.bx.set b (.map ((ks.map fun k=>(Value.int .i64 k,A.v (.int .i64 1)))++[(.int .i64 key,.v (.int .i64 1))]))}) (x:=.ud) 1 ?_ (congrArg some (hp _)) (h (ks++[key]) _ ?_ fun v=>by simp)
  ·simp only[ago,aop,hx,hk,hv,hmat,hb,h1,cellsOf,List.all_cons,List.all_nil,A.entry,Bool.and_self,if_true]
  ·unfold MapI;rw[List.map_append];rfl
def sm(b:Nat)(es:List (Value×A))(σ:St):St:=⟨σ.vs,σ.ls,σ.bx.set b (.map es)⟩
theorem W.forA{α:Type}{d:List Nat}{c:AC}{σ:St}{Q:Ex->St->Prop}(n:Nat)(u:Nat->α->St->St)(P:Nat->α->Prop)(i0:Nat)(hi:i0<=n)(h0:∃ x0,σ.clr d=u i0 x0 (σ.clr d)/\P i0 x0)
  (step:∀ Q':Ex->St->Prop,(∀e ρ,Q e ρ->Q' e ρ)-> ∀i x,i<=n->P i x->W E c (u i x (σ.clr d)) fun e ρ=>match e with| .normal=>i<n/\ ∃x',(ρ.trunc (u i x (σ.clr d)).bx.length).clr d=u (i+1) x' (σ.clr d)/\P (i+1) x'|e=>Q' e ρ):W E (.loop d c) σ Q:=
 W.forS n u P i0 hi h0 (step Q fun _ _ h=>h)
theorem pop_strNe{σ:St}{x y:Opd}{s:ByteArray}(hx:σ.rd x=some (.v (.string s)))(hy:σ.rd y=some (.v (.string s))):Ab.pop σ (.bin .neq x y)=some (.v (.bool false)):=by
 simp only[Ab.pop,hx,hy,binS,beq_self_eq_true,Bool.not_true]
theorem pop_strEq{σ:St}{x y:Opd}{s:ByteArray}(hx:σ.rd x=some (.v (.string s)))(hy:σ.rd y=some (.v (.string s))):Ab.pop σ (.bin .eql x y)=some (.v (.bool true)):=by
 simp only[Ab.pop,hx,hy,binS,beq_self_eq_true]
theorem pop_eqSame{σ:St}{x y:Opd}{fs:List (Nat×Nat)}{a:A}{neg:Bool}(hx:σ.rd x=some a)(hy:σ.rd y=some a)(h:eqS fs a a=some true):Ab.pop σ (.eq neg (.struct fs) x y)=some (.v (.bool (!neg))):=by
 simp only[Ab.pop,hx,hy,eqA,h];cases neg<;>rfl
section
variable {d:Dst} {os:List AOper} {σ τ:St} {Q:St->Prop} {x y:Opd}
theorem WS.strNe{s:ByteArray}(hx:σ.rd x=some (.v (.string s)):=by cbv;first|done|fail)(hy:σ.rd y=some (.v (.string s)):=by cbv;first|done|fail)(hp:σ.putV d (.v (.bool false))=some τ:=by cbv;first|done|fail)(k:WS E os τ Q):WS E (⟨d,.bin .neq x y,none⟩::os) σ Q:=WS.op 1 (ago_pop rfl (pop_strNe hx hy)) hp k
theorem WS.strEq{s:ByteArray}(hx:σ.rd x=some (.v (.string s)):=by cbv;first|done|fail)(hy:σ.rd y=some (.v (.string s)):=by cbv;first|done|fail)(hp:σ.putV d (.v (.bool true))=some τ:=by cbv;first|done|fail)(k:WS E os τ Q):WS E (⟨d,.bin .eql x y,none⟩::os) σ Q:=WS.op 1 (ago_pop rfl (pop_strEq hx hy)) hp k
theorem WS.eqSame{fs:List (Nat×Nat)}{a:A}{neg:Bool}(hx:σ.rd x=some a:=by cbv;first|done|fail)(hy:σ.rd y=some a:=by cbv;first|done|fail)(h:eqS fs a a=some true:=by simp[eqS,eqF,eq1];done)(hp:σ.putV d (.v (.bool (!neg)))=some τ:=by cbv;first|done|fail)(k:WS E os τ Q):WS E (⟨d,.eq neg (.struct fs) x y,none⟩::os) σ Q:=WS.op 1 (ago_pop rfl (pop_eqSame hx hy h)) hp k
end
section
variable {lv:List (Option Nat)} {D:List (List Nat)} {i:Nat} {mk:List (Nat×Nat)} {os:List AOper} {vs vs1 ls ls1:List A} {bx:List Bx} {Q:St->Prop} {x y:Opd}
theorem WD.strNe{s:ByteArray}(hx:(dSt lv D i mk ⟨vs,ls,bx⟩).rd x=some (.v (.string s)):=by cbv;first|done|fail)(hy:(dSt lv D i mk ⟨vs,ls,bx⟩).rd y=some (.v (.string s)):=by cbv;first|done|fail)(hs:dStep lv D i (.bin .neq x y) (.v (.bool false)) ⟨vs,ls,bx⟩=some (vs1,ls1):=by cbv;first|done|fail){i':Nat}(hi':i+1=i':=by cbv;first|done|fail)(k:WD E lv D i' mk os ⟨vs1,ls1,bx⟩ Q):
  WD E lv D i mk (⟨.loc,.bin .neq x y,none⟩::os) ⟨vs,ls,bx⟩ Q:=by
 subst hi';exact WD.pop rfl (pop_strNe hx hy) hs k
theorem WD.strEq{s:ByteArray}(hx:(dSt lv D i mk ⟨vs,ls,bx⟩).rd x=some (.v (.string s)):=by cbv;first|done|fail)(hy:(dSt lv D i mk ⟨vs,ls,bx⟩).rd y=some (.v (.string s)):=by cbv;first|done|fail)(hs:dStep lv D i (.bin .eql x y) (.v (.bool true)) ⟨vs,ls,bx⟩=some (vs1,ls1):=by cbv;first|done|fail){i':Nat}(hi':i+1=i':=by cbv;first|done|fail)(k:WD E lv D i' mk os ⟨vs1,ls1,bx⟩ Q):
  WD E lv D i mk (⟨.loc,.bin .eql x y,none⟩::os) ⟨vs,ls,bx⟩ Q:=by
 subst hi';exact WD.pop rfl (pop_strEq hx hy) hs k
theorem WD.eqSame{fs:List (Nat×Nat)}{a:A}{neg:Bool}(hx:(dSt lv D i mk ⟨vs,ls,bx⟩).rd x=some a:=by cbv;first|done|fail)(hy:(dSt lv D i mk ⟨vs,ls,bx⟩).rd y=some a:=by cbv;first|done|fail)(h:eqS fs a a=some true:=by simp[eqS,eqF,eq1];done)(hs:dStep lv D i (.eq neg (.struct fs) x y) (.v (.bool (!neg))) ⟨vs,ls,bx⟩=some (vs1,ls1):=by cbv;first|done|fail){i':Nat}(hi':i+1=i':=by cbv;first|done|fail)(k:WD E lv D i' mk os ⟨vs1,ls1,bx⟩ Q):
  WD E lv D i mk (⟨.loc,.eq neg (.struct fs) x y,none⟩::os) ⟨vs,ls,bx⟩ Q:=by
 subst hi';exact WD.pop rfl (pop_eqSame hx hy h) hs k
theorem WD.strNeV{s:ByteArray}{v:Nat}{σ2:St}{ls':List A}(hf:fullAt D i=true:=by cbv;first|done|fail)(hx:(St.maskV lv D i ⟨vs,ls,bx⟩).rd x=some (.v (.string s)):=by cbv;first|done|fail)(hy:(St.maskV lv D i ⟨vs,ls,bx⟩).rd y=some (.v (.string s)):=by cbv;first|done|fail)(hp:(St.maskV lv D i ⟨vs,ls,bx⟩).putW v (.v (.bool false))=some σ2:=by cbv;first|done|fail)(hs:fStep i .top σ2.ls=some ls':=by cbv;first|done|fail){i':Nat}(hi':i+1=i':=by cbv;first|done|fail)(h:WD E lv D i' mk os ⟨σ2.vs,ls',σ2.bx⟩ Q):
  WD E lv D i mk (⟨.var v,.bin .neq x y,none⟩::os) ⟨vs,ls,bx⟩ Q:=WD.fullV 1 hf (ago_pop rfl (pop_strNe hx hy)) hp hs hi' h
end
end Go.Ab
end
section
namespace Go.Ab
variable {E:Nat->Option AF}
theorem WS.appN0{z bytes:Nat}{s x:Opd}{d:Dst}{os:List AOper}{σ τ1:St}{τ2:List (List A)->St}{Q:St->Prop}{nl:Bool}{es:List (List A)}(hs:σ.rd s=some (.v (.slice none 0 0)):=by rfl)(hx:σ.rd x=some (.imm nl z es):=by cbv;first|done|fail)(hf:Flat es:=by assumption)(hb:bytes<=4096:=by decide)(hl:es.length<=4294967296:=by omega)
  (h1:σ.putV d .nil=some τ1:=by cbv;first|done|fail) (h2:∀ r,σ.putV d (.own z r)=some (τ2 r):=by intro r;cbv;first|done|fail) (h:es=[]->WS E os τ1 Q) (k:∀ r,es=r->r≠[]->WS E os (τ2 r) Q):WS E (⟨d,.app z bytes s x,none⟩::os) σ Q:=by
 have hg:=ago_app0 (E:=E) hs hx hf hb hl;cases es with
 |nil=>exact WS.op 1 hg h1 (h rfl)
 |cons e es=>exact WS.op 1 hg (h2 _) (k _ rfl (by simp))
end Go.Ab
end
section
namespace Go.Ab
section
variable {E:Nat->Option AF} {σ:St} {r:Rt} {z zi q c j:Nat} {es old:List (List A)} {e:List A}
theorem row_cell(h:σ.root r=some (.own z es))(he:es[q]?=some e)(hy:e[c]?=some (.own zi old)):σ.row ⟨r,[(q,c)]⟩=some (zi,old):=by simp only[St.row,get_cell h he hy]
theorem pop_iaddrN{x i:Opd}{k:IntKind}(hx:σ.rd x=some (.sref ⟨r,[(q,c)]⟩))(hi:σ.rd i=some (.v (.int k (Int.ofNat j))))(h:σ.root r=some (.own z es))(he:es[q]?=some e)(hy:e[c]?=some (.own zi old))(hj:j<old.length):pop σ (.iaddr zi x i)=some (.pref ⟨r,[(q,c)]⟩ j 0):=by
 have ha:asNat (Int.ofNat j) old.length=some j:=by
  unfold asNat;rw[if_pos (show(0:Int)<=Int.ofNat j from Int.natCast_nonneg j),if_pos (show Int.ofNat j<(old.length:Int)from Int.ofNat_lt.2 hj)];rfl
 simp only[pop,hx,hi,row_cell h he hy,if_true,ha]
theorem pop_lenN{x:Opd}{n:Nat}(hx:σ.rd x=some (.sref ⟨r,[(q,c)]⟩))(h:σ.root r=some (.own z es))(he:es[q]?=some e)(hy:e[c]?=some (.own zi old))(hn:old.length=n):pop σ (.len 0 x)=some (.v (.int .i64 n)):=by
 simp only[pop,hx,lenK,lenA,row_cell h he hy,hn,A.int]
theorem pop_loadN{n d:Nat}{agg:Bool}{x:Opd}{y:A}{cs e2:List A}(hx:σ.rd x=some (.pref ⟨r,[(q,c)]⟩ j d))(h:σ.root r=some (.own z es))(he:es[q]?=some e)(hy:e[c]?=some (.own zi old))(he2:old[j]?=some e2)(hl:loadC ⟨r,[(q,c)]⟩ j d n e2=some cs)(ho:oneOf agg cs=some y):pop σ (.load agg n x)=some y:=by
 unfold loadC at hl;split at hl
 ·rename_i hc;simp only[Oe]at hl
  have h1:loadA σ n (.pref ⟨r,[(q,c)]⟩ j d)=some cs:=by
   simp only[loadA,row_cell h he hy,he2,if_pos hc,Oe];exact hl
  simp only[pop,hx,h1];unfold oneOf at ho;cases agg with
  |true=>exact ho
  |false=>rcases cs with _|⟨y',_|⟨y'',ys⟩⟩<;>simp_all
 ·cases hl
theorem storeA_N{n d:Nat}{ys e2:List A}(hn:ys.length=n)(hl:ys.any A.loose=false)(hb:ys.any A.boxy=false)(h:σ.root r=some (.own z es))(he:es[q]?=some e)(hy:e[c]?=some (.own zi old))(he2:old[j]?=some e2)(hc:d+n<=e2.length):
  storeA σ n (.pref ⟨r,[(q,c)]⟩ j d) ys=some ((σ.kill ⟨r,[(q,c),(0,0)]⟩).setRoot r (.own z (es.set q (e.set c (.own zi (old.set j (putCells e2 d ys))))))):=by
 simp only[storeA,hn,if_true,hl,hb,Bool.false_eq_true,if_false,List.cons_append,List.nil_append,get_cell (root_own h _) he hy,he2,if_pos hc,set_cell (root_own h _) he hy]
theorem ago_stoR{n d:Nat}{x y:Opd}{b:A}{ys e2:List A}{σ1:St}(hx:σ.rd x=some (.pref ⟨r,[(q,c)]⟩ j d))(hy0:σ.rd y=some b)(hm:mat σ b=some (b,σ1))(hs:storeCells false b=some ys)(hn:ys.length=n)
  (hl:ys.any A.loose=false) (hb:ys.any A.boxy=false) (h:σ1.root r=some (.own z es)) (he:es[q]?=some e) (hy:e[c]?=some (.own zi old)) (he2:old[j]?=some e2) (hc:Nat.ble (d+n) e2.length=true):ago E 1 (.store false n x y) σ=some (.ud,(σ1.kill ⟨r,[(q,c),(0,0)]⟩).setRoot r (.own z (es.set q (e.set c (.own zi (old.set j (putCells e2 d ys))))))):=by
 have hst:=storeA_N hn hl hb h he hy he2 (Nat.le_of_ble_eq_true hc);unfold storeCells at hs;simp only[Bool.false_eq_true,if_false,Oe]at hs;subst hs;simp only[ago,aop,hx,hy0,hm,Bool.false_eq_true,if_false,hst]
end
def isSrefN:Option A->Bool
 |some (.sref ⟨_,_::_⟩)=>true
 |_=>false
def isPrefN:Option A->Bool
 |some (.pref ⟨_,_::_⟩ _ _)=>true
 |_=>false
section
variable {E:Nat->Option AF} {lv:List (Option Nat)} {D:List (List Nat)} {i:Nat} {mk:List (Nat×Nat)} {os:List AOper} {vs vs1 ls ls1:List A} {bx:List Bx} {Q:St->Prop} {r:Rt} {z zi q c j:Nat} {es old:List (List A)} {e:List A}
theorem WD.iaddrN{x o:Opd}{kk:IntKind}(_:isSrefN (St.rd ⟨vs,ls,bx⟩ x)=true:=by rfl)(hx:(dSt lv D i mk ⟨vs,ls,bx⟩).rd x=some (.sref ⟨r,[(q,c)]⟩):=by cbv;first|done|fail)(ho:(dSt lv D i mk ⟨vs,ls,bx⟩).rd o=some (.v (.int kk (Int.ofNat j))):=by cbv;first|done|fail)(h:(dSt lv D i mk ⟨vs,ls,bx⟩).root r=some (.own z es):=by cbv;first|done|fail)(he:es[q]?=some e:=by assumption)(hy:e[c]?=some (.own zi old):=by rfl)(hj:j<old.length:=by omega)
  (hs:dStep lv D i (.iaddr zi x o) (.pref ⟨r,[(q,c)]⟩ j 0) ⟨vs,ls,bx⟩=some (vs1,ls1):=by cbv;first|done|fail) {i':Nat} (hi':i+1=i':=by cbv;first|done|fail) (k:WD E lv D i' mk os ⟨vs1,ls1,bx⟩ Q):WD E lv D i mk (⟨.loc,.iaddr zi x o,none⟩::os) ⟨vs,ls,bx⟩ Q:=by
 subst hi';exact WD.pop rfl (pop_iaddrN hx ho h he hy hj) hs k
theorem WD.lenN{x:Opd}{n:Nat}(_:isSrefN (St.rd ⟨vs,ls,bx⟩ x)=true:=by rfl)(hx:(dSt lv D i mk ⟨vs,ls,bx⟩).rd x=some (.sref ⟨r,[(q,c)]⟩):=by cbv;first|done|fail)(h:(dSt lv D i mk ⟨vs,ls,bx⟩).root r=some (.own z es):=by cbv;first|done|fail)(he:es[q]?=some e:=by assumption)(hy:e[c]?=some (.own zi old):=by rfl)(hn:old.length=n:=by assumption)
  (hs:dStep lv D i (.len 0 x) (.v (.int .i64 n)) ⟨vs,ls,bx⟩=some (vs1,ls1):=by cbv;first|done|fail) {i':Nat} (hi':i+1=i':=by cbv;first|done|fail) (k:WD E lv D i' mk os ⟨vs1,ls1,bx⟩ Q):WD E lv D i mk (⟨.loc,.len 0 x,none⟩::os) ⟨vs,ls,bx⟩ Q:=by
 subst hi';exact WD.pop rfl (pop_lenN hx h he hy hn) hs k
theorem WD.loadN{n d:Nat}{agg:Bool}{x:Opd}{y:A}{cs e2:List A}(_:isPrefN (St.rd ⟨vs,ls,bx⟩ x)=true:=by rfl)(hx:(dSt lv D i mk ⟨vs,ls,bx⟩).rd x=some (.pref ⟨r,[(q,c)]⟩ j d):=by cbv;first|done|fail)(h_0:(dSt lv D i mk ⟨vs,ls,bx⟩).root r=some (.own z es):=by cbv;first|done|fail)(he:es[q]?=some e:=by assumption)(hy:e[c]?=some (.own zi old):=by rfl)(he2:old[j]?=some e2:=by assumption)(hl:loadC ⟨r,[(q,c)]⟩ j d n e2=some cs:=by cbv;first|done|fail)(ho:oneOf agg cs=some y:=by cbv;first|done|fail)
  (hs:dStep lv D i (.load agg n x) y ⟨vs,ls,bx⟩=some (vs1,ls1):=by cbv;first|done|fail) {i':Nat} (hi':i+1=i':=by cbv;first|done|fail) (h:WD E lv D i' mk os ⟨vs1,ls1,bx⟩ Q):WD E lv D i mk (⟨.loc,.load agg n x,none⟩::os) ⟨vs,ls,bx⟩ Q:=by
 subst hi';exact WD.pop rfl (pop_loadN hx h_0 he hy he2 hl ho) hs h
theorem WD.stoR{n d:Nat}{x y:Opd}{b:A}{ys e2 e':List A}{σ σ1:St}{τ:List (List A)->St}{ls':List (List A)->List A}(_:isPrefN (St.rd ⟨vs,ls,bx⟩ x)=true:=by rfl)(hf:fullAt D i=true:=by cbv;first|done|fail)(hmk:St.maskV lv D i ⟨vs,ls,bx⟩=σ:=by cbv;first|done|fail)(hx:σ.rd x=some (.pref ⟨r,[(q,c)]⟩ j d):=by cbv;first|done|fail)(hy0:σ.rd y=some b:=by cbv;first|done|fail)(hm:mat σ b=some (b,σ1):=by cbv;first|done|fail)(hs:storeCells false b=some ys:=by cbv;first|done|fail)(hn:ys.length=n:=by cbv;first|done|fail)
  (hl:ys.any A.loose=false:=by cbv;first|done|fail) (hb:ys.any A.boxy=false:=by cbv;first|done|fail) (h:σ1.root r=some (.own z es):=by cbv;first|done|fail) (he:es[q]?=some e:=by assumption) (hy:e[c]?=some (.own zi old):=by rfl) (he2:old[j]?=some e2:=by assumption) (hc:Nat.ble (d+n) e2.length=true:=by rfl) (hp:putCells e2 d ys=e':=by cbv;first|done|fail) (ht:∀ t,(σ1.kill ⟨r,[(q,c),(0,0)]⟩).setRoot r (.own z t)=τ t:=by intro t;cbv;first|done|fail) (hs':∀ t,fStep i .ud (τ t).ls=some (ls' t):=by intro t;cbv;first|done|fail) {i':Nat} (hi':i+1=i':=by cbv;first|done|fail)
  (k:∀ p,old.set j e'=p-> ∀t,es.set q (e.set c (.own zi p))=t->WD E lv D i' mk os ⟨(τ t).vs,ls' t,(τ t).bx⟩ Q):WD E lv D i mk (⟨.loc,.store false n x y,none⟩::os) ⟨vs,ls,bx⟩ Q:=by
 subst hp hmk;exact WD.full 1 hf (ago_stoR hx hy0 hm hs hn hl hb h he hy he2 hc) (by rw[ht];exact hs' _) hi' (by rw[ht];exact k _ rfl _ rfl)
theorem WD.mk'{zz bytes:Nat}{zero:List A}{l cc:Opd}{a:Int}{vsF lsF:List (List A)->List A}(hl:(dSt lv D i mk ⟨vs,ls,bx⟩).rd l=some (.v (.int .i64 a)):=by cbv;first|done|fail)(hc:(dSt lv D i mk ⟨vs,ls,bx⟩).rd cc=some (.v (.int .i64 a)):=by cbv;first|done|fail)(hb:bytes<=4096:=by decide)(h:0<=a/\a<=4294967296:=by first|omega|(simp only[Int.ofNat_eq_natCast];omega))
  (hs:∀ p,dStep lv D i (.mk zz zero bytes l cc) (.own zz p) ⟨vs,ls,bx⟩=some (vsF p,lsF p):=by intro p;cbv;first|done|fail) {i':Nat} (hi':i+1=i':=by cbv;first|done|fail) (k:∀ p,List.replicate a.toNat zero=p->WD E lv D i' mk os ⟨vsF p,lsF p,bx⟩ Q):WD E lv D i mk (⟨.loc,.mk zz zero bytes l cc,none⟩::os) ⟨vs,ls,bx⟩ Q:=by
 subst hi';exact WD.pop rfl (pop_mk hl hc hb h.1 h.2) (hs _) (k _ rfl)
end
end Go.Ab
end
section
namespace Go.Ab
def Inert(x:A):Prop:=idsL x=[]/\(∀f,renL f x=x)/\ ∀n,A.truncL n x=x
def InertC(cs:List A):Prop:=∀ x,x∈cs->Inert x
theorem InertC.nil:InertC []:=fun _ h=>by cases h
theorem InertC.cons{x:A}{cs:List A}(h:Inert x)(hs:InertC cs):InertC (x::cs):=fun y hy=>by
 cases hy with
 |head=>exact h
 |tail _ hy=>exact hs y hy
theorem Inert.v(x:Value):Inert (.v x):=⟨rfl,fun _=>rfl,fun _=>rfl⟩
theorem Inert.imm(nl:Bool)(z:Nat)(es:List (List A)):Inert (.imm nl z es):=⟨rfl,fun _=>rfl,fun _=>rfl⟩
theorem Inert.own(z:Nat)(es:List (List A)):Inert (.own z es):=⟨rfl,fun _=>rfl,fun _=>rfl⟩
theorem InertC.ids{cs:List A}(h:InertC cs):idsB (.cells cs)=[]:=by
 unfold idsB;simp only
 rw[List.flatMap_eq_nil_iff];exact fun x hx=>(h x hx).1
theorem InertC.ren{cs:List A}(h:InertC cs)(f:Nat->Option Nat):renB f (.cells cs)= .cells cs:=by
 unfold renB;simp only
 congr 1
 conv=>rhs;rw[<-List.map_id cs]
 exact List.map_congr_left fun x hx=>(h x hx).2.1 f
theorem InertC.tr{cs:List A}(h:InertC cs)(n:Nat):Bx.trunc n (.cells cs)= .cells cs:=by
 unfold Bx.trunc;simp only
 congr 1
 conv=>rhs;rw[<-List.map_id cs]
 exact List.map_congr_left fun x hx=>(h x hx).2.2 n
theorem trunc3{vs ls:List A}{b0 b1 b2 b3:Bx}{more:List Bx}(h0:Bx.trunc 3 b0=b0)(h1:Bx.trunc 3 b1=b1)(h2:Bx.trunc 3 b2=b2):St.trunc 3 ⟨vs,ls,b0::b1::b2::b3::more⟩=⟨vs.map (A.trunc 3),ls,[b0,b1,b2]⟩:=by
 unfold St.trunc;rw[if_neg (by simp only[List.length_cons];omega)];simp only[List.take_succ_cons,List.take_zero,List.map_cons,List.map_nil,h0,h1,h2]
theorem trunc2{vs ls:List A}{b0 b1 b2:Bx}{more:List Bx}(h0:Bx.trunc 2 b0=b0)(h1:Bx.trunc 2 b1=b1):St.trunc 2 ⟨vs,ls,b0::b1::b2::more⟩=⟨vs.map (A.trunc 2),ls,[b0,b1]⟩:=by
 unfold St.trunc;rw[if_neg (by simp only[List.length_cons];omega)];simp only[List.take_succ_cons,List.take_zero,List.map_cons,List.map_nil,h0,h1]
theorem reach1{bx:List Bx}{b:Nat}{cs:List A}(h:bx[b]?=some (.cells cs))(hi:InertC cs):reach bx 1000 [b] []=[b]:=by
 have hl:=(Ge h).1;have hc:(([]:List Nat).contains b || decide (bx.length<=b))=false:=by simp;omega
 show(if([]:List Nat).contains b || decide (bx.length<=b)then _ else reach bx 999 ([]++(match bx[b]? with|some x=>idsB x|none=>[])) ([]++[b]))=_
 rw[if_neg (by rw[hc];decide),h];simp only[hi.ids];rfl
theorem reach2{bx:List Bx}{b1 b2:Nat}{c1 c2:List A}(h1:bx[b1]?=some (.cells c1))(h2:bx[b2]?=some (.cells c2))(hne:b1≠b2)(i1:InertC c1)(i2:InertC c2):reach bx 1000 [b1,b2] []=[b1,b2]:=by
 have l1:=(Ge h1).1;have l2:=(Ge h2).1
 have e1:(([]:List Nat).contains b1 || decide (bx.length<=b1))=false:=by simp;omega
 have e2:([b1].contains b2 || decide (bx.length<=b2))=false:=by simp;omega
 show(if([]:List Nat).contains b1 || decide (bx.length<=b1)then _ else reach bx 999 ([b2]++(match bx[b1]? with|some x=>idsB x|none=>[])) ([]++[b1]))=_
 rw[if_neg (by rw[e1];decide),h1];simp only[i1.ids];show(if[b1].contains b2 || decide (bx.length<=b2)then _ else reach bx 998 ([]++(match bx[b2]? with|some x=>idsB x|none=>[])) ([b1]++[b2]))=_
 rw[if_neg (by rw[e2];decide),h2];simp only[i2.ids];rfl
theorem getB_of{bx:List Bx}{b:Nat}{x:Bx}(h:bx[b]?=some x):getB bx b=x:=by unfold getB;rw[h]
section
variable {E:Nat->Option AF} {σ σ1:St} {d:Dst} {os:List AOper} {Q:St->Prop} {f:Nat} {args:List Opd} {ys as as':List A} {R:A->List Bx->Prop}
theorem WS.call1{b1:Nat}{c1:List A}(hr:rds σ args=some ys:=by cbv;first|done|fail)(hids:ys.flatMap idsA=[b1]:=by cbv;first|done|fail)(h1:σ.bx[b1]?=some (.cells c1):=by cbv;first|done|fail)(i1:InertC c1)
  (hg:gives false {σ with bx:=goneB σ.bx [b1]} ys=some (as,σ1,false):=by cbv;first|done|fail) (ha:as.map (renA (nth [b1]))=as':=by cbv;first|done|fail) (hc:WC E f as' [.cells c1] R)
  (kq:∀ r bx',R r bx'-> ∃e1 more,bx'= .cells e1::more/\InertC e1/\idsT r=[]/\(∀g,renT g r=r)/\ ∃σ2 σ3,killBoxes [b1] {σ1 with bx:=backB σ1.bx [b1] [.cells e1]}=σ2/\σ2.putV d r=some σ3/\WS E os σ3 Q):WS E (⟨d,.call f args,none⟩::os) σ Q:=by
 refine WS.call (ids:=[b1]) (bx0:=[.cells c1]) hr (by rw[hids];exact reach1 h1 i1) hg ha (by simp only[List.map_cons,List.map_nil,getB_of h1,i1.ren]) hc fun r bx' h=>?_;obtain⟨e1,more,rfl,j1,hr1,hr2,σ2,σ3,hk,hp,hw⟩:=kq r bx' h;refine⟨r,σ2,σ3,?_,hp,hw⟩;unfold backOf
 simp only[Bool.false_eq_true,if_false,List.length_cons,List.length_nil,Nat.zero_add,List.take_succ_cons,List.take_zero,List.map_cons,List.map_nil,List.flatMap_cons,List.flatMap_nil,j1.ids,hr1,List.append_nil,List.any_nil,Bool.and_false,hr2,j1.ren,hk]
theorem WS.call2{b1 b2:Nat}{c1 c2:List A}(hr:rds σ args=some ys:=by cbv;first|done|fail)(hids:ys.flatMap idsA=[b1,b2]:=by cbv;first|done|fail)(h1:σ.bx[b1]?=some (.cells c1):=by cbv;first|done|fail)(h2:σ.bx[b2]?=some (.cells c2):=by cbv;first|done|fail)(hne:b1≠b2:=by decide)(i1:InertC c1)(i2:InertC c2)
  (hg:gives false {σ with bx:=goneB σ.bx [b1,b2]} ys=some (as,σ1,false):=by cbv;first|done|fail) (ha:as.map (renA (nth [b1,b2]))=as':=by cbv;first|done|fail) (hc:WC E f as' [.cells c1,.cells c2] R)
  (kq:∀ r bx',R r bx'-> ∃e1 e2 more,bx'= .cells e1:: .cells e2::more/\InertC e1/\InertC e2/\idsT r=[]/\(∀g,renT g r=r)/\ ∃σ2 σ3,killBoxes [b1,b2] {σ1 with bx:=backB σ1.bx [b1,b2] [.cells e1,.cells e2]}=σ2/\σ2.putV d r=some σ3/\WS E os σ3 Q):WS E (⟨d,.call f args,none⟩::os) σ Q:=by
 refine WS.call (ids:=[b1,b2]) (bx0:=[.cells c1,.cells c2]) hr (by rw[hids];exact reach2 h1 h2 hne i1 i2) hg ha (by simp only[List.map_cons,List.map_nil,getB_of h1,getB_of h2,i1.ren,i2.ren]) hc fun r bx' h=>?_;obtain⟨e1,e2,more,rfl,j1,j2,hr1,hr2,σ2,σ3,hk,hp,hw⟩:=kq r bx' h;refine⟨r,σ2,σ3,?_,hp,hw⟩;unfold backOf
 simp only[Bool.false_eq_true,if_false,List.length_cons,List.length_nil,Nat.zero_add,Nat.reduceAdd,List.take_succ_cons,List.take_zero,List.map_cons,List.map_nil,List.flatMap_cons,List.flatMap_nil,j1.ids,j2.ids,hr1,List.append_nil,List.any_nil,Bool.and_false,hr2,j1.ren,j2.ren,hk]
end
theorem pop_sbt{σ:St}{x y:Opd}{a b:Int}(hx:σ.rd x=some (.v (.int .i64 a)))(hy:σ.rd y=some (.v (.int .i64 b)))(h1:-9223372036854775808<=a-b/\a-b<=9223372036854775807):Ab.pop σ (.bin .sub x y)=some (.v (.int .i64 (a-b))):=by
 simp only[Ab.pop,hx,hy,if_true,binI];rw[wrap64 h1.1 h1.2]
theorem WS.sbt{E:Nat->Option AF}{d:Dst}{os:List AOper}{σ:St}{Q:St->Prop}{τ:Int->St}{x y:Opd}{a b:Int}(hx:σ.rd x=some (.v (.int .i64 a)):=by cbv;first|done|fail)(hy:σ.rd y=some (.v (.int .i64 b)):=by cbv;first|done|fail)(h1:-9223372036854775808<=a-b/\a-b<=9223372036854775807:=by first|omega|(simp only[Int.ofNat_eq_natCast];omega))(hp:∀ c,σ.putV d (.v (.int .i64 c))=some (τ c):=by intro c;cbv;first|done|fail)
  (h:∀ c,a-b=c->WS E os (τ c) Q):WS E (⟨d,.bin .sub x y,none⟩::os) σ Q:=WS.op 1 (ago_pop rfl (pop_sbt hx hy h1)) (hp _) (h _ rfl)
theorem WS.adt{E:Nat->Option AF}{d:Dst}{os:List AOper}{σ:St}{Q:St->Prop}{τ:Int->St}{x y:Opd}{a b:Int}(hx:σ.rd x=some (.v (.int .i64 a)):=by cbv;first|done|fail)(hy:σ.rd y=some (.v (.int .i64 b)):=by cbv;first|done|fail)(h1:-9223372036854775808<=a+b/\a+b<=9223372036854775807:=by omega)(hp:∀ c,σ.putV d (.v (.int .i64 c))=some (τ c):=by intro c;cbv;first|done|fail)
  (h:∀ c,a+b=c->WS E os (τ c) Q):WS E (⟨d,.bin .add x y,none⟩::os) σ Q:=WS.add hx hy h1 hp h
section
variable {E:Nat->Option AF} {lv:List (Option Nat)} {D:List (List Nat)} {i:Nat} {mk:List (Nat×Nat)} {os:List AOper} {vs ls:List A} {bx:List Bx} {Q:St->Prop}
theorem WD.sbt{x y:Opd}{a b:Int}{vsF lsF:Int->List A}(hx:(dSt lv D i mk ⟨vs,ls,bx⟩).rd x=some (.v (.int .i64 a)):=by cbv;first|done|fail)(hy:(dSt lv D i mk ⟨vs,ls,bx⟩).rd y=some (.v (.int .i64 b)):=by cbv;first|done|fail)(h1:-9223372036854775808<=a-b/\a-b<=9223372036854775807:=by first|omega|(simp only[Int.ofNat_eq_natCast];omega))
  (hs:∀ c,dStep lv D i (.bin .sub x y) (.v (.int .i64 c)) ⟨vs,ls,bx⟩=some (vsF c,lsF c):=by intro c;cbv;first|done|fail) {i':Nat} (hi':i+1=i':=by cbv;first|done|fail) (h:∀ c,a-b=c->WD E lv D i' mk os ⟨vsF c,lsF c,bx⟩ Q):WD E lv D i mk (⟨.loc,.bin .sub x y,none⟩::os) ⟨vs,ls,bx⟩ Q:=by
 subst hi';exact WD.pop rfl (pop_sbt hx hy h1) (hs _) (h _ rfl)
theorem WD.callX{v:Nat}{f:Nat}{args:List Opd}{ys as as':List A}{σ σ1:St}{b:Bool}{ids:List Nat}{bx0:List Bx}{R:A->List Bx->Prop}(hf:fullAt D i=true:=by cbv;first|done|fail)(hm:St.maskV lv D i ⟨vs,ls,bx⟩=σ:=by cbv;first|done|fail)(hr:rds σ args=some ys:=by cbv;first|done|fail)(hid:reach σ.bx 1000 (ys.flatMap idsA) []=ids:=by cbv;first|done|fail)
  (hg:gives false {σ with bx:=goneB σ.bx ids} ys=some (as,σ1,b):=by cbv;first|done|fail) (ha:as.map (renA (nth ids))=as':=by cbv;first|done|fail) (hb:(ids.map fun i=>renB (nth ids) (getB σ.bx i))=bx0:=by cbv;first|done|fail) (hc:WC E f as' bx0 R)
  (k:∀ r bx',R r bx'-> ∃x σ2 σ3 ls',backOf false ids b σ σ1 r bx'=some (x,σ2)/\σ2.putW v x=some σ3/\fStep i .top σ3.ls=some ls'/\WD E lv D (i+1) mk os ⟨σ3.vs,ls',σ3.bx⟩ Q):WD E lv D i mk (⟨.var v,.call f args,none⟩::os) ⟨vs,ls,bx⟩ Q:=by
 subst ha hb hm;obtain⟨n,r,bx',h1,h2⟩:=hc;obtain⟨x,σ2,σ3,ls',k1,k2,k3,k4⟩:=k r bx' h2;exact WD.fullV (n+2) hf (by rw[ago];simp only[hr];exact acallOp_of hid hg h1 k1) k2 k3 rfl k4
theorem WD.alloc{zs:List A}{x:A}{b:Bx}{ls':List A}{bx':List Bx}{mk':List (Nat×Nat)}(hf:fullAt D i=false:=by cbv;first|done|fail)(hs:seesOK lv D i (.alloc zs)=true:=by cbv;first|done|fail)(hq:aquiet E 2 (.alloc zs) (St.mask lv D i mk ⟨vs,ls,bx⟩)=some (x,some b):=by cbv;first|done|fail)(hk:quietOK D i x ⟨vs,ls,bx⟩=true:=by cbv;first|done|fail)(hm:(mk.all fun k=>(D.getD i []).contains k.1)=true:=by cbv;first|done|fail)
  (hl:ls.set i x=ls':=by cbv;first|done|fail) (hb:bx++[b]=bx':=by cbv;first|done|fail) (hmk:mk++[(i,bx.length)]=mk':=by cbv;first|done|fail) {i':Nat} (hi':i+1=i':=by cbv;first|done|fail) (k:WD E lv D i' mk' os ⟨vs,ls',bx'⟩ Q):WD E lv D i mk (⟨.loc,.alloc zs,none⟩::os) ⟨vs,ls,bx⟩ Q:=by
 subst hi' hl hb hmk;obtain⟨m,τ,h1,h2⟩:=k;refine⟨max 2 m+1,τ,?_,h2⟩;rw[adraw];simp only[wantD,hf,hs,aquiet_up hq (Nat.le_max_left 2 m),hk,hm,Bool.false_eq_true,if_false,if_true,decide_true,Bool.and_self];exact adraw_up h1 (Nat.le_max_right 2 m)
end
end Go.Ab
end
