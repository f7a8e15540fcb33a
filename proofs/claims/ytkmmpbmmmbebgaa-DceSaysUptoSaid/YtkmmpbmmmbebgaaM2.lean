/- The abstract machine and its soundness, part 2: what it says of the model's runs holds for every program whose functions it has. -/
import Derived.Test.YtkmmpbmmmbebgaaM1
import Derived.Laws.Slices
import Derived.Laws.Small
import Derived.Laws.Tables
import Derived.Laws.MakeOwn
import Derived.Laws.StructEq
import Derived.Laws.Cover3
import Derived.Laws.Pointers
import Derived.Laws.CopyRow
import Derived.Laws.Append
import Derived.Laws.AppendOwn
set_option linter.all false
section
namespace Go.Ab
open Go.RowKit
variable {w:World} {tv tl:Nat->Value}
theorem add_lit(b o n:Nat):(⟨b,o,none⟩:Addr).add n=⟨b,o+n,none⟩:=by
 unfold Addr.add;split
 ·rename_i h;subst h;rfl
 ·rfl
theorem upTo_some{i:Int}{n k:Nat}(h:upTo i n=some k):0<=i/\i<=n/\k=i.toNat:=by
 unfold upTo at h;split at h
 ·split at h
  ·simp only[Oe]at h;exact⟨by assumption,by assumption,h.symm⟩
  ·cases h
 ·cases h
theorem asNat_some{i:Int}{n k:Nat}(h:asNat i n=some k):0<=i/\i<n/\k=i.toNat:=by
 unfold asNat at h;split at h
 ·split at h
  ·simp only[Oe]at h;exact⟨by assumption,by assumption,h.symm⟩
  ·cases h
 ·cases h
theorem pimm_ptr{g:G}{cs:List A}{u:Value}(r:RepI g w (.pimm cs) u):∃ (b off:Nat) (f:Nat->Value),u= .pointer (some ⟨b,off,none⟩)/\g.ow b=none/\b<w.heap.size/\(∀(c:Nat) x,cs[c]?=some x->cell w b (off+c)=some (f c))/\(∀(c:Nat) x,cs[c]?=some x->RepI g w x (f c)):=by
 cases r with
 |emp _ _ _ _ ha=>rcases ha with ha|ha<;>cases ha
 |row _ _ _ _ _ _ _ ha=>rcases ha with ha|ha<;>cases ha
 |pimm _ b off u h1 h2 h3 h4=>exact⟨b,off,u,rfl,h1,h2,h3,h4⟩
theorem imm_row{g:G}{nl:Bool}{z:Nat}{es:List (List A)}{u:Value}(r:RepI g w (.imm nl z es) u):(nl=true/\es=[]/\u= .slice none 0 0)\/(nl=false/\es=[]/\ ∃oa cap,u= .slice (some oa) 0 cap)\/
  nl=false/\ ∃(b off cap:Nat) (f:Nat->Nat->Value),u= .slice (some ⟨b,off,none⟩) es.length cap/\es.length<=cap/\g.ow b=none/\b<w.heap.size/\(∀e,e∈es->e.length=z)/\
   (∀(i:Nat) e (c:Nat) x,es[i]?=some e->e[c]?=some x->cell w b (off+(i*z+c))=some (f i c))/\(∀(i:Nat) e (c:Nat) x,es[i]?=some e->e[c]?=some x->RepI g w x (f i c)):=by
 cases r with
 | emp _ z' oa cap ha=>
   rcases ha with ha|ha<;>cases ha
   exact .inr (.inl ⟨rfl,rfl,oa,cap,rfl⟩)
 |nilr z=>exact .inl ⟨rfl,rfl,rfl⟩
 | row _ z' es' b off cap f ha h1 h2 h3 h4 h5 h6=>
   rcases ha with ha|ha<;>cases ha
   exact .inr <| .inr ⟨rfl,b,off,cap,f,rfl,h1,h2,h3,h4,h5,h6⟩
theorem repS_row{g:G}{σ:St}{q:Pl}{z:Nat}{es:List (List A)}{v:Value}(r:RepS g σ.view q v)(h:σ.row q=some (z,es)):v= .slice (some ⟨(g.hd q).1,0,none⟩) es.length (g.hd q).2:=r.eq h
theorem repT_sub{g:G}{V:Vw}{p q:Pl}{lo hi:Nat}{u:Value}(r:RepT g w V p (.sub q lo hi) u):V.ok q/\u.oneCell'=true/\ ∀z n,V.R q=some (z,n)->lo<=hi/\hi<=n/\ ∃oa:Addr,u= .slice (some oa) (hi-lo) ((g.hd q).2-lo)/\(lo<hi\/lo=0->oa=⟨(g.hd q).1,lo*z,none⟩):=by
 simpa only[RepT,RepA,RepL]using r
section
variable {P:Program} {c:TC} {o:Oper} {ρ:Operand->Value} {g:G} {σ:St}
theorem op_faddr(h:Cx P c o ρ tv tl g σ w){s:TypeId}{f:Nat}{fs:Array Field}{fd:Field}{x:Operand}(hop:o.op= .fieldAddr s x f)(hs:P.underlying s=some (.struct fs))(hf:fs[f]?=some fd)(hz:P.cellsOf fd.type≠0)
  {d:Opd} (hd:c.opd x=some d) {y:A} (hy:pop σ (.faddr fd.offset d)=some y):PRes P o ρ g σ w y:=by
 have hi:∃ i,P.info? fd.type=some i:=by
  cases e:P.info? fd.type with
  |some i=>exact⟨i,rfl⟩
  |none=>simp[Program.cellsOf,e]at hz
 obtain⟨i,hi⟩:=hi
 have run:∀ b off,ρ x= .pointer (some ⟨b,off,none⟩)->(execOp ρ o).run P w= .ok (.value (.pointer (some ⟨b,off+fd.offset,none⟩))) w:=by
  intro b off e;simp[execOp,hop,e,Instr.fieldAt,run_underlying hs,hf,Instr.sureAddr,fieldPlace,run_sizeOf hi,hz,add_lit]
 simp only[pop]at hy;split at hy
 ·rename_i b c' hr;simp only[Oe]at hy;subst hy;obtain⟨h1,e⟩:=repT_pt (rd_ok h.L h.I hd hr ⟨.loc 0,[]⟩).1;refine PRes.same (run _ _ e) ?_;simp only[RepT,RepA,RepL,RepC];exact⟨h1,trivial⟩
 ·rename_i q i' c' hr;split at hy
  ·rename_i n hn;split at hy
   ·rename_i hlt;simp only[Oe]at hy;subst hy;obtain⟨z,hz'⟩:=R'_R hn;obtain⟨h1,h2,h3⟩:=repT_pref (rd_ok h.L h.I hd hr ⟨.loc 0,[]⟩).1;refine PRes.same (run _ _ (h3 z n hz' hlt)) ?_;simp only[RepT,RepA,RepL];refine⟨h1,rfl,fun z2 n2 e2 _=>?_⟩;simp only[St.view]at e2;rw[hz']at e2;cases e2;rw[Nat.add_assoc]
   ·cases hy
  ·cases hy
 ·rename_i cs hr;simp only[Oe]at hy;subst hy;obtain⟨b,off,u,e,h1,h2,h3,h4⟩:=pimm_ptr (repT_pimm (rd_ok h.L h.I hd hr ⟨.loc 0,[]⟩).1);refine PRes.same (run _ _ e) (repT_ofI (.pimm _ b (off+fd.offset) (fun c=>u (fd.offset+c)) h1 h2 ?_ ?_) rfl)
  ·intro c x hx;rw[List.getElem?_drop]at hx;rw[Nat.add_assoc];exact h3 _ x hx
  ·intro c x hx;rw[List.getElem?_drop]at hx;exact h4 _ x hx
 ·cases hy
theorem op_iaddr(h:Cx P c o ρ tv tl g σ w){t e:TypeId}{x j:Operand}(hop:o.op= .indexAddr t x j)(ht:P.underlying t=some (.slice e)){ie:TypeInfo}(he:P.info? e=some ie){d dj:Opd}(hd:c.opd x=some d)(hj:c.opd j=some dj)
  {y:A} (hy:pop σ (.iaddr (P.cellsOf e) d dj)=some y):PRes P o ρ g σ w y:=by
 have run:∀ b off n cap k (i:Int),ρ x= .slice (some ⟨b,off,none⟩) n cap->ρ j= .int k i->0<=i->i<n->(execOp ρ o).run P w= .ok (.value (.pointer (some ⟨b,off+i.toNat*P.cellsOf e,none⟩))) w:=by
  intro b off n cap k i e1 e2 h0 h1;simp[execOp,hop,e1,e2,Instr.indexAt,run_underlying ht,asIntOf,h0,h1,run_sizeOf he,add_lit]
 simp only[pop]at hy;split at hy
 ·rename_i a k i hr hri;have e2:=repT_v (rd_ok h.L h.I hj hri ⟨.loc 0,[]⟩).1
  have r1:=(rd_ok h.L h.I hd hr ⟨.loc 0,[]⟩).1;split at hy
  ·rename_i z' es;split at hy
   ·rename_i hz;subst hz;split at hy
    ·rename_i jj hjj;obtain⟨h0,h1,rfl⟩:=asNat_some hjj;split at hy
     ·rename_i el hel;simp only[Oe]at hy;subst hy;rcases imm_row (repT_imm r1)with⟨_,rfl,_⟩|⟨_,rfl,_⟩|⟨_,b,off,cap,f,e1,k1,k2,k3,k4,k5,k6⟩
      ·simp at hel
      ·simp at hel
      ·refine PRes.same (run _ _ _ _ _ _ e1 e2 h0 h1) (repT_ofI (.pimm _ b (off+i.toNat*P.cellsOf e) (f i.toNat) k2 k3 ?_ ?_) rfl)
       ·intro c x hx;rw[Nat.add_assoc];exact k5 _ _ _ _ hel hx
       ·intro c x hx;exact k6 _ _ _ _ hel hx
     ·cases hy
    ·cases hy
   ·cases hy
  ·rename_i q;split at hy
   ·rename_i z' es hrow;split at hy
    ·rename_i hz;subst hz;split at hy
     ·rename_i jj hjj;obtain⟨h0,h1,rfl⟩:=asNat_some hjj;simp only[Oe]at hy;subst hy;have e1:=repS_row (repT_sref r1) hrow
      refine PRes.same (run _ _ _ _ _ _ e1 e2 h0 h1) ?_;simp only[RepT,RepA,RepL];refine⟨(repT_sref r1).1,rfl,fun z2 n2 e2 _=>?_⟩;simp only[St.view,St.R,hrow,Oe,Prod.mk.injEq]at e2;rw[e2.1];simp
     ·cases hy
    ·cases hy
   ·cases hy
  ·rename_i q lo hi;split at hy
   ·rename_i z' es hrow;split at hy
    ·rename_i hz;subst hz;split at hy
     ·rename_i jj hjj;obtain⟨h0,h1,rfl⟩:=asNat_some hjj;split at hy
      ·rename_i hlt;simp only[Oe]at hy;subst hy;obtain⟨k1,k2,k3⟩:=repT_sub r1;obtain⟨l1,l2,oa,e1,hoa⟩:=k3 (P.cellsOf e) es.length (by simp only[St.view,St.R,hrow]);rw[hoa (.inl (by omega))]at e1;refine PRes.same (run _ _ _ _ _ _ e1 e2 h0 h1) ?_;simp only[RepT,RepA,RepL];refine⟨k1,rfl,fun z2 n2 e2 _=>?_⟩;simp only[St.view,St.R,hrow,Oe,Prod.mk.injEq]at e2;rw[<-e2.1,Nat.add_mul];simp
      ·cases hy
     ·cases hy
    ·cases hy
   ·cases hy
  ·cases hy
 ·cases hy
def Read(g:G)(w:World)(V:Vw)(u:Value)(n:Nat)(ys:List A):Prop:=
 ∃(b off:Nat) (us:List Value),u= .pointer (some ⟨b,off,none⟩)/\ys.length=n/\us.length=n/\(∀(j:Nat) v,us[j]?=some v->cell w b (off+j)=some v)/\
  ∀(j:Nat) x v,ys[j]?=some x->us[j]?=some v-> ∀q,RepL g w V q x v/\x.light=true
theorem Read.of{V:Vw}{u:Value}{n b off:Nat}{ys:List A}(hu:u= .pointer (some ⟨b,off,none⟩))(hl:ys.length=n)
  (h:∀ (j:Nat) x,ys[j]?=some x-> ∃v,cell w b (off+j)=some v/\ ∀q,RepL g w V q x v/\x.light=true):Read g w V u n ys:=by
 refine⟨b,off,(List.range n).map fun j=>(cell w b (off+j)).getD undef,hu,hl,by simp,fun j v hv=>?_,fun j x v hx hv=>?_⟩
 ·rw[List.getElem?_map]at hv;cases hr:(List.range n)[j]? with
  |none=>rw[hr]at hv;cases hv
  | some k=>
    rw[hr]at hv;obtain⟨hjn,rfl⟩:=Ge hr;simp only[List.getElem_range,Option.map_some,Oe]at hv;rw[List.length_range]at hjn;obtain⟨v',h1,_⟩:=h j _ (Gg (by omega));rw[<-hv,h1];rfl
 ·rw[List.getElem?_map]at hv;cases hr:(List.range n)[j]? with
  |none=>rw[hr]at hv;cases hv
  | some k=>
    rw[hr]at hv;obtain⟨hjn,rfl⟩:=Ge hr;simp only[List.getElem_range,Option.map_some,Oe]at hv;obtain⟨v',h1,h2⟩:=h j x hx;rw[h1]at hv;simp only[Option.getD_some]at hv;subst hv;exact h2
theorem leafF_leaf{x:A}(h:x.leafF=true):x.leaf=true:=by
 cases x<;>first|exact h|(simp[A.leafF]at h;done)
theorem leaf_light{x:A}(h:x.leaf=true):x.light=true:=light_of_leaf h
theorem loadA_ok(hi:Inv g σ w tv tl){n:Nat}{a:A}{ys:List A}(h:loadA σ n a=some ys){p:Pl}{u:Value}(r:RepT g w σ.view p a u):Read g w σ.view u n ys:=by
 cases a<;>simp only[loadA,reduceCtorEq]at h
 case pref q i c=>
  split at h
  ·rename_i z es hrow;split at h
   ·rename_i e he;split at h
    ·rename_i hle;simp only[Oe]at h;obtain⟨y,hy,hyz⟩:=row_get hrow;obtain⟨b0,cap0,cur,tt,f1,f2,f3,f4,f5,f6,f7⟩:=hi.row hrow;obtain⟨k1,k2,k3⟩:=repT_pref r;have hlt:i<es.length:=(Ge he).1
     have hu:=k3 z es.length (by simp only[St.view,St.R,hrow]) hlt;rw[f1]at hu;have hl:ys.length=n:=by rw[<-h];simp;omega
     refine Read.of hu hl (fun j x hx=>?_);rw[<-h,List.getElem?_map,List.getElem?_zipIdx]at hx;cases hj:((e.drop c).take n)[j]? with
     |none=>rw[hj]at hx;cases hx
     | some y0=>
       rw[hj]at hx;simp only[Option.map_some,Oe,Nat.zero_add]at hx;subst hx;rw[List.getElem?_take]at hj;split at hj
       ·rw[List.getElem?_drop]at hj;obtain⟨v,hv,hc⟩:=(f7 i e he).2 (c+j) y0 hj;refine⟨v,by rw[cell_of f3,Nat.add_assoc];exact hv,fun q'=>?_⟩
        have hg:σ.get (q.at i (c+j))=some y0:=by
         rw[get_at hy];rcases hyz with rfl|rfl<;>simp only[child,he,hj]
        refine rdLeaf_ok hg ?_ q';rcases hc with hc|hc
        ·exact hc.toL
        ·exact hc.toL
       ·cases hj
    ·cases h
   ·cases h
  ·cases h
 case pimm cs=>
  split at h
  ·rename_i hle;split at h
   ·rename_i hall;simp only[Oe]at h;obtain⟨b,off,f,e,h1,h2,h3,h4⟩:=pimm_ptr (repT_pimm r);refine Read.of e (by rw[<-h];simp;omega) (fun j x hx=>?_);rw[<-h]at hx;have hlf:=List.all_eq_true.1 hall x (Mg hx)
    rw[List.getElem?_map,List.getElem?_take]at hx;split at hx
    ·cases hj:cs[j]? with
     |none=>rw[hj]at hx;cases hx
     | some y0=>
       rw[hj]at hx;simp only[Option.map_some,Oe]at hx;subst hx;exact⟨f j,h3 j y0 hj,fun q=>⟨(RepO.imm q _ _ (h4 j y0 hj).leaf (leafF_leaf hlf)).toL,leaf_light (leafF_leaf hlf)⟩⟩
    ·cases hx
   ·cases h
  ·cases h
 case pt b c=>
  split at h
  ·rename_i cs hb;split at h
   ·rename_i hle;simp only[Oe]at h;obtain⟨_,e⟩:=repT_pt r;have hbx:=hi.boxes b _ hb
    simp only[BoxOK]at hbx;obtain⟨_,cur,t,h2,h3,h4⟩:=hbx;refine Read.of e (by rw[<-h];simp;omega) (fun j x hx=>?_);rw[<-h,List.getElem?_map,List.getElem?_zipIdx]at hx;cases hj:((cs.drop c).take n)[j]? with
    |none=>rw[hj]at hx;cases hx
    | some y0=>
      rw[hj]at hx;simp only[Option.map_some,Oe,Nat.zero_add]at hx;subst hx;rw[List.getElem?_take]at hj;split at hj
      ·rw[List.getElem?_drop]at hj;obtain⟨v,hv,hc⟩:=h4 (c+j) y0 hj;exact⟨v,by rw[cell_of h2];exact hv,fun q=>rdLeaf_ok (p:=⟨.box b (c+j),[]⟩) (by simp[St.get,St.root,hb,hj,getS]) hc.toL q⟩
      ·cases hj
   ·cases h
  ·cases h
theorem op_load(h:Cx P c o ρ tv tl g σ w){t:TypeId}{x:Operand}(hop:o.op= .load t x)(ht:(P.underlying t).isSome=true){d:Opd}(hd:c.opd x=some d)
  {y:A} (hy:pop σ (.load (isAggT P t) (P.cellsOf t) d)=some y):PRes P o ρ g σ w y:=by
 obtain⟨i,hi⟩:=info_of_underlying ht;simp only[pop]at hy;split at hy
 ·rename_i a hr;split at hy
  ·rename_i cs hcs;obtain⟨b,off,us,e,h1,h2,h3,h4⟩:=loadA_ok h.I hcs (rd_ok h.L h.I hd hr ⟨.loc 0,[]⟩).1;split at hy
   ·rename_i hag;simp only[Oe]at hy;subst hy;refine PRes.same (v:=.agg us.toArray) ?_ ?_
    ·have:=run_loadCells_list (P:=P) w ⟨b,off,none⟩ us (fun j v hv=>by rw[add_lit];exact h3 j v hv);rw[h2]at this;simp[execOp,hop,e,Instr.loadAt,Instr.sureAddr,loadVar,run_isAgg ht,hag,run_sizeOf hi,this]
    ·exact⟨us,rfl,h1.trans h2.symm,fun c x u hx hu=>(h4 c x u hx hu _).1⟩
   ·rename_i hag;split at hy
    ·rename_i y0;simp only[Oe]at hy;subst hy;simp only[List.length_cons,List.length_nil]at h1;have hu0:us[0]?=some (us[0]'(by omega)):=Gg (by omega)
     have:=h3 0 _ hu0;refine PRes.same (v:=us[0]'(by omega)) ?_ (repT_ofL (h4 0 _ _ rfl hu0 _).1);simp only[Nat.add_zero]at this;simp[execOp,hop,e,Instr.loadAt,Instr.sureAddr,loadVar,run_isAgg ht,hag,this]
    ·cases hy
  ·cases hy
 ·cases hy
end
end Go.Ab
end
section
namespace Go.Ab
open Go.RowKit
variable {w:World} {tv tl:Nat->Value}
theorem flat_len(cs:List (Bool×List (List A)))(n:Nat):cs.foldl (fun n c=>n+c.2.length) n=n+(flat cs).length:=by
 induction cs generalizing n with
 |nil=>rfl
 | cons c cs ih=>
   simp only[List.foldl_cons,ih];simp[flat,Nat.add_assoc]
section
variable {P:Program} {c:TC} {o:Oper} {ρ:Operand->Value} {g:G} {σ:St}
theorem if_some{p:Prop}[Decidable p](a:Addr)(k:Nat):(if p then some a else(some a).map (·.add k))=some (if p then a else a.add k):=by split<;>rfl
theorem lenA_ok(hi:Inv g σ w tv tl){a:A}{n:Nat}(h:lenA σ a=some n){p:Pl}{u:Value}(r:RepT g w σ.view p a u):∃ oa cap,u= .slice oa n cap/\n<=cap:=by
 unfold lenA at h;split at h
 ·simp only[Oe]at h;subst h;exact⟨none,0,repT_v r,Nat.le_refl _⟩
 ·rename_i z es;simp only[Oe]at h;subst h;rcases imm_row (repT_imm r)with⟨_,rfl,e⟩|⟨_,rfl,oa,cap,e⟩|⟨_,b,off,cap,f,e,k1,_⟩
  ·exact⟨none,0,e,Nat.zero_le _⟩
  ·exact⟨oa,cap,e,Nat.zero_le _⟩
  ·exact⟨_,cap,e,k1⟩
 ·rename_i q;split at h
  ·rename_i z es hrow;simp only[Oe]at h;subst h;obtain⟨b0,cap0,cur,tt,f1,f2,f3,f4,f5,f6,f7⟩:=hi.row hrow;exact⟨_,_,repS_row (repT_sref r) hrow,by rw[f1];exact f5⟩
  ·cases h
 ·rename_i q lo hh;split at h
  ·rename_i ze hrow;simp only[Oe]at h;subst h;obtain⟨z,es⟩:=ze;obtain⟨l1,l2,oa,e1,_⟩:=(repT_sub r).2.2 z es.length (by simp only[St.view,St.R,hrow]);obtain⟨b0,cap0,cur,tt,f1,f2,f3,f4,f5,f6,f7⟩:=hi.row hrow;exact⟨oa,_,e1,by rw[f1];simp only;omega⟩
  ·cases h
 ·rename_i z q cs;split at h
  ·rename_i z' es hrow;split at h
   ·rename_i hz;simp only[Oe]at h;simp only[RepT,RepA,RepL]at r;obtain⟨b,cap,cur,t,e1,e2,e3,e4,_⟩:=r.2.2.2 z' es.length (by simp only[St.view,St.R,hrow]) hz;rw[flat_len]at h;subst h;exact⟨_,_,e1,e4⟩
   ·cases h
  ·cases h
 ·cases h
theorem op_len(h:Cx P c o ρ tv tl g σ w){cl:Call}{t:TypeId}{x:Operand}(hop:o.op= .call cl)(hcl:cl.callee= .builtin .len)(ha:cl.args[0]?=some x)(ht0:cl.argTypes[0]?=some t){k:Nat}{td:TypeDesc}(ht:P.underlying t=some td)
  (hk:(k=0/\ ∃e,td= .slice e)\/(k=1/\td= .string)\/(k=2/\ ∃a b,td= .map a b)) {d:Opd} (hd:c.opd x=some d) {y:A} (hy:pop σ (.len k d)=some y):PRes P o ρ g σ w y:=by
 have ha':(cl.args.map ρ)[0]?=some (ρ x):=by simp[ha]
 have run:∀ n,(Builtin.len_ cl.argTypes o.type (cl.args.map ρ)).run P w= .ok (.int .i64 n) w->(execOp ρ o).run P w= .ok (.value (.int .i64 n)) w:=by
  intro n hn;simp[execOp,hop,resolve,hcl,invoke,builtin,hn]
 simp only[pop]at hy;split at hy
 ·rename_i a hr;split at hy
  ·rename_i n hn;simp only[Oe]at hy;subst hy;have r:=(rd_ok h.L h.I hd hr ⟨.loc 0,[]⟩).1
   refine PRes.same (v:=.int .i64 n) (run n ?_) (RepT.v rfl);rcases hk with⟨rfl,e,rfl⟩|⟨rfl,rfl⟩|⟨rfl,k,e,rfl⟩
   ·obtain⟨oa,cap,e,_⟩:=lenA_ok h.I (by simpa only[lenK]using hn) r;simp only[Builtin.len_,ht0,ha',e,Sem.run_bind,run_underlying ht,Result.andThen_ok];rfl
   ·cases a<;>simp only[lenK,reduceCtorEq]at hn;rename_i x0;cases x0<;>simp only[lenK,reduceCtorEq,Oe]at hn;subst hn;have e:=repT_v r
    simp only[Builtin.len_,ht0,ha',e,Sem.run_bind,run_underlying ht,Result.andThen_ok];rfl
   ·cases a<;>simp only[lenK,reduceCtorEq]at hn
    ·rename_i x0;cases x0<;>first|(simp only[lenK,reduceCtorEq]at hn;done)|skip
     rename_i om;cases om<;>simp only[lenK,reduceCtorEq,Oe]at hn;subst hn;have e:=repT_v r
     simp[Builtin.len_,ht0,ha',e,run_underlying ht,goInt]
    ·split at hn
     ·rename_i es hb;simp only[Oe]at hn;subst hn;obtain⟨_,e⟩:=repT_mp r;have hbx:=h.I.boxes _ _ hb
      simp only[BoxOK]at hbx;obtain⟨_,ents,clk,h2,h3,_⟩:=hbx;simp[Builtin.len_,ht0,ha',e,run_underlying ht,getObj,Sem.run,h2,h3,goInt]
     ·cases hn
  ·cases hy
 ·cases hy
def BoundIs(σ:St)(d m:Nat)(x:Option Opd)(k:Nat):Prop:=
 match x with
 |none=>k=d
 |some o=> ∃kk i,σ.rd o=some (.v (.int kk i))/\0<=i/\i<=(m:Int)/\k=i.toNat
theorem boundO_some{d m k:Nat}{x:Option Opd}(h:boundO σ d m x=some k):BoundIs σ d m x k:=by
 cases x with
 |none=>simp only[boundO,Oe]at h;exact h.symm
 | some o=>
   simp only[boundO]at h;split at h
   ·rename_i kk i hr;obtain⟨k1,k2,k3⟩:=upTo_some h;exact⟨kk,i,hr,k1,k2,k3⟩
   ·cases h
theorem BoundIs.le{d m k:Nat}{x:Option Opd}(h:BoundIs σ d m x k)(hd:d<=m):k<=m:=by
 cases x with
 |none=>simp only[BoundIs]at h;omega
 | some o=>
   obtain⟨kk,i,hr,k1,k2,k3⟩:=h;omega
theorem boundsA_some{n:Nat}{lo hi:Option Opd}{l k:Nat}(h:boundsA σ n lo hi=some (l,k)):BoundIs σ n n hi k/\BoundIs σ 0 k lo l/\l<=k/\k<=n:=by
 unfold boundsA at h;split at h
 ·rename_i hh e1;split at h
  ·rename_i ll e2;simp only[Oe,Prod.mk.injEq]at h;obtain⟨rfl,rfl⟩:=h;have h1:=boundO_some e1
   have h2:=boundO_some e2;exact⟨h1,h2,h2.le (Nat.zero_le _),h1.le (Nat.le_refl _)⟩
  ·cases h
 ·cases h
theorem opdO_some{x:Option Operand}{d:Option Opd}(h:c.opdO x=some d):(x=none/\d=none)\/ ∃y e,x=some y/\d=some e/\c.opd y=some e:=by
 cases x with
 |none=>simp only[TC.opdO,Oe]at h;exact .inl ⟨rfl,h.symm⟩
 | some y=>
   simp only[TC.opdO]at h;split at h
   ·rename_i e he;simp only[Oe]at h;exact .inr ⟨y,e,rfl,h.symm,he⟩
   ·cases h
theorem run_bound(h:Cx P c o ρ tv tl g σ w){x:Option Operand}{dx:Option Opd}(hx:c.opdO x=some dx){d m k:Nat}(hb:BoundIs σ d m dx k):
  (x=none/\k=d)\/ ∃y kk i,x=some y/\ρ y= .int kk i/\0<=i/\i<=(m:Int)/\k=i.toNat:=by
 rcases opdO_some hx with⟨rfl,rfl⟩|⟨y,e,rfl,rfl,he⟩
 ·exact .inl ⟨rfl,hb⟩
 ·obtain⟨kk,i,hr,k1,k2,k3⟩:=hb;exact .inr ⟨y,kk,i,rfl,repT_v (rd_ok h.L h.I he hr ⟨.loc 0,[]⟩).1,k1,k2,k3⟩
theorem run_bounds(h:Cx P c o ρ tv tl g σ w){lo hi:Option Operand}{dl dh:Option Opd}(hl:c.opdO lo=some dl)(hh:c.opdO hi=some dh){n cap l k:Nat}(hb:boundsA σ n dl dh=some (l,k))(hc:n<=cap)(b:Bool):
  (Instr.sliceBounds b n cap (lo.map ρ) (hi.map ρ) none).run P w= .ok (l,k,cap) w:=by
 obtain⟨h1,h2,h3,h4⟩:=boundsA_some hb;rcases run_bound h hh h1 with⟨rfl,rfl⟩|⟨y,kk,i,rfl,e,k1,k2,rfl⟩<;>rcases run_bound h hl h2 with⟨rfl,rfl⟩|⟨y',kk',i',rfl,e',k1',k2',rfl⟩
 ·simp[Instr.sliceBounds]
 ·simp[Instr.sliceBounds,e',run_sliceBound w kk' i' _ _ k1' k2']
 ·simp[Instr.sliceBounds,e,run_sliceBound w kk i _ _ k1 (show i<=(cap:Int)by omega)]
 ·simp[Instr.sliceBounds,e,e',run_sliceBound w kk i _ _ k1 (show i<=(cap:Int)by omega),run_sliceBound w kk' i' _ _ k1' k2']
theorem op_sub(h:Cx P c o ρ tv tl g σ w){t e:TypeId}{x:Operand}{lo hi:Option Operand}(hop:o.op= .slice t x lo hi none)(ht:P.underlying t=some (.slice e)){ie:TypeInfo}(he:P.info? e=some ie){d:Opd}{dl dh:Option Opd}
  (hd:c.opd x=some d) (hl:c.opdO lo=some dl) (hh:c.opdO hi=some dh) {y:A} (hy:pop σ (.sub (P.cellsOf e) d dl dh none)=some y):PRes P o ρ g σ w y:=by
 have run:∀ oa n cap l k,ρ x= .slice oa n cap->boundsA σ n dl dh=some (l,k)->n<=cap->
   (execOp ρ o).run P w= .ok (.value (.slice (if cap=l then oa else oa.map (·.add (l*P.cellsOf e))) (k-l) (cap-l))) w:=by
  intro oa n cap l k e1 hb hc;have:=run_bounds h hl hh hb hc true
  simp[execOp,hop,e1,Instr.sliceAt,Instr.slice,run_underlying ht,this,run_sizeOf he]
 simp only[pop]at hy;split at hy
 ·rename_i a hr;have r:=(rd_ok h.L h.I hd hr ⟨.loc 0,[]⟩).1
  split at hy
  ·rename_i n hn;obtain⟨oa,cap,e1,hc⟩:=lenA_ok h.I hn r;split at hy
   ·rename_i l k hb;obtain⟨b1,b2,b3,b4⟩:=boundsA_some hb;have hrun:=run oa n cap l k e1 hb hc
    split at hy
    ·simp only[Oe]at hy;subst hy;have e2:=repT_v r
     rw[e1]at e2;cases e2;have:l=0:=by omega
     have:k=0:=by omega
     subst_vars
     exact PRes.same hrun (RepT.v rfl)
    ·rename_i z' es;split at hy
     ·rename_i hz;subst hz;simp only[Oe]at hy;subst hy;simp only[lenA,Oe]at hn;have hlen:((es.take k).drop l).length=k-l:=by simp;omega
      rcases imm_row (repT_imm r)with⟨rfl,rfl,e2⟩|⟨rfl,rfl,oa',cap',e2⟩|⟨rfl,b,off,cap',f,e2,k1,k2,k3,k4,k5,k6⟩
      ·rw[e1]at e2;simp only[Value.slice.injEq]at e2;obtain⟨rfl,_,rfl⟩:=e2;simp only[List.length_nil]at hn;have:l=0:=by omega
       have:k=0:=by omega
       subst_vars
       exact PRes.same hrun (repT_ofI (.nilr _) rfl)
      ·rw[e1]at e2;simp only[Value.slice.injEq]at e2;obtain⟨rfl,_,rfl⟩:=e2;rw[if_some oa' (l*P.cellsOf e)]at hrun;refine PRes.same hrun (repT_ofI ?_ rfl);simp only[List.length_nil]at hn;have:k-l=0:=by omega
       rw[this];simp only[List.take_nil,List.drop_nil];exact .emp _ _ _ _ (.inl rfl)
      ·rw[e1]at e2;simp only[Value.slice.injEq]at e2;obtain⟨rfl,_,rfl⟩:=e2
       by_cases hkl:k=l
       ·subst hkl;rw[if_some _ (k*P.cellsOf e)]at hrun;refine PRes.same hrun (repT_ofI ?_ rfl);have:(es.take k).drop k=[]:=List.eq_nil_of_length_eq_zero (by omega)
        rw[this,Nat.sub_self];exact .emp _ _ _ _ (.inl rfl)
       ·have hne:¬ cap=l:=by omega
        rw[if_neg hne,Option.map_some,add_lit]at hrun;refine PRes.same hrun (repT_ofI ?_ rfl);rw[<-hlen]
        have get:∀ (i:Nat) e0,((es.take k).drop l)[i]?=some e0->es[l+i]?=some e0:=by
         intro i e0 he0;rw[List.getElem?_drop,List.getElem?_take]at he0;split at he0
         ·exact he0
         ·cases he0
        refine .row _ (P.cellsOf e) _ b (off+l*P.cellsOf e) (cap-l) (fun i c=>f (l+i) c) (.inl rfl) (by omega) k2 k3 ?_ ?_ ?_
        ·intro e0 he0;exact k4 e0 (List.mem_of_mem_take (List.mem_of_mem_drop he0))
        ·intro i e0 c x he0 hx;have:=k5 (l+i) e0 c x (get i e0 he0) hx
         rw[<-this];congr 1;rw[Nat.add_mul];omega
        ·intro i e0 c x he0 hx;exact k6 (l+i) e0 c x (get i e0 he0) hx
     ·cases hy
    ·rename_i q;split at hy
     ·rename_i z' es hrow;split at hy
      ·rename_i hz;subst hz;simp only[Oe]at hy;subst hy;simp only[lenA,hrow,Oe]at hn;have e2:=repS_row (repT_sref r) hrow
       rw[e1]at e2;simp only[Value.slice.injEq]at e2;obtain⟨rfl,_,rfl⟩:=e2;rw[if_some _ (l*P.cellsOf e)]at hrun;refine PRes.same hrun ?_;simp only[RepT,RepA,RepL];refine⟨(repT_sref r).1,rfl,fun z2 n2 e2=>?_⟩;simp only[St.view,St.R,hrow,Oe,Prod.mk.injEq]at e2;refine⟨b3,by omega,_,rfl,fun hlt=>?_⟩;rw[<-e2.1]
       by_cases hcl:(g.hd q).2=l
       ·have:l=0:=by omega
        simp[hcl,this]
       ·simp[hcl,add_lit]
      ·cases hy
     ·cases hy
    ·rename_i q lo0 hi0;split at hy
     ·rename_i z' es hrow;split at hy
      ·rename_i hz;subst hz;simp only[Oe]at hy;subst hy;simp only[lenA,hrow,Oe]at hn;obtain⟨l1,l2,oa',e2,hoa⟩:=(repT_sub r).2.2 (P.cellsOf e) es.length (by simp only[St.view,St.R,hrow]);rw[e1]at e2;simp only[Value.slice.injEq]at e2;obtain⟨rfl,_,rfl⟩:=e2;rw[if_some _ (l*P.cellsOf e)]at hrun;refine PRes.same hrun ?_;simp only[RepT,RepA,RepL];refine⟨(repT_sub r).1,rfl,fun z2 n2 e2=>?_⟩
       simp only[St.view,St.R,hrow,Oe,Prod.mk.injEq]at e2;have hcap:(g.hd q).2-lo0-l=(g.hd q).2-(lo0+l):=by omega
       have hkl:k-l=lo0+k-(lo0+l):=by omega
       refine⟨by omega,by omega,_,by rw[hcap,hkl],fun hlt=>?_⟩;rw[<-e2.1];rw[hoa (by omega)]
       by_cases hcl:(g.hd q).2-lo0=l
       ·have:l=0:=by omega
        subst this;simp[hcl]
       ·simp[hcl,add_lit,Nat.add_mul]
      ·cases hy
     ·cases hy
    ·cases hy
   ·cases hy
  ·cases hy
 ·cases hy
theorem op_ssub(h:Cx P c o ρ tv tl g σ w){t:TypeId}{x:Operand}{lo hi:Option Operand}(hop:o.op= .slice t x lo hi none)(ht:P.underlying t=some .string){d:Opd}{dl dh:Option Opd}
  (hd:c.opd x=some d) (hl:c.opdO lo=some dl) (hh:c.opdO hi=some dh) {y:A} (hy:pop σ (.ssub d dl dh)=some y):PRes P o ρ g σ w y:=by
 simp only[pop]at hy;split at hy
 ·rename_i s hr;have e:=repT_v (rd_ok h.L h.I hd hr ⟨.loc 0,[]⟩).1
  split at hy
  ·rename_i l k hb;simp only[Oe]at hy;subst hy;have:=run_bounds h hl hh hb (Nat.le_refl _) false
   exact PRes.same (v:=.string (s.extract l k)) (by simp[execOp,hop,e,Instr.sliceAt,Instr.slice,run_underlying ht,this]) (RepT.v rfl)
  ·cases hy
 ·cases hy
end
end Go.Ab
end
section
namespace Go.Ab
open Go.RowKit
variable {w:World} {tv tl:Nat->Value}
def Cells(g:G)(w:World)(V:Vw)(xs:List A)(us:List Value):Prop:=
 xs.length=us.length/\ ∀(i:Nat) x u,xs[i]?=some x->us[i]?=some u->(∀q,RepL g w V q x u)/\x.light=true
theorem putCells_len{α:Type}:∀ (ys:List α) (cs:List α) (c:Nat),(putCells cs c ys).length=cs.length
 |[],cs,c=>rfl
 |y::ys,cs,c=>by simp[putCells,putCells_len ys]
theorem putCells_get{α:Type}:∀ (ys:List α) (cs:List α) (c i:Nat),c+ys.length<=cs.length->(putCells cs c ys)[i]?=if c<=i/\i<c+ys.length then ys[i-c]? else cs[i]?
 | [],cs,c,i,_=>by
   have:¬ (c<=i/\i<c+([]:List α).length):=by simp
   rw[if_neg this];rfl
 | y::ys,cs,c,i,h=>by
   simp only[List.length_cons]at h;simp only[putCells];rw[putCells_get ys (cs.set c y) (c+1) i (by simp;omega)]
   by_cases h1:c+1<=i/\i<c+1+ys.length
   ·rw[if_pos h1,if_pos (by simp;omega),show i-c=(i-(c+1))+1 by omega,List.getElem?_cons_succ]
   ·rw[if_neg h1]
    by_cases h2:i=c
    ·subst h2;rw[if_pos (by simp),Nat.sub_self,List.getElem?_cons_zero,List.getElem?_set_self (by omega)]
    ·rw[if_neg (by simp;omega),List.getElem?_set_ne (by omega)]
theorem foldl_put:∀ (vs:List Value) (cells:Array Value) (off k:Nat),((vs.zipIdx k).foldl (fun(cs:Array Value) (p:Value×Nat)=>cs.setIfInBounds (off+p.2) p.1) cells).toList=putCells cells.toList (off+k) vs
 |[],cells,off,k=>rfl
 | v::vs,cells,off,k=>by
   simp only[List.zipIdx_cons,List.foldl_cons,putCells];rw[foldl_put vs _ off (k+1)];simp[Nat.add_assoc]
theorem foldl_put'(v:Value)(cells:Array Value)(off:Nat):(v.cells.zipIdx.foldl (fun cs (c,j)=>cs.setIfInBounds (off+j) c) cells).toList=putCells cells.toList off v.cells.toList:=by
 have:=foldl_put v.cells.toList cells off 0;rw[<-Array.foldl_toList,Array.toList_zipIdx];exact this
section
variable {g:G} {V:Vw}
theorem Cells.put{xs ys:List A}{us vs:List Value}(h:Cells g w V xs us)(k:Cells g w V ys vs){off:Nat}(hl:off+ys.length<=xs.length):Cells g w V (putCells xs off ys) (putCells us off vs):=by
 refine⟨by rw[putCells_len,putCells_len];exact h.1,fun i x u hx hu=>?_⟩;rw[putCells_get _ _ _ _ hl]at hx;rw[putCells_get _ _ _ _ (by rw[<-k.1,<-h.1];exact hl),<-k.1]at hu;split at hx
 ·rename_i hc;rw[if_pos hc]at hu;exact k.2 _ x u hx hu
 ·rename_i hc;rw[if_neg hc]at hu;exact h.2 _ x u hx hu
theorem cells_of{a:A}{u:Value}(r:∀ q,RepT g w V q a u)(hl:lightT a=true)(hk:a.known=true):Cells g w V (cellsOf a) u.cells.toList:=by
 have single:(∀q,RepL g w V q a u)->a.light=true->cellsOf a=[a]->Cells g w V (cellsOf a) u.cells.toList:=by
  intro h1 h2 h3
  have h4:u.cells= #[u]:=by
   have:=(h1 ⟨.loc 0,[]⟩).one;cases u<;>first|rfl|(simp[Value.oneCell']at this)
  rw[h3,h4];refine⟨rfl,fun i x v hx hv=>?_⟩;cases i with
  |zero=>simp at hx hv;subst hx hv;exact⟨h1,h2⟩
  |succ i=>simp at hx
 cases a
 case agg cs=>
  obtain⟨us,rfl,h1,h2⟩:=repT_agg (r ⟨.loc 0,[]⟩);refine⟨h1,fun i x v hx hv=>?_⟩;simp only[cellsOf]at hx;have hlx:=List.all_eq_true.1 hl x (Mg hx)
  refine⟨fun q=>?_,hlx⟩;have:=h2 i x v hx (by simpa[Value.cells]using hv)
  have rep:=this
  cases x<;>simp[A.light]at hlx<;>first
   |exact rep
   | (simp only [RepL,RepC] at rep ⊢
      first
       |exact rep
       |(cases rep with|imm _ _ _ hi ha=>exact .imm _ _ _ hi ha))
 case tup cs=>simp[A.known]at hk
 case top=>simp[A.known]at hk
 case ud=>simp[A.known]at hk
 all_goals exact single (fun q=>by simpa only[RepT,RepA]using r q) hl rfl
end
section
variable {P:Program} {c:TC} {o:Oper} {ρ:Operand->Value} {g:G} {σ:St}
theorem fill_cells(h:Cx P c o ρ tv tl g σ w){place:Nat->Option (Nat×Nat)}:∀ (l:List (Nat×Operand)) (ds:List (Nat×Nat×Opd)) (ys:List (Nat×Nat×A)) (xs cs:List A) (us:Array Value),
  l.mapM (c.part place)=some ds->ds.mapM (partA σ)=some ys->fillA xs ys=some cs->Cells g w σ.view xs us.toList->
  ∃us',Instr.fill place us (l.map fun p=>(p.1,ρ p.2))=some us'/\Cells g w σ.view cs us'.toList
 | [],ds,ys,xs,cs,us,h1,h2,h3,h4=>by
   simp only[List.mapM_nil]at h1;cases h1;simp only[List.mapM_nil]at h2;cases h2;simp only[fillA,Oe]at h3;subst h3;exact⟨us,rfl,h4⟩
 | (i,x)::l,ds,ys,xs,cs,us,h1,h2,h3,h4=>by
   simp only[List.mapM_cons]at h1;cases e1:c.part place (i,x)with
   |none=>rw[e1]at h1;cases h1
   | some d=>
     rw[e1]at h1;cases e2:l.mapM (c.part place)with
     |none=>simp only[e2]at h1;cases h1
     | some ds'=>
       simp only[e2]at h1;cases h1;simp only[List.mapM_cons]at h2;cases e3:partA σ d with
       |none=>rw[e3]at h2;cases h2
       | some y=>
         rw[e3]at h2;cases e4:ds'.mapM (partA σ)with
         |none=>simp only[e4]at h2;cases h2
         | some ys'=>
           simp only[e4]at h2;cases h2;unfold TC.part at e1;split at e1
           ·rename_i off n hp;split at e1
            ·rename_i dd hdd;simp only[Oe]at e1;subst e1;unfold partA at e3;split at e3
             ·rename_i a ha;split at e3
              ·rename_i hk;simp only[Oe]at e3;subst e3;simp only[fillA]at h3;split at h3
               ·rename_i hlen;split at h3
                ·rename_i hfit;have hc:=cells_of (fun q=>(rd_ok h.L h.I hdd ha q).1) (rd_ok h.L h.I hdd ha ⟨.loc 0,[]⟩).2 hk
                 have hsz:(ρ x).cells.size=n:=by rw[<-hlen,hc.1];simp
                 have hus:us.size=xs.length:=by rw[h4.1];simp
                 have h5:=h4.put hc (off:=off) (by rw[hlen];exact hfit);rw[<-foldl_put']at h5;obtain⟨us',k1,k2⟩:=fill_cells h l ds' ys' _ cs _ e2 e4 h3 h5;refine⟨us',?_,k2⟩;simp only[List.map_cons,Instr.fill,hp];rw[if_neg (by simp[hsz,hus];omega)];exact k1
                ·cases h3
               ·cases h3
              ·cases e3
             ·cases e3
            ·cases e1
           ·cases e1
theorem zeroA_ok{t:TypeId}{zs:List A}(h:zeroA P t=some zs)(g:G)(V:Vw):∃ i v,P.info? t=some i/\i.zero=some v/\Cells g w V zs v.cells.toList:=by
 unfold zeroA at h;split at h
 ·rename_i i hi;split at h
  ·rename_i v hv;split at h
   ·rename_i a ha;simp only[Oe]at h;subst h;refine⟨i,v,hi,hv,cells_of (fun q=>(constA_ok ha g V q).1) (constA_ok (w:=w) ha g V ⟨.loc 0,[]⟩).2 ?_⟩;have hleaf:∀ {x a},constLeaf x=some a->a.known=true:=fun h=>by rw[(constLeaf_ok h).1];rfl
    cases v<;>simp only[constA]at ha<;>first
     |exact hleaf ha
     |skip
    split at ha
    ·simp only[Oe]at ha;subst ha;rfl
    ·cases ha
   ·cases h
  ·cases h
 ·cases h
theorem Cells.agg{V:Vw}{cs:List A}{us:List Value}(h:Cells g w V cs us)(q:Pl):RepT g w V q (.agg cs) (.agg us.toArray):=
 ⟨us,rfl,h.1,fun c x u hx hu=>(h.2 c x u hx hu).1 _⟩
theorem op_build(h:Cx P c o ρ tv tl g σ w){t:TypeId}{ps:Array (Nat×Operand)}(hop:o.op= .build t ps){fs:Array Field}(ht:P.underlying t=some (.struct fs)){zs:List A}(hz:zeroA P t=some zs)
  {places:List (Nat×Nat)} (hpl:fs.toList.mapM (fun f=>(P.info? f.type).map fun i=>(f.offset,i.size))=some places) {ds:List (Nat×Nat×Opd)} (hds:ps.toList.mapM (c.part fun i=>places[i]?)=some ds)
  {y:A} (hy:pop σ (.build zs ds)=some y):PRes P o ρ g σ w y:=by
 simp only[pop]at hy;split at hy
 ·rename_i ys hys;split at hy
  ·rename_i cs hcs;simp only[Oe]at hy;subst hy;obtain⟨i,v,hi,hv,hc⟩:=zeroA_ok (w:=w) hz g σ.view;obtain⟨us',k1,k2⟩:=fill_cells h ps.toList ds ys zs cs v.cells hds hys hcs hc
   have hb:P.built t (ps.map fun p=>(p.1,ρ p.2)).toList=some us':=by
    simp only[Program.built,hi,ht,hv,hpl];rw[Array.toList_map,<-k1];congr 1
    funext i
    simp
   refine PRes.same (v:=.agg us') ?_ ?_
   ·simp[execOp,hop,run_build w t _ us' hb]
   ·have:=k2.agg ⟨.loc σ.ls.length,[]⟩;simpa using this
  ·cases hy
 ·cases hy
theorem op_fld(h:Cx P c o ρ tv tl g σ w){s:TypeId}{f:Nat}{fs:Array Field}{fd:Field}{x:Operand}(hop:o.op= .field s x f)(hs:P.underlying s=some (.struct fs))(hf:fs[f]?=some fd)(ht:(P.underlying fd.type).isSome=true)
  {d:Opd} (hd:c.opd x=some d) {y:A} (hy:pop σ (.fld (isAggT P fd.type) fd.offset (P.cellsOf fd.type) d)=some y):PRes P o ρ g σ w y:=by
 obtain⟨i,hi⟩:=info_of_underlying ht;simp only[pop]at hy;split at hy
 ·rename_i cs hr;obtain⟨r,hl⟩:=rd_ok h.L h.I hd hr ⟨.loc 0,[]⟩;split at hy
  ·rename_i hle;have hc:=cells_of (fun q=>(rd_ok h.L h.I hd hr q).1) hl rfl
   obtain⟨us,e,h1,h2⟩:=repT_agg r
   have hget:∀ (j:Nat),((us.drop fd.offset).take (P.cellsOf fd.type))[j]?=if j<P.cellsOf fd.type then us[fd.offset+j]? else none:=by
    intro j;rw[List.getElem?_take,List.getElem?_drop]
   have hgc:∀ (j:Nat),((cs.drop fd.offset).take (P.cellsOf fd.type))[j]?=if j<P.cellsOf fd.type then cs[fd.offset+j]? else none:=by
    intro j;rw[List.getElem?_take,List.getElem?_drop]
   have hC:Cells g w σ.view cs us:=by
    have:=hc;simp only[e,cellsOf,Value.cells]at this;simpa using this
   have key:Cells g w σ.view ((cs.drop fd.offset).take (P.cellsOf fd.type)) ((us.drop fd.offset).take (P.cellsOf fd.type)):=by
    refine⟨by simp[h1],fun j x u hx hu=>?_⟩;rw[hgc]at hx;rw[hget]at hu;split at hx
    ·rename_i hj;rw[if_pos hj]at hu;exact hC.2 _ x u hx hu
    ·cases hx
   split at hy
   ·rename_i hag;simp only[Oe]at hy;subst hy;refine PRes.same (v:=.agg ((us.drop fd.offset).take (P.cellsOf fd.type)).toArray) ?_ (key.agg _);simp[execOp,hop,e,Instr.field,run_underlying hs,hf,part,asAgg,run_isAgg ht,hag,run_sizeOf hi]
   ·rename_i hag;split at hy
    ·rename_i y0 hy0;simp only[Oe]at hy;subst hy;rw[hy0]at key;have hlen:=key.1
     simp only[List.length_cons,List.length_nil]at hlen;have hu0:=Gg (l:=(us.drop fd.offset).take (P.cellsOf fd.type)) (i:=0) (by omega)
     have k0:=key.2 0 _ _ rfl hu0;have hu1:=hu0
     rw[hget,if_pos (by simp at hlen;omega),Nat.add_zero]at hu1;refine PRes.same ?_ (repT_ofL (k0.1 _));simp[execOp,hop,e,Instr.field,run_underlying hs,hf,part,asAgg,run_isAgg ht,hag,hu1]
    ·cases hy
  ·cases hy
 ·cases hy
theorem rds_ok(h:Cx P c o ρ tv tl g σ w):∀ (xs:List Operand) (ds:List Opd) (ys:List A),xs.mapM c.opd=some ds->rds σ ds=some ys->
  ys.length=xs.length/\ ∀(i:Nat) x y,xs[i]?=some x->ys[i]?=some y->(∀q,RepT g w σ.view q y (ρ x))/\lightT y=true
 | [],ds,ys,h1,h2=>by
   simp only[List.mapM_nil]at h1;cases h1;simp only[rds,Oe]at h2;subst h2;exact⟨rfl,fun i x y hx=>by simp at hx⟩
 | x::xs,ds,ys,h1,h2=>by
   simp only[List.mapM_cons]at h1;cases e1:c.opd x with
   |none=>rw[e1]at h1;cases h1
   | some d=>
     rw[e1]at h1;cases e2:xs.mapM c.opd with
     |none=>simp only[e2]at h1;cases h1
     | some ds'=>
       simp only[e2]at h1;cases h1;simp only[rds]at h2;split at h2
       ·rename_i y hy;split at h2
        ·rename_i ys' hys;simp only[Oe]at h2;subst h2;obtain⟨k1,k2⟩:=rds_ok h xs ds' ys' e2 hys;refine⟨by simp[k1],fun i a b ha hb=>?_⟩;cases i with
         |zero=>simp at ha hb;subst ha hb;exact⟨fun q=>(rd_ok h.L h.I e1 hy q).1,(rd_ok h.L h.I e1 hy ⟨.loc 0,[]⟩).2⟩
         |succ i=>exact k2 i a b (by simpa using ha) (by simpa using hb)
        ·cases h2
       ·cases h2
theorem two_args(h:Cx P c o ρ tv tl g σ w){xs:Array Operand}{ds:List Opd}(hd:c.opds xs=some ds){k k':IntKind}{a b:Int}(hr:rds σ ds=some [.v (.int k a),.v (.int k' b)]):xs.map ρ= #[.int k a,.int k' b]:=by
 obtain⟨k1,k2⟩:=rds_ok h xs.toList ds _ hd hr;simp only[List.length_cons,List.length_nil]at k1;have hl:xs.toList.length=2:=by omega
 have h0:0<xs.toList.length:=by omega
 have h1:1<xs.toList.length:=by omega
 have e0:=repT_v ((k2 0 _ _ (Gg h0) rfl).1 ⟨.loc 0,[]⟩);have e1:=repT_v ((k2 1 _ _ (Gg h1) rfl).1 ⟨.loc 0,[]⟩)
 obtain⟨l⟩:=xs;simp only at hl e0 e1
 match l,hl with
 | [x,y],_=>
   simp at e0 e1;simp[e0,e1]
theorem op_mx(h:Cx P c o ρ tv tl g σ w){cl:Call}(hop:o.op= .call cl)(hcl:cl.callee= .builtin .max){ds:List Opd}(hd:c.opds cl.args=some ds){y:A}(hy:pop σ (.mx ds)=some y):PRes P o ρ g σ w y:=by
 simp only[pop]at hy;split at hy
 ·rename_i k a k' b hr;split at hy
  ·simp only[Oe]at hy;subst hy;exact PRes.same (by simp[execOp,hop,resolve,hcl,invoke,builtin,two_args h hd hr,run_max_int2]) (RepT.v rfl)
  ·cases hy
 ·cases hy
theorem op_mn(h:Cx P c o ρ tv tl g σ w){cl:Call}(hop:o.op= .call cl)(hcl:cl.callee= .builtin .min){ds:List Opd}(hd:c.opds cl.args=some ds){y:A}(hy:pop σ (.mn ds)=some y):PRes P o ρ g σ w y:=by
 simp only[pop]at hy;split at hy
 ·rename_i k a k' b hr;split at hy
  ·simp only[Oe]at hy;subst hy;exact PRes.same (by simp[execOp,hop,resolve,hcl,invoke,builtin,two_args h hd hr,run_min_int2]) (RepT.v rfl)
  ·cases hy
 ·cases hy
def newG(g:G)(w:World)(k n:Nat):G where
 ow b:=if b=w.heap.size then some (.row ⟨.loc k,[]⟩)else g.ow b
 hd r:=if r=⟨.loc k,[]⟩then(w.heap.size,n)else g.hd r
 blk:=g.blk
theorem newG_keeps(k n:Nat)(hlt:∀ b,g.ow b≠none->b<w.heap.size){w':World}{x:Obj}(hw:w'.heap=w.heap.push x):Keeps (.loc k) g w (newG g w k n) w':=by
 have ne:∀ {b o},g.ow b=some o->b≠w.heap.size:=fun{b o} h e=>by
  have:=hlt b (by rw[h];simp);omega
 have old:∀ {b},b<w.heap.size->w'.heap[b]?=w.heap[b]?:=fun{b} hb=>by
  rw[hw,Array.getElem?_push];rw[if_neg (by omega)]
 have keep:∀ {b o},g.ow b=some o->(newG g w k n).ow b=some o:=fun{b o} h=>by
  simp only[newG];rw[if_neg (ne h)];exact h
 refine{size:=by rw[hw];simp,free:=?_,same:=fun b hb _=>old hb,frn:=fun b hb h=>⟨keep h,old hb⟩,blk:=rfl,hd:=?_,ow:=fun _ _ _ h=>keep h,row:=fun q b _ h=>old (hlt b (by rw[h];simp)),owb:=fun _ _ h=>keep h,rowb:=fun b _ h=>old (hlt b (by rw[h];simp)),owt:=fun _ _ _ h=>keep h,rowt:=fun q b _ h=>old (hlt b (by rw[h];simp)),lt:=?_}
 ·intro b hb h;simp only[newG];rw[if_neg (by omega)];exact h
 ·intro q hq;simp only[newG];rw[if_neg (fun e=>hq (by rw[e]))]
 ·intro _ b hb;rw[hw,Array.size_push];simp only[newG]at hb
  by_cases e:b=w.heap.size
  ·omega
  ·rw[if_neg e]at hb;have:=hlt b hb
   omega
theorem RepE.keeps{V:Vw}{k:Nat}(hV:V.nl<=k){g':G}{w':World}(h:Keeps (.loc k) g w g' w'){x:A}{u:Value}(r:RepE g w V x u):RepE g' w' V x u:=by
 cases x<;>simp only[RepE]at r ⊢ <;>first
  |exact⟨r.1,r.2.later h.toLater⟩
  |skip
 rename_i q;refine⟨r.1,r.2.1,fun z n e=>?_⟩;rw[h.hd q (ok_root r.1 hV)];exact r.2.2 z n e
theorem elem_repE{V:Vw}{x:A}{u:Value}{q:Pl}(h:x.elem=true)(r:RepL g w V q x u):RepE g w V x u:=by
 cases x<;>simp[A.elem]at h<;>simp only[RepL,RepC]at r<;>simp only[RepE]<;>first
  |exact r
  |(cases r with|imm _ _ _ hi ha=>exact⟨ha,hi⟩)
theorem rows_get{α:Type}{cs:List α}{n z i:Nat}{e:List α}(h:((List.range n).map fun i=>(cs.drop (i*z)).take z)[i]?=some e):i<n/\e=(cs.drop (i*z)).take z:=by
 rw[List.getElem?_map]at h;cases hr:(List.range n)[i]? with
 |none=>rw[hr]at h;cases h
 | some k=>
   rw[hr]at h;obtain⟨hlt,rfl⟩:=Ge hr;simp only[List.getElem_range,Option.map_some,Oe]at h;rw[List.length_range]at hlt;exact⟨hlt,h.symm⟩
theorem replicate_flat_get{α:Type}(z:List α):∀ (n i c:Nat),i<n->c<z.length->(List.replicate n z).flatten[i*z.length+c]?=z[c]?
 |0,i,c,h,_=>by omega
 | n+1,0,c,_,hc=>by
   simp only[List.replicate_succ,List.flatten_cons,Nat.zero_mul,Nat.zero_add];rw[List.getElem?_append_left hc]
 | n+1,i+1,c,h,hc=>by
   simp only[List.replicate_succ,List.flatten_cons];rw[List.getElem?_append_right (by rw[Nat.add_mul];omega)];rw[show(i+1)*z.length+c-z.length=i*z.length+c by rw[Nat.add_mul];omega];exact replicate_flat_get z n i c (by omega) hc
theorem madeCells_flat(z:Array Value)(n:Nat):(madeCells z (n*z.size)).toList=(List.replicate n z.toList).flatten:=by
 apply List.ext_getElem?;intro j;have hl:(List.replicate n z.toList).flatten.length=n*z.size:=by simp
 by_cases hj:j<n*z.size
 ·have hz:0<z.size:=Nat.pos_of_ne_zero (fun e=>by rw[e]at hj;simp at hj);have h1:j / z.size<n:=by rw[Nat.div_lt_iff_lt_mul hz];exact hj
  have h2:j % z.size<z.size:=Nat.mod_lt _ hz;have:=replicate_flat_get z.toList n (j / z.size) (j % z.size) h1 (by simpa using h2)
  have e:j / z.size*z.toList.length+j % z.size=j:=by
   simp only[Array.length_toList];rw[Nat.mul_comm];exact Nat.div_add_mod j z.size
  rw[e]at this;rw[this];simp[madeCells,hj,h2]
 ·rw[List.getElem?_eq_none (by simp[madeCells];omega),List.getElem?_eq_none (by omega)]
end
end Go.Ab
end
section
namespace Go.Ab
open Go.RowKit
variable {w:World} {tv tl:Nat->Value}
section
variable {P:Program} {c:TC} {o:Oper} {ρ:Operand->Value} {g:G} {σ:St}
theorem zeroA_v{t:TypeId}{zs:List A}(h:zeroA P t=some zs):zs.all A.isV=true:=by
 unfold zeroA at h;split at h
 ·split at h
  ·rename_i v hv;split at h
   ·rename_i a ha;simp only[Oe]at h;subst h;have hleaf:∀ {x a},constLeaf x=some a->(cellsOf a).all A.isV=true:=fun h=>by rw[(constLeaf_ok h).1];rfl
    cases v<;>simp only[constA]at ha<;>first
     |exact hleaf ha
     |skip
    split at ha
    ·rename_i cs hm;simp only[Oe]at ha;subst ha;obtain⟨h1,h2⟩:=mapM_get hm;simp only[cellsOf,List.all_eq_true];intro x hx;obtain⟨i,hi⟩:=List.mem_iff_getElem?.1 hx;have hlt:=(Ge hi).1
     rw[(constLeaf_ok (h2 i _ x (Gg (by rw[<-h1];exact hlt)) hi)).1];rfl
    ·cases ha
   ·cases h
  ·cases h
 ·cases h
theorem heap_new(w:World)(x:Obj):(w.alloc x).heap[w.heap.size]?=some x:=heap_alloc_new w x
theorem newG_hd(k n:Nat):(newG g w k n).hd ⟨.loc k,[]⟩=(w.heap.size,n):=by simp[newG]
theorem newG_ow(k n:Nat):(newG g w k n).ow w.heap.size=some (.row ⟨.loc k,[]⟩):=by simp[newG]
theorem op_bslice(h:Cx P c o ρ tv tl g σ w){t e:TypeId}{n:Nat}{ps:Array (Nat×Operand)}(hop:o.op= .buildSlice t n ps)(ht:P.underlying t=some (.slice e)){ie:TypeInfo}(he:P.info? e=some ie)
  {zs:List A} (hz:zeroA P e=some zs) (hzl:zs.length=P.cellsOf e) {ds:List (Nat×Nat×Opd)} (hds:ps.toList.mapM (c.part fun i=>some (i*P.cellsOf e,P.cellsOf e))=some ds)
  {y:A} (hy:pop σ (.bslice (P.cellsOf e) zs n ds)=some y):PRes P o ρ g σ w y:=by
 simp only[pop]at hy;split at hy
 ·rename_i ys hys;split at hy
  ·rename_i cs hcs;split at hy
   ·rename_i hmax;split at hy
    ·rename_i hel;simp only[Oe]at hy;subst hy;obtain⟨i,v,hi,hv,hc⟩:=zeroA_ok (w:=w) hz g σ.view;rw[he]at hi;simp only[Oe]at hi;subst hi;have hvs:v.cells.size=P.cellsOf e:=by rw[<-hzl,hc.1];simp
     have hsz:ie.size=P.cellsOf e:=by simp[Program.cellsOf,he]
     -- the cells ahead of the parts
     have hfl:(madeCells v.cells (n*P.cellsOf e)).toList=(List.replicate n v.cells.toList).flatten:=by rw[<-hvs];exact madeCells_flat _ _
     have h0:Cells g w σ.view (List.replicate n zs).flatten (madeCells v.cells (n*P.cellsOf e)).toList:=by
      rw[hfl];refine⟨by simp[hc.1],fun j x u hx hu=>?_⟩;have hj:=(Ge hx).1
      have hlen:(List.replicate n zs).flatten.length=n*zs.length:=by simp
      rw[hlen]at hj;have hpos:0<zs.length:=Nat.pos_of_ne_zero (fun e=>by rw[e]at hj;simp at hj)
      have h1:j / zs.length<n:=by rw[Nat.div_lt_iff_lt_mul hpos];exact hj
      have h2:j % zs.length<zs.length:=Nat.mod_lt _ hpos;have e0:j / zs.length*zs.length+j % zs.length=j:=by rw[Nat.mul_comm];exact Nat.div_add_mod j _
      have g1:=replicate_flat_get zs n _ _ h1 h2;have g2:=replicate_flat_get v.cells.toList n _ (j % zs.length) h1 (by rw[<-hc.1];exact h2)
      rw[<-hc.1]at g2;rw[e0]at g1 g2;rw[g1]at hx;rw[g2]at hu;exact hc.2 _ x u hx hu
     obtain⟨us',k1,k2⟩:=fill_cells h ps.toList ds ys _ cs (madeCells v.cells (n*P.cellsOf e)) hds hys hcs h0
     have hus:us'.size=n*P.cellsOf e:=by
      have e1:∀ (ys:List (Nat×Nat×A)) (xs cs:List A),fillA xs ys=some cs->cs.length=xs.length:=by
       intro ys
       induction ys with
       |nil=>intro xs cs h;simp only[fillA,Oe]at h;rw[h]
       | cons y ys ih=>
         intro xs cs h;obtain⟨a,b,x⟩:=y;simp only[fillA]at h;split at h
         ·split at h
          ·rw[ih _ _ h,putCells_len]
          ·cases h
         ·cases h
      have:=k2.1;rw[e1 _ _ _ hcs,h0.1]at this;simp[madeCells]at this;omega
     have run:(execOp ρ o).run P w= .ok (.value (.slice (some ⟨w.heap.size,0,none⟩) n n)) (w.alloc (.cells us' e)):=by
      have hgt:¬ (16777216<n*P.cellsOf e):=by omega
      have hk1:Instr.fill (fun i=>some (i*P.cellsOf e,P.cellsOf e)) (madeCells v.cells (n*P.cellsOf e)) (ps.map fun p=>(p.1,ρ p.2)).toList=some us':=by rw[Array.toList_map];exact k1
      by_cases hz0:n*P.cellsOf e=0
      ·have hm:madeCells v.cells (n*P.cellsOf e)= #[]:=by rw[hz0];simp[madeCells]
       rw[hm]at hk1;simp[execOp,hop,Instr.buildSlice,run_underlying ht,run_sizeOf he,hz0];simp at hk1;have h00:Array.range 0= #[]:=rfl
       simp[h00,hk1,newRow]
      ·have hm:(Array.range (n*P.cellsOf e)).map (fun i=>v.cells[i % v.cells.size]!)=madeCells v.cells (n*P.cellsOf e):=rfl;simp[execOp,hop,Instr.buildSlice,run_underlying ht,run_sizeOf he,hgt,hz0,zeroValue,typeInfo,he,hv];simp at hk1 hm;simp[hm,hk1,newRow]
     have hk:=newG_keeps (g:=g) (w:=w) (w':=w.alloc (.cells us' e)) (x:=.cells us' e) σ.ls.length n h.I.lt rfl;refine⟨_,_,newG g w σ.ls.length n,run,hk,⟨rfl,rfl,rfl⟩,?_⟩;simp only[RepT,RepA,RepL];refine⟨w.heap.size,n,us',e,by simp,newG_hd _ _,newG_ow _ _,heap_new w _,hus,by simp,by simp only[maxLen];omega,fun i e0 he0=>?_⟩;obtain⟨hin,rfl⟩:=rows_get he0
     have hcl:cs.length=n*P.cellsOf e:=by rw[k2.1];simpa using hus
     have hfit:i*P.cellsOf e+P.cellsOf e<=n*P.cellsOf e:=by
      rw[<-Nat.succ_mul];exact Nat.mul_le_mul_right _ hin
     refine⟨by simp;omega,fun c' x hx=>?_⟩;rw[List.getElem?_take]at hx;split at hx
     ·rename_i hcz;rw[List.getElem?_drop]at hx;have hlt:i*P.cellsOf e+c'<us'.toList.length:=by simp;omega
      have hu:=Gg hlt;have:=(k2.2 _ x _ hx hu).1 ⟨.loc 0,[]⟩
      refine⟨us'.toList[i*P.cellsOf e+c'],by rw[<-hu];simp,?_⟩;exact RepE.keeps (Nat.le_refl _) hk (elem_repE (List.all_eq_true.1 hel x (Mg hx)) this)
     ·cases hx
    ·cases hy
   ·cases hy
  ·cases hy
 ·cases hy
theorem op_mk(h:Cx P c o ρ tv tl g σ w){t e:TypeId}{l k:Operand}(hop:o.op= .makeSlice t l k)(ht:P.underlying t=some (.slice e)){ie:TypeInfo}(he:P.info? e=some ie)
  {zs:List A} (hz:zeroA P e=some zs) (hzl:zs.length=P.cellsOf e) {dl dk:Opd} (hl:c.opd l=some dl) (hk:c.opd k=some dk)
  {y:A} (hy:pop σ (.mk (P.cellsOf e) zs (P.bytesOf e) dl dk)=some y):PRes P o ρ g σ w y:=by
 simp only[pop]at hy;split at hy
 ·rename_i n m hrl hrk;have el:=repT_v (rd_ok h.L h.I hl hrl ⟨.loc 0,[]⟩).1
  have ek:=repT_v (rd_ok h.L h.I hk hrk ⟨.loc 0,[]⟩).1;split at hy
  ·rename_i hnm;subst hnm;split at hy
   ·rename_i kk hkk;obtain⟨h0,h1,rfl⟩:=upTo_some hkk;split at hy
    ·rename_i hby;simp only[Oe]at hy;subst hy;obtain⟨i,v,hi,hv,hc⟩:=zeroA_ok (w:=w) hz g σ.view;rw[he]at hi;simp only[Oe]at hi;subst hi;have hvs:v.cells.size=P.cellsOf e:=by rw[<-hzl,hc.1];simp
     have hsz:ie.size=P.cellsOf e:=by simp[Program.cellsOf,he]
     have hbb:ie.bytes=P.bytesOf e:=by simp[Program.bytesOf,he]
     have hbytes:(ie.bytes:Int)*n<=281474976710656:=by
      rw[hbb];have hb:((bound:Nat):Int)=4294967296:=rfl
      rw[hb]at h1
      calc (P.bytesOf e:Int)*n<=4096*n:=Int.mul_le_mul_of_nonneg_right (by omega) h0
       _<=281474976710656:=by omega
     have hb:((bound:Nat):Int)=4294967296:=rfl;have run:=run_make (P:=P) w t e ie v ht he hv .i64 .i64 n n h0 (Int.le_refl _) hbytes (by omega)
     rw[hsz,<-hvs]at run;have hfl:=madeCells_flat v.cells n.toNat
     have hk:=newG_keeps (g:=g) (w:=w) (w':=w.alloc (.cells (madeCells v.cells (n.toNat*v.cells.size)) e)) (x:=.cells (madeCells v.cells (n.toNat*v.cells.size)) e) σ.ls.length n.toNat h.I.lt rfl;refine⟨_,_,newG g w σ.ls.length n.toNat,by simp[execOp,hop,el,ek,run];rfl,hk,⟨rfl,rfl,rfl⟩,?_⟩;simp only[RepT,RepA,RepL,RepC];have hrl:(List.replicate n.toNat zs).length=n.toNat:=by simp
     have:(Value.slice (some ⟨w.heap.size,0,none⟩) n.toNat n.toNat)= .slice (some ⟨((newG g w σ.ls.length n.toNat).hd ⟨.loc σ.ls.length,[]⟩).1,0,none⟩) (List.replicate n.toNat zs).length ((newG g w σ.ls.length n.toNat).hd ⟨.loc σ.ls.length,[]⟩).2:=by rw[newG_hd,hrl]
     rw[this];refine RepO.of_rowOK ⟨w.heap.size,n.toNat,_,e,newG_hd _ _,newG_ow _ _,heap_new w _,by rw[<-hvs];simp[madeCells],by simp,by simp only[maxLen];omega,fun i e0 he0=>?_⟩;rw[List.getElem?_replicate]at he0;split at he0
     ·rename_i hin;simp only[Oe]at he0;subst he0;refine⟨hzl,fun c' x hx=>?_⟩;have hcz:c'<zs.length:=(Ge hx).1
      have hcv:c'<v.cells.toList.length:=by rw[<-hc.1];exact hcz
      have hu:=Gg hcv;have hcell:=replicate_flat_get v.cells.toList n.toNat i c' hin hcv
      rw[<-hfl,hu]at hcell;refine⟨_,by rw[<-hzl,hc.1];simpa using hcell,?_⟩;have r:=(hc.2 c' x _ hx hu).1 ⟨.loc 0,[]⟩
      have hvx:=List.all_eq_true.1 (zeroA_v hz) x (Mg hx);cases x<;>simp[A.isV]at hvx;have e9:=repT_v (repT_ofL r)
      have o9:=r.one;simp only[Array.getElem_toList]at e9 o9;show RepO _ _ _ _ _
      rw[e9]at o9 ⊢
      exact .imm _ _ _ (.v _ o9) rfl
     ·cases he0
    ·cases hy
   ·cases hy
  ·cases hy
 ·cases hy
end
end Go.Ab
end
section
namespace Go.Ab
open Go.RowKit
variable {w:World} {tv tl:Nat->Value}
section
variable {P:Program} {c:TC} {o:Oper} {ρ:Operand->Value} {g:G} {σ:St}
def plainT:TypeDesc->Bool
 | .struct _=>false| .array _ _=>false
 |_=>true
theorem run_part1{t:TypeId}{d:TypeDesc}(ht:P.underlying t=some d)(hd:plainT d=true){xs:Array Value}{off:Nat}{v:Value}(hx:xs[off]?=some v)(w:World):(part t xs off).run P w= .ok v w:=by
 have:isAggT P t=false:=by cases d<;>simp_all [isAggT,plainT]
 simp[part,run_isAgg (show(P.underlying t).isSome=true by rw[ht];rfl),this,hx]
theorem eqF_ok:∀ (fs:List Field) (l:List (Nat×Nat)) (xs ys:List A) (us vs:List Value) (r:Bool),fs.mapM (ek1 P)=some l->eqF xs ys l=some r->
  (∀(i:Nat) x u,xs[i]?=some x->us[i]?=some u-> ∀z,x= .v z->u=z)->xs.length=us.length->
  (∀(i:Nat) x u,ys[i]?=some x->vs[i]?=some u-> ∀z,x= .v z->u=z)->ys.length=vs.length->
  (Op.eqFields 9999 us.toArray vs.toArray fs).run P w= .ok r w
 | [],l,xs,ys,us,vs,r,h1,h2,_,_,_,_=>by
   simp only[List.mapM_nil]at h1;cases h1;simp only[eqF,Oe]at h2;subst h2;rfl
 | f::fs,l,xs,ys,us,vs,r,h1,h2,h3,h3',h4,h4'=>by
   simp only[List.mapM_cons]at h1;cases e1:ek1 P f with
   |none=>rw[e1]at h1;cases h1
   | some d=>
     rw[e1]at h1;cases e2:fs.mapM (ek1 P)with
     |none=>simp only[e2]at h1;cases h1
     | some l'=>
       simp only[e2]at h1;cases h1;simp only[eqF]at h2;split at h2
       ·rename_i x y hx hy;split at h2
        ·rename_i b hb;split at h2
         ·rename_i c' hc;simp only[Oe]at h2;subst h2;have ih:=eqF_ok fs l' xs ys us vs c' e2 hc h3 h3' h4 h4'
          have hux:=Gg (l:=us) (i:=d.1) (by rw[<-h3'];exact(Ge hx).1);have huy:=Gg (l:=vs) (i:=d.1) (by rw[<-h4'];exact(Ge hy).1)
          have kx:=h3 _ x _ hx hux;have ky:=h4 _ y _ hy huy
          generalize us[d.1]'(by rw[<-h3'];exact(Ge hx).1)=u1 at hux kx;generalize vs[d.1]'(by rw[<-h4'];exact(Ge hy).1)=u2 at huy ky;have hux':us.toArray[d.1]?=some u1:=by simpa using hux
          have huy':vs.toArray[d.1]?=some u2:=by simpa using huy
          have key : ∀ td, P.underlying f.type = some td -> plainT td = true -> f.name ≠ "_" -> f.offset = d.1 ->
            (Op.equalIn 9999 f.type u1 u2).run P w= .ok b w->(Op.eqFields 9999 us.toArray vs.toArray (f::fs)).run P w= .ok (b&&c') w:=by
           intro td ht htd hn ho he;rw[<-ho]at hux' huy';simp only[Op.eqFields];rw[if_pos hn];simp only[Sem.run_bind,run_part1 ht htd hux',run_part1 ht htd huy',Result.andThen_ok,he];cases b<;>simp[ih]
          unfold ek1 at e1;split at e1
          ·cases e1
          ·rename_i hn;split at e1<;>simp only[Oe,reduceCtorEq]at e1
           all_goals
            rename_i ht;subst e1;unfold eq1 at hb;split at hb<;>first|(cases hb;done)|(rename_i h0 _ _;cases h0;done)|skip
            all_goals try(rename_i h0;cases h0;done)
            have k1:=kx _ rfl;have k2:=ky _ rfl
            subst k1 k2
           ·split at hb
            ·rename_i hk;subst hk;simp only[Oe]at hb;subst hb;exact key _ ht rfl hn rfl (run_equalIn_int w 9998 _ _ _ _ _ ht)
            ·cases hb
           ·simp only[Oe]at hb;subst hb;exact key _ ht rfl hn rfl (run_equalIn_string w 9998 _ _ _ ht)
           ·simp only[Oe]at hb;subst hb;exact key _ ht rfl hn rfl (run_equalIn_bool w 9998 _ _ _ ht)
         ·cases h2
        ·cases h2
       ·cases h2
theorem ekT_some{t:TypeId}{k:EK}(h:ekT P t=some k):(k= .bool/\P.underlying t=some .bool)\/(k= .ptr/\ ∃e,P.underlying t=some (.pointer e))\/(k= .slice/\ ∃e,P.underlying t=some (.slice e))\/
  (∃fs l,k= .struct l/\P.underlying t=some (.struct fs)/\P.stoodInHeld t=false/\P.eqGuardType P.depth t=false/\fs.toList.mapM (ek1 P)=some l):=by
 unfold ekT at h;split at h
 ·cases h;exact .inl ⟨rfl,by assumption⟩
 ·cases h;exact .inr (.inl ⟨rfl,_,by assumption⟩)
 ·cases h;exact .inr (.inr (.inl ⟨rfl,_,by assumption⟩))
 ·rename_i fs ht;split at h
  ·cases h
  ·rename_i hs;split at h
   ·rename_i l hl;cases h;simp only[Bool.or_eq_true,not_or,Bool.not_eq_true]at hs;exact .inr (.inr (.inr ⟨fs,l,rfl,ht,hs.1,hs.2,hl⟩))
   ·cases h
 ·cases h
theorem nilA_ok(hi:Inv g σ w tv tl){a:A}{b:Bool}(h:nilA σ a=some b){p:Pl}{u:Value}(r:RepT g w σ.view p a u):∃ oa l cap,u= .slice oa l cap/\oa.isNone=b:=by
 unfold nilA at h;split at h
 ·simp only[Oe]at h;subst h;exact⟨none,0,0,repT_v r,rfl⟩
 ·split at h
  ·rename_i ze hrow;simp only[Oe]at h;subst h;obtain⟨z,es⟩:=ze;exact⟨_,_,_,repS_row (repT_sref r) hrow,rfl⟩
  ·cases h
 ·simp only[Oe]at h;subst h;rcases imm_row (repT_imm r)with⟨rfl,_,e⟩|⟨rfl,_,oa,cap,e⟩|⟨rfl,b,off,cap,f,e,_⟩
  ·exact⟨_,_,_,e,rfl⟩
  ·exact⟨_,_,_,e,rfl⟩
  ·exact⟨_,_,_,e,rfl⟩
 ·cases h
theorem agg_vals{cs:List A}{u:Value}{V:Vw}{p:Pl}(r:RepT g w V p (.agg cs) u):∃ us:List Value,u= .agg us.toArray/\cs.length=us.length/\ ∀(i:Nat) x v,cs[i]?=some x->us[i]?=some v-> ∀z,x= .v z->v=z:=by
 obtain⟨us,e,h1,h2⟩:=repT_agg r;refine⟨us,e,h1,fun i x v hx hv z hz=>?_⟩;subst hz;exact repT_v (repT_ofL (h2 i _ v hx hv))
theorem op_eq(h:Cx P c o ρ tv tl g σ w){neg:Bool}{t t':TypeId}{x y:Operand}(hop:o.op= .binOp (if neg then .neq else .eql) t x y t'){k:EK}(hk:ekT P t=some k){dx dy:Opd}(hx:c.opd x=some dx)(hy:c.opd y=some dy){r:A}(hr:pop σ (.eq neg k dx dy)=some r):PRes P o ρ g σ w r:=by
 have main:∀ b:Bool,r= .v (.bool (if neg then !b else b))->(∀op,(eqGuard op t x y (ρ x) (ρ y)).run P w= .ok () w)->
   ((binOp .eql t (ρ x) (ρ y)).run P w= .ok (.bool b) w)->((binOp .neq t (ρ x) (ρ y)).run P w= .ok (.bool !b) w)->PRes P o ρ g σ w r:=by
  intro b hr hg h1 h2;subst hr;refine PRes.same (v:=.bool (if neg then !b else b)) ?_ (RepT.v rfl);cases neg<;>simp at hop ⊢ <;>simp[execOp,hop,hg,h1,h2]
 simp only[pop]at hr;split at hr
 ·rename_i a b ha hb;have ra:=(rd_ok h.L h.I hx ha ⟨.loc 0,[]⟩).1
  have rb:=(rd_ok h.L h.I hy hb ⟨.loc 0,[]⟩).1;split at hr
  ·rename_i res hres;simp only[Oe]at hr;rcases ekT_some hk with⟨rfl,ht⟩|⟨rfl,e,ht⟩|⟨rfl,e,ht⟩|⟨fs,l,rfl,ht,hs1,hs2,hl⟩
   ·simp only[eqA]at hres;unfold eqB at hres;split at hres
    ·simp only[Oe]at hres;subst hres;have e1:=repT_v ra
     have e2:=repT_v rb;exact main _ hr.symm (by intro op;rw[e1,e2];cases op<;>rfl) (by rw[e1,e2];exact run_eql_bool w t _ _ ht) (by rw[e1,e2];exact run_neq_bool w t _ _ ht)
    ·cases hres
   ·have htp:P.underlying t=some (.pointer (P.pointee t)):=by simp[Program.pointee,ht]
    have fin:∀ p:Option Addr,ρ x= .pointer p->ρ y= .pointer none->res=p.isNone->PRes P o ρ g σ w r:=by
     intro p e1 e2 e3;subst e3;exact main _ hr.symm (by intro op;rw[e1,e2];cases op<;>rfl) (by rw[e1,e2];exact run_eql_pointer_nil w t p htp) (by rw[e1,e2];exact run_neq_pointer_nil w t p htp)
    simp only[eqA]at hres;unfold eqP at hres;split at hres<;>simp only[Oe,reduceCtorEq]at hres
    ·exact fin none (repT_v ra) (repT_v rb) hres.symm
    ·exact fin _ (repT_pt ra).2 (repT_v rb) hres.symm
   ·have fin:ρ y= .slice none 0 0->nilA σ a=some res->PRes P o ρ g σ w r:=by
     intro e2 hn;obtain⟨oa,l,cap,e1,e3⟩:=nilA_ok h.I hn ra;subst e3;have hq:=run_equal_slice_nil (P:=P) w t e oa l cap ht
     exact main _ hr.symm (by intro op;rw[e1,e2];cases op<;>rfl) (by rw[e1,e2];simp only[binOp];simp[hq]) (by rw[e1,e2];exact run_neq_slice_nil w t e oa l cap ht)
    simp only[eqA]at hres;unfold eqL at hres;split at hres
    ·exact fin (repT_v rb) hres
    ·cases hres
   ·simp only[eqA]at hres;unfold eqS at hres;split at hres
    ·obtain⟨us,e1,l1,v1⟩:=agg_vals ra;obtain⟨vs,e2,l2,v2⟩:=agg_vals rb;have hf:P.fieldsOf t=fs:=by simp[Program.fieldsOf,ht]
     have hq:=eqF_ok (P:=P) (w:=w) fs.toList l _ _ us vs res hl hres v1 l1 v2 l2;have hst:=run_equalIn_struct (P:=P) w 9999 t us.toArray vs.toArray (by rw[hf];exact ht) hs1
     rw[hf,hq]at hst;exact main _ hr.symm (by intro op;rw[e1,e2];exact run_eqGuard_agg w op t x y _ _ hs2) (by rw[e1,e2,run_eql_struct,hst];rfl) (by rw[e1,e2,run_neq_struct,hst];rfl)
    ·cases hres
  ·cases hr
 ·cases hr
end
end Go.Ab
end
section
namespace Go.Ab
open Go.RowKit
variable {w:World} {tv tl:Nat->Value}
def hc(c:Nat):Pl:=⟨.hand 0,[(0,c)]⟩
def hand0:Pl:=⟨.hand 0,[]⟩
theorem hand0_at(c:Nat):hand0.at 0 c=hc c:=rfl
theorem not_noHand0:¬ noHand hand0:=fun h=>h 0 rfl
theorem not_noHandc(c:Nat):¬ noHand (hc c):=fun h=>h 0 rfl
open Classical in
noncomputable def G.rl(g:G)(n:Nat)(tgt:Nat->Pl):G where
 ow b:=match g.ow b with
  |some (.row p)=>if h:∃ c s,c<n/\p=(hc c).plus s then some (.row ((tgt h.choose).plus (p.s.drop 1)))else some (.row p)
  |x=>x
 hd p:=if h:∃ c,c<n/\(tgt c).under p then g.hd ((hc h.choose).plus (p.s.drop (tgt h.choose).s.length))else g.hd p
 blk:=g.blk
def Apart(n:Nat)(tgt:Nat->Pl):Prop:=∀ c d p,c<n->d<n->(tgt c).under p->(tgt d).under p->c=d
section
variable {g:G} {n:Nat} {tgt:Nat->Pl}
theorem rl_hd(ha:Apart n tgt){c:Nat}(hc':c<n)(s:List (Nat×Nat)):(g.rl n tgt).hd ((tgt c).plus s)=g.hd ((hc c).plus s):=by
 have h:∃ c',c'<n/\(tgt c').under ((tgt c).plus s):=⟨c,hc',Pl.under_plus _ s⟩;simp only[G.rl];rw[dif_pos h];have e:h.choose=c:=ha _ _ _ h.choose_spec.1 hc' h.choose_spec.2 (Pl.under_plus _ s)
 rw[e];simp[Pl.plus]
theorem rl_hd_other{p:Pl}(h:∀ c,c<n-> ¬(tgt c).under p):(g.rl n tgt).hd p=g.hd p:=by
 simp only[G.rl];rw[dif_neg (fun⟨c,h1,h2⟩=>h c h1 h2)]
theorem rl_ow{b c:Nat}{s:List (Nat×Nat)}(hc':c<n)(h:g.ow b=some (.row ((hc c).plus s))):(g.rl n tgt).ow b=some (.row ((tgt c).plus s)):=by
 have hh:∃ c' s',c'<n/\(hc c).plus s=(hc c').plus s':=⟨c,s,hc',rfl⟩;simp only[G.rl,h];rw[dif_pos hh];obtain⟨s',h1,h2⟩:=hh.choose_spec
 have key:∀ c',(hc c).plus s=(hc c').plus s'->c'=c:=by
  intro c' h2;simp only[Pl.plus,hc,Pl.mk.injEq,true_and,List.cons_append,List.nil_append,List.cons.injEq,Prod.mk.injEq]at h2;exact h2.1.symm
 rw[key _ h2];rfl
theorem rl_ow_other{b:Nat}{p:Pl}(h:g.ow b=some (.row p))(hp:noHand p):(g.rl n tgt).ow b=some (.row p):=by
 simp only[G.rl,h];rw[dif_neg];rintro⟨c,s,_,rfl⟩;exact hp 0 rfl
theorem rl_none{b:Nat}(h:g.ow b=none):(g.rl n tgt).ow b=none:=by simp only[G.rl,h]
theorem rl_bx{b k:Nat}(h:g.ow b=some (.bx k)):(g.rl n tgt).ow b=some (.bx k):=by simp only[G.rl,h]
theorem rl_tmp{b:Nat}{p:Pl}(h:g.ow b=some (.tmp p)):(g.rl n tgt).ow b=some (.tmp p):=by simp only[G.rl,h]
theorem rl_frn{b:Nat}(h:g.ow b=some .frn):(g.rl n tgt).ow b=some .frn:=by simp only[G.rl,h]
theorem rl_some{b:Nat}(h:(g.rl n tgt).ow b≠none):g.ow b≠none:=fun e=>h (rl_none e)
theorem rl_later(g:G)(w:World)(n:Nat)(tgt:Nat->Pl):Later g w (g.rl n tgt) w:=⟨Nat.le_refl _,fun _ _ h=>rl_none h,fun _ _ _=>rfl,fun _ _ h=>⟨rl_frn h,rfl⟩⟩
theorem rl_rep(ha:Apart n tgt){c:Nat}(hc':c<n){r:Pl}{a:A}{v:Value}(h:RepO g w r a v):∀ s,r=(hc c).plus s->RepO (g.rl n tgt) w ((tgt c).plus s) a v:=by
 induction h with
 |imm r a v hi ha=>exact fun s _=> .imm _ a v (hi.later (rl_later g w n tgt)) ha
 | own r z es b cap cur t u h1 h2 h3 h4 h5 h6 h7 h8 _ ih=>
   intro s hs;subst hs;refine .own _ z es b cap cur t u ((rl_hd ha hc' s).trans h1) (rl_ow hc' h2) h3 h4 h5 h6 h7 h8 ?_;intro i e c x he hx;rw[Pl.plus_at];exact ih i e c x he hx (s++[(i,c)]) (Pl.plus_at _ s i c)
theorem rl_repC(ha:Apart n tgt){c:Nat}(hc':c<n){nb:Nat}{x:A}{u:Value}(r:RepC g w nb (hc c) x u):RepC (g.rl n tgt) w nb (tgt c) x u:=by
 cases x<;>simp only[RepC]at r ⊢ <;>first
  | (have:=rl_rep ha hc' r [] (Pl.plus_nil _).symm
     rwa [Pl.plus_nil]at this)
  |exact r
  |skip
 obtain⟨us,vs,h1,h2,h3,h4,h5⟩:=r;exact⟨us,vs,h1,h2,h3,fun c x u hx hu=>(h4 c x u hx hu).later (rl_later g w n tgt) rfl (Nat.le_refl _),fun c x u hx hu=>(h5 c x u hx hu).later (rl_later g w n tgt) rfl (Nat.le_refl _)⟩
end
theorem repL_notLoose{g:G}{V:Vw}{p:Pl}{x:A}{u:Value}(r:RepL g w V p x u)(h:x.loose=false):RepC g w V.nb p x u:=by
 cases x<;>simp[A.loose]at h<;>simpa only[RepL]using r
theorem hand_cells{g:G}{σ σ':St}{y y':A}{v:Value}(hi:Inv g σ w tv tl)(hm:mat σ y=some (y',σ'))(hl:lightT y=true)(hr:∀ q,RepT g w σ.view q y v)(hlo:(cellsOf y').any A.loose=false):
  ∃g',MS w tv tl True (hand0.under ·) g σ g' σ'/\(cellsOf y').length=v.cells.toList.length/\ ∀(c:Nat) x u,(cellsOf y')[c]?=some x->v.cells.toList[c]?=some u->RepC g' w σ'.bx.length (hc c) x u:=by
 have hloose:∀ x,x∈cellsOf y'->x.loose=false:=by
  intro x hx;have:=List.any_eq_false.1 hlo x hx
  simpa using this
 by_cases ha:∃ cs,y'= .agg cs
 ·obtain⟨cs,rfl⟩:=ha;obtain⟨g',m,h1,h2⟩:=whole_mat g σ y _ σ' hand0 hand0 v hi hm hl (hr _) not_noHand0;obtain⟨us,rfl,h3,h4⟩:=repT_agg h1;refine⟨g',m,by simpa[cellsOf,Value.cells]using h3,fun c x u hx hu=>?_⟩;have:=h4 c x u hx (by simpa[Value.cells]using hu)
  rw[hand0_at]at this;exact repL_notLoose this (hloose x (Mg hx))
 ·have hn:∀ cs,y'≠ .agg cs:=fun cs e=>ha ⟨cs,e⟩;have hc1:cellsOf y'=[y']:=by cases y'<;>first|rfl|exact absurd rfl (hn _)
  obtain⟨g',m,h1,h2⟩:=whole_mat g σ y _ σ' hand0 (hc 0) v hi hm hl (hr _) (not_noHandc 0);have hly:=hloose y' (by rw[hc1];simp)
  have hL:RepL g' w σ'.view (hc 0) y' v:=by
   cases y'<;>first
    |simpa only[RepT,RepA]using h1
    |exact absurd rfl (hn _)
    |(simp[A.loose]at hly;done)
  have hv:v.cells= #[v]:=by
   have:=hL.one;cases v<;>first|rfl|(simp[Value.oneCell']at this)
  rw[hc1,hv];refine⟨g',m.mono fun r hr=>Pl.under_of_at (q:=hand0) (i:=0) (c:=0) hr,rfl,fun c x u hx hu=>?_⟩;cases c with
  |zero=>simp at hx hu;subst hx hu;exact repL_notLoose hL hly
  |succ c=>simp at hx
theorem RepT.step'{T:Prop}{D:Pl->Prop}{g g':G}{σ σ':St}(h:MS w tv tl T D g σ g' σ'){p p':Pl}{q:Pl}{i c:Nat}{v:Value}(r:RepT g w σ.view p (.pref q i c) v)(_:p=p):RepT g' w σ'.view p' (.pref q i c) v:=by
 simp only[RepT,RepA]at r ⊢
 exact r.step h rfl
def G.boxed(g:G)(b k:Nat):G where
 ow i:=if i=k then some (.bx b)else g.ow i
 hd:=g.hd
 blk i:=if i=b then k else g.blk i
theorem RepK.boxed{g:G}{w':World}{b k nb nb':Nat}(hl:Later g w (g.boxed b k) w')(hb:nb<=b)(hn:nb<=nb'){x:A}{u:Value}(r:RepK g w nb x u):RepK (g.boxed b k) w' nb' x u:=by
 cases x<;>simp only[RepK]at r ⊢ <;>first
  |exact r.later hl
  | (refine ⟨by omega,?_⟩
     simp only[G.boxed]
     rw[if_neg (by omega)]
     exact r.2)
theorem RepC.boxed{g:G}{w':World}{b k nb nb':Nat}{p:Pl}(hs:Stays p g w (g.boxed b k) w')(hb:nb<=b)(hn:nb<=nb'){x:A}{u:Value}(r:RepC g w nb p x u):RepC (g.boxed b k) w' nb' p x u:=by
 cases x<;>simp only[RepC]at r ⊢ <;>first
  |exact RepO.stays r hs
  | (refine ⟨by omega,?_⟩
     simp only[G.boxed]
     rw[if_neg (by omega)]
     exact r.2)
  |skip
 obtain⟨us,vs,h1,h2,h3,h4,h5⟩:=r;exact⟨us,vs,h1,h2,h3,fun c x u hx hu=>(h4 c x u hx hu).boxed hs.toLater hb hn,fun c x u hx hu=>(h5 c x u hx hu).boxed hs.toLater hb hn⟩
theorem push_old{w w':World}{x:Obj}(hw:w'.heap=w.heap.push x){b:Nat}(hb:b<w.heap.size):w'.heap[b]?=w.heap[b]?:=by
 rw[hw,Array.getElem?_push,if_neg (by omega)]
theorem boxed_later{g:G}{b:Nat}{w':World}{x:Obj}(hw:w'.heap=w.heap.push x):Later g w (g.boxed b w.heap.size) w':=
 ⟨by rw[hw];simp,fun i hi h=>by simp only[G.boxed];rw[if_neg (by omega)];exact h,fun i hi _=>push_old hw hi,fun i hi h=>⟨by simp only[G.boxed];rw[if_neg (by omega)];exact h,push_old hw hi⟩⟩
theorem boxed_stays{g:G}{b:Nat}{w':World}{x:Obj}(hw:w'.heap=w.heap.push x)(hlt:∀ b,g.ow b≠none->b<w.heap.size)(p:Pl):Stays p g w (g.boxed b w.heap.size) w':=
 have lt:∀ {i o},g.ow i=some o->i<w.heap.size:=fun{i o} h=>hlt i (by rw[h];simp)
 { boxed_later hw with
   hd:=fun _ _=>rfl
   ow:=fun r i _ h=>by simp only[G.boxed];rw[if_neg (by have:=lt h;omega)];exact h
   row:=fun r i _ h=>push_old hw (lt h)}
theorem root_bx_push{σ:St}{x:Bx}{r:Rt}(h:∀ c,r≠ .box σ.bx.length c):({σ with bx:=σ.bx++[x]}:St).root r=σ.root r:=by
 cases r with
 | box b c=>
   simp only[St.root]
   by_cases hb:b<σ.bx.length
   ·rw[List.getElem?_append_left hb]
   ·have:b≠σ.bx.length:=fun e=>h c (by rw[e]);rw[List.getElem?_append_right (by omega),List.getElem?_eq_none (by simp;omega),List.getElem?_eq_none (by omega)]
 |_=>rfl
theorem Inv.newBox{g:G}{σ:St}(h:Inv g σ w tv tl){w':World}{o:Obj}(hw:w'.heap=w.heap.push o){x:Bx}(hx:BoxOK (g.boxed σ.bx.length w.heap.size) w' (σ.bx.length+1) σ.bx.length x):
  Inv (g.boxed σ.bx.length w.heap.size) {σ with bx:=σ.bx++[x]} w' tv tl:=by
 have lt:∀ {i o},g.ow i=some o->i<w.heap.size:=fun{i o} h'=>h.lt i (by rw[h'];simp)
 have tr:∀ (p:Pl) (V V':Vw) (rs as:List Pl),V.R=σ.R->V'.R=({σ with bx:=σ.bx++[x]}:St).R->V'.nl=V.nl->V.nb=σ.bx.length->V'.nb=σ.bx.length+1->Tr p g w V (g.boxed σ.bx.length w.heap.size) w' V' rs as:=by
  intro p V V' rs as e1 e2 e3 e4 e5;refine{boxed_stays hw h.lt p with blk:=?_,nb:=by omega,ok:=?_,ref:=?_,app:=?_}
  ·intro b hb;simp only[G.boxed];rw[if_neg (by omega)]
  ·intro q _ hq;unfold Vw.ok at hq ⊢
   split<;>rename_i e<;>simp only[e]at hq<;>first|omega|trivial
  ·intro q _ hq;refine .inr ⟨?_,rfl⟩;rw[e1,e2];refine R_of_root (root_bx_push fun c e=>?_);unfold Vw.ok at hq;rw[e]at hq;simp only at hq;omega
  ·intro q _ hq;cases hR:V'.R q with
   |none=>exact .inl rfl
   | some zn=>
     have:σ.R q=some zn:=by
      rw[<-hR,e2];refine(R_of_root (root_bx_push fun c e=>?_)).symm;unfold Vw.ok at hq;rw[e]at hq;simp only at hq;omega
     exact .inr ⟨push_old hw (lt (h.owns this)),fun b hb=>⟨by simp only[G.boxed];rw[if_neg (by have:=lt hb;omega)];exact hb,push_old hw (lt hb)⟩⟩
 have hlen:({σ with bx:=σ.bx++[x]}:St).bx.length=σ.bx.length+1:=by simp
 refine⟨fun n y hy=>?_,fun n y hy=>?_,fun b y hy=>?_,fun b hb=>?_⟩
 ·exact(h.vars n y hy).tr (tr _ σ.view0 ({σ with bx:=σ.bx++[x]}:St).view0 _ _ rfl rfl rfl rfl hlen) (fun _ h=>h) (fun _ h=>h)
 ·exact(h.locs n y hy).tr (tr _ σ.view ({σ with bx:=σ.bx++[x]}:St).view _ _ rfl rfl rfl rfl hlen) (fun _ h=>h) (fun _ h=>h)
 ·rw[hlen];simp only at hy
  by_cases hb:b<σ.bx.length
  ·rw[List.getElem?_append_left hb]at hy;have k:=h.boxes b y hy
   have hblk:(g.boxed σ.bx.length w.heap.size).blk b=g.blk b:=by simp only[G.boxed];rw[if_neg (by omega)]
   cases y with
   | cells cs=>
     simp only[BoxOK]at k ⊢
     obtain⟨h1,cur,t,h2,h3,h4⟩:=k;rw[hblk];refine⟨by simp only[G.boxed];rw[if_neg (by have:=lt h1;omega)];exact h1,cur,t,(push_old hw (lt h1)).trans h2,h3,fun c x hx=>?_⟩;obtain⟨u,hu,hc⟩:=h4 c x hx;exact⟨u,hu,hc.boxed (boxed_stays hw h.lt _) (Nat.le_refl _) (Nat.le_succ _)⟩
   | map es=>
     simp only[BoxOK]at k ⊢
     obtain⟨h1,ents,clk,h2,h3,h4⟩:=k;rw[hblk];exact⟨by simp only[G.boxed];rw[if_neg (by have:=lt h1;omega)];exact h1,ents,clk,(push_old hw (lt h1)).trans h2,h3,fun i k' x hx=>let ⟨e,he,hk,hv⟩:=h4 i k' x hx;⟨e,he,hk,hv.later (boxed_later hw)⟩⟩
   |gone=>trivial
  ·have:b=σ.bx.length:=by
    have:=(Ge hy).1;simp at this;omega
   subst this;rw[List.getElem?_append_right (Nat.le_refl _)]at hy;simp only[Nat.sub_self,List.getElem?_cons_zero,Oe]at hy;subst hy;exact hx
 ·rw[hw,Array.size_push];simp only[G.boxed]at hb
  by_cases e:b=w.heap.size
  ·omega
  ·rw[if_neg e]at hb;have:=h.lt b hb
   omega
end Go.Ab
end
section
namespace Go.Ab
open Go.RowKit
variable {w:World} {tv tl:Nat->Value}
def boxT(b c0:Nat)(j:Nat):Pl:=⟨.box b (c0+j),[]⟩
theorem boxT_apart(n b c0:Nat):Apart n (boxT b c0):=by
 intro c d p _ _ h1 h2;have:=under_root h1 h2
 simp only[boxT,Rt.box.injEq,true_and]at this;omega
def Turn1(w w':World)(k:Nat):Prop:=w'.heap.size=w.heap.size/\ ∀i,i≠k->w'.heap[i]?=w.heap[i]?
theorem Turn1.refl(w:World)(k:Nat):Turn1 w w k:=⟨rfl,fun _ _=>rfl⟩
theorem Inv.storeBox{g:G}{σ:St}(h:Inv g σ w tv tl){w':World}{b c0 n:Nat}{cs ys:List A}(hb:σ.bx[b]?=some (.cells cs))(hn:ys.length=n)(hfit:c0+n<=cs.length)
  (hw:Turn1 w w' (g.blk b)) {cur cur':Array Value} {t:TypeId} (hcur:w.heap[g.blk b]?=some (.cells cur t (0,0))) (hcur':w'.heap[g.blk b]?=some (.cells cur' t (0,0))) (hsz:cur'.size=cur.size)
  (hout:∀ i,¬(c0<=i/\i<c0+n)->cur'[i]?=cur[i]?)
  (hys:∀ (j:Nat) y,ys[j]?=some y-> ∃u,cur'[c0+j]?=some u/\RepC g w σ.bx.length (hc j) y u)
  (hrs:∀ r,RefIn σ r-> ∀j,j<n->r.r≠ .box b (c0+j)):
  Inv (g.rl n (boxT b c0)) {σ with bx:=σ.bx.set b (.cells (putCells cs c0 ys))} w' tv tl:=by
 have hblt:b<σ.bx.length:=(Ge hb).1;have hbox:=h.boxes b _ hb
 simp only[BoxOK]at hbox;obtain⟨b1,cur0,t0,b2,b3,b4⟩:=hbox;rw[hcur]at b2;simp only[Oe,Obj.cells.injEq,and_true]at b2;obtain⟨rfl,rfl⟩:=b2
 have other:∀ {i o},g.ow i=some o->o≠ .bx b->w'.heap[i]?=w.heap[i]?:=by
  intro i o ho hne;refine hw.2 i (fun e=>hne ?_);rw[e,b1]at ho;injection ho with ho
  exact ho.symm
 have later:Later g w (g.rl n (boxT b c0)) w':=⟨by rw[hw.1];exact Nat.le_refl _,fun i _ hi=>rl_none hi,fun i _ hi=>hw.2 i (fun e=>by rw[e,b1]at hi;cases hi),fun i _ hi=>⟨rl_frn hi,hw.2 i (fun e=>by rw[e,b1]at hi;cases hi)⟩⟩
 have later':Later (g.rl n (boxT b c0)) w (g.rl n (boxT b c0)) w':=⟨by rw[hw.1];exact Nat.le_refl _,fun i _ hi=>hi,fun i _ hi=>hw.2 i (fun e=>by rw[e,rl_bx b1]at hi;cases hi),fun i _ hi=>⟨hi,hw.2 i (fun e=>by rw[e,rl_bx b1]at hi;cases hi)⟩⟩;have noT:∀ {r:Pl},(∀j,j<n->r.r≠ .box b (c0+j))-> ∀j,j<n-> ¬(boxT b c0 j).under r:=fun hr j hj hu=>hr j hj hu.1.symm
 have stays:∀ p:Pl,noHand p->(∀j,j<n->p.r≠ .box b (c0+j))->Stays p g w (g.rl n (boxT b c0)) w':=by
  intro p hp hr;refine{later with hd:=fun r hu=>rl_hd_other (noT fun j hj=>by rw[<-hu.1];exact hr j hj),ow:=fun r i hu ho=>rl_ow_other ho (fun k e=>hp k (by rw[hu.1];exact e)),row:=fun r i _ ho=>other ho (by simp)}
 have hroot:∀ {r:Rt},(∀j,j<n->r≠ .box b (c0+j))->({σ with bx:=σ.bx.set b (.cells (putCells cs c0 ys))}:St).root r=σ.root r:=by
  intro r hr;cases r with
  | box b' c=>
    simp only[St.root]
    by_cases e:b'=b
    ·subst e;rw[List.getElem?_set_self hblt,hb];simp only
     rw[putCells_get _ _ _ _ (by rw[hn];exact hfit)];rw[if_neg];rintro⟨h1,h2⟩;exact hr (c-c0) (by omega) (by rw[show c0+(c-c0)=c by omega])
    ·rw[List.getElem?_set_ne (fun e'=>e e'.symm)]
  |_=>rfl
 have hlen:({σ with bx:=σ.bx.set b (.cells (putCells cs c0 ys))}:St).bx.length=σ.bx.length:=by simp
 have tr:∀ (p:Pl) (V V':Vw) (a:A),(∀q,q∈refsT a->RefIn σ q)->noHand p->(∀j,j<n->p.r≠ .box b (c0+j))->V.R=σ.R->V'.R=({σ with bx:=σ.bx.set b (.cells (putCells cs c0 ys))}:St).R->V'.nl=V.nl->V'.nb=V.nb->
   Tr p g w V (g.rl n (boxT b c0)) w' V' (refsT a) (appsT a):=by
  intro p V V' a hin hp hr e1 e2 e3 e4;refine{stays p hp hr with blk:=fun _ _=>rfl,nb:=by omega,ok:=?_,ref:=?_,app:=?_}
  ·intro q _ hq;unfold Vw.ok at hq ⊢
   split<;>rename_i e<;>simp only[e]at hq<;>first|omega|trivial
  ·intro q hq _;refine .inr ⟨?_,rl_hd_other (noT (hrs q (hin q hq)))⟩;rw[e1,e2];exact R_of_root (hroot (hrs q (hin q hq)))
  ·intro q hq _;cases hR:V'.R q with
   |none=>exact .inl rfl
   | some zn=>
     by_cases hqt:∃ j,j<n/\q.r= .box b (c0+j)
     ·-- nothing that an append has made hangs on the box
      obtain⟨j,hj,e⟩:=hqt
      have:q∈refsT a:=by
       have appsub:∀ x:A,∀q,q∈appsL x->q∈refsL x:=by
        intro x q hq;cases x<;>simp[appsL]at hq;simp[refsL,hq]
       have appsubA:∀ x:A,∀q,q∈appsA x->q∈refsA x:=by
        intro x q hq;cases x
        case agg cs=>
         simp only[appsA,refsA,List.mem_flatMap]at hq ⊢
         obtain⟨y,hy,hq⟩:=hq;exact⟨y,hy,appsub y q hq⟩
        all_goals exact appsub _ q (by simpa only[appsA]using hq)
       cases a
       case tup vs=>
        simp only[appsT,refsT,List.mem_flatMap]at hq ⊢
        obtain⟨y,hy,hq⟩:=hq;exact⟨y,hy,appsubA y q hq⟩
       all_goals exact appsubA _ q (by simpa only[appsT]using hq)
      exact absurd e (hrs q (hin q this) j hj)
     ·have hq':∀ j,j<n->q.r≠ .box b (c0+j):=fun j hj e=>hqt ⟨j,hj,e⟩;have:σ.R q=some zn:=by rw[<-hR,e2];exact(R_of_root (hroot hq')).symm
      exact .inr ⟨other (h.owns this) (by simp),fun i hi=>⟨rl_tmp hi,other hi (by simp)⟩⟩
 refine⟨fun m y hy=>?_,fun m y hy=>?_,fun b' y hy=>?_,fun i hi=>?_⟩
 ·exact(h.vars m y hy).tr (tr _ σ.view0 ({σ with bx:=σ.bx.set b (.cells (putCells cs c0 ys))}:St).view0 y (fun q hq=> .inl ⟨m,y,hy,hq⟩) (fun k e=>by cases e) (fun j _ e=>by cases e) rfl rfl rfl hlen) (fun _ h=>h) (fun _ h=>h)
 ·exact(h.locs m y hy).tr (tr _ σ.view ({σ with bx:=σ.bx.set b (.cells (putCells cs c0 ys))}:St).view y (fun q hq=> .inr ⟨m,y,hy,hq⟩) (fun k e=>by cases e) (fun j _ e=>by cases e) rfl rfl rfl hlen) (fun _ h=>h) (fun _ h=>h)
 ·rw[hlen];simp only at hy
  by_cases e:b=b'
  ·subst e;rw[List.getElem?_set_self hblt]at hy;simp only[Oe]at hy;subst hy;simp only[BoxOK];refine⟨rl_bx b1,cur',t,hcur',by rw[hsz,b3,putCells_len],fun c x hx=>?_⟩;rw[putCells_get _ _ _ _ (by rw[hn];exact hfit),hn]at hx;split at hx
   ·rename_i hc';obtain⟨u,hu,hr⟩:=hys (c-c0) x hx;rw[show c0+(c-c0)=c by omega]at hu;refine⟨u,hu,?_⟩;have:=rl_repC (boxT_apart n b c0) (show c-c0<n by omega) hr
    have e1:boxT b c0 (c-c0)=⟨.box b c,[]⟩:=by simp only[boxT];rw[show c0+(c-c0)=c by omega]
    rw[e1]at this;refine this.keeps {later' with hd:=fun _ _=>rfl,ow:=fun _ _ _ h=>h,row:=fun r i _ ho=>hw.2 i (fun e=>by rw[e,rl_bx b1]at ho;cases ho)} rfl (Nat.le_refl _)
   ·rename_i hc';obtain⟨u,hu,hr⟩:=b4 c x hx;refine⟨u,by rw[hout c hc'];exact hu,hr.keeps (stays _ (fun k e=>by cases e) ?_) rfl (Nat.le_refl _)⟩;intro j hj e;simp only[Rt.box.injEq,true_and]at e;omega
  ·rw[List.getElem?_set_ne e]at hy;have k:=h.boxes b' y hy
   cases y with
   | cells cs'=>
     simp only[BoxOK]at k ⊢
     obtain⟨h1,cur1,t1,h2,h3,h4⟩:=k;refine⟨rl_bx h1,cur1,t1,(other h1 (fun e'=>e (by injection e' with e';exact e'.symm))).trans h2,h3,fun c x hx=>?_⟩;obtain⟨u,hu,hr⟩:=h4 c x hx;refine⟨u,hu,hr.keeps (stays _ (fun k e=>by cases e) ?_) rfl (Nat.le_refl _)⟩;intro j _ e';simp only[Rt.box.injEq]at e';exact e e'.1.symm
   | map es=>
     simp only[BoxOK]at k ⊢
     obtain⟨h1,ents,clk,h2,h3,h4⟩:=k;exact⟨rl_bx h1,ents,clk,(other h1 (fun e'=>e (by injection e' with e';exact e'.symm))).trans h2,h3,fun i k' x hx=>let ⟨e,he,hk,hv⟩:=h4 i k' x hx;⟨e,he,hk,hv.later later⟩⟩
   |gone=>trivial
 ·rw[hw.1];exact h.lt i (rl_some hi)
end Go.Ab
end
section
namespace Go.Ab
open Go.RowKit
variable {w:World} {tv tl:Nat->Value}
theorem repL_refs{g:G}{V:Vw}{p:Pl}{x:A}{u:Value}(r:RepL g w V p x u){q:Pl}(hq:q∈refsL x):V.ok q:=by
 cases x<;>simp only[refsL,List.not_mem_nil,List.mem_singleton]at hq<;>simp only[RepL]at r
 ·rename_i z es;obtain⟨b,cap,cur,t,e1,e2,e3,e4,e5,e6,e7,e8⟩:=r;simp only[List.mem_flatMap]at hq;obtain⟨e,he,x,hx,hq⟩:=hq;obtain⟨i,hi⟩:=List.mem_iff_getElem?.1 he;obtain⟨c,hc⟩:=List.mem_iff_getElem?.1 hx;obtain⟨u,_,hr⟩:=(e8 i e hi).2 c x hc;cases x<;>simp only[refsE,List.not_mem_nil,List.mem_singleton]at hq;subst hq;exact hr.1
 ·rw[List.mem_cons]at hq;rcases hq with rfl|hq
  ·exact r.1
  ·exact r.2.2.1.2 q hq
 ·subst hq;exact r.1
 ·subst hq;exact r.1
 ·subst hq;exact r.1
theorem repA_refs{g:G}{V:Vw}{p:Pl}{x:A}{u:Value}(r:RepA g w V p x u){q:Pl}(hq:q∈refsA x):V.ok q:=by
 cases x
 case agg cs=>
  simp only[refsA,List.mem_flatMap]at hq;obtain⟨y,hy,hq⟩:=hq;obtain⟨us,_,h1,h2⟩:=r;obtain⟨c,hc⟩:=List.mem_iff_getElem?.1 hy;have hlt:c<us.length:=by rw[<-h1];exact(Ge hc).1
  exact repL_refs (h2 c y _ hc (Gg hlt)) hq
 all_goals exact repL_refs (by simpa only[RepA]using r) (by simpa only[refsA]using hq)
theorem repT_refs{g:G}{V:Vw}{p:Pl}{x:A}{u:Value}(r:RepT g w V p x u){q:Pl}(hq:q∈refsT x):V.ok q:=by
 cases x
 case tup cs=>
  simp only[refsT,List.mem_flatMap]at hq;obtain⟨y,hy,hq⟩:=hq;obtain⟨us,_,h1,h2⟩:=r;obtain⟨c,hc⟩:=List.mem_iff_getElem?.1 hy;have hlt:c<us.length:=by rw[<-h1];exact(Ge hc).1
  exact repA_refs (h2 c y _ hc (Gg hlt)) hq
 case top=>simp[refsT,refsA,refsL]at hq
 case ud=>simp[refsT,refsA,refsL]at hq
 all_goals exact repA_refs (by simpa only[RepT]using r) (by simpa only[refsT]using hq)
theorem Inv.refOk{g:G}{σ:St}(h:Inv g σ w tv tl){q:Pl}(hq:RefIn σ q):σ.view.ok q:=by
 rcases hq with⟨n,x,hx,hq⟩|⟨n,x,hx,hq⟩
 ·have:=repT_refs (h.vars n x hx) hq;unfold Vw.ok at this ⊢
  split<;>rename_i e<;>simp only[e,St.view0,St.view]at this ⊢ <;>first|omega|exact this
 ·exact repT_refs (h.locs n x hx) hq
def IRes(P:Program)(o:Oper)(ρ:Operand->Value)(tv tl:Nat->Value)(g:G)(σ:St)(w:World)(x:A)(σ':St):Prop:=
 ∃v w' g' nx,(execOp ρ o).run P w= .ok nx w'/\(nx= .value v\/nx= .skip/\v=undef)/\Inv g' σ' w' tv tl/\Later g w g' w'/\Same w w'/\BX g σ g' σ'/\σ'.ls.length=σ.ls.length/\(∀q,RepT g' w' σ'.view q x v)/\lightT x=true
theorem IRes.value{P:Program}{o:Oper}{ρ:Operand->Value}{g g':G}{σ σ':St}{w':World}{x:A}{v:Value}(h:(execOp ρ o).run P w= .ok (.value v) w')(hi:Inv g' σ' w' tv tl)(hl:Later g w g' w')(hs:Same w w')(hb:BX g σ g' σ')(hn:σ'.ls.length=σ.ls.length)
  (hr:∀ q,RepT g' w' σ'.view q x v) (hx:lightT x=true):IRes P o ρ tv tl g σ w x σ':=⟨v,w',g',_,h,.inl rfl,hi,hl,hs,hb,hn,hr,hx⟩
section
variable {P:Program} {c:TC} {o:Oper} {ρ:Operand->Value} {g:G} {σ:St}
theorem op_alloc(h:Cx P c o ρ tv tl g σ w){t:TypeId}(hop:o.op= .alloc t){zs:List A}(hz:zeroA P t=some zs){x:A}{σ':St}(hy:aop σ (.alloc zs)=some (x,σ')):IRes P o ρ tv tl g σ w x σ':=by
 simp only[aop,Oe,Prod.mk.injEq]at hy;obtain⟨rfl,rfl⟩:=hy;obtain⟨i,v,hi,hv,hc⟩:=zeroA_ok (w:=w) hz g σ.view;have hw:(w.alloc (.cells v.cells t)).heap=w.heap.push (.cells v.cells t):=rfl
 have hblk:(g.boxed σ.bx.length w.heap.size).blk σ.bx.length=w.heap.size:=by simp[G.boxed]
 have inv:=h.I.newBox (w':=w.alloc (.cells v.cells t)) (o:=.cells v.cells t) hw (x:=.cells zs) (by
  simp only[BoxOK]
  rw[hblk]
  refine⟨by simp[G.boxed],v.cells,t,heap_new w _,by rw[hc.1];simp,fun c x hx=>?_⟩
  have hlt:c<v.cells.toList.length:=by rw[<-hc.1];exact(Ge hx).1
  have hu:=Gg hlt
  refine⟨_,by rw[<-Array.getElem?_toList];exact hu,?_⟩
  have r:=(hc.2 c x _ hx hu).1 ⟨.loc 0,[]⟩
  have hvx:=List.all_eq_true.1 (zeroA_v hz) x (Mg hx)
  cases x<;>simp[A.isV]at hvx
  have e:=repT_v (repT_ofL r)
  have o1:=r.one
  rw[e]at o1 ⊢
  simp only[RepC]
  exact .imm _ _ _ (.v _ o1) rfl)
 refine IRes.value (v:=.pointer (some ⟨w.heap.size,0,none⟩)) (w':=w.alloc (.cells v.cells t)) ?_ inv (boxed_later hw) ⟨rfl,rfl,rfl⟩ ⟨by simp,fun b hb=>by simp only[G.boxed];rw[if_neg (by omega)]⟩ rfl (fun q=>?_) rfl
 ·simp[execOp,hop,Instr.alloc,zeroValue,typeInfo,hi,hv,newVar,newRow]
 ·simp only[RepT,RepA,RepL,RepC];exact⟨by simp[St.view],by rw[hblk]⟩
theorem op_box(h:Cx P c o ρ tv tl g σ w){t:TypeId}{x:Operand}(hop:o.op= .box t x){d:Opd}(hd:c.opd x=some d){y:A}{σ':St}(hy:aop σ (.box d)=some (y,σ')):IRes P o ρ tv tl g σ w y σ':=by
 simp only[aop]at hy;split at hy
 ·rename_i a ha;split at hy
  ·rename_i y1 σ1 hm;split at hy
   ·cases hy
   ·rename_i hlo;simp only[Oe,Prod.mk.injEq]at hy;obtain⟨rfl,rfl⟩:=hy;have hlo':(cellsOf y1).any A.loose=false:=by simpa using hlo
    obtain⟨g1,m,hlen,hcells⟩:=hand_cells h.I hm (rd_ok h.L h.I hd ha ⟨.loc 0,[]⟩).2 (fun q=>(rd_ok h.L h.I hd ha q).1) hlo'
    -- a box of unknown cells
    have hw:(w.alloc (.cells (ρ x).cells t)).heap=w.heap.push (.cells (ρ x).cells t):=rfl;have hblk:(g1.boxed σ1.bx.length w.heap.size).blk σ1.bx.length=w.heap.size:=by simp[G.boxed]
    have one:∀ (c:Nat) u,(ρ x).cells.toList[c]?=some u->u.oneCell'=true:=by
     intro c u hu;have hlt:c<(cellsOf y1).length:=by rw[hlen];exact(Ge hu).1
     exact(hcells c _ u (Gg hlt) hu).one
    have inv:=m.inv.newBox (w':=w.alloc (.cells (ρ x).cells t)) (o:=.cells (ρ x).cells t) hw (x:=.cells (List.replicate (cellsOf y1).length .un)) (by
     simp only[BoxOK]
     rw[hblk]
     refine⟨by simp[G.boxed],(ρ x).cells,t,heap_new w _,by rw[List.length_replicate,hlen];simp,fun c x' hx=>?_⟩
     have hlt:c<(cellsOf y1).length:=by simpa using(Ge hx).1
     have hx':x'= .un:=by
      rw[List.getElem?_replicate,if_pos hlt]at hx
      exact(Option.some.inj hx).symm
     subst hx'
     have hu:=Gg (l:=(ρ x).cells.toList) (i:=c) (by rw[<-hlen];exact hlt)
     refine⟨_,by rw[<-Array.getElem?_toList];exact hu,?_⟩
     simp only[RepC]
     refine .imm _ _ _ (.un _ ?_) rfl
     exact one c _ hu)
    -- and its cells out of the hand
    have hnb:({σ1 with bx:=σ1.bx++[.cells (List.replicate (cellsOf y1).length .un)]}:St).bx.length=σ1.bx.length+1:=by simp
    have st:=inv.storeBox (w':=w.alloc (.cells (ρ x).cells t)) (b:=σ1.bx.length) (c0:=0) (n:=(cellsOf y1).length) (cs:=List.replicate (cellsOf y1).length .un) (ys:=cellsOf y1) (cur:=(ρ x).cells) (cur':=(ρ x).cells) (t:=t)
     (by simp) rfl (by simp) (Turn1.refl _ _) (by rw[hblk];exact heap_new w _) (by rw[hblk];exact heap_new w _) rfl (fun _ _=>rfl)
     (fun j y' hj => by
       have hlt:j<(ρ x).cells.toList.length:=by rw[<-hlen];exact(Ge hj).1
       have hu:=Gg hlt
       refine⟨_,by rw[Nat.zero_add,<-Array.getElem?_toList];exact hu,?_⟩
       rw[hnb]
       exact(hcells j y' _ hj hu).boxed (boxed_stays hw m.inv.lt _) (Nat.le_refl _) (Nat.le_succ _))
     (fun r hr j _ e => by
       have:=m.inv.refOk (q:=r) hr
       unfold Vw.ok at this
       rw[e]at this
       simp only[St.view]at this
       omega)
    have hput:putCells (List.replicate (cellsOf y1).length A.un) 0 (cellsOf y1)=cellsOf y1:=by
     apply List.ext_getElem?;intro i;rw[putCells_get _ _ _ _ (by simp)]
     by_cases hi:i<(cellsOf y1).length
     ·rw[if_pos ⟨Nat.zero_le _,by simpa using hi⟩,Nat.sub_zero]
     ·rw[if_neg (by simp;omega),List.getElem?_eq_none (by simp;omega),List.getElem?_eq_none (by omega)]
    rw[hput]at st
    have hset:(σ1.bx++[Bx.cells (List.replicate (cellsOf y1).length .un)]).set σ1.bx.length (.cells (cellsOf y1))=σ1.bx++[.cells (cellsOf y1)]:=by
     rw[List.set_append_right _ _ (Nat.le_refl _)];simp
    simp only[hset]at st;refine IRes.value (v:=.pointer (some ⟨w.heap.size,0,none⟩)) (w':=w.alloc (.cells (ρ x).cells t)) ?_ st ?_ ⟨rfl,rfl,rfl⟩ ⟨by simp[m.nb],fun b hb=>?_⟩ (by simp[m.nl]) (fun q=>?_) rfl
    ·simp[execOp,hop,Instr.box,newVar,newRow]
    ·exact(m.toLater.trans (boxed_later hw)).trans (rl_later _ _ _ _)
    ·show(g1.boxed σ1.bx.length w.heap.size).blk b=g.blk b
     simp only[G.boxed];rw[if_neg (by have:=m.nb;omega),m.blk]
    ·simp only[RepT,RepA,RepL,RepC];exact⟨by simp[St.view],by show _=Value.pointer (some ⟨(g1.boxed σ1.bx.length w.heap.size).blk σ1.bx.length,0,none⟩);rw[hblk]⟩
  ·cases hy
 ·cases hy
end
end Go.Ab
end
section
namespace Go.Ab
open Go.RowKit
variable {w:World} {tv tl:Nat->Value}
def seg(cur:Array Value)(k:Nat)(us:List Value):Array Value:=(cur.toList.take k++us++cur.toList.drop (k+us.length)).toArray
theorem seg_size{cur:Array Value}{k:Nat}{us:List Value}(h:k+us.length<=cur.size):(seg cur k us).size=cur.size:=by
 simp[seg];omega
theorem seg_in{cur:Array Value}{k:Nat}{us:List Value}(h:k+us.length<=cur.size){j:Nat}(hj:j<us.length):(seg cur k us)[k+j]?=us[j]?:=by
 have h1:min k cur.size=k:=by omega
 simp only[seg,List.getElem?_toArray];rw[List.getElem?_append_left (by simp;omega),List.getElem?_append_right (by simp;omega)];simp[h1]
theorem seg_out{cur:Array Value}{k:Nat}{us:List Value}(h:k+us.length<=cur.size){i:Nat}(hi:¬ (k<=i/\i<k+us.length)):(seg cur k us)[i]?=cur[i]?:=by
 have h1:min k cur.size=k:=by omega
 simp only[seg,List.getElem?_toArray]
 by_cases h2:i<k
 ·rw[List.getElem?_append_left (by simp;omega),List.getElem?_append_left (by simp;omega),List.getElem?_take,if_pos h2];simp
 ·rw[List.getElem?_append_right (by simp;omega),List.getElem?_drop];simp only[List.length_append,List.length_take,Array.length_toList,h1,Array.getElem?_toList];congr 1;omega
theorem setRow_turn1{k:Nat}(cs:Array Value):Turn1 w (w.setRow k cs) k:=⟨setRow_size w k cs,fun i hi=>setRow_other w k i cs hi⟩
def rowT(p:Pl)(i c:Nat)(j:Nat):Pl:=p.at i (c+j)
theorem rowT_apart(n:Nat)(p:Pl)(i c:Nat):Apart n (rowT p i c):=by
 intro a b q _ _ h1 h2
 by_cases e:a=b
 ·exact e
 ·exact(Pl.at_apart (fun e'=>by injection e' with _ e';omega) h1 h2).elim
theorem hang_self{p q:Pl}(hp:noHand p)(hu:p.under q)(hh:hangs ⟨p.r,p.s++[(0,0)]⟩ q=false):q=p:=by
 obtain⟨h1,s,h2⟩:=hu;have hs:q.r.same p.r=true:=same_self hp h1
 simp only[hangs,hs,Bool.true_and,List.length_append,List.length_cons,List.length_nil,decide_eq_false_iff_not]at hh
 have:s=[]:=by
  cases s with
  |nil=>rfl
  |cons a s=>rw[h2]at hh;simp at hh
 subst this;cases p;cases q
 simp_all
theorem Inv.storeRow{g:G}{σ:St}(h:Inv g σ w tv tl){p:Pl}{z i c n:Nat}{es:List (List A)}{e ys:List A}(hg:σ.get p=some (.own z es))(he:es[i]?=some e)(hn:ys.length=n)(hfit:c+n<=e.length)
  {us:List Value} (hus:us.length=n) (hys:∀ (j:Nat) y u,ys[j]?=some y->us[j]?=some u->RepO g w (hc j) y u)
  (hrs:∀ r,RefIn σ r->p.under r->r=p) (has:∀ r,AppIn σ r-> ¬p.under r) {b cap:Nat} {cur:Array Value} {t:TypeId} (hhd:g.hd p=(b,cap)) (hcur:w.heap[b]?=some (.cells cur t (0,0))):
  Inv (g.rl n (rowT p i c)) (σ.set p (.own z (es.set i (putCells e c ys)))) (w.setRow b (seg cur (i*z+c) us)) tv tl:=by
 have hp:noHand p:=by
  intro k hk;unfold St.get at hg;rw[hk]at hg;cases hg
 have hO:=h.getOwn hg;obtain⟨⟨b0,cap0,cur0,t0,f1,f2,f3,f4,f5,f6,f7⟩,_⟩:=hO.rowOK;rw[hhd]at f1;cases f1;rw[hcur]at f3;cases f3;have hil:i<es.length:=(Ge he).1
 have hez:e.length=z:=(f7 i e he).1
 have hfit2:i*z+c+us.length<=cur.size:=by
  rw[f4,hus];have:i*z+z<=cap*z:=by rw[<-Nat.succ_mul];exact Nat.mul_le_mul_right _ (by omega)
  omega
 have hcur':(w.setRow b (seg cur (i*z+c) us)).heap[b]?=some (.cells (seg cur (i*z+c) us) t (0,0)):=setRow_heap w b cur _ t _ hcur
 have other:∀ {k o},g.ow k=some o->o≠ .row p->(w.setRow b (seg cur (i*z+c) us)).heap[k]?=w.heap[k]?:=by
  intro k o ho hne;refine setRow_other w b k _ (fun e'=>hne ?_);rw[e',f2]at ho;injection ho with ho
  exact ho.symm
 have later:Later g w (g.rl n (rowT p i c)) (w.setRow b (seg cur (i*z+c) us)):=
  ⟨by simp,fun k _ hk=>rl_none hk,fun k _ hk=>setRow_other w b k _ (fun e'=>by rw[e',f2]at hk;cases hk),fun k _ hk=>⟨rl_frn hk,setRow_other w b k _ (fun e'=>by rw[e',f2]at hk;cases hk)⟩⟩
 have tu:∀ {q:Pl} {j:Nat},(rowT p i c j).under q->p.under q:=fun hu=>Pl.under_of_at hu
 have kp:KeepsP p g w (g.rl n (rowT p i c)) (w.setRow b (seg cur (i*z+c) us)):=
  { later with
    blk:=rfl
    hd:=fun q hq _=>rl_hd_other fun j _ hu=>hq (tu hu)
    ow:=fun q k _ hq ho=>rl_ow_other ho hq
    row:=fun q k hq _ ho=>other ho (fun e'=>by injection e' with e';exact hq (e' ▸ Pl.under_refl p))
    owb:=fun k j ho=>rl_bx ho
    rowb:=fun k j ho=>other ho (by simp)
    owt:=fun q k _ ho=>rl_tmp ho
    rowt:=fun q k _ ho=>other ho (by simp)
    lt:=fun hlt k hk=>by rw[setRow_size];exact hlt k (rl_some hk)}
 have selfhd:(g.rl n (rowT p i c)).hd p=(b,cap):=by
  rw[rl_hd_other,hhd];rintro j _ ⟨_,s,hs⟩;have:=congrArg List.length hs
  simp[rowT,Pl.at]at this
 refine h.turn hp hg (.inl rfl) kp ?_ ?_ ?_ (fun _ e=>by cases e) (fun _ e=>by cases e)
 ·intro V V' _ _ _;refine⟨fun z' es' u ey hu=>?_,fun z' es' u ey=>by cases ey⟩;cases ey;obtain⟨_,hv⟩:=hu.rowOK;rw[hv,hhd];have hlen:(es.set i (putCells e c ys)).length=es.length:=by simp
  have:Value.slice (some ⟨b,0,none⟩) es.length cap= .slice (some ⟨((g.rl n (rowT p i c)).hd p).1,0,none⟩) (es.set i (putCells e c ys)).length ((g.rl n (rowT p i c)).hd p).2:=by rw[selfhd,hlen]
  simp only
  rw[this];refine RepO.of_rowOK ⟨b,cap,_,t,selfhd,rl_ow_other f2 hp,hcur',by rw[seg_size hfit2,f4],by rw[hlen];exact f5,f6,fun i' e' he'=>?_⟩
  have old:∀ (i' c':Nat) e0 x,es[i']?=some e0->e0[c']?=some x->(∀j,j<n->(i',c')≠(i,c+j))-> ∃u,(seg cur (i*z+c) us)[i'*z+c']?=some u/\RepO (g.rl n (rowT p i c)) (w.setRow b (seg cur (i*z+c) us)) (p.at i' c') x u:=by
   intro i' c' e0 x he0 hx hne;obtain⟨u,hu,hr⟩:=(f7 i' e0 he0).2 c' x hx;have hz0:e0.length=z:=(f7 i' e0 he0).1
   have hcz:c'<z:=by rw[<-hz0];exact(Ge hx).1
   refine⟨u,?_,hr.stays ?_⟩
   ·rw[seg_out hfit2 ?_]
    ·exact hu
    ·rintro⟨k1,k2⟩;rw[hus]at k2
     by_cases hii:i'=i
     ·subst hii;exact hne (c'-c) (by omega) (by rw[show c+(c'-c)=c' by omega])
     ·rcases Nat.lt_or_gt_of_ne hii with hlt|hlt
      ·have:i'*z+z<=i*z:=by rw[<-Nat.succ_mul];exact Nat.mul_le_mul_right _ hlt
       omega
      ·have:i*z+z<=i'*z:=by rw[<-Nat.succ_mul];exact Nat.mul_le_mul_right _ hlt
       omega
   ·refine{later with hd:=fun r hr=>rl_hd_other fun j hj hu=>Pl.at_apart (hne j hj) hr hu,ow:=fun r k hr ho=>rl_ow_other ho (fun k' e'=>hp k' (by have:=hr.1;simp only[Pl.at]at this;rw[this];exact e')),row:=fun r k hr ho=>other ho (fun e'=>?_)};injection e' with e'
    subst e';obtain⟨_,s,hs⟩:=hr;have:=congrArg List.length hs
    simp[Pl.at]at this
  by_cases hii:i=i'
  ·subst hii;rw[List.getElem?_set_self hil]at he';simp only[Oe]at he';subst he';refine⟨by rw[putCells_len];exact hez,fun c' x hx=>?_⟩;rw[putCells_get _ _ _ _ (by rw[hn];exact hfit),hn]at hx;split at hx
   ·rename_i hcc;have hlt:c'-c<us.length:=by omega
    have hu:=Gg hlt;refine⟨us[c'-c],?_,?_⟩
    ·rw[show i*z+c'=i*z+c+(c'-c)by omega,seg_in hfit2 hlt];exact hu
    ·have:=rl_rep (rowT_apart n p i c) (show c'-c<n by omega) (hys _ x _ hx hu) [] (Pl.plus_nil _).symm;rw[Pl.plus_nil]at this;have e1:rowT p i c (c'-c)=p.at i c':=by simp only[rowT];rw[show c+(c'-c)=c' by omega]
     rw[e1]at this;refine this.stays {size:=by simp,free:=fun k _ hk=>hk,same:=fun k _ hk=>setRow_other w b k _ (fun e'=>by rw[e',rl_ow_other f2 hp]at hk;cases hk),frn:=fun k _ hk=>⟨hk,setRow_other w b k _ (fun e'=>by rw[e',rl_ow_other f2 hp]at hk;cases hk)⟩,hd:=fun _ _=>rfl,ow:=fun _ _ _ h=>h,row:=fun r k hr ho=>setRow_other w b k _ (fun e'=>?_)};rw[e',rl_ow_other f2 hp]at ho
     simp only[Oe,Ow.row.injEq]at ho;subst ho;obtain⟨_,s,hs⟩:=hr;have:=congrArg List.length hs
     simp[Pl.at]at this
   ·rename_i hcc;exact old i c' e x he hx (fun j hj e'=>hcc (by injection e' with _ e';omega))
  ·rw[List.getElem?_set_ne hii]at he';refine⟨(f7 i' e' he').1,fun c' x hx=>old i' c' e' x he' hx (fun j hj e''=>hii (by injection e'' with e'';exact e''.symm))⟩
 ·intro q hu hr;have:=hrs q hr hu
  subst this;refine .inr ⟨?_,by rw[selfhd,hhd]⟩;have:=R_set_under (.own z (es.set i (putCells e c ys))) hg []
  rw[Pl.plus_nil]at this;rw[this];simp[getS,rowLen,St.R,row_own hg]
 ·exact fun q hu hr=>absurd hu (has q hr)
theorem refsE_kill{q r:Pl}{x:A}(h:r∈refsE (killE q x)):r∈refsE x:=by
 cases x with
 | sref p=>
   simp only[killE]at h
   by_cases hh:hangs q p=true
   ·rw[if_pos hh]at h;simp[refsE]at h
   ·rw[if_neg hh]at h;exact h
 |_=>simp[killE,refsE]at h
theorem refsL_kill{q r:Pl}{x:A}(h:r∈refsL (killLeaf q x)):r∈refsL x:=by
 have flatE:∀ es:List (List A),r∈(es.map (·.map (killE q))).flatMap (·.flatMap refsE)->r∈es.flatMap (·.flatMap refsE):=by
  intro es h;simp only[List.mem_flatMap,List.mem_map]at h ⊢
  obtain⟨e,⟨e0,he0,rfl⟩,x,hx,hr⟩:=h;rw[List.mem_map]at hx;obtain⟨x0,hx0,rfl⟩:=hx;exact⟨e0,he0,x0,hx0,refsE_kill hr⟩
 cases x with
 |sref p=>simp only[killLeaf]at h;split at h<;>first|exact h|(simp[refsL]at h;done)
 |sub p lo hi=>simp only[killLeaf]at h;split at h<;>first|exact h|(simp[refsL]at h;done)
 |pref p i c=>simp only[killLeaf]at h;split at h<;>first|exact h|(simp[refsL]at h;done)
 | app z p cs=>
   simp only[killLeaf]at h;split at h
   ·simp[refsL]at h
   ·simp only[refsL,List.mem_cons]at h ⊢
    exact h.imp id (fun h=>flatE _ (by rw[<-flat_kill];exact h))
 | bld z es=>
   simp only[killLeaf,refsL]at h ⊢
   exact flatE _ h
 |_=>exact h
theorem refsA_of{y:A}(h:∀ cs,y≠ .agg cs):refsA y=refsL y:=by cases y<;>first|rfl|exact absurd rfl (h _)
theorem refsT_of{y:A}(h:∀ cs,y≠ .tup cs):refsT y=refsA y:=by cases y<;>first|rfl|exact absurd rfl (h _)
theorem killAg_of{q:Pl}{y:A}(h:∀ cs,y≠ .agg cs):killAg q y=killLeaf q y:=by cases y<;>first|rfl|exact absurd rfl (h _)
theorem killA_of{q:Pl}{y:A}(h:∀ cs,y≠ .tup cs):killA q y=killAg q y:=by cases y<;>first|rfl|exact absurd rfl (h _)
theorem refsA_kill{q r:Pl}{x:A}(h:r∈refsA (killAg q x)):r∈refsA x:=by
 by_cases hx:∃ cs,x= .agg cs
 ·obtain⟨cs,rfl⟩:=hx;simp only[killAg,refsA,List.mem_flatMap,List.mem_map]at h ⊢
  obtain⟨_,⟨y,hy,rfl⟩,hr⟩:=h;exact⟨y,hy,refsL_kill hr⟩
 ·have hn:∀ cs,x≠ .agg cs:=fun cs e=>hx ⟨cs,e⟩;rw[killAg_of hn,refsA_of (killLeaf_noagg q x hn)]at h;rw[refsA_of hn];exact refsL_kill h
theorem refsT_kill{q r:Pl}{x:A}(h:r∈refsT (killA q x)):r∈refsT x:=by
 by_cases hx:∃ cs,x= .tup cs
 ·obtain⟨cs,rfl⟩:=hx;simp only[killA,refsT,List.mem_flatMap,List.mem_map]at h ⊢
  obtain⟨_,⟨y,hy,rfl⟩,hr⟩:=h;exact⟨y,hy,refsA_kill hr⟩
 ·have hn:∀ cs,x≠ .tup cs:=fun cs e=>hx ⟨cs,e⟩;rw[killA_of hn,refsT_of (killAg_notup q x hn)]at h;rw[refsT_of hn];exact refsA_kill h
theorem refIn_sub{σ:St}{q r:Pl}(h:RefIn (σ.kill q) r):RefIn σ r:=by
 rcases h with⟨n,x,hx,hr⟩|⟨n,x,hx,hr⟩
 ·simp only[St.kill,List.getElem?_map]at hx;cases hxs:σ.vs[n]? with
  |none=>rw[hxs]at hx;cases hx
  |some x0=>rw[hxs]at hx;simp only[Option.map_some,Oe]at hx;subst hx;exact .inl ⟨n,x0,hxs,refsT_kill hr⟩
 ·simp only[St.kill,List.getElem?_map]at hx;cases hxs:σ.ls[n]? with
  |none=>rw[hxs]at hx;cases hx
  |some x0=>rw[hxs]at hx;simp only[Option.map_some,Oe]at hx;subst hx;exact .inr ⟨n,x0,hxs,refsT_kill hr⟩
theorem killBox_ok{g:G}{b c:Nat}:∀ (l:List Nat) (σ:St),Inv g σ w tv tl->Inv g (killBox b c l σ) w tv tl/\(killBox b c l σ).bx=σ.bx/\(killBox b c l σ).ls.length=σ.ls.length/\
  (∀r,RefIn (killBox b c l σ) r->RefIn σ r/\ ∀j,j∈l->r.r≠ .box b (c+j))/\ ∀r,(killBox b c l σ).R r=σ.R r
 |[],σ,h=>⟨h,rfl,rfl,fun r hr=>⟨hr,fun j hj=>by simp at hj⟩,fun _=>rfl⟩
 | j::l,σ,h=>by
   obtain⟨h1,h2,h3,h4,h5⟩:=killBox_ok l (σ.kill ⟨.box b (c+j),[]⟩) (h.kill _);refine⟨h1,h2,by rw[show killBox b c (j::l) σ=killBox b c l (σ.kill ⟨.box b (c+j),[]⟩)from rfl,h3];simp[St.kill],fun r hr=>?_,fun r=>(h5 r).trans (R_kill _ _ _)⟩;obtain⟨k1,k2⟩:=h4 r hr;refine⟨refIn_sub k1,fun i hi=>?_⟩;rw[List.mem_cons]at hi;rcases hi with rfl|hi
   ·have:=refIn_kill k1;intro e;simp[hangs,Rt.same,e]at this
   ·exact k2 i hi
end Go.Ab
end
section
namespace Go.Ab
open Go.RowKit
variable {w:World} {tv tl:Nat->Value}
section
variable {P:Program} {c:TC} {o:Oper} {ρ:Operand->Value} {g:G} {σ:St}
theorem repC_noBox{nb:Nat}{p:Pl}{x:A}{u:Value}(r:RepC g w nb p x u)(h:x.boxy=false):RepO g w p x u:=by
 cases x<;>simp only[RepC]at r<;>first
  |exact r
  |(simp[A.boxy]at h;done)
  |skip
 rename_i f a b;cases a<;>cases b<;>simp[A.boxy]at h;obtain⟨us,vs,e,h1,h2,_⟩:=r;have e1:us=[]:=List.eq_nil_of_length_eq_zero (by simpa using h1.symm)
 have e2:vs=[]:=List.eq_nil_of_length_eq_zero (by simpa using h2.symm);subst e1 e2;subst e;exact .imm _ _ _ (.clo f) rfl
theorem run_storeRow{B off:Nat}{cur:Array Value}{t:TypeId}{us:List Value}(hcur:w.heap[B]?=some (.cells cur t (0,0)))(hfit:off+us.length<=cur.size)(h1:∀ v∈us,v.oneCell'=true):
  (storeCells ⟨B,off,none⟩ us).run P w= .ok () (w.setRow B (seg cur off us)):=by
 have:=run_storeCells_at P B off t us 0 cur w hcur (by simpa using hfit) h1;simpa[seg]using this
theorem op_store(h:Cx P c o ρ tv tl g σ w){t:TypeId}{x y:Operand}(hop:o.op= .store t x y)(ht:(P.info? t).isSome=true){dx dy:Opd}(hx:c.opd x=some dx)(hy:c.opd y=some dy){r:A}{σ':St}
  (hr:aop σ (.store (isAggT P t) (P.cellsOf t) dx dy)=some (r,σ')):IRes P o ρ tv tl g σ w r σ':=by
 obtain⟨it,hit⟩:=Option.isSome_iff_exists.1 ht;simp only[aop]at hr;split at hr
 ·rename_i a bv ha hb;split at hr
  ·rename_i b' σ1 hm;split at hr
   ·rename_i cs hcs;split at hr
    ·rename_i σ2 hst;simp only[Oe,Prod.mk.injEq]at hr;obtain⟨rfl,rfl⟩:=hr
     -- the cells
     unfold storeA at hst;split at hst
     ·rename_i hn;split at hst
      ·cases hst
      ·rename_i hlo;have hlo':cs.any A.loose=false:=by simpa using hlo
       have hcell:cellsOf b'=cs:=by
        split at hcs
        ·split at hcs
         ·simp only[Oe]at hcs;rw[<-hcs];rfl
         ·cases hcs
        ·simp only[Oe]at hcs;subst hcs;cases b'<;>first|rfl|(simp[A.loose]at hlo';done)
       obtain⟨g1,m,hlen,hcells⟩:=hand_cells h.I hm (rd_ok h.L h.I hy hb ⟨.loc 0,[]⟩).2 (fun q=>(rd_ok h.L h.I hy hb q).1) (by rw[hcell];exact hlo');rw[hcell]at hlen hcells;have hul:(ρ y).cells.toList.length=P.cellsOf t:=by rw[<-hlen,hn]
       have one:∀ v∈(ρ y).cells.toList,v.oneCell'=true:=by
        intro v hv;obtain⟨i,hi⟩:=List.mem_iff_getElem?.1 hv;have hlt:i<cs.length:=by rw[hlen];exact(Ge hi).1
        exact(hcells i _ v (Gg hlt) hi).one
       have run:∀ B off cur tt,ρ x= .pointer (some ⟨B,off,none⟩)->w.heap[B]?=some (.cells cur tt (0,0))->off+P.cellsOf t<=cur.size->
         (execOp ρ o).run P w= .ok .skip (w.setRow B (seg cur off (ρ y).cells.toList)):=by
        intro B off cur tt e1 e2 e3;have hs:=run_storeRow (P:=P) (us:=(ρ y).cells.toList) e2 (by rw[hul];exact e3) one
        have hsz:(ρ y).cells.size=P.cellsOf t:=by rw[<-hul];simp
        simp[execOp,hop,e1,Instr.storeAt,Instr.sureAddr,storeVar,run_sizeOf hit,hsz,hs]
       have ra:=rd_ok h.L h.I hx ha ⟨.loc 0,[]⟩;split at hst
       ·-- a box's cells
        rename_i b c0;obtain⟨hb1,hb2⟩:=repT_pt ra.1;obtain⟨k1,k2,k3,k4,k5⟩:=killBox_ok (w:=w) (tv:=tv) (tl:=tl) (b:=b) (c:=c0) (List.range (P.cellsOf t)) σ1 m.inv;have hbx:(killBox b c0 (List.range (P.cellsOf t)) σ1).bx[b]?=σ1.bx[b]?:=by rw[k2]
        split at hst
        ·rename_i cs0 hcs0;split at hst
         ·rename_i hfit;simp only[Oe]at hst;subst hst;have hcs0':(killBox b c0 (List.range (P.cellsOf t)) σ1).bx[b]?=some (.cells cs0):=hcs0
          have hbox:=k1.boxes b _ hcs0';simp only[BoxOK]at hbox;obtain⟨b1,cur,tt,b2,b3,b4⟩:=hbox;rw[<-m.blk]at hb2;have hfit2:c0+(ρ y).cells.toList.length<=cur.size:=by rw[hul,b3];exact hfit
          have st:=k1.storeBox (w':=w.setRow (g1.blk b) (seg cur c0 (ρ y).cells.toList)) hcs0' hn hfit (setRow_turn1 _) b2 (setRow_heap w _ cur _ tt _ b2) (seg_size hfit2)
           (fun i hi=>seg_out hfit2 (by rw[hul];exact hi))
           (fun j y' hj => by
             have hlt:j<(ρ y).cells.toList.length:=by rw[<-hlen];exact(Ge hj).1
             have hu:=Gg hlt
             refine⟨_,by rw[seg_in hfit2 hlt];exact hu,?_⟩
             rw[k2]
             exact hcells j y' _ hj hu)
           (fun r hr j hj=>(k4 r hr).2 j (List.mem_range.2 hj))
          refine⟨undef,_,_,.skip,run _ _ cur tt hb2 b2 (by rw[<-hul];exact hfit2),.inr ⟨rfl,rfl⟩,st,?_,⟨rfl,rfl,rfl⟩,BX.same m.blk (by simp[k2,m.nb]),?_,fun q=>rfl,rfl⟩
          ·refine m.toLater.trans ⟨by simp,fun i _ hi=>rl_none hi,fun i _ hi=>setRow_other w _ i _ (fun e=>by rw[e,b1]at hi;cases hi),fun i _ hi=>⟨rl_frn hi,setRow_other w _ i _ (fun e=>by rw[e,b1]at hi;cases hi)⟩⟩
          ·show(killBox b c0 (List.range (P.cellsOf t)) σ1).ls.length=_
           rw[k3,m.nl]
         ·cases hst
        ·cases hst
       ·-- a row's cells
        rename_i p i c0;split at hst
        ·cases hst
        ·rename_i hnb;obtain⟨p1,p2,p3⟩:=repT_pref (RepT.step' (p':=hand0) m ra.1 rfl);have k1:=m.inv.kill ⟨p.r,p.s++[(0,0)]⟩
         split at hst
         ·rename_i z es hg;split at hst
          ·rename_i e he;split at hst
           ·rename_i hfit;simp only[Oe]at hst;subst hst;have hrow:=row_own hg
            have hp:noHand p:=ok_noHand p1;have hR:σ1.R p=some (z,es.length):=by rw[<-R_kill σ1 ⟨p.r,p.s++[(0,0)]⟩ p,St.R,hrow]
            have hil:i<es.length:=(Ge he).1;have hux:=p3 z es.length hR hil
            obtain⟨⟨B,cap,cur,tt,f1,f2,f3,f4,f5,f6,f7⟩,_⟩:=(k1.getOwn hg).rowOK;rw[f1]at hux;have hez:e.length=z:=(f7 i e he).1
            have hfit2:i*z+c0+P.cellsOf t<=cur.size:=by
             rw[f4];have:i*z+z<=cap*z:=by rw[<-Nat.succ_mul];exact Nat.mul_le_mul_right _ (by omega)
             omega
            have hnb':∀ x,x∈cs->x.boxy=false:=by
             intro x hx;have:=List.any_eq_false.1 (by simpa using hnb) x hx
             simpa using this
            have st:=k1.storeRow (us:=(ρ y).cells.toList) hg he hn hfit hul
             (fun j y' u hj hu=>repC_noBox (hcells j y' u hj hu) (hnb' y' (Mg hj)))
             (fun r hr hu=>hang_self hp hu (refIn_kill hr))
             (fun r hr hu => by
               have h1:=appIn_kill hr
               have h2:=same_self hp hu.1
               simp only at h1
               rw[h1]at h2;cases h2)
             f1 f3
            refine⟨undef,_,_,.skip,run _ _ cur tt hux f3 hfit2,.inr ⟨rfl,rfl⟩,st,?_,⟨rfl,rfl,rfl⟩,BX.same m.blk (by rw[(set_lens _ _ _).2.2];exact m.nb),?_,fun q=>rfl,rfl⟩
            ·refine m.toLater.trans ⟨by simp,fun k _ hk=>rl_none hk,fun k _ hk=>setRow_other w _ k _ (fun e=>by rw[e,f2]at hk;cases hk),fun k _ hk=>⟨rl_frn hk,setRow_other w _ k _ (fun e=>by rw[e,f2]at hk;cases hk)⟩⟩
            ·rw[(set_lens _ _ _).2.1];show(σ1.ls.map _).length=_
             rw[List.length_map,m.nl]
           ·cases hst
          ·cases hst
         ·cases hst
       ·cases hst
     ·cases hst
    ·cases hr
   ·cases hr
  ·cases hr
 ·cases hr
end
end Go.Ab
end
section
namespace Go.Ab
open Go.RowKit
variable {w:World} {tv tl:Nat->Value}
def RowsOf(g:G)(w:World)(V:Vw)(z:Nat)(el:List (List A))(us:List Value):Prop:=
 us.length=el.length*z/\ ∀(i:Nat) e,el[i]?=some e->e.length=z/\ ∀(c:Nat) x,e[c]?=some x-> ∃u,us[i*z+c]?=some u/\RepE g w V x u
section
variable {P:Program} {g:G} {σ:St}
def News(g:G)(w:World)(V:Vw)(z:Nat)(u:Value)(el:List (List A)):Prop:=
 (el=[]/\ ∃oa cap,u= .slice oa 0 cap)\/
 ∃(b off cap:Nat) (us:List Value),u= .slice (some ⟨b,off,none⟩) el.length cap/\(∀(j:Nat) v,us[j]?=some v->cell w b (off+j)=some v)/\RowsOf g w V z el us/\ ∀v∈us,v.oneCell'=true
theorem divmod_lt{j n z:Nat}(h:j<n*z):0<z/\j / z<n/\j % z<z/\j / z*z+j % z=j:=by
 have hz:0<z:=Nat.pos_of_ne_zero (fun e=>by rw[e]at h;simp at h);exact⟨hz,by rw[Nat.div_lt_iff_lt_mul hz];exact h,Nat.mod_lt _ hz,by rw[Nat.mul_comm];exact Nat.div_add_mod j z⟩
theorem news_of{V:Vw}{z b off cap:Nat}{u:Value}{el:List (List A)}(hu:u= .slice (some ⟨b,off,none⟩) el.length cap)
  (h:∀ (i:Nat) e,el[i]?=some e->e.length=z/\ ∀(c:Nat) x,e[c]?=some x-> ∃v,cell w b (off+(i*z+c))=some v/\RepE g w V x v/\v.oneCell'=true):News g w V z u el:=by
 have at_:∀ j,j<el.length*z-> ∃(e:List A) (x:A) (v:Value),el[j / z]?=some e/\e[j % z]?=some x/\cell w b (off+j)=some v/\v.oneCell'=true:=by
  intro j hj;obtain⟨hz,h1,h2,h3⟩:=divmod_lt hj;obtain⟨k1,k2⟩:=h (j / z) _ (Gg h1);have hlt:j % z<(el[j / z]).length:=by rw[k1];exact h2
  obtain⟨v,hv,_,ho⟩:=k2 (j % z) _ (Gg hlt);rw[h3]at hv;exact⟨_,_,v,Gg h1,Gg hlt,hv,ho⟩
 have get:∀ (j:Nat) v,((List.range (el.length*z)).map fun j=>(cell w b (off+j)).getD undef)[j]?=some v->j<el.length*z/\cell w b (off+j)=some v:=by
  intro j v hv;rw[List.getElem?_map]at hv;cases hr:(List.range (el.length*z))[j]? with
  |none=>rw[hr]at hv;cases hv
  | some k=>
    rw[hr]at hv;obtain⟨hjn,rfl⟩:=Ge hr;simp only[List.getElem_range,Option.map_some,Oe]at hv;rw[List.length_range]at hjn;obtain⟨_,_,v',_,_,h1,_⟩:=at_ j hjn;rw[h1]at hv ⊢
    simp only[Option.getD_some]at hv;exact⟨hjn,by rw[hv]⟩
 refine .inr ⟨b,off,cap,_,hu,fun j v hv=>(get j v hv).2,⟨by simp,fun i e he=>⟨(h i e he).1,fun c x hx=>?_⟩⟩,fun v hv=>?_⟩
 ·obtain⟨v,hv,hr,_⟩:=(h i e he).2 c x hx;have hez:=(h i e he).1
  have hc:c<z:=by rw[<-hez];exact(Ge hx).1
  have hi:i<el.length:=(Ge he).1
  have hlt:i*z+c<el.length*z:=by
   have:i*z+z<=el.length*z:=by rw[<-Nat.succ_mul];exact Nat.mul_le_mul_right _ hi
   omega
  refine⟨v,?_,hr⟩;rw[List.getElem?_map,List.getElem?_range hlt];simp only[Option.map_some,hv,Option.getD_some]
 ·obtain⟨j,hj⟩:=List.mem_iff_getElem?.1 hv;obtain⟨h1,h2⟩:=get j v hj;obtain⟨_,_,v',_,_,h3,h4⟩:=at_ j h1;rw[h2]at h3;cases h3;exact h4
theorem repE_one{V:Vw}{x:A}{v:Value}(r:RepE g w V x v):v.oneCell'=true:=(r.toL (p:=hand0)).one
theorem repE_leaf{V:Vw}{x:A}{v:Value}(h:x.leaf=true)(r:RepI g w x v):RepE g w V x v:=by
 cases x<;>first
  |exact⟨h,r⟩
  |(simp[A.leaf]at h;done)
theorem isV_repE{V:Vw}{q:Pl}{i c:Nat}{x:A}{u:Value}(hx:A.isV x=true)(r:Cell g w V q i c x u):RepE g w V x u:=by
 rcases r with r|r
 ·cases x<;>simp[A.isV]at hx;cases r with
  |imm _ _ _ hi ha=>exact⟨ha,hi⟩
 ·exact r
theorem newsA_ok(hi:Inv g σ w tv tl){z:Nat}{a:A}{c:Bool×List (List A)}(h:newsA σ z a=some c){p:Pl}{u:Value}(r:RepT g w σ.view p a u):
  News g w σ.view z u c.2/\(c.1=false-> ∀e,e∈c.2-> ∀x,x∈e->x.leaf=true)/\(∀r,r∈c.2.flatMap (·.flatMap refsE)->σ.view.ok r):=by
 have refs:News g w σ.view z u c.2->(∀r,r∈c.2.flatMap (·.flatMap refsE)->σ.view.ok r):=by
  intro hn r hr;simp only[List.mem_flatMap]at hr;obtain⟨e,he,x,hx,hr⟩:=hr;obtain⟨i,hi⟩:=List.mem_iff_getElem?.1 he;obtain⟨k,hk⟩:=List.mem_iff_getElem?.1 hx;rcases hn with⟨e0,_⟩|⟨b,off,cap,us,_,_,⟨_,hrow⟩,_⟩
  ·rw[e0]at he;simp at he
  ·obtain⟨v,_,hv⟩:=(hrow i e hi).2 k x hk;cases x<;>simp only[refsE,List.not_mem_nil,List.mem_singleton]at hr;subst hr;exact hv.1
 suffices hs:News g w σ.view z u c.2/\(c.1=false-> ∀e,e∈c.2-> ∀x,x∈e->x.leaf=true)from⟨hs.1,hs.2,refs hs.1⟩
 unfold newsA at h;split at h
 ·simp only[Oe]at h;subst h;exact⟨.inl ⟨rfl,none,0,repT_v r⟩,fun _ e he=>by simp at he⟩
 ·rename_i z' es;split at h
  ·rename_i hz;subst hz;split at h
   ·rename_i hall;simp only[Oe]at h;subst h;have hleaf:∀ e,e∈es.map (·.map immLeaf)-> ∀x,x∈e->x.leaf=true:=fun e he x hx=>leafF_leaf (List.all_eq_true.1 (List.all_eq_true.1 hall e he) x hx)
    refine⟨?_,fun _=>hleaf⟩;rcases imm_row (repT_imm r)with⟨_,rfl,e⟩|⟨_,rfl,oa,cap,e⟩|⟨_,b,off,cap,f,e,k1,k2,k3,k4,k5,k6⟩
    ·exact .inl ⟨rfl,none,0,e⟩
    ·exact .inl ⟨rfl,some oa,cap,e⟩
    ·refine news_of (b:=b) (off:=off) (cap:=cap) (by simpa using e) (fun i e0 he0=>?_);have hm:=Mg he0
     rw[List.getElem?_map]at he0;cases hes:es[i]? with
     |none=>rw[hes]at he0;cases he0
     | some e1=>
       rw[hes]at he0;simp only[Option.map_some,Oe]at he0;subst he0;refine⟨by rw[List.length_map];exact k4 e1 (Mg hes),fun c x hx=>?_⟩;have hlx:=hleaf _ hm x (Mg hx)
       rw[List.getElem?_map]at hx;cases hx1:e1[c]? with
       |none=>rw[hx1]at hx;cases hx
       | some x1=>
         rw[hx1]at hx;simp only[Option.map_some,Oe]at hx;subst hx;have hI:=(k6 i e1 c x1 hes hx1).leaf
         have hE:RepE g w σ.view (immLeaf x1) (f i c):=repE_leaf hlx hI;exact⟨_,k5 i e1 c x1 hes hx1,hE,repE_one hE⟩
   ·cases h
  ·cases h
 ·rename_i q
  have own:∀ z' es y,σ.get q=some y->isRowOf y z' es->z'=z->(∀e,e∈es-> ∀x,x∈e-> ∀i c u,Cell g w σ.view q i c x u->RepE g w σ.view x u)->News g w σ.view z u es:=by
   intro z' es y hg hy hz hE;subst hz;have hrow:σ.row q=some (z',es):=by rcases hy with rfl|rfl;exact row_own hg;exact row_bld hg
   obtain⟨b0,cap0,cur,tt,f1,f2,f3,f4,f5,f6,f7⟩:=hi.row hrow;refine news_of (b:=(g.hd q).1) (off:=0) (cap:=(g.hd q).2) (repS_row (repT_sref r) hrow) (fun i e he=>⟨(f7 i e he).1,fun c x hx=>?_⟩);obtain⟨v,hv,hc⟩:=(f7 i e he).2 c x hx;have hr:=hE e (Mg he) x (Mg hx) i c v hc
   refine⟨v,?_,hr,repE_one hr⟩;rw[show(g.hd q).1=b0 by rw[f1],cell_of f3,Nat.zero_add];exact hv
  split at h
  ·rename_i z' es hg;split at h
   ·rename_i hz;simp only[Oe]at h;subst h;refine⟨own z' es _ hg (.inr rfl) hz (fun e he x hx i c u hc=>?_),fun e=>by simp at e⟩;rcases hi.rowAt hg (.inr rfl)with⟨e',_⟩|⟨_,u',b,cap,cur,t,e1,e2,e3,e4,e5,e6,e7,e8⟩
    ·cases e'
    ·rcases hc with hc|hc
     ·obtain⟨i',hi'⟩:=List.mem_iff_getElem?.1 he;obtain⟨c',hc'⟩:=List.mem_iff_getElem?.1 hx;obtain⟨v,_,hr⟩:=(e8 i' e hi').2 c' x hc';cases hc with
      |imm _ _ _ hI ha=>exact repE_leaf ha hI
      |own _ z0 es0 _ _ _ _ _ _ _ _ _ _ _ _ _ _=>exact absurd hr.1 (by simp[A.leaf])
     ·exact hc
   ·cases h
  ·rename_i z' es hg;split at h
   ·rename_i hz;split at h
    ·rename_i hv;simp only[Oe]at h;subst h;have hvv:∀ e,e∈es-> ∀x,x∈e->A.isV x=true:=fun e he x hx=>List.all_eq_true.1 (List.all_eq_true.1 hv e he) x hx
     refine⟨own z' es _ hg (.inl rfl) hz (fun e he x hx i c u hc=>isV_repE (hvv e he x hx) hc),fun _ e he x hx=>?_⟩;have:=hvv e he x hx
     cases x<;>simp[A.isV]at this;rfl
    ·cases h
   ·cases h
  ·cases h
 ·rename_i q lo hh;split at h
  ·rename_i z' es hrow;split at h
   ·rename_i hz;subst hz;split at h
    ·rename_i hv;simp only[Oe]at h;subst h;have hvv:∀ e,e∈es-> ∀x,x∈e->A.isV x=true:=fun e he x hx=>List.all_eq_true.1 (List.all_eq_true.1 hv e he) x hx
     obtain⟨l1,l2,oa,e1,hoa⟩:=(repT_sub r).2.2 z' es.length (by simp only[St.view,St.R,hrow]);obtain⟨b0,cap0,cur,tt,f1,f2,f3,f4,f5,f6,f7⟩:=hi.row hrow;have hlen:((es.take hh).drop lo).length=hh-lo:=by simp;omega
     have get:∀ (i:Nat) e,((es.take hh).drop lo)[i]?=some e->es[lo+i]?=some e:=by
      intro i e0 he0;rw[List.getElem?_drop,List.getElem?_take]at he0;split at he0
      ·exact he0
      ·cases he0
     refine⟨?_,fun _ e he x hx=>?_⟩
     ·by_cases hlt:lo<hh
      ·rw[hoa (.inl hlt)]at e1;refine news_of (b:=(g.hd q).1) (off:=lo*z') (cap:=(g.hd q).2-lo) (by rw[hlen];exact e1) (fun i e he=>?_);have he':=get i e he
       refine⟨(f7 _ e he').1,fun c x hx=>?_⟩;obtain⟨v,hv',hc⟩:=(f7 _ e he').2 c x hx;have hr:=isV_repE (hvv e (Mg he') x (Mg hx)) hc
       refine⟨v,?_,hr,repE_one hr⟩;rw[show(g.hd q).1=b0 by rw[f1],cell_of f3,show lo*z'+(i*z'+c)=(lo+i)*z'+c by rw[Nat.add_mul];omega];exact hv'
      ·have h0:(es.take hh).drop lo=[]:=List.eq_nil_of_length_eq_zero (by omega);have hz0:hh-lo=0:=by omega
       rw[hz0]at e1;rw[h0];exact .inl ⟨rfl,some oa,_,e1⟩
     ·have:=hvv e (List.mem_of_mem_take (List.mem_of_mem_drop he)) x hx;cases x<;>simp[A.isV]at this;rfl
    ·cases h
   ·cases h
  ·cases h
 ·cases h
end
end Go.Ab
end
section
namespace Go.Ab
open Go.RowKit
variable {w:World} {tv tl:Nat->Value}
theorem Inv.keeps{g g':G}{σ:St}{w':World}(h:Inv g σ w tv tl)(hk:Keeps (.loc σ.ls.length) g w g' w'):Inv g' σ w' tv tl:=by
 have tr:∀ (p:Pl) (V:Vw),p.r≠ .loc σ.ls.length->V.R=σ.R->V.nl<=σ.ls.length-> ∀rs as,Tr p g w V g' w' V rs as:=by
  intro p V hp hR hl rs as;have hroot:∀ q,V.ok q->q.r≠ .loc σ.ls.length:=fun q hq=>ok_root hq hl
  refine{hk.stays hp with blk:=fun b _=>by rw[hk.blk],nb:=Nat.le_refl _,ok:=fun _ _ h=>h,ref:=fun q _ hq=> .inr ⟨rfl,hk.hd q (hroot q hq)⟩,app:=fun q _ hq=>?_};cases hn:V.R q with
  |none=>exact .inl rfl
  | some zn=>
    rw[hR]at hn;exact .inr ⟨hk.row q _ (hroot q hq) (h.owns hn),fun b hb=>⟨hk.owt q b (hroot q hq) hb,hk.rowt q b (hroot q hq) hb⟩⟩
 refine⟨fun n y hy=>?_,fun k y hy=>?_,fun b y hy=>(h.boxes b y hy).keeps (by simp) hk (Nat.le_refl _),hk.lt h.lt⟩
 ·exact(h.vars n y hy).tr (tr _ σ.view0 (by simp) rfl (Nat.zero_le _) _ _) (fun _ h=>h) (fun _ h=>h)
 ·have hkk:k<σ.ls.length:=(Ge hy).1;exact(h.locs k y hy).tr (tr _ σ.view (by simp;omega) rfl (Nat.le_refl _) _ _) (fun _ h=>h) (fun _ h=>h)
theorem setChild_same{a x:A}{q:Nat×Nat}(h:child a q=some x):setChild a q x=a:=by
 obtain⟨i,c⟩:=q;cases a with
 | own z es=>
   simp only[child]at h;split at h
   ·rename_i e he;simp only[setChild,he]
    have h1:e.set c x=e:=by
     apply List.ext_getElem?;intro j
     by_cases hj:c=j
     ·subst hj;rw[List.getElem?_set_self (Ge h).1,h]
     ·rw[List.getElem?_set_ne hj]
    have h2:es.set i e=es:=by
     apply List.ext_getElem?;intro j
     by_cases hj:i=j
     ·subst hj;rw[List.getElem?_set_self (Ge he).1,he]
     ·rw[List.getElem?_set_ne hj]
    rw[h1,h2]
   ·cases h
 | bld z es=>
   simp only[child]at h;split at h
   ·rename_i e he;simp only[setChild,he]
    have h1:e.set c x=e:=by
     apply List.ext_getElem?;intro j
     by_cases hj:c=j
     ·subst hj;rw[List.getElem?_set_self (Ge h).1,h]
     ·rw[List.getElem?_set_ne hj]
    have h2:es.set i e=es:=by
     apply List.ext_getElem?;intro j
     by_cases hj:i=j
     ·subst hj;rw[List.getElem?_set_self (Ge he).1,he]
     ·rw[List.getElem?_set_ne hj]
    rw[h1,h2]
   ·cases h
 | agg cs=>
   cases i with
   |succ i=>simp[child]at h
   | zero=>
     simp only[child]at h;simp only[setChild];congr 1;apply List.ext_getElem?;intro j
     by_cases hj:c=j
     ·subst hj;rw[List.getElem?_set_self (Ge h).1,h]
     ·rw[List.getElem?_set_ne hj]
 | tup vs=>
   cases c with
   |succ c=>simp[child]at h
   | zero=>
     simp only[child]at h;simp only[setChild];congr 1;apply List.ext_getElem?;intro j
     by_cases hj:i=j
     ·subst hj;rw[List.getElem?_set_self (Ge h).1,h]
     ·rw[List.getElem?_set_ne hj]
 |_=>simp[child]at h
theorem setS_same:∀ (s:List (Nat×Nat)) {a x:A},getS a s=some x->setS a s x=a
 |[],a,x,h=>by simp only[getS,Oe]at h;simp[setS,h]
 | q::s,a,x,h=>by
   simp only[getS]at h;cases hc:child a q with
   |none=>rw[hc]at h;cases h
   | some y=>
     rw[hc]at h;simp only[setS,hc,setS_same s h];exact setChild_same hc
theorem list_set_same{α:Type}{l:List α}{i:Nat}{x:α}(h:l[i]?=some x):l.set i x=l:=by
 apply List.ext_getElem?;intro j
 by_cases hj:i=j
 ·subst hj;rw[List.getElem?_set_self (Ge h).1,h]
 ·rw[List.getElem?_set_ne hj]
theorem set_same{σ:St}{p:Pl}{y:A}(h:σ.get p=some y):σ.set p y=σ:=by
 unfold St.get at h;unfold St.set;cases hr:σ.root p.r with
 |none=>rfl
 | some a=>
   rw[hr]at h;dsimp only at h ⊢
   rw[setS_same p.s h];cases hp:p.r with
   |var n=>rw[hp]at hr;simp only[St.root]at hr;simp only[St.setRoot,list_set_same hr]
   |loc n=>rw[hp]at hr;simp only[St.root]at hr;simp only[St.setRoot,list_set_same hr]
   |hand k=>rfl
   | box b c=>
     rw[hp]at hr;simp only[St.root]at hr;cases hcs:σ.bx[b]? with
     |none=>rw[hcs]at hr;cases hr
     | some x=>
       rw[hcs]at hr;cases x with
       |cells cs=>simp only at hr;simp only[St.setRoot,hcs,list_set_same hr,list_set_same hcs]
       |map es=>cases hr
       |gone=>cases hr
theorem Inv.spare{g:G}{σ:St}(h:Inv g σ w tv tl){p:Pl}(hp:noHand p){y:A}{z:Nat}{es:List (List A)}(hg:σ.get p=some y)(hy:isRowOf y z es)(has:∀ r,AppIn σ r-> ¬p.under r)
  {b cap:Nat} {cur:Array Value} {t:TypeId} (hhd:g.hd p=(b,cap)) (hcur:w.heap[b]?=some (.cells cur t (0,0))) {k:Nat} {us:List Value} (hk:es.length*z<=k) (hfit:k+us.length<=cur.size):
  Inv g σ (w.setRow b (seg cur k us)) tv tl:=by
 have hrow:σ.row p=some (z,es):=by rcases hy with rfl|rfl;exact row_own hg;exact row_bld hg
 obtain⟨b0,cap0,cur0,t0,f1,f2,f3,f4,f5,f6,f7⟩:=h.row hrow;rw[hhd]at f1;cases f1;rw[hcur]at f3;cases f3;have hcur':(w.setRow b (seg cur k us)).heap[b]?=some (.cells (seg cur k us) t (0,0)):=setRow_heap w b cur _ t _ hcur
 have other:∀ {i o},g.ow i=some o->o≠ .row p->(w.setRow b (seg cur k us)).heap[i]?=w.heap[i]?:=by
  intro i o ho hne;refine setRow_other w b i _ (fun e'=>hne ?_);rw[e',f2]at ho;injection ho with ho
  exact ho.symm
 have later:Later g w g (w.setRow b (seg cur k us)):=
  ⟨by simp,fun _ _ hk=>hk,fun i _ hi=>setRow_other w b i _ (fun e'=>by rw[e',f2]at hi;cases hi),fun i _ hi=>⟨hi,setRow_other w b i _ (fun e'=>by rw[e',f2]at hi;cases hi)⟩⟩
 have kp:KeepsP p g w g (w.setRow b (seg cur k us)):=
  { later with
    blk:=rfl,hd:=fun _ _ _=>rfl,ow:=fun _ _ _ _ h=>h
    row:=fun q i hq _ ho=>other ho (fun e'=>by injection e' with e';exact hq (e' ▸ Pl.under_refl p))
    owb:=fun _ _ h=>h,rowb:=fun i j ho=>other ho (by simp)
    owt:=fun _ _ _ h=>h,rowt:=fun q i _ ho=>other ho (by simp)
    lt:=fun hlt i hi=>by rw[setRow_size];exact hlt i hi}
 have old:∀ (i c:Nat) e x,es[i]?=some e->e[c]?=some x->e.length=z->(seg cur k us)[i*z+c]?=cur[i*z+c]?:=by
  intro i c e x he hx hez;have h1:i<es.length:=(Ge he).1
  have h2:c<z:=by rw[<-hez];exact(Ge hx).1
  have:i*z+z<=es.length*z:=by rw[<-Nat.succ_mul];exact Nat.mul_le_mul_right _ h1
  exact seg_out hfit (by omega)
 have inner:∀ i c,Stays (p.at i c) g w g (w.setRow b (seg cur k us)):=fun i c=>
  { later with hd:=fun _ _ => rfl,ow:=fun _ _ _ h => h,row:=fun r j hr ho => other ho (fun e' => by
     injection e' with e'
     subst e'
     obtain⟨_,s,hs⟩:=hr
     have:=congrArg List.length hs
     simp[Pl.at]at this)}
 have st:=h.turn (y':=y) hp hg hy kp (fun V V' hV hV' hnl=>?_) (fun q _ _=> .inr ⟨by rw[set_same hg],rfl⟩) (fun q hu hr=>absurd hu (has q hr)) (by rcases hy with rfl|rfl<;>(intro cs e;cases e)) (by rcases hy with rfl|rfl<;>(intro cs e;cases e))
 ·rwa [set_same hg]at st
 ·refine⟨fun z' es' u ey hu=>?_,fun z' es' u ey hu=>?_⟩
  ·subst ey;rcases hy with hy|hy<;>cases hy
   obtain⟨⟨b1,cap1,cur1,t1,g1,g2,g3,g4,g5,g6,g7⟩,hv⟩:=hu.rowOK;rw[hhd]at g1;cases g1;rw[hcur]at g3;cases g3;rw[hv];refine RepO.of_rowOK ⟨b,cap,_,t,hhd,f2,hcur',by rw[seg_size hfit,f4],f5,f6,fun i e he=>⟨(g7 i e he).1,fun c x hx=>?_⟩⟩;obtain⟨u',hu',hr⟩:=(g7 i e he).2 c x hx;exact⟨u',by rw[old i c e x he hx (g7 i e he).1];exact hu',hr.stays (inner i c)⟩
  ·subst ey;rcases hy with hy|hy<;>cases hy
   obtain⟨b1,cap1,cur1,t1,e1,e2,e3,e4,e5,e6,e7,e8⟩:=hu;rw[hhd]at e2;cases e2;rw[hcur]at e4;cases e4;simp only[RepL];refine⟨b,cap,_,t,e1,hhd,f2,hcur',by rw[seg_size hfit,f4],f5,f6,fun i e he=>⟨(e8 i e he).1,fun c x hx=>?_⟩⟩;obtain⟨u',hu',hr⟩:=(e8 i e he).2 c x hx;refine⟨u',by rw[old i c e x he hx (e8 i e he).1];exact hu',?_⟩
   have hVR:V'.R=V.R:=by
    rcases hV with rfl|rfl<;>rcases hV' with rfl|rfl<;>simp only[St.view,St.view0,set_same hg]
   have hVb:V'.nb=V.nb:=by
    rcases hV with rfl|rfl<;>rcases hV' with rfl|rfl<;>simp only[St.view,St.view0,set_same hg]
   have hVV:V'=V:=by cases V;cases V';simp_all
   rw[hVV]
   cases x<;>first
    |exact hr
    |exact⟨hr.1,hr.2.later later⟩
end Go.Ab
end
section
namespace Go.Ab
open Go.RowKit
variable {w:World} {tv tl:Nat->Value}
def ORes(P:Program)(o:Oper)(ρ:Operand->Value)(tv tl:Nat->Value)(g:G)(σ:St)(w:World)(x:A)(σ':St):Prop:=
 ∃v w' g' nx,(execOp ρ o).run P w= .ok nx w'/\(nx= .value v\/nx= .skip/\v=undef)/\Inv g' σ' w' tv tl/\Later g w g' w'/\Same w w'/\BX g σ g' σ'/\σ'.ls.length=σ.ls.length/\
  RepT g' w' σ'.view ⟨.loc σ'.ls.length,[]⟩ x v
theorem IRes.o{P:Program}{o:Oper}{ρ:Operand->Value}{g:G}{σ σ':St}{x:A}(h:IRes P o ρ tv tl g σ w x σ'):ORes P o ρ tv tl g σ w x σ':=
 let ⟨v,w',g',nx,h1,h2,h3,h4,h5,h6,h7,h8,_⟩:=h
 ⟨v,w',g',nx,h1,h2,h3,h4,h5,h6,h7,h8 _⟩
theorem PRes.o{P:Program}{o:Oper}{ρ:Operand->Value}{g:G}{σ:St}{x:A}(hi:Inv g σ w tv tl)(h:PRes P o ρ g σ w x):ORes P o ρ tv tl g σ w x σ:=
 let ⟨v,w',g',h1,h2,h3,h4⟩:=h
 ⟨v,w',g',.value v,h1,.inl rfl,hi.keeps h2,h2.toLater,h3,BX.same h2.blk rfl,rfl,h4⟩
section
variable {P:Program}
theorem run_app_empty{t e ty:TypeId}{i:TypeInfo}(ht:P.underlying t=some (.slice e))(hi:P.info? e=some i)(base oa:Option Addr)(n cap c:Nat)(h:n<=cap)(w:World):
  (Builtin.append_ #[t,t] ty #[.slice base n cap,.slice oa 0 c]).run P w= .ok (.slice base n cap) w:=by
 cases base<;>cases oa<;>simp[Builtin.append_,run_underlying ht,sizeOf,typeInfo,hi,Builtin.lenOf,Builtin.firstCells,h,loadCells,loadCellsFrom,storeCells]
theorem run_app_room{t e ty tt:TypeId}{i:TypeInfo}(ht:P.underlying t=some (.slice e))(hi:P.info? e=some i)(b n cap:Nat)(cur:Array Value)(hg:w.heap[b]?=some (.cells cur tt (0,0)))
  (a:Addr) (m c:Nat) (news:List Value) (hl:news.length=m*i.size) (hnews:∀ j u,news[j]?=some u->w.cell? (a.add j)=some u) (h1:∀ u∈news,u.oneCell'=true) (hroom:n+m<=cap) (hfit:n*i.size+news.length<=cur.size):
  (Builtin.append_ #[t,t] ty #[.slice (some ⟨b,0,none⟩) n cap,.slice (some a) m c]).run P w= .ok (.slice (some ⟨b,0,none⟩) (n+m) cap) (w.setRow b (seg cur (n*i.size) news)):=by
 have hf:=run_firstCells_some (P:=P) w i.size m a m c news hl hnews;have hst:=run_storeRow (P:=P) (B:=b) (off:=n*i.size) hg hfit h1
 simp[Builtin.append_,run_underlying ht,sizeOf,typeInfo,hi,Builtin.lenOf,hroom,hf,add_lit,hst]
end
def tmpG(g:G)(w:World)(p:Pl):G where
 ow b:=if b=w.heap.size then some (.tmp p)else g.ow b
 hd:=g.hd
 blk:=g.blk
theorem tmpG_keeps{g:G}(p:Pl)(r:Rt)(hlt:∀ b,g.ow b≠none->b<w.heap.size){w':World}{x:Obj}(hw:w'.heap=w.heap.push x):Keeps r g w (tmpG g w p) w':=by
 have ne:∀ {b o},g.ow b=some o->b≠w.heap.size:=fun{b o} h e=>by
  have:=hlt b (by rw[h];simp);omega
 have keep:∀ {b o},g.ow b=some o->(tmpG g w p).ow b=some o:=fun{b o} h=>by
  simp only[tmpG];rw[if_neg (ne h)];exact h
 refine{size:=by rw[hw];simp,free:=?_,same:=fun b hb _=>push_old hw hb,frn:=fun b hb h=>⟨keep h,push_old hw hb⟩,blk:=rfl,hd:=fun _ _=>rfl,ow:=fun _ _ _ h=>keep h,row:=fun q b _ h=>push_old hw (hlt b (by rw[h];simp)),owb:=fun _ _ h=>keep h,rowb:=fun b _ h=>push_old hw (hlt b (by rw[h];simp)),owt:=fun _ _ _ h=>keep h,rowt:=fun q b _ h=>push_old hw (hlt b (by rw[h];simp)),lt:=?_}
 ·intro b hb h;simp only[tmpG];rw[if_neg (by omega)];exact h
 ·intro _ b hb;rw[hw,Array.size_push];simp only[tmpG]at hb
  by_cases e:b=w.heap.size
  ·omega
  ·rw[if_neg e]at hb;have:=hlt b hb
   omega
theorem appOn_mem{σ:St}{r:Rt}(h:(σ.vs++σ.ls).any (appOn r)=false){q:Pl}(hq:AppIn σ q):q.r.same r=false:=by
 have key:∀ x,x∈σ.vs++σ.ls->q∈appsT x->q.r.same r=false:=by
  intro x hx hqx;have hx':=List.any_eq_false.1 h x hx
  have leaf:∀ y:A,q∈appsL y->appOnL r y=false->q.r.same r=false:=by
   intro y hy h;cases y<;>simp[appsL]at hy;subst hy;simpa[appOnL]using h
  have agg:∀ y:A,q∈appsA y->(match y with| .agg cs=>cs.any (appOnL r)|x=>appOnL r x)=false->q.r.same r=false:=by
   intro y hy h;cases y
   case agg cs=>
    simp only[appsA,List.mem_flatMap]at hy;obtain⟨z,hz,hqz⟩:=hy;have:=List.any_eq_false.1 h z hz
    exact leaf z hqz (by simpa using this)
   all_goals exact leaf _ (by simpa only[appsA]using hy) h
  cases x
  case tup vs=>
   simp only[appsT,List.mem_flatMap]at hqx;obtain⟨z,hz,hqz⟩:=hqx;simp only[appOn,Bool.not_eq_true]at hx';have:=List.any_eq_false.1 hx' z hz
   exact agg z hqz (by
    cases z<;>simpa using this)
  all_goals exact agg _ (by simpa only[appsT]using hqx) (by simpa only[appOn,Bool.not_eq_true]using hx')
 rcases hq with⟨n,x,hx,hq⟩|⟨n,x,hx,hq⟩
 ·exact key x (List.mem_append_left _ (Mg hx)) hq
 ·exact key x (List.mem_append_right _ (Mg hx)) hq
section
variable {P:Program} {c:TC} {o:Oper} {ρ:Operand->Value} {g:G} {σ:St}
theorem repE_spare{V:Vw}{w':World}(hl:Later g w g w'){x:A}{u:Value}(r:RepE g w V x u):RepE g w' V x u:=by
 cases x<;>first
  |exact r
  |exact⟨r.1,r.2.later hl⟩
theorem op_app(h:Cx P c o ρ tv tl g σ w){cl:Call}{t e:TypeId}{s x:Operand}(hop:o.op= .call cl)(hcl:cl.callee= .builtin .append)(hty:cl.argTypes= #[t,t])(hargs:cl.args= #[s,x])(ht:P.underlying t=some (.slice e))
  {i:TypeInfo} (he:P.info? e=some i) {zs:List A} (hz:zeroA P e=some zs) (hzl:zs.length=P.cellsOf e) {ds dx:Opd} (hs:c.opd s=some ds) (hx:c.opd x=some dx) {y:A} {σ':St}
  (hy:aop σ (.app (P.cellsOf e) (P.bytesOf e) ds dx)=some (y,σ')):ORes P o ρ tv tl g σ w y σ':=by
 have hsz:i.size=P.cellsOf e:=by simp[Program.cellsOf,he]
 have hbb:i.bytes=P.bytesOf e:=by simp[Program.bytesOf,he]
 obtain⟨i',zv,hi',hzv,hzc⟩:=zeroA_ok (w:=w) hz g σ.view;rw[he]at hi';simp only[Oe]at hi';subst hi';have hvs:zv.cells.size=P.cellsOf e:=by rw[<-hzl,hzc.1];simp
 have run:∀ v w',(Builtin.append_ #[t,t] o.type #[ρ s,ρ x]).run P w= .ok v w'->(execOp ρ o).run P w= .ok (.value v) w':=by
  intro v w' hr;simp[execOp,hop,resolve,hcl,invoke,builtin,hty,hargs,hr]
 simp only[aop]at hy;split at hy
 ·rename_i a b ha hb;have ra:=(rd_ok h.L h.I hs ha ⟨.loc 0,[]⟩).1
  have rb:=(rd_ok h.L h.I hx hb ⟨.loc 0,[]⟩).1;split at hy
  ·rename_i cc hcc;obtain⟨hnews,hleaf,hrefs⟩:=newsA_ok h.I hcc rb;obtain⟨fl,el⟩:=cc;simp only at hnews hleaf hrefs hy;split at hy
   ·rename_i hby;split at hy
    ·-- to nil
     have es:=repT_v ra;split at hy
     ·rename_i hemp;simp only[Oe,Prod.mk.injEq]at hy;obtain⟨rfl,rfl⟩:=hy;have hel:el=[]:=by simpa using hemp
      subst hel
      have hu:∃ oa cap,ρ x= .slice oa 0 cap:=by
       rcases hnews with⟨_,h⟩|⟨b,off,cap,us,h,_⟩
       ·exact h
       ·exact⟨_,cap,h⟩
      obtain⟨oa,cap,hu⟩:=hu;exact PRes.o h.I (PRes.same (v:=.slice none 0 0) (run _ _ (by rw[es,hu];exact run_app_empty ht he none oa 0 0 cap (Nat.le_refl _) w)) (RepT.v rfl))
     ·rename_i hemp;split at hy
      ·rename_i hbd;rcases hnews with⟨rfl,_⟩|⟨b0,off0,cap0,us,hu,hcell,⟨hul,hrow⟩,hone⟩
       ·simp at hemp
       ·have hm0:0<el.length:=by
         cases el with
         |nil=>simp at hemp
         |cons a l=>simp
        have hb32:bound=4294967296:=rfl;rw[hb32]at hbd
        have hr:=run_append_nil (P:=P) w t o.type e i zv ht he hzv ⟨b0,off0,none⟩ el.length cap0 us (by rw [hsz]; exact hul) (fun j v hj => by rw [add_lit]; exact hcell j v hj) hm0 (by omega) (by
         rw[hbb]
         calc el.length*P.bytesOf e<=4294967296*4096:=Nat.mul_le_mul hbd hby
          _<=281474976710656:=by omega)
        have hge:=grownCap_ge w el.length 0 e;have hcm:=grownCap_le_maxLen w el.length 0 e (by simp only[maxLen];omega)
        generalize hgc:grownCap w el.length 0 e=gc at hr hge hcm;generalize hC:us.toArray++Builtin.zeroCells zv.cells (gc-el.length)=C at hr
        have hCs:C.size=gc*P.cellsOf e:=by
         rw[<-hC,Array.size_append,size_zeroCells,hvs,List.size_toArray,hul,<-Nat.add_mul];congr 1;omega
        have hCg:∀ (j:Nat) v,us[j]?=some v->C[j]?=some v:=by
         intro j v hj;have hlt:j<us.length:=(Ge hj).1
         rw[<-hC,Array.getElem?_append_left (by simpa using hlt)];simpa using hj
        have hw:(w.drew.alloc (.cells C e)).heap=w.heap.push (.cells C e):=rfl;have hk:=newG_keeps (g:=g) (w:=w) (w':=w.drew.alloc (.cells C e)) (x:=.cells C e) σ.ls.length gc h.I.lt hw
        have hnew:(w.drew.alloc (.cells C e)).heap[w.heap.size]?=some (.cells C e (0,0)):=heap_new w.drew _
        have fin:∀ yy,(yy= .bld (P.cellsOf e) el\/yy= .own (P.cellsOf e) el/\fl=false)->ORes P o ρ tv tl g σ w yy σ:=by
         intro yy hyy;refine⟨_,_,newG g w σ.ls.length gc,.value _,run _ _ (by rw[es,hu];exact hr),.inl rfl,h.I.keeps hk,hk.toLater,⟨rfl,rfl,rfl⟩,BX.same hk.blk rfl,rfl,?_⟩;rcases hyy with rfl|⟨rfl,hfl⟩
         ·simp only[RepT,RepA,RepL];refine⟨w.heap.size,gc,C,e,rfl,newG_hd _ _,newG_ow _ _,hnew,hCs,hge,hcm,fun i e0 he0=>⟨(hrow i e0 he0).1,fun c x hx=>?_⟩⟩;obtain⟨v,hv,hr'⟩:=(hrow i e0 he0).2 c x hx;exact⟨v,hCg _ _ hv,RepE.keeps (Nat.le_refl _) hk hr'⟩
         ·simp only[RepT,RepA,RepL,RepC];have:(Value.slice (some ⟨w.heap.size,0,none⟩) el.length gc)= .slice (some ⟨((newG g w σ.ls.length gc).hd ⟨.loc σ.ls.length,[]⟩).1,0,none⟩) el.length ((newG g w σ.ls.length gc).hd ⟨.loc σ.ls.length,[]⟩).2:=by rw[newG_hd]
          rw[this];refine RepO.of_rowOK ⟨w.heap.size,gc,C,e,newG_hd _ _,newG_ow _ _,hnew,hCs,hge,hcm,fun i e0 he0=>⟨(hrow i e0 he0).1,fun c x hx=>?_⟩⟩;obtain⟨v,hv,hr'⟩:=(hrow i e0 he0).2 c x hx;have hlx:=hleaf hfl e0 (Mg he0) x (Mg hx)
          refine⟨v,hCg _ _ hv,.imm _ _ _ (RepI.later hk.toLater ?_) hlx⟩
          cases x<;>simp only[RepE]at hr'<;>first
           |exact hr'.2
           |(simp[A.leaf]at hlx;done)
        split at hy
        ·simp only[Oe,Prod.mk.injEq]at hy;obtain⟨rfl,rfl⟩:=hy;exact fin _ (.inl rfl)
        ·rename_i hfl;simp only[Oe,Prod.mk.injEq]at hy;obtain⟨rfl,rfl⟩:=hy;exact fin _ (.inr ⟨rfl,by simpa using hfl⟩)
      ·cases hy
    ·-- to a row
     rename_i p;split at hy
     ·rename_i z' es hrow;split at hy
      ·rename_i hzz;subst hzz;split at hy
       ·rename_i hbd;split at hy
        ·cases hy
        ·rename_i hon;simp only[Oe,Prod.mk.injEq]at hy;obtain⟨rfl,rfl⟩:=hy;have hb32:bound=4294967296:=rfl
         rw[hb32]at hbd;have es1:=repS_row (repT_sref ra) hrow
         have hok:=(repT_sref ra).1;have hp:noHand p:=ok_noHand hok
         obtain⟨y0,hy0,hyz⟩:=row_get hrow;obtain⟨b1,cap1,cur,tt,f1,f2,f3,f4,f5,f6,f7⟩:=h.I.row hrow;rw[f1]at es1;simp only at es1
         have has:∀ r,AppIn σ r-> ¬p.under r:=by
          intro r hr hu;have h1:=appOn_mem (by simpa using hon) hr
          have h2:=same_self hp hu.1;rw[h1]at h2;cases h2
         have hfl1:flat [(fl,el)]=el:=by simp[flat]
         have clause:(∀c:Bool×List (List A),c∈[(fl,el)]->c.1=false-> ∀e,e∈c.2-> ∀x,x∈e->x.leaf=true):=by
          intro c hc;simp only[List.mem_singleton]at hc;subst hc;exact hleaf
         have mk:∀ v w' g',(execOp ρ o).run P w= .ok (.value v) w'->Inv g' σ w' tv tl->Later g w g' w'->Same w w'->g'.blk=g.blk->AppOK g' w' σ.view (P.cellsOf e) p es.length [(fl,el)] v->ORes P o ρ tv tl g σ w (.app (P.cellsOf e) p [(fl,el)]) σ:=by
          intro v w' g' h1 h2 h3 h4 hb h5;refine⟨v,w',g',.value v,h1,.inl rfl,h2,h3,h4,BX.same hb rfl,rfl,?_⟩;simp only[RepT,RepA,RepL];refine⟨hok,?_,⟨clause,by rw[hfl1];exact hrefs⟩,fun z' n hR _=>?_⟩
          ·obtain⟨b,cap,cur,t,e1,_⟩:=h5;rw[e1];rfl
          ·simp only[St.view,St.R,hrow,Oe,Prod.mk.injEq]at hR;rw[<-hR.2];exact h5
         rcases hnews with⟨rfl,oa,cap',hu⟩|⟨b0,off0,cap0,us,hu,hcell,⟨hul,hrw⟩,hone⟩
         ·refine mk _ w g (run _ _ (by rw[es1,hu];exact run_app_empty ht he _ _ _ _ _ f5 w)) h.I (Later.refl _ _) (Same.refl _) rfl ?_;refine⟨b1,cap1,cur,tt,by rw[hfl1];rfl,f3,f4,by rw[hfl1];simpa using f5,f6,.inl f1.symm,fun o _=>by rw[f1,cell_of f3],fun i e0 he0=>?_⟩;rw[hfl1]at he0;simp at he0
         ·have hul':us.length=el.length*i.size:=by rw[hsz];exact hul
          by_cases hroom:es.length+el.length<=cap1
          ·have hfit:es.length*P.cellsOf e+us.length<=cur.size:=by rw[f4,hul,<-Nat.add_mul];exact Nat.mul_le_mul_right _ hroom
           have hr:=run_app_room (P:=P) (ty:=o.type) ht he b1 es.length cap1 cur f3 ⟨b0,off0,none⟩ el.length cap0 us hul' (fun j v hj=>by rw[add_lit];exact hcell j v hj) hone hroom (by rw[hsz];exact hfit);rw[hsz]at hr;have inv:=h.I.spare hp hy0 hyz has f1 f3 (Nat.le_refl _) hfit
           have later:Later g w g (w.setRow b1 (seg cur (es.length*P.cellsOf e) us)):=⟨by simp,fun _ _ hk=>hk,fun i _ hi=>setRow_other w b1 i _ (fun e'=>by rw[e',f2]at hi;cases hi),fun i _ hi=>⟨hi,setRow_other w b1 i _ (fun e'=>by rw[e',f2]at hi;cases hi)⟩⟩;refine mk _ _ g (run _ _ (by rw[es1,hu];exact hr)) inv later ⟨rfl,rfl,rfl⟩ rfl ?_
           refine⟨b1,cap1,_,tt,by rw[hfl1],setRow_heap w b1 cur _ tt _ f3,by rw[seg_size hfit];exact f4,by rw[hfl1];exact hroom,f6,.inl f1.symm,fun o _=>by rw[f1,cell_of (setRow_heap w b1 cur _ tt _ f3)],fun i e0 he0=>?_⟩;rw[hfl1]at he0;refine⟨(hrw i e0 he0).1,fun c x hx=>?_⟩;obtain⟨v,hv,hr'⟩:=(hrw i e0 he0).2 c x hx;have hlt:=(Ge hv).1
           refine⟨v,?_,repE_spare later hr'⟩;rw[Nat.add_mul,Nat.add_assoc,seg_in hfit hlt];exact hv
          ·have hfit0:es.length*P.cellsOf e<=cur.size:=by rw[f4];exact Nat.mul_le_mul_right _ f5
           have hol:(cur.toList.take (es.length*P.cellsOf e)).length=es.length*i.size:=by rw[hsz];simp;omega
           have hoc:∀ (j:Nat) v,(cur.toList.take (es.length*P.cellsOf e))[j]?=some v->w.cell? ((⟨b1,0,none⟩:Addr).add j)=some v:=by
            intro j v hj;rw[List.getElem?_take]at hj;split at hj
            ·rw[add_lit,Nat.zero_add];have:=cell_of (o:=j) f3
             simp only[cell]at this;rw[this];simpa using hj
            ·cases hj
           have hfits:Builtin.nextslicecap (es.length+el.length) cap1*i.bytes<=281474976710656:=by
            refine growslice_fits (by omega) ?_;rw[hbb]
            calc (es.length+el.length)*P.bytesOf e<=4294967296*4096:=Nat.mul_le_mul hbd hby
             _<=140737488355328:=by omega
           have hr:=run_append_grow (P:=P) w t o.type e i zv ht he hzv ⟨b1,0,none⟩ es.length cap1 _ hol hoc ⟨b0,off0,none⟩ el.length cap0 us hul' (fun j v hj=>by rw[add_lit];exact hcell j v hj) (by omega) (by omega) hfits;have hge:=grownCap_ge w (es.length+el.length) cap1 e
           have hcm:=grownCap_le_maxLen w (es.length+el.length) cap1 e (by simp only[maxLen];omega);generalize hgc:grownCap w (es.length+el.length) cap1 e=gc at hr hge hcm;generalize hC:(cur.toList.take (es.length*P.cellsOf e)).toArray++us.toArray++Builtin.zeroCells zv.cells (gc-(es.length+el.length))=C at hr
           have hol':(cur.toList.take (es.length*P.cellsOf e)).length=es.length*P.cellsOf e:=by rw[hol,hsz]
           have hCs:C.size=gc*P.cellsOf e:=by
            rw[<-hC,Array.size_append,Array.size_append,size_zeroCells,hvs,List.size_toArray,List.size_toArray,hul,hol',<-Nat.add_mul,<-Nat.add_mul];congr 1;omega
           have hCl:C.toList=cur.toList.take (es.length*P.cellsOf e)++(us++(Builtin.zeroCells zv.cells (gc-(es.length+el.length))).toList):=by
            rw[<-hC];simp
           have hCo:∀ (j:Nat),j<es.length*P.cellsOf e->C[j]?=cur[j]?:=by
            intro j hj;rw[<-Array.getElem?_toList,hCl,List.getElem?_append_left (by rw[hol'];exact hj),List.getElem?_take,if_pos hj];simp
           have hCn:∀ (j:Nat) v,us[j]?=some v->C[es.length*P.cellsOf e+j]?=some v:=by
            intro j v hj;have hlt:=(Ge hj).1
            rw[<-Array.getElem?_toList,hCl,List.getElem?_append_right (by rw[hol'];omega),hol',Nat.add_sub_cancel_left,List.getElem?_append_left hlt];exact hj
           have hw:(w.drew.alloc (.cells C e)).heap=w.heap.push (.cells C e):=rfl;have hk:=tmpG_keeps (g:=g) (w:=w) p (.loc σ.ls.length) h.I.lt (w':=w.drew.alloc (.cells C e)) hw
           have hnew:(w.drew.alloc (.cells C e)).heap[w.heap.size]?=some (.cells C e (0,0)):=heap_new w.drew _;refine mk _ _ (tmpG g w p) (run _ _ (by rw[es1,hu];exact hr)) (h.I.keeps hk) hk.toLater ⟨rfl,rfl,rfl⟩ hk.blk ?_;refine⟨w.heap.size,gc,C,e,by rw[hfl1],hnew,hCs,by rw[hfl1];exact hge,hcm,.inr (by simp[tmpG]),fun o ho=>?_,fun i e0 he0=>?_⟩
           ·show cell _ (g.hd p).1 o=_
            rw[f1,hCo o ho];have hb1:b1<w.heap.size:=heap_lt f3
            rw[cell_congr (push_old hw hb1),cell_of f3]
           ·rw[hfl1]at he0;refine⟨(hrw i e0 he0).1,fun c x hx=>?_⟩;obtain⟨v,hv,hr'⟩:=(hrw i e0 he0).2 c x hx;refine⟨v,?_,RepE.keeps (Nat.le_refl _) hk hr'⟩;rw[Nat.add_mul,Nat.add_assoc];exact hCn _ _ hv
       ·cases hy
      ·cases hy
     ·cases hy
    ·cases hy
   ·cases hy
  ·cases hy
 ·cases hy
end
end Go.Ab
end
section
namespace Go.Ab
open Go.RowKit
variable {w:World} {tv tl:Nat->Value}
section
variable {P:Program} {c:TC} {o:Oper} {ρ:Operand->Value} {g:G} {σ:St}
theorem caught_repK{V:Vw}{p:Pl}{x:A}{u:Value}(h:x.caught=true)(r:RepT g w V p x u):RepK g w V.nb x u:=by
 have leaf:x.leafF=true->(∀b c,x≠ .pt b c)->(∀b,x≠ .mp b)->RepK g w V.nb x u:=by
  intro hl h1 h2;have hlf:=leafF_leaf hl
  cases x<;>simp[A.leaf]at hlf
  all_goals
   simp only[RepT,RepA,RepL,RepC]at r
   first
    |(cases r with|imm _ _ _ hi ha=>simpa only[RepK]using hi)
    |skip
  rename_i f a b;cases a<;>cases b<;>simp at hlf;obtain⟨us,vs,e,h1,h2,_⟩:=r;have e1:us=[]:=List.eq_nil_of_length_eq_zero (by simpa using h1.symm)
  have e2:vs=[]:=List.eq_nil_of_length_eq_zero (by simpa using h2.symm);subst e1 e2;subst e;exact .clo f
 cases x
 case pt b c=>exact repT_pt r
 case mp b=>exact repT_mp r
 all_goals first
  |exact leaf h (by simp) (by simp)
  |(simp[A.caught,A.leafF]at h;done)
theorem op_mkclo(h:Cx P c o ρ tv tl g σ w){f:Nat}{xs ys:Array Operand}(hop:o.op= .makeFunc (.func f) xs ys){dx dy:List Opd}(hx:c.opds xs=some dx)(hy:c.opds ys=some dy){r:A}(hr:pop σ (.mkclo f dx dy)=some r):PRes P o ρ g σ w r:=by
 simp only[pop]at hr;split at hr
 ·rename_i a b ha hb;split at hr
  ·rename_i hca;split at hr
   ·rename_i hcb;simp only[Oe]at hr;subst hr;obtain⟨a1,a2⟩:=rds_ok h xs.toList dx a hx ha;obtain⟨b1,b2⟩:=rds_ok h ys.toList dy b hy hb;refine PRes.same (v:=.func (.func f) (xs.map ρ) (ys.map ρ)) (by simp[execOp,hop,Instr.makeFunc]) ?_;simp only[RepT,RepA,RepL,RepC]
    refine⟨xs.toList.map ρ,ys.toList.map ρ,by rw[<-Array.toList_map,<-Array.toList_map,Array.toArray_toList,Array.toArray_toList],by rw[a1,List.length_map],by rw[b1,List.length_map],fun i x u hx hu=>?_,fun i x u hx hu=>?_⟩
    ·rw[List.getElem?_map]at hu;cases hxs:xs.toList[i]? with
     |none=>rw[hxs]at hu;cases hu
     | some z=>
       rw[hxs]at hu;simp only[Option.map_some,Oe]at hu;subst hu;exact caught_repK (List.all_eq_true.1 hca x (Mg hx)) ((a2 i z x hxs hx).1 hand0)
    ·rw[List.getElem?_map]at hu;cases hxs:ys.toList[i]? with
     |none=>rw[hxs]at hu;cases hu
     | some z=>
       rw[hxs]at hu;simp only[Option.map_some,Oe]at hu;subst hu;exact caught_repK (List.all_eq_true.1 hcb x (Mg hx)) ((b2 i z x hxs hx).1 hand0)
   ·cases hr
  ·cases hr
 ·cases hr
theorem op_sidx(h:Cx P c o ρ tv tl g σ w){t:TypeId}{x j:Operand}(hop:o.op= .index t x j)(ht:P.underlying t=some .string){d dj:Opd}(hd:c.opd x=some d)(hj:c.opd j=some dj){y:A}(hy:pop σ (.sidx d dj)=some y):PRes P o ρ g σ w y:=by
 simp only[pop]at hy;split at hy
 ·rename_i s k i hr hri;have e1:=repT_v (rd_ok h.L h.I hd hr hand0).1
  have e2:=repT_v (rd_ok h.L h.I hj hri hand0).1;split at hy
  ·rename_i n hn;obtain⟨h0,h1,rfl⟩:=asNat_some hn;simp only[Oe]at hy;subst hy;have hlt:i.toNat<s.size:=by omega
   have hg:s[i.toNat]?=some s[i.toNat]:=by simp[hlt]
   have hd2:s.data.toList.getD i.toNat 0=s[i.toNat]:=by
    have:i.toNat<s.data.toList.length:=by simpa using hlt
    rw[List.getD_eq_getElem?_getD,Gg this];rfl
   rw[hd2];exact PRes.same (v:=.int .u8 (s[i.toNat]).toNat) (by simp[execOp,hop,e1,e2,Instr.index,asIntOf,run_underlying ht,h0,hg]) (RepT.v rfl)
  ·cases hy
 ·cases hy
theorem op_ifc(h:Cx P c o ρ tv tl g σ w){t:TypeId}{x:Operand}(hop:o.op= .makeInterface t x){td:TypeDesc}(ht:P.underlying t=some td)(hti:∀ ms,td≠ .interface ms){d:Opd}(hd:c.opd x=some d){y:A}{σ':St}(hy:aop σ (.ifc t d)=some (y,σ')):ORes P o ρ tv tl g σ w y σ':=by
 simp only[aop]at hy;split at hy
 ·rename_i a ha;split at hy
  ·rename_i hall;simp only[Oe,Prod.mk.injEq]at hy;obtain⟨rfl,rfl⟩:=hy;have hr:=fun q=>(rd_ok h.L h.I hd ha q).1
   have hI:RepI g w a (ρ x):=by
    have single:∀ a,a.leafF=true->(∀q,RepT g w σ.view q a (ρ x))->RepI g w a (ρ x):=by
     intro a hl hr;have r:=caught_repK (x:=a) (by cases a<;>first|exact hl|(simp[A.leafF]at hl;done)) (hr hand0)
     cases a<;>simp[A.leafF]at hl<;>simpa only[RepK]using r
    by_cases hag:∃ cs,a= .agg cs
    ·obtain⟨cs,rfl⟩:=hag;obtain⟨us,e,h1,h2⟩:=repT_agg (hr hand0);rw[e];refine .agg cs us h1 fun c x u hx hu=>?_;have hl:=List.all_eq_true.1 hall x (Mg hx)
     have r:=caught_repK (x:=x) (by cases x<;>first|exact hl|(simp[A.leafF]at hl;done)) (repT_ofL (h2 c x u hx hu));cases x<;>simp[A.leafF]at hl<;>simpa only[RepK]using r
    ·have hc1:cellsOf a=[a]:=by cases a<;>first|rfl|exact absurd ⟨_,rfl⟩ hag
     rw[hc1]at hall;exact single a (by simpa using hall) hr
   refine PRes.o h.I (PRes.same (v:=.iface t (ρ x)) ?_ (repT_ofI (.ifc t a _ hI) rfl))
   cases td<;>first
    |exact absurd rfl (hti _)
    |simp[execOp,hop,Instr.makeInterface,run_underlying ht]
  ·cases hy
 ·cases hy
end
end Go.Ab
end
section
namespace Go.Ab
open Go.RowKit
variable {w:World} {tv tl:Nat->Value}
structure RS(c:TC)(g:G)(σ:St)(w:World)(a:Act)(tv tl:Nat->Value):Prop where
 I:Inv g σ w tv tl
 L:Lk c a.eval tv tl
 sz:a.tmps.size=c.nt
 len:c.locs.length=σ.ls.length
 df:a.defers=[]
theorem put_defers{a:Act}{d:Option Nat}{v:Value}:(a.put d v).defers=a.defers:=by cases d<;>rfl
theorem eval_put_self{a:Act}{t:Nat}{v:Value}(h:t<a.tmps.size):(a.put (some t) v).eval (.tmp t)=v:=by
 simp[Act.eval,Act.put,h]
theorem eval_put_ne{a:Act}{t t':Nat}{v:Value}(h:t'≠t):(a.put (some t) v).eval (.tmp t')=a.eval (.tmp t'):=
 Act.eval_put (fun d hd e=>by cases hd;cases e;exact h rfl)
theorem put_size{a:Act}{d:Option Nat}{v:Value}:(a.put d v).tmps.size=a.tmps.size:=by cases d<;>simp[Act.put]
theorem findIdx_get{α:Type}[BEq α][LawfulBEq α]{l:List α}{x:α}{n:Nat}(h:l.findIdx? (· ==x)=some n):l[n]?=some x:=by
 rw[List.findIdx?_eq_some_iff_getElem]at h;obtain⟨h1,h2,_⟩:=h;rw[Gg h1];simpa using h2
theorem findIdx_append{α:Type}[BEq α][LawfulBEq α]{l:List α}{x y:α}{n:Nat}(h:(l++[y]).findIdx? (· ==x)=some n):l.findIdx? (· ==x)=some n\/(n=l.length/\y=x):=by
 rw[List.findIdx?_append]at h;cases hl:l.findIdx? (· ==x)with
 | some k=>
   rw[hl]at h;simp at h;exact .inl (by rw[h])
 | none=>
   rw[hl]at h;simp[List.findIdx?_cons]at h;obtain⟨k,hk⟩:=h;exact .inr ⟨hk.symm,k⟩
theorem Lk.put{c:TC}{a:Act}(h:Lk c a.eval tv tl){t:Nat}{v:Value}(hv:c.vars.findIdx? (· ==t)=none)(hl:c.locs.contains (some t)=false)(ht:t<a.tmps.size):
  Lk {c with locs:=c.locs++[some t]} (a.put (some t) v).eval tv (upd tl c.locs.length v):=by
 refine⟨fun t' n hn=>?_,fun t' k hk=>?_,fun x=>h.k x,fun n=>h.f n⟩
 ·rw[eval_put_ne,h.v t' n hn];rintro rfl;simp only at hn;rw[hv]at hn;cases hn
 ·rcases findIdx_append hk with hk|⟨rfl,e⟩
  ·have hg:=findIdx_get hk
   have hne:t'≠t:=by
    rintro rfl
    have:c.locs.contains (some t')=true:=by
     rw[List.contains_iff_mem];exact Mg hg
    rw[hl]at this;cases this
   have hlt:=(Ge hg).1;rw[eval_put_ne hne,upd_ne (by omega),h.l t' k hk]
  ·cases e;rw[eval_put_self ht,upd_self]
theorem Lk.skip{c:TC}{a:Act}(h:Lk c a.eval tv tl)(v:Value):Lk {c with locs:=c.locs++[none]} a.eval tv (upd tl c.locs.length v):=by
 refine⟨fun t' n hn=>h.v t' n hn,fun t' k hk=>?_,h.k,h.f⟩;rcases findIdx_append hk with hk|⟨_,e⟩
 ·have hlt:=(Ge (findIdx_get hk)).1;rw[upd_ne (by omega),h.l t' k hk]
 ·cases e
theorem Lk.putVar{c:TC}{a:Act}(h:Lk c a.eval tv tl){t n:Nat}{v u:Value}(hv:c.vars.findIdx? (· ==t)=some n)(hlv:∀ k:Nat,c.locs[k]?≠some (some t))(ht:t<a.tmps.size):
  Lk {c with locs:=c.locs++[none]} (a.put (some t) v).eval (upd tv n v) (upd tl c.locs.length u):=by
 refine⟨fun t' m hm=>?_,fun t' k hk=>?_,fun x=>h.k x,fun n=>h.f n⟩
 ·by_cases e:t'=t
  ·subst e;simp only at hm;rw[hv]at hm;cases hm;rw[eval_put_self ht,upd_self]
  ·have h1:=findIdx_get hv;have h2:=findIdx_get hm
   have hne:m≠n:=by
    rintro rfl;rw[h1]at h2;simp only[Oe]at h2;exact e h2.symm
   rw[eval_put_ne e,upd_ne hne,h.v t' m hm]
 ·rcases findIdx_append hk with hk|⟨_,e⟩
  ·have hg:=findIdx_get hk
   have hne:t'≠t:=by
    rintro rfl;exact hlv k hg
   have hlt:=(Ge hg).1;rw[eval_put_ne hne,upd_ne (by omega),h.l t' k hk]
  ·cases e
theorem matL_light{n:Nat}{σ:St}{a:A}{r:A×St}(h:matL n σ a=some r):a.light=true:=by
 cases n with
 |zero=>simp[matL]at h
 |succ n=>cases a<;>first|rfl|(simp[matL]at h;done)
theorem mapM'_all{α β:Type}{f:St->α->Option (β×St)}{p:α->Bool}(hf:∀ σ a r,f σ a=some r->p a=true):∀ (xs:List α) (σ:St) (r:List β×St),mapM' f σ xs=some r->xs.all p=true
 |[],σ,r,_=>rfl
 | x::xs,σ,r,h=>by
   simp only[mapM']at h;cases h1:f σ x with
   |none=>rw[h1]at h;cases h
   | some b=>
     obtain⟨b,σ1⟩:=b;rw[h1]at h;dsimp only at h;cases h2:mapM' f σ1 xs with
     |none=>rw[h2]at h;cases h
     |some b2=>simp only[List.all_cons,hf _ _ _ h1,mapM'_all hf xs σ1 b2 h2,Bool.and_self]
theorem matA_light{σ:St}{a:A}{r:A×St}(h:matA σ a=some r):lightA a=true:=by
 cases a<;>simp only[matA]at h<;>first
  |(have:=matL_light h;first|exact this|(simp[A.light]at this;done))
  |skip
 split at h
 ·rename_i cs' σ' hm;exact mapM'_all (fun σ a r h=>matL_light h) _ _ _ hm
 ·cases h
theorem mat_light{σ:St}{a:A}{r:A×St}(h:mat σ a=some r):lightT a=true:=by
 cases a<;>simp only[mat]at h<;>first
  |(have:=matA_light h;exact this)
  |skip
 split at h
 ·rename_i cs' σ' hm;exact mapM'_all (fun σ a r h=>matA_light h) _ _ _ hm
 ·cases h
theorem asg_light{σ:St}{a:A}{r:A×St}(h:asg σ a=some r):lightT a=true:=by
 cases a<;>simp only[asg]at h<;>first
  |rfl
  |exact mat_light h
  |skip
 split at h
 ·rename_i cs' σ' hm;refine mapM'_all (p:=A.light) (fun σ a r h=>?_) _ _ _ hm
  cases a<;>simp only[asgL]at h<;>first
   |rfl
   |(have:=matL_light h;exact this)
 ·cases h
theorem RS.putLoc{c:TC}{g:G}{σ:St}{a:Act}(h:RS c g σ w a tv tl){g':G}{σ':St}{w':World}(hi:Inv g' σ' w' tv tl)(hn:σ'.ls.length=σ.ls.length){x:A}{v:Value}(hx:RepT g' w' σ'.view ⟨.loc σ'.ls.length,[]⟩ x v)
  {d:Option Nat} {l:Option Nat} (hd:(d=none/\l=none)\/ ∃t,d=some t/\l=some t/\t<c.nt/\c.vars.findIdx? (· ==t)=none/\c.locs.contains (some t)=false):
  RS {c with locs:=c.locs++[l]} g' (σ'.push x) w' (a.put d v) tv (upd tl σ'.ls.length v):=by
 have e:σ'.ls.length=c.locs.length:=by rw[hn,h.len]
 refine⟨hi.push' (Keeps.refl _ _ _) hx,?_,by rw[put_size];exact h.sz,by simp[St.push,e],by rw[put_defers];exact h.df⟩;rw[e];rcases hd with⟨rfl,rfl⟩|⟨t,rfl,rfl,h1,h2,h3⟩
 ·exact h.L.skip v
 ·exact h.L.put h2 h3 (by rw[h.sz];exact h1)
theorem RS.putVar{c:TC}{g:G}{σ:St}{a:Act}(h:RS c g σ w a tv tl){g':G}{σ' σ'':St}{w':World}(hi:Inv g' σ' w' tv tl)(hn:σ'.ls.length=σ.ls.length){x:A}{v:Value}(hx:RepT g' w' σ'.view ⟨.loc σ'.ls.length,[]⟩ x v)
  {t n:Nat} (ht:t<c.nt) (hv:c.vars.findIdx? (· ==t)=some n) (hlv:∀ k:Nat,c.locs[k]?≠some (some t)) (hp:σ'.putV (.var n) x=some σ''):
  ∃g'' u,RS {c with locs:=c.locs++[none]} g'' σ'' w' (a.put (some t) v) (upd tv n v) (upd tl σ'.ls.length u)/\Later g' w' g'' w'/\BX g' σ' g'' σ'':=by
 have e:σ'.ls.length=c.locs.length:=by rw[hn,h.len]
 have hl:lightT x=true:=by
  simp only[St.putV]at hp;split at hp
  ·rename_i ha;exact asg_light ha
  ·cases hp
 obtain⟨g'',i2,l2,len2,b2,n2⟩:=hi.putV (n:=n) (u:=undef) hx hl hp;refine⟨g'',undef,⟨i2,?_,by rw[put_size];exact h.sz,by simp[len2,e],by rw[put_defers];exact h.df⟩,l2,BX.same b2 n2⟩;rw[e];exact h.L.putVar hv hlv (by rw[h.sz];exact ht)
end Go.Ab
end
section
namespace Go.Ab
open Go.RowKit
variable {w:World} {tv tl:Nat->Value}
section
variable {P:Program} {c:TC} {o:Oper} {ρ:Operand->Value} {g:G} {σ:St}
theorem aop_pop{op:AOp}{x:A}{σ':St}(h:aop σ op=some (x,σ'))(hp:(match op with| .box _=>false| .alloc _=>false| .store ..=>false| .app ..=>false| .ifc ..=>false| .mkmap=>false| .mapup ..=>false| .del ..=>false|_=>true)=true):pop σ op=some x/\σ'=σ:=by
 cases op<;>simp at hp<;>simp only[aop]at h<;>
  (split at h
   ·simp only[Oe,Prod.mk.injEq]at h
    obtain⟨rfl,rfl⟩:=h
    exact⟨by assumption,rfl⟩
   ·cases h)
theorem elemT_some{t e:TypeId}(h:elemT P t=some e):P.underlying t=some (.slice e)/\ ∃i,P.info? e=some i:=by
 unfold elemT at h;split at h
 ·rename_i e' he;split at h
  ·rename_i hi;simp only[Oe]at h;subst h;exact⟨he,Option.isSome_iff_exists.1 hi⟩
  ·cases h
 ·cases h
theorem opd_bind{α:Type}{x:Operand}{f:Opd->Option α}{r:α}(h:(do let d<-c.opd x;f d)=some r):∃ d,c.opd x=some d/\f d=some r:=by
 cases hx:c.opd x with
 |none=>rw[hx]at h;cases h
 |some d=>rw[hx]at h;exact⟨d,rfl,h⟩
theorem op_ok1(h:Cx P c o ρ tv tl g σ w){op:AOp}(ht:c.op o.op=some op){x:A}{σ':St}(hr:aop σ op=some (x,σ'))(hk:match o.op with| .move _=>True| .assign _=>True| .pick ..=>True| .box ..=>True| .alloc _=>True| .load ..=>True| .store ..=>True| .nilCheck _=>True| .unOp ..=>True| .fieldAddr ..=>True| .indexAddr ..=>True| .extract ..=>True|_=>False):ORes P o ρ tv tl g σ w x σ':=by
 have hP:=h.P;cases hop:o.op<;>rw[hop]at hk ht<;>simp only at hk
 case move y=>
  obtain⟨d,hd,e⟩:=opd_bind ht;cases e;obtain⟨h1,rfl⟩:=aop_pop hr rfl;exact(op_move h (.inl hop) hd h1).o h.I
 case assign y=>
  obtain⟨d,hd,e⟩:=opd_bind ht;cases e;obtain⟨h1,rfl⟩:=aop_pop hr rfl;exact(op_move h (.inr hop) hd h1).o h.I
 case pick a b d=>
  obtain⟨da,hda,e⟩:=opd_bind ht;obtain⟨db,hdb,e⟩:=opd_bind e;obtain⟨dd,hdd,e⟩:=opd_bind e;cases e;obtain⟨h1,rfl⟩:=aop_pop hr rfl;exact(op_pick h hop hda hdb hdd h1).o h.I
 case box t y=>
  obtain⟨d,hd,e⟩:=opd_bind ht;cases e;exact(op_box h hop hd hr).o
 case alloc t=>
  simp only[TC.op,hP]at ht;cases hz:zeroA P t with
  |none=>rw[hz]at ht;cases ht
  | some zs=>
    rw[hz]at ht;cases ht;exact(op_alloc h hop hz hr).o
 case load t y=>
  simp only[TC.op,hP]at ht;split at ht
  ·rename_i hu;obtain⟨d,hd,e⟩:=opd_bind ht;cases e;obtain⟨h1,rfl⟩:=aop_pop hr rfl;exact(op_load h hop hu hd h1).o h.I
  ·cases ht
 case store t y z=>
  simp only[TC.op,hP]at ht;split at ht
  ·rename_i hu;obtain⟨d,hd,e⟩:=opd_bind ht;obtain⟨d2,hd2,e⟩:=opd_bind e;cases e;exact(op_store h hop hu hd hd2 hr).o
  ·cases ht
 case nilCheck y=>
  obtain⟨d,hd,e⟩:=opd_bind ht;cases e;obtain⟨h1,rfl⟩:=aop_pop hr rfl;exact(op_nilchk h hop hd h1).o h.I
 case unOp op t y=>
  obtain⟨d,hd,e⟩:=opd_bind ht;cases e;obtain⟨h1,rfl⟩:=aop_pop hr rfl;exact(op_un h hop hd h1).o h.I
 case extract y i=>
  obtain⟨d,hd,e⟩:=opd_bind ht;cases e;obtain⟨h1,rfl⟩:=aop_pop hr rfl;exact(op_ext h hop hd h1).o h.I
 case fieldAddr s y f=>
  simp only[TC.op,hP]at ht;split at ht
  ·rename_i fs hs;cases hf:fs[f]? with
   |none=>rw[hf]at ht;cases ht
   | some fd=>
     rw[hf]at ht;simp only[Option.bind_eq_bind,Option.bind_some]at ht;split at ht
     ·cases ht
     ·rename_i hz;cases hd:c.opd y with
      |none=>rw[hd]at ht;cases ht
      | some d=>
        rw[hd]at ht;cases ht;obtain⟨h1,rfl⟩:=aop_pop hr rfl;exact(op_faddr h hop hs hf hz hd h1).o h.I
  ·cases ht
 case indexAddr t y j=>
  simp only[TC.op,hP]at ht;cases he:elemT P t with
  |none=>rw[he]at ht;cases ht
  | some e=>
    rw[he]at ht;obtain⟨d,hd,ht⟩:=opd_bind (c:=c) (f:=fun d=>do some (AOp.iaddr (P.cellsOf e) d (<-c.opd j))) ht;obtain⟨dj,hdj,ht⟩:=opd_bind ht;cases ht;obtain⟨h2,i,h3⟩:=elemT_some he;obtain⟨h1,rfl⟩:=aop_pop hr rfl;exact(op_iaddr h hop h2 h3 hd hdj h1).o h.I
def AOp.byt:AOp->Bool
 | .b2s _=>true| .s2b _=>true
 |_=>false
theorem op_ok2(h:Cx P c o ρ tv tl g σ w){op:AOp}(ht:c.op o.op=some op){x:A}{σ':St}(hr:aop σ op=some (x,σ'))(hk:match o.op with| .build ..=>True| .buildSlice ..=>True| .convert ..=>True| .makeInterface ..=>True| .makeFunc ..=>True| .makeSlice ..=>True| .slice ..=>True| .field ..=>True| .index ..=>True|_=>False)
  (hb2:op.byt=false):ORes P o ρ tv tl g σ w x σ':=by
 have hP:=h.P;cases hop:o.op<;>rw[hop]at hk ht<;>simp only at hk
 case build t ps=>
  simp only[TC.op,hP]at ht;cases hz:zeroA P t with
  |none=>rw[hz]at ht;cases ht
  | some zs=>
    rw[hz]at ht;simp only[Option.bind_eq_bind,Option.bind_some]at ht;split at ht
    ·rename_i fs hs;cases hpl:fs.toList.mapM (fun f=>(P.info? f.type).map fun i=>(f.offset,i.size))with
     |none=>rw[hpl]at ht;cases ht
     | some places=>
       rw[hpl]at ht;simp only[Option.bind_some]at ht;cases hds:ps.toList.mapM (c.part fun i=>places[i]?)with
       |none=>rw[hds]at ht;cases ht
       | some ds=>
         rw[hds]at ht;cases ht;obtain⟨h1,rfl⟩:=aop_pop hr rfl;exact(op_build h hop hs hz hpl hds h1).o h.I
    ·cases ht
 case buildSlice t n ps=>
  simp only[TC.op,hP]at ht;cases he:elemT P t with
  |none=>rw[he]at ht;cases ht
  | some e=>
    rw[he]at ht;simp only[Option.bind_eq_bind,Option.bind_some]at ht;obtain⟨h2,i,h3⟩:=elemT_some he;cases hz:zeroA P e with
    |none=>rw[hz]at ht;cases ht
    | some zs=>
      rw[hz]at ht;simp only[Option.bind_some]at ht;split at ht
      ·rename_i hzl;cases hds:ps.toList.mapM (c.part fun i=>some (i*P.cellsOf e,P.cellsOf e))with
       |none=>rw[hds]at ht;cases ht
       | some ds=>
         rw[hds]at ht;cases ht;obtain⟨h1,rfl⟩:=aop_pop hr rfl;exact(op_bslice h hop h2 h3 hz hzl hds h1).o h.I
      ·cases ht
 case convert s d y=>
  simp only[TC.op,hP]at ht;cases hd:c.opd y with
  |none=>rw[hd]at ht;cases ht
  | some dd=>
    rw[hd]at ht;simp only[Option.bind_eq_bind,Option.bind_some]at ht;split at ht
    ·rename_i k' k hs hdt;simp only[Oe]at ht;subst ht;obtain⟨h1,rfl⟩:=aop_pop hr rfl;exact(op_conv h hop hs hdt hd h1).o h.I
    ·simp only[Oe]at ht;subst ht;simp[AOp.byt]at hb2
    ·simp only[Oe]at ht;subst ht;simp[AOp.byt]at hb2
    ·cases ht
 case makeInterface t y=>
  simp only[TC.op,hP]at ht;split at ht
  ·cases ht
  ·rename_i td hnot htd;obtain⟨d,hd,e⟩:=opd_bind ht;cases e;exact op_ifc h hop htd (fun ms e=>hnot ms e) hd hr
  ·cases ht
 case makeFunc f a b=>
  cases f<;>simp only[TC.op,reduceCtorEq]at ht;cases ha:c.opds a with
  |none=>rw[ha]at ht;cases ht
  | some da=>
    cases hb:c.opds b with
    |none=>rw[ha,hb]at ht;cases ht
    | some db=>
      rw[ha,hb]at ht;cases ht;obtain⟨h1,rfl⟩:=aop_pop hr rfl;exact(op_mkclo h hop ha hb h1).o h.I
 case makeSlice t l k=>
  simp only[TC.op,hP]at ht;cases he:elemT P t with
  |none=>rw[he]at ht;cases ht
  | some e=>
    rw[he]at ht;simp only[Option.bind_eq_bind,Option.bind_some]at ht;obtain⟨h2,i,h3⟩:=elemT_some he;cases hz:zeroA P e with
    |none=>rw[hz]at ht;cases ht
    | some zs=>
      rw[hz]at ht;simp only[Option.bind_some]at ht;split at ht
      ·rename_i hzl;cases hl:c.opd l with
       |none=>rw[hl]at ht;cases ht
       | some dl=>
         cases hk:c.opd k with
         |none=>rw[hl,hk]at ht;cases ht
         | some dk=>
           rw[hl,hk]at ht;cases ht;obtain⟨h1,rfl⟩:=aop_pop hr rfl;exact(op_mk h hop h2 h3 hz hzl hl hk h1).o h.I
      ·cases ht
 case slice t y lo hi mx=>
  simp only[TC.op,hP]at ht;split at ht
  ·rename_i e hs;split at ht
   ·rename_i hie;obtain⟨i,hi'⟩:=Option.isSome_iff_exists.1 hie;cases hd:c.opd y with
    |none=>rw[hd]at ht;cases ht
    | some d=>
      cases hl:c.opdO lo with
      |none=>rw[hd,hl]at ht;cases ht
      | some dl=>
        cases hh:c.opdO hi with
        |none=>rw[hd,hl,hh]at ht;cases ht
        | some dh=>
          cases hm:c.opdO mx with
          |none=>rw[hd,hl,hh,hm]at ht;cases ht
          | some dm=>
            rw[hd,hl,hh,hm]at ht;cases ht;obtain⟨h1,rfl⟩:=aop_pop hr rfl;rcases opdO_some hm with⟨rfl,rfl⟩|⟨_,e',rfl,rfl,_⟩
            ·exact(op_sub h hop hs hi' hd hl hh h1).o h.I
            ·simp[pop]at h1
   ·cases ht
  ·rename_i hs;cases mx with
   |some m=>cases ht
   | none=>
     simp only at ht;cases hd:c.opd y with
     |none=>rw[hd]at ht;cases ht
     | some d=>
       cases hl:c.opdO lo with
       |none=>rw[hd,hl]at ht;cases ht
       | some dl=>
         cases hh:c.opdO hi with
         |none=>rw[hd,hl,hh]at ht;cases ht
         | some dh=>
           rw[hd,hl,hh]at ht;cases ht;obtain⟨h1,rfl⟩:=aop_pop hr rfl;exact(op_ssub h hop hs hd hl hh h1).o h.I
  ·cases ht
 case field s y f=>
  simp only[TC.op,hP]at ht;split at ht
  ·rename_i fs hs;cases hf:fs[f]? with
   |none=>rw[hf]at ht;cases ht
   | some fd=>
     rw[hf]at ht;simp only[Option.bind_eq_bind,Option.bind_some]at ht;split at ht
     ·rename_i hu;cases hd:c.opd y with
      |none=>rw[hd]at ht;cases ht
      | some d=>
        rw[hd]at ht;cases ht;obtain⟨h1,rfl⟩:=aop_pop hr rfl;exact(op_fld h hop hs hf hu hd h1).o h.I
     ·cases ht
  ·cases ht
 case index t y j=>
  simp only[TC.op,hP]at ht;split at ht
  ·rename_i hs;cases hd:c.opd y with
   |none=>rw[hd]at ht;cases ht
   | some d=>
     cases hj:c.opd j with
     |none=>rw[hd,hj]at ht;cases ht
     | some dj=>
       rw[hd,hj]at ht;cases ht;obtain⟨h1,rfl⟩:=aop_pop hr rfl;exact(op_sidx h hop hs hd hj h1).o h.I
  ·cases ht
theorem op_ok3(h:Cx P c o ρ tv tl g σ w){op:AOp}(ht:c.op o.op=some op){x:A}{σ':St}(hr:aop σ op=some (x,σ')){bop:BinOp}{t t':TypeId}{y z:Operand}(hop:o.op= .binOp bop t y z t'):ORes P o ρ tv tl g σ w x σ':=by
 have hP:=h.P;rw[hop]at ht;simp only[TC.op,hP]at ht;cases hy:c.opd y with
 |none=>rw[hy]at ht;cases ht
 | some dy=>
   cases hz:c.opd z with
   |none=>rw[hy,hz]at ht;cases ht
   | some dz=>
     rw[hy,hz]at ht;simp only[Option.bind_eq_bind,Option.bind_some]at ht;split at ht
     ·simp only[Oe]at ht;subst ht;obtain⟨h1,rfl⟩:=aop_pop hr rfl;exact(op_bin h hop hy hz h1).o h.I
     ·simp only[Oe]at ht;subst ht;obtain⟨h1,rfl⟩:=aop_pop hr rfl;exact(op_bin h hop hy hz h1).o h.I
     ·split at ht
      ·cases hk:ekT P t with
       |none=>rw[hk]at ht;cases ht
       | some k=>
         rw[hk]at ht;cases ht;obtain⟨h1,rfl⟩:=aop_pop hr rfl;exact(op_eq (neg:=false) h hop hk hy hz h1).o h.I
      ·cases hk:ekT P t with
       |none=>rw[hk]at ht;cases ht
       | some k=>
         rw[hk]at ht;cases ht;obtain⟨h1,rfl⟩:=aop_pop hr rfl;exact(op_eq (neg:=true) h hop hk hy hz h1).o h.I
      ·cases ht
theorem op_ok4(h:Cx P c o ρ tv tl g σ w){op:AOp}(ht:c.op o.op=some op){x:A}{σ':St}(hr:aop σ op=some (x,σ')){cl:Call}{b:Builtin}(hop:o.op= .call cl)(hcl:cl.callee= .builtin b)(hb:b= .len\/b= .append\/b= .max\/b= .min):ORes P o ρ tv tl g σ w x σ':=by
 have hP:=h.P;rw[hop]at ht;rcases hb with rfl|rfl|rfl|rfl
 ·simp only[TC.op,hcl,hP]at ht;cases ha:cl.args[0]? with
  |none=>rw[ha]at ht;cases ht
  | some y=>
    cases hd:c.opd y with
    |none=>simp[ha,hd]at ht
    | some d=>
      cases hty:cl.argTypes[0]? with
      |none=>simp[ha,hd,hty]at ht
      | some t=>
        simp only[ha,hd,hty,Option.bind_eq_bind,Option.bind_some]at ht;split at ht
        ·rename_i e hu;cases ht;obtain⟨h1,rfl⟩:=aop_pop hr rfl;exact(op_len h hop hcl ha hty hu (.inl ⟨rfl,_,rfl⟩) hd h1).o h.I
        ·rename_i hu;cases ht;obtain⟨h1,rfl⟩:=aop_pop hr rfl;exact(op_len h hop hcl ha hty hu (.inr (.inl ⟨rfl,rfl⟩)) hd h1).o h.I
        ·rename_i k e hu;cases ht;obtain⟨h1,rfl⟩:=aop_pop hr rfl;exact(op_len h hop hcl ha hty hu (.inr (.inr ⟨rfl,_,_,rfl⟩)) hd h1).o h.I
        ·cases ht
 ·simp only[TC.op,hcl,hP]at ht;cases hty:cl.argTypes[0]? with
  |none=>rw[hty]at ht;cases ht
  | some t=>
    simp only[hty,Option.bind_eq_bind,Option.bind_some]at ht;cases he:elemT P t with
    |none=>rw[he]at ht;cases ht
    | some e=>
      simp only[he,Option.bind_some]at ht;obtain⟨h2,i,h3⟩:=elemT_some he;cases hz:zeroA P e with
      |none=>rw[hz]at ht;cases ht
      | some zs=>
        simp only[hz,Option.bind_some]at ht;cases ha:cl.args[0]? with
        |none=>rw[ha]at ht;cases ht
        | some s=>
          cases hb:cl.args[1]? with
          |none=>simp[ha,hb]at ht
          | some y=>
            simp only[ha,hb,Option.bind_some]at ht;split at ht
            ·rename_i hc;obtain⟨c1,c2,c3⟩:=hc;cases hs:c.opd s with
             |none=>rw[hs]at ht;cases ht
             | some ds=>
               cases hx:c.opd y with
               |none=>simp[hs,hx]at ht
               | some dx=>
                 simp only[hs,hx,Option.bind_some,Oe]at ht;subst ht
                 have hargs:cl.args= #[s,y]:=by
                  apply Array.ext_getElem?;intro i
                  match i with
                  |0=>simpa using ha
                  |1=>simpa using hb
                  |i+2=>rw[Array.getElem?_eq_none (by omega),Array.getElem?_eq_none (by simp)]
                 exact op_app h hop hcl c1 hargs h2 h3 hz c3 hs hx hr
            ·cases ht
 ·simp only[TC.op,hcl,hP]at ht;cases ha:c.opds cl.args with
  |none=>rw[ha]at ht;cases ht
  | some da=>
    rw[ha]at ht;cases ht;obtain⟨h1,rfl⟩:=aop_pop hr rfl;exact(op_mx h hop hcl ha h1).o h.I
 ·simp only[TC.op,hcl,hP]at ht;cases ha:c.opds cl.args with
  |none=>rw[ha]at ht;cases ht
  | some da=>
    rw[ha]at ht;cases ht;obtain⟨h1,rfl⟩:=aop_pop hr rfl;exact(op_mn h hop hcl ha h1).o h.I
end
end Go.Ab
end
section
namespace Go.Ab
open Go.RowKit
variable {w:World} {tv tl:Nat->Value}
theorem wp_of_ores{P:Program}{o:Oper}{a:Act}{g:G}{σ σ':St}{x:A}{Q:Exit->Act->World->Prop}{K:Act->World->Prop}(h:ORes P o a.eval tv tl g σ w x σ')
  (hK:∀ v w' g',Inv g' σ' w' tv tl->Later g w g' w'->Same w w'->BX g σ g' σ'->σ'.ls.length=σ.ls.length->RepT g' w' σ'.view ⟨.loc σ'.ls.length,[]⟩ x v->K (a.put o.dst v) w'):o.wp P a w K Q:=by
 obtain⟨v,w',g',nx,h1,h2,h3,h4,h5,h6,h7,h8⟩:=h;unfold Oper.wp;rw[h1];rcases h2 with rfl|⟨rfl,rfl⟩
 ·exact hK v w' g' h3 h4 h5 h6 h7 h8
 ·exact hK undef w' g' h3 h4 h5 h6 h7 h8
structure DstOK(c:TC)(dst:Option Nat)(d:Dst)(l:Option Nat):Prop where
 loc:d= .loc->(dst=none/\l=none)\/ ∃t,dst=some t/\l=some t/\t<c.nt/\c.vars.findIdx? (· ==t)=none/\c.locs.contains (some t)=false
 var:∀ n,d= .var n->l=none/\ ∃t,dst=some t/\t<c.nt/\c.vars.findIdx? (· ==t)=some n/\ ∀k:Nat,c.locs[k]?≠some (some t)
theorem RS.putD{c:TC}{g:G}{σ:St}{a:Act}(h:RS c g σ w a tv tl){g':G}{σ' σ'':St}{w':World}(hi:Inv g' σ' w' tv tl)(hn:σ'.ls.length=σ.ls.length){x:A}{v:Value}(hx:RepT g' w' σ'.view ⟨.loc σ'.ls.length,[]⟩ x v)
  {dst:Option Nat} {d:Dst} {l:Option Nat} (hd:DstOK c dst d l) (hp:σ'.putV d x=some σ''):
  ∃g'' tv' tl',RS {c with locs:=c.locs++[l]} g'' σ'' w' (a.put dst v) tv' tl'/\Later g' w' g'' w'/\BX g' σ' g'' σ'':=by
 cases d with
 | loc=>
   simp only[St.putV,Oe]at hp;subst hp;exact⟨g',_,_,h.putLoc hi hn hx (hd.loc rfl),Later.refl _ _,BX.same rfl rfl⟩
 | var n=>
   obtain⟨rfl,t,rfl,h1,h2,h3⟩:=hd.var n rfl;obtain⟨g'',u,r,l,b⟩:=h.putVar hi hn hx h1 h2 h3 hp;exact⟨g'',_,_,r,l,b⟩
theorem RS.skipD{c:TC}{g:G}{σ:St}{a:Act}(h:RS c g σ w a tv tl){dst:Option Nat}{d:Dst}{l:Option Nat}(hd:DstOK c dst d l):
  ∃g'' tv' tl',RS {c with locs:=c.locs++[l]} g'' (σ.put d .ud) w (a.put dst undef) tv' tl'/\Later g w g'' w/\BX g σ g'' (σ.put d .ud):=by
 cases d with
 |loc=>exact⟨g,_,_,h.putLoc (v:=undef) h.I rfl (x:=.ud) rfl (hd.loc rfl),Later.refl _ _,BX.same rfl rfl⟩
 | var n=>
   obtain⟨rfl,t,rfl,h1,h2,h3⟩:=hd.var n rfl;have hq:¬ noHand hand0:=not_noHand0
   obtain⟨g',i2,l2,b2⟩:=h.I.putVar (n:=n) (x:=.ud) (v:=undef) (u:=undef) hq rfl rfl rfl;refine⟨g',_,_,⟨i2,?_,by rw[put_size];exact h.sz,by simp[St.put,St.push,St.kill,h.len],by rw[put_defers];exact h.df⟩,l2,BX.same b2 (by simp[St.put,St.push,St.kill])⟩;rw[<-h.len];exact h.L.putVar h2 h3 (by rw[h.sz];exact h1)
end Go.Ab
end
section
namespace Go.Ab
open Go.RowKit
variable {w:World} {tv tl:Nat->Value}
def OpSound(P:Program)(E:Nat->Option AF)(n:Nat):Prop:=
 ∀(c:TC) (o:Oper) (op:AOp) (g:G) (σ σ':St) (w:World) (a:Act) (tv tl:Nat->Value) (x:A),Cx P c o a.eval tv tl g σ w->c.op o.op=some op->ago E n op σ=some (x,σ')->
  ∀(Q:Exit->Act->World->Prop) (K:Act->World->Prop),(∀v w' g',Inv g' σ' w' tv tl->Later g w g' w'->Same w w'->BX g σ g' σ'->σ'.ls.length=σ.ls.length->RepT g' w' σ'.view ⟨.loc σ'.ls.length,[]⟩ x v->K (a.put o.dst v) w')->o.wp P a w K Q
def GuardOK(c:TC)(ops:Array Oper):Prop:=∀ (j t:Nat),c.locs[j]?=some (some t)->(ops[j]?).bind (·.dst)=some t
theorem guard_yields{c:TC}{g:G}{σ:St}{a:Act}(h:RS c g σ w a tv tl){ops:Array Oper}(hg:GuardOK c ops){j t:Nat}(hl:c.locs[j]?=some (some t))(hf:c.locs.findIdx? (· ==some t)=some j){x:A}(hx:σ.rd (.l j)=some x):
  (∀b,x= .v (.bool b)->yielded ops a.tmps j=some b)/\(x= .ud->yielded ops a.tmps j=none):=by
 have hd:=hg j t hl;have e:tl j=a.eval (.tmp t):=h.L.l t j hf
 have he:∀ u,a.eval (.tmp t)=u->yielded ops a.tmps j=(match u with| .bool b=>some b|_=>none)\/(u=undef/\yielded ops a.tmps j=none):=by
  intro u hu;simp only[Act.eval]at hu;unfold yielded;rw[hd];cases ht:a.tmps[t]? with
  | none=>
    right;rw[Array.getD_eq_getD_getElem?,ht]at hu;exact⟨hu.symm,by simp[ht]⟩
  | some y=>
    left;rw[Array.getD_eq_getD_getElem?,ht]at hu;simp only[Option.getD_some]at hu;subst hu;simp[ht];cases y<;>rfl
 simp only[St.rd]at hx;cases hy:σ.ls[j]? with
 |none=>rw[hy]at hx;cases hx
 | some y=>
   rw[hy]at hx;simp only[Oe]at hx;have hr:=(rdA_ok (p:=⟨.loc j,[]⟩) (by simp[St.get,St.root,hy,getS]) (h.I.locs j y hy) hand0).1
   rw[hx]at hr;constructor
   ·rintro b rfl;have:=repT_v hr
    rw[e]at this;rcases he _ this with h1|⟨h1,_⟩
    ·exact h1
    ·cases h1
   ·rintro rfl;have:tl j=undef:=hr
    rw[e]at this;rcases he _ this with h1|⟨_,h1⟩
    ·exact h1
    ·exact h1
def GuardTr(c:TC)(gd:Option (Nat×Bool))(gA:Option (Opd×Bool)):Prop:=
 (gd=none/\gA=none)\/ ∃j b t,gd=some (j,b)/\gA=some (.l j,b)/\c.locs[j]?=some (some t)/\c.locs.findIdx? (· ==some t)=some j
theorem aoper_ok{P:Program}{E:Nat->Option AF}{n:Nat}(hS:OpSound P E n){c:TC}{g:G}{σ σ':St}{a:Act}(hR:RS c g σ w a tv tl)(hP:c.P=P){o:Oper}{oA:AOper}{l:Option Nat}{ops:Array Oper}{i:Nat}
  (ho:oA.op=(c.op o.op).getD .dies) (hd:DstOK c o.dst oA.dst l) (hg:GuardTr c o.guard oA.guard) (hGO:GuardOK c ops) (hi:ops[i]?=some o) (h:aoper E (n+1) oA σ=some σ') {Q:Exit->Act->World->Prop} {K:Act->World->Prop}
  (hK:∀ g' w' a' tv' tl',RS {c with locs:=c.locs++[l]} g' σ' w' a' tv' tl'->Later g w g' w'->Same w w'->BX g σ g' σ'->K a' w'):wpOp P ops Q i K a w:=by
 have cx:Cx P c o a.eval tv tl g σ w:=⟨hR.L,hR.I,hP⟩
 have go:(match ago E n oA.op σ with|some (x,σ)=>σ.putV oA.dst x|none=>none)=some σ'->o.wp P a w K Q:=by
  intro h;split at h
  ·rename_i x σ1 hag
   have ho:c.op o.op=some oA.op:=by
    cases hop:c.op o.op with
    |some op=>rw[hop]at ho;simp only[Option.getD_some]at ho;rw[ho]
    | none=>
      rw[hop]at ho;simp only[Option.getD_none]at ho;rw[ho]at hag;cases n<;>simp[ago,aop,pop]at hag
   refine hS c o oA.op g σ σ1 w a tv tl x cx ho hag Q K fun v w' g' h1 h2 h3 hb h4 h5=>?_;obtain⟨g'',tv',tl',r,l',b'⟩:=hR.putD h1 h4 h5 hd h;exact hK g'' w' _ tv' tl' r (h2.trans l') h3 (hb.trans b')
  ·cases h
 have skip:σ.put oA.dst .ud=σ'->K (a.put o.dst undef) w:=by
  rintro rfl;obtain⟨g'',tv',tl',r,l',b'⟩:=hR.skipD hd;exact hK g'' w _ tv' tl' r l' (Same.refl w) b'
 unfold wpOp;simp only[hi];simp only[aoper]at h;rcases hg with⟨g1,g2⟩|⟨j,b,t,g1,g2,g3,g4⟩
 ·rw[g2]at h;have hw:Region.wanted o (yielded ops a.tmps)=true:=by simp[Region.wanted,g1]
  rw[hw];simp only[if_true];exact .inl (go h)
 ·rw[g2]at h;simp only at h;split at h
  ·rename_i b' hrd;have hy:=(guard_yields hR hGO g3 g4 hrd).1 b' rfl
   split at h
   ·rename_i hbb
    have hw:Region.wanted o (yielded ops a.tmps)=true:=by
     have:b'=b:=by simpa using hbb
     simp[Region.wanted,g1,hy,this]
    rw[hw];simp only[if_true];exact .inl (go h)
   ·rename_i hbb
    have hw:Region.wanted o (yielded ops a.tmps)=false:=by
     have:¬ b'=b:=by simpa using hbb
     simp[Region.wanted,g1,hy,this]
    rw[hw];simp only[Bool.false_eq_true,if_false];exact skip (by simpa using h)
  ·rename_i hrd;have hy:=(guard_yields hR hGO g3 g4 hrd).2 rfl
   have hw:Region.wanted o (yielded ops a.tmps)=false:=by simp[Region.wanted,g1,hy]
   rw[hw];simp only[Bool.false_eq_true,if_false];exact skip (by simpa using h)
  ·cases h
theorem reg_cons{c:TC}{o:Oper}{os:List Oper}{l:List AOper}(h:TC.reg c (o::os)=some l):
  ∃oA rest lo,l=oA::rest/\oA.op=(c.op o.op).getD .dies/\GuardTr c o.guard oA.guard/\TC.reg {c with locs:=c.locs++[lo]} os=some rest/\
   ((o.dst=none/\oA.dst= .loc/\lo=none)\/ ∃t,o.dst=some t/\t<c.nt/\((∃n,c.vars.findIdx? (· ==t)=some n/\oA.dst= .var n/\lo=none)\/(c.vars.findIdx? (· ==t)=none/\c.locs.contains (some t)=false/\oA.dst= .loc/\lo=some t))):=by
 have guard:∀ {α:Type} {f:Option (Opd × Bool) -> Option α} {r:α},(do
   let g:Option (Opd×Bool)<-match o.guard with
    |none=>some none
    | some (j,b)=>match c.locs[j]? with
      |some (some t)=>if c.locs.findIdx? (· ==some t)=some j then some (some (.l j,b))else none
      |_=>none
   f g)=some r-> ∃gA,GuardTr c o.guard gA/\f gA=some r:=by
  intro α f r h;cases hg:o.guard with
  |none=>rw[hg]at h;exact⟨none,.inl ⟨rfl,rfl⟩,h⟩
  | some jb=>
    obtain⟨j,b⟩:=jb;rw[hg]at h;simp only at h;split at h
    ·rename_i t ht;split at h
     ·rename_i hf;exact⟨some (.l j,b),.inr ⟨j,b,t,rfl,rfl,ht,hf⟩,h⟩
     ·cases h
    ·cases h
 simp only[TC.reg]at h;cases hd:o.dst with
 | none=>
   rw[hd]at h;obtain⟨gA,g1,h⟩:=guard h;cases hr:TC.reg {c with locs:=c.locs++[none]} os with
   |none=>simp[hr]at h
   | some rest=>
     simp[hr]at h;exact⟨_,rest,none,h.symm,rfl,g1,hr,.inl ⟨rfl,rfl,rfl⟩⟩
 | some t=>
   rw[hd]at h;simp only at h;split at h
   ·rename_i ht;cases hv:c.vars.findIdx? (· ==t)with
    | some n=>
      rw[hv]at h;obtain⟨gA,g1,h⟩:=guard h;cases hr:TC.reg {c with locs:=c.locs++[none]} os with
      |none=>simp[hr]at h
      | some rest=>
        simp[hr]at h;exact⟨_,rest,none,h.symm,rfl,g1,hr,.inr ⟨t,rfl,ht,.inl ⟨n,hv,rfl,rfl⟩⟩⟩
    | none=>
      rw[hv]at h;simp only at h;split at h
      ·cases h
      ·rename_i hc;obtain⟨gA,g1,h⟩:=guard h;cases hr:TC.reg {c with locs:=c.locs++[some t]} os with
       |none=>simp[hr]at h
       | some rest=>
         simp[hr]at h;exact⟨_,rest,some t,h.symm,rfl,g1,hr,.inr ⟨t,rfl,ht,.inr ⟨hv,by simpa using hc,rfl,rfl⟩⟩⟩
   ·cases h
def NoVar(c:TC):Prop:=∀ (k t:Nat),c.locs[k]?=some (some t)->c.vars.findIdx? (· ==t)=none
theorem aops_ok{P:Program}{E:Nat->Option AF}{ops:Array Oper}{Q:Exit->Act->World->Prop}:∀ (os:List Oper) (n i:Nat) (c:TC) (g:G) (σ σ':St) (w:World) (a:Act) (tv tl:Nat->Value) (l:List AOper),
  ops.toList.drop i=os->TC.reg c os=some l->aops E n l σ=some σ'->(∀m,m<n->OpSound P E m)->c.P=P->c.locs.length=i->GuardOK c ops->NoVar c->RS c g σ w a tv tl->
  (∀c' g' w' a' tv' tl',c'.vars=c.vars->c'.nt=c.nt->RS c' g' σ' w' a' tv' tl'->Later g w g' w'->Same w w'->BX g σ g' σ'->Q .normal a' w')->wpOps P ops Q ((List.range ops.size).drop i) a w
 | [],n,i,c,g,σ,σ',w,a,tv,tl,l,hos,hr,ha,hS,hP,hl,hG,hV,hR,hK=>by
   have hi:ops.size<=i:=by
    have:=congrArg List.length hos;simp at this;omega
   rw[List.drop_eq_nil_of_le (by simpa using hi)];simp only[TC.reg,Oe]at hr;subst hr;cases n with
   |zero=>simp[aops]at ha
   | succ n=>
     simp only[aops,Oe]at ha;subst ha;exact hK c g w a tv tl rfl rfl hR (Later.refl _ _) (Same.refl _) (BX.refl _ _)
 | o::os,n,i,c,g,σ,σ',w,a,tv,tl,l,hos,hr,ha,hS,hP,hl,hG,hV,hR,hK=>by
   have hi:ops[i]?=some o:=by
    have:=congrArg (fun l=>l[0]?) hos;simp at this;exact this
   have hlt:i<ops.size:=(Array.getElem?_eq_some_iff.1 hi).1
   have hdrop:ops.toList.drop (i+1)=os:=by
    rw[<-List.drop_drop,hos];rfl
   rw [show (List.range ops.size).drop i = i :: (List.range ops.size).drop (i + 1) by
    rw[List.drop_eq_getElem_cons (by simpa using hlt)];simp,wpOps_cons]
   obtain⟨oA,rest,lo,rfl,h1,h2,h3,h4⟩:=reg_cons hr;cases n with
   |zero=>simp[aops]at ha
   | succ n=>
     simp only[aops]at ha;split at ha
     ·rename_i σ1 hσ1
      have hd:DstOK c o.dst oA.dst lo:=by
       rcases h4 with⟨k1,k2,k3⟩|⟨t,k1,k2,⟨m,k3,k4,k5⟩|⟨k3,k4,k5,k6⟩⟩
       ·exact⟨fun _=> .inl ⟨k1,k3⟩,fun m e=>by rw[k2]at e;cases e⟩
       ·refine⟨fun e=>(by rw[k4]at e;cases e),fun m' e=>?_⟩;rw[k4]at e;cases e;refine⟨k5,t,k1,k2,k3,fun k hk=>?_⟩;rw[hV k t hk]at k3;cases k3
       ·exact⟨fun _=> .inr ⟨t,k1,k6,k2,k3,k4⟩,fun m e=>by rw[k5]at e;cases e⟩
      have lo_dst:∀ t,lo=some t->o.dst=some t/\c.vars.findIdx? (· ==t)=none:=by
       intro t e;rcases h4 with⟨k1,k2,k3⟩|⟨t',k1,k2,⟨m,k3,k4,k5⟩|⟨k3,k4,k5,k6⟩⟩
       ·rw[k3]at e;cases e
       ·rw[k5]at e;cases e
       ·rw[k6]at e;cases e;exact⟨k1,k3⟩
      cases n with
      |zero=>simp[aoper]at hσ1
      | succ n=>
        refine aoper_ok (hS n (by omega)) hR hP h1 hd h2 hG hi hσ1 fun g' w' a' tv' tl' r l1 s1 b1=>?_
        refine aops_ok os (n+1) (i+1) {c with locs:=c.locs++[lo]} g' σ1 σ' w' a' tv' tl' rest hdrop h3 ha (fun m hm=>hS m (by omega)) hP (by simp[hl]) ?_ ?_ r
         (fun c'' g'' w'' a'' tv'' tl'' e1 e2 r'' l2 s2 b2=>hK c'' g'' w'' a'' tv'' tl'' e1 e2 r'' (l1.trans l2) (s1.trans s2) (b1.trans b2))
        ·intro j t hj;simp only at hj
         by_cases hjl:j<c.locs.length
         ·rw[List.getElem?_append_left hjl]at hj;exact hG j t hj
         ·have hjj:j=c.locs.length:=by
           have:=(Ge hj).1;simp at this;omega
          subst hjj;rw[List.getElem?_append_right (Nat.le_refl _)]at hj;simp at hj;rw[hl,hi];exact(lo_dst t hj).1
        ·intro j t hj;simp only at hj ⊢
         by_cases hjl:j<c.locs.length
         ·rw[List.getElem?_append_left hjl]at hj;exact hV j t hj
         ·have hjj:j=c.locs.length:=by
           have:=(Ge hj).1;simp at this;omega
          subst hjj;rw[List.getElem?_append_right (Nat.le_refl _)]at hj;simp at hj;exact(lo_dst t hj).2
     ·cases ha
end Go.Ab
end
section
namespace Go.Ab
open Go.RowKit
variable {w:World} {tv tl:Nat->Value}
def outR(B:Nat->Bool):Rt->Bool
 | .box b _=>B b
 |_=>false
def G.lent(B:Nat->Bool)(g:G):G where
 ow b:=match g.ow b with
  |some (.row q)=>if outR B q.r then some (.row q)else none
  |some (.tmp q)=>if outR B q.r then some (.tmp q)else none
  |x=>x
 hd:=g.hd
 blk:=g.blk
variable {B:Nat->Bool}
theorem lent_none{g:G}{b:Nat}(h:g.ow b=none):(g.lent B).ow b=none:=by simp[G.lent,h]
theorem lent_row{g:G}{b:Nat}{p:Pl}(h:g.ow b=some (.row p))(hp:outR B p.r=false):(g.lent B).ow b=none:=by simp[G.lent,h,hp]
theorem lent_tmp{g:G}{b:Nat}{p:Pl}(h:g.ow b=some (.tmp p))(hp:outR B p.r=false):(g.lent B).ow b=none:=by simp[G.lent,h,hp]
theorem lent_frn{g:G}{b:Nat}(h:g.ow b=some .frn):(g.lent B).ow b=some .frn:=by simp[G.lent,h]
theorem lent_later(g:G)(w:World):Later g w (g.lent B) w:=⟨Nat.le_refl _,fun _ _ h=>lent_none h,fun _ _ _=>rfl,fun _ _ h=>⟨lent_frn h,rfl⟩⟩
theorem RepI.of_cells{g:G}{z:Nat}{es:List (List A)}{b off cap:Nat}(hb:g.ow b=none)(hlt:b<w.heap.size)(hc:es.length<=cap)(hl:∀ (i:Nat) e,es[i]?=some e->e.length=z)
  (h:∀ (i:Nat) e (c:Nat) x,es[i]?=some e->e[c]?=some x-> ∃u,cell w b (off+(i*z+c))=some u/\RepI g w x u):RepI g w (.imm false z es) (.slice (some ⟨b,off,none⟩) es.length cap):=by
 refine .row _ z es b off cap (fun i c=>(cell w b (off+(i*z+c))).getD undef) (.inl rfl) hc hb hlt (fun e he=>?_) (fun i e c x he hx=>?_) (fun i e c x he hx=>?_)
 ·obtain⟨i,hi⟩:=List.mem_iff_getElem?.1 he;exact hl i e hi
 ·obtain⟨u,h1,h2⟩:=h i e c x he hx;simp only[h1,Option.getD_some]
 ·obtain⟨u,h1,h2⟩:=h i e c x he hx;simp only[h1,Option.getD_some];exact h2
theorem RepO.lent{g:G}{p:Pl}{a:A}{v:Value}(r:RepO g w p a v):outR B p.r=false->RepI (g.lent B) w a v:=by
 induction r with
 |imm p a v hi ha=>exact fun _=>hi.later (lent_later g w)
 | own p z es b cap cur t u h1 h2 h3 h4 h5 h6 h7 h8 _ ih=>
   intro hp;refine .row _ z es b 0 cap u (.inr rfl) h5 (lent_row h2 hp) (heap_lt h3) h7 ?_ (fun i e c x he hx=>ih i e c x he hx hp);intro i e c x he hx;rw[cell_of h3,Nat.zero_add];exact h8 i e c x he hx
theorem RepI.toImm{g:G}{z:Nat}{es:List (List A)}{v:Value}(r:RepI g w (.own z es) v):RepI g w (.imm false z es) v:=r.leaf
theorem mapM_getR{α β:Type}{f:α->Option β}{xs:List α}{ys:List β}(h:xs.mapM f=some ys){i:Nat}{y:β}(hy:ys[i]?=some y):∃ x,xs[i]?=some x/\f x=some y:=by
 obtain⟨h1,h2⟩:=mapM_get h;have hlt:i<xs.length:=by rw[<-h1];exact(Ge hy).1
 exact⟨_,Gg hlt,h2 i _ y (Gg hlt) hy⟩
def LentRow(B:Nat->Bool)(g:G)(σ:St)(w:World)(q:Pl)(x:A):Prop:=
 outR B q.r=false/\ ∃(z:Nat) (es es':List (List A)),σ.row q=some (z,es)/\x= .imm false z es'/\es'.length=es.length/\g.ow (g.hd q).1=some (.row q)/\(g.hd q).1<w.heap.size/\es.length<=(g.hd q).2/\
  (∀(i:Nat) e,es'[i]?=some e->e.length=z)/\ ∀(i:Nat) e (c:Nat) y,es'[i]?=some e->e[c]?=some y-> ∃u,cell w (g.hd q).1 (i*z+c)=some u/\RepI (g.lent B) w y u
def LendOK(B:Nat->Bool)(g:G)(σ:St)(w:World)(n:Nat):Prop:=∀ (a x:A) (p:Pl) (v:Value),lend n σ a=some x->RepL g w σ.view p a v->RepI (g.lent B) w x v/\x.leaf=true
theorem repE_lend{g:G}{σ:St}{n:Nat}(ih:LendOK B g σ w n){x y:A}{u:Value}(h:lend n σ x=some y)(r:RepE g w σ.view x u):RepI (g.lent B) w y u:=
 (ih x y ⟨.loc 0,[]⟩ u h r.toL).1
theorem root_in{σ:St}(hB:∀ b c,B b=true->σ.root (.box b c)=none){q:Pl}{y:A}(h:σ.get q=some y):outR B q.r=false:=by
 cases hr:q.r<;>simp only[outR];rename_i b c;cases hb:B b with
 |false=>rfl
 | true=>
   have:=hB b c hb;unfold St.get at h;rw[hr,this]at h;cases h
theorem lend_sref{g:G}{σ:St}(hB:∀ b c,B b=true->σ.root (.box b c)=none)(hi:Inv g σ w tv tl){n:Nat}(ih:∀ m,m<n->LendOK B g σ w m){q:Pl}{x:A}(h:lend n σ (.sref q)=some x):LentRow B g σ w q x:=by
 cases n with
 |zero=>simp[lend]at h
 | succ n=>
   simp only[lend]at h;split at h
   ·rename_i z es hg;simp only[Oe]at h;subst h;obtain⟨⟨b,cap,cur,t,f1,f2,f3,f4,f5,f6,f7⟩,_⟩:=(hi.getOwn hg).rowOK;refine⟨root_in hB hg,z,es,es,row_own hg,rfl,rfl,by rw[f1];exact f2,by rw[f1];exact heap_lt f3,by rw[f1];exact f5,fun i e he=>(f7 i e he).1,fun i e c y he hy=>?_⟩;obtain⟨u,hu,hr⟩:=(f7 i e he).2 c y hy;exact⟨u,by rw[f1,cell_of f3];exact hu,hr.lent (root_in (q:=q) hB hg)⟩
   ·rename_i z es hg;cases hm:es.mapM (·.mapM (lend n σ))with
    |none=>rw[hm]at h;cases h
    | some es'=>
      rw[hm]at h;simp only[Oe]at h;subst h;rcases hi.rowAt hg (.inr rfl)with⟨e,_⟩|⟨_,u,b,cap,cur,t,e1,e2,e3,e4,e5,e6,e7,e8⟩
      ·cases e
      ·refine⟨root_in hB hg,z,es,es',row_bld hg,rfl,(mapM_get hm).1,by rw[e2];exact e3,by rw[e2];exact heap_lt e4,by rw[e2];exact e6,fun i e he=>?_,fun i e c y he hy=>?_⟩
       ·obtain⟨e0,he0,hf⟩:=mapM_getR hm he;rw[(mapM_get hf).1];exact(e8 i e0 he0).1
       ·obtain⟨e0,he0,hf⟩:=mapM_getR hm he;obtain⟨y0,hy0,hf2⟩:=mapM_getR hf hy;obtain⟨u,hu,hr⟩:=(e8 i e0 he0).2 c y0 hy0;exact⟨u,by rw[e2,cell_of e4];exact hu,repE_lend (ih n (Nat.lt_succ_self n)) hf2 hr⟩
   ·cases h
theorem LentRow.rep{g:G}{σ:St}{q:Pl}{x:A}(h:LentRow B g σ w q x){v:Value}(r:RepS g σ.view q v):RepI (g.lent B) w x v/\x.leaf=true:=by
 obtain⟨h0,z,es,es',h1,rfl,h3,h4,h5,h6,h7,h8⟩:=h;rw[r.eq h1,<-h3];exact⟨RepI.of_cells (lent_row h4 h0) h5 (by omega) h7 (fun i e c y he hy=>by rw[Nat.zero_add];exact h8 i e c y he hy),rfl⟩
theorem flat_cons(c:Bool×List (List A))(cs:List (Bool×List (List A))):flat (c::cs)=c.2++flat cs:=by simp[flat]
theorem chunks_ok{g:G}{σ:St}{n:Nat}(ih:LendOK B g σ w n):∀ (cs:List (Bool×List (List A))) (ess:List (List (List A))),cs.mapM (chunk n (lend n σ))=some ess->
  (∀c,c∈cs->c.1=false-> ∀e,e∈c.2-> ∀x,x∈e->x.leaf=true)->
  ess.flatten.length=(flat cs).length/\ ∀(i:Nat) e',ess.flatten[i]?=some e'-> ∃e,(flat cs)[i]?=some e/\e'.length=e.length/\
   ∀(c:Nat) y,e'[c]?=some y-> ∃x,e[c]?=some x/\ ∀u,RepE g w σ.view x u->RepI (g.lent B) w y u
 | [],ess,h,_=>by
   simp only[List.mapM_nil]at h;cases h;exact⟨rfl,fun i e' he=>by simp at he⟩
 | c::cs,ess,h,hl=>by
   simp only[List.mapM_cons]at h;cases h1:chunk n (lend n σ) c with
   |none=>rw[h1]at h;cases h
   | some es0=>
     rw[h1]at h;cases h2:cs.mapM (chunk n (lend n σ))with
     |none=>simp only[h2]at h;cases h
     | some ess0=>
       simp only[h2]at h;cases h;obtain⟨k1,k2⟩:=chunks_ok ih cs ess0 h2 (fun c hc=>hl c (List.mem_cons_of_mem _ hc))
       have hd:es0.length=c.2.length/\ ∀(i:Nat) e',es0[i]?=some e'-> ∃e,c.2[i]?=some e/\e'.length=e.length/\ ∀(j:Nat) y,e'[j]?=some y-> ∃x,e[j]?=some x/\ ∀u,RepE g w σ.view x u->RepI (g.lent B) w y u:=by
        obtain⟨b,es⟩:=c;cases b with
        | false=>
          simp only[chunk,Oe]at h1;subst h1;refine⟨rfl,fun i e' he=>⟨e',he,rfl,fun j y hy=>⟨y,hy,fun u hu=>?_⟩⟩⟩;have hy':=hl (false,es) (List.mem_cons_self ..) rfl e' (Mg he) y (Mg hy)
          have:RepI g w y u:=by
           cases y<;>simp only[RepE]at hu<;>first
            |exact hu.2
            |(simp[A.leaf]at hy';done)
          exact this.later (lent_later g w)
        | true=>
          simp only[chunk]at h1;refine⟨(mapM_get h1).1,fun i e' he=>?_⟩;obtain⟨e,h3,h4⟩:=mapM_getR h1 he;refine⟨e,h3,(mapM_get h4).1,fun j y hy=>?_⟩;obtain⟨x,h5,h6⟩:=mapM_getR h4 hy;exact⟨x,h5,fun u hu=>repE_lend ih h6 hu⟩
       obtain⟨d1,d2⟩:=hd;simp only[List.flatten_cons,flat_cons,List.length_append];refine⟨by omega,fun i e' he=>?_⟩
       by_cases hi:i<es0.length
       ·rw[List.getElem?_append_left hi]at he;rw[List.getElem?_append_left (by omega)];exact d2 i e' he
       ·rw[List.getElem?_append_right (by omega)]at he;rw[List.getElem?_append_right (by omega),<-d1];exact k2 _ e' he
theorem lend_ok{g:G}{σ:St}(hB:∀ b c,B b=true->σ.root (.box b c)=none)(hi:Inv g σ w tv tl)(n:Nat):LendOK B g σ w n:=by
 induction n using Nat.strongRecOn with
 | _ n ih=>
   intro a x p v h r;cases n with
   |zero=>simp[lend]at h
   | succ n=>
     have leaf:∀ y,a=y->x=y->(y.leaf=true)->RepL g w σ.view p y v->(∀f xs ys,y= .clo f xs ys->xs=[]/\ys=[])->RepI (g.lent B) w x v/\x.leaf=true:=by
      rintro y rfl rfl hy r hc;refine⟨?_,hy⟩;cases x<;>simp[A.leaf]at hy
      all_goals
       first
        |(simp only[RepL,RepC]at r;cases r with|imm _ _ _ hi ha=>exact hi.later (lent_later g w))
        |skip
      obtain⟨rfl,rfl⟩:=hc _ _ _ rfl;obtain⟨us,vs,e,h1,h2,_⟩:=r;have e1:us=[]:=List.eq_nil_of_length_eq_zero (by simpa using h1.symm)
      have e2:vs=[]:=List.eq_nil_of_length_eq_zero (by simpa using h2.symm);subst e1 e2;subst e;exact .clo _
     cases a with
     |sref q=>exact(lend_sref hB hi (fun m hm=>ih m hm) h).rep r
     | sub q lo hi'=>
       simp only[lend]at h;split at h
       ·rename_i z es'' hl;simp only[Oe]at h;subst h;obtain⟨h0,z',es,es',h1,h2,h3,h4,h5,h6,h7,h8⟩:=lend_sref hB hi (fun m hm=>ih m (by omega)) hl;cases h2;simp only[RepL]at r;obtain⟨l1,l2,oa,hv,hoa⟩:=r.2.2 z es.length (by simp only[St.view,St.R,h1]);refine⟨?_,rfl⟩;have hlen:((es''.take hi').drop lo).length=hi'-lo:=by simp;omega
        by_cases hlo:lo<hi'
        ·rw[hv,hoa (.inl hlo),<-hlen];refine RepI.of_cells (lent_row h4 h0) h5 (by omega) (fun i e he=>?_) (fun i e c y he hy=>?_)
         ·rw[List.getElem?_drop,List.getElem?_take]at he;split at he
          ·exact h7 _ e he
          ·cases he
         ·rw[List.getElem?_drop,List.getElem?_take]at he;split at he
          ·obtain⟨u,hu,hr⟩:=h8 _ e c y he hy;refine⟨u,?_,hr⟩;rw[<-hu];congr 1;rw[Nat.add_mul];omega
          ·cases he
        ·have e0:(es''.take hi').drop lo=[]:=List.eq_nil_of_length_eq_zero (by omega);rw[hv,e0,show hi'-lo=0 by omega];exact .emp _ _ _ _ (.inl rfl)
       ·cases h
     | app z q cs=>
       simp only[lend]at h;split at h
       ·rename_i z0 es'' hl;split at h
        ·rename_i hz;subst hz;split at h
         ·rename_i ess hess;simp only[Oe]at h;subst h;obtain⟨h0,z',es,es',h1,h2,h3,h4,h5,h6,h7,h8⟩:=lend_sref hB hi (fun m hm=>ih m (by omega)) hl;cases h2;simp only[RepL]at r;obtain⟨r1,r2,⟨r3,r4⟩,r5⟩:=r;obtain⟨b,cap,cur,t,e1,e2,e3,e4,e5,e6,e7,e8⟩:=r5 z0 es.length (by simp only[St.view,St.R,h1]) rfl;obtain⟨k1,k2⟩:=chunks_ok (ih n (Nat.lt_succ_self n)) cs ess hess r3;refine⟨?_,rfl⟩
          have hlen:(es''++ess.flatten).length=es.length+(flat cs).length:=by rw[List.length_append,k1,h3]
          rw[e1,<-hlen]
          have hown:(g.lent B).ow b=none:=by
           rcases e6 with e6|e6
           ·rw[<-e6]at h4;exact lent_row h4 h0
           ·exact lent_tmp e6 h0
          refine RepI.of_cells hown (heap_lt e2) (by omega) (fun i e he=>?_) (fun i e c y he hy=>?_)
          ·by_cases hi2:i<es''.length
           ·rw[List.getElem?_append_left hi2]at he;exact h7 i e he
           ·rw[List.getElem?_append_right (by omega)]at he;obtain⟨e0,he0,hl0,_⟩:=k2 _ e he;rw[hl0];exact(e8 _ e0 he0).1
          ·rw[cell_of e2,Nat.zero_add]
           by_cases hi2:i<es''.length
           ·rw[List.getElem?_append_left hi2]at he;obtain⟨u,hu,hr⟩:=h8 i e c y he hy;refine⟨u,?_,hr⟩;rw[<-e7 _ ?_];exact hu;have:c<z0:=by rw[<-h7 i e he];exact(Ge hy).1
            have:i*z0+z0<=es.length*z0:=by rw[<-Nat.succ_mul];exact Nat.mul_le_mul_right _ (by omega)
            omega
           ·rw[List.getElem?_append_right (by omega)]at he;obtain⟨e0,he0,hl0,hc0⟩:=k2 _ e he;obtain⟨x0,hx0,hr0⟩:=hc0 c y hy;obtain⟨u,hu,hr⟩:=(e8 _ e0 he0).2 c x0 hx0;refine⟨u,?_,hr0 u hr⟩;rw[<-hu];congr 1;have:es.length+(i-es''.length)=i:=by omega
            rw[this]
         ·cases h
        ·cases h
       ·cases h
     |agg cs=>exact r.noAgg.elim
     |v y=>simp only[lend,Oe]at h;exact leaf _ rfl h.symm rfl r (fun _ _ _ e=>by cases e)
     |imm nl z es=>simp only[lend,Oe]at h;exact leaf _ rfl h.symm rfl r (fun _ _ _ e=>by cases e)
     |pimm cs=>simp only[lend,Oe]at h;exact leaf _ rfl h.symm rfl r (fun _ _ _ e=>by cases e)
     |un=>simp only[lend,Oe]at h;exact leaf _ rfl h.symm rfl r (fun _ _ _ e=>by cases e)
     |ifc t y=>simp only[lend,Oe]at h;exact leaf _ rfl h.symm rfl r (fun _ _ _ e=>by cases e)
     | clo f xs ys=>
       cases xs with
       | nil=>cases ys with
         |nil=>simp only[lend,Oe]at h;exact leaf _ rfl h.symm rfl r (fun _ _ _ e=>by cases e;exact⟨rfl,rfl⟩)
         |cons y ys=>simp[lend]at h
       |cons y ys=>simp[lend]at h
     |own z es=>simp[lend]at h
     |bld z es=>simp[lend]at h
     |pref p i c=>simp[lend]at h
     |pt b c=>simp[lend]at h
     |tup vs=>simp[lend]at h
     |mp b=>simp[lend]at h
     |ud=>simp[lend]at h
     |top=>simp[lend]at h
end Go.Ab
end
section
namespace Go.Ab
open Go.RowKit
variable {w:World} {tv tl:Nat->Value}
theorem keepsP_fr{g:G}{p:Pl}:KeepsP p g w (g.fr p) w:=
 { fr_later g w p with
   blk:=rfl
   hd:=fun _ _ _=>rfl
   ow:=fun r b hp _ h=>fr_ow_other h hp
   row:=fun _ _ _ _ _=>rfl
   owb:=fun b k h=>fr_bx h
   rowb:=fun _ _ _=>rfl
   owt:=fun r b _ h=>fr_tmp h
   rowt:=fun _ _ _ _=>rfl
   lt:=fun h b hb=>h b (fr_some hb)}
theorem plain_leaf{x:A}{g:G}{V:Vw}{u:Value}(h:x.plain=true)(r:RepE g w V x u):x.leaf=true/\RepI g w x u:=by
 cases x<;>simp[A.plain]at h<;>simp only[RepE]at r<;>first
  |exact r
  |(have:=r.1;simp[A.leaf]at this)
theorem fr_bld{g:G}{V:Vw}{p:Pl}{z:Nat}{es:List (List A)}{u:Value}(hes:es.all (·.all A.plain)=true)(r:BldOK g w V p z es u):RepI (g.fr p) w (.imm false z es) u:=by
 obtain⟨b,cap,cur,t,rfl,e2,e3,e4,e5,e6,e7,e8⟩:=r;refine RepI.of_cells (fr_ow e3 (Pl.under_refl p)) (heap_lt e4) e6 (fun i e he=>(e8 i e he).1) (fun i e c x he hx=>?_);obtain⟨u,hu,hr⟩:=(e8 i e he).2 c x hx;have hp:=List.all_eq_true.1 (List.all_eq_true.1 hes e (Mg he)) x (Mg hx)
 exact⟨u,by rw[cell_of e4,Nat.zero_add];exact hu,(plain_leaf hp hr).2.later (fr_later g w p)⟩
theorem getS_imm(nl:Bool)(z:Nat)(es:List (List A))(t:List (Nat×Nat)):rowLen (getS (.imm nl z es) t)=none:=by
 cases t with
 |nil=>rfl
 |cons q t=>simp[getS,child,rowLen]
theorem freeze_set{g:G}{σ:St}(h:Inv g σ w tv tl){p:Pl}(hp:noHand p){y:A}{z:Nat}{es:List (List A)}(hg:σ.get p=some y)(hr:isRowOf y z es)(hpl:y= .bld z es->es.all (·.all A.plain)=true):
  MS w tv tl False (fun _=>False) g σ (g.fr p) (σ.set p (.imm false z es)):=by
 obtain⟨hl1,hl2,hl3⟩:=set_lens σ p (.imm false z es)
 have hR:∀ r,p.under r->(σ.set p (.imm false z es)).R r=none:=by
  intro r hr;obtain⟨t,rfl⟩:=(Pl.under_iff p r).1 hr;rw[R_set_under (.imm false z es) hg];exact getS_imm false z es t
 have nu:∀ r,¬noHand r-> ¬p.under r:=fun r hr hu=>hr (fun k e=>hp k (by rw[hu.1];exact e));refine{fr_later g w p with blk:=rfl,owb:=fun b k h=>fr_bx h,hd:=fun _ _ _=>rfl,ow:=fun r b h0 _ ho=>fr_ow_other ho (nu r h0),inv:=?_,nv:=hl1,nl:=hl2,nb:=hl3,ref:=?_,tmp:=fun r b _ ho=> .inr (fr_tmp ho)}
 ·refine h.turn hp hg hr keepsP_fr ?_ ?_ ?_ (fun _ e=>by cases e) (fun _ e=>by cases e)
  ·refine fun V V' _ _ _=>⟨fun z' es' u e hu=>?_,fun z' es' u e hu=>?_⟩
   ·rcases hr with hr|hr
    ·subst hr;cases e;exact .imm _ _ _ (fr_rep hu (Pl.under_refl p)).toImm rfl
    ·subst hr;cases e
   ·rcases hr with hr|hr
    ·subst hr;cases e
    ·subst hr;cases e;simp only[RepL,RepC];exact .imm _ _ _ (fr_bld (hpl rfl) hu) rfl
  ·exact fun r hr _=> .inl (hR r hr)
  ·exact fun r hr _=> .inl (hR r hr)
 ·intro r hr0
  by_cases hu:p.under r
  ·exact .inl (hR r hu)
  ·exact .inr ⟨R_set_other (.imm false z es) hu,rfl⟩
def gB(B:Nat->Bool)(b:Bool)(g:G):G:=if b then g.lent B else g
variable {B:Nat->Bool}
theorem gB_later(b:Bool)(g:G)(w:World):Later g w (gB B b g) w:=by
 cases b
 ·exact Later.refl g w
 ·exact lent_later g w
theorem gB_blk(b:Bool)(g:G):(gB B b g).blk=g.blk:=by cases b<;>rfl
structure Fz(g g':G):Prop where
 o:∀ b,g'.ow b=g.ow b\/(∃p:Pl,g.ow b=some (.row p)/\p.r.isLoc=true)/\g'.ow b=none
 hd:g'.hd=g.hd
 blk:g'.blk=g.blk
theorem Fz.refl(g:G):Fz g g:=⟨fun _=> .inl rfl,rfl,rfl⟩
theorem Fz.trans{g g' g'':G}(h:Fz g g')(k:Fz g' g''):Fz g g'':=⟨fun b=>by
 rcases h.o b with h1|⟨h1,h2⟩
 ·rw[<-h1];exact k.o b
 ·rcases k.o b with k1|⟨⟨p,k1⟩,k2⟩
  ·exact .inr ⟨h1,by rw[k1,h2]⟩
  ·exact .inr ⟨h1,k2⟩,k.hd.trans h.hd,k.blk.trans h.blk⟩
theorem fz_fr(g:G)(p:Pl)(hp:p.r.isLoc=true):Fz g (g.fr p):=⟨fun b=>by
 simp only[G.fr]
 split
 ·rename_i r hr
  split
  ·rename_i hu
   exact .inr ⟨⟨r,hr,by rw[<-hu.1];exact hp⟩,rfl⟩
  ·exact .inl hr.symm
 ·exact .inl rfl,rfl,rfl⟩
theorem Fz.lent{g g':G}(h:Fz g g'):Later (g.lent B) w (g'.lent B) w:=by
 refine⟨Nat.le_refl _,fun b hb hn=>?_,fun _ _ _=>rfl,fun b hb hf=>⟨?_,rfl⟩⟩
 ·rcases h.o b with h1|⟨_,h2⟩
  ·simp only[G.lent,h1]at hn ⊢;exact hn
  ·exact lent_none h2
 ·rcases h.o b with h1|⟨⟨p,h1,hp⟩,h2⟩
  ·simp only[G.lent,h1]at hf ⊢;exact hf
  ·rw[lent_row h1 (by cases hr:p.r<;>simp_all [outR,Rt.isLoc])]at hf;cases hf
theorem Fz.later{g g':G}(h:Fz g g'):Later g w g' w:=by
 refine⟨Nat.le_refl _,fun b hb hn=>?_,fun _ _ _=>rfl,fun b hb hf=>⟨?_,rfl⟩⟩
 ·rcases h.o b with h1|⟨_,h2⟩
  ·rw[h1];exact hn
  ·exact h2
 ·rcases h.o b with h1|⟨⟨p,h1,_⟩,h2⟩
  ·rw[h1];exact hf
  ·rw[h1]at hf;cases hf
theorem Fz.gB{g g':G}(h:Fz g g'){b c:Bool}(hbc:b=true->c=true):Later (gB B b g) w (gB B c g') w:=by
 cases b<;>cases c<;>simp only[Ab.gB,Bool.false_eq_true,if_false,if_true]
 ·exact h.later
 ·exact h.later.trans (lent_later g' w)
 ·simp at hbc
 ·exact h.lent
def A.clean:A->Bool
 | .pt _ _=>true| .mp _=>true| .clo _ _ _=>true
 |x=>x.leaf
def cleanA:A->Bool
 | .agg cs=>cs.all A.clean
 |x=>x.clean
theorem RepC.any{g g':G}{nb nb':Nat}{p q:Pl}{x:A}{v:Value}(r:RepC g w nb p x v)(hx:x.clean=true)(h:Later g w g' w)(hb:g'.blk=g.blk)(hn:nb<=nb'):RepC g' w nb' q x v:=by
 cases x<;>simp only[RepC]at r ⊢ <;>first
  |exact⟨Nat.lt_of_lt_of_le r.1 hn,by rw[hb];exact r.2⟩
  | (cases r with
     |imm _ _ _ hi ha=>exact .imm _ _ _ (hi.later h) ha)
  |(simp[A.clean,A.leaf]at hx;done)
  |skip
 obtain⟨us,vs,h1,h2,h3,h4,h5⟩:=r;exact⟨us,vs,h1,h2,h3,fun c x u hx hu=>(h4 c x u hx hu).later h hb hn,fun c x u hx hu=>(h5 c x u hx hu).later h hb hn⟩
theorem clean_leaf{x:A}(h:x.leaf=true):x.clean=true:=by
 cases x<;>simp_all [A.clean,A.leaf]
theorem RepC.ofI{g:G}{nb:Nat}{p:Pl}{x:A}{v:Value}(r:RepI g w x v)(h:x.leaf=true):RepC g w nb p x v:=by
 cases x<;>simp only[RepC]<;>first
  |exact .imm _ _ _ r h
  |(simp[A.leaf]at h;done)
  |skip
 cases r with
 |clo f=>exact⟨[],[],rfl,rfl,rfl,fun c x u hx=>by simp at hx,fun c x u hx=>by simp at hx⟩
 |emp _ _ _ _ ha=>rcases ha with ha|ha<;>cases ha
 |row _ _ _ _ _ _ _ ha=>rcases ha with ha|ha<;>cases ha
theorem lend_clean{g:G}{σ:St}(hB:∀ b c,B b=true->σ.root (.box b c)=none)(hi:Inv g σ w tv tl){n:Nat}{a x:A}{p q:Pl}{v:Value}(h:lend n σ a=some x)(r:RepL g w σ.view p a v){nb:Nat}:RepC (g.lent B) w nb q x v/\x.clean=true:=
 have:=lend_ok hB hi n a x p v h r
 ⟨.ofI this.1 this.2,clean_leaf this.2⟩
theorem lend_ref{σ:St}{a x:A}{n:Nat}(h:lend n σ a=some x)(hl:lends a=false)(ha:∀ cs,a≠ .agg cs):x=a:=by
 cases n with
 |zero=>simp[lend]at h
 | succ n=>
   cases a<;>simp[lends]at hl<;>simp[lend]at h<;>first
    |exact h.symm
    |exact absurd rfl (ha _)
    |skip
   rename_i f xs ys;cases xs<;>cases ys<;>simp[lend]at h;exact h.symm
theorem bx_setLoc{σ:St}{q:Pl}(hq:q.r.isLoc=true)(x:A):(σ.set q x).bx=σ.bx:=by
 unfold St.set;split
 ·cases hr:q.r<;>simp[hr,Rt.isLoc]at hq;rfl
 ·rfl
theorem outs_bx{σ σ':St}(hB:∀ b c,B b=true->σ.root (.box b c)=none)(h:σ'.bx=σ.bx):∀ b c,B b=true->σ'.root (.box b c)=none:=fun b c hb=>by
 have:=hB b c hb;simp only[St.root]at this ⊢
 rw[h];exact this
theorem give1_ok{g:G}{σ σ':St}(hB:∀ b c,B b=true->σ.root (.box b c)=none)(hi:Inv g σ w tv tl){k:Bool}{a x:A}{b:Bool}{p:Pl}{v:Value}(h:give1 k σ a=some (x,σ',b))(r:RepL g w σ.view p a v)(ha:∀ cs,a≠ .agg cs):
  ∃g',MS w tv tl False (fun _=>False) g σ g' σ'/\Fz g g'/\x.clean=true/\(∀q,RepC (gB B b g') w σ'.bx.length q x v)/\((k=true->σ'=σ)/\σ'.bx=σ.bx):=by
 have lent:∀ y,lend 20 σ a=some y-> ∃g',MS w tv tl False (fun _=>False) g σ g' σ/\Fz g g'/\y.clean=true/\(∀q,RepC (gB B true g') w σ.bx.length q y v)/\((k=true->σ=σ)/\σ.bx=σ.bx):=fun y hy=>
  ⟨g,MS.refl hi,Fz.refl g,(lend_clean hB hi hy r (q:=p) (nb:=0)).2,fun q=>(lend_clean hB hi hy r).1,fun _=>rfl,rfl⟩
 have kept:∀ y,y=a->y.clean=true-> ∃g',MS w tv tl False (fun _=>False) g σ g' σ/\Fz g g'/\y.clean=true/\(∀q,RepC (gB B false g') w σ.bx.length q y v)/\((k=true->σ=σ)/\σ.bx=σ.bx):=by
  rintro y rfl hy;refine⟨g,MS.refl hi,Fz.refl g,hy,fun q=>?_,fun _=>rfl,rfl⟩
  have:RepC g w σ.bx.length p y v:=by
   cases y<;>first
    |exact r
    |(simp[A.clean,A.leaf]at hy;done)
  exact this.any hy (Later.refl g w) rfl (Nat.le_refl _)
 have gen:(match lend 20 σ a with|some x=>some (x,σ,lends a)|none=>none)=some (x,σ',b)-> ∃g',MS w tv tl False (fun _=>False) g σ g' σ'/\Fz g g'/\x.clean=true/\(∀q,RepC (gB B b g') w σ'.bx.length q x v)/\((k=true->σ'=σ)/\σ'.bx=σ.bx):=by
  intro h;split at h
  ·rename_i y hy;simp only[Oe,Prod.mk.injEq]at h;obtain⟨rfl,rfl,rfl⟩:=h;cases hl:lends a with
   |true=>exact lent y hy
   | false=>
     have e:=lend_ref hy hl ha;subst e;refine kept y rfl ?_;exact(lend_clean hB hi hy r (q:=p) (nb:=0)).2
  ·cases h
 cases a with
 |pt b0 c0=>simp only[give1,Oe,Prod.mk.injEq]at h;obtain⟨rfl,rfl,rfl⟩:=h;exact kept _ rfl rfl
 |mp b0=>simp only[give1,Oe,Prod.mk.injEq]at h;obtain⟨rfl,rfl,rfl⟩:=h;exact kept _ rfl rfl
 |clo f xs ys=>simp only[give1,Oe,Prod.mk.injEq]at h;obtain⟨rfl,rfl,rfl⟩:=h;exact kept _ rfl rfl
 | sref q=>
   simp only[give1]at h;have hrr:RepS g σ.view q v:=r
   have hn:noHand q:=ok_noHand hrr.1
   have fin:∀ y z es,σ.get q=some y->isRowOf y z es->(y= .bld z es->es.all (·.all A.plain)=true)->x= .imm false z es->σ'=σ.set q (.imm false z es)->b=false->k=false->q.r.isLoc=true->
     ∃g',MS w tv tl False (fun _=>False) g σ g' σ'/\Fz g g'/\x.clean=true/\(∀q,RepC (gB B b g') w σ'.bx.length q x v)/\((k=true->σ'=σ)/\σ'.bx=σ.bx):=by
    rintro y z es hg hr hp rfl rfl rfl rfl hq;refine⟨g.fr q,freeze_set hi hn hg hr hp,fz_fr g q hq,rfl,fun q'=>?_,(fun e=>by cases e),bx_setLoc hq _⟩;refine RepC.ofI ?_ rfl;rcases hr with rfl|rfl
    ·have:=fr_rep (p:=q) (hi.getOwn hg) (Pl.under_refl q);rw[hrr.eq (row_own hg)];exact this.toImm
    ·rcases hi.rowAt hg (.inr rfl)with⟨e,_⟩|⟨_,u,hu⟩
     ·cases e
     ·have:=fr_bld (hp rfl) hu;rw[hrr.eq (row_bld hg)];obtain⟨b,cap,cur,t,e1,e2,_⟩:=hu;rw[e2,<-e1];exact this
   split at h
   ·rename_i hc;simp only[Bool.and_eq_true,Bool.not_eq_true']at hc;split at h
    ·rename_i y τ hf;simp only[Oe,Prod.mk.injEq]at h;obtain⟨rfl,rfl,rfl⟩:=h;unfold freeze at hf;split at hf
     ·rename_i z es hg;simp only[Oe,Prod.mk.injEq]at hf;exact fin _ z es hg (.inl rfl) (fun e=>by cases e) hf.1.symm hf.2.symm rfl hc.2 hc.1
     ·rename_i z es hg;split at hf
      ·rename_i hp;simp only[Oe,Prod.mk.injEq]at hf;exact fin _ z es hg (.inr rfl) (fun _=>hp) hf.1.symm hf.2.symm rfl hc.2 hc.1
      ·cases hf
     ·cases hf
    ·split at h
     ·rename_i y hy;simp only[Oe,Prod.mk.injEq]at h;obtain⟨rfl,rfl,rfl⟩:=h;exact lent _ hy
     ·cases h
   ·split at h
    ·rename_i y hy;simp only[Oe,Prod.mk.injEq]at h;obtain⟨rfl,rfl,rfl⟩:=h;exact lent _ hy
    ·cases h
 |agg cs=>exact absurd rfl (ha cs)
 |_=>exact gen h
def RepG(g:G)(w:World)(nb:Nat)(q:Pl)(x:A)(v:Value):Prop:=
 match x with
 | .agg cs=> ∃us:List Value,v= .agg us.toArray/\cs.length=us.length/\ ∀(c:Nat) x u,cs[c]?=some x->us[c]?=some u->RepC g w nb (q.at 0 c) x u
 |x=>RepC g w nb q x v
theorem RepG.any{g g':G}{nb nb':Nat}{p q:Pl}{x:A}{v:Value}(r:RepG g w nb p x v)(hx:cleanA x=true)(h:Later g w g' w)(hb:g'.blk=g.blk)(hn:nb<=nb'):RepG g' w nb' q x v:=by
 cases x<;>simp only[RepG]at r ⊢ <;>first
  |exact r.any hx h hb hn
  |skip
 obtain⟨us,h1,h2,h3⟩:=r;exact⟨us,h1,h2,fun c x u hx' hu=>(h3 c x u hx' hu).any (List.all_eq_true.1 hx x (Mg hx')) h hb hn⟩
theorem RepC.toG{g:G}{nb:Nat}{q:Pl}{x:A}{v:Value}(r:RepC g w nb q x v)(hx:x.clean=true):RepG g w nb q x v:=by
 cases x<;>first
  |exact r
  |(simp[A.clean,A.leaf]at hx)
theorem clean_cleanA{x:A}(hx:x.clean=true):cleanA x=true:=by
 cases x<;>first
  |exact hx
  |(simp[A.clean,A.leaf]at hx)
theorem gives1_ok{k:Bool}:∀ (ys:List A) (us:List Value) (g:G) (σ:St) (xs:List A) (σ':St) (b:Bool) (p:Pl),(∀b c,B b=true->σ.root (.box b c)=none)->Inv g σ w tv tl->
  (∀(i:Nat) y u,ys[i]?=some y->us[i]?=some u->RepL g w σ.view (p.at 0 i) y u/\y.light=true)->gives1 k σ ys=some (xs,σ',b)->ys.length=us.length->
  ∃g',MS w tv tl False (fun _=>False) g σ g' σ'/\Fz g g'/\xs.length=ys.length/\((k=true->σ'=σ)/\σ'.bx=σ.bx)/\ ∀(i:Nat) x u,xs[i]?=some x->us[i]?=some u->x.clean=true/\ ∀q,RepC (gB B b g') w σ'.bx.length q x u
 | ys,us,g,σ,xs,σ',b,p,hB,hi,hr,h,hl=>by
   suffices H:∀ (ys:List A) (us:List Value) (g:G) (σ:St) (xs:List A) (σ':St) (b:Bool) (P:Nat->Pl),(∀b c,B b=true->σ.root (.box b c)=none)->Inv g σ w tv tl->
     (∀(i:Nat) y u,ys[i]?=some y->us[i]?=some u->RepL g w σ.view (P i) y u/\y.light=true)->gives1 k σ ys=some (xs,σ',b)->ys.length=us.length->
     ∃g',MS w tv tl False (fun _=>False) g σ g' σ'/\Fz g g'/\xs.length=ys.length/\((k=true->σ'=σ)/\σ'.bx=σ.bx)/\ ∀(i:Nat) x u,xs[i]?=some x->us[i]?=some u->x.clean=true/\ ∀q,RepC (gB B b g') w σ'.bx.length q x u from
    H ys us g σ xs σ' b (fun i=>p.at 0 i) hB hi hr h hl
   intro ys
   induction ys with
   | nil=>
     intro us g σ xs σ' b P hB hi hr h hl;simp only[gives1,Oe,Prod.mk.injEq]at h;obtain⟨rfl,rfl,rfl⟩:=h;exact⟨g,MS.refl hi,Fz.refl g,rfl,⟨fun _=>rfl,rfl⟩,fun i x u hx=>by simp at hx⟩
   | cons y ys ih=>
     intro us g σ xs σ' b P hB hi hr h hl;cases us with
     |nil=>simp at hl
     | cons u us=>
       simp only[gives1]at h;split at h
       ·rename_i x σ1 b1 h1;split at h
        ·rename_i xs1 σ2 b2 h2;simp only[Oe,Prod.mk.injEq]at h;obtain⟨rfl,rfl,rfl⟩:=h;have r0:=hr 0 y u rfl rfl
         obtain⟨g1,m1,f1,c1,o1,q1⟩:=give1_ok hB hi h1 r0.1 (fun cs e=>by subst e;exact r0.1.noAgg)
         obtain⟨g2,m2,f2,l2,q2,o2⟩:=ih us g1 σ1 xs1 σ2 b2 (fun i=>P (i+1)) (outs_bx hB q1.2) m1.inv
          (fun i y u hy hu=>have:=hr (i+1) y u (by simpa using hy) (by simpa using hu);⟨this.1.step m1 this.2,this.2⟩) h2 (by simpa using hl)
         refine⟨g2,m1.trans m2,f1.trans f2,by simp[l2],⟨fun hk=>(q2.1 hk).trans (q1.1 hk),q2.2.trans q1.2⟩,fun i x u hx hu=>?_⟩;cases i with
         | zero=>
           simp only[List.getElem?_cons_zero,Oe]at hx hu;subst hx hu;refine⟨c1,fun q=>(o1 q).any c1 (f2.gB (fun e=>by simp[e])) ?_ (by rw[m2.nb];exact Nat.le_refl _)⟩;rw[gB_blk,gB_blk,m2.blk]
         | succ i=>
           obtain⟨c2,o2⟩:=o2 i x u (by simpa using hx) (by simpa using hu);refine⟨c2,fun q=>(o2 q).any c2 ((Fz.refl g2).gB (fun e=>by simp[e])) (by rw[gB_blk,gB_blk]) (Nat.le_refl _)⟩
        ·cases h
       ·cases h
theorem give_ok{k:Bool}{g:G}{σ σ':St}(hB:∀ b c,B b=true->σ.root (.box b c)=none)(hi:Inv g σ w tv tl){a x:A}{b:Bool}{p:Pl}{v:Value}(h:give k σ a=some (x,σ',b))(r:RepT g w σ.view p a v)(hl:lightT a=true):
  ∃g',MS w tv tl False (fun _=>False) g σ g' σ'/\Fz g g'/\cleanA x=true/\(∀q,RepG (gB B b g') w σ'.bx.length q x v)/\((k=true->σ'=σ)/\σ'.bx=σ.bx):=by
 have one:(∀cs,a≠ .agg cs)->RepL g w σ.view p a v->give1 k σ a=some (x,σ',b)-> ∃g',MS w tv tl False (fun _=>False) g σ g' σ'/\Fz g g'/\cleanA x=true/\(∀q,RepG (gB B b g') w σ'.bx.length q x v)/\((k=true->σ'=σ)/\σ'.bx=σ.bx):=by
  intro ha r h;obtain⟨g1,m,f,c,o,q⟩:=give1_ok hB hi h r ha;exact⟨g1,m,f,clean_cleanA c,fun q=>(o q).toG c,q⟩
 cases a with
 | agg cs=>
   simp only[give]at h;split at h
   ·rename_i cs' σ1 b1 h1;simp only[Oe,Prod.mk.injEq]at h;obtain⟨rfl,rfl,rfl⟩:=h;obtain⟨us,e1,e2,e3⟩:=r;obtain⟨g1,m,f,l,o,q⟩:=gives1_ok cs us g σ cs' σ1 b1 p hB hi (fun i y u hy hu=>⟨e3 i y u hy hu,List.all_eq_true.1 hl y (Mg hy)⟩) h1 e2;refine⟨g1,m,f,?_,fun p=>⟨us,e1,by rw[l,e2],fun c x u hx hu=>(q c x u hx hu).2 _⟩,o⟩;simp only[cleanA,List.all_eq_true];intro x hx
    obtain⟨i,hx⟩:=List.mem_iff_getElem?.1 hx;have hlt:i<us.length:=by rw[<-e2,<-l];exact(Ge hx).1
    exact(q i x _ hx (Gg hlt)).1
   ·cases h
 |tup vs=>simp[give,give1,lend]at h
 |ud=>simp[give,give1,lend]at h
 |top=>simp[give,give1,lend]at h
 |_=>exact one (fun cs e=>by cases e) r h
theorem RepT.stepL{T:Prop}{D:Pl->Prop}{g g':G}{σ σ':St}(h:MS w tv tl T D g σ g' σ'){p:Pl}{a:A}{v:Value}(hl:lightT a=true)(r:RepT g w σ.view p a v):RepT g' w σ'.view p a v:=by
 cases a<;>simp only[RepT]at r ⊢ <;>first
  |exact r
  |exact RepA.step h hl r
  |skip
 obtain⟨us,h1,h2,h3⟩:=r;exact⟨us,h1,h2,fun c x u hx hu=>(h3 c x u hx hu).step h (List.all_eq_true.1 hl x (Mg hx))⟩
theorem gives_ok{k:Bool}:∀ (ys:List A) (us:List Value) (g:G) (σ:St) (xs:List A) (σ':St) (b:Bool),(∀b c,B b=true->σ.root (.box b c)=none)->Inv g σ w tv tl->
  (∀(i:Nat) y u,ys[i]?=some y->us[i]?=some u->(∀p,RepT g w σ.view p y u)/\lightT y=true)->gives k σ ys=some (xs,σ',b)->ys.length=us.length->
  ∃g',MS w tv tl False (fun _=>False) g σ g' σ'/\Fz g g'/\xs.length=ys.length/\((k=true->σ'=σ)/\σ'.bx=σ.bx)/\ ∀(i:Nat) x u,xs[i]?=some x->us[i]?=some u->cleanA x=true/\ ∀q,RepG (gB B b g') w σ'.bx.length q x u
 | [],us,g,σ,xs,σ',b,hB,hi,hr,h,hl=>by
   simp only[gives,Oe,Prod.mk.injEq]at h;obtain⟨rfl,rfl,rfl⟩:=h;exact⟨g,MS.refl hi,Fz.refl g,rfl,⟨fun _=>rfl,rfl⟩,fun i x u hx=>by simp at hx⟩
 |y::ys,[],g,σ,xs,σ',b,hB,hi,hr,h,hl=>by simp at hl
 | y::ys,u::us,g,σ,xs,σ',b,hB,hi,hr,h,hl=>by
   simp only[gives]at h;split at h
   ·rename_i x σ1 b1 h1;split at h
    ·rename_i xs1 σ2 b2 h2;simp only[Oe,Prod.mk.injEq]at h;obtain⟨rfl,rfl,rfl⟩:=h;have r0:=hr 0 y u rfl rfl
     obtain⟨g1,m1,f1,c1,o1,q1⟩:=give_ok hB hi h1 (r0.1 hand0) r0.2
     obtain⟨g2,m2,f2,l2,q2,o2⟩:=gives_ok ys us g1 σ1 xs1 σ2 b2 (outs_bx hB q1.2) m1.inv
      (fun i y u hy hu=>have:=hr (i+1) y u (by simpa using hy) (by simpa using hu);⟨fun p=>RepT.stepL m1 this.2 (this.1 p),this.2⟩) h2 (by simpa using hl)
     refine⟨g2,m1.trans m2,f1.trans f2,by simp[l2],⟨fun hk=>(q2.1 hk).trans (q1.1 hk),q2.2.trans q1.2⟩,fun i x u hx hu=>?_⟩;cases i with
     | zero=>
       simp only[List.getElem?_cons_zero,Oe]at hx hu;subst hx hu;refine⟨c1,fun q=>(o1 q).any c1 (f2.gB (fun e=>by simp[e])) ?_ (by rw[m2.nb];exact Nat.le_refl _)⟩;rw[gB_blk,gB_blk,m2.blk]
     | succ i=>
       obtain⟨c2,o2⟩:=o2 i x u (by simpa using hx) (by simpa using hu);refine⟨c2,fun q=>(o2 q).any c2 ((Fz.refl g2).gB (fun e=>by simp[e])) (by rw[gB_blk,gB_blk]) (Nat.le_refl _)⟩
    ·cases h
   ·cases h
end Go.Ab
end
section
namespace Go.Ab
open Go.RowKit
variable {w:World} {tv tl:Nat->Value}
theorem goneB_len:∀ (ids:List Nat) (bx:List Bx),(goneB bx ids).length=bx.length
 |[],_=>rfl
 |b::bs,bx=>by simp only[goneB];rw[goneB_len bs,List.length_set]
theorem goneB_get:∀ (ids:List Nat) (bx:List Bx) (b:Nat),(goneB bx ids)[b]?=if ids.contains b then(bx[b]?).map (fun _=>Bx.gone)else bx[b]?
 |[],bx,b=>by simp[goneB]
 | i::ids,bx,b=>by
   simp only[goneB];rw[goneB_get ids,List.getElem?_set]
   by_cases hib:i=b
   ·subst hib;simp only[if_true,List.contains_cons,beq_self_eq_true,Bool.true_or]
    by_cases hlt:i<bx.length
    ·simp[hlt]
    ·simp[hlt]
   ·have:(b==i)=false:=by simpa using fun e=>hib e.symm
    simp only[hib,if_false,List.contains_cons,this,Bool.false_or]
theorem gone_root{σ:St}{ids:List Nat}{b c:Nat}(h:ids.contains b=true):({σ with bx:=goneB σ.bx ids}:St).root (.box b c)=none:=by
 simp only[St.root];rw[goneB_get,if_pos h];cases σ.bx[b]?<;>rfl
theorem gone_root_ne{σ:St}{ids:List Nat}{r:Rt}(h:outR (ids.contains ·) r=false):({σ with bx:=goneB σ.bx ids}:St).root r=σ.root r:=by
 cases r with
 | box b c=>
   simp only[outR]at h;simp only[St.root];rw[goneB_get,h];rfl
 |_=>rfl
theorem gone_R{σ:St}{ids:List Nat}(q:Pl):({σ with bx:=goneB σ.bx ids}:St).R q=none\/({σ with bx:=goneB σ.bx ids}:St).R q=σ.R q:=by
 cases h:outR (ids.contains ·) q.r with
 |false=>exact .inr (R_of_root (gone_root_ne h))
 | true=>
   left;cases hr:q.r with
   | box b c=>
     rw[hr]at h;have:({σ with bx:=goneB σ.bx ids}:St).root q.r=none:=by rw[hr];exact gone_root h
     simp only[St.R,St.row,St.get,this]
   |_=>rw[hr]at h;cases h
theorem Inv.gone{g:G}{σ:St}(h:Inv g σ w tv tl)(ids:List Nat):Inv g {σ with bx:=goneB σ.bx ids} w tv tl:=by
 have ok:∀ (V V':Vw) q,V.nl=V'.nl->V.nb=V'.nb->V.ok q->V'.ok q:=by
  intro V V' q h1 h2 hq;unfold Vw.ok at hq ⊢
  split<;>rename_i e<;>simp only[e]at hq<;>first|omega|trivial
 refine⟨fun n x hx=>?_,fun k x hx=>?_,fun b x hx=>?_,h.lt⟩
 ·exact(h.vars n x hx).review (by simp[St.view0,goneB_len]) (fun q _ hq=>ok σ.view0 _ q rfl (by simp[St.view0,goneB_len]) hq) (fun q _ _=>gone_R q)
 ·exact(h.locs k x hx).review (by simp[St.view,goneB_len]) (fun q _ hq=>ok σ.view _ q rfl (by simp[St.view,goneB_len]) hq) (fun q _ _=>gone_R q)
 ·simp only at hx ⊢
  rw[goneB_get]at hx;rw[goneB_len];split at hx
  ·cases hb:σ.bx[b]? with
   |none=>rw[hb]at hx;cases hx
   | some y=>
     rw[hb]at hx;simp only[Option.map_some,Oe]at hx;subst hx;trivial
  ·exact h.boxes b x hx
theorem reach_ok(bx:List Bx):∀ (n:Nat) (todo acc:List Nat),acc.Nodup->(∀b,b∈acc->b<bx.length)->(reach bx n todo acc).Nodup/\ ∀b,b∈reach bx n todo acc->b<bx.length
 |0,todo,acc,h1,h2=>by unfold reach;exact⟨h1,h2⟩
 |n+1,[],acc,h1,h2=>by unfold reach;exact⟨h1,h2⟩
 | n+1,b::todo,acc,h1,h2=>by
   unfold reach;split
   ·exact reach_ok bx n todo acc h1 h2
   ·rename_i hc;simp only[Bool.or_eq_true,not_or,Bool.not_eq_true,decide_eq_true_eq,Nat.not_le]at hc;refine reach_ok bx n _ _ ?_ ?_
    ·rw[List.nodup_append];refine⟨h1,by simp,fun x hx y hy=>?_⟩;simp only[List.mem_singleton]at hy;subst hy;rintro rfl;have:acc.contains x=true:=by simpa using hx
     rw[hc.1]at this;cases this
    ·intro x hx;rw[List.mem_append,List.mem_singleton]at hx;rcases hx with hx|rfl
     ·exact h2 x hx
     ·exact hc.2
theorem nth_some{ids:List Nat}{i j:Nat}(h:nth ids i=some j):ids[j]?=some i:=findIdx_get h
theorem nth_contains{ids:List Nat}{i:Nat}:(nth ids i=none)↔ids.contains i=false:=by
 unfold nth;rw[List.findIdx?_eq_none_iff];constructor
 ·intro h;cases hc:ids.contains i with
  |false=>rfl
  | true=>
    have:=h i (by simpa using hc);simp at this
 ·intro h x hx;cases hxi:x==i with
  |false=>rfl
  | true=>
    have:x=i:=by simpa using hxi
    subst this;have:ids.contains x=true:=by simpa using hx
    rw[h]at this;cases this
theorem nth_of_get{ids:List Nat}(hn:ids.Nodup){i j:Nat}(h:ids[j]?=some i):nth ids i=some j:=by
 cases hk:nth ids i with
 | none=>
   have:=nth_contains.1 hk;have h2:ids.contains i=true:=by simpa using Mg h
   rw[this]at h2;cases h2
 | some k=>
   have h1:=nth_some hk;have hk':=(Ge h1).1
   have hj':=(Ge h).1;have e1:=(Ge h1).2
   have e2:=(Ge h).2;have hp:=List.pairwise_iff_getElem.1 hn
   rcases Nat.lt_trichotomy k j with hlt|heq|hlt
   ·exact absurd (e1.trans e2.symm) (hp k j hk' hj' hlt)
   ·rw[heq]
   ·exact absurd (e2.trans e1.symm) (hp j k hj' hk' hlt)
def mine(ids:List Nat)(g:G)(k:Nat):Option Ow:=
 match g.ow k with
 |some (.bx i)=>(nth ids i).map .bx
 | some (.row q)=>match q.r with
   | .box i c=>(nth ids i).map fun j=> .row ⟨.box j c,q.s⟩
   |_=>none
 |_=>none
def G.callee(ids:List Nat)(b:Bool)(g:G):G where
 ow k:=match mine ids g k with
  |some o=>some o
  | none=>match (gB (ids.contains ·) b g).ow k with
    |none=>none
    |some _=>some .frn
 hd q:=match q.r with
  | .box j c=>match ids[j]? with
    |some i=>g.hd ⟨.box i c,q.s⟩
    |none=>g.hd q
  |_=>g.hd q
 blk j:=match ids[j]? with
  |some i=>g.blk i
  |none=>g.blk j
theorem mine_none{ids:List Nat}{g:G}{k:Nat}(h:g.ow k=none):mine ids g k=none:=by simp[mine,h]
theorem mine_frn{ids:List Nat}{g:G}{k:Nat}(h:g.ow k=some .frn):mine ids g k=none:=by simp[mine,h]
theorem mine_tmp{ids:List Nat}{g:G}{k:Nat}{q:Pl}(h:g.ow k=some (.tmp q)):mine ids g k=none:=by simp[mine,h]
theorem mine_row{ids:List Nat}{g:G}{k:Nat}{q:Pl}(h:g.ow k=some (.row q))(hq:outR (ids.contains ·) q.r=false):mine ids g k=none:=by
 simp only[mine,h];split
 ·rename_i i c hr;rw[hr]at hq;rw[nth_contains.2 hq];rfl
 ·rfl
theorem mine_bx{ids:List Nat}{g:G}{k i:Nat}(h:g.ow k=some (.bx i))(hi:nth ids i=none):mine ids g k=none:=by simp[mine,h,hi]
theorem callee_frn{ids:List Nat}{b:Bool}{g:G}{k:Nat}{o:Ow}(h:mine ids g k=none)(ho:(gB (ids.contains ·) b g).ow k=some o):(g.callee ids b).ow k=some .frn:=by
 simp only[G.callee,h,ho]
theorem callee_none{ids:List Nat}{b:Bool}{g:G}{k:Nat}(h:mine ids g k=none)(ho:(gB (ids.contains ·) b g).ow k=none):(g.callee ids b).ow k=none:=by
 simp only[G.callee,h,ho]
theorem callee_mine{ids:List Nat}{b:Bool}{g:G}{k:Nat}{o:Ow}(h:mine ids g k=some o):(g.callee ids b).ow k=some o:=by
 simp[G.callee,h]
theorem gB_none_mine{ids:List Nat}{b:Bool}{g:G}{k:Nat}(h:(gB (ids.contains ·) b g).ow k=none):mine ids g k=none:=by
 cases b with
 |false=>exact mine_none h
 | true=>
   simp only[gB,if_true,G.lent]at h;split at h
   ·rename_i q hq;split at h
    ·cases h
    ·rename_i ho;exact mine_row hq (by simpa using ho)
   ·rename_i q hq;exact mine_tmp hq
   ·exact mine_none h
theorem gB_frn{B:Nat->Bool}{b:Bool}{g:G}{k:Nat}(h:(gB B b g).ow k=some .frn):g.ow k=some .frn:=by
 cases b with
 |false=>exact h
 | true=>
   simp only[gB,if_true,G.lent]at h;split at h
   ·split at h<;>cases h
   ·split at h<;>cases h
   ·exact h
theorem callee_later(ids:List Nat)(b:Bool)(g:G)(w:World):Later (gB (ids.contains ·) b g) w (g.callee ids b) w:=
 ⟨Nat.le_refl _,fun k _ h=>callee_none (gB_none_mine h) h,fun _ _ _=>rfl,fun k _ h=>⟨callee_frn (mine_frn (gB_frn h)) h,rfl⟩⟩
theorem callee_later'(ids:List Nat)(b:Bool)(g:G)(w:World):Later g w (g.callee ids b) w:=(gB_later b g w).trans (callee_later ids b g w)
theorem callee_blk{ids:List Nat}{b:Bool}{g:G}{i j:Nat}(h:ids[j]?=some i):(g.callee ids b).blk j=g.blk i:=by simp[G.callee,h]
theorem callee_hd{ids:List Nat}{b:Bool}{g:G}{i j c:Nat}{s:List (Nat×Nat)}(h:ids[j]?=some i):(g.callee ids b).hd ⟨.box j c,s⟩=g.hd ⟨.box i c,s⟩:=by simp[G.callee,h]
theorem callee_row{ids:List Nat}{b:Bool}{g:G}{i j c k:Nat}{s:List (Nat×Nat)}(hn:nth ids i=some j)(h:g.ow k=some (.row ⟨.box i c,s⟩)):(g.callee ids b).ow k=some (.row ⟨.box j c,s⟩):=
 callee_mine (by simp[mine,h,hn])
theorem callee_bx{ids:List Nat}{b:Bool}{g:G}{i j k:Nat}(hn:nth ids i=some j)(h:g.ow k=some (.bx i)):(g.callee ids b).ow k=some (.bx j):=
 callee_mine (by simp[mine,h,hn])
theorem RepK.ren{g g':G}{w':World}{nb nb':Nat}{f:Nat->Option Nat}(hf:∀ b b',b<nb->f b=some b'->b'<nb'/\g'.blk b'=g.blk b)(hi:∀ a v,RepI g w a v->RepI g' w' a v){x:A}{v:Value}(r:RepK g w nb x v):RepK g' w' nb' (renK f x) v:=by
 cases x<;>simp only[RepK]at r<;>simp only[renK]<;>first
  |exact hi _ _ r
  |skip
 ·rename_i b c;cases hb:f b with
  |none=>simp only[RepK];rw[r.2];exact .un _ rfl
  |some b'=>obtain⟨h1,h2⟩:=hf b b' r.1 hb;simp only[RepK];exact⟨h1,by rw[h2];exact r.2⟩
 ·rename_i b;cases hb:f b with
  |none=>simp only[RepK];rw[r.2];exact .un _ rfl
  |some b'=>obtain⟨h1,h2⟩:=hf b b' r.1 hb;simp only[RepK];exact⟨h1,by rw[h2];exact r.2⟩
theorem RepC.ren{g g':G}{w':World}{nb nb':Nat}{f:Nat->Option Nat}(hf:∀ b b',b<nb->f b=some b'->b'<nb'/\g'.blk b'=g.blk b)(hi:∀ a v,RepI g w a v->RepI g' w' a v){p q:Pl}
  {x:A} {v:Value} (ho:RepO g w p x v->RepO g' w' q x v) (r:RepC g w nb p x v):RepC g' w' nb' q (renL f x) v:=by
 cases x<;>simp only[RepC]at r<;>simp only[renL,renK]<;>first
  |exact ho r
  |skip
 ·rename_i b c;cases hb:f b with
  |none=>simp only[RepC];rw[r.2];exact .imm _ _ _ (.un _ rfl) rfl
  |some b'=>obtain⟨h1,h2⟩:=hf b b' r.1 hb;simp only[RepC];exact⟨h1,by rw[h2];exact r.2⟩
 ·rename_i fn xs ys;obtain⟨us,vs,h1,h2,h3,h4,h5⟩:=r;simp only[RepC];refine⟨us,vs,h1,by simp[h2],by simp[h3],fun c x u hx hu=>?_,fun c x u hx hu=>?_⟩
  ·rw[List.getElem?_map]at hx;cases hx0:xs[c]? with
   |none=>rw[hx0]at hx;cases hx
   |some x0=>rw[hx0]at hx;cases hx;exact(h4 c x0 u hx0 hu).ren hf hi
  ·rw[List.getElem?_map]at hx;cases hx0:ys[c]? with
   |none=>rw[hx0]at hx;cases hx
   |some x0=>rw[hx0]at hx;cases hx;exact(h5 c x0 u hx0 hu).ren hf hi
 ·rename_i b;cases hb:f b with
  |none=>simp only[RepC];rw[r.2];exact .imm _ _ _ (.un _ rfl) rfl
  |some b'=>obtain⟨h1,h2⟩:=hf b b' r.1 hb;simp only[RepC];exact⟨h1,by rw[h2];exact r.2⟩
theorem RepO.place{g g':G}{w':World}{p:Pl}{a:A}{v:Value}(r:RepO g w p a v):∀ (q:Pl),(∀a v,RepI g w a v->RepI g' w' a v)->(∀s,g'.hd (q.plus s)=g.hd (p.plus s))->
  (∀s k,g.ow k=some (.row (p.plus s))->g'.ow k=some (.row (q.plus s))/\w'.heap[k]?=w.heap[k]?)->RepO g' w' q a v:=by
 induction r with
 |imm p a v hi ha=>exact fun q h1 _ _=> .imm q a v (h1 a v hi) ha
 | own p z es b cap cur t u h1 h2 h3 h4 h5 h6 h7 h8 _ ih=>
   intro q k1 k2 k3;have e2:=k2 []
   rw[Pl.plus_nil,Pl.plus_nil]at e2;have e3:=k3 [] b (by rw[Pl.plus_nil];exact h2)
   rw[Pl.plus_nil]at e3;refine .own q z es b cap cur t u (e2.trans h1) e3.1 (e3.2.trans h3) h4 h5 h6 h7 h8 (fun i e c x he hx=>ih i e c x he hx (q.at i c) k1 (fun s=>?_) (fun s k hk=>?_))
   ·rw[<-Pl.plus_cons,<-Pl.plus_cons];exact k2 _
   ·rw[<-Pl.plus_cons]at hk ⊢;exact k3 _ k hk
theorem BoxOK.callee{ids:List Nat}{b:Bool}{g:G}{nb i j:Nat}{x:Bx}(hn:nth ids i=some j)(k:BoxOK g w nb i x):BoxOK (g.callee ids b) w ids.length j (renB (nth ids) x):=by
 have hij:=nth_some hn;have hI:∀ a v,RepI g w a v->RepI (g.callee ids b) w a v:=fun a v r=>r.later (callee_later' ids b g w)
 have hf:∀ b0 b',b0<nb->nth ids b0=some b'->b'<ids.length/\(g.callee ids b).blk b'=g.blk b0:=fun b0 b' _ h=>
  ⟨(Ge (nth_some h)).1,callee_blk (nth_some h)⟩
 cases x with
 | cells cs=>
   simp only[renB,BoxOK]at k ⊢
   rw[callee_blk hij];obtain⟨h1,cur,t,h2,h3,h4⟩:=k;refine⟨callee_bx hn h1,cur,t,h2,by simp[h3],fun c x hx=>?_⟩;rw[List.getElem?_map]at hx;cases hx0:cs[c]? with
   |none=>rw[hx0]at hx;cases hx
   | some x0=>
     rw[hx0]at hx;cases hx;obtain⟨u,hu,hc⟩:=h4 c x0 hx0;refine⟨u,hu,hc.ren hf hI fun r=>r.place ⟨.box j c,[]⟩ hI (fun s=>?_) (fun s k hk=>?_)⟩
     ·simp only[Pl.plus,List.nil_append];exact callee_hd hij
     ·simp only[Pl.plus,List.nil_append]at hk ⊢;exact⟨callee_row hn hk,trivial⟩
 | map es=>
   simp only[renB,BoxOK]at k ⊢
   rw[callee_blk hij];obtain⟨h1,ents,clk,h2,h3,h4⟩:=k;exact⟨callee_bx hn h1,ents,clk,h2,h3,fun i k x hx=>let ⟨e,he,hk,hv⟩:=h4 i k x hx;⟨e,he,hk,hv.later (callee_later' ids b g w)⟩⟩
 |gone=>trivial
theorem RepG.callee{ids:List Nat}{b:Bool}{g:G}{nb:Nat}{q:Pl}{x:A}{v:Value}(V:Vw)(hV:V.nb=ids.length)(r:RepG (gB (ids.contains ·) b g) w nb q x v)(hx:cleanA x=true):RepT (g.callee ids b) w V q (renA (nth ids) x) v:=by
 have hI:∀ a v,RepI (gB (ids.contains ·) b g) w a v->RepI (g.callee ids b) w a v:=fun a v r=>r.later (callee_later ids b g w)
 have hf:∀ b0 b',b0<nb->nth ids b0=some b'->b'<V.nb/\(g.callee ids b).blk b'=(gB (ids.contains ·) b g).blk b0:=fun b0 b' _ h=>
  ⟨by rw[hV];exact(Ge (nth_some h)).1,by rw[gB_blk];exact callee_blk (nth_some h)⟩
 have leaf:∀ (p:Pl) (y:A) (u:Value),y.clean=true->RepC (gB (ids.contains ·) b g) w nb p y u->RepL (g.callee ids b) w V p (renL (nth ids) y) u:=fun p y u hy r=>by
  refine RepC.toL (r.ren hf hI fun r=>?_);cases r with
  |imm _ _ _ hi ha=>exact .imm _ _ _ (hI _ _ hi) ha
  |own=>simp[A.clean,A.leaf]at hy
 have one:∀ y,y=x->y.clean=true->RepC (gB (ids.contains ·) b g) w nb q y v->RepT (g.callee ids b) w V q (renL (nth ids) y) v:=fun y _ hy r=>repT_ofL (leaf q y v hy r);cases x with
 | agg cs=>
   obtain⟨us,h1,h2,h3⟩:=r;refine⟨us,h1,by simp[h2],fun c x u hx' hu=>?_⟩;rw[List.getElem?_map]at hx';cases hx0:cs[c]? with
   |none=>rw[hx0]at hx';cases hx'
   | some x0=>
     rw[hx0]at hx';cases hx';exact leaf _ _ _ (List.all_eq_true.1 hx x0 (Mg hx0)) (h3 c x0 u hx0 hu)
 |_=>exact one _ rfl hx r
end Go.Ab
end
