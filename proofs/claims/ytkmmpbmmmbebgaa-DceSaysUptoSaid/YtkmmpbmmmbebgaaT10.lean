/- What is needed of a function: just what something looks at that is there, and what is there anyway. Where only what is needed is left, a function is sound as before. The reference's runs: a unit and what is left of it run alike. The reference's runs: an instruction, a block, a call run alike. The re -/
import Derived.Test.YtkmmpbmmmbebgaaT9
import Derived.Test.YtkmmpbmmmbebgaaT4
set_option linter.all false
namespace Go.Ab.Ytkmmpbmmmbebgaa
/-- What is to be looked at is marked. -/
def WM(s:List Bool×List Int):Prop:=∀ v,v∈s.2->s.1[v.toNat]?=some true
theorem needF_wm{n m:Nat}{l:List Int}{s:List Bool×List Int}(hg:GoodS n m s)(hl:∀ v,v∈l->v<n)(h:WM s):WM (needF l s):=by
 induction l generalizing s with
 |nil=>exact h
 | cons v l ih=>
   rw[needF];have hv:=hl v List.mem_cons_self
   by_cases hc:0<=v/\s.1.getD v.toNat true=false
   ·rw[if_pos hc]
    have hg':GoodS n m (s.1.set v.toNat true,s.2++[v]):=by
     have:=needF_good [v] s hg (by intro u hu;simp at hu;subst hu;exact hv);rw[needF,if_pos hc,needF]at this;exact this
    have hj:v.toNat<s.1.length:=by rw[hg.len];omega
    refine ih hg' (fun u hu=>hl u (List.mem_cons_of_mem _ hu)) fun u hu=>?_;simp only at hu ⊢
    by_cases huv:v.toNat=u.toNat
    ·rw[<-huv,List.getElem?_set_self hj]
    ·rw[List.getElem?_set_ne huv];rcases List.mem_append.1 hu with hu|hu
     ·exact h u hu
     ·simp at hu;subst hu;exact absurd rfl huv
   ·rw[if_neg hc];exact ih hg (fun u hu=>hl u (List.mem_cons_of_mem _ hu)) h
theorem ins_wm{n m:Nat}{t:NS}{x:TIns}(hg:GoodN n m t)(hx:insOK n x)(h:WM t.2):WM (insStep t x).2:=by
 unfold insStep;split
 ·exact h
 split
 ·exact h
 ·exact needF_wm hg.s hx.2 h
theorem fold_wm{n:Nat}:∀ (l:List TIns) (m:Nat) (t:NS),GoodN n m t->(∀x,x∈l->insOK n x)->WM t.2->WM (l.foldl insStep t).2
 |[],_,_,_,_,h=>h
 |x::l,m,t,hg,hx,h=>fold_wm l _ _ (insStep_good hg (hx x List.mem_cons_self)) (fun y hy=>hx y (List.mem_cons_of_mem _ hy)) (ins_wm hg (hx x List.mem_cons_self) h)
theorem block_wm{n m:Nat}{t:NS}{b:TBlock}(hg:GoodN n m t)(hb:blockOK n b)(h:WM t.2):WM (blockStep t b).2:=by
 have h1:=fold_wm b.ins m t hg hb.1 h;unfold blockStep;split
 ·exact h1
 ·rename_i hk;exact needF_wm (foldIns_good b.ins m t hg hb.1).s (fun v hv=>by simp at hv;subst hv;exact hb.2 hk) h1
theorem blocks_wm{n:Nat}:∀ (l:List TBlock) (m:Nat) (t:NS),GoodN n m t->(∀b,b∈l->blockOK n b)->WM t.2->WM (l.foldl blockStep t).2
 |[],_,_,_,_,h=>h
 |x::l,m,t,hg,hx,h=>blocks_wm l _ _ (blockStep_good hg (hx x List.mem_cons_self)) (fun y hy=>hx y (List.mem_cons_of_mem _ hy)) (block_wm hg (hx x List.mem_cons_self) h)
/-- What the last part comes to. -/
theorem pops_spec{n m0:Nat}{ms:List (List Int)}(hM:GoodM n m0 ms){Cl:Nat->Prop}(hcl:∀ (j:Nat) u (k:Nat),Cl j->u∈ms.getD j []->u=(k:Int)->Cl k){s:List Bool×List Int}{o':List Bool}(h:Pops ms s o'):
  ∀k,GoodS n k s->WM s->(∀j:Nat,s.1[j]?=some true->(j:Int)∈s.2\/ ∀u,u∈ms.getD j []-> ∀k:Nat,u=(k:Int)->s.1[k]?=some true)->(∀j:Nat,s.1[j]?=some true->Cl j)->
   (∀j:Nat,s.1[j]?=some true->o'[j]?=some true)/\(∀j:Nat,o'[j]?=some true-> ∀u,u∈ms.getD j []-> ∀k:Nat,u=(k:Int)->o'[k]?=some true)/\ ∀j:Nat,o'[j]?=some true->Cl j:=by
 induction h with
 | done=>
   intro k _ _ hi hc;exact⟨fun j h=>h,fun j hj=>(hi j hj).elim (fun h=>by cases h) id,hc⟩
 | step hp ih=>
   rename_i o w v o';intro k hg hw hi hc;have hv:=hg.work v (by simp)
   have hmu:=hg.mu;simp only[List.length_append,List.length_cons,List.length_nil]at hmu;have hg':GoodS n (k-1) (o,w):=⟨hg.len,fun u hu=>hg.work u (by simp[hu]),by simp only;omega⟩
   have hl:∀ u,u∈ms.getD v.toNat []->u<n:=by
    intro u hu;rcases getD_mem (ms:=ms) (j:=v.toNat)with h0|h0
    ·rw[h0]at hu;cases hu
    ·exact(hM.2 _ h0).2 u hu
   obtain⟨k1,k2,k3⟩:=needF_spec _ _ hg' hl;have hvm:o[v.toNat]?=some true:=hw v (by simp)
   have hr:=ih (k-1) (needF_good _ _ hg' hl) (needF_wm hg' hl fun u hu=>hw u (by simp[hu])) (fun j hj=>?_) (fun j hj=>?_)
   ·exact⟨fun j hj=>hr.1 j ((k1 j).2 (.inl hj)),hr.2.1,hr.2.2⟩
   ·rcases k3 j hj with h1|h1
    ·rcases hi j h1 with h2|h2
     ·simp only[List.mem_append,List.mem_singleton]at h2;rcases h2 with h2|h2
      ·exact .inl (k2 _ h2)
      ·have e:v.toNat=j:=by omega
       rw[e]at k1;refine .inr fun u hu q hq=>?_;subst hq;have:=hl _ (by rw[e];exact hu)
       rw[e];exact(k1 q).2 (.inr ⟨by omega,hu⟩)
     ·exact .inr fun u hu q hq=>(k1 q).2 (.inl (h2 u hu q hq))
    ·exact .inl h1
   ·rcases(k1 j).1 hj with h1|⟨_,h1⟩
    ·exact hc j h1
    ·exact hcl v.toNat j j (hc _ hvm) h1 rfl
theorem told_zero(n:Nat):Told n (List.replicate n [],(List.replicate n false,[])) (fun _ _=>False) fun _=>False:=
 ⟨fun j u hj=>by rw[List.getD_eq_getElem?_getD,List.getElem?_replicate,if_pos hj];simp,fun j=>by rw[List.getElem?_replicate];simp,fun j hj=>by rw[List.getElem?_replicate]at hj;simp at hj⟩
theorem keep_step{n:Nat}{o:List Bool}{x:TIns}(ho:o.length=n)(j:Nat):(keepStep n o x)[j]?=some true↔o[j]?=some true\/(j<n/\ ¬hasF x/\x.op≠46/\stayF x/\x.dst=j):=by
 unfold keepStep
 by_cases hc:¬ hasF x/\x.op≠46/\0<=x.dst/\x.dst<(n:Int)/\stayF x
 ·rw[if_pos hc];obtain⟨h1,h2,h3,h4,h5⟩:=hc
  by_cases hj:x.dst.toNat=j
  ·subst hj;rw[List.getElem?_set_self (by omega)];exact⟨fun _=> .inr ⟨by omega,h1,h2,h5,by omega⟩,fun _=>rfl⟩
  ·rw[List.getElem?_set_ne hj];exact⟨.inl,fun h=>h.elim id fun h6=>absurd (by omega) hj⟩
 ·rw[if_neg hc];exact⟨.inl,fun h=>h.elim id fun h6=>absurd ⟨h6.2.1,h6.2.2.1,by omega,by omega,h6.2.2.2.1⟩ hc⟩
theorem keep_fold{n:Nat}:∀ (l:List TIns) (o:List Bool),o.length=n-> ∀j:Nat,(l.foldl (keepStep n) o)[j]?=some true↔o[j]?=some true\/(j<n/\ ∃x,x∈l/\ ¬hasF x/\x.op≠46/\stayF x/\x.dst=j)
 |[],o,_,j=>by simp
 | x::l,o,ho,j=>by
   rw[List.foldl_cons,keep_fold l _ (by rw[keepStep_len];exact ho) j,keep_step ho j];constructor
   ·rintro((h|⟨h1,h2⟩)|⟨h1,y,h2,h3⟩)
    ·exact .inl h
    ·exact .inr ⟨h1,x,List.mem_cons_self,h2⟩
    ·exact .inr ⟨h1,y,List.mem_cons_of_mem _ h2,h3⟩
   ·rintro(h|⟨h1,y,h2,h3⟩)
    ·exact .inl (.inl h)
    ·rcases List.mem_cons.1 h2 with rfl|h2
     ·exact .inl (.inr ⟨h1,h3⟩)
     ·exact .inr ⟨h1,y,h2,h3⟩
theorem keep_blocks{n:Nat}:∀ (l:List TBlock) (o:List Bool),o.length=n-> ∀j:Nat,(l.foldl (keepBlock n) o)[j]?=some true↔o[j]?=some true\/(j<n/\ ∃b,b∈l/\ ∃x,x∈b.ins/\ ¬hasF x/\x.op≠46/\stayF x/\x.dst=j)
 |[],o,_,j=>by simp
 | b::l,o,ho,j=>by
   rw[List.foldl_cons,keep_blocks l _ (by unfold keepBlock;rw[keepBlock_len];exact ho) j];unfold keepBlock;rw[keep_fold b.ins o ho j];constructor
   ·rintro((h|⟨h1,h2⟩)|⟨h1,y,h2,h3⟩)
    ·exact .inl h
    ·exact .inr ⟨h1,b,List.mem_cons_self,h2⟩
    ·exact .inr ⟨h1,y,List.mem_cons_of_mem _ h2,h3⟩
   ·rintro(h|⟨h1,y,h2,h3⟩)
    ·exact .inl (.inl h)
    ·rcases List.mem_cons.1 h2 with rfl|h2
     ·exact .inl (.inr ⟨h1,h3⟩)
     ·exact .inr ⟨h1,y,h2,h3⟩
/-- WHAT IS NEEDED. -/
theorem needed_iff{f:TFunc}{o:List Bool}(hd:DceOK f)(h:Needed f o)(j:Nat)(hj:(j:Int)<f.size):o[j]?=some true↔NeedP f j\/StayP f j:=by
 obtain⟨o1,h1,rfl⟩:=h;obtain⟨n,hn⟩:∃ n:Nat,f.size=n:=⟨f.size.toNat,by have:=hd.size.1;omega⟩;have hbo:∀ b,b∈f.blocks->blockOK n b:=fun b hb=>⟨fun x hx=>by have:=hd.ins b hb x hx;unfold insOK;rw[<-hn];exact this,fun hk=>by rw[<-hn];exact hd.term b hb hk⟩
 have hph:phase f f.blocks=f.blocks.foldl blockStep (List.replicate n [],(List.replicate n false,[])):=by
  unfold phase;rw[hn];rfl
 have hT:=told_blocks f.blocks 0 _ _ _ (told_zero n) (goodN_zero n) hbo;have hG:=foldB_good f.blocks 0 _ (goodN_zero n) hbo
 have hW:=blocks_wm f.blocks 0 _ (goodN_zero n) hbo (fun v hv=>by cases hv);rw[hph]at h1;generalize f.blocks.foldl blockStep (List.replicate n [],(List.replicate n false,[]))=t at*
 have hms:∀ (j:Nat) u,j<n->(u∈t.1.getD j []↔ ∃b,b∈f.blocks/\MOfB b j u):=fun j u hj=>(hT.ms j u hj).trans ⟨fun h=>h.elim (fun h=>h.elim) id,.inr⟩
 have hlt:∀ (j:Nat) u,u∈t.1.getD j []->j<n:=fun j u hu=>by
  rw[<-hG.ms.1]
  by_cases hjl:j<t.1.length
  ·exact hjl
  ·rw[List.getD_eq_getElem?_getD,List.getElem?_eq_none (by omega)]at hu;cases hu
 have hP:=pops_spec hG.ms (Cl:=fun j => NeedP f j) (fun j u k hc hu hk => by
  obtain⟨b,hb,x,hx,hh,hdx,hux⟩:=(hms j u (hlt j u hu)).1 hu
  subst hk
  exact .step ⟨b,hb,hx⟩ hh (by rw [hdx]; exact hc) hux (by omega)) h1 n hG.s hW (fun j hj => .inl (hT.w j hj)) (fun j hj => by
  obtain⟨_,h2|⟨b,hb,h2⟩⟩:=(hT.o j).1 hj
  ·exact h2.elim
  ·rcases h2 with⟨x,hx,hh,h46,hl⟩|⟨hk,ha⟩
   ·exact .root ⟨b,hb,hx⟩ hh h46 hl (by omega)
   ·rw[ha];exact .term hb hk (by omega))
 have hlen:o1.length=n:=by
  have key:∀ (ms:List (List Int)) (s:List Bool×List Int) (o1:List Bool),Pops ms s o1->o1.length=s.1.length:=by
   intro ms s o1 h
   induction h with
   |done=>rfl
   |step _ ih=>rw[ih,needF_len]
  rw[key _ _ _ h1];exact hG.s.len
 have hback:∀ v,NeedP f v-> ∀q:Nat,v=(q:Int)->o1[q]?=some true:=by
  intro v hv
  induction hv with
  | root hx hh h46 hl h0=>
    rename_i x v;intro q hq;subst hq;obtain⟨b,hb,hxb⟩:=hx;have hlq:=(hd.ins b hb x hxb).2 _ hl
    exact hP.1 q ((hT.o q).2 ⟨by omega,.inr ⟨b,hb,.inl ⟨x,hxb,hh,h46,hl⟩⟩⟩)
  | term hb hk h0=>
    rename_i b;intro q hq;have:=hd.term b hb hk
    exact hP.1 q ((hT.o q).2 ⟨by omega,.inr ⟨b,hb,.inr ⟨hk,hq.symm⟩⟩⟩)
  | step hx hh hn' hl h0 ih=>
    rename_i x v;intro q hq;subst hq;obtain⟨b,hb,hxb⟩:=hx;have hdx:=(hd.ins b hb x hxb).1 hh
    obtain⟨d,hd'⟩:∃ d:Nat,x.dst=d:=⟨x.dst.toNat,by omega⟩;exact hP.2.1 d (ih d hd') _ ((hms d _ (by omega)).2 ⟨b,hb,x,hxb,hh,hd',hl⟩) q rfl
 rw[hn,keep_blocks f.blocks o1 hlen j];constructor
 ·rintro(h2|⟨_,b,hb,x,hx,h3,h4,h5,h6⟩)
  ·exact .inl (hP.2.2 j h2)
  ·exact .inr ⟨x,⟨b,hb,hx⟩,h3,h4,h5,h6⟩
 ·rintro(h2|⟨x,⟨b,hb,hx⟩,h3,h4,h5,h6⟩)
  ·exact .inl (hback _ h2 j rfl)
  ·exact .inr ⟨by omega,b,hb,x,hx,h3,h4,h5,h6⟩
/-! ### places -/
def rk{α β:Type}(g:α->Option β)(l:List α)(q:Nat):Nat:=((l.take q).filterMap g).length
theorem rk_le{α β:Type}(g:α->Option β)(l:List α){q q':Nat}(h:q<=q'):rk g l q<=rk g l q':=by
 unfold rk
 have:l.take q'=l.take q++(l.drop q).take (q'-q):=by
  rw[<-List.take_add];congr 1;omega
 rw[this,List.filterMap_append,List.length_append];omega
theorem rk_succ{α β:Type}{g:α->Option β}{l:List α}{q:Nat}{x:α}{y:β}(h:l[q]?=some x)(hg:g x=some y):rk g l (q+1)=rk g l q+1:=by
 unfold rk;rw[fm_some h hg,List.length_append];rfl
theorem rk_lt{α β:Type}{g:α->Option β}{l:List α}{q q':Nat}{x:α}{y:β}(h:l[q]?=some x)(hg:g x=some y)(hq:q<q'):rk g l q<rk g l q':=by
 have h1:=rk_succ h hg;have h2:=rk_le g l (q:=q+1) (q':=q') hq
 omega
theorem rk_len{α β:Type}(g:α->Option β)(l:List α):rk g l l.length=(l.filterMap g).length:=by
 unfold rk;rw[List.take_length]
theorem rk_fm{α β:Type}{g:α->Option β}{l:List α}{q:Nat}{x:α}{y:β}(h:l[q]?=some x)(hg:g x=some y):(l.filterMap g)[rk g l q]?=some y:=by
 have hq:=(Ge h).1
 have e:l=l.take q++(x::l.drop (q+1)):=by
  have h1:=Ge h;obtain⟨h2,h3⟩:=h1;rw[<-h3,<-List.drop_eq_getElem_cons h2,List.take_append_drop]
 have e2:l.filterMap g=(l.take q).filterMap g++(y::(l.drop (q+1)).filterMap g):=by
  conv=>lhs;rw[e]
  rw[List.filterMap_append,List.filterMap_cons_some hg]
 rw[e2];unfold rk;rw[List.getElem?_append_right (Nat.le_refl _)];simp
theorem fm_rk{α β:Type}{g:α->Option β}:∀ {l:List α} {k:Nat} {y:β},(l.filterMap g)[k]?=some y-> ∃(q:Nat) (x:α),l[q]?=some x/\g x=some y/\k=rk g l q
 |[],k,y,h=>by simp at h
 | a::l,k,y,h=>by
   cases hg:g a with
   | none=>
     rw[List.filterMap_cons_none hg]at h;obtain⟨q,x,h1,h2,h3⟩:=fm_rk h;refine⟨q+1,x,by simpa using h1,h2,?_⟩;rw[h3];unfold rk;rw[List.take_succ_cons,List.filterMap_cons_none hg]
   | some b=>
     rw[List.filterMap_cons_some hg]at h;cases k with
     | zero=>
       simp at h;subst h;exact⟨0,a,rfl,hg,by simp[rk]⟩
     | succ k=>
       obtain⟨q,x,h1,h2,h3⟩:=fm_rk (l:=l) (k:=k) (by simpa using h);refine⟨q+1,x,by simpa using h1,h2,?_⟩;rw[h3];unfold rk;rw[List.take_succ_cons,List.filterMap_cons_some hg,List.length_cons]
def bIns(f:TFunc)(p:Nat):List TIns:=match f.blocks[p]? with|some b=>b.ins|none=>[]
theorem insAt_b(f:TFunc)(p q:Nat):insAt f p q=(bIns f p)[q]?:=by
 unfold insAt bIns;cases f.blocks[p]?<;>simp
theorem insLen_b(f:TFunc)(p:Nat):insLen f p=(bIns f p).length:=by
 unfold insLen bIns;cases f.blocks[p]?<;>simp
theorem bIns_dce(o:List Bool)(f:TFunc)(p:Nat):bIns (dceF o f) p=(bIns f p).filterMap (dceI o):=by
 unfold bIns dceF;simp only[List.getElem?_map];cases f.blocks[p]?<;>rfl
theorem inF_at{f:TFunc}{x:TIns}{p q:Nat}(h:insAt f p q=some x):InF f x:=by
 obtain⟨b,h1,h2⟩:=insAt_some h;exact⟨b,Mg h1,Mg h2⟩
theorem at_inF{f:TFunc}{x:TIns}(h:InF f x):∃ p q,insAt f p q=some x:=by
 obtain⟨b,h1,h2⟩:=h;obtain⟨p,hp⟩:=List.getElem?_of_mem h1;obtain⟨q,hq⟩:=List.getElem?_of_mem h2;exact⟨p,q,by rw[insAt_of hp];exact hq⟩
theorem makes_dce{o:List Bool}{x y:TIns}(h:dceI o x=some y):makesF y=makesF x:=by
 rcases dceI_some h with rfl|⟨h46,_,rfl⟩
 ·rfl
 ·unfold makesF;simp only[h46]
theorem at_dce{o:List Bool}{f:TFunc}{p k:Nat}{y:TIns}(h:insAt (dceF o f) p k=some y):∃ q x,insAt f p q=some x/\dceI o x=some y/\k=rk (dceI o) (bIns f p) q:=by
 rw[insAt_b,bIns_dce]at h;obtain⟨q,x,h1,h2,h3⟩:=fm_rk h;exact⟨q,x,by rw[insAt_b];exact h1,h2,h3⟩
theorem dce_at{o:List Bool}{f:TFunc}{p q:Nat}{x y:TIns}(h:insAt f p q=some x)(hy:dceI o x=some y):insAt (dceF o f) p (rk (dceI o) (bIns f p) q)=some y:=by
 rw[insAt_b,bIns_dce];rw[insAt_b]at h;exact rk_fm h hy
theorem first_dce{o:List Bool}{f:TFunc}{v:Int}{p q:Nat}{x y:TIns}(h:FirstMade f v p q)(hx:insAt f p q=some x)(hy:dceI o x=some y):FirstMade (dceF o f) v p (rk (dceI o) (bIns f p) q):=by
 obtain⟨⟨x',h1,h2⟩,h3⟩:=h;rw[hx]at h1;cases h1;refine⟨⟨y,dce_at hx hy,by rw[makes_dce hy];exact h2⟩,fun p' k' hm=>?_⟩;obtain⟨y',h4,h5⟩:=hm;obtain⟨q',x',h6,h7,h8⟩:=at_dce h4;rcases h3 p' q' ⟨x',h6,by rw[<-makes_dce h7];exact h5⟩with h9|⟨h9,h10⟩
 ·exact .inl h9
 ·subst h9;exact .inr ⟨rfl,by rw[h8];exact rk_le _ _ h10⟩
theorem next_dce(o:List Bool)(f:TFunc)(a:Nat):nextAt (dceF o f) a=nextAt f a:=by
 unfold nextAt dceF;simp only[List.getElem?_map];cases f.blocks[a]?<;>rfl
theorem way_congr{f g:TFunc}(h:∀ a,nextAt f a=nextAt g a){x d:Int}(hw:Way f x d):Way g x d:=by
 induction hw with
 |start h1=>exact .start h1
 |step h1 h2 h3 ih=>exact .step ih (by rw[<-h];exact h2) h3
theorem way_dce(o:List Bool)(f:TFunc)(x d:Int):Way (dceF o f) x d↔Way f x d:=⟨way_congr (next_dce o f),way_congr fun a=>(next_dce o f a).symm⟩
theorem dom_dce{o:List Bool}{f:TFunc}{a b:Nat}(h:Dom f a b):Dom (dceF o f) a b:=by
 unfold Dom at h ⊢
 simp only[way_dce];exact h
/-! ### what is kept -/
theorem uses_looks{x:TIns}{v:Int}(h:v∈usesF x)(h35:x.op≠35)(h46:x.op≠46):v∈looksF x:=by
 unfold usesF at h;unfold looksF;split at h
 ·rw[if_neg (by omega),if_pos (by omega)];exact h
 split at h
 ·rw[if_pos (by omega)];exact h
 split at h
 ·rw[if_neg (by omega),if_neg (by omega),if_pos (by omega)];exact h
 split at h
 ·rw[if_pos (by omega)];exact h
 ·cases h
theorem getD_false{o:List Bool}{j:Nat}:o.getD j false=false↔o[j]?≠some true:=by
 rw[List.getD_eq_getElem?_getD];cases o[j]? with
 |none=>simp
 |some b=>cases b<;>simp
theorem has_makes{x:TIns}(h:hasF x)(h35:x.op≠35):makesF x=x.dst:=by
 unfold makesF;unfold hasF at h;rw[if_neg (by omega)]
theorem stay_makes{x:TIns}(h:stayF x):makesF x=x.dst:=by
 unfold makesF;unfold stayF at h;rw[if_neg (by omega)]
theorem hil_of{f:TFunc}{b:Nat}{y:TBlock}(h:f.blocks[b]?=some y):insLen f b=y.ins.length:=by unfold insLen;rw[h]
/-- All that is known of a sound function, and of what is needed of it. -/
structure SNd(u:TUnit)(n:Int)(f:TFunc)(o:List Bool):Prop where
 may:FunP u n f
 sound:SoundF f
 ok:DceOK f
 need:Needed f o
section
variable {u:TUnit} {n:Int} {f:TFunc} {o:List Bool} (h:SNd u n f o)
include h
theorem SNd.ins{p q:Nat}{x:TIns}(hx:insAt f p q=some x):InP u n f p (bIns f p) q x/\SoundI f p q x:=by
 obtain⟨b,h1,h2⟩:=insAt_some hx;have hb:bIns f p=b.ins:=by unfold bIns;rw[h1]
 rw[hb];exact⟨h.may.ins p b h1 q x h2,(h.sound p b h1).ins q x h2⟩
theorem SNd.marked{v:Int}(h0:0<=v)(hs:v<f.size)(hn:NeedP f v\/StayP f v):o[v.toNat]?=some true:=by
 have e:((v.toNat:Nat):Int)=v:=by omega
 exact(needed_iff h.ok h.need v.toNat (by omega)).2 (by rw[e];exact hn)
theorem SNd.of_marked{v:Int}(h0:0<=v)(hs:v<f.size)(hm:o[v.toNat]?=some true):NeedP f v\/StayP f v:=by
 have e:((v.toNat:Nat):Int)=v:=by omega
 have:=(needed_iff h.ok h.need v.toNat (by omega)).1 hm;rw[e]at this;exact this
/-- What makes what is needed is kept. -/
theorem SNd.kept{v:Int}{p q:Nat}{x:TIns}(hx:insAt f p q=some x)(hv:makesF x=v)(hm:o[v.toNat]?=some true):∃ y,dceI o x=some y:=by
 unfold dceI;rw[if_neg]
 ·exact⟨_,rfl⟩
 ·rintro⟨hh,hg⟩;have h35:=(h.ins hx).2.get.2
  rw[has_makes hh h35]at hv;rw[hv,getD_false]at hg;exact hg hm
/-- What a kept instruction looks at is needed. -/
theorem SNd.uses{p q:Nat}{x y:TIns}(hx:insAt f p q=some x)(hy:dceI o x=some y){v:Int}(hv:v∈usesF y):y=x/\0<=v/\v<f.size/\o[v.toNat]?=some true:=by
 obtain⟨hi,hso⟩:=h.ins hx;rcases dceI_some hy with rfl|⟨h46,_,rfl⟩
 ·have hr:=hi.uses v hv;refine⟨rfl,hr.1,hr.2,?_⟩
  by_cases h46:y.op=46
  ·unfold usesF at hv;rw[if_neg (by omega),if_neg (by omega),if_neg (by omega),if_pos h46]at hv;split at hv
   ·rename_i ha;simp at hv;subst hv;unfold dceI at hy;rw[if_neg (fun hc=>by have:=hc.1;unfold hasF at this;omega)]at hy
    by_cases hg:o.getD y.a.toNat false=false
    ·rw[if_pos ⟨h46,ha,hg⟩]at hy;have:=congrArg TIns.a (Option.some.inj hy)
     simp only at this;omega
    ·rw[getD_false]at hg;exact Classical.not_not.1 hg
   ·cases hv
  ·have hl:=uses_looks hv hso.get.2 h46;refine h.marked hr.1 hr.2 (.inl ?_)
   by_cases hh:hasF y
   ·have hd:0<=y.dst/\y.dst<f.size:=by
     obtain⟨b',hb',hxb'⟩:=inF_at hx;exact(h.ok.ins b' hb' y hxb').1 hh
    have hmk:=has_makes hh hso.get.2
    have hmd:o[y.dst.toNat]?=some true:=by
     unfold dceI at hy
     by_cases hg:o.getD y.dst.toNat false=false
     ·rw[if_pos ⟨hh,hg⟩]at hy;cases hy
     ·rw[getD_false]at hg;exact Classical.not_not.1 hg
    rcases h.of_marked hd.1 hd.2 hmd with hn|⟨z,hz,hzh,_,hzs,hzd⟩
    ·exact .step (inF_at hx) hh hn hl hr.1
    ·obtain⟨p2,q2,hz2⟩:=at_inF hz;have hzm:makesF z=y.dst:=(stay_makes hzs).trans hzd
     have f1:=(h.ins hz2).2.made (by rw[hzm];exact hd.1);have f2:=hso.made (by rw[hmk];exact hd.1)
     rw[hzm]at f1;rw[hmk]at f2;obtain⟨rfl,rfl⟩:=firstMade_eq f1 f2;rw[hx]at hz2;cases hz2;exact absurd hh hzh
   ·exact .root (inF_at hx) hh h46 hl hr.1
 ·unfold usesF at hv;simp only[h46]at hv;simp at hv
theorem SNd.there{v:Int}{b i:Nat}(hm:o[v.toNat]?=some true)(ht:ThereP f v b i):ThereP (dceF o f) v b (rk (dceI o) (bIns f b) i):=by
 obtain⟨p,q,hf,hpq⟩:=ht;have hf0:=hf
 obtain⟨⟨x,hx,hxm⟩,_⟩:=hf0;obtain⟨y,hy⟩:=h.kept hx hxm hm;refine⟨p,rk (dceI o) (bIns f p) q,first_dce hf hx hy,?_⟩;rcases hpq with⟨rfl,hq⟩|⟨hne,hd⟩
 ·rw[insAt_b]at hx;exact .inl ⟨rfl,rk_lt hx hy hq⟩
 ·exact .inr ⟨hne,dom_dce hd⟩
/-- SOUND AS BEFORE. -/
theorem SNd.dce:SoundF (dceF o f):=by
 intro b blk hb
 have hb2:∃ b0,f.blocks[b]?=some b0/\blk=dceB o b0:=by
  unfold dceF at hb;simp only[List.getElem?_map,Option.map_eq_some_iff]at hb;obtain⟨b0,h1,h2⟩:=hb;exact⟨b0,h1,h2.symm⟩
 obtain⟨b0,hb0,rfl⟩:=hb2;have hbi:bIns f b=b0.ins:=by unfold bIns;rw[hb0]
 have hS:=h.sound b b0 hb0
 have hlen:(dceB o b0).ins.length=rk (dceI o) (bIns f b) (insLen f b):=by
  rw[insLen_b,rk_len,hbi];rfl
 refine⟨(way_dce o f _ _).2 hS.way,fun k y hy=>?_,fun hk ha=>?_⟩
 ·have hy':insAt (dceF o f) b k=some y:=by rw[insAt_of hb];exact hy
  obtain⟨i,x,hx,hxy,rfl⟩:=at_dce hy';obtain⟨hi,hso⟩:=h.ins hx;have hop:y.op=x.op/\y.num=x.num:=by rcases dceI_some hxy with rfl|⟨_,_,rfl⟩<;>exact⟨rfl,rfl⟩
  refine⟨by rw[hop.1];exact hso.get,fun k' v hv=>?_,fun h0=>?_,fun h45=>?_⟩
  ·obtain⟨rfl,h0,h1,hm⟩:=h.uses hx hxy (Mg hv);have hu:=hso.use k' v hv
   unfold UseP at hu ⊢
   split
   ·rename_i h47;rw[if_pos h47]at hu;obtain⟨l,w,k1,k2,k3⟩:=hu;refine⟨l,w,by rw[ways_dce];exact k1,k2,?_⟩;have:=h.there hm k3
    rw[insLen_b,bIns_dce,<-rk_len,<-insLen_b];exact this
   ·rename_i h47;rw[if_neg h47]at hu;exact h.there hm hu
  ·rw[makes_dce hxy]at h0 ⊢
   exact first_dce (hso.made h0) hx hxy
  ·rintro⟨p,k2,z,hz,hlt,hz45,hzn⟩;obtain⟨q,z0,hz0,hzz,rfl⟩:=at_dce hz;have hzop:z.op=z0.op/\z.num=z0.num:=by rcases dceI_some hzz with rfl|⟨_,_,rfl⟩<;>exact⟨rfl,rfl⟩
   refine hso.mark (by rw[<-hop.1];exact h45) ⟨p,q,z0,hz0,?_,by rw[<-hzop.1];exact hz45,by rw[<-hzop.2,<-hop.2];exact hzn⟩;rcases hlt with h1|⟨rfl,h1⟩
   ·exact .inl h1
   ·refine .inr ⟨rfl,?_⟩
    by_cases hqi:q<i
    ·exact hqi
    ·have:=rk_le (dceI o) (bIns f p) (q:=i) (q':=q) (by omega);omega
 ·have hk':b0.term.kind≠1:=hk;have ha':0<=b0.term.a:=ha
  have hmem:=Mg hb0;have hm:=h.marked ha' (h.ok.term b0 hmem hk') (.inl (.term hmem hk' ha'))
  have:=h.there hm (hS.term hk' ha');rw[hlen];rw[<-hil_of hb0]at this;exact this
end
set_option maxRecDepth 100000
set_option maxHeartbeats 8000000
/-- An event of the one and of the other. -/
structure EvS(G:TKn->TKn->Prop)(a b:TEv):Prop where
 kind:a.kind=b.kind
 num:a.num=b.num
 point:a.point=b.point
 func:a.func=b.func
 vals:All2 G a.vals b.vals
 few:a.vals.length<=100000000
/-- What a call holds, of the one (x) and of the other (y). -/
structure FrS(G:TKn->TKn->Prop)(o:List Bool)(x y:Fr):Prop where
 len:y.v.length=x.v.length
 v:∀ j:Nat,o[j]?=some true->y.v[j]?=x.v[j]?
 w:y.w=x.w
 kn:All2 G y.kn x.kn
/-- What a run holds, of the one (s) and of the other (t). -/
structure RSS(G:TKn->TKn->Prop)(K K':Int)(s t:RS):Prop where
 inp:t.inp=s.inp
 fuel:t.fuel=s.fuel
 over:t.over=s.over
 long:s.long=false
 gap:s.left<=t.left
 lt:s.left<K
 lt':t.left<K'
 ev:All2 (EvS G) t.ev s.ev
def Out(G:TKn->TKn->Prop)(K K':Int)(s t:RS)(P:Prop):Prop:=(s.long=true/\s.over=true)\/(RSS G K K' s t/\P)
def kn0(k:TKn):TKn:=if k.gone then{k with num:=0}else k
structure Kin(G:TKn->TKn->Prop)(u:TUnit)(n:Int)(f:TFunc)(o:List Bool):Prop where
 sn:SNd u n f o
 bind:∀ x,InF f x->x.op=46->0<=x.a->o.getD x.a.toNat false=false-> ∀m,G ⟨x.var,0,true⟩ ⟨x.var,m,false⟩
structure SimU(G:TKn->TKn->Prop)(u v:TUnit):Prop where
 refl:∀ k,G k k
 norm:∀ a b,G a b->G (kn0 a) (kn0 b)
 pts:v.points=u.points
 scope:∀ p,p∈u.points->p.scope.length<=100000000
 main:v.main=u.main
 no:∀ i:Nat,u.funcs[i]?=none->v.funcs[i]?=none
 at':∀ (i:Nat) f,u.funcs[i]?=some f-> ∃o,v.funcs[i]?=some (dceF o f)/\Kin G u i f o
theorem _root_.Go.Ab.All2.set{α β:Type}{R:α->β->Prop}{l:List α}{l':List β}(h:All2 R l l')(i:Nat){a:α}{b:β}(hr:R a b):All2 R (l.set i a) (l'.set i b):=by
 induction h generalizing i with
 |nil=>exact .nil
 | cons h1 h2 ih=>
   cases i with
   |zero=>exact .cons hr h2
   |succ i=>exact .cons h1 (ih i)
theorem _root_.Go.Ab.All2.rfl'{α:Type}{R:α->α->Prop}(h:∀ x,R x x):∀ l:List α,All2 R l l
 |[]=> .nil
 |x::l=> .cons (h x) (All2.rfl' h l)
section
variable {G:TKn->TKn->Prop} {K K':Int} {s t:RS} {o:List Bool} {x y:Fr}
theorem FrS.got(F:FrS G o x y){v:Int}(h:o[v.toNat]?=some true):gi y.v v=gi x.v v:=by
 unfold gi;rw[List.getD_eq_getElem?_getD,List.getD_eq_getElem?_getD,F.v _ h]
theorem FrS.to(F:FrS G o x y)(d n:Int):FrS G o (x.to d n) (y.to d n):=by
 refine⟨?_,fun j hj=>?_,F.w,F.kn⟩
 ·show(y.v.set _ _).length=(x.v.set _ _).length
  rw[List.length_set,List.length_set,F.len]
 ·show(y.v.set _ _)[j]?=(x.v.set _ _)[j]?
  rw[List.getElem?_set,List.getElem?_set,F.len,F.v j hj]
theorem FrS.toL(F:FrS G o x y){d:Int}(n:Int)(hd:o[d.toNat]?≠some true):FrS G o (x.to d n) y:=by
 refine⟨?_,fun j hj=>?_,F.w,F.kn⟩
 ·show y.v.length=(x.v.set _ _).length
  rw[List.length_set,F.len]
 ·show y.v[j]?=(x.v.set _ _)[j]?
  rw[List.getElem?_set_ne (fun e=>hd (by rw[e];exact hj)),F.v j hj]
theorem RSS.ends(S:RSS G K K' s t)(k:Int)(hr:∀ k,G k k):RSS G K K' (endsP k s) (endsP k t):=
 ⟨S.inp,S.fuel,rfl,S.long,S.gap,S.lt,S.lt',S.ev.append (.cons ⟨rfl,rfl,rfl,rfl,.nil,Nat.zero_le _⟩ .nil)⟩
theorem RSS.tell(S:RSS G K K' s t){e e':TEv}(h:EvS G e' e):RSS G K K' (s.tell e) (t.tell e'):=
 ⟨S.inp,S.fuel,S.over,S.long,S.gap,S.lt,S.lt',S.ev.append (.cons h .nil)⟩
theorem RSS.dec(S:RSS G K K' s t):RSS G K K' {s with left:=s.left-1} {t with left:=t.left-1}:=
 ⟨S.inp,S.fuel,S.over,S.long,by have:=S.gap;simp only;omega,by have:=S.lt;simp only;omega,by have:=S.lt';simp only;omega,S.ev⟩
theorem RSS.decL(S:RSS G K K' s t):RSS G K K' {s with left:=s.left-1} t:=
 ⟨S.inp,S.fuel,S.over,S.long,by have:=S.gap;simp only;omega,by have:=S.lt;simp only;omega,S.lt',S.ev⟩
end
/-- An instruction that is only there for what it makes, and does not trap. -/
theorem one_dead{call:Int->List Int->RS->Int×RS}{u:TUnit}{f:TFunc}{args:List Int}{i:TIns}{n:Int}(hh:hasF i)(h47:i.op≠47)(hkn:knownP u f n i)(hget:i.op≠34/\i.op≠35)(hd:∀ op a b,1<=op->op<=15->op≠4->op≠5->(doesF op a b).2=true)(x:Fr)(s:RS):∃ m,oneP call u f args i x s=(x.to i.dst m,s):=by
 unfold hasF at hh;unfold oneP
 by_cases h32:i.op=32
 ·rw[if_pos h32];exact⟨_,rfl⟩
 rw[if_neg h32]
 by_cases h33:i.op=33
 ·rw[if_pos h33];exact⟨_,rfl⟩
 rw[if_neg h33]
 by_cases h36:i.op=36
 ·rw[if_pos h36];exact⟨_,rfl⟩
 rw[if_neg h36,if_neg (by omega),if_neg (by omega)]
 by_cases h39:i.op=39
 ·rw[if_pos h39];exact⟨_,rfl⟩
 rw[if_neg h39,if_neg (by omega),if_neg (by omega),if_neg (by omega),if_neg (by omega),if_neg (by omega),if_neg (by omega)]
 have hop:1<=i.op/\i.op<=15:=by
  unfold knownP at hkn;rw[if_neg (by omega),if_neg (by omega),if_neg (by omega),if_neg (by omega),if_neg (by omega),if_neg (by omega),if_neg (by omega),if_neg (by omega)]at hkn;exact hkn
 rw[if_pos (hd _ _ _ hop.1 hop.2 (by omega) (by omega))];exact⟨_,rfl⟩
theorem vals_sim{G:TKn->TKn->Prop}(hn:∀ a b,G a b->G (kn0 a) (kn0 b)){f g:TFunc}{x y:Fr}(hv:g.vars=f.vars)(hk:All2 G y.kn x.kn):∀ l:List Int,All2 G (valsP g y l) (valsP f x l)
 |[]=> .nil
 | v::l=>by
   have ih:=vals_sim hn hv hk l;unfold valsP at ih ⊢
   rw[List.filterMap_cons,List.filterMap_cons,hv];rw[hv]at ih;cases hf:f.vars[v.toNat]? with
   |none=>simpa only[hf]using ih
   | some t=>
     simp only
     by_cases hc:t.type.kind=1\/t.type.kind=2
     ·rw[if_pos hc,if_pos hc];cases hx:x.kn[v.toNat]? with
      | none=>
        have:y.kn[v.toNat]?=none:=List.getElem?_eq_none (by rw[hk.length];exact List.getElem?_eq_none_iff.1 hx);rw[this];exact ih
      | some b=>
        have hl:v.toNat<y.kn.length:=by rw[hk.length];exact(Ge hx).1
        rw[Gg hl];exact .cons (hn _ _ (hk.get _ _ _ (Gg hl) hx)) ih
     ·rw[if_neg hc,if_neg hc];exact ih
theorem valsP_len{f:TFunc}{x:Fr}(l:List Int):(valsP f x l).length<=l.length:=List.length_filterMap_le _ _
section
variable {G:TKn->TKn->Prop} {K K':Int} {s t:RS} {o:List Bool} {x y:Fr} {u w:TUnit} {n:Int} {f:TFunc} {args:List Int} {callu callv:Int->List Int->RS->Int×RS}
theorem FrS.kn'(F:FrS G o x y)(k:Nat){a b:TKn}(h:G a b):FrS G o {x with kn:=x.kn.set k b} {y with kn:=y.kn.set k a}:=
 ⟨F.len,F.v,F.w,F.kn.set k h⟩
theorem FrS.ww(F:FrS G o x y)(k:List (List Int)):FrS G o {x with w:=k} {y with w:=k}:=⟨F.len,F.v,rfl,F.kn⟩
theorem FrS.map(F:FrS G o x y):∀ l:List Int,(∀v,v∈l->o[v.toNat]?=some true)->l.map (gi y.v)=l.map (gi x.v)
 |[],_=>rfl
 |v::l,h=>by rw[List.map_cons,List.map_cons,F.got (h v List.mem_cons_self),F.map l fun v hv=>h v (List.mem_cons_of_mem _ hv)]
theorem one46{i:TIns}(h:i.op=46):oneP callu u f args i x s=({x with kn:=x.kn.set i.var.toNat (if 0<=i.a then⟨i.var,gi x.v i.a,false⟩else⟨i.var,0,true⟩)},s):=by
 unfold oneP;rw[if_neg (by omega),if_neg (by omega),if_neg (by omega),if_pos h]
theorem mark_sim(hU:SimU G u w)(hv:∀ g:TFunc,g=dceF o f->g.vars=f.vars)(F:FrS G o x y)(S:RSS G K K' s t)(m:Int):RSS G K K' (markP u f x s m) (markP w (dceF o f) y t m):=by
 unfold markP;rw[S.fuel];split
 ·exact S.ends 9 hU.refl
 ·rw[hU.pts];split
  ·rename_i p hp
   exact ⟨S.inp,rfl,S.over,S.long,S.gap,S.lt,S.lt',S.ev.append (.cons ⟨rfl,rfl,rfl,rfl,vals_sim hU.norm (hv _ rfl) F.kn p.scope,by
    have h1:=hU.scope p (Mg hp)
    have h2:=valsP_len (f:=dceF o f) (x:=y) p.scope
    simp only
    omega⟩ .nil)⟩
  ·exact S
theorem one_sim(hU:SimU G u w)(hk:Kin G u n f o){p q:Nat}{i j:TIns}(hi:insAt f p q=some i)(hj:dceI o i=some j)(h47:i.op≠47)
  (hcall:∀ m l s t,RSS G K K' s t->s.over=false->Out G K K' (callu m l s).2 (callv m l t).2 ((callv m l t).1=(callu m l s).1))
  (F:FrS G o x y) (S:RSS G K K' s t) (ho:s.over=false):
  Out G K K' (oneP callu u f args i x s).2 (oneP callv w (dceF o f) args j y t).2 (FrS G o (oneP callu u f args i x s).1 (oneP callv w (dceF o f) args j y t).1):=by
 have hu:∀ v,v∈usesF j->o[v.toNat]?=some true:=fun v hv=>(hk.sn.uses hi hj hv).2.2.2;have hvars:∀ g:TFunc,g=dceF o f->g.vars=f.vars:=fun g h=>by rw[h];rfl
 by_cases h46:i.op=46
 ·have hj46:j.op=46/\j.var=i.var/\(j=i\/0<=i.a/\j.a= -1/\o.getD i.a.toNat false=false):=by
   unfold dceI at hj;rw[if_neg (fun hc=>by have:=hc.1;unfold hasF at this;omega)]at hj
   by_cases hg:i.op=46/\0<=i.a/\o.getD i.a.toNat false=false
   ·rw[if_pos hg]at hj;obtain rfl:=Option.some.inj hj;exact⟨h46,rfl,.inr ⟨hg.2.1,rfl,hg.2.2⟩⟩
   ·rw[if_neg hg]at hj;obtain rfl:=Option.some.inj hj;exact⟨h46,rfl,.inl rfl⟩
  obtain⟨hj1,hj2,hj3⟩:=hj46;refine .inr ?_;rw[one46 h46,one46 hj1,hj2];refine⟨S,F.kn' _ ?_⟩;rcases hj3 with rfl|⟨h0,ha,hg⟩
  ·by_cases h0:0<=j.a
   ·rw [if_pos h0,if_pos h0,F.got (hu _ (by
     unfold usesF
     rw[if_neg (by omega),if_neg (by omega),if_neg (by omega),if_pos h46,if_pos h0]
     exact List.mem_cons_self))]
    exact hU.refl _
   ·rw[if_neg h0,if_neg h0];exact hU.refl _
  ·rw[if_pos h0,if_neg (by omega)];exact hk.bind i (inF_at hi) h46 h0 hg _
 ·obtain rfl:j=i:=by
   rcases dceI_some hj with h|⟨h,_⟩
   ·exact h
   ·exact absurd h h46
  unfold oneP
  by_cases h32:j.op=32
  ·simp only[if_pos h32];exact .inr ⟨S,F.to _ _⟩
  simp only[if_neg h32]
  by_cases h33:j.op=33
  ·simp only[if_pos h33];exact .inr ⟨S,F.to _ _⟩
  simp only[if_neg h33]
  by_cases h36:j.op=36
  ·simp only[if_pos h36];rw[F.got (hu _ (by unfold usesF;rw[if_pos (by omega)];exact List.mem_cons_self))];exact .inr ⟨S,F.to _ _⟩
  simp only[if_neg h36,if_neg h46]
  by_cases h378:j.op=37\/j.op=38
  ·simp only[if_pos h378]
   have ha:gi y.v j.a = gi x.v j.a:=F.got (hu _ (by
    unfold usesF
    rcases h378 with h|h
    ·rw[if_pos (by omega)];exact List.mem_cons_self
    ·rw[if_neg (by omega),if_pos h];exact List.mem_cons_self))
   rw[ha,F.w];split
   ·exact .inr ⟨S.ends 7 hU.refl,F⟩
   ·split
    ·exact .inr ⟨S,F.to _ _⟩
    ·have hb:gi y.v j.b = gi x.v j.b:=F.got (hu _ (by
      unfold usesF
      rw[if_neg (by omega),if_pos (by omega)];exact List.mem_cons_of_mem _ List.mem_cons_self))
     rw[hb];exact .inr ⟨S,F.ww _⟩
  simp only[if_neg h378]
  by_cases h39:j.op=39
  ·simp only[if_pos h39,F.w];exact .inr ⟨S,F.to _ _⟩
  simp only[if_neg h39]
  by_cases h40:j.op=40
  ·simp only[if_pos h40,F.w];rw[F.got (hu _ (by unfold usesF;rw[if_pos (by omega)];exact List.mem_cons_self))];exact .inr ⟨S,F.ww _⟩
  simp only[if_neg h40]
  by_cases h41:j.op=41
  ·simp only[if_pos h41,F.w];exact .inr ⟨S,F.ww _⟩
  simp only[if_neg h41]
  by_cases h42:j.op=42
  ·simp only[if_pos h42]
   rw [F.map j.args fun v hv => hu v (by
    unfold usesF
    rw[if_neg (by omega),if_neg (by omega),if_pos (by omega)]
    exact hv)]
   have S':=S.tell (e:=ev0 3 0 j.num) (e':=ev0 3 0 j.num) ⟨rfl,rfl,rfl,rfl,.nil,Nat.zero_le _⟩;have hc:=hcall j.num (j.args.map (gi x.v)) _ _ S' ho
   generalize callu j.num (j.args.map (gi x.v)) (s.tell (ev0 3 0 j.num))=ra at*
   generalize callv j.num (j.args.map (gi x.v)) (t.tell (ev0 3 0 j.num))=rb at*
   rcases hc with⟨hl,hov⟩|⟨Sc,he⟩
   ·rw[if_pos hov];exact .inl ⟨hl,hov⟩
   ·rw[Sc.over]
    by_cases hov:ra.2.over=true
    ·rw[if_pos hov,if_pos hov];exact .inr ⟨Sc,F⟩
    ·rw[if_neg hov,if_neg hov,he];refine .inr ⟨Sc.tell ⟨rfl,rfl,rfl,rfl,.nil,Nat.zero_le _⟩,?_⟩;simp only
     split
     ·exact F.to _ _
     ·exact F
  simp only[if_neg h42]
  by_cases h43:j.op=43
  ·simp only[if_pos h43,S.inp];split
   ·exact .inr ⟨S.ends 8 hU.refl,F⟩
   ·exact .inr ⟨⟨rfl,S.fuel,S.over,S.long,S.gap,S.lt,S.lt',S.ev⟩,F.to _ _⟩
  simp only[if_neg h43]
  by_cases h44:j.op=44
  ·simp only[if_pos h44];rw[F.got (hu _ (by unfold usesF;rw[if_pos (by omega)];exact List.mem_cons_self))];exact .inr ⟨S.tell ⟨rfl,rfl,rfl,rfl,.nil,Nat.zero_le _⟩,F⟩
  simp only[if_neg h44]
  by_cases h45:j.op=45
  ·simp only[if_pos h45];exact .inr ⟨mark_sim hU hvars F S _,F⟩
  simp only[if_neg h45];have hkn:=(hk.sn.ins hi).1.known
  have hget:=(hk.sn.ins hi).2.get
  have hop:1<=j.op/\j.op<=15:=by
   unfold knownP at hkn;rw[if_neg (by omega),if_neg (by omega),if_neg (by omega),if_neg (by omega),if_neg (by omega),if_neg (by omega),if_neg (by omega),if_neg (by omega)]at hkn;exact hkn
  have ha:gi y.v j.a = gi x.v j.a:=F.got (hu _ (by
   unfold usesF
   by_cases h:j.op=14\/j.op=15
   ·rw[if_pos (by omega)];exact List.mem_cons_self
   ·rw[if_neg (by omega),if_neg (by omega),if_neg (by omega),if_neg (by omega),if_pos (by omega)];exact List.mem_cons_self))
  have hb:(if j.op<=13 then gi y.v j.b else 0)=(if j.op<=13 then gi x.v j.b else 0):=by
   by_cases h:j.op<=13
   ·rw[if_pos h,if_pos h]
    exact F.got (hu _ (by
     unfold usesF
     rw[if_neg (by omega),if_neg (by omega),if_neg (by omega),if_neg (by omega),if_pos (by omega)];exact List.mem_cons_of_mem _ List.mem_cons_self))
   ·rw[if_neg h,if_neg h]
  rw[ha,hb];generalize (if j.op<=13 then gi x.v j.b else 0)=z;split
  ·exact .inr ⟨S,F.to _ _⟩
  ·exact .inr ⟨S.ends 6 hU.refl,F⟩
theorem insP_over{call:Int->List Int->RS->Int×RS}{l:List TIns}{x:Fr}{s:RS}(h:s.over=true):insP call u f args l x s=(x,s):=by
 cases l with
 |nil=>rfl
 |cons i l=>rw[insP,if_pos h]
theorem dceI_op{i j:TIns}(h:dceI o i=some j):j.op=i.op:=by
 rcases dceI_some h with rfl|⟨_,_,rfl⟩<;>rfl
theorem ins_sim(hU:SimU G u w)(hk:Kin G u n f o)(hd:∀ op a b,1<=op->op<=15->op≠4->op≠5->(doesF op a b).2=true){p:Nat}
  (hcall:∀ m l s t,RSS G K K' s t->s.over=false->Out G K K' (callu m l s).2 (callv m l t).2 ((callv m l t).1=(callu m l s).1)):
  ∀(l:List TIns) (q:Nat) (_:∀ r,l[r]?=insAt f p (q+r)\/l[r]?=none) {x y:Fr} {s t:RS} (_:FrS G o x y) (_:RSS G K K' s t),
   Out G K K' (insP callu u f args l x s).2 (insP callv w (dceF o f) args (l.filterMap (dceI o)) y t).2 (FrS G o (insP callu u f args l x s).1 (insP callv w (dceF o f) args (l.filterMap (dceI o)) y t).1)
 |[],q,_,x,y,s,t,F,S=> .inr ⟨S,F⟩
 | i::l,q,hl,x,y,s,t,F,S=>by
   have hi:insAt f p q=some i:=by
    rcases hl 0 with h|h
    ·exact h.symm
    ·cases h
   have hl':∀ r,l[r]?=insAt f p (q+1+r)\/l[r]?=none:=fun r=>by
    have:=hl (r+1);rw[List.getElem?_cons_succ]at this;rw[show q+1+r=q+(r+1)from by omega];exact this
   by_cases ho:s.over=true
   ·rw[insP_over ho,insP_over (by rw[S.over];exact ho)];exact .inr ⟨S,F⟩
   have ho':s.over=false:=by simpa using ho
   have hto:t.over=false:=by rw[S.over];exact ho'
   rw[insP,if_neg ho]
   by_cases h47:i.op=47
   ·rw[if_pos h47,List.filterMap_cons];cases hj:dceI o i with
    |none=>exact ins_sim hU hk hd hcall l (q+1) hl' F S.decL
    | some j=>
      simp only
      rw[insP,if_neg (by rw[hto];decide),if_pos (by rw[dceI_op hj];exact h47)];exact ins_sim hU hk hd hcall l (q+1) hl' F S.dec
   ·rw[if_neg h47,List.filterMap_cons];cases hj:dceI o i with
    | none=>
      have hh:hasF i/\o.getD i.dst.toNat false=false:=by
       unfold dceI at hj;split at hj
       ·assumption
       ·cases hj
      obtain⟨m,hm⟩:=one_dead (call:=callu) (u:=u) (f:=f) (args:=args) hh.1 h47 (hk.sn.ins hi).1.known (hk.sn.ins hi).2.get hd x {s with left:=s.left-1};rw[hm];exact ins_sim hU hk hd hcall l (q+1) hl' (F.toL m (getD_false.1 hh.2)) S.decL
    | some j=>
      simp only
      rw[insP,if_neg (by rw[hto];decide),if_neg (by rw[dceI_op hj];exact h47)];have h1:=one_sim (args:=args) hU hk hi hj h47 hcall F S.dec ho'
      generalize oneP callu u f args i x {s with left:=s.left-1}=ra at*
      generalize oneP callv w (dceF o f) args j y {t with left:=t.left-1}=rb at*
      rcases h1 with⟨h2,h3⟩|⟨S',F'⟩
      ·rw[insP_over h3];exact .inl ⟨h2,h3⟩
      ·exact ins_sim hU hk hd hcall l (q+1) hl' F' S'
end
theorem phiH_none:∀ {l:List TIns},(∀x,x∈l->x.op≠47)->phiH l=[]
 |[],_=>rfl
 | x::l,h=>by
   unfold phiH;rw[List.takeWhile_cons,if_neg];simpa using h x List.mem_cons_self
theorem phiH_fm{o:List Bool}:∀ {l:List TIns},(∀(k:Nat) i,l[k]?=some i->i.op=47-> ∀(j:Nat) y,j<k->l[j]?=some y->y.op=47)->phiH (l.filterMap (dceI o))=(phiH l).filterMap (dceI o)
 |[],_=>rfl
 | x::l,h=>by
   have hl:∀ (k:Nat) i,l[k]?=some i->i.op=47-> ∀(j:Nat) y,j<k->l[j]?=some y->y.op=47:=fun k i hk hi j y hj hy=>h (k+1) i (by simpa using hk) hi (j+1) y (by omega) (by simpa using hy)
   by_cases hx:x.op=47
   ·have e:phiH (x::l)=x::phiH l:=by
     unfold phiH;rw[List.takeWhile_cons,if_pos (by simpa using hx)]
    rw[e,List.filterMap_cons,List.filterMap_cons];cases hj:dceI o x with
    |none=>exact phiH_fm hl
    | some j=>
      have hjo:j.op=47:=by rw[dceI_op hj];exact hx
      have e2:phiH (j::l.filterMap (dceI o))=j::phiH (l.filterMap (dceI o)):=by
       unfold phiH;rw[List.takeWhile_cons,if_pos (by simpa using hjo)]
      simp only
      rw[e2,phiH_fm hl]
   ·have h0:phiH (x::l)=[]:=by
     unfold phiH;rw[List.takeWhile_cons,if_neg (by simpa using hx)]
    rw[h0,List.filterMap_nil];refine phiH_none fun y hy=>?_;obtain⟨z,hz,hzy⟩:=List.mem_filterMap.1 hy;rw[dceI_op hzy];intro h47;obtain⟨k,hk⟩:=List.getElem?_of_mem hz;cases k with
    | zero=>
      simp at hk;subst hk;exact hx h47
    |succ k=>exact hx (h (k+1) z hk h47 0 x (by omega) rfl)
theorem setAll_sim{o:List Bool}{vx vy:TIns->Int}:∀ (l:List TIns) (a b:List Int),b.length=a.length->(∀j:Nat,o[j]?=some true->b[j]?=a[j]?)->
  (∀i,i∈l->dceI o i=none->o[i.dst.toNat]?≠some true)->(∀i,i∈l-> ∀j,dceI o i=some j->j=i/\vx i=vy i)->
  (setAll b ((l.filterMap (dceI o)).map fun x=>(x.dst,vy x))).length=(setAll a (l.map fun x=>(x.dst,vx x))).length/\ ∀j:Nat,o[j]?=some true->(setAll b ((l.filterMap (dceI o)).map fun x=>(x.dst,vy x)))[j]?=(setAll a (l.map fun x=>(x.dst,vx x)))[j]?
 |[],a,b,hl,hv,_,_=>⟨hl,hv⟩
 | i::l,a,b,hl,hv,hn,hs=>by
   have hn':=fun i hi=>hn i (List.mem_cons_of_mem _ hi);have hs':=fun i hi=>hs i (List.mem_cons_of_mem _ hi)
   rw[List.filterMap_cons,List.map_cons,setAll];cases hj:dceI o i with
   | none=>
     refine setAll_sim l _ _ (by rw[List.length_set,hl]) (fun j hj'=>?_) hn' hs';rw[List.getElem?_set_ne (fun e=>hn i List.mem_cons_self hj (by rw[e];exact hj')),hv j hj']
   | some z=>
     obtain⟨rfl,hz⟩:=hs i List.mem_cons_self z hj;simp only
     rw[List.map_cons,setAll,hz];refine setAll_sim l _ _ (by rw[List.length_set,List.length_set,hl]) (fun j hj'=>?_) hn' hs';rw[List.getElem?_set,List.getElem?_set,hl,hv j hj']
theorem mem_phiH:∀ {l:List TIns} {x:TIns},x∈phiH l->x.op=47/\x∈l
 |[],_,h=>by cases h
 | y::l,x,h=>by
   unfold phiH at h;rw[List.takeWhile_cons]at h;split at h
   ·rename_i hy;rcases List.mem_cons.1 h with rfl|h
    ·exact⟨by simpa using hy,List.mem_cons_self⟩
    ·have:=mem_phiH (l:=l) h;exact⟨this.1,List.mem_cons_of_mem _ this.2⟩
   ·cases h
theorem termAt_dce(o:List Bool)(f:TFunc)(k:Int):termAt (dceF o f) k=termAt f k:=by
 unfold termAt dceF;rw[List.getElem?_map];cases f.blocks[k.toNat]?<;>rfl
section
variable {G:TKn->TKn->Prop} {o:List Bool} {x y:Fr} {s t:RS} {u w:TUnit} {n:Int} {f:TFunc} {args:List Int} {callu callv:Int->List Int->RS->Int×RS}
theorem phis_sim(hk:Kin G u n f o)(F:FrS G o x y){b:Nat}{blk:TBlock}(hb:f.blocks[b]?=some blk)(fr way:Int):
  FrS G o {x with v:=phisP f ((waysF f).getD b []) fr way blk.ins x.v} {y with v:=phisP (dceF o f) ((waysF f).getD b []) fr way (blk.ins.filterMap (dceI o)) y.v}:=by
 have hat:∀ q:Nat,insAt f b q=blk.ins[q]?:=fun q=>insAt_of hb;have hbI:bIns f b=blk.ins:=by unfold bIns;rw[hb]
 unfold phisP;rw[termAt_dce];split
 ·exact F
 ·rename_i hkF;have hr:=kF_rng (posF (termAt f fr) way) fr ((waysF f).getD b []) 0 0 (-1) ((waysF f).getD b []).length (by omega) (.inl rfl)
  generalize kF (posF (termAt f fr) way) fr ((waysF f).getD b []) 0 0 (-1)=kk at*
  rw[phiH_fm]
  ·have key:=setAll_sim (o:=o) (vx:=fun i=>gi x.v (gi i.args kk)) (vy:=fun i=>gi y.v (gi i.args kk)) (phiH blk.ins) x.v y.v F.len F.v (fun i hi hn=>?_) (fun i hi j hj=>?_)
   ·exact⟨key.1,key.2,F.w,F.kn⟩
   ·unfold dceI at hn;split at hn
    ·rename_i hc;exact getD_false.1 hc.2
    ·cases hn
   ·obtain⟨h47,him⟩:=mem_phiH hi;obtain⟨q,hq⟩:=List.getElem?_of_mem him;have hI:=hk.sn.ins (p:=b) (q:=q) (x:=i) (by rw[hat];exact hq)
    have hji:j=i:=by
     rcases dceI_some hj with h|⟨h,_⟩
     ·exact h
     ·omega
    subst hji;refine⟨rfl,(F.got ?_).symm⟩;obtain⟨_,_,ws,hw1,hw2⟩:=hI.1.phi h47;have hwl:(waysF f).getD b []=ws:=by rw[List.getD_eq_getElem?_getD,hw1,Option.getD_some]
    rw[hwl]at hr;have hkl:kk.toNat<j.args.length:=by omega
    have hga:gi j.args kk=j.args[kk.toNat]:=by
     unfold gi;rw[List.getD_eq_getElem?_getD,Gg hkl,Option.getD_some]
    rw[hga]
    exact (hk.sn.uses (p:=b) (q:=q) (by rw [hat]; exact hq) hj (v:=j.args[kk.toNat]) (by
     unfold usesF
     rw[if_neg (by omega),if_neg (by omega),if_pos (.inr h47)]
     exact Gm hkl)).2.2.2
  ·intro k i hki h47 j y' hj hy';have hI:=hk.sn.ins (p:=b) (q:=k) (x:=i) (by rw[hat];exact hki)
   exact(hI.1.phi h47).1 j y' hj (by rw[hbI];exact hy')
theorem RSS.up{K K' L L':Int}(S:RSS G K K' s t)(h:K<=L)(h':K'<=L'):RSS G L L' s t:=
 ⟨S.inp,S.fuel,S.over,S.long,S.gap,by have:=S.lt;omega,by have:=S.lt';omega,S.ev⟩
theorem loop_sim(hU:SimU G u w)(hk:Kin G u n f o)(hd:∀ op a b,1<=op->op<=15->op≠4->op≠5->(doesF op a b).2=true){deep:Int}{k k':Nat}
  (hcall:∀ m l s t,RSS G k k' s t->s.over=false->Out G k k' (callu m l s).2 (callv m l t).2 ((callv m l t).1=(callu m l s).1))
  (hgu:∀ n l (s':RS),s'.over=false->Goes s' (callu n l s').2) (hgv:∀ n l (s':RS),s'.over=false->Goes s' (callv n l s').2):
  ∀(m m':Nat) (x y:Fr) (s t:RS) (b:Nat) (fr way:Int),FrS G o x y->RSS G (k+1) (k'+1) s t->s.left<m+1->t.left<m'->
   Out G (k+1) (k'+1) (loopP callu u f args deep (m+1) x s b fr way).2 (loopP callv w (dceF o f) args deep m' y t b fr way).2 ((loopP callv w (dceF o f) args deep m' y t b fr way).1=(loopP callu u f args deep (m+1) x s b fr way).1):=by
 intro m
 induction m with
 | zero=>
   intro m' x y s t b fr way F S hm hm';rw[loopP]
   by_cases ho:s.over=true
   ·rw[if_pos ho];have hto:t.over=true:=by rw[S.over];exact ho
    cases m' with
    |zero=>exact .inr ⟨S,rfl⟩
    |succ m'=>rw[loopP,if_pos hto];exact .inr ⟨S,rfl⟩
   ·rw[if_neg ho,if_pos (.inl (by omega))];exact .inl ⟨rfl,rfl⟩
 | succ m ih=>
   intro m' x y s t b fr way F S hm hm';rw[loopP]
   by_cases ho:s.over=true
   ·rw[if_pos ho];have hto:t.over=true:=by rw[S.over];exact ho
    cases m' with
    |zero=>exact .inr ⟨S,rfl⟩
    |succ m'=>rw[loopP,if_pos hto];exact .inr ⟨S,rfl⟩
   rw[if_neg ho]
   by_cases hl:s.left<=0\/5000<deep
   ·rw[if_pos hl];exact .inl ⟨rfl,rfl⟩
   rw[if_neg hl];have ho':s.over=false:=by simpa using ho
   have hto:t.over=false:=by rw[S.over];exact ho'
   have hg:=S.gap;have hlt:=S.lt
   have hlt':=S.lt';obtain⟨m',rfl⟩:∃ m1,m'=m1+1:=⟨m'-1,by omega⟩;rw[loopP,if_neg (by rw[hto];decide),if_neg (by omega),ways_dce];have hgb:(dceF o f).blocks[b]?=(f.blocks[b]?).map (dceB o):=by unfold dceF;rw[List.getElem?_map]
   rw[hgb];cases hb:f.blocks[b]? with
   |none=>exact .inr ⟨S,rfl⟩
   | some blk=>
     simp only[Option.map_some];have e1:(dceB o blk).ins=blk.ins.filterMap (dceI o):=rfl
     have e2:(dceB o blk).term=blk.term:=rfl;rw[e1,e2];have F1:=phis_sim hk F hb fr way
     have S1:RSS G k k' {s with left:=s.left-1} {t with left:=t.left-1}:=⟨S.inp,S.fuel,S.over,S.long,by simp only;omega,by simp only;omega,by simp only;omega,S.ev⟩;generalize {x with v:=phisP f ((waysF f).getD b []) fr way blk.ins x.v}=x1 at*
     generalize {y with v:=phisP (dceF o f) ((waysF f).getD b []) fr way (blk.ins.filterMap (dceI o)) y.v}=y1 at*
     have h1:=ins_sim (args:=args) (p:=b) hU hk hd hcall blk.ins 0 (fun r=> .inl (by rw[insAt_of hb,Nat.zero_add])) F1 S1;have hga:=(insP_goes (u:=u) (f:=f) (args:=args) hgu blk.ins x1 {s with left:=s.left-1}).left
     have hgb':=(insP_goes (u:=w) (f:=dceF o f) (args:=args) hgv (blk.ins.filterMap (dceI o)) y1 {t with left:=t.left-1}).left;generalize insP callu u f args blk.ins x1 {s with left:=s.left-1}=pa at*
     generalize insP callv w (dceF o f) args (blk.ins.filterMap (dceI o)) y1 {t with left:=t.left-1}=pb at*
     simp only at hga hgb';rcases h1 with⟨h2,h3⟩|⟨S2,F2⟩
     ·rw[if_pos h3];exact .inl ⟨h2,h3⟩
     have S3:=S2.up (L:=k+1) (L':=k'+1) (by omega) (by omega);rw[S2.over]
     by_cases hov:pa.2.over=true
     ·rw[if_pos hov,if_pos hov];exact .inr ⟨S3,rfl⟩
     rw[if_neg hov,if_neg hov];have hT:=hk.sn.may.term b blk hb
     have hneed:blk.term.kind≠1->0<=blk.term.a->gi pb.1.v blk.term.a=gi pa.1.v blk.term.a:=fun h1 h0=>by
      refine F2.got (hk.sn.marked h0 ?_ (.inl (.term (Mg hb) h1 h0)));have:=hT.kind
      omega
     by_cases hk3:blk.term.kind=3
     ·rw[if_pos hk3,if_pos hk3];refine .inr ⟨S3,?_⟩;simp only
      by_cases h0:0<=blk.term.a
      ·rw[if_pos h0,if_pos h0,hneed (by omega) h0]
      ·rw[if_neg h0,if_neg h0]
     ·rw[if_neg hk3,if_neg hk3]
      by_cases hk2:blk.term.kind=2
      ·have h0:0<=blk.term.a:=by have:=hT.kind;omega
       rw[hneed (by omega) h0];split
       ·exact ih m' _ _ _ _ _ _ _ F2 S3 (by omega) (by omega)
       ·exact ih m' _ _ _ _ _ _ _ F2 S3 (by omega) (by omega)
      ·rw[if_neg (fun h=>hk2 h.1),if_neg (fun h=>hk2 h.1)];exact ih m' _ _ _ _ _ _ _ F2 S3 (by omega) (by omega)
theorem call_sim(hU:SimU G u w)(hd:∀ op a b,1<=op->op<=15->op≠4->op≠5->(doesF op a b).2=true):∀ (k:Nat),1<=k-> ∀(k':Nat) (deep n:Int) (l:List Int) (s t:RS),RSS G k k' s t->s.over=false->Out G k k' (callP u k deep n l s).2 (callP w k' deep n l t).2 ((callP w k' deep n l t).1=(callP u k deep n l s).1):=by
 intro k
 induction k with
 |zero=>intro h;omega
 | succ k ih=>
   intro _ k' deep n l s t S ho;rw[callP];cases hf:u.funcs[n.toNat]? with
   | none=>
     have hwf:=hU.no _ hf;cases k' with
     | zero=>
       rw[callP];exact .inr ⟨S.ends 9 hU.refl,rfl⟩
     | succ k'=>
       rw[callP,hwf];exact .inr ⟨S.ends 9 hU.refl,rfl⟩
   | some f=>
     obtain⟨o,hwf,hk⟩:=hU.at' _ _ hf;simp only
     by_cases hl:s.left-f.vars.length<=0\/5000<deep
     ·rw[if_pos hl];exact .inl ⟨rfl,rfl⟩
     ·rw[if_neg hl];have hg:=S.gap
      have hlt:=S.lt;have hlt':=S.lt'
      obtain⟨k',rfl⟩:∃ k1,k'=k1+1:=⟨k'-1,by omega⟩;rw[callP,hwf];have ev:(dceF o f).vars=f.vars:=rfl
      have ef:fr0 (dceF o f)=fr0 f:=rfl;simp only
      rw[ev,ef,if_neg (by omega)];have S1:RSS G (k+1) (k'+1) {s with left:=s.left-f.vars.length} {t with left:=t.left-f.vars.length}:=⟨S.inp,S.fuel,S.over,S.long,by simp only;omega,by simp only;omega,by simp only;omega,S.ev⟩
      exact loop_sim hU hk hd (fun m l s t S ho=>ih (by omega) k' (deep+1) m l s t S ho) (fun n l s' h=>callP_goes u k (deep+1) n l s' h) (fun n l s' h=>callP_goes w k' (deep+1) n l s' h) k (k'+1) (fr0 f) (fr0 f) _ _ 0 (-1) 0 ⟨rfl,fun _ _=>rfl,rfl,All2.rfl' hU.refl _⟩ S1 (by simp only;omega) (by simp only;omega)
/-- The one's trace, if it is told, and the other's. -/
theorem run_sim(hU:SimU G u w)(hd:∀ op a b,1<=op->op<=15->op≠4->op≠5->(doesF op a b).2=true){inp:List Int}{fuel most most':Int}(h0:0<=most)(hm:most<=most')(hl:(haltP (runP u inp fuel most)).long=false):
  All2 (EvS G) (haltP (runP w inp fuel most')).ev (haltP (runP u inp fuel most)).ev:=by
 have S0:RSS G (most.toNat+1:Nat) (most'.toNat+1:Nat) ⟨inp,if fuel<0 then 0 else fuel,most,[],false,false⟩ ⟨inp,if fuel<0 then 0 else fuel,most',[],false,false⟩:=
  ⟨rfl,rfl,rfl,rfl,hm,by simp only;omega,by simp only;omega,.nil⟩
 have h1:=call_sim hU hd (most.toNat+1) (by omega) (most'.toNat+1) 0 u.main [] _ _ S0 rfl;unfold runP at hl ⊢
 rw[hU.main];generalize callP u (most.toNat+1) 0 u.main [] ⟨inp,if fuel<0 then 0 else fuel,most,[],false,false⟩=ra at*
 generalize callP w (most'.toNat+1) 0 u.main [] ⟨inp,if fuel<0 then 0 else fuel,most',[],false,false⟩=rb at*
 rcases h1 with⟨h2,h3⟩|⟨S1,_⟩
 ·unfold haltP at hl;rw[if_pos h3,h2]at hl;cases hl
 ·unfold haltP;rw[S1.over];split
  ·exact S1.ev
  ·exact(S1.ends 5 hU.refl).ev
end
theorem _root_.Go.Ab.WC.same{E:Nat->Option AF}{f:Nat}{as:List A}{bx:List Bx}{Q R:A->List Bx->Prop}(h:WC E f as bx Q)(k:WC E f as bx R):∃ r b,Q r b/\R r b:=by
 obtain⟨n,r,b,h1,h2⟩:=h;obtain⟨m,r',b',k1,k2⟩:=k;have e1:=acall_up h1 (Nat.le_max_left n m)
 rw[acall_up k1 (Nat.le_max_right n m)]at e1;simp only[Oe,Prod.mk.injEq]at e1;obtain⟨rfl,rfl⟩:=e1;exact⟨_,_,h2,k2⟩
theorem does_num{op a b:Int}(h1:1<=op)(h2:op<=15)(h4:op≠4)(h5:op≠5):WC E 68 [.v (.int .u8 op),.v (.int .i64 a),.v (.int .i64 b)] [] fun r _=> ∃v,r= .tup [.v (.int .i64 v),.v (.bool true)]:=by
 refine WC.enter rfl rfl rfl ?_;unfold b68 ki kb mt mw ov oo
 repeat' (first|refine W.seq ?_|refine W.easy (k:=?_)|refine W.block ?_|refine W.skip ?_|refine W.ret ?_|refine Ret.ret (k:=?_)|(refine W.condL (h:=?_);change W _ _ _ _)|refine W.regS ?_|refine WS.done ?_|refine WS.pre (k:=?_)|(refine WS.cmp (k1:=fun h=>?_) (k2:=fun h=>?_)<;>simp only[Zq]at h<;>(try(exfalso;omega)))|refine WS.consN (k:=?_)|fail)
 all_goals try first
  |refine WS.binE (h:=fun c=>?_)
  |refine WS.negE (h:=fun c=>?_)
 all_goals
  repeat' (first|refine W.ret ?_|refine Ret.ret (k:=?_)|refine WS.done ?_|refine WS.consN (k:=?_)|fail)
 all_goals exact⟨_,rfl⟩
theorem doesF_num(op a b:Int)(h1:1<=op)(h2:op<=15)(h4:op≠4)(h5:op≠5):(doesF op a b).2=true:=by
 obtain⟨r,_,h,v,k⟩:=(does_eq op a b).same (does_num (a:=a) (b:=b) h1 h2 h4 h5);rw[h]at k;simp only[A.tup.injEq,List.cons.injEq,A.v.injEq,Value.bool.injEq]at k;exact k.2.1
theorem unitA{u:TUnit}{e:List A}(h:UnitR u e):∃ nf fs main np ps,e=[.imm nf 6 fs,.v (.int .i64 main),.imm np 3 ps]:=by
 obtain⟨_,_,rfl,⟨nf,fs,n,rfl,_⟩,⟨np,ps,m,rfl,_⟩⟩:=h;exact⟨_,_,_,_,_,rfl⟩
theorem lawGood_ok{u w:TUnit}{e e2:List A}(hR:UnitR u e)(hR2:UnitR w e2)(hu:RunU u)(hw:RunU w){inp:List Int}{ai:A}(hi:SlN 1 IntR inp ai)(hil:inp.length<=2000000){fuel:Int}(hf:0<=fuel/\fuel<=1000000000)
  (hsim:(haltP (runP u inp fuel 200000)).long=false->GoodL (haltP (runP w inp fuel 4000000)).ev (haltP (runP u inp fuel 200000)).ev) (hev:(haltP (runP w inp fuel 4000000)).ev.length<=1000000000):
  WC E 15 [.agg e2,.agg e,ai,.v (.int .i64 fuel)] [] fun r _=>r= .v (.bool true):=by
 have c1:=fun ai h=>says_ok (most:=200000) hR hu (ai:=ai) h hil hf (by omega);have c2:=fun ai h=>says_ok (most:=4000000) hR2 hw (ai:=ai) h hil hf (by omega)
 obtain⟨nf,fs,main,np,ps,rfl⟩:=unitA hR;obtain⟨nf2,fs2,main2,np2,ps2,rfl⟩:=unitA hR2;generalize haltP (runP u inp fuel 200000)=S at*
 generalize haltP (runP w inp fuel 4000000)=T at*
 generalize S.long=bl at*
 generalize T.long=bl2 at*
 rcases hi with⟨rfl,rfl⟩|⟨ni,ei,li,rfl,hli,h7,hinR,hinl⟩
 case' inl=>
  replace c1:=c1 (.imm true 1 []) (.inr ⟨true,[],0,rfl,rfl,rfl,.nil,fun _=>rfl⟩);replace c2:=c2 (.imm true 1 []) (.inr ⟨true,[],0,rfl,rfl,rfl,.nil,fun _=>rfl⟩)
 case' inr=>
  replace c1:=c1 (.imm ni 1 ei) (.inr ⟨ni,ei,li,rfl,hli,h7,hinR,hinl⟩);replace c2:=c2 (.imm ni 1 ei) (.inr ⟨ni,ei,li,rfl,hli,h7,hinR,hinl⟩)
 all_goals
  refine WC.enter rfl rfl rfl ?_;unfold b15 ki kb mt mw lt ov oo
  repeat' (first|refine W.seq ?_|refine W.easy (k:=?_)|refine W.frz (k:=?_)|refine W.regS ?_|refine WS.pre (k:=?_)|fail)
  refine WS.call (hc:=(c1)) (k:=?_);rintro _ _ ⟨le,rfl,hS⟩;have hS0:=hS
  obtain⟨nl,es,k,rfl,_⟩:=hS;cases bl
  all_goals
   refine⟨_,_,_,by cbv;first|done|fail,by cbv;first|done|fail,?_⟩
   repeat' (first|refine W.seq ?_|refine W.easy (k:=?_)|refine W.skip ?_|refine W.ret ?_|refine W.frz (k:=?_)|refine Ret.ret (k:=?_)|(refine W.condL (h:=?_);change W _ _ _ _)|refine W.regS ?_|refine WS.done ?_|refine WS.pre (k:=?_)|refine WS.consN (k:=?_)|fail)
 all_goals first
  |rfl
  |skip
 all_goals
  have hG:=hsim rfl;refine WS.call (hc:=(c2)) (k:=?_);rintro _ _ ⟨le2,rfl,hT⟩;have hT0:=hT
  obtain⟨nl2,es2,k2,rfl,_⟩:=hT;refine⟨_,_,_,by cbv;first|done|fail,by cbv;first|done|fail,?_⟩
  repeat' (first|refine W.seq ?_|refine W.frz (k:=?_)|refine W.regS ?_|refine WS.done ?_|refine WS.pre (k:=?_)|refine WS.consN (k:=?_)|fail)
  refine WS.call (hc:=((goodL_ok hT0 hS0 hG hev))) (k:=?_);rintro _ _ rfl;refine⟨_,_,_,by cbv;first|done|fail,by cbv;first|done|fail,?_⟩
  repeat' (first|refine W.ret ?_|refine Ret.ret (k:=?_)|refine WS.done ?_|refine WS.consN (k:=?_)|fail)
  rfl
end Go.Ab.Ytkmmpbmmmbebgaa
