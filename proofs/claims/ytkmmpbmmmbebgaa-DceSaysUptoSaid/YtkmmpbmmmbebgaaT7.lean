/- The reference's runs: how far down the count goes; rows keep their lengths. The reference's runs: how a call begins. The reference's runs: how a call begins, its virtuals. The reference's runs: the instructions of a block. The reference's runs: a call's main loop. -/
import Derived.Test.YtkmmpbmmmbebgaaT6
set_option linter.all false
namespace Go.Ab.Ytkmmpbmmmbebgaa
set_option maxRecDepth 100000
set_option maxHeartbeats 8000000
/-- How far a call may go down. -/
def Low(B:Int)(s s':RS):Prop:=(s'.over=false-> -B<=s'.left)/\(s.left-6000<=s'.left\/ -B<=s'.left)
theorem oneP_low{call:Int->List Int->RS->Int×RS}{u:TUnit}{f:TFunc}{args:List Int}{i:TIns}{x:Fr}{s:RS}{B:Int}(hc:∀ n l (s':RS),s'.over=false->Low B s' (call n l s').2)(ho:s.over=false):
  (oneP call u f args i x s).2.left=s.left\/Low B s (oneP call u f args i x s).2:=by
 unfold oneP
 by_cases h32:i.op=32
 ·rw[if_pos h32];exact .inl rfl
 rw[if_neg h32]
 by_cases h33:i.op=33
 ·rw[if_pos h33];exact .inl rfl
 rw[if_neg h33]
 by_cases h36:i.op=36
 ·rw[if_pos h36];exact .inl rfl
 rw[if_neg h36]
 by_cases h46:i.op=46
 ·rw[if_pos h46];exact .inl rfl
 rw[if_neg h46]
 by_cases h378:i.op=37\/i.op=38
 ·rw[if_pos h378];split
  ·exact .inl rfl
  ·split<;>exact .inl rfl
 rw[if_neg h378]
 by_cases h39:i.op=39
 ·rw[if_pos h39];exact .inl rfl
 rw[if_neg h39]
 by_cases h40:i.op=40
 ·rw[if_pos h40];exact .inl rfl
 rw[if_neg h40]
 by_cases h41:i.op=41
 ·rw[if_pos h41];exact .inl rfl
 rw[if_neg h41]
 by_cases h42:i.op=42
 ·rw[if_pos h42];have h1:=hc i.num (i.args.map (gi x.v)) (s.tell (ev0 3 0 i.num)) ho
  generalize call i.num (i.args.map (gi x.v)) (s.tell (ev0 3 0 i.num))=p at*
  by_cases hpo:p.2.over=true
  ·rw[if_pos hpo];exact .inr h1
  ·rw[if_neg hpo];exact .inr ⟨fun _=>h1.1 (by simpa using hpo),h1.2⟩
 rw[if_neg h42]
 by_cases h43:i.op=43
 ·rw[if_pos h43];split<;>exact .inl rfl
 rw[if_neg h43]
 by_cases h44:i.op=44
 ·rw[if_pos h44];exact .inl rfl
 rw[if_neg h44]
 by_cases h45:i.op=45
 ·rw[if_pos h45];unfold markP;split
  ·exact .inl rfl
  ·split<;>exact .inl rfl
 rw[if_neg h45];generalize (if i.op<=13 then gi x.v i.b else 0)=z;split<;>exact .inl rfl
theorem insP_low{call:Int->List Int->RS->Int×RS}{u:TUnit}{f:TFunc}{args:List Int}{B:Int}(hc:∀ n l (s':RS),s'.over=false->Low B s' (call n l s').2):∀ (l:List TIns) (x:Fr) (s:RS) (i0:Int),0<=i0-> -B-i0<=s.left->
  ((insP call u f args l x s).2.over=false-> -B-i0-l.length<=(insP call u f args l x s).2.left)/\ -B-i0-l.length-6000<=(insP call u f args l x s).2.left
 | [],x,s,i0,h0,hs=>by
   rw[insP];simp only[List.length_nil];exact⟨fun _=>by omega,by omega⟩
 | i::l,x,s,i0,h0,hs=>by
   rw[insP];simp only[List.length_cons]
   by_cases ho1:s.over=true
   ·rw[if_pos ho1];exact⟨fun _=>by simp only;omega,by simp only;omega⟩
   ·have ho:s.over=false:=by simpa using ho1
    rw[if_neg ho1]
    by_cases h47:i.op=47
    ·rw[if_pos h47];have h1:=insP_low (u:=u) (f:=f) (args:=args) hc l x {s with left:=s.left-1} (i0+1) (by omega) (by simp only;omega)
     exact⟨fun h=>by have:=h1.1 h;omega,by have:=h1.2;omega⟩
    ·rw[if_neg h47];have h1:=oneP_low (u:=u) (f:=f) (args:=args) (i:=i) (x:=x) (s:={s with left:=s.left-1}) hc ho
     generalize oneP call u f args i x {s with left:=s.left-1}=p at*
     by_cases hp:p.2.over=true
     ·have e:insP call u f args l p.1 p.2=(p.1,p.2):=by
       cases l with
       |nil=>rfl
       |cons j l=>rw[insP,if_pos hp]
      rw[e];refine⟨fun h=>(by rw[hp]at h;cases h),?_⟩;rcases h1 with h1|h1
      ·show _<=p.2.left
       simp only at h1;omega
      ·show _<=p.2.left
       have:=h1.2;simp only at this;omega
     ·have h2:-B-(i0+1)<=p.2.left:=by
       rcases h1 with h1|h1
       ·simp only at h1;omega
       ·have:=h1.1 (by simpa using hp);omega
      have h3:=insP_low (u:=u) (f:=f) (args:=args) hc l p.1 p.2 (i0+1) (by omega) h2;exact⟨fun h=>by have:=h3.1 h;omega,by have:=h3.2;omega⟩
theorem loopP_low{call:Int->List Int->RS->Int×RS}{u:TUnit}{f:TFunc}{args:List Int}{deep B:Int}(hB:0<=B)(hc:∀ n l (s':RS),s'.over=false->Low B s' (call n l s').2)(hi:∀ b,b∈f.blocks->b.ins.length<=6000):∀ (k:Nat) (x:Fr) (s:RS) (b:Nat) (from' way:Int),-B-20000<=s.left-> -B-20000<=(loopP call u f args deep k x s b from' way).2.left
 |0,x,s,b,from',way,hs=>by rw[loopP];exact hs
 | k+1,x,s,b,from',way,hs=>by
   rw[loopP]
   by_cases ho1:s.over=true
   ·rw[if_pos ho1];exact hs
   ·rw[if_neg ho1];split
    ·exact hs
    rename_i hl;split
    ·exact hs
    ·rename_i blk hblk;have hlen:=hi blk (Mg hblk)
     have h1:=insP_low (u:=u) (f:=f) (args:=args) hc blk.ins {x with v:=phisP f ((waysF f).getD b []) from' way blk.ins x.v} {s with left:=s.left-1} 0 (Int.le_refl _) (by simp only;omega);generalize insP call u f args blk.ins {x with v:=phisP f ((waysF f).getD b []) from' way blk.ins x.v} {s with left:=s.left-1}=p at*
     have h2:-B-20000<=p.2.left:=by have:=h1.2;omega
     split
     ·exact h2
     split
     ·exact h2
     split
     ·exact loopP_low hB hc hi k _ _ _ _ _ h2
     ·exact loopP_low hB hc hi k _ _ _ _ _ h2
theorem callP_low{u:TUnit}(hu:∀ f,f∈u.funcs->f.vars.length<=6000/\ ∀b,b∈f.blocks->b.ins.length<=6000):∀ (k:Nat) (deep n:Int) (l:List Int) (s:RS),s.over=false->Low ((5002-deep)*20000) s (callP u k deep n l s).2
 | 0,deep,_,_,s,_=>by
   rw[callP];exact⟨fun h=>(by cases (show true=false from h)),.inl (by show s.left-6000<=s.left;omega)⟩
 | k+1,deep,n,l,s,ho=>by
   rw[callP];split
   ·exact⟨fun h=>(by cases (show true=false from h)),.inl (by show s.left-6000<=s.left;omega)⟩
   ·rename_i f hf;have hfu:=hu f (Mg hf)
    split
    ·exact⟨fun h=>(by cases (show true=false from h)),.inl (by show s.left-6000<=s.left-(f.vars.length:Int);omega)⟩
    ·rename_i hl;have h1:=loopP_low (u:=u) (f:=f) (args:=l) (deep:=deep) (B:=(5002-(deep+1))*20000) (by omega) (fun n l s' h=>callP_low hu k (deep+1) n l s' h) hfu.2 (k+1) (fr0 f) {s with left:=s.left-f.vars.length} 0 (-1) 0 (by simp only;omega)
     exact⟨fun _=>by omega,.inr (by omega)⟩
/-! ### rows keep their lengths -/
theorem gw_sw{w:List (List Int)}{k:Int}{x:List Int}(hl:x.length=(gw w k).length)(j:Nat):((sw w k x).getD j []).length=(w.getD j []).length:=by
 unfold sw;simp only[List.getD_eq_getElem?_getD]
 by_cases h:k.toNat=j
 ·subst h
  by_cases hk:k.toNat<w.length
  ·rw[List.getElem?_set_self hk];unfold gw at hl;rw[List.getD_eq_getElem?_getD]at hl;simp only[Option.getD_some];exact hl
  ·rw[List.getElem?_eq_none (by rw[List.length_set];omega),List.getElem?_eq_none (by omega)]
 ·rw[List.getElem?_set_ne h]
theorem FrOK.to{f:TFunc}{args:List Int}{x:Fr}(h:FrOK f args x)(d n:Int):FrOK f args (x.to d n):=⟨by show((x.v.set _ _).length:Int)=_;rw[List.length_set];exact h.v,h.w,h.words,h.kn,h.args⟩
theorem FrOK.sw{f:TFunc}{args:List Int}{x:Fr}(h:FrOK f args x){k:Int}{l:List Int}(hl:l.length=(gw x.w k).length):FrOK f args {x with w:=sw x.w k l}:=
 ⟨h.v,by show(x.w.set _ _).length=_;rw[List.length_set];exact h.w,fun j t ht=>by rw[<-h.words j t ht];exact congrArg _ (gw_sw hl j),h.kn,h.args⟩
theorem oneP_frok{call:Int->List Int->RS->Int×RS}{u:TUnit}{f:TFunc}{args:List Int}{i:TIns}{x:Fr}{s:RS}(h:FrOK f args x):FrOK f args (oneP call u f args i x s).1:=by
 unfold oneP
 by_cases h32:i.op=32
 ·rw[if_pos h32];exact h.to _ _
 rw[if_neg h32]
 by_cases h33:i.op=33
 ·rw[if_pos h33];exact h.to _ _
 rw[if_neg h33]
 by_cases h36:i.op=36
 ·rw[if_pos h36];exact h.to _ _
 rw[if_neg h36]
 by_cases h46:i.op=46
 ·rw[if_pos h46];exact⟨h.v,h.w,h.words,by show(x.kn.set _ _).length=_;rw[List.length_set];exact h.kn,h.args⟩
 rw[if_neg h46]
 by_cases h378:i.op=37\/i.op=38
 ·rw[if_pos h378];split
  ·exact h
  ·split
   ·exact h.to _ _
   ·exact h.sw (List.length_set ..)
 rw[if_neg h378]
 by_cases h39:i.op=39
 ·rw[if_pos h39];exact h.to _ _
 rw[if_neg h39]
 by_cases h40:i.op=40
 ·rw[if_pos h40];exact h.sw (List.length_set ..)
 rw[if_neg h40]
 by_cases h41:i.op=41
 ·rw[if_pos h41];exact h.sw (List.length_replicate ..)
 rw[if_neg h41]
 by_cases h42:i.op=42
 ·rw[if_pos h42];split
  ·exact h
  ·show FrOK f args (if 0<=i.dst then _ else _)
   split
   ·exact h.to _ _
   ·exact h
 rw[if_neg h42]
 by_cases h43:i.op=43
 ·rw[if_pos h43];split
  ·exact h
  ·exact h.to _ _
 rw[if_neg h43]
 by_cases h44:i.op=44
 ·rw[if_pos h44];exact h
 rw[if_neg h44]
 by_cases h45:i.op=45
 ·rw[if_pos h45];exact h
 rw[if_neg h45];generalize (if i.op<=13 then gi x.v i.b else 0)=z;split
 ·exact h.to _ _
 ·exact h
theorem phis_frok{f:TFunc}{args:List Int}{x:Fr}(h:FrOK f args x)(ws:List Int)(from' way:Int)(ins:List TIns):FrOK f args {x with v:=phisP f ws from' way ins x.v}:=
 ⟨by
  show((phisP f ws from' way ins x.v).length:Int)=_
  unfold phisP
  split
  ·exact h.v
  ·rw[setAll_len];exact h.v,h.w,h.words,h.kn,h.args⟩
theorem fr0_ok{f:TFunc}{args:List Int}(hs:0<=f.size)(hw:∀ t,t∈f.vars->0<=t.words)(ha:(args.length:Int)=f.params):FrOK f args (fr0 f):=by
 refine⟨?_,?_,fun j t ht=>?_,?_,ha⟩
 ·show((List.replicate f.size.toNat (0:Int)).length:Int)=_
  rw[List.length_replicate];omega
 ·show(f.vars.map _).length=_
  rw[List.length_map]
 ·have h0:=hw t (Mg ht);show(((f.vars.map fun t=>List.replicate t.words.toNat (0:Int)).getD j []).length:Int)=_
  rw[List.getD_eq_getElem?_getD,List.getElem?_map,ht];simp only[Option.map_some,Option.getD_some,List.length_replicate];omega
 ·show((List.range f.vars.length).map _).length=_
  rw[List.length_map,List.length_range]
theorem repW{wn:Nat}{r1:List (List A)}(h:List.replicate (Int.ofNat wn).toNat [A.v (.int .i64 0)]=r1):WRow (List.replicate (Int.ofNat wn).toNat 0) [.own 1 r1]:=by
 subst h;exact⟨_,rfl,RowR.replicate (R:=IntR) rfl _⟩
theorem callI1{nf:Bool}{fs:List (List A)}{main:Int}{np:Bool}{ps ws:List (List A)}{ni:Bool}{ei:List (List A)}{fuel left:Int}{l:A}{over long:Bool}{first:Int}{n:Nat}{name:ByteArray}{params:Int}{result nv:Bool}{vs:List (List A)}{nb:Bool}{bs:List (List A)}{size deep:Int}{ar:A}{r:List (List A)}{Q:Ex->St->Prop}{vars:List TVar}{nvl:Nat}(hli:Inert l)(har:ar= .v (.slice none 0 0)\/ ∃nar ear,ar= .imm nar 1 ear)(hV:RowR VarR vars vs)(hvl:vs.length=nvl)(h3:nvl=vars.length)(hwd:∀ t,t∈vars->0<=t.words/\t.words<=16)(hn:nvl<=6000)
  (hex:∀ yw yk,GrowR 1 WRow (vars.map fun t=>List.replicate t.words.toNat 0) yw->GrowR 3 KnR ((List.range nvl).map fun(i:Nat)=>⟨(i:Int),0,true⟩) yk->Q (.exit 0) ⟨[.pt 0 0,.v (.int .i64 (Int.ofNat n)),ar,.v (.int .i64 deep),.v (.int .i64 0),.pt 1 0,.v (.bool false),.v (.int .i64 (Int.ofNat nvl)),.v (.bool false),.pt 2 0,.ud,.ud,.ud,.ud,.ud,.ud,.ud,.ud,.ud,.ud,.ud,.ud,.ud,.ud,.ud],[],[.cells [.imm nf 6 fs,.v (.int .i64 main),.imm np 3 ps,.own 1 ws,.imm ni 1 ei,.v (.int .i64 fuel),.v (.int .i64 left),l,.v (.bool over),.v (.bool long),.v (.int .i64 first)],.cells [.v (.string name),.v (.int .i64 params),.v (.bool result),.imm nv 6 vs,.imm nb 5 bs,.v (.int .i64 size)],.cells [.v (.int .i64 (Int.ofNat n)),.v (.string name),.v (.int .i64 params),.v (.bool result),.imm nv 6 vs,.imm nb 5 bs,.v (.int .i64 size),ar,.own 1 r,yw,yk]]⟩):
  W E (.loop [8] l58_3) ⟨[.pt 0 0,.v (.int .i64 (Int.ofNat n)),ar,.v (.int .i64 deep),.v (.int .i64 0),.pt 1 0,.v (.bool false),.v (.int .i64 0),.ud,.pt 2 0,.ud,.ud,.ud,.ud,.ud,.ud,.ud,.ud,.ud,.ud,.ud,.ud,.ud,.ud,.ud],[],[.cells [.imm nf 6 fs,.v (.int .i64 main),.imm np 3 ps,.own 1 ws,.imm ni 1 ei,.v (.int .i64 fuel),.v (.int .i64 left),l,.v (.bool over),.v (.bool long),.v (.int .i64 first)],.cells [.v (.string name),.v (.int .i64 params),.v (.bool result),.imm nv 6 vs,.imm nb 5 bs,.v (.int .i64 size)],.cells [.v (.int .i64 (Int.ofNat n)),.v (.string name),.v (.int .i64 params),.v (.bool result),.imm nv 6 vs,.imm nb 5 bs,.v (.int .i64 size),ar,.own 1 r,.v (.slice none 0 0),.v (.slice none 0 0)]]⟩ Q:=by
 refine W.forA nvl (fun i (z:A×A) σ=>sn 7 i (sb 2 9 z.1 (sb 2 10 z.2 σ))) (fun i z=>GrowR 1 WRow ((vars.take i).map fun t=>List.replicate t.words.toNat 0) z.1/\GrowR 3 KnR ((List.range i).map fun(i:Nat)=>⟨(i:Int),0,true⟩) z.2) 0 (Nat.zero_le _) ?_ ?_
 ·exact⟨(_,_),by cbv,.inl ⟨rfl,rfl⟩,.inl ⟨rfl,rfl⟩⟩
 rintro QA kA i ⟨yw,yk⟩ hi ⟨hGw,hGk⟩;simp only at hGw hGk
 by_cases hin:i<nvl
 ·as_aux_lemma=>
   have hiv:i<vars.length:=by omega
   obtain⟨et,het,hT⟩:=hV.at i hiv;have htt:vars[i]?=some vars[i]:=Gg hiv
   have hwi:=hwd _ (Gm hiv);have hnw:∀ z,GrowR 1 WRow ((vars.take i).map (fun t=>List.replicate t.words.toNat 0)++[List.replicate vars[i].words.toNat 0]) z->GrowR 1 WRow ((vars.take (i+1)).map fun t=>List.replicate t.words.toNat 0) z:=fun z h=>by rw[take_snoc htt,List.map_append];exact h
   have hnk:∀ z,GrowR 3 KnR ((List.range i).map (fun(i:Nat)=>(⟨(i:Int),0,true⟩:TKn))++[⟨(i:Int),0,true⟩]) z->GrowR 3 KnR ((List.range (i+1)).map fun(i:Nat)=>(⟨(i:Int),0,true⟩:TKn)) z:=fun z h=>by rw[List.range_succ,List.map_append];exact h
   have hlw:((vars.take i).map fun t=>List.replicate t.words.toNat (0:Int)).length<=6000:=by rw[List.length_map,List.length_take];omega
   have hlk:((List.range i).map fun(i:Nat)=>(⟨(i:Int),0,true⟩:TKn)).length<=6000:=by rw[List.length_map,List.length_range];omega
   generalize vars[i]=t at*
   obtain⟨tname,⟨tkind,tn,ttn⟩,words,fields⟩:=t;obtain⟨_,rfl,⟨ntf,tfs,ntl,rfl,_⟩⟩:=hT;simp only at hwi hnw;obtain⟨wn,rfl,hwn⟩:∃ wn:Nat,words=Int.ofNat wn/\wn<=16:=⟨words.toNat,by simp only[Int.ofNat_eq_natCast];omega,by omega⟩;generalize (vars.take i).map (fun t=>List.replicate t.words.toNat (0:Int))=pw at*
   generalize (List.range i).map (fun(i:Nat)=>(⟨(i:Int),0,true⟩:TKn))=pk at*
   have hW3:RowR IntR (List.replicate wn 0) (List.replicate wn [.v (.int .i64 0)]):=RowR.replicate (R:=IntR) rfl wn;rcases har with rfl|⟨nar,ear,rfl⟩
   all_goals
    rcases hGw with⟨rfl,hqw⟩|⟨rw',nw,rfl,hwl2,hwn2,hwR⟩
   all_goals
    rcases hGk with⟨rfl,hqk⟩|⟨rk,nk,rfl,hkl,hkn,hkR⟩
   all_goals
    refine W.norm (k:=?_);unfold l58_3 ki kb vi mt mw fa ft ll iz ov oo
    repeat' (first|refine W.seq ?_|refine W.block ?_|refine W.skip ?_|(refine W.condL (h:=?_);change W _ _ _ _)|refine W.regS ?_|refine WS.done ?_|refine WS.stoApp (h:=fun r hr=>?_)|refine WS.pre (k:=?_)|refine WS.len (h:=?_)|(refine WS.cmp (k1:=fun h=>?_) (k2:=fun h=>?_)<;>simp only[Zq]at h<;>(try(exfalso;omega)))|refine WS.inc (h:=?_)|refine WS.app (h:=?_)|refine WS.consN (k:=?_)|refine W.beginD (h:=?_)|(refine WD.done ⟨_,by cbv;first|done|fail,?_⟩;dsimp only)|refine WD.stoApp (h:=fun r hr=>?_)|refine WD.pre (k:=?_)|refine WD.iaddr (h:=?_)|refine WD.app (h:=?_)|refine WD.oneN (k:=?_)|refine WD.mk' (k:=fun r hr=>?_)|fail)
   all_goals
    refine⟨by omega,(_,_),by cbv,hnw _ ?_,hnk _ ?_⟩
    ·first
      |exact growR_snoc (R:=WRow) (repW (by assumption)) hwR (by assumption)
      |exact growR_one (R:=WRow) (repW (by assumption)) hqw
    ·first
      |exact growR_snoc (R:=KnR) rfl hkR (by assumption)
      |exact growR_one (R:=KnR) rfl hqk
 ·have hk':vars.take i=vars:=List.take_of_length_le (by omega);obtain rfl:i=nvl:=by omega
  rw[hk']at hGw;have hx:=hex yw yk hGw hGk
  have hyw:=hGw.inert;have hyk:=hGk.inert
  rcases har with rfl|⟨nar,ear,rfl⟩
  all_goals
   refine W.norm (k:=?_);unfold l58_3 ki kb vi mt mw fa ft ll iz ov oo
   repeat' (first|refine W.seq ?_|refine W.exit ?_|(refine W.condL (h:=?_);change W _ _ _ _)|refine W.regS ?_|refine WS.done ?_|refine WS.pre (k:=?_)|refine WS.len (h:=?_)|(refine WS.cmp (k1:=fun h=>?_) (k2:=fun h=>?_)<;>simp only[Zq]at h<;>(try(exfalso;omega)))|fail)
   exact kA _ _ hx
theorem set_rep(n j:Nat)(a:Int):(List.replicate n a).set j a=List.replicate n a:=by
 apply List.ext_getElem?;intro i
 by_cases h:j=i
 ·subst h
  by_cases hj:j<n
  ·rw[List.getElem?_set_self (by rw[List.length_replicate];exact hj),List.getElem?_replicate,if_pos hj]
  ·rw[List.getElem?_eq_none (by rw[List.length_set,List.length_replicate];omega),List.getElem?_eq_none (by rw[List.length_replicate];omega)]
 ·rw[List.getElem?_set_ne h]
theorem callI2{nf:Bool}{fs:List (List A)}{main:Int}{np:Bool}{ps ws:List (List A)}{ni:Bool}{ei:List (List A)}{fuel left:Int}{l:A}{over long:Bool}{first:Int}{n:Nat}{name:ByteArray}{params:Int}{result nv:Bool}{vs:List (List A)}{nb:Bool}{bs:List (List A)}{size deep:Int}{ar:A}{r:List (List A)}{Q:Ex->St->Prop}{yw yk:A}{nvl sz:Nat}(har:ar= .v (.slice none 0 0)\/ ∃nar ear,ar= .imm nar 1 ear)(hr:RowR IntR (List.replicate sz 0) r)(hf0:first=0)(hsz:sz<=600000)
  (hex:∀ q,RowR IntR (List.replicate sz 0) q->Q (.exit 2) ⟨[.pt 0 0,.v (.int .i64 (Int.ofNat n)),ar,.v (.int .i64 deep),.v (.int .i64 0),.pt 1 0,.v (.bool false),.v (.int .i64 (Int.ofNat nvl)),.v (.bool false),.pt 2 0,.v (.int .i64 (Int.ofNat sz)),.v (.bool false),.ud,.ud,.ud,.ud,.ud,.ud,.ud,.ud,.ud,.ud,.ud,.ud,.ud],[],[.cells [.imm nf 6 fs,.v (.int .i64 main),.imm np 3 ps,.own 1 ws,.imm ni 1 ei,.v (.int .i64 fuel),.v (.int .i64 left),l,.v (.bool over),.v (.bool long),.v (.int .i64 first)],.cells [.v (.string name),.v (.int .i64 params),.v (.bool result),.imm nv 6 vs,.imm nb 5 bs,.v (.int .i64 size)],.cells [.v (.int .i64 (Int.ofNat n)),.v (.string name),.v (.int .i64 params),.v (.bool result),.imm nv 6 vs,.imm nb 5 bs,.v (.int .i64 size),ar,.own 1 q,yw,yk]]⟩):
  W E (.loop [11] l58_2) ⟨[.pt 0 0,.v (.int .i64 (Int.ofNat n)),ar,.v (.int .i64 deep),.v (.int .i64 0),.pt 1 0,.v (.bool false),.v (.int .i64 (Int.ofNat nvl)),.v (.bool false),.pt 2 0,.v (.int .i64 0),.ud,.ud,.ud,.ud,.ud,.ud,.ud,.ud,.ud,.ud,.ud,.ud,.ud,.ud],[],[.cells [.imm nf 6 fs,.v (.int .i64 main),.imm np 3 ps,.own 1 ws,.imm ni 1 ei,.v (.int .i64 fuel),.v (.int .i64 left),l,.v (.bool over),.v (.bool long),.v (.int .i64 first)],.cells [.v (.string name),.v (.int .i64 params),.v (.bool result),.imm nv 6 vs,.imm nb 5 bs,.v (.int .i64 size)],.cells [.v (.int .i64 (Int.ofNat n)),.v (.string name),.v (.int .i64 params),.v (.bool result),.imm nv 6 vs,.imm nb 5 bs,.v (.int .i64 size),ar,.own 1 r,yw,yk]]⟩ Q:=by
 subst hf0;have hrl:=hr.len
 rw[List.length_replicate]at hrl;refine W.forA sz (fun i (z:A) σ=>sn 10 i (sb 2 8 z σ)) (fun i z=> ∃q,z= .own 1 q/\RowR IntR (List.replicate sz 0) q) 0 (Nat.zero_le _) ?_ ?_
 ·exact⟨_,by cbv,_,rfl,hr⟩
 rintro QA kA i z hi ⟨q0,rfl,hq0⟩;have hql:=hq0.len
 rw[List.length_replicate]at hql
 by_cases hin:i<sz
 ·obtain⟨e0,he0,hR0⟩:=hq0.at i (by rw[List.length_replicate];exact hin);generalize (List.replicate sz (0:Int))[i]'(by rw[List.length_replicate];exact hin)=v0 at hR0;obtain rfl:e0=[.v (.int .i64 v0)]:=hR0;have hiq:i<q0.length:=by omega
  have hnx:RowR IntR (List.replicate sz 0) (q0.set i [.v (.int .i64 0)]):=by
   have h:=hq0.set (R:=IntR) i (x:=0) (e:=[.v (.int .i64 0)]) rfl;rw[set_rep]at h;exact h
  rcases har with rfl|⟨nar,ear,rfl⟩
  all_goals
   refine W.norm (k:=?_);unfold l58_2 ki mt mw fa ll iz ov oo
   repeat' (first|refine W.seq ?_|refine W.block ?_|refine W.skip ?_|(refine W.condL (h:=?_);change W _ _ _ _)|refine W.regS ?_|refine WS.done ?_|refine WS.pre (k:=?_)|refine WS.lenO (k:=?_)|(refine WS.cmp (k1:=fun h=>?_) (k2:=fun h=>?_)<;>simp only[Zq]at h<;>(try(exfalso;omega)))|refine WS.inc (h:=?_)|refine WS.consN (k:=?_)|refine W.beginD (h:=?_)|(refine WD.done ⟨_,by cbv;first|done|fail,?_⟩;dsimp only)|refine WD.stoP (k:=fun q hq=>?_)|refine WD.pre (k:=?_)|refine WD.iaddrO (h:=?_)|fail)
   refine⟨by omega,_,by cbv,_,rfl,?_⟩;rw[<-hq];exact hnx
 ·obtain rfl:i=sz:=by omega
  have hx:=hex q0 hq0;rcases har with rfl|⟨nar,ear,rfl⟩
  all_goals
   refine W.norm (k:=?_);unfold l58_2 ki mt mw fa ll iz ov oo
   repeat' (first|refine W.seq ?_|refine W.exit ?_|(refine W.condL (h:=?_);change W _ _ _ _)|refine W.regS ?_|refine WS.done ?_|refine WS.pre (k:=?_)|refine WS.lenO (k:=?_)|(refine WS.cmp (k1:=fun h=>?_) (k2:=fun h=>?_)<;>simp only[Zq]at h<;>(try(exfalso;omega)))|fail)
   exact kA _ _ hx
def sB(b:Nat)(cs:List A)(σ:St):St:=⟨σ.vs,σ.ls,σ.bx.set b (.cells cs)⟩
theorem callIns{name:ByteArray}{params:Int}{result nv:Bool}{vs:List (List A)}{nb:Bool}{bs:List (List A)}{size deep nI szI:Int}{ar:A}{b:Nat}{from' way nvI:Int}{Q:Ex->St->Prop}{c:RunK}{d:FrK}{u:TUnit}{f:TFunc}{args:List Int}{call:Int->List Int->RS->Int×RS}{ins:List TIns}{is:List (List A)}{nin:Bool}{nil:Nat}{bk ba bt be:Int}{x:Fr}{s:RS}{rc fc:List A}(J:Nat->Fr->RS->Prop)
  (har:ar= .v (.slice none 0 0)\/ ∃nar ear,ar= .imm nar 1 ear) (hda:Inert d.args) (hblk:bs[b]?=some [.imm nin 7 is,.v (.int .u8 bk),.v (.int .i64 ba),.v (.int .i64 bt),.v (.int .i64 be)]) (hil:is.length=nil) (hnil:nil=ins.length) (hI:RowR InsR ins is) (hni:nil<=1000000)
  (hR:RunR c s rc) (hF:FrR d x fc) (hJ0:J 0 x s) (hJl:∀ q x' s',J q x' s'-> -1000000000000<=s'.left/\s'.left<=1000000000000)
  (hJphi:∀ (q:Nat) i x' s',ins[q]?=some i->i.op=47->J q x' s'->s'.over=false->J (q+1) x' {s' with left:=s'.left-1})
  (hJone:∀ (q:Nat) i x' s',ins[q]?=some i->i.op≠47->J q x' s'->s'.over=false->J (q+1) (oneP call u f args i x' {s' with left:=s'.left-1}).1 (oneP call u f args i x' {s' with left:=s'.left-1}).2)
  (hstep:∀ (q:Nat) i x' s' rc' fc' e,ins[q]?=some i->i.op≠47->J q x' s'->s'.over=false->RunR c {s' with left:=s'.left-1} rc'->FrR d x' fc'->InsR i e->WC E 65 [.pt 0 0,.pt 1 0,.agg e,.v (.int .i64 deep)] [.cells rc',.cells fc'] (OneR c d (oneP call u f args i x' {s' with left:=s'.left-1})))
  (hex:∀ rc' fc' x' s' (i:Nat),i<=nil->J i x' s'->RunR c s' rc'->FrR d x' fc'->insP call u f args ins x s=(x',s')->Q (.exit 6) ⟨[.pt 0 0,.v (.int .i64 nI),ar,.v (.int .i64 deep),.top,.pt 1 0,.v (.bool false),.v (.int .i64 nvI),.v (.bool false),.pt 2 0,.v (.int .i64 szI),.v (.bool false),.v (.bool true),.v (.bool false),.v (.int .i64 (Int.ofNat b)),.v (.int .i64 from'),.v (.int .i64 way),.v (.int .i64 (Int.ofNat i)),.v (.bool false),.top,.top,.top,.top,.top,.top],[],[.cells rc',.cells [.v (.string name),.v (.int .i64 params),.v (.bool result),.imm nv 6 vs,.imm nb 5 bs,.v (.int .i64 size)],.cells fc']⟩):
  W E (.loop [18,19] l58_0) ⟨[.pt 0 0,.v (.int .i64 nI),ar,.v (.int .i64 deep),.top,.pt 1 0,.v (.bool false),.v (.int .i64 nvI),.v (.bool false),.pt 2 0,.v (.int .i64 szI),.v (.bool false),.v (.bool true),.v (.bool false),.v (.int .i64 (Int.ofNat b)),.v (.int .i64 from'),.v (.int .i64 way),.v (.int .i64 0),.top,.top,.top,.top,.top,.top,.top],[],[.cells rc,.cells [.v (.string name),.v (.int .i64 params),.v (.bool result),.imm nv 6 vs,.imm nb 5 bs,.v (.int .i64 size)],.cells fc]⟩ Q:=by
 refine W.forA nil (fun i (z:List A×List A) σ=>sn 17 i (sB 0 z.1 (sB 2 z.2 σ))) (fun i z=> ∃x' s',J i x' s'/\RunR c s' z.1/\FrR d x' z.2/\insP call u f args ins x s=insP call u f args (ins.drop i) x' s') 0 (Nat.zero_le _) ?_ ?_
 ·exact⟨(rc,fc),by cbv,x,s,hJ0,hR,hF,rfl⟩
 rintro QA kA i ⟨rc1,fc1⟩ hi ⟨x',s',hJ,hR',hF',hP⟩;simp only at hR' hF';have hl:=hJl _ _ _ hJ
 have hR1:=hR';have hF1:=hF'
 have hi1:=RunR.inert hR';have hi2:=FrR.inert hF' hda
 obtain⟨nf,fs,main,np,ps,ws,first⟩:=c;obtain⟨dn,dname,dparams,dresult,dnv,dvs,dnb,dbs,dsize,dar⟩:=d;obtain⟨a2,l2,rfl,ha2,hl2⟩:=hR';obtain⟨r2,w2,k2,rfl,hv2,hw2,hk2⟩:=hF';obtain⟨inp,fuel,left,ev,over,long⟩:=s';simp only at hl ha2 hl2;simp only[RunK.cells,FrK.cells]at hi1 hi2 hR1 hF1 ⊢
 by_cases hin:i<nil
 ·have hii:i<ins.length:=by omega
  obtain⟨ex,hex',hXR⟩:=hI.at i hii;have hxx:ins[i]?=some ins[i]:=Gg hii
  have hdr:ins.drop i=ins[i]::ins.drop (i+1):=List.drop_eq_getElem_cons hii;rw[hdr,insP]at hP;generalize ins[i]=x1 at*
  have hXR0:=hXR;obtain⟨op,dst,xa,xb,var,num,as'⟩:=x1;obtain⟨_,rfl,⟨na,as,nal,rfl,hal,h6,hA,_⟩⟩:=hXR;cases over
  ·simp only[Bool.false_eq_true,if_false]at hP
   by_cases h47:op=47
   ·simp only[if_pos h47]at hP;have hJn:=hJphi _ _ _ _ hxx h47 hJ rfl
    rcases har with rfl|⟨nar,ear,rfl⟩
    all_goals
     refine W.norm (k:=?_);unfold l58_0 ki kb mt mw fa ft ll lg iz og ov oo
     repeat' (first|refine W.seq ?_|refine W.block ?_|refine W.skip ?_|(refine W.condL (h:=?_);change W _ _ _ _)|refine W.regS ?_|refine WS.done ?_|refine WS.pre (k:=?_)|refine WS.len (h:=?_)|refine WS.iaddr (h:=?_)|(refine WS.cmp (k1:=fun h=>?_) (k2:=fun h=>?_)<;>simp only[Zq]at h<;>(try(exfalso;omega)))|refine WS.inc (h:=?_)|refine WS.consN (k:=?_)|(refine WS.sbt (h:=fun c hc=>?_)<;>(try simp only[oC]at hc))|fail)
    all_goals
     simp only[hc]at hJn hP;exact⟨by omega,(_,_),by cbv,_,_,hJn,⟨a2,l2,rfl,ha2,hl2⟩,hF1,hP⟩
   ·simp only[if_neg h47]at hP;have hJn:=hJone _ _ _ _ hxx h47 hJ rfl
    have hst:=fun rc' h=>hstep _ _ _ _ rc' _ _ hxx h47 hJ rfl h hF1 hXR0;rcases har with rfl|⟨nar,ear,rfl⟩
    all_goals
     refine W.norm (k:=?_);unfold l58_0 ki kb mt mw fa ft ll lg iz og ov oo
     repeat' (first|refine W.seq ?_|refine W.block ?_|refine W.skip ?_|refine W.frz (k:=?_)|(refine W.condL (h:=?_);change W _ _ _ _)|refine W.regS ?_|refine WS.done ?_|refine WS.pre (k:=?_)|refine WS.len (h:=?_)|refine WS.iaddr (h:=?_)|(refine WS.cmp (k1:=fun h=>?_) (k2:=fun h=>?_)<;>simp only[Zq]at h<;>(try(exfalso;omega)))|refine WS.consN (k:=?_)|(refine WS.sbt (h:=fun c hc=>?_)<;>(try simp only[oC]at hc))|fail)
     simp only[hc]at hJn hP hst;have hRc:RunR ⟨nf,fs,main,np,ps,ws,first⟩ ⟨inp,fuel,c,ev,false,long⟩ _:=⟨a2,l2,rfl,ha2,hl2⟩
     refine WS.call2 (i1:=RunR.inert hRc) (i2:=hi2) (hc:=hst _ hRc) (kq:=?_);rintro _ _ ⟨rfl,e1,e2,more,rfl,hRn,hFn⟩;have hj1:=RunR.inert hRn
     have hj2:=FrR.inert hFn hda;have hRn1:=hRn
     have hFn1:=hFn;obtain⟨a3,l3,rfl,ha3,hl3⟩:=hRn;obtain⟨r3,w3,k3,rfl,hv3,hw3,hk3⟩:=hFn;refine⟨_,_,_,rfl,hj1,hj2,rfl,fun _=>rfl,_,_,by cbv;first|done|fail,by cbv;first|done|fail,?_⟩
     repeat' (first|refine W.regS ?_|refine WS.done ?_|refine WS.pre (k:=?_)|refine WS.inc (h:=?_)|refine WS.consN (k:=?_)|fail)
     exact⟨by omega,(_,_),by cbv,_,_,hJn,hRn1,hFn1,hP⟩
  ·simp only[if_true]at hP;have hx:=hex _ _ _ _ i hi hJ hR1 hF1 hP
   rcases har with rfl|⟨nar,ear,rfl⟩
   all_goals
    refine W.norm (k:=?_);unfold l58_0 ki kb mt mw fa ft ll lg iz og ov oo
    repeat' (first|refine W.seq ?_|refine W.exit ?_|(refine W.condL (h:=?_);change W _ _ _ _)|refine W.regS ?_|refine WS.done ?_|refine WS.pre (k:=?_)|refine WS.len (h:=?_)|refine WS.iaddr (h:=?_)|(refine WS.cmp (k1:=fun h=>?_) (k2:=fun h=>?_)<;>simp only[Zq]at h<;>(try(exfalso;omega)))|fail)
    exact kA _ _ hx
 ·have hd0:ins.drop i=[]:=List.drop_eq_nil_of_le (by omega);rw[hd0,insP]at hP;have hx:=hex _ _ _ _ i hi hJ hR1 hF1 hP
  rcases har with rfl|⟨nar,ear,rfl⟩
  all_goals
   refine W.norm (k:=?_);unfold l58_0 ki kb mt mw fa ft ll lg iz og ov oo
   repeat' (first|refine W.seq ?_|refine W.exit ?_|(refine W.condL (h:=?_);change W _ _ _ _)|refine W.regS ?_|refine WS.done ?_|refine WS.pre (k:=?_)|refine WS.len (h:=?_)|refine WS.iaddr (h:=?_)|(refine WS.cmp (k1:=fun h=>?_) (k2:=fun h=>?_)<;>simp only[Zq]at h<;>(try(exfalso;omega)))|fail)
   exact kA _ _ hx
/-- What holds of a round's instructions. -/
structure RoundP(c:RunK)(d:FrK)(u:TUnit)(f:TFunc)(args:List Int)(call:Int->List Int->RS->Int×RS)(deep:Int)(K:Fr->RS->Nat->Int->Int->Prop)(x:Fr)(s:RS)(b:Nat)(from' way:Int)(blk:TBlock):Prop where
 len:blk.ins.length<=1000000
 phis:∀ rc fc,RunR c {s with left:=s.left-1} rc->FrR d x fc->WC E 64 [.pt 0 0,.pt 1 0,.v (.int .i64 (Int.ofNat b)),.v (.int .i64 from'),.v (.int .i64 way)] [.cells rc,.cells fc] (OneR c d ({x with v:=phisP f ((waysF f).getD b []) from' way blk.ins x.v},{s with left:=s.left-1}))
 ins:∃ J:Nat->Fr->RS->Prop,J 0 {x with v:=phisP f ((waysF f).getD b []) from' way blk.ins x.v} {s with left:=s.left-1}/\
  (∀q x' s',J q x' s'-> -1000000000000<=s'.left/\s'.left<=1000000000000)/\
  (∀(q:Nat) i x' s',blk.ins[q]?=some i->i.op=47->J q x' s'->s'.over=false->J (q+1) x' {s' with left:=s'.left-1})/\
  (∀(q:Nat) i x' s',blk.ins[q]?=some i->i.op≠47->J q x' s'->s'.over=false->J (q+1) (oneP call u f args i x' {s' with left:=s'.left-1}).1 (oneP call u f args i x' {s' with left:=s'.left-1}).2)/\
  (∀(q:Nat) i x' s' rc' fc' e,blk.ins[q]?=some i->i.op≠47->J q x' s'->s'.over=false->RunR c {s' with left:=s'.left-1} rc'->FrR d x' fc'->InsR i e->WC E 65 [.pt 0 0,.pt 1 0,.agg e,.v (.int .i64 deep)] [.cells rc',.cells fc'] (OneR c d (oneP call u f args i x' {s' with left:=s'.left-1})))/\
  (∀ q x' s',J q x' s' -> insP call u f args blk.ins { x with v:=phisP f ((waysF f).getD b []) from' way blk.ins x.v } { s with left:=s.left - 1 } = (x',s') -> s'.over = false ->
    (blk.term.kind=3\/blk.term.kind=2->0<=blk.term.a->blk.term.a<x'.v.length)/\(blk.term.kind=2->0<=blk.term.a)/\
    (blk.term.kind≠3-> ∃t:Nat,blk.term.to=t/\K x' s' t b 0)/\(blk.term.kind=2-> ∃t:Nat,blk.term.els=t/\K x' s' t b 1))
theorem callLoop{name:ByteArray}{params:Int}{result nv:Bool}{vs:List (List A)}{nb:Bool}{bs:List (List A)}{size deep nI szI:Int}{ar:A}{nvI:Int}{Q:Ex->St->Prop}{c:RunK}{d:FrK}{u:TUnit}{f:TFunc}{args:List Int}{call:Int->List Int->RS->Int×RS}{k:Nat}{x:Fr}{s:RS}{rc fc:List A}(K:Nat->Fr->RS->Nat->Int->Int->Prop)
  (har:ar= .v (.slice none 0 0)\/ ∃nar ear,ar= .imm nar 1 ear) (hda:Inert d.args) (hB:RowR BlockR f.blocks bs)
  (hR:RunR c s rc) (hF:FrR d x fc) (hdeep:deep<=5000) (hK0:K 0 x s 0 (-1) 0)
  (hKl:∀ i x' s' b fr way,K i x' s' b fr way->s'.left<=(k:Int)-i/\ -1000000000000<=s'.left/\s'.left<=1000000000000/\s'.ev.length<=1000000000)
  (hround:∀ (i:Nat) x' s' b fr way,K i x' s' b fr way->s'.over=false->0<s'.left-> ∃blk,f.blocks[b]?=some blk/\RoundP c d u f args call deep (K (i+1)) x' s' b fr way blk)
  (hexit:∀ rc' fc' s' (b:Nat) (fr way:Int),RunR c s' rc'->loopP call u f args deep (k+1) x s 0 (-1) 0=(0,s')->Q (.exit 4) ⟨[.pt 0 0,.v (.int .i64 nI),ar,.v (.int .i64 deep),.top,.pt 1 0,.v (.bool false),.v (.int .i64 nvI),.v (.bool false),.pt 2 0,.v (.int .i64 szI),.v (.bool false),.v (.bool false),.top,.v (.int .i64 (Int.ofNat b)),.v (.int .i64 fr),.v (.int .i64 way),.top,.top,.top,.top,.top,.top,.top,.top],[],[.cells rc',.cells [.v (.string name),.v (.int .i64 params),.v (.bool result),.imm nv 6 vs,.imm nb 5 bs,.v (.int .i64 size)],.cells fc']⟩)
  (hret:∀ a0 a1 a2 a3 more rc' bx' s' v,RunR c s' rc'->loopP call u f args deep (k+1) x s 0 (-1) 0=(v,s')->Q .ret ⟨a0::a1::a2::a3:: .v (.int .i64 v)::more,[],.cells rc'::bx'⟩):
  W E (.loop [4,12,13,17,18,19,20,21,22,23,24] l58_1) ⟨[.pt 0 0,.v (.int .i64 nI),ar,.v (.int .i64 deep),.v (.int .i64 0),.pt 1 0,.v (.bool false),.v (.int .i64 nvI),.v (.bool false),.pt 2 0,.v (.int .i64 szI),.v (.bool false),.ud,.ud,.v (.int .i64 0),.v (.int .i64 (-1)),.v (.int .i64 0),.ud,.ud,.ud,.ud,.ud,.ud,.ud,.ud],[],[.cells rc,.cells [.v (.string name),.v (.int .i64 params),.v (.bool result),.imm nv 6 vs,.imm nb 5 bs,.v (.int .i64 size)],.cells fc]⟩ Q:=by
 refine W.forA k (fun _ (z:List A×List A×Nat×Int×Int) σ=>sn 14 z.2.2.1 (si 15 z.2.2.2.1 (si 16 z.2.2.2.2 (sB 0 z.1 (sB 2 z.2.1 σ))))) (fun i z=> ∃x' s',K i x' s' z.2.2.1 z.2.2.2.1 z.2.2.2.2/\RunR c s' z.1/\FrR d x' z.2.1/\loopP call u f args deep (k+1) x s 0 (-1) 0=loopP call u f args deep (k-i+1) x' s' z.2.2.1 z.2.2.2.1 z.2.2.2.2) 0 (Nat.zero_le _) ?_ ?_
 ·exact⟨(rc,fc,0,-1,0),by cbv,x,s,hK0,hR,hF,rfl⟩
 rintro QA kA i ⟨rc1,fc1,b,fr,way⟩ hi ⟨x',s',hK,hR',hF',hP⟩;simp only at hR' hF' hK hP;have hl:=hKl _ _ _ _ _ _ hK
 have hrd:=hround _ _ _ _ _ _ hK;have hR1:=hR'
 have hF1:=hF';have hi1:=RunR.inert hR'
 have hi2:=FrR.inert hF' hda
 conv at hP=>rhs;rw[loopP]
 obtain⟨nf,fs,main,np,ps,ws,first⟩:=c;obtain⟨dn,dname,dparams,dresult,dnv,dvs,dnb,dbs,dsize,dar⟩:=d;obtain⟨a2,l2,rfl,ha2,hl2⟩:=hR';obtain⟨r2,w2,k2,rfl,hv2,hw2,hk2⟩:=hF';obtain⟨inp,fuel,left,ev,over,long⟩:=s';simp only at hl ha2 hl2;simp only[RunK.cells,FrK.cells]at hi1 hi2 hR1 hF1 ⊢
 cases over
 case true=>
  simp only[if_true]at hP;have hx:=fun fc'=>hexit _ fc' _ b fr way hR1 hP
  rcases har with rfl|⟨nar,ear,rfl⟩
  all_goals
   refine W.norm (k:=?_);unfold l58_1 ki kb vi mt mw fa ft ll lg iz og ov oo
   repeat' (first|refine W.seq ?_|refine W.easy (k:=?_)|refine W.exit ?_|(refine W.condL (h:=?_);change W _ _ _ _)|fail)
   exact kA _ _ (hx _)
 case false=>
  simp only[Bool.false_eq_true,if_false]at hP
  by_cases h0:left<=0
  ·rw[if_pos (.inl h0)]at hP;rcases har with rfl|⟨nar,ear,rfl⟩
   all_goals
    refine W.norm (k:=?_);unfold l58_1 ki kb vi mt mw fa ft ll lg iz og ov oo
    repeat' (first|refine W.seq ?_|refine W.easy (k:=?_)|refine W.block ?_|refine W.skip ?_|(refine W.condL (h:=?_);change W _ _ _ _)|refine W.regS ?_|refine WS.done ?_|refine WS.pre (k:=?_)|(refine WS.guard (h:=?_);change WS _ _ _ _)|(refine WS.cmp (k1:=fun h=>?_) (k2:=fun h=>?_)<;>simp only[Zq]at h<;>(try(exfalso;omega)))|fail)
    have hRe:RunR ⟨nf,fs,main,np,ps,ws,first⟩ ⟨inp,fuel,left,ev,false,true⟩ _:=⟨a2,l2,rfl,ha2,hl2⟩;refine WS.call1 (i1:=RunR.inert hRe) (hc:=ends2 (k:=9) hRe (by simp only;omega)) (kq:=?_);rintro _ _ ⟨rfl,e1,rfl,hR2⟩;have hj1:=RunR.inert hR2
    have hR3:=hR2;obtain⟨a3,l3,rfl,ha3,hl3⟩:=hR2;refine⟨_,_,rfl,hj1,rfl,fun _=>rfl,_,_,by cbv;first|done|fail,by cbv;first|done|fail,?_⟩
    repeat' (first|refine W.seq ?_|refine W.easy (k:=?_)|refine W.ret ?_|refine WS.done ?_|fail)
    exact kA _ _ (hret _ _ _ _ _ _ _ _ _ hR3 hP)
  ·rw[if_neg (by omega)]at hP;obtain⟨blk,hblk,hRP⟩:=hrd rfl (by simp only;omega);rw[hblk]at hP;simp only at hP;have hbl:=(Ge hblk).1
   obtain⟨eb,heb,hBb⟩:=hB.at b hbl;have hbe:f.blocks[b]=blk:=by rw[Gg hbl]at hblk;exact Option.some.inj hblk
   rw[hbe]at hBb;obtain⟨_,rfl,⟨nin,is,nil,rfl,hil,hnil,hI,_⟩⟩:=hBb;obtain⟨ins,⟨bk,ba,bt,be⟩⟩:=blk;obtain⟨hlen,hph,J,hJ0,hJl,hJphi,hJone,hstep,hend⟩:=hRP;simp only at hlen hph hJ0 hJphi hJone hstep hend hP hnil hI heb;rcases har with rfl|⟨nar,ear,rfl⟩
   all_goals
    refine W.norm (k:=?_);unfold l58_1 ki kb vi mt mw fa ft ll lg iz og ov oo
    repeat' (first|refine W.seq ?_|refine W.easy (k:=?_)|refine W.block ?_|refine W.skip ?_|(refine W.condL (h:=?_);change W _ _ _ _)|refine W.regS ?_|refine WS.done ?_|refine WS.pre (k:=?_)|(refine WS.guard (h:=?_);change WS _ _ _ _)|(refine WS.cmp (k1:=fun h=>?_) (k2:=fun h=>?_)<;>simp only[Zq]at h<;>(try(exfalso;omega)))|refine WS.consN (k:=?_)|(refine WS.sbt (h:=fun c hc=>?_)<;>(try simp only[oC]at hc))|fail)
    simp only[hc]at hph hJ0 hend hP;have hRc:RunR ⟨nf,fs,main,np,ps,ws,first⟩ ⟨inp,fuel,c,ev,false,long⟩ _:=⟨a2,l2,rfl,ha2,hl2⟩
    refine WS.call2 (i1:=RunR.inert hRc) (i2:=hi2) (hc:=hph _ _ hRc hF1) (kq:=?_);rintro _ _ ⟨rfl,e1,e2,more,rfl,hRn,hFn⟩;simp only at hRn hFn;have hj1:=RunR.inert hRn
    have hj2:=FrR.inert hFn hda;have hRn1:=hRn
    have hFn1:=hFn;obtain⟨a3,l3,rfl,ha3,hl3⟩:=hRn;obtain⟨r3,w3,k3,rfl,hv3,hw3,hk3⟩:=hFn;refine⟨_,_,_,rfl,hj1,hj2,rfl,fun _=>rfl,_,_,by cbv;first|done|fail,by cbv;first|done|fail,?_⟩
    repeat' (first|refine W.seq ?_|refine W.easy (k:=?_)|refine W.block ?_|refine WS.done ?_|fail)
    refine callIns J (by first|exact .inl rfl|exact .inr ⟨_,_,rfl⟩) hda heb hil hnil hI (by omega) hRn1 hFn1 hJ0 hJl hJphi hJone hstep ?_;intro rc4 fc4 x4 s4 q4 hq4 hJ4 hR4 hF4 hins;have hj4:=RunR.inert hR4
    have hj5:=FrR.inert hF4 hda;have hR5:=hR4
    have hF5:=hF4;obtain⟨a4,l4,rfl,ha4,hl4⟩:=hR4;obtain⟨r4,w4,k4,rfl,hv4,hw4,hk4⟩:=hF4;rw[hins]at hP;simp only at hP;have hE:=hend _ _ _ hJ4 hins
    obtain⟨inp4,fuel4,left4,ev4,over4,long4⟩:=s4;simp only[RunK.cells,FrK.cells]at hj4 hj5 hR5 hF5 ⊢
    cases over4
    case true=>
     simp only[if_true]at hP;refine W.norm (k:=?_)
     repeat' (first|refine W.seq ?_|refine W.easy (k:=?_)|refine W.ret ?_|(refine W.condL (h:=?_);change W _ _ _ _)|fail)
     exact kA _ _ (hret _ _ _ _ _ _ _ _ _ hR5 hP)
    case false=>
     simp only[Bool.false_eq_true,if_false]at hP;obtain⟨g1,g2,g3,g4⟩:=hE rfl
     by_cases hk3:bk=3
     ·simp only[if_pos hk3]at hP
      by_cases ha0:0<=ba
      ·rw[if_pos ha0]at hP;obtain⟨ja,rfl,hja⟩:=intOf ⟨ha0,g1 (.inl hk3) ha0⟩;obtain⟨ea,hea,hRa⟩:=hv4.at ja hja
       have hga:gi x4.v (Int.ofNat ja)=x4.v[ja]:=by
        unfold gi;rw[show(Int.ofNat ja).toNat=ja from rfl,List.getD_eq_getElem?_getD,Gg hja,Option.getD_some]
       rw[hga]at hP;generalize x4.v[ja]=va at*
       obtain rfl:ea=[.v (.int .i64 va)]:=hRa;have hrl:=hv4.len
       refine W.norm (k:=?_)
       repeat' (first|refine W.seq ?_|refine W.easy (k:=?_)|refine W.skip ?_|refine W.ret ?_|(refine W.condL (h:=?_);change W _ _ _ _)|refine W.regS ?_|refine WS.done ?_|refine WS.pre (k:=?_)|refine WS.iaddr (h:=?_)|(refine WS.cmp (k1:=fun h=>?_) (k2:=fun h=>?_)<;>simp only[Zq]at h<;>(try(exfalso;omega)))|refine WS.consN (k:=?_)|refine W.beginD (h:=?_)|(refine WD.done ⟨_,by cbv;first|done|fail,?_⟩;dsimp only)|refine WD.loadP (h:=?_)|refine WD.pre (k:=?_)|refine WD.iaddrO (h:=?_)|refine WD.oneN (k:=?_)|fail)
       exact kA _ _ (hret _ _ _ _ _ _ _ _ _ hR5 hP)
      ·rw[if_neg ha0]at hP;refine W.norm (k:=?_)
       repeat' (first|refine W.seq ?_|refine W.easy (k:=?_)|refine W.skip ?_|refine W.ret ?_|(refine W.condL (h:=?_);change W _ _ _ _)|refine W.regS ?_|refine WS.done ?_|refine WS.pre (k:=?_)|refine WS.iaddr (h:=?_)|(refine WS.cmp (k1:=fun h=>?_) (k2:=fun h=>?_)<;>simp only[Zq]at h<;>(try(exfalso;omega)))|refine WS.consN (k:=?_)|fail)
       exact kA _ _ (hret _ _ _ _ _ _ _ _ _ hR5 hP)
     ·simp only[if_neg hk3]at hP
      by_cases hk2:bk=2
      ·subst hk2;have ha0:=g2 rfl
       obtain⟨ja,rfl,hja⟩:=intOf ⟨ha0,g1 (.inr rfl) ha0⟩;obtain⟨ea,hea,hRa⟩:=hv4.at ja hja
       have hga:gi x4.v (Int.ofNat ja)=x4.v[ja]:=by
        unfold gi;rw[show(Int.ofNat ja).toNat=ja from rfl,List.getD_eq_getElem?_getD,Gg hja,Option.getD_some]
       rw[hga]at hP;generalize x4.v[ja]=va at*
       obtain rfl:ea=[.v (.int .i64 va)]:=hRa;have hrl:=hv4.len
       obtain⟨t0,rfl,hK0'⟩:=g3 (by decide);obtain⟨t1,rfl,hK1'⟩:=g4 rfl
       by_cases hz:va=0
       ·subst hz;simp only[and_self,if_true]at hP;refine W.norm (k:=?_)
        repeat' (first|refine W.seq ?_|refine W.easy (k:=?_)|refine W.skip ?_|(refine W.condL (h:=?_);change W _ _ _ _)|refine W.regS ?_|refine WS.done ?_|refine WS.pre (k:=?_)|refine WS.iaddr (h:=?_)|(refine WS.cmp (k1:=fun h=>?_) (k2:=fun h=>?_)<;>simp only[Zq]at h<;>(try(exfalso;omega)))|refine WS.consN (k:=?_)|refine W.beginD (h:=?_)|(refine WD.done ⟨_,by cbv;first|done|fail,?_⟩;dsimp only)|refine WD.loadP (h:=?_)|refine WD.pre (k:=?_)|(refine WD.guard (h:=?_);change WD _ _ _ _ _ _ _ _)|refine WD.iaddrO (h:=?_)|(refine WD.cmp (k1:=fun h=>?_) (k2:=fun h=>?_)<;>simp only[Zq]at h<;>(try(exfalso;omega)))|fail)
        refine tr_leaf (by omega) (x':=(_,_,_,_,_)) ⟨_,_,hK1',hR5,hF5,by rw[hP,show k-(i+1)+1=k-i from by omega];rfl⟩ ?_;show St.clr _ (St.trunc 3 ⟨_,_,_::_::_::_::[]⟩)=_
        rw[trunc3 (InertC.tr hj4 3) (InertC.tr (by repeat' (first|exact InertC.nil|refine InertC.cons ?_ ?_|exact Inert.v _|exact Inert.imm _ _ _|exact Inert.own _ _|assumption)) 3) (InertC.tr hj5 3)];cbv
       ·rw[if_neg (fun h=>hz h.2)]at hP;refine W.norm (k:=?_)
        repeat' (first|refine W.seq ?_|refine W.easy (k:=?_)|refine W.skip ?_|(refine W.condL (h:=?_);change W _ _ _ _)|refine W.regS ?_|refine WS.done ?_|refine WS.pre (k:=?_)|refine WS.iaddr (h:=?_)|(refine WS.cmp (k1:=fun h=>?_) (k2:=fun h=>?_)<;>simp only[Zq]at h<;>(try(exfalso;omega)))|refine WS.consN (k:=?_)|refine W.beginD (h:=?_)|(refine WD.done ⟨_,by cbv;first|done|fail,?_⟩;dsimp only)|refine WD.loadP (h:=?_)|refine WD.pre (k:=?_)|(refine WD.guard (h:=?_);change WD _ _ _ _ _ _ _ _)|refine WD.iaddrO (h:=?_)|(refine WD.cmp (k1:=fun h=>?_) (k2:=fun h=>?_)<;>simp only[Zq]at h<;>(try(exfalso;omega)))|fail)
        refine tr_leaf (by omega) (x':=(_,_,_,_,_)) ⟨_,_,hK0',hR5,hF5,by rw[hP,show k-(i+1)+1=k-i from by omega];rfl⟩ ?_;show St.clr _ (St.trunc 3 ⟨_,_,_::_::_::_::[]⟩)=_
        rw[trunc3 (InertC.tr hj4 3) (InertC.tr (by repeat' (first|exact InertC.nil|refine InertC.cons ?_ ?_|exact Inert.v _|exact Inert.imm _ _ _|exact Inert.own _ _|assumption)) 3) (InertC.tr hj5 3)];cbv
      ·rw[if_neg (fun h=>hk2 h.1)]at hP;obtain⟨t0,rfl,hK0'⟩:=g3 hk3;refine W.norm (k:=?_)
       repeat' (first|refine W.seq ?_|refine W.easy (k:=?_)|refine W.skip ?_|(refine W.condL (h:=?_);change W _ _ _ _)|refine W.regS ?_|refine WS.done ?_|refine WS.pre (k:=?_)|refine WS.iaddr (h:=?_)|(refine WS.cmp (k1:=fun h=>?_) (k2:=fun h=>?_)<;>simp only[Zq]at h<;>(try(exfalso;omega)))|refine WS.consN (k:=?_)|refine W.beginD (h:=?_)|(refine WD.done ⟨_,by cbv;first|done|fail,?_⟩;dsimp only)|refine WD.pre (k:=?_)|(refine WD.guard (h:=?_);change WD _ _ _ _ _ _ _ _)|(refine WD.cmp (k1:=fun h=>?_) (k2:=fun h=>?_)<;>simp only[Zq]at h<;>(try(exfalso;omega)))|fail)
       refine tr_leaf (by omega) (x':=(_,_,_,_,_)) ⟨_,_,hK0',hR5,hF5,by rw[hP,show k-(i+1)+1=k-i from by omega];rfl⟩ ?_;show St.clr _ (St.trunc 3 ⟨_,_,_::_::_::_::[]⟩)=_
       rw[trunc3 (InertC.tr hj4 3) (InertC.tr (by repeat' (first|exact InertC.nil|refine InertC.cons ?_ ?_|exact Inert.v _|exact Inert.imm _ _ _|exact Inert.own _ _|assumption)) 3) (InertC.tr hj5 3)];cbv
end Go.Ab.Ytkmmpbmmmbebgaa
