/- The abstract machine and its soundness, part 1: what it says of the model's runs holds for every program whose functions it has. -/
import Derived.Orders
import Derived.Laws.OwnMore
import Derived.Below
import Derived.Laws.Strings
import Derived.Laws.Concat
set_option linter.all false
section
namespace Go.Ab
theorem Oe{α:Type}(a b:α):(some a=some b)=(a=b):=Option.some.injEq a b
theorem Ge{α:Type}{l:List α}{i:Nat}{a:α}(h:l[i]?=some a): ∃h:i<l.length,l[i]=a:=List.getElem?_eq_some_iff.1 h
theorem Gg{α:Type}{l:List α}{i:Nat}(h:i<l.length):l[i]?=some l[i]:=List.getElem?_eq_getElem h
theorem Mg{α:Type}{l:List α}{i:Nat}{a:α}(h:l[i]?=some a):a∈l:=List.mem_of_getElem? h
theorem Gm{α:Type}{l:List α}{i:Nat}(h:i<l.length):l[i]∈l:=List.getElem_mem h
inductive Rt where
 |var (t:Nat)|loc (k:Nat)|box (b c:Nat)|hand (k:Nat)
 deriving DecidableEq,Repr,Inhabited
structure Pl where
 r:Rt
 s:List (Nat×Nat)
 deriving DecidableEq,Repr,Inhabited
def Pl.at(p:Pl)(i c:Nat):Pl:=⟨p.r,p.s++[(i,c)]⟩
inductive A where
 |un
 |v (x:Value)
 |imm (nl:Bool) (z:Nat) (es:List (List A)) -- nobody's;nl:it is nil
 |own (z:Nat) (es:List (List A))
 |bld (z:Nat) (es:List (List A))
 |app (z:Nat) (p:Pl) (cs:List (Bool×List (List A)))
 |sref (p:Pl)
 |sub (p:Pl) (lo hi:Nat)
 |pref (p:Pl) (i c:Nat)
 |pimm (cs:List A)
 |pt (b c:Nat)
 |agg (cs:List A)
 |tup (vs:List A)
 |clo (f:Nat) (first caps:List A)
 |ifc (t:Nat) (x:A)
 |mp (b:Nat)
 |ud -- the value of an operation that was not wanted
 |top -- anything
 deriving Inhabited
def A.int(n:Int):A:=.v (.int .i64 n)
def A.bool(b:Bool):A:=.v (.bool b)
def A.nil:A:=.v (.slice none 0 0)
inductive Opd where
 |t (n:Nat)|l (k:Nat)|k (a:A)
 deriving Inhabited
inductive EK where
 |bool|ptr|slice|struct (fs:List (Nat×Nat))
 deriving Inhabited
inductive AOp where
 |move (x:Opd)
 |pick (c a b:Opd)
 |box (x:Opd)
 |alloc (z:List A)
 |build (z:List A) (ps:List (Nat×Nat×Opd))
 |bslice (z:Nat) (zero:List A) (n:Nat) (ps:List (Nat×Nat×Opd))
 |load (agg:Bool) (n:Nat) (x:Opd)
 |store (agg:Bool) (n:Nat) (x y:Opd)
 |nilchk (x:Opd)
 |bin (op:BinOp) (x y:Opd)
 |eq (neg:Bool) (k:EK) (x y:Opd)
 |un (op:UnOp) (x:Opd)
 |conv (k:IntKind) (x:Opd)
 |b2s (x:Opd)
 |s2b (x:Opd)
 |mk (z:Nat) (zero:List A) (bytes:Nat) (l c:Opd)
 |sub (z:Nat) (x:Opd) (lo hi mx:Option Opd)
 |faddr (off:Nat) (x:Opd)
 |fld (agg:Bool) (off n:Nat) (x:Opd)
 |iaddr (z:Nat) (x i:Opd)
 |sidx (x i:Opd)
 |ext (i:Nat) (x:Opd)
 |call (f:Nat) (args:List Opd)
 |callv (x:Opd) (args:List Opd)
 |len (k:Nat) (x:Opd) -- k:0 a slice's,1 a string's,2 a map's
 |ssub (x:Opd) (lo hi:Option Opd)
 |app (z bytes:Nat) (s x:Opd)
 |mx (xs:List Opd)
 |mn (xs:List Opd)
 |mkclo (f:Nat) (first caps:List Opd)
 |ifc (t:Nat) (x:Opd)
 |mkmap
 |look (kk:Nat) (zero:A) (x k:Opd) (ok:Bool) -- kk:0 the keys are ints,1 strings,2 bools
 |mapup (kk:Nat) (m k x:Opd)
 |del (m k:Opd)
 |dies
 deriving Inhabited
inductive Dst where
 |loc|var (n:Nat)
 deriving Inhabited,DecidableEq
structure AOper where
 dst:Dst
 op:AOp
 guard:Option (Opd×Bool)
 deriving Inhabited
inductive AC where
 |skip
 |reg (ops:List AOper) (dr:Option (List (List Nat)×List (Option Nat))) -- of a region that draws its order:behind which operations each one stands,and which variable it sets behind the region
 |frz (n:Nat) (zs:List Nat) -- what variable n holds,or its box,is given away (no step of the machine's)
 |seq (a b:AC)
 |cond (c:Opd) (a b:AC)
 |block (id:Nat) (c:AC)
 |loop (dead:List Nat) (c:AC)
 |exit (id:Nat)
 |scope (body c:AC)
 |label (l:Nat)
 |goto (l:Nat)
 |ret
 |no
 deriving Inhabited
inductive ARes where
 |var (t:Nat)|cell (t:Nat) (agg:Bool) (n:Nat)
 deriving Inhabited
structure AF where
 np:Nat
 nv:Nat
 body:AC
 res:List ARes
 deriving Inhabited
inductive Bx where
 |cells (cs:List A)
 |map (es:List (Value×A))
 |gone
 deriving Inhabited
structure St where
 vs:List A
 ls:List A
 bx:List Bx
 deriving Inhabited
def child:A->Nat×Nat->Option A
 | .own _ es,(i,c)=>match es[i]? with|some e=>e[c]?|none=>none
 | .bld _ es,(i,c)=>match es[i]? with|some e=>e[c]?|none=>none
 | .agg cs,(0,c)=>cs[c]?
 | .tup vs,(j,0)=>vs[j]?
 |_,_=>none
def setChild:A->Nat×Nat->A->A
 | .own z es,(i,c),x=>match es[i]? with|some e=> .own z (es.set i (e.set c x))|none=> .own z es
 | .bld z es,(i,c),x=>match es[i]? with|some e=> .bld z (es.set i (e.set c x))|none=> .bld z es
 | .agg cs,(0,c),x=> .agg (cs.set c x)
 | .tup vs,(j,0),x=> .tup (vs.set j x)
 |a,_,_=>a
def getS:A->List (Nat×Nat)->Option A
 |a,[]=>some a
 |a,q::s=>match child a q with|some x=>getS x s|none=>none
def setS:A->List (Nat×Nat)->A->A
 |_,[],x=>x
 |a,q::s,x=>match child a q with|some y=>setChild a q (setS y s x)|none=>a
def St.root(σ:St):Rt->Option A
 | .var t=>σ.vs[t]?
 | .loc k=>σ.ls[k]?
 | .box b c=>match σ.bx[b]? with|some (.cells cs)=>cs[c]?|_=>none
 | .hand _=>none
def St.setRoot(σ:St):Rt->A->St
 | .var t,x=>{σ with vs:=σ.vs.set t x}
 | .loc k,x=>{σ with ls:=σ.ls.set k x}
 | .box b c,x=>match σ.bx[b]? with|some (.cells cs)=>{σ with bx:=σ.bx.set b (.cells (cs.set c x))}|_=>σ
 | .hand _,_=>σ
def St.get(σ:St)(p:Pl):Option A:=match σ.root p.r with|some a=>getS a p.s|none=>none
def St.set(σ:St)(p:Pl)(x:A):St:=match σ.root p.r with|some a=>σ.setRoot p.r (setS a p.s x)|none=>σ
def St.row(σ:St)(p:Pl):Option (Nat×List (List A)):=
 match σ.get p with
 |some (.own z es)=>some (z,es)
 |some (.bld z es)=>some (z,es)
 |_=>none
def rdLeaf(p:Pl):A->A
 | .own _ _=> .sref p
 | .bld _ _=> .sref p
 |x=>x
def rdLeaves(p:Pl)(j:Nat):Nat->List A->List A
 |_,[]=>[]
 |c,x::xs=>rdLeaf (p.at j c) x::rdLeaves p j (c+1) xs
def rdA(p:Pl):A->A
 | .own _ _=> .sref p
 | .bld _ _=> .sref p
 | .agg cs=> .agg (rdLeaves p 0 0 cs)
 | .tup vs => .tup (vs.zipIdx.map fun (x,j) => match x with
    | .agg cs=> .agg (rdLeaves (p.at j 0) 0 0 cs)
    |x=>rdLeaf (p.at j 0) x)
 |x=>x
def St.rd(σ:St):Opd->Option A
 | .t n=>match σ.vs[n]? with|some x=>some (rdA ⟨.var n,[]⟩ x)|none=>none
 | .l k=>match σ.ls[k]? with|some x=>some (rdA ⟨.loc k,[]⟩ x)|none=>none
 | .k a=>some a
def immLeaf:A->A
 | .own z es=> .imm false z es
 |x=>x
def Rt.same:Rt->Rt->Bool
 | .var a,.var b=>a==b
 | .loc a,.loc b=>a==b
 | .box a c,.box b d=>a==b&&c==d
 |_,_=>false
def hangs(q p:Pl):Bool:=p.r.same q.r&&q.s.length<=p.s.length
def killE(q:Pl):A->A
 | .sref p=>if hangs q p then .un else .sref p
 |x=>x
def killLeaf(q:Pl):A->A
 | .sref p=>if hangs q p then .un else .sref p
 | .sub p lo hi=>if hangs q p then .un else .sub p lo hi
 | .pref p i c=>if hangs q p then .un else .pref p i c
 | .app z p cs=>if p.r.same q.r then .un else .app z p (cs.map fun c=>(c.1,c.2.map (·.map (killE q))))
 | .bld z es=> .bld z (es.map (·.map (killE q)))
 |x=>x
def killAg(q:Pl):A->A
 | .agg cs=> .agg (cs.map (killLeaf q))
 |x=>killLeaf q x
def killA(q:Pl):A->A
 | .tup vs=> .tup (vs.map (killAg q))
 |x=>killAg q x
def St.kill(σ:St)(q:Pl):St:={σ with vs:=σ.vs.map (killA q),ls:=σ.ls.map (killA q)}
def mapM'{α β:Type}(f:St->α->Option (β×St)):St->List α->Option (List β×St)
 |σ,[]=>some ([],σ)
 | σ,x::xs=>match f σ x with
   | some (y,σ)=>match mapM' f σ xs with
     |some (ys,σ)=>some (y::ys,σ)
     |none=>none
   |none=>none
def A.plain:A->Bool
 | .v _=>true| .imm _ _ _=>true| .un=>true| .own _ _=>true
 |_=>false
def matL:Nat->St->A->Option (A×St)
 |0,_,_=>none
 | n+1,σ,a=>
   match a with
   | .sref p=>match σ.get p with
     |some (.own z es)=>some (.own z es,σ.set p .un)
     | some (.bld z es)=>match mapM' (mapM' (matL n)) (σ.set p .un) es with
       |some (es,σ)=>some (.own z es,σ)
       |none=>none
     |_=>none
   | .app z p cs=>
     match matL n σ (.sref p)with
     | some (.own z' es,σ)=>if z'=z then match mapM' (fun σ (c:Bool×List (List A))=>if c.1 then mapM' (mapM' (matL n)) σ c.2 else some (c.2,σ)) σ cs with
       |some (ess,σ)=>some (.own z (es++ess.flatten),σ)
       |none=>none else none
     |_=>none
   | .sub p lo hi=>if lo=0 then match matL n σ (.sref p)with
      |some (.own z es,σ)=>some (.own z (es.take hi),σ)
      |_=>none
     else none
   | .un=>some (.un,σ)
   | .v x=>some (.v x,σ)
   | .imm nl z es=>some (.imm nl z es,σ)
   | .pimm cs=>some (.pimm cs,σ)
   | .pt b c=>some (.pt b c,σ)
   | .mp b=>some (.mp b,σ)
   | .clo f x y=>some (.clo f x y,σ)
   | .ifc t x=>some (.ifc t x,σ)
   |_=>none
def matA(σ:St):A->Option (A×St)
 | .agg cs=>match mapM' (matL 20) σ cs with
   |some (cs,σ)=>some (.agg cs,σ)
   |none=>none
 |a=>matL 20 σ a
def mat(σ:St):A->Option (A×St)
 | .tup vs=>match mapM' matA σ vs with
   |some (vs,σ)=>some (.tup vs,σ)
   |none=>none
 |a=>matA σ a
def Rt.isLoc:Rt->Bool
 | .loc _=>true
 |_=>false
def Rt.isVar:Rt->Bool
 | .var _=>true
 |_=>false
def asgL(σ:St):A->Option (A×St)
 | .sref p=>if p.r.isLoc then matL 20 σ (.sref p)else some (.sref p,σ)
 |x=>matL 20 σ x
def asg(σ:St):A->Option (A×St)
 | .sref p=>if p.r.isLoc || p.s.isEmpty&&p.r.isVar then matL 20 σ (.sref p)else some (.sref p,σ)
 | .agg cs=>match mapM' asgL σ cs with
   |some (cs,σ)=>some (.agg cs,σ)
   |none=>none
 | .pref p i c=>some (.pref p i c,σ)
 |x=>mat σ x
def chunk(n:Nat)(f:A->Option A):Bool×List (List A)->Option (List (List A))
 |(false,es)=>some es
 |(true,es)=>es.mapM (·.mapM f)
def lend:Nat->St->A->Option A
 |0,_,_=>none
 | n+1,σ,a=>
   match a with
   | .sref p=>match σ.get p with
     |some (.own z es)=>some (.imm false z es)
     |some (.bld z es)=>match es.mapM (·.mapM (lend n σ))with|some es=>some (.imm false z es)|none=>none
     |_=>none
   | .sub p lo hi=>match lend n σ (.sref p)with
     |some (.imm nl z es)=>some (.imm nl z ((es.take hi).drop lo))
     |_=>none
   | .app z p cs=>match lend n σ (.sref p)with
     | some (.imm _ z' es)=>if z'=z then match cs.mapM (chunk n (lend n σ))with
       |some ess=>some (.imm false z (es++ess.flatten))
       |none=>none else none
     |_=>none
   | .agg cs=>match cs.mapM (lend n σ)with|some cs=>some (.agg cs)|none=>none
   | .v x=>some (.v x)
   | .imm nl z es=>some (.imm nl z es)
   | .pimm cs=>some (.pimm cs)
   | .un=>some .un
   | .clo f [] []=>some (.clo f [] [])
   | .ifc t x=>some (.ifc t x)
   |_=>none
def lends:A->Bool
 | .sref _=>true
 | .sub _ _ _=>true
 | .app _ _ _=>true
 | .agg cs=>cs.any fun| .sref _=>true| .sub _ _ _=>true| .app _ _ _=>true|_=>false
 |_=>false
def A.isV:A->Bool
 | .v _=>true
 |_=>false
def untaintL:A->A
 | .v x=> .v x
 | .own z es=>if es.all (·.all A.isV)then .own z es else .un
 | .pt b c=> .pt b c
 | .mp b=> .mp b
 |_=> .un
def untaintA:A->A
 | .agg cs=> .agg (cs.map untaintL)
 |x=>untaintL x
def untaint:A->A
 | .tup vs=> .tup (vs.map untaintA)
 |x=>untaintA x
def untaintN:A->A
 | .v x=> .v x
 |_=> .un
def untaintM:A->A
 | .agg cs=> .agg (cs.map untaintN)
 |x=>untaintN x
def untaintB:Bx->Bx
 | .cells cs=> .cells (cs.map untaintL)
 | .map es=> .map (es.map fun e=>(e.1,untaintM e.2))
 |x=>x
def asNat(i:Int)(n:Nat):Option Nat:=if 0<=i then if i<(n:Int)then some i.toNat else none else none
def upTo(i:Int)(n:Nat):Option Nat:=if 0<=i then if i<=(n:Int)then some i.toNat else none else none
def cellsOf(a:A):List A:=match a with| .agg cs=>cs|x=>[x]
def lenA(σ:St):A->Option Nat
 | .v (.slice none 0 0)=>some 0
 | .imm _ _ es=>some es.length
 | .sref p=>match σ.row p with|some (_,es)=>some es.length|none=>none
 | .sub p lo hi=>match σ.row p with|some _=>some (hi-lo)|none=>none
 | .app z p cs=>match σ.row p with|some (z',es)=>if z'=z then some (cs.foldl (fun n c=>n+c.2.length) es.length)else none|none=>none
 |_=>none
def lenK(σ:St):Nat->A->Option Nat
 |0,a=>lenA σ a
 |1,.v (.string s)=>some s.size
 |2,.mp b=>match σ.bx[b]? with|some (.map es)=>some es.length|_=>none
 |2,.v (.map none)=>some 0
 |_,_=>none
def A.leafF:A->Bool
 | .un=>true| .v _=>true| .imm _ _ _=>true| .pimm _=>true| .clo _ [] []=>true| .ifc _ _=>true
 |_=>false
def loadA(σ:St)(n:Nat):A->Option (List A)
 | .pimm cs=>if n<=cs.length then if((cs.take n).map immLeaf).all A.leafF then some ((cs.take n).map immLeaf)else none else none
 | .pt b c=>match σ.bx[b]? with
   |some (.cells cs)=>if c+n<=cs.length then some (((cs.drop c).take n).zipIdx.map fun(x,j)=>rdLeaf ⟨.box b (c+j),[]⟩ x)else none
   |_=>none
 | .pref p i c=>match σ.row p with
   | some (_,es)=>match es[i]? with
     |some e=>if c+n<=e.length then some (((e.drop c).take n).zipIdx.map fun(x,j)=>rdLeaf (p.at i (c+j)) x)else none
     |none=>none
   |none=>none
 |_=>none
def A.elem:A->Bool
 | .un=>true| .v _=>true| .imm _ _ _=>true| .sref _=>true
 |_=>false
def A.loose:A->Bool
 | .sref _=>true| .sub _ _ _=>true| .app _ _ _=>true| .pref _ _ _=>true| .bld _ _=>true| .agg _=>true| .tup _=>true| .top=>true| .ud=>true
 |_=>false
def A.caught:A->Bool
 | .pt _ _=>true| .mp _=>true
 |x=>x.leafF
def putCells{α:Type}(cs:List α)(c:Nat):List α->List α
 |[]=>cs
 |y::ys=>putCells (cs.set c y) (c+1) ys
def killBox(b c:Nat)(l:List Nat)(σ:St):St:=l.foldl (fun σ j=>σ.kill ⟨.box b (c+j),[]⟩) σ
def A.boxy:A->Bool
 | .pt _ _=>true| .clo _ [] []=>false| .clo _ _ _=>true| .mp _=>true
 |_=>false
def storeA(σ:St)(n:Nat)(a:A)(ys:List A):Option St:=
 if ys.length=n then
  if ys.any A.loose then none else
  match a with
  | .pt b c=>
    match (killBox b c (List.range n) σ).bx[b]? with
    |some (.cells cs)=>if c+n<=cs.length then some {killBox b c (List.range n) σ with bx:=(killBox b c (List.range n) σ).bx.set b (.cells (putCells cs c ys))}else none
    |_=>none
  | .pref p i c=>
    if ys.any A.boxy then none else
    match (σ.kill ⟨p.r,p.s++[(0,0)]⟩).get p with
    | some (.own z es)=>match es[i]? with
      |some e=>if c+n<=e.length then some ((σ.kill ⟨p.r,p.s++[(0,0)]⟩).set p (.own z (es.set i (putCells e c ys))))else none
      |none=>none
    |_=>none
  |_=>none
 else none
def eq1:Nat->A->A->Option Bool
 |0,.v (.int j a),.v (.int k b)=>if j=k then some (a==b)else none
 |1,.v (.string a),.v (.string b)=>some (a.toList==b.toList)
 |2,.v (.bool a),.v (.bool b)=>some (a==b)
 |_,_,_=>none
def eqF(xs ys:List A):List (Nat×Nat)->Option Bool
 |[]=>some true
 | f::fs=>match xs[f.1]?,ys[f.1]? with
   | some x,some y=>match eq1 f.2 x y with
     | some b=>match eqF xs ys fs with
       |some c=>some (b&&c)
       |none=>none
     |none=>none
   |_,_=>none
def nilA(σ:St):A->Option Bool
 | .v (.slice none 0 0)=>some true
 | .sref p=>match σ.row p with|some _=>some false|none=>none
 | .imm nl _ _=>some nl
 |_=>none
def eqB:A->A->Option Bool
 | .v (.bool a),.v (.bool b)=>some (a==b)
 |_,_=>none
def eqP:A->A->Option Bool
 | .v (.pointer none),.v (.pointer none)=>some true
 | .pt _ _,.v (.pointer none)=>some false
 |_,_=>none
def eqL(σ:St)(a:A):A->Option Bool
 | .v (.slice none 0 0)=>nilA σ a
 |_=>none
def eqS(fs:List (Nat×Nat)):A->A->Option Bool
 | .agg xs,.agg ys=>eqF xs ys fs
 |_,_=>none
def eqA(σ:St)(k:EK)(a b:A):Option Bool:=
 match k with
 | .bool=>eqB a b
 | .ptr=>eqP a b
 | .slice=>eqL σ a b
 | .struct fs=>eqS fs a b
def binI(op:BinOp)(k:IntKind)(x y:Int):Option A:=
 match op with
 | .add=>some (.v (.int k (k.wrap (x+y))))
 | .sub=>some (.v (.int k (k.wrap (x-y))))
 | .mul=>some (.v (.int k (k.wrap (x*y))))
 | .quo=>if y=0 then none else some (.v (.int k (k.wrap (x.tdiv y))))
 | .rem=>if y=0 then none else some (.v (.int k (x.tmod y)))
 | .eql=>some (.v (.bool (x==y)))
 | .neq=>some (.v (.bool (x !=y)))
 | .lss=>some (.v (.bool (decide (x<y))))
 | .leq=>some (.v (.bool (decide (x<=y))))
 | .gtr=>some (.v (.bool (decide (x>y))))
 | .geq=>some (.v (.bool (decide (x ≥ y))))
 | .and=>let a:=BitVec.ofInt k.bits x;let b:=BitVec.ofInt k.bits y;some (.v (.int k (k.wrap (a &&& b).toNat)))
 | .or=>let a:=BitVec.ofInt k.bits x;let b:=BitVec.ofInt k.bits y;some (.v (.int k (k.wrap (a ||| b).toNat)))
 | .xor=>let a:=BitVec.ofInt k.bits x;let b:=BitVec.ofInt k.bits y;some (.v (.int k (k.wrap (a ^^^ b).toNat)))
 |_=>none
def binS(op:BinOp)(x y:ByteArray):Option A:=
 match op with
 | .add=>if x.size+y.size<=4294967296 then some (.v (.string (x++y)))else none
 | .eql=>some (.v (.bool (x.toList==y.toList)))
 | .neq=>some (.v (.bool (!(x.toList==y.toList))))
 | .lss=>some (.v (.bool (Op.bytesLess x.toList y.toList)))
 | .leq=>some (.v (.bool (Op.bytesLess x.toList y.toList || x.toList==y.toList)))
 | .gtr=>some (.v (.bool (!(Op.bytesLess x.toList y.toList || x.toList==y.toList))))
 | .geq=>some (.v (.bool (!Op.bytesLess x.toList y.toList)))
 |_=>none
def rds(σ:St):List Opd->Option (List A)
 |[]=>some []
 | x::xs=>match σ.rd x with
   |some y=>match rds σ xs with|some ys=>some (y::ys)|none=>none
   |none=>none
def fillA(zero:List A):List (Nat×Nat×A)->Option (List A)
 |[]=>some zero
 | (off,n,x)::rest=>let cs:=cellsOf x
   if cs.length=n then if off+n<=zero.length then fillA (putCells zero off cs) rest else none else none
def cmpK(kk:Nat)(k l:Value):Option Bool:=
 match kk,k,l with
 |0,.int j a,.int i b=>if j=i then some (a==b)else none
 |1,.string a,.string b=>some (a==b)
 |2,.bool a,.bool b=>some (a==b)
 |_,_,_=>none
def findK(kk:Nat)(k:Value):List (Value×A)->Nat->Option (Option (Nat×A))
 |[],_=>some none
 | e::es,i=>match cmpK kk k e.1 with
   |some true=>some (some (i,e.2))
   |some false=>findK kk k es (i+1)
   |none=>none
def lookE(σ:St)(kk:Nat)(key:Value):A->Option (Option (Nat×A))
 | .mp b=>match σ.bx[b]? with
   |some (.map es)=>findK kk key es 0
   |_=>none
 | .v (.map none)=>some none
 |_=>none
def A.entry:A->Bool
 | .imm _ _ _=>true| .v _=>true
 |_=>false
def bound:Nat:=4294967296
def appOnL(r:Rt):A->Bool
 | .app _ p _=>p.r.same r
 |_=>false
def appOn(r:Rt):A->Bool
 | .agg cs=>cs.any (appOnL r)
 | .tup vs=>vs.any fun| .agg cs=>cs.any (appOnL r)|x=>appOnL r x
 |x=>appOnL r x
def boundO(σ:St)(d m:Nat):Option Opd->Option Nat
 |none=>some d
 | some o=>match σ.rd o with
   |some (.v (.int _ i))=>upTo i m
   |_=>none
def boundsA(σ:St)(n:Nat)(lo hi:Option Opd):Option (Nat×Nat):=
 match boundO σ n n hi with
 | some h=>match boundO σ 0 h lo with
   |some l=>some (l,h)
   |none=>none
 |none=>none
def A.known:A->Bool
 | .tup _=>false| .top=>false| .ud=>false
 |_=>true
def partA(σ:St)(p:Nat×Nat×Opd):Option (Nat×Nat×A):=
 match σ.rd p.2.2 with
 |some y=>if y.known then some (p.1,p.2.1,y)else none
 |none=>none
def St.R'(σ:St)(p:Pl):Option Nat:=match σ.row p with|some (_,es)=>some es.length|none=>none
def pop(σ:St):AOp->Option A
 | .move x=>σ.rd x
 | .pick c a b=>match σ.rd c with
   |some (.v (.bool t))=>σ.rd (if t then a else b)
   |_=>none
 | .build z ps=>match ps.mapM (partA σ)with
   |some ps=>match fillA z ps with|some cs=>some (.agg cs)|none=>none
   |none=>none
 | .bslice z zero n ps=>match ps.mapM (partA σ)with
   | some ps=>match fillA (List.replicate n zero).flatten ps with
     |some cs=>if n*z+n<=16777216 then if cs.all A.elem then some (.bld z ((List.range n).map fun i=>(cs.drop (i*z)).take z))else none else none
     |none=>none
   |none=>none
 | .load agg n x=>match σ.rd x with
   | some a=>match loadA σ n a with
     |some cs=>if agg then some (.agg cs)else match cs with|[y]=>some y|_=>none
     |none=>none
   |none=>none
 | .nilchk x=>match σ.rd x with
   |some (.pt b c)=>some (.pt b c)
   |some (.pref p i c)=>match σ.R' p with|some n=>if i<n then some (.pref p i c)else none|none=>none
   |some (.pimm cs)=>some (.pimm cs)
   |some (.clo f a b)=>some (.clo f a b)
   |_=>none
 | .bin op x y=>match σ.rd x,σ.rd y with
   |some (.v (.int k a)),some (.v (.int k' b))=>if k=k' then binI op k a b else none
   |some (.v (.string a)),some (.v (.string b))=>binS op a b
   |_,_=>none
 | .eq neg k x y=>match σ.rd x,σ.rd y with
   | some a,some b=>match eqA σ k a b with
     |some r=>some (.v (.bool (if neg then !r else r)))
     |none=>none
   |_,_=>none
 | .un op x=>match op,σ.rd x with
   | .not,some (.v (.bool b))=>some (.v (.bool !b))
   | .neg,some (.v (.int k n))=>some (.v (.int k (k.wrap (0-n))))
   |_,_=>none
 | .conv k x=>match σ.rd x with
   |some (.v (.int _ n))=>some (.v (.int k (k.wrap n)))
   |_=>none
 | .mk z zero bytes l c=>match σ.rd l,σ.rd c with
   |some (.v (.int .i64 n)),some (.v (.int .i64 m))=>if n=m then match upTo n bound with
      |some k=>if bytes<=4096 then some (.own z (List.replicate k zero))else none
      |none=>none else none
   |_,_=>none
 | .sub z x lo hi mx=>match mx with
   |some _=>none
   | none=>match σ.rd x with
     | some a=>match lenA σ a with
       | some n=>match boundsA σ n lo hi with
         | some (l,h)=>match a with
           | .v (.slice none 0 0)=>some .nil
           | .imm nl z' es=>if z'=z then some (.imm nl z ((es.take h).drop l))else none
           | .sref p=>match σ.row p with|some (z',_)=>if z'=z then some (.sub p l h)else none|none=>none
           | .sub p a _=>match σ.row p with|some (z',_)=>if z'=z then some (.sub p (a+l) (a+h))else none|none=>none
           |_=>none
         |none=>none
       |none=>none
     |none=>none
 | .ssub x lo hi=>match σ.rd x with
   | some (.v (.string s))=>match boundsA σ s.size lo hi with
     |some (l,h)=>some (.v (.string (s.extract l h)))
     |none=>none
   |_=>none
 | .faddr off x=>match σ.rd x with
   |some (.pt b c)=>some (.pt b (c+off))
   |some (.pref p i c)=>match σ.R' p with|some n=>if i<n then some (.pref p i (c+off))else none|none=>none
   |some (.pimm cs)=>some (.pimm (cs.drop off))
   |_=>none
 | .fld agg off n x=>match σ.rd x with
   |some (.agg cs)=>if off+n<=cs.length then
      if agg then some (.agg ((cs.drop off).take n))else match (cs.drop off).take n with|[y]=>some y|_=>none
     else none
   |_=>none
 | .iaddr z x i=>match σ.rd x,σ.rd i with
   | some a,some (.v (.int _ i))=>match a with
     | .imm _ z' es=>if z'=z then match asNat i es.length with
        |some j=>match es[j]? with|some e=>some (.pimm e)|none=>none
        |none=>none else none
     | .sref p=>match σ.row p with
       |some (z',es)=>if z'=z then match asNat i es.length with|some j=>some (.pref p j 0)|none=>none else none
       |none=>none
     | .sub p lo hi=>match σ.row p with
       |some (z',es)=>if z'=z then match asNat i (hi-lo)with|some j=>if lo+j<es.length then some (.pref p (lo+j) 0)else none|none=>none else none
       |none=>none
     |_=>none
   |_,_=>none
 | .sidx x i=>match σ.rd x,σ.rd i with
   | some (.v (.string s)),some (.v (.int _ i))=>match asNat i s.size with
     |some j=>some (.v (.int .u8 (s.data.toList.getD j 0).toNat))
     |none=>none
   |_,_=>none
 | .ext i x=>match σ.rd x with
   |some (.tup vs)=>vs[i]?
   |_=>none
 | .len k x=>match σ.rd x with
   |some a=>match lenK σ k a with|some n=>some (.int n)|none=>none
   |none=>none
 | .mx xs=>match rds σ xs with
   |some [.v (.int k a),.v (.int k' b)]=>if k=k' then some (.v (.int k (if b>a then b else a)))else none
   |_=>none
 | .mn xs=>match rds σ xs with
   |some [.v (.int k a),.v (.int k' b)]=>if k=k' then some (.v (.int k (if b<a then b else a)))else none
   |_=>none
 | .mkclo f first caps=>match rds σ first,rds σ caps with
   |some a,some b=>if a.all A.caught then if b.all A.caught then some (.clo f a b)else none else none
   |_,_=>none
 | .look kk zero x k ok=>match σ.rd x,σ.rd k with
   | some a,some (.v key)=>match lookE σ kk key a with
     |some none=>some (if ok then .tup [zero,.bool false]else zero)
     |some (some y)=>if(cellsOf y.2).all A.leafF then some (if ok then .tup [y.2,.bool true]else y.2)else none
     |none=>none
   |_,_=>none
 |_=>none
def newsA(σ:St)(z:Nat):A->Option (Bool×List (List A))
 | .v (.slice none 0 0)=>some (false,[])
 | .imm _ z' es=>if z'=z then if(es.map (·.map immLeaf)).all (·.all A.leafF)then some (false,es.map (·.map immLeaf))else none else none
 | .sref p=>match σ.get p with
   |some (.bld z' es)=>if z'=z then some (true,es)else none
   |some (.own z' es)=>if z'=z then if es.all (·.all A.isV)then some (false,es)else none else none
   |_=>none
 | .sub p lo hi=>match σ.row p with
   |some (z',es)=>if z'=z then if es.all (·.all A.isV)then some (false,(es.take hi).drop lo)else none else none
   |none=>none
 |_=>none
def aop(σ:St):AOp->Option (A×St)
 | .box x=>match σ.rd x with
   | some y=>match mat σ y with
     |some (y,σ)=>if(cellsOf y).any A.loose then none else some (.pt σ.bx.length 0,{σ with bx:=σ.bx++[.cells (cellsOf y)]})
     |none=>none
   |none=>none
 | .alloc z=>some (.pt σ.bx.length 0,{σ with bx:=σ.bx++[.cells z]})
 | .store agg n x y=>match σ.rd x,σ.rd y with
   | some a,some b=>match mat σ b with
     | some (b,σ)=>match (if agg then(match b with| .agg cs=>some cs|_=>none)else some [b])with
       |some cs=>match storeA σ n a cs with|some σ=>some (.ud,σ)|none=>none
       |none=>none
     |none=>none
   |_,_=>none
 | .app z bytes s x=>match σ.rd s,σ.rd x with
   | some a,some b=>match newsA σ z b with
     | some c=>
       if bytes<=4096 then
        match a with
        | .v (.slice none 0 0)=>if c.2.isEmpty then some (.nil,σ)else if c.2.length<=bound then if c.1 then some (.bld z c.2,σ)else some (.own z c.2,σ)else none
        | .sref p=>match σ.row p with
          |some (z',es)=>if z'=z then if es.length+c.2.length<=bound then
             if(σ.vs++σ.ls).any (appOn p.r)then none else some (.app z p [c],σ)else none else none
          |none=>none
        |_=>none
       else none
     |none=>none
   |_,_=>none
 | .ifc t x=>match σ.rd x with
   |some y=>if(cellsOf y).all A.leafF then some (.ifc t y,σ)else none
   |none=>none
 | .mkmap=>some (.mp σ.bx.length,{σ with bx:=σ.bx++[.map []]})
 | .mapup kk m k x=>match σ.rd m,σ.rd k,σ.rd x with
   | some (.mp b),some (.v key),some y=>match mat σ y with
     | some (y,σ)=>match σ.bx[b]? with
       |some (.map es)=>if(cellsOf y).all A.entry then match findK kk key es 0 with
          |some (some (i,_))=>some (.ud,{σ with bx:=σ.bx.set b (.map (es.set i (key,y)))})
          |some none=>some (.ud,{σ with bx:=σ.bx.set b (.map (es++[(key,y)]))})
          |none=>none else none
       |_=>none
     |none=>none
   |_,_,_=>none
 |op=>match pop σ op with|some x=>some (x,σ)|none=>none
def locFreeL:A->Bool
 | .sref p=>!p.r.isLoc
 | .pref p _ _=>!p.r.isLoc
 | .sub _ _ _=>false
 | .app _ _ _=>false
 | .bld _ _=>false
 |_=>true
def locFree:A->Bool
 | .agg cs=>cs.all locFreeL
 | .tup _=>false
 |x=>locFreeL x
def St.push(σ:St)(x:A):St:={σ with ls:=σ.ls++[x]}
def St.put(σ:St)(d:Dst)(x:A):St:=
 match d with
 | .loc=>σ.push x
 | .var n=>
   let τ:=(σ.push .top).kill ⟨.var n,[]⟩
   {τ with vs:=τ.vs.set n (killA ⟨.var n,[]⟩ x)}
def St.putV(σ:St)(d:Dst)(x:A):Option St:=
 match d with
 | .loc=>some (σ.put d x)
 | .var _=>match asg σ x with|some (x,σ)=>if locFree x then some (σ.put d x)else none|none=>none
inductive Ex where
 |normal|exit (id:Nat)|goto (l:Nat)|ret
 deriving Inhabited,DecidableEq
def hintOK(σ:St)(p:Pl):Bool:=
 match p.r,p.s with
 | .var _,[]=>true
 | .var n,[(0,_)]=>(match σ.vs[n]? with|some (.agg _)=>true|_=>false)
 | .box _ _,[]=>true
 |_,_=>false
def frzAt(σ:St)(p:Pl)(z:Nat):St:=
 match σ.get p with
 |some (.own z' es)=>σ.set p (.imm false z' es)
 |some (.v (.slice none 0 0))=>if z=0 then σ else if hintOK σ p then σ.set p (.imm true z [])else σ
 |_=>σ
def frzAts(f:Nat->Pl):Nat->List Nat->St->St
 |_,[],σ=>σ
 |c,z::zs,σ=>frzAts f (c+1) zs (frzAt σ (f c) z)
def St.frz(σ:St)(n:Nat)(zs:List Nat):St:=
 match σ.vs[n]? with
 |some (.agg _)=>frzAts (fun c=>⟨.var n,[(0,c)]⟩) 0 zs σ
 |some (.pt b _)=>frzAts (fun c=>⟨.box b c,[]⟩) 0 zs σ
 | _=>match zs with
   |z::_=>frzAt σ ⟨.var n,[]⟩ z
   |[]=>σ
def findL:AC->Nat->Option AC
 | .seq a b,l=>match findL a l with|some r=>some (.seq r b)|none=>findL b l
 | .label l',l=>if l'==l then some .skip else none
 |_,_=>none
def clearV(vs:List A):List Nat->List A
 |[]=>vs
 |n::ns=>clearV (vs.set n .top) ns
def A.truncK(n:Nat):A->Bool
 | .pt b _=>b<n
 | .mp b=>b<n
 |_=>true
def A.truncL(n:Nat):A->A
 | .pt b c=>if b<n then .pt b c else .un
 | .mp b=>if b<n then .mp b else .un
 | .clo f a b=>if(a++b).all (A.truncK n)then .clo f a b else .un
 | .sref p=>match p.r with| .box b _=>if b<n then .sref p else .un|_=> .sref p
 | .pref p i c=>match p.r with| .box b _=>if b<n then .pref p i c else .un|_=> .pref p i c
 | .sub _ _ _=> .un
 | .app _ _ _=> .un
 | .bld _ _=> .un
 |x=>x
def A.trunc(n:Nat):A->A
 | .agg cs=> .agg (cs.map (A.truncL n))
 | .tup _=> .top
 |x=>A.truncL n x
def Bx.trunc(n:Nat):Bx->Bx
 | .cells cs=> .cells (cs.map (A.truncL n))
 |x=>x
def St.trunc(n:Nat)(σ:St):St:=
 if σ.bx.length<=n then σ else{σ with vs:=σ.vs.map (A.trunc n),bx:=(σ.bx.take n).map (Bx.trunc n)}
def idsK:A->List Nat
 | .pt b _=>[b]
 | .mp b=>[b]
 |_=>[]
def idsL:A->List Nat
 | .pt b _=>[b]
 | .mp b=>[b]
 | .clo _ a b=>(a++b).flatMap idsK
 |_=>[]
def idsA:A->List Nat
 | .agg cs=>cs.flatMap idsL
 |x=>idsL x
def idsT:A->List Nat
 | .tup vs=>vs.flatMap idsA
 |x=>idsA x
def idsB:Bx->List Nat
 | .cells cs=>cs.flatMap idsL
 |_=>[]
def reach(bx:List Bx):Nat->List Nat->List Nat->List Nat
 |0,_,acc=>acc
 |_+1,[],acc=>acc
 |n+1,b::todo,acc=>if acc.contains b || bx.length<=b then reach bx n todo acc else reach bx n (todo++(match bx[b]? with|some x=>idsB x|none=>[])) (acc++[b])
def renK(f:Nat->Option Nat):A->A
 | .pt b c=>match f b with|some b=> .pt b c|none=> .un
 | .mp b=>match f b with|some b=> .mp b|none=> .un
 |x=>x
def renL(f:Nat->Option Nat):A->A
 | .clo g a b=> .clo g (a.map (renK f)) (b.map (renK f))
 |x=>renK f x
def renA(f:Nat->Option Nat):A->A
 | .agg cs=> .agg (cs.map (renL f))
 |x=>renL f x
def renT(f:Nat->Option Nat):A->A
 | .tup vs=> .tup (vs.map (renA f))
 |x=>renA f x
def renB(f:Nat->Option Nat):Bx->Bx
 | .cells cs=> .cells (cs.map (renL f))
 |x=>x
def A.kept:A->Bool
 | .agg cs=>cs.all fun x=>!x.loose
 |x=>!x.loose
def resA(σ:St):List ARes->Option (List A×St)
 |[]=>some ([],σ)
 | r::rs=>
   let y:=match r with
    | .var t=>σ.rd (.t t)
    | .cell t agg n=>match σ.rd (.t t)with
      | some a=>match loadA σ n a with
        |some cs=>if agg then some (.agg cs)else cs[0]?
        |none=>none
      |none=>none
   match y with
   | some y=>match mat σ y with
     |some (y,σ)=>if A.kept y then match resA σ rs with|some (ys,σ)=>some (y::ys,σ)|none=>none else none
     |none=>none
   |none=>none
def tupA:List A->A
 |[x]=>x
 |xs=> .tup xs
def freeze(σ:St)(p:Pl):Option (A×St):=
 match σ.get p with
 |some (.own z es)=>some (.imm false z es,σ.set p (.imm false z es))
 |some (.bld z es)=>if es.all (·.all A.plain)then some (.imm false z es,σ.set p (.imm false z es))else none
 |_=>none
def give1(q:Bool)(σ:St)(a:A):Option (A×St×Bool):=
 match a with
 | .pt b c=>some (.pt b c,σ,false)
 | .mp b=>some (.mp b,σ,false)
 | .clo f x y=>some (.clo f x y,σ,false)
 | .sref p=>if p.r.isLoc&&!q then match freeze σ p with
    |some (x,σ)=>some (x,σ,false)
    |none=>match lend 20 σ a with|some x=>some (x,σ,true)|none=>none
   else match lend 20 σ a with|some x=>some (x,σ,true)|none=>none
 |a=>match lend 20 σ a with|some x=>some (x,σ,lends a)|none=>none
def gives1(q:Bool)(σ:St):List A->Option (List A×St×Bool)
 |[]=>some ([],σ,false)
 | a::as=>match give1 q σ a with
   | some (x,σ,b)=>match gives1 q σ as with
     |some (xs,σ,c)=>some (x::xs,σ,b || c)
     |none=>none
   |none=>none
def give(q:Bool)(σ:St)(a:A):Option (A×St×Bool):=
 match a with
 | .agg cs=>match gives1 q σ cs with|some (cs,σ,b)=>some (.agg cs,σ,b)|none=>none
 |a=>give1 q σ a
def gives(q:Bool)(σ:St):List A->Option (List A×St×Bool)
 |[]=>some ([],σ,false)
 | a::as=>match give q σ a with
   | some (x,σ,b)=>match gives q σ as with
     |some (xs,σ,c)=>some (x::xs,σ,b || c)
     |none=>none
   |none=>none
def refsE:A->List Pl
 | .sref q=>[q]
 |_=>[]
def flat(cs:List (Bool×List (List A))):List (List A):=(cs.map (·.2)).flatten
def refsL:A->List Pl
 | .sref q=>[q]
 | .sub q _ _=>[q]
 | .pref q _ _=>[q]
 | .app _ q cs=>q::(flat cs).flatMap (·.flatMap refsE)
 | .bld _ es=>es.flatMap (·.flatMap refsE)
 |_=>[]
def appsL:A->List Pl
 | .app _ q _=>[q]
 |_=>[]
def refsA:A->List Pl
 | .agg cs=>cs.flatMap refsL
 |a=>refsL a
def appsA:A->List Pl
 | .agg cs=>cs.flatMap appsL
 |a=>appsL a
def refsT:A->List Pl
 | .tup vs=>vs.flatMap refsA
 |a=>refsA a
def appsT:A->List Pl
 | .tup vs=>vs.flatMap appsA
 |a=>appsA a
def goneB(bx:List Bx):List Nat->List Bx
 |[]=>bx
 |b::bs=>goneB (bx.set b .gone) bs
def backB(bx:List Bx):List Nat->List Bx->List Bx
 |b::bs,x::xs=>backB (bx.set b x) bs xs
 |_,_=>bx
def ncells:Option Bx->Nat
 |some (.cells cs)=>cs.length
 |_=>0
def killBoxes:List Nat->St->St
 |[],σ=>σ
 |b::bs,σ=>killBoxes bs (killBox b 0 (List.range (ncells σ.bx[b]?)) σ)
def nth(ids:List Nat)(b:Nat):Option Nat:=ids.findIdx? (· ==b)
def num(ids:List Nat)(m:Nat)(more:Bool)(b:Nat):Option Nat:=
 if b<ids.length then ids[b]? else if more then some (m+(b-ids.length))else none
def getB(bx:List Bx)(b:Nat):Bx:=match bx[b]? with|some x=>x|none=> .gone
def frzL:A->A
 | .own z es=> .imm false z es
 | .bld _ _=> .un
 |x=>x
def frzA:A->A
 | .agg cs=> .agg (cs.map frzL)
 |x=>frzL x
def frzT:A->A
 | .tup vs=> .tup (vs.map frzA)
 |x=>frzA x
def fullAt(D:List (List Nat))(i:Nat):Bool:=
 (List.range i).all (fun j=>(D.getD i []).contains j)&&(List.range D.length).all (fun j=>j<=i || (D.getD j []).contains i)
def maskF(S:Nat->Bool):Nat->List A->List A
 |_,[]=>[]
 |j,x::xs=>(if S j then x else .top)::maskF S (j+1) xs
def setV(lv:List (Option Nat))(S:Nat->Bool):List Nat:=
 (List.range lv.length).filterMap fun k => if S k then (match lv[k]? with
   |some (some n)=>some n
   |_=>none)else none
def turnedV(lv:List (Option Nat))(D:List (List Nat))(i:Nat):List Nat:=setV lv fun k=>!(k==i || (D.getD k []).contains i)
def lateB(d:List Nat):List (Nat×Nat)->Nat->Nat
 |[],m=>m
 |(k,b)::mk,m=>lateB d mk (if d.contains k then m else min m b)
def St.mask(lv:List (Option Nat))(D:List (List Nat))(i:Nat)(mk:List (Nat×Nat))(σ:St):St:=
 ⟨clearV σ.vs (turnedV lv D i),maskF ((D.getD i []).contains ·) 0 σ.ls,σ.bx.take (lateB (D.getD i []) mk σ.bx.length)⟩
def St.maskV(lv:List (Option Nat))(D:List (List Nat))(i:Nat)(σ:St):St:={σ with vs:=clearV σ.vs (turnedV lv D i)}
def appRL:A->List Rt
 | .app _ p _=>[p.r]
 |_=>[]
def appRA:A->List Rt
 | .agg cs=>cs.flatMap appRL
 |x=>appRL x
def appR:A->List Rt
 | .tup vs=>vs.flatMap appRA
 |x=>appRA x
def apartR(x y:A):Bool:=(appR x).all fun r=>(appR y).all fun s=>!r.same s
def apartAll(d:List Nat)(x:A):Nat->List A->Bool
 |_,[]=>true
 |j,y::ys=>(d.contains j || apartR x y)&&apartAll d x (j+1) ys
def opdL:Opd->List Nat
 | .l k=>[k]
 |_=>[]
def opdV:Opd->List Nat
 | .t n=>[n]
 |_=>[]
def AOp.opds:AOp->List Opd
 | .move x| .box x| .nilchk x| .un _ x| .conv _ x| .b2s x| .s2b x| .faddr _ x| .fld _ _ _ x| .ext _ x| .len _ x| .ifc _ x| .load _ _ x=>[x]
 | .pick c a b=>[c,a,b]
 | .alloc _| .mkmap| .dies=>[]
 | .build _ ps=>ps.map (·.2.2)
 | .bslice _ _ _ ps=>ps.map (·.2.2)
 | .store _ _ x y| .bin _ x y| .eq _ _ x y| .mk _ _ _ x y| .iaddr _ x y| .sidx x y| .app _ _ x y| .look _ _ x y _| .del x y=>[x,y]
 | .sub _ x lo hi k=>x::(lo.toList++hi.toList++k.toList)
 | .ssub x lo hi=>x::(lo.toList++hi.toList)
 | .call _ as=>as
 | .mx as=>as
 | .mn as=>as
 | .callv x as=>x::as
 | .mkclo _ a b=>a++b
 | .mapup _ m k x=>[m,k,x]
def seesOK(lv:List (Option Nat))(D:List (List Nat))(i:Nat)(op:AOp):Bool:=
 op.opds.all fun x=>(opdL x).all (D.getD i []).contains&&(opdV x).all fun n=>!(turnedV lv D i).contains n
def locsIn(ok:Nat->Bool)(x:A):Bool:=(refsT x).all fun p=>match p.r with
 | .loc j=>ok j
 |_=>true
def topFrom:Nat->List A->List A
 |_,[]=>[]
 |0,_::xs=> .top::topFrom 0 xs
 |k+1,x::xs=>x::topFrom k xs
def quietOK(D:List (List Nat))(i:Nat)(x:A)(σ:St):Bool:=
 locsIn ((D.getD i []).contains ·) x&&apartAll (D.getD i []) x 0 (σ.ls.take i)&&σ.vs.all fun y=>apartR x y
def wantD(σ:St):Option (Opd×Bool)->Option Bool
 |none=>some true
 | some (g,want)=>match σ.rd g with
   |some (.v (.bool b))=>some (b==want)
   |some .ud=>some false
   |_=>none
def St.putN(σ:St)(n:Nat)(x:A):St:=
 {σ.kill ⟨.var n,[]⟩with vs:=(σ.kill ⟨.var n,[]⟩).vs.set n (killA ⟨.var n,[]⟩ x)}
def St.putW(σ:St)(n:Nat)(x:A):Option St:=
 match asg σ x with
 |some (x,σ)=>if locFree x then some (σ.putN n x)else none
 |none=>none
def flush:Nat->List (Option Nat)->St->Option St
 |_,[],σ=>some σ
 |k,none::lv,σ=>flush (k+1) lv σ
 | k,some n::lv,σ=>match σ.rd (.l k)with
   |some .ud=>flush (k+1) lv (σ.putN n .ud)
   | some x=>match σ.putW n x with
     |some σ=>flush (k+1) lv σ
     |none=>none
   |none=>none
mutual
def acall(E:Nat->Option AF):Nat->Nat->List A->List Bx->Option (A×List Bx)
 |0,_,_,_=>none
 | n+1,f,as,bx=>match E f with
   |none=>none
   |some F=>if as.length=F.np then
      match aexec E n F.body ⟨as++List.replicate (F.nv-F.np) .ud,[],bx⟩with
      |some (e,σ)=>if e= .normal\/e= .ret then match resA σ F.res with
         |some (rs,σ)=>some (tupA rs,σ.bx)
         |none=>none else none
      |none=>none
     else none
def acallOp(E:Nat->Option AF):Nat->Bool->Nat->List A->St->Option (A×St)
 |0,_,_,_,_=>none
 | n+1,q,f,ys,σ=>
   let ids:=reach σ.bx 1000 (ys.flatMap idsA) []
   match gives q {σ with bx:=goneB σ.bx ids} ys with
   | some (as,σ1,b)=>
     match acall E n f (as.map (renA (nth ids))) (ids.map fun i=>renB (nth ids) (getB σ.bx i))with
     | some (r,bx)=>
       let r:=if b then untaint r else r
       let old:=(bx.take ids.length).map fun x=>if b then untaintB x else x
       let new:=(bx.drop ids.length).map fun x=>if b then untaintB x else x
       let more:=(idsT r++old.flatMap idsB).any (ids.length<= ·)
       let f2:=num ids σ.bx.length more
       let bx1:=backB σ1.bx ids (old.map (renB f2))
       if q&&more then none else some (renT f2 r,killBoxes ids {σ1 with bx:=if more then bx1++new.map (renB f2)else bx1})
     |none=>none
   |none=>none
def ago(E:Nat->Option AF):Nat->AOp->St->Option (A×St)
 |0,_,_=>none
 | n+1,op,σ=>
   match op with
   | .call f args=>match rds σ args with
     |some ys=>acallOp E n false f ys σ
     |none=>none
   | .callv x args=>match σ.rd x,rds σ args with
     |some (.clo f first caps),some ys=>if(first++caps).all A.caught then acallOp E n false f (first++ys++caps) σ else none
     |_,_=>none
   |op=>aop σ op
def aoper(E:Nat->Option AF):Nat->AOper->St->Option St
 |0,_,_=>none
 | n+1,o,σ=>
   match o.guard with
   | none=>match ago E n o.op σ with
     |some (x,σ)=>σ.putV o.dst x
     |none=>none
   | some (g,want)=>match σ.rd g with
     | some (.v (.bool b))=>if b==want then(match ago E n o.op σ with
       |some (x,σ)=>σ.putV o.dst x
       |none=>none)else some (σ.put o.dst .ud)
     |some .ud=>some (σ.put o.dst .ud)
     |_=>none
def aops(E:Nat->Option AF):Nat->List AOper->St->Option St
 |0,_,_=>none
 |_+1,[],σ=>some σ
 |n+1,o::os,σ=>match aoper E n o σ with|some σ=>aops E n os σ|none=>none
def aquiet(E:Nat->Option AF):Nat->AOp->St->Option (A×Option Bx)
 |0,_,_=>none
 | n+1,op,σ=>
   match op with
   | .call f args=>match rds σ args with
     | some ys=>if(ys.flatMap idsA).isEmpty then match acallOp E n true f ys σ with
       |some (x,_)=>some (frzT x,none)
       |none=>none else none
     |none=>none
   | .alloc z=>some (.pt σ.bx.length 0,some (.cells z))
   | .app z bytes s x=>match aop σ (.app z bytes s x)with|some (y,_)=>some (y,none)|none=>none
   |op=>match pop σ op with|some x=>some (x,none)|none=>none
def adraw(E:Nat->Option AF):Nat->List (Option Nat)->List (List Nat)->Nat->List (Nat×Nat)->List AOper->St->Option St
 |0,_,_,_,_,_,_=>none
 |_+1,_,_,_,_,[],σ=>some σ
 | n+1,lv,D,i,mk,o::os,σ=>
   match wantD σ o.guard with
   |none=>none
   |some false=>if o.dst= .loc then adraw E n lv D (i+1) mk os {σ with ls:=σ.ls.set i .ud}else none
   | some true=>
     if fullAt D i then
      match ago E n o.op (σ.maskV lv D i)with
      | some (x,σ)=>match o.dst with
        | .loc=>if(σ.ls.set i x).all (locsIn (· <i))then adraw E n lv D (i+1) mk os {σ with ls:=topFrom (i+1) (σ.ls.set i x)}else none
        | .var v=>match σ.putW v x with
          |some σ=>if(σ.ls.set i .top).all (locsIn (· <i))then adraw E n lv D (i+1) mk os {σ with ls:=topFrom (i+1) (σ.ls.set i .top)}else none
          |none=>none
      |none=>none
     else
      if seesOK lv D i o.op&&o.dst= .loc then
       match aquiet E n o.op (σ.mask lv D i mk)with
       |some (x,none)=>if quietOK D i x σ then adraw E n lv D (i+1) mk os {σ with ls:=σ.ls.set i x}else none
       |some (x,some b)=>if quietOK D i x σ&&mk.all (fun k=>(D.getD i []).contains k.1)then
          adraw E n lv D (i+1) (mk++[(i,σ.bx.length)]) os {σ with ls:=σ.ls.set i x,bx:=σ.bx++[b]}else none
       |none=>none
      else none
def aexec(E:Nat->Option AF):Nat->AC->St->Option (Ex×St)
 |0,_,_=>none
 | n+1,c,σ=>
   match c with
   | .skip=>some (.normal,σ)
   | .label _=>some (.normal,σ)
   | .frz n zs=>some (.normal,σ.frz n zs)
   | .reg ops none=>match aops E n ops {σ with ls:=[]}with
     |some σ=>some (.normal,{σ with ls:=[]})
     |none=>none
   | .reg ops (some (D,lv))=>match adraw E n lv D 0 [] ops {σ with ls:=List.replicate ops.length .top}with
     | some σ=>match flush 0 lv {σ with vs:=clearV σ.vs (setV lv fun _=>true)}with
       |some σ=>some (.normal,{σ with ls:=[]})
       |none=>none
     |none=>none
   | .seq a b=>match aexec E n a σ with
     |some (.normal,σ)=>aexec E n b σ
     |r=>r
   | .cond x a b=>match σ.rd x with
     |some (.v (.bool t))=>if t then aexec E n a σ else aexec E n b σ
     |_=>none
   | .block id c=>match aexec E n c σ with
     |some (.exit i,σ)=>if i=id then some (.normal,σ)else some (.exit i,σ)
     |r=>r
   | .loop dead c=>match aexec E n c {σ with vs:=clearV σ.vs dead}with
     |some (.normal,σ')=>aexec E n (.loop dead c) (σ'.trunc σ.bx.length)
     |r=>r
   | .exit id=>some (.exit id,σ)
   | .scope body c=>match aexec E n c σ with
     | some (.goto l,σ)=>match findL body l with
       |some r=>aexec E n (.scope body r) σ
       |none=>some (.goto l,σ)
     |r=>r
   | .goto l=>some (.goto l,σ)
   | .ret=>some (.ret,σ)
   | .no=>none
end
end Go.Ab
end
section
namespace Go.Ab
def constLeaf:Value->Option A
 | .int k n=>some (.v (.int k n))
 | .bool b=>some (.v (.bool b))
 | .string s=>some (.v (.string s))
 | .pointer none=>some (.v (.pointer none))
 | .slice none 0 0=>some (.v (.slice none 0 0))
 | .nilFunc=>some (.v .nilFunc)
 | .nilIface=>some (.v .nilIface)
 | .map none=>some (.v (.map none))
 |_=>none
def constA:Value->Option A
 | .agg cs=>match cs.toList.mapM constLeaf with|some cs=>some (.agg cs)|none=>none
 |v=>constLeaf v
def zeroA(P:Program)(t:TypeId):Option (List A):=
 match P.info? t with
 | some i=>match i.zero with
   |some v=>match constA v with|some a=>some (cellsOf a)|none=>none
   |none=>none
 |none=>none
def zeroV(P:Program)(t:TypeId):Option A:=
 match P.info? t with
 | some i=>match i.zero with
   |some v=>constA v
   |none=>none
 |none=>none
def keyK(P:Program)(t:TypeId):Option Nat:=
 match P.underlying t with
 |some (.int _)=>some 0
 |some .string=>some 1
 |some .bool=>some 2
 |_=>none
def isAggT(P:Program)(t:TypeId):Bool:=
 match P.underlying t with
 |some (.struct _)=>true
 |some (.array _ _)=>true
 |_=>false
def ek1(P:Program)(f:Field):Option (Nat×Nat):=
 if f.name = "_" then none else
 match P.underlying f.type with
 |some (.int _)=>some (f.offset,0)
 |some .string=>some (f.offset,1)
 |some .bool=>some (f.offset,2)
 |_=>none
def ekT(P:Program)(t:TypeId):Option EK:=
 match P.underlying t with
 |some .bool=>some .bool
 |some (.pointer _)=>some .ptr
 |some (.slice _)=>some .slice
 | some (.struct fs)=>if P.stoodInHeld t || P.eqGuardType P.depth t then none else match fs.toList.mapM (ek1 P)with
   |some l=>some (.struct l)
   |none=>none
 |_=>none
structure TC where
 P:Program
 nt:Nat -- how many temporaries there are
 vars:List Nat -- which temporaries are variables
 locs:List (Option Nat) -- of each operation of this region so far the temporary that it writes,if that is no variable
def TC.opd(c:TC):Operand->Option Opd
 | .tmp t=>match c.locs.findIdx? (· ==some t)with
   |some k=>some (.l k)
   | none=>match c.vars.findIdx? (· ==t)with
     |some n=>some (.t n)
     |none=>none
 | .const v=>match constA v with|some a=>some (.k a)|none=>none
 | .func f=>some (.k (.clo f [] []))
 | .global _=>none
def TC.opds(c:TC)(xs:Array Operand):Option (List Opd):=xs.toList.mapM c.opd
def TC.opdO(c:TC):Option Operand->Option (Option Opd)
 |none=>some none
 |some x=>match c.opd x with|some y=>some (some y)|none=>none
def elemT(P:Program)(t:TypeId):Option TypeId:=
 match P.underlying t with
 |some (.slice e)=>if(P.info? e).isSome then some e else none
 |_=>none
def TC.part(c:TC)(place:Nat->Option (Nat×Nat))(p:Nat×Operand):Option (Nat×Nat×Opd):=
 match place p.1 with
 |some (off,n)=>match c.opd p.2 with|some d=>some (off,n,d)|none=>none
 |none=>none
def TC.op(c:TC)(o:Op):Option AOp:=
 let P:=c.P
 match o with
 | .move x| .assign x=>do some (.move (<-c.opd x))
 | .pick a b d=>do some (.pick (<-c.opd a) (<-c.opd b) (<-c.opd d))
 | .box _ x=>do some (.box (<-c.opd x))
 | .alloc t=>do some (.alloc (<-zeroA P t))
 | .build t ps=>do
   let zero<-zeroA P t
   match P.underlying t with
   | some (.struct fs)=>do
     let places<-fs.toList.mapM (fun f=>(P.info? f.type).map fun i=>(f.offset,i.size))
     some (.build zero (<-ps.toList.mapM (c.part fun i=>places[i]?)))
   |_=>none
 | .buildSlice t n ps=>do
   let e<-elemT P t
   let zero<-zeroA P e
   if zero.length=P.cellsOf e then some (.bslice (P.cellsOf e) zero n (<-ps.toList.mapM (c.part fun i=>some (i*P.cellsOf e,P.cellsOf e))))else none
 | .load t x=>if(P.underlying t).isSome then do some (.load (isAggT P t) (P.cellsOf t) (<-c.opd x))else none
 | .store t x y=>if(P.info? t).isSome then do some (.store (isAggT P t) (P.cellsOf t) (<-c.opd x) (<-c.opd y))else none
 | .nilCheck x=>do some (.nilchk (<-c.opd x))
 | .binOp op t x y _=>do
   let x<-c.opd x
   let y<-c.opd y
   match P.underlying t with
   |some (.int _)=>some (.bin op x y)
   |some .string=>some (.bin op x y)
   | _=>match op with
     | .eql=>some (.eq false (<-ekT P t) x y)
     | .neq=>some (.eq true (<-ekT P t) x y)
     |_=>none
 | .unOp op _ x=>do some (.un op (<-c.opd x))
 | .convert s d x=>do
   let x<-c.opd x
   match P.underlying s,P.underlying d with
   |some (.int _),some (.int k)=>some (.conv k x)
   |some (.slice _),some .string=>some (.b2s x)
   |some .string,some (.slice _)=>some (.s2b x)
   |_,_=>none
 | .makeInterface t x=>match P.underlying t with
   |some (.interface _)=>none
   |some _=>do some (.ifc t (<-c.opd x))
   |none=>none
 | .makeFunc (.func f) a b=>do some (.mkclo f (<-c.opds a) (<-c.opds b))
 | .makeMap _ none=>some .mkmap
 | .makeSlice t l k=>do
   let e<-elemT P t
   let zero<-zeroA P e
   if zero.length=P.cellsOf e then some (.mk (P.cellsOf e) zero (P.bytesOf e) (<-c.opd l) (<-c.opd k))else none
 | .slice t x lo hi mx=>do
   match P.underlying t with
   |some (.slice e)=>if(P.info? e).isSome then some (.sub (P.cellsOf e) (<-c.opd x) (<-c.opdO lo) (<-c.opdO hi) (<-c.opdO mx))else none
   | some .string=>match mx with
     |none=>some (.ssub (<-c.opd x) (<-c.opdO lo) (<-c.opdO hi))
     |some _=>none
   |_=>none
 | .fieldAddr s x f=>do
   match P.underlying s with
   |some (.struct fs)=>let g<-fs[f]?;if P.cellsOf g.type=0 then none else some (.faddr g.offset (<-c.opd x))
   |_=>none
 | .field s x f=>do
   match P.underlying s with
   |some (.struct fs)=>let g<-fs[f]?;if(P.underlying g.type).isSome then some (.fld (isAggT P g.type) g.offset (P.cellsOf g.type) (<-c.opd x))else none
   |_=>none
 | .indexAddr t x i=>do
   let e<-elemT P t
   some (.iaddr (P.cellsOf e) (<-c.opd x) (<-c.opd i))
 | .index t x i=>do
   match P.underlying t with
   |some .string=>some (.sidx (<-c.opd x) (<-c.opd i))
   |_=>none
 | .lookup t x k ok=>do
   match P.underlying t with
   |some (.map kt e)=>some (.look (<-keyK P kt) (<-zeroV P e) (<-c.opd x) (<-c.opd k) ok)
   |_=>none
 | .mapUpdate t m k x=>do
   match P.underlying t with
   |some (.map kt _)=>some (.mapup (<-keyK P kt) (<-c.opd m) (<-c.opd k) (<-c.opd x))
   |_=>none
 | .extract x i=>do some (.ext i (<-c.opd x))
 | .call cl=>match cl.callee with
   | .value (.func f)=>do some (.call f (<-c.opds cl.args))
   | .value x=>do some (.callv (<-c.opd x) (<-c.opds cl.args))
   | .builtin .len=>do
     let x<-c.opd (<-cl.args[0]?)
     match P.underlying (<-cl.argTypes[0]?)with
     |some (.slice _)=>some (.len 0 x)
     |some .string=>some (.len 1 x)
     |some (.map _ _)=>some (.len 2 x)
     |_=>none
   | .builtin .append=>do
     let t<-cl.argTypes[0]?
     let e<-elemT P t
     let zero<-zeroA P e
     let s<-cl.args[0]?
     let x<-cl.args[1]?
     if cl.argTypes= #[t,t]/\cl.args.size=2/\zero.length=P.cellsOf e then some (.app (P.cellsOf e) (P.bytesOf e) (<-c.opd s) (<-c.opd x))else none
   | .builtin .max=>do some (.mx (<-c.opds cl.args))
   | .builtin .min=>do some (.mn (<-c.opds cl.args))
   |_=>none
 |_=>none
def TC.reg(c:TC):List Oper->Option (List AOper)
 |[]=>some []
 | o::os=>do
   let (d,l)<-match o.dst with
    |none=>some (Dst.loc,none)
    | some t=>if t<c.nt then match c.vars.findIdx? (· ==t)with
      |some n=>some (Dst.var n,none)
      |none=>if c.locs.contains (some t)then none else some (Dst.loc,some t)else none
   let op:=(c.op o.op).getD .dies
   let g:Option (Opd×Bool)<-match o.guard with
    |none=>some none
    | some (j,b)=>match c.locs[j]? with
      |some (some t)=>if c.locs.findIdx? (· ==some t)=some j then some (some (.l j,b))else none
      |_=>none
   let rest<-TC.reg {c with locs:=c.locs++[l]} os
   some (⟨d,op,g⟩::rest)
def depsOf(ops:List Oper):List (List Nat):=
 ops.foldl (fun acc o=>acc++[((o.after.toList.filter (Region.binds .any)).flatMap fun e=>e.on::acc.getD e.on []).eraseDups]) []
def nodupB:List Nat->Bool
 |[]=>true
 |x::xs=>!xs.contains x&&nodupB xs
def depsOK(ops:List Oper):Bool:=
 nodupB (ops.filterMap (·.dst)) && ops.zipIdx.all fun (o,i) => (o.after.all fun e => !Region.binds .any e || e.on < i) && (match o.guard with
  |none=>true
  |some (j,_)=>o.after.any fun e=>e.on==j&&Region.binds .any e)
def TC.regD(c:TC)(D:List (List Nat)):Nat->List Oper->Option (List (AOper×Option Nat))
 |_,[]=>some []
 | i,o::os=>do
   let (d,l,v)<-match o.dst with
    |none=>some (Dst.loc,none,none)
    | some t=>if t<c.nt then if c.locs.contains (some t)then none else match c.vars.findIdx? (· ==t)with
      |some n=>if fullAt D i then some (Dst.var n,none,none)else some (Dst.loc,some t,some n)
      |none=>some (Dst.loc,some t,none)else none
   let op:=(c.op o.op).getD .dies
   let g:Option (Opd×Bool)<-match o.guard with
    |none=>some none
    | some (j,b)=>match c.locs[j]? with
      |some (some t)=>if c.locs.findIdx? (· ==some t)=some j then some (some (.l j,b))else none
      |_=>none
   let rest<-TC.regD {c with locs:=c.locs++[l]} D (i+1) os
   some ((⟨d,op,g⟩,v)::rest)
def trC(P:Program)(nt:Nat)(vars:List Nat)(dead:Nat->List Nat)(b:Nat):Code->AC
 | .skip=> .skip
 | .region _ ops false=>match TC.reg ⟨P,nt,vars,[]⟩ ops.toList with
   |some l=> .reg l none
   |none=> .no
 | .region _ ops true=>match TC.regD ⟨P,nt,vars,[]⟩ (depsOf ops.toList) 0 ops.toList with
   |some l=>if depsOK ops.toList then .reg (l.map (·.1)) (some (depsOf ops.toList,l.map (·.2)))else .no
   |none=> .no
 | .seq x y=> .seq (trC P nt vars dead b x) (trC P nt vars dead b y)
 | .cond c x y=>match TC.opd ⟨P,nt,vars,[]⟩ c with
   |some c=> .cond c (trC P nt vars dead b x) (trC P nt vars dead b y)
   |none=> .no
 | .block id c=> .block id (trC P nt vars dead id c)
 | .loop c=> .loop (dead b) (trC P nt vars dead b c)
 | .exit id=> .exit id
 | .scope c=> .scope (trC P nt vars dead b c) (trC P nt vars dead b c)
 | .label l=> .label l
 | .goto l=> .goto l
 | .ret=> .ret
 |_=> .no
def idxV(vars:List Nat)(t:Nat):Nat:=(vars.findIdx? (· ==t)).getD 100000
def resOK(P:Program)(vars:List Nat):ResultVar->Bool
 | .tmp t=>vars.contains t
 | .cell a t=>vars.contains a&&(P.underlying t).isSome
def trF(P:Program)(vars:List Nat)(dead:Nat->List Nat)(fn:Func):Option AF:=
 match fn.body with
 |none=>none
 | some c => if vars.all (· < fn.ntmps) && nodupB vars && vars.take (fn.params.size + fn.nfree) == List.range (fn.params.size + fn.nfree) && fn.params.size + fn.nfree <= fn.ntmps && fn.results.all (resOK P vars) && !(fn.name == "runtime.NumGoroutine") then some {
    np:=fn.params.size+fn.nfree
    nv:=vars.length
    body:=trC P fn.ntmps vars dead 0 c
    res:=fn.results.toList.map fun
     | .tmp t=> .var (idxV vars t)
     | .cell a t=> .cell (idxV vars a) (isAggT P t) (P.cellsOf t)}else none
def AC.strip:AC->AC
 | .seq a b=>match a with
   | .frz _ _=>b.strip
   |_=> .seq a.strip b.strip
 | .cond c a b=> .cond c a.strip b.strip
 | .block i c=> .block i c.strip
 | .loop _ c=> .loop [] c.strip
 | .scope b c=> .scope b.strip c.strip
 |x=>x
end Go.Ab
end
section
namespace Go.Ab
open Go.RowKit
inductive Ow where
 |frn|bx (b:Nat)|row (p:Pl)|tmp (p:Pl) -- tmp:what an append has made of the row at p
structure G where
 ow:Nat->Option Ow -- whose a block is
 hd:Pl->Nat×Nat -- of a place's row its block and its capacity
 blk:Nat->Nat -- of a box its block
abbrev cell(w:World)(b o:Nat):Option Value:=w.cell? ⟨b,o,none⟩
theorem cell_of{w:World}{b o:Nat}{cur:Array Value}{e:TypeId}{fr:Nat×Nat}(h:w.heap[b]?=some (.cells cur e fr)):cell w b o=cur[o]?:=by
 simp[cell,World.cell?,h]
theorem cell_congr{w w':World}{b:Nat}(h:w'.heap[b]?=w.heap[b]?)(o:Nat):cell w' b o=cell w b o:=by
 simp[cell,World.cell?,h]
theorem cell_lt{w:World}{b o:Nat}{v:Value}(h:cell w b o=some v):b<w.heap.size:=World.block_lt_of_cell? w ⟨b,o,none⟩ h
def A.Row(a:A)(z:Nat)(es:List (List A)):Prop:=a= .imm false z es\/a= .own z es
inductive RepI(g:G)(w:World):A->Value->Prop
 |un (u:Value):u.oneCell'=true->RepI g w .un u
 |v (x:Value):x.oneCell'=true->RepI g w (.v x) x
 |emp (a:A) (z:Nat) (oa:Addr) (cap:Nat):a.Row z []->RepI g w a (.slice (some oa) 0 cap)
 |row (a:A) (z:Nat) (es:List (List A)) (b off cap:Nat) (u:Nat->Nat->Value):
    a.Row z es->es.length<=cap->g.ow b=none->b<w.heap.size->
    (∀e,e∈es->e.length=z)->
    (∀(i:Nat) e (c:Nat) x,es[i]?=some e->e[c]?=some x->cell w b (off+(i*z+c))=some (u i c))->
    (∀(i:Nat) e (c:Nat) x,es[i]?=some e->e[c]?=some x->RepI g w x (u i c))->
    RepI g w a (.slice (some ⟨b,off,none⟩) es.length cap)
 |nilr (z:Nat):RepI g w (.imm true z []) (.slice none 0 0)
 |pimm (cs:List A) (b off:Nat) (u:Nat->Value):g.ow b=none->b<w.heap.size->
    (∀(c:Nat) x,cs[c]?=some x->cell w b (off+c)=some (u c))->
    (∀(c:Nat) x,cs[c]?=some x->RepI g w x (u c))->
    RepI g w (.pimm cs) (.pointer (some ⟨b,off,none⟩))
 |clo (f:Nat):RepI g w (.clo f [] []) (.func (.func f) #[] #[])
 |ifc (t:Nat) (x:A) (u:Value):RepI g w x u->RepI g w (.ifc t x) (.iface t u)
 |agg (cs:List A) (us:List Value):cs.length=us.length->
    (∀(c:Nat) x u,cs[c]?=some x->us[c]?=some u->RepI g w x u)->RepI g w (.agg cs) (.agg us.toArray)
structure Later(g:G)(w:World)(g':G)(w':World):Prop where
 size:w.heap.size<=w'.heap.size
 free:∀ b,b<w.heap.size->g.ow b=none->g'.ow b=none
 same:∀ b,b<w.heap.size->g.ow b=none->w'.heap[b]?=w.heap[b]?
 frn:∀ b,b<w.heap.size->g.ow b=some .frn->g'.ow b=some .frn/\w'.heap[b]?=w.heap[b]?
theorem Later.refl(g:G)(w:World):Later g w g w:=⟨Nat.le_refl _,fun _ _ h=>h,fun _ _ _=>rfl,fun _ _ h=>⟨h,rfl⟩⟩
theorem Later.trans{g g' g'':G}{w w' w'':World}(h:Later g w g' w')(k:Later g' w' g'' w''):Later g w g'' w'':=
 ⟨Nat.le_trans h.size k.size,fun b hb hn => k.free b (Nat.lt_of_lt_of_le hb h.size) (h.free b hb hn),
  fun b hb hn=>(k.same b (Nat.lt_of_lt_of_le hb h.size) (h.free b hb hn)).trans (h.same b hb hn),
  fun b hb hn=>⟨(k.frn b (Nat.lt_of_lt_of_le hb h.size) (h.frn b hb hn).1).1,(k.frn b (Nat.lt_of_lt_of_le hb h.size) (h.frn b hb hn).1).2.trans (h.frn b hb hn).2⟩⟩
theorem RepI.later{g g':G}{w w':World}(h:Later g w g' w'){a:A}{v:Value}(r:RepI g w a v):RepI g' w' a v:=by
 induction r with
 |un u h=>exact .un u h
 |v x h=>exact .v x h
 |emp a z oa cap ha=>exact .emp a z oa cap ha
 | row a z es b off cap u ha hc hn hb hl hu _ ih=>
   exact .row a z es b off cap u ha hc (h.free b hb hn) (Nat.lt_of_lt_of_le hb h.size) hl
    (fun i e c x he hx=>by rw[cell_congr (h.same b hb hn)];exact hu i e c x he hx) ih
 |nilr z=>exact .nilr z
 | pimm cs b off u hn hb hu _ ih=>
   exact .pimm cs b off u (h.free b hb hn) (Nat.lt_of_lt_of_le hb h.size)
    (fun c x hx=>by rw[cell_congr (h.same b hb hn)];exact hu c x hx) ih
 |clo f=>exact .clo f
 |ifc t x u _ ih=>exact .ifc t x u ih
 |agg cs us hl _ ih=>exact .agg cs us hl ih
theorem RepI.leaf{g:G}{w:World}{a:A}{v:Value}(r:RepI g w a v):RepI g w (immLeaf a) v:=by
 cases a with
 | own z es=>
   cases r with
   | emp _ z oa cap ha=>
     rcases ha with ha|ha
     ·cases ha
     ·cases ha;exact .emp _ z oa cap (.inl rfl)
   | row _ z es b off cap u ha hc hn hb hl hu hr=>
     rcases ha with ha|ha
     ·cases ha
     ·cases ha;exact .row _ z es b off cap u (.inl rfl) hc hn hb hl hu hr
 |_=>exact r
def A.leaf:A->Bool
 | .un=>true| .v _=>true| .imm _ _ _=>true| .pimm _=>true| .clo _ [] []=>true| .ifc _ _=>true
 |_=>false
inductive RepO(g:G)(w:World):Pl->A->Value->Prop
 |imm (p:Pl) (a:A) (v:Value):RepI g w a v->a.leaf=true->RepO g w p a v
 |own (p:Pl) (z:Nat) (es:List (List A)) (b cap:Nat) (cur:Array Value) (t:TypeId) (u:Nat->Nat->Value):
    g.hd p=(b,cap)->g.ow b=some (.row p)->w.heap[b]?=some (.cells cur t (0,0))->cur.size=cap*z->es.length<=cap->cap<=maxLen->
    (∀e,e∈es->e.length=z)->
    (∀(i:Nat) e (c:Nat) x,es[i]?=some e->e[c]?=some x->cur[i*z+c]?=some (u i c))->
    (∀(i:Nat) e (c:Nat) x,es[i]?=some e->e[c]?=some x->RepO g w (p.at i c) x (u i c))->
    RepO g w p (.own z es) (.slice (some ⟨b,0,none⟩) es.length cap)
def Pl.under(q r:Pl):Prop:=q.r=r.r/\ ∃s,r.s=q.s++s
theorem Pl.under_refl(q:Pl):q.under q:=⟨rfl,[],by simp⟩
theorem Pl.under_at{q r:Pl}(h:q.under r)(i c:Nat):q.under (r.at i c):=by
 obtain⟨h1,s,h2⟩:=h;exact⟨h1,s++[(i,c)],by simp[Pl.at,h2]⟩
theorem Pl.under_of_at{q:Pl}{i c:Nat}{r:Pl}(h:(q.at i c).under r):q.under r:=by
 obtain⟨h1,s,h2⟩:=h;exact⟨h1,(i,c)::s,by simp[h2,Pl.at]⟩
theorem Pl.under_trans{q r t:Pl}(h:q.under r)(k:r.under t):q.under t:=by
 obtain⟨h1,s,h2⟩:=h;obtain⟨k1,s',k2⟩:=k;exact⟨h1.trans k1,s++s',by rw[k2,h2,List.append_assoc]⟩
structure Stays(p:Pl)(g:G)(w:World)(g':G)(w':World):Prop extends Later g w g' w' where
 hd:∀ r,p.under r->g'.hd r=g.hd r
 ow:∀ r b,p.under r->g.ow b=some (.row r)->g'.ow b=some (.row r)
 row:∀ r b,p.under r->g.ow b=some (.row r)->w'.heap[b]?=w.heap[b]?
theorem Stays.at{p:Pl}{g g':G}{w w':World}(h:Stays p g w g' w')(i c:Nat):Stays (p.at i c) g w g' w':=
 ⟨h.toLater,fun r hr=>h.hd r (Pl.under_of_at hr),fun r b hr=>h.ow r b (Pl.under_of_at hr),fun r b hr=>h.row r b (Pl.under_of_at hr)⟩
theorem RepO.stays{g g':G}{w w':World}{p:Pl}{a:A}{v:Value}(r:RepO g w p a v):Stays p g w g' w'->RepO g' w' p a v:=by
 induction r with
 |imm p a v hi ha=>exact fun h=> .imm p a v (hi.later h.toLater) ha
 | own p z es b cap cur t u h1 h2 h3 h4 h5 h6 h7 h8 _ ih=>
   exact fun h=> .own p z es b cap cur t u ((h.hd p (Pl.under_refl p)).trans h1) (h.ow p b (Pl.under_refl p) h2)
    ((h.row p b (Pl.under_refl p) h2).trans h3) h4 h5 h6 h7 h8 (fun i e c x he hx=>ih i e c x he hx (h.at i c))
def Pl.plus(p:Pl)(s:List (Nat×Nat)):Pl:=⟨p.r,p.s++s⟩
theorem Pl.plus_nil(p:Pl):p.plus []=p:=by simp[Pl.plus]
theorem Pl.plus_cons(p:Pl)(i c:Nat)(s:List (Nat×Nat)):p.plus ((i,c)::s)=(p.at i c).plus s:=by simp[Pl.plus,Pl.at]
theorem Pl.under_plus(p:Pl)(s:List (Nat×Nat)):p.under (p.plus s):=⟨rfl,s,rfl⟩
theorem Pl.under_iff(p q:Pl):p.under q↔ ∃s,q=p.plus s:=by
 constructor
 ·rintro⟨h1,s,h2⟩;exact⟨s,by cases q;cases p;simp_all [Pl.plus]⟩
 ·rintro⟨s,rfl⟩;exact Pl.under_plus p s
theorem Pl.at_apart{p r:Pl}{i c j d:Nat}(h:(i,c)≠(j,d))(h1:(p.at i c).under r)(h2:(p.at j d).under r):False:=by
 obtain⟨_,s,e1⟩:=h1;obtain⟨_,t,e2⟩:=h2;rw[e1]at e2;simp[Pl.at]at e2;exact h (Prod.ext e2.1.1 e2.1.2)
theorem child_own{z:Nat}{es:List (List A)}{i c:Nat}{y:A}(h:child (.own z es) (i,c)=some y):∃ e,es[i]?=some e/\e[c]?=some y:=by
 simp only[child]at h;split at h
 ·rename_i e he;exact⟨e,he,h⟩
 ·cases h
theorem leaf_child{a:A}(h:a.leaf=true)(q:Nat×Nat):child a q=none:=by
 cases a<;>simp_all [A.leaf,child]
theorem RepO.get{g:G}{w:World}:∀ (s:List (Nat×Nat)) {p:Pl} {a:A} {v:Value} {y:A},RepO g w p a v->getS a s=some y-> ∃u,RepO g w (p.plus s) y u
 | [],p,a,v,y,r,h=>by
   simp only[getS,Oe]at h;subst h;exact⟨v,by rw[Pl.plus_nil];exact r⟩
 | (i,c)::s,p,a,v,y,r,h=>by
   simp only[getS]at h;cases r with
   |imm _ _ _ hi ha=>rw[leaf_child ha]at h;cases h
   | own _ z es b cap cur t u h1 h2 h3 h4 h5 h6 h7 h8 h9=>
     cases hc:child (.own z es) (i,c)with
     |none=>rw[hc]at h;cases h
     | some x=>
       rw[hc]at h;obtain⟨e,he,hx⟩:=child_own hc;have:=RepO.get s (h9 i e c x he hx) h
       rwa [<-Pl.plus_cons]at this
structure Turns(p q:Pl)(g:G)(w:World)(g':G)(w':World):Prop extends Later g w g' w' where
 hd:∀ r,p.under r-> ¬q.under r->g'.hd r=g.hd r
 ow:∀ r b,p.under r-> ¬q.under r->g.ow b=some (.row r)->g'.ow b=some (.row r)
 row:∀ r b,p.under r-> ¬q.under r->g.ow b=some (.row r)->w'.heap[b]?=w.heap[b]?
theorem Turns.stays{p q r0:Pl}{g g':G}{w w':World}(h:Turns p q g w g' w')(hp:p.under r0)(hq:∀ r,r0.under r-> ¬q.under r):Stays r0 g w g' w':=
 { h.toLater with
   hd:=fun r hr=>h.hd r (Pl.under_trans hp hr) (hq r hr)
   ow:=fun r b hr=>h.ow r b (Pl.under_trans hp hr) (hq r hr)
   row:=fun r b hr=>h.row r b (Pl.under_trans hp hr) (hq r hr)}
theorem Turns.at{p q:Pl}{g g':G}{w w':World}(h:Turns p q g w g' w')(i c:Nat):Turns (p.at i c) q g w g' w':=
 { h.toLater with
   hd:=fun r hr=>h.hd r (Pl.under_of_at hr)
   ow:=fun r b hr=>h.ow r b (Pl.under_of_at hr)
   row:=fun r b hr=>h.row r b (Pl.under_of_at hr)}
theorem not_under_self{p:Pl}{i c:Nat}{s:List (Nat×Nat)}:¬ (p.plus ((i,c)::s)).under p:=by
 rintro⟨_,t,h⟩;have:=congrArg List.length h
 simp[Pl.plus]at this
theorem RepO.set{g g':G}{w w':World}:∀ (s:List (Nat×Nat)) {p:Pl} {a:A} {v:Value} {y y':A},RepO g w p a v->getS a s=some y->
  (∀u,RepO g w (p.plus s) y u->RepO g' w' (p.plus s) y' u)->Turns p (p.plus s) g w g' w'->RepO g' w' p (setS a s y') v
 | [],p,a,v,y,y',r,h,hy,_=>by
   simp only[getS,Oe]at h;subst h;rw[Pl.plus_nil]at hy;exact hy v r
 | (i,c)::s,p,a,v,y,y',r,h,hy,ht=>by
   simp only[getS]at h;cases r with
   |imm _ _ _ hi ha=>rw[leaf_child ha]at h;cases h
   | own _ z es b cap cur t u h1 h2 h3 h4 h5 h6 h7 h8 h9=>
     cases hc:child (.own z es) (i,c)with
     |none=>rw[hc]at h;cases h
     | some x=>
       rw[hc]at h;obtain⟨e,he,hx⟩:=child_own hc;rw[Pl.plus_cons]at hy;have hn:=RepO.set s (h9 i e c x he hx) h hy (by rw[<-Pl.plus_cons];exact ht.at i c)
       have hself:¬ (p.plus ((i,c)::s)).under p:=not_under_self
       have e1:setS (.own z es) ((i,c)::s) y'= .own z (es.set i (e.set c (setS x s y'))):=by
        simp only[setS,hc,setChild,he]
       have hlen:(es.set i (e.set c (setS x s y'))).length=es.length:=List.length_set;have hi:i<es.length:=(Ge he).1
       have hci:c<e.length:=(Ge hx).1;rw[e1,<-hlen]
       refine .own p z _ b cap cur t u ((ht.hd p (Pl.under_refl p) hself).trans h1) (ht.ow p b (Pl.under_refl p) hself h2)
        ((ht.row p b (Pl.under_refl p) hself h2).trans h3) h4 (by rw[hlen];exact h5) h6 ?_ ?_ ?_
       ·intro e' he';rcases List.mem_or_eq_of_mem_set he' with h'|rfl
        ·exact h7 e' h'
        ·rw[List.length_set];exact h7 e (Mg he)
       ·intro i' e' c' x' he' hx';rw[List.getElem?_set]at he';split at he'
        ·rename_i hii;subst hii;simp only[hi,if_true,Oe]at he';subst he';rw[List.getElem?_set]at hx';split at hx'
         ·rename_i hcc;subst hcc;exact h8 i e c x he hx
         ·exact h8 i e c' x' he hx'
        ·exact h8 i' e' c' x' he' hx'
       ·intro i' e' c' x' he' hx'
        have apart:∀ (i' c':Nat),(i,c)≠(i',c')-> ∀x'',RepO g w (p.at i' c') x'' (u i' c')->RepO g' w' (p.at i' c') x'' (u i' c'):=by
         intro i' c' hne x'' hr;refine hr.stays (ht.stays (Pl.under_at (Pl.under_refl p) i' c') ?_);intro r hr1 hr2;rw[Pl.plus_cons]at hr2;exact Pl.at_apart hne (Pl.under_trans (Pl.under_plus _ s) hr2) hr1
        rw[List.getElem?_set]at he';split at he'
        ·rename_i hii;subst hii;simp only[hi,if_true,Oe]at he';subst he';rw[List.getElem?_set]at hx';split at hx'
         ·rename_i hcc;subst hcc;simp only[hci,if_true,Oe]at hx';subst hx';exact hn
         ·rename_i hcc;exact apart i c' (fun h=>hcc (by injection h)) x' (h9 i e c' x' he hx')
        ·rename_i hii;exact apart i' c' (fun h=>hii (by injection h)) x' (h9 i' e' c' x' he' hx')
end Go.Ab
end
section
namespace Go.Ab
open Go.RowKit
open Classical in
noncomputable def G.mv(g:G)(p q:Pl):G where
 ow b:=match g.ow b with
  |some (.row r)=>if p.under r then some (.row (q.plus (r.s.drop p.s.length)))else some (.row r)
  |x=>x
 hd r:=if q.under r then g.hd (p.plus (r.s.drop q.s.length))else g.hd r
 blk:=g.blk
open Classical in
noncomputable def G.fr(g:G)(p:Pl):G where
 ow b:=match g.ow b with
  |some (.row r)=>if p.under r then none else some (.row r)
  |x=>x
 hd:=g.hd
 blk:=g.blk
theorem Pl.plus_at(p:Pl)(s:List (Nat×Nat))(i c:Nat):(p.plus s).at i c=p.plus (s++[(i,c)]):=by simp[Pl.plus,Pl.at]
theorem under_root{p q r:Pl}(h:p.under r)(k:q.under r):p.r=q.r:=h.1.trans k.1.symm
theorem mv_hd{g:G}{p q:Pl}(s:List (Nat×Nat)):(g.mv p q).hd (q.plus s)=g.hd (p.plus s):=by
 simp only[G.mv];rw[if_pos (Pl.under_plus q s)];simp[Pl.plus]
theorem mv_ow{g:G}{p q:Pl}{b:Nat}(s:List (Nat×Nat))(h:g.ow b=some (.row (p.plus s))):(g.mv p q).ow b=some (.row (q.plus s)):=by
 simp only[G.mv,h];rw[if_pos (Pl.under_plus p s)];simp[Pl.plus]
theorem mv_ow_other{g:G}{p q r:Pl}{b:Nat}(h:g.ow b=some (.row r))(hn:¬ p.under r):(g.mv p q).ow b=some (.row r):=by
 simp only[G.mv,h];rw[if_neg hn]
theorem mv_hd_other{g:G}{p q r:Pl}(hn:¬ q.under r):(g.mv p q).hd r=g.hd r:=by
 simp only[G.mv];rw[if_neg hn]
theorem mv_none{g:G}{p q:Pl}{b:Nat}(h:g.ow b=none):(g.mv p q).ow b=none:=by simp only[G.mv,h]
theorem mv_bx{g:G}{p q:Pl}{b k:Nat}(h:g.ow b=some (.bx k)):(g.mv p q).ow b=some (.bx k):=by simp only[G.mv,h]
theorem mv_some{g:G}{p q:Pl}{b:Nat}(h:(g.mv p q).ow b≠none):g.ow b≠none:=fun e=>h (mv_none e)
theorem mv_tmp{g:G}{p q r:Pl}{b:Nat}(h:g.ow b=some (.tmp r)):(g.mv p q).ow b=some (.tmp r):=by simp only[G.mv,h]
theorem mv_later(g:G)(w:World)(p q:Pl):Later g w (g.mv p q) w:=⟨Nat.le_refl _,fun _ _ h=>mv_none h,fun _ _ _=>rfl,fun b _ h=>⟨by simp only[G.mv,h],rfl⟩⟩
theorem mv_rep{g:G}{w:World}{p q:Pl}{r:Pl}{a:A}{v:Value}(h:RepO g w r a v):∀ s,r=p.plus s->RepO (g.mv p q) w (q.plus s) a v:=by
 induction h with
 |imm r a v hi ha=>exact fun s _=> .imm _ a v (hi.later (mv_later g w p q)) ha
 | own r z es b cap cur t u h1 h2 h3 h4 h5 h6 h7 h8 _ ih=>
   intro s hs;subst hs;refine .own _ z es b cap cur t u ((mv_hd s).trans h1) (mv_ow s h2) h3 h4 h5 h6 h7 h8 ?_;intro i e c x he hx;rw[Pl.plus_at];exact ih i e c x he hx (s++[(i,c)]) (Pl.plus_at p s i c)
theorem fr_later(g:G)(w:World)(p:Pl):Later g w (g.fr p) w:=⟨Nat.le_refl _,fun b _ h=>by simp only[G.fr,h],fun _ _ _=>rfl,fun b _ h=>⟨by simp only[G.fr,h],rfl⟩⟩
theorem fr_ow{g:G}{p r:Pl}{b:Nat}(h:g.ow b=some (.row r))(hu:p.under r):(g.fr p).ow b=none:=by
 simp only[G.fr,h];rw[if_pos hu]
theorem fr_ow_other{g:G}{p r:Pl}{b:Nat}(h:g.ow b=some (.row r))(hu:¬ p.under r):(g.fr p).ow b=some (.row r):=by
 simp only[G.fr,h];rw[if_neg hu]
theorem fr_bx{g:G}{p:Pl}{b k:Nat}(h:g.ow b=some (.bx k)):(g.fr p).ow b=some (.bx k):=by simp only[G.fr,h]
theorem fr_tmp{g:G}{p r:Pl}{b:Nat}(h:g.ow b=some (.tmp r)):(g.fr p).ow b=some (.tmp r):=by simp only[G.fr,h]
theorem fr_some{g:G}{p:Pl}{b:Nat}(h:(g.fr p).ow b≠none):g.ow b≠none:=fun e=>h (by simp only[G.fr,e])
theorem heap_lt{w:World}{b:Nat}{o:Obj}(h:w.heap[b]?=some o):b<w.heap.size:=(Array.getElem?_eq_some_iff.1 h).1
theorem fr_rep{g:G}{w:World}{p r:Pl}{a:A}{v:Value}(h:RepO g w r a v):p.under r->RepI (g.fr p) w a v:=by
 induction h with
 |imm r a v hi ha=>exact fun _=>hi.later (fr_later g w p)
 | own r z es b cap cur t u h1 h2 h3 h4 h5 h6 h7 h8 _ ih=>
   intro hr;refine .row _ z es b 0 cap u (.inr rfl) h5 (fr_ow h2 hr) (heap_lt h3) h7 ?_ ?_
   ·intro i e c x he hx;rw[cell_of h3,Nat.zero_add];exact h8 i e c x he hx
   ·exact fun i e c x he hx=>ih i e c x he hx (Pl.under_at hr i c)
def St.R(σ:St)(q:Pl):Option (Nat×Nat):=
 match σ.row q with
 |some (z,es)=>some (z,es.length)
 |none=>none
structure Vw where
 R:Pl->Option (Nat×Nat)
 nl:Nat
 nb:Nat
def Vw.ok(V:Vw)(q:Pl):Prop:=
 match q.r with
 | .loc k=>k<V.nl
 | .box b _=>b<V.nb
 | .var _=>True
 | .hand _=>False
def RepK(g:G)(w:World)(nb:Nat)(x:A)(u:Value):Prop:=
 match x with
 | .pt b c=>b<nb/\u= .pointer (some ⟨g.blk b,c,none⟩)
 | .mp b=>b<nb/\u= .map (some (g.blk b))
 |x=>RepI g w x u
def RepC(g:G)(w:World)(nb:Nat)(p:Pl)(a:A)(v:Value):Prop:=
 match a with
 | .pt b c=>b<nb/\v= .pointer (some ⟨g.blk b,c,none⟩)
 | .mp b=>b<nb/\v= .map (some (g.blk b))
 | .clo f xs ys=> ∃us vs:List Value,v= .func (.func f) us.toArray vs.toArray/\xs.length=us.length/\ys.length=vs.length/\
    (∀(c:Nat) x u,xs[c]?=some x->us[c]?=some u->RepK g w nb x u)/\(∀(c:Nat) x u,ys[c]?=some x->vs[c]?=some u->RepK g w nb x u)
 |a=>RepO g w p a v
def RepS(g:G)(V:Vw)(q:Pl)(v:Value):Prop:=
 V.ok q/\v.oneCell'=true/\ ∀z n,V.R q=some (z,n)->v= .slice (some ⟨(g.hd q).1,0,none⟩) n (g.hd q).2
def RepE(g:G)(w:World)(V:Vw)(x:A)(u:Value):Prop:=
 match x with
 | .sref q=>RepS g V q u
 |x=>x.leaf=true/\RepI g w x u
def AppOK(g:G)(w:World)(V:Vw)(z:Nat)(q:Pl)(n:Nat)(cs:List (Bool×List (List A)))(v:Value):Prop:=
 ∃(b cap:Nat) (cur:Array Value) (t:TypeId),v= .slice (some ⟨b,0,none⟩) (n+(flat cs).length) cap/\w.heap[b]?=some (.cells cur t (0,0))/\
  cur.size=cap*z/\n+(flat cs).length<=cap/\cap<=maxLen/\((b,cap)=g.hd q\/g.ow b=some (.tmp q))/\
  (∀o,o<n*z->cell w (g.hd q).1 o=cur[o]?)/\
  ∀(i:Nat) e,(flat cs)[i]?=some e->e.length=z/\ ∀(c:Nat) x,e[c]?=some x-> ∃u,cur[(n+i)*z+c]?=some u/\RepE g w V x u
def BldOK(g:G)(w:World)(V:Vw)(p:Pl)(z:Nat)(es:List (List A))(v:Value):Prop:=
 ∃(b cap:Nat) (cur:Array Value) (t:TypeId),v= .slice (some ⟨b,0,none⟩) es.length cap/\g.hd p=(b,cap)/\g.ow b=some (.row p)/\
  w.heap[b]?=some (.cells cur t (0,0))/\cur.size=cap*z/\es.length<=cap/\cap<=maxLen/\
  ∀(i:Nat) e,es[i]?=some e->e.length=z/\ ∀(c:Nat) x,e[c]?=some x-> ∃u,cur[i*z+c]?=some u/\RepE g w V x u
def RepL(g:G)(w:World)(V:Vw)(p:Pl)(a:A)(v:Value):Prop:=
 match a with
 | .sref q=>RepS g V q v
 | .sub q lo hi=>V.ok q/\v.oneCell'=true/\ ∀z n,V.R q=some (z,n)->lo<=hi/\hi<=n/\ ∃oa:Addr,v= .slice (some oa) (hi-lo) ((g.hd q).2-lo)/\(lo<hi\/lo=0->oa=⟨(g.hd q).1,lo*z,none⟩)
 | .pref q i c=>V.ok q/\v.oneCell'=true/\ ∀z n,V.R q=some (z,n)->i<n->v= .pointer (some ⟨(g.hd q).1,i*z+c,none⟩)
 | .app z q cs=>V.ok q/\v.oneCell'=true/\((∀c,c∈cs->c.1=false-> ∀e,e∈c.2-> ∀x,x∈e->x.leaf=true)/\ ∀r,r∈(flat cs).flatMap (·.flatMap refsE)->V.ok r)/\ ∀z' n,V.R q=some (z',n)->z'=z->AppOK g w V z q n cs v
 | .bld z es=>BldOK g w V p z es v
 |a=>RepC g w V.nb p a v
def RepA(g:G)(w:World)(V:Vw)(p:Pl)(a:A)(v:Value):Prop:=
 match a with
 | .agg cs=> ∃us:List Value,v= .agg us.toArray/\cs.length=us.length/\ ∀(c:Nat) x u,cs[c]?=some x->us[c]?=some u->RepL g w V (p.at 0 c) x u
 |a=>RepL g w V p a v
def RepT(g:G)(w:World)(V:Vw)(p:Pl)(a:A)(v:Value):Prop:=
 match a with
 | .top=>True
 | .ud=>v=undef
 | .tup xs=> ∃us:List Value,v= .tuple us.toArray/\xs.length=us.length/\ ∀(j:Nat) x u,xs[j]?=some x->us[j]?=some u->RepA g w V (p.at j 0) x u
 |a=>RepA g w V p a v
structure Tr(p:Pl)(g:G)(w:World)(V:Vw)(g':G)(w':World)(V':Vw)(rs as:List Pl):Prop extends Stays p g w g' w' where
 blk:∀ b,b<V.nb->g'.blk b=g.blk b
 nb:V.nb<=V'.nb
 ok:∀ q,q∈rs->V.ok q->V'.ok q
 ref:∀ q,q∈rs->V.ok q->V'.R q=none\/(V'.R q=V.R q/\g'.hd q=g.hd q)
 app:∀ q,q∈as->V.ok q->V'.R q=none\/(w'.heap[(g.hd q).1]?=w.heap[(g.hd q).1]?/\ ∀b,g.ow b=some (.tmp q)->g'.ow b=some (.tmp q)/\w'.heap[b]?=w.heap[b]?)
theorem Tr.sub{p:Pl}{g g':G}{w w':World}{V V':Vw}{rs as rs' as':List Pl}(h:Tr p g w V g' w' V' rs as)(h1:∀ q,q∈rs'->q∈rs)(h2:∀ q,q∈as'->q∈as):Tr p g w V g' w' V' rs' as':=
 {h with ok:=fun q hq=>h.ok q (h1 q hq),ref:=fun q hq=>h.ref q (h1 q hq),app:=fun q hq=>h.app q (h2 q hq)}
theorem Tr.at{p:Pl}{g g':G}{w w':World}{V V':Vw}{rs as:List Pl}(h:Tr p g w V g' w' V' rs as)(i c:Nat):Tr (p.at i c) g w V g' w' V' rs as:=
 {h with toStays:=h.toStays.at i c}
theorem RepK.tr{p:Pl}{g g':G}{w w':World}{V V':Vw}{rs as:List Pl}(h:Tr p g w V g' w' V' rs as){x:A}{u:Value}(r:RepK g w V.nb x u):RepK g' w' V'.nb x u:=by
 cases x<;>simp only[RepK]at r ⊢ <;>first
  |exact r.later h.toLater
  |exact⟨Nat.lt_of_lt_of_le r.1 h.nb,by rw[h.blk _ r.1];exact r.2⟩
theorem RepC.tr{p:Pl}{g g':G}{w w':World}{V V':Vw}{rs as:List Pl}(h:Tr p g w V g' w' V' rs as){a:A}{v:Value}(r:RepC g w V.nb p a v):RepC g' w' V'.nb p a v:=by
 cases a<;>simp only[RepC]at r ⊢ <;>first
  |exact RepO.stays r h.toStays
  |exact⟨Nat.lt_of_lt_of_le r.1 h.nb,by rw[h.blk _ r.1];exact r.2⟩
  |skip
 obtain⟨us,vs,h1,h2,h3,h4,h5⟩:=r;exact⟨us,vs,h1,h2,h3,fun c x u hx hu=>(h4 c x u hx hu).tr h,fun c x u hx hu=>(h5 c x u hx hu).tr h⟩
theorem RepS.tr{p:Pl}{g g':G}{w w':World}{V V':Vw}{rs as:List Pl}(h:Tr p g w V g' w' V' rs as){q:Pl}(hq:q∈rs){v:Value}(r:RepS g V q v):RepS g' V' q v:=by
 refine⟨h.ok q hq r.1,r.2.1,fun z n hR=>?_⟩;rcases h.ref q hq r.1 with h1|⟨h1,h2⟩
 ·rw[h1]at hR;cases hR
 ·rw[h2];exact r.2.2 z n (by rw[<-h1];exact hR)
theorem RepE.tr{p:Pl}{g g':G}{w w':World}{V V':Vw}{rs as:List Pl}(h:Tr p g w V g' w' V' rs as){x:A}(hx:∀ q,q∈refsE x->q∈rs){u:Value}(r:RepE g w V x u):RepE g' w' V' x u:=by
 cases x<;>simp only[RepE]at r ⊢ <;>first
  |exact⟨r.1,r.2.later h.toLater⟩
  |exact RepS.tr h (hx _ (by simp[refsE])) r
theorem mem_flat2{es:List (List A)}{i c:Nat}{e:List A}{x:A}{q:Pl}(he:es[i]?=some e)(hx:e[c]?=some x)(hq:q∈refsE x):q∈es.flatMap (·.flatMap refsE):=by
 rw[List.mem_flatMap];exact⟨e,Mg he,by rw[List.mem_flatMap];exact⟨x,Mg hx,hq⟩⟩
theorem RepL.tr{p:Pl}{g g':G}{w w':World}{V V':Vw}{rs as:List Pl}(h:Tr p g w V g' w' V' rs as){a:A}{v:Value}(h1:∀ q,q∈refsL a->q∈rs)(h2:∀ q,q∈appsL a->q∈as)
  (r:RepL g w V p a v):RepL g' w' V' p a v:=by
 cases a
 case sref q=>exact RepS.tr h (h1 _ (by simp[refsL])) r
 case sub q lo hi=>
  simp only[RepL]at r ⊢
  have hq:=h1 q (by simp[refsL]);refine⟨h.ok q hq r.1,r.2.1,fun z n hR=>?_⟩;rcases h.ref q hq r.1 with k1|⟨k1,k2⟩
  ·rw[k1]at hR;cases hR
  ·rw[k2];exact r.2.2 z n (by rw[<-k1];exact hR)
 case pref q i c=>
  simp only[RepL]at r ⊢
  have hq:=h1 q (by simp[refsL]);refine⟨h.ok q hq r.1,r.2.1,fun z n hR=>?_⟩;rcases h.ref q hq r.1 with k1|⟨k1,k2⟩
  ·rw[k1]at hR;cases hR
  ·rw[k2];exact r.2.2 z n (by rw[<-k1];exact hR)
 case app z q cs=>
  simp only[RepL]at r ⊢
  have hq:=h1 q (by simp[refsL]);have ha:=h2 q (by simp[appsL])
  refine⟨h.ok q hq r.1,r.2.1,⟨r.2.2.1.1,fun r' hr'=>h.ok r' (h1 r' (by simp only[refsL,List.mem_cons];exact .inr hr')) (r.2.2.1.2 r' hr')⟩,fun z' n hR hz=>?_⟩;rcases h.ref q hq r.1 with k1|⟨k1,k2⟩
  ·rw[k1]at hR;cases hR
  ·obtain⟨hb,hbt⟩:w'.heap[(g.hd q).1]?=w.heap[(g.hd q).1]?/\ ∀b,g.ow b=some (.tmp q)->g'.ow b=some (.tmp q)/\w'.heap[b]?=w.heap[b]?:=by
    rcases h.app q ha r.1 with k3|k3
    ·rw[k3]at hR;cases hR
    ·exact k3
   obtain⟨b,cap,cur,t,e1,e2,e3,e4,e5,e6,e7,e8⟩:=r.2.2.2 z' n (by rw[<-k1];exact hR) hz;refine⟨b,cap,cur,t,e1,?_,e3,e4,e5,?_,?_,?_⟩
   ·rcases e6 with e6|e6
    ·rw[<-e6]at hb;exact hb.trans e2
    ·exact(hbt b e6).2.trans e2
   ·rw[k2];exact e6.imp id (fun e=>(hbt b e).1)
   ·intro o ho;rw[k2,cell_congr hb];exact e7 o ho
   ·intro i e he;refine⟨(e8 i e he).1,fun c x hx=>?_⟩;obtain⟨u,hu,hr⟩:=(e8 i e he).2 c x hx;exact⟨u,hu,hr.tr h fun q' hq'=>h1 q' (by simp only[refsL,List.mem_cons];exact .inr (mem_flat2 he hx hq'))⟩
 case bld z es=>
  simp only[RepL]at r ⊢
  obtain⟨b,cap,cur,t,e1,e2,e3,e4,e5,e6,e7,e8⟩:=r;refine⟨b,cap,cur,t,e1,(h.hd p (Pl.under_refl p)).trans e2,h.ow p b (Pl.under_refl p) e3,(h.row p b (Pl.under_refl p) e3).trans e4,e5,e6,e7,?_⟩;intro i e he;refine⟨(e8 i e he).1,fun c x hx=>?_⟩;obtain⟨u,hu,hr⟩:=(e8 i e he).2 c x hx;exact⟨u,hu,hr.tr h fun q' hq'=>h1 q' (by simp only[refsL];exact mem_flat2 he hx hq')⟩
 all_goals (simp only[RepL]at r ⊢;exact RepC.tr h r)
theorem RepA.tr{p:Pl}{g g':G}{w w':World}{V V':Vw}{rs as:List Pl}(h:Tr p g w V g' w' V' rs as){a:A}{v:Value}(h1:∀ q,q∈refsA a->q∈rs)(h2:∀ q,q∈appsA a->q∈as)
  (r:RepA g w V p a v):RepA g' w' V' p a v:=by
 cases a
 case agg cs=>
  simp only[RepA]at r ⊢
  obtain⟨us,e1,e2,e3⟩:=r;refine⟨us,e1,e2,fun c x u hx hu=>(e3 c x u hx hu).tr (h.at 0 c) ?_ ?_⟩
  ·exact fun q hq=>h1 q (by simp only[refsA,List.mem_flatMap];exact⟨x,Mg hx,hq⟩)
  ·exact fun q hq=>h2 q (by simp only[appsA,List.mem_flatMap];exact⟨x,Mg hx,hq⟩)
 all_goals (simp only[RepA]at r ⊢;exact RepL.tr h h1 h2 r)
theorem RepT.tr{p:Pl}{g g':G}{w w':World}{V V':Vw}{rs as:List Pl}(h:Tr p g w V g' w' V' rs as){a:A}{v:Value}(h1:∀ q,q∈refsT a->q∈rs)(h2:∀ q,q∈appsT a->q∈as)
  (r:RepT g w V p a v):RepT g' w' V' p a v:=by
 cases a
 case tup cs=>
  simp only[RepT]at r ⊢
  obtain⟨us,e1,e2,e3⟩:=r;refine⟨us,e1,e2,fun c x u hx hu=>(e3 c x u hx hu).tr (h.at c 0) ?_ ?_⟩
  ·exact fun q hq=>h1 q (by simp only[refsT,List.mem_flatMap];exact⟨x,Mg hx,hq⟩)
  ·exact fun q hq=>h2 q (by simp only[appsT,List.mem_flatMap];exact⟨x,Mg hx,hq⟩)
 case top=>trivial
 case ud=>exact r
 all_goals (simp only[RepT]at r ⊢;exact RepA.tr h h1 h2 r)
end Go.Ab
end
section
namespace Go.Ab
open Go.RowKit
def St.view(σ:St):Vw:=⟨σ.R,σ.ls.length,σ.bx.length⟩
def St.view0(σ:St):Vw:=⟨σ.R,0,σ.bx.length⟩
def RepM(g:G)(w:World)(a:A)(v:Value):Prop:=
 match a with
 | .agg cs=> ∃us:List Value,v= .agg us.toArray/\cs.length=us.length/\ ∀(c:Nat) x u,cs[c]?=some x->us[c]?=some u->RepI g w x u/\x.leaf=true
 |a=>RepI g w a v
def BoxOK(g:G)(w:World)(nb b:Nat)(x:Bx):Prop:=
 match x with
 | .cells cs=>g.ow (g.blk b)=some (.bx b)/\ ∃(cur:Array Value) (t:TypeId),w.heap[g.blk b]?=some (.cells cur t (0,0))/\cur.size=cs.length/\
    ∀(c:Nat) x,cs[c]?=some x-> ∃u,cur[c]?=some u/\RepC g w nb ⟨.box b c,[]⟩ x u
 | .map es=>g.ow (g.blk b)=some (.bx b)/\ ∃(ents:Array MapEntry) (clk:Nat),w.heap[g.blk b]?=some (.map ents clk)/\ents.size=es.length/\
    ∀(i:Nat) k x,es[i]?=some (k,x)-> ∃e,ents[i]?=some e/\e.key=k/\RepM g w x e.val
 | .gone=>True
structure Inv(g:G)(σ:St)(w:World)(tv tl:Nat->Value):Prop where
 vars:∀ (n:Nat) x,σ.vs[n]?=some x->RepT g w σ.view0 ⟨.var n,[]⟩ x (tv n)
 locs:∀ (k:Nat) x,σ.ls[k]?=some x->RepT g w σ.view ⟨.loc k,[]⟩ x (tl k)
 boxes:∀ (b:Nat) x,σ.bx[b]?=some x->BoxOK g w σ.bx.length b x
 lt:∀ b,g.ow b≠none->b<w.heap.size
structure Keeps(r:Rt)(g:G)(w:World)(g':G)(w':World):Prop extends Later g w g' w' where
 blk:g'.blk=g.blk
 hd:∀ q:Pl,q.r≠r->g'.hd q=g.hd q
 ow:∀ (q:Pl) b,q.r≠r->g.ow b=some (.row q)->g'.ow b=some (.row q)
 row:∀ (q:Pl) b,q.r≠r->g.ow b=some (.row q)->w'.heap[b]?=w.heap[b]?
 owb:∀ b k,g.ow b=some (.bx k)->g'.ow b=some (.bx k)
 rowb:∀ b k,g.ow b=some (.bx k)->w'.heap[b]?=w.heap[b]?
 owt:∀ (q:Pl) b,q.r≠r->g.ow b=some (.tmp q)->g'.ow b=some (.tmp q)
 rowt:∀ (q:Pl) b,q.r≠r->g.ow b=some (.tmp q)->w'.heap[b]?=w.heap[b]?
 lt:(∀b,g.ow b≠none->b<w.heap.size)-> ∀b,g'.ow b≠none->b<w'.heap.size
theorem Keeps.refl(r:Rt)(g:G)(w:World):Keeps r g w g w:=
 {Later.refl g w with blk:=rfl,hd:=fun _ _=>rfl,ow:=fun _ _ _ h=>h,row:=fun _ _ _ _=>rfl,owb:=fun _ _ h=>h,rowb:=fun _ _ _=>rfl,owt:=fun _ _ _ h=>h,rowt:=fun _ _ _ _=>rfl,lt:=fun h=>h}
theorem Keeps.stays{r:Rt}{g g':G}{w w':World}(h:Keeps r g w g' w'){p:Pl}(hp:p.r≠r):Stays p g w g' w':=
 { h.toLater with
   hd:=fun q hq=>h.hd q (by rw[<-hq.1];exact hp)
   ow:=fun q b hq=>h.ow q b (by rw[<-hq.1];exact hp)
   row:=fun q b hq=>h.row q b (by rw[<-hq.1];exact hp)}
theorem RepK.later{g g':G}{w w':World}(h:Later g w g' w')(hb:g'.blk=g.blk){nb nb':Nat}(hn:nb<=nb'){x:A}{u:Value}(r:RepK g w nb x u):RepK g' w' nb' x u:=by
 cases x<;>simp only[RepK]at r ⊢ <;>first
  |exact r.later h
  |exact⟨Nat.lt_of_lt_of_le r.1 hn,by rw[hb];exact r.2⟩
theorem RepC.keeps{p:Pl}{g g':G}{w w':World}(h:Stays p g w g' w')(hb:g'.blk=g.blk){nb nb':Nat}(hn:nb<=nb'){a:A}{v:Value}(r:RepC g w nb p a v):RepC g' w' nb' p a v:=by
 cases a<;>simp only[RepC]at r ⊢ <;>first
  |exact RepO.stays r h
  |exact⟨Nat.lt_of_lt_of_le r.1 hn,by rw[hb];exact r.2⟩
  |skip
 obtain⟨us,vs,h1,h2,h3,h4,h5⟩:=r;exact⟨us,vs,h1,h2,h3,fun c x u hx hu=>(h4 c x u hx hu).later h.toLater hb hn,fun c x u hx hu=>(h5 c x u hx hu).later h.toLater hb hn⟩
theorem RepM.later{g g':G}{w w':World}(h:Later g w g' w'){a:A}{v:Value}(r:RepM g w a v):RepM g' w' a v:=by
 cases a<;>simp only[RepM]at r ⊢ <;>first
  |exact r.later h
  |skip
 obtain⟨us,h1,h2,h3⟩:=r;exact⟨us,h1,h2,fun c x u hx hu=>⟨(h3 c x u hx hu).1.later h,(h3 c x u hx hu).2⟩⟩
theorem BoxOK.keeps{r:Rt}(hr:∀ b c,r≠ .box b c){g g':G}{w w':World}(h:Keeps r g w g' w'){nb nb':Nat}(hn:nb<=nb'){b:Nat}{x:Bx}(k:BoxOK g w nb b x):BoxOK g' w' nb' b x:=by
 cases x with
 | cells cs=>
   simp only[BoxOK]at k ⊢
   obtain⟨h1,cur,t,h2,h3,h4⟩:=k;rw[h.blk];refine⟨h.owb _ _ h1,cur,t,(h.rowb _ _ h1).trans h2,h3,fun c x hx=>?_⟩;obtain⟨u,hu,hc⟩:=h4 c x hx;exact⟨u,hu,hc.keeps (h.stays (fun e=>hr b c e.symm)) h.blk hn⟩
 | map es=>
   simp only[BoxOK]at k ⊢
   obtain⟨h1,ents,clk,h2,h3,h4⟩:=k;rw[h.blk];refine⟨h.owb _ _ h1,ents,clk,(h.rowb _ _ h1).trans h2,h3,fun i k x hx=>?_⟩;obtain⟨e,he,hk,hv⟩:=h4 i k x hx;exact⟨e,he,hk,hv.later h.toLater⟩
 |gone=>trivial
theorem root_push{σ:St}{x:A}{r:Rt}(h:r≠ .loc σ.ls.length):({σ with ls:=σ.ls++[x]}:St).root r=σ.root r:=by
 cases r with
 | loc k=>
   simp only[St.root]
   by_cases hk:k<σ.ls.length
   ·rw[List.getElem?_append_left hk]
   ·have:k≠σ.ls.length:=fun e=>h (by rw[e]);rw[List.getElem?_append_right (by omega),List.getElem?_eq_none (by simp;omega),List.getElem?_eq_none (by omega)]
 |_=>rfl
theorem R_of_root{σ σ':St}{q:Pl}(h:σ'.root q.r=σ.root q.r):σ'.R q=σ.R q:=by
 simp only[St.R,St.row,St.get,h]
theorem R_push{σ:St}{x:A}{q:Pl}(h:q.r≠ .loc σ.ls.length):({σ with ls:=σ.ls++[x]}:St).R q=σ.R q:=R_of_root (root_push h)
def upd(f:Nat->Value)(k:Nat)(v:Value):Nat->Value:=fun j=>if j=k then v else f j
theorem upd_self(f:Nat->Value)(k:Nat)(v:Value):upd f k v k=v:=by simp[upd]
theorem upd_ne{f:Nat->Value}{k j:Nat}{v:Value}(h:j≠k):upd f k v j=f j:=by simp[upd,h]
theorem ok_root{V:Vw}{q:Pl}(h:V.ok q){k:Nat}(hk:V.nl<=k):q.r≠ .loc k:=by
 intro e;simp only[Vw.ok,e]at h;omega
def RowOK(g:G)(w:World)(q:Pl)(z:Nat)(es:List (List A))(C:Nat->Nat->A->Value->Prop):Prop:=
 ∃(b cap:Nat) (cur:Array Value) (t:TypeId),g.hd q=(b,cap)/\g.ow b=some (.row q)/\w.heap[b]?=some (.cells cur t (0,0))/\cur.size=cap*z/\
  es.length<=cap/\cap<=maxLen/\ ∀(i:Nat) e,es[i]?=some e->e.length=z/\ ∀(c:Nat) x,e[c]?=some x-> ∃u,cur[i*z+c]?=some u/\C i c x u
theorem RepO.rowOK{g:G}{w:World}{p:Pl}{z:Nat}{es:List (List A)}{v:Value}(r:RepO g w p (.own z es) v):
  RowOK g w p z es (fun i c=>RepO g w (p.at i c))/\v= .slice (some ⟨(g.hd p).1,0,none⟩) es.length (g.hd p).2:=by
 cases r with
 |imm _ _ _ hi ha=>simp[A.leaf]at ha
 | own _ z es b cap cur t u h1 h2 h3 h4 h5 h6 h7 h8 h9=>
   refine⟨⟨b,cap,cur,t,h1,h2,h3,h4,h5,h6,fun i e he=>⟨h7 e (Mg he),fun c x hx=>⟨u i c,h8 i e c x he hx,h9 i e c x he hx⟩⟩⟩,?_⟩;rw[h1]
theorem RepO.of_rowOK{g:G}{w:World}{p:Pl}{z:Nat}{es:List (List A)}(r:RowOK g w p z es (fun i c=>RepO g w (p.at i c))):
  RepO g w p (.own z es) (.slice (some ⟨(g.hd p).1,0,none⟩) es.length (g.hd p).2):=by
 obtain⟨b,cap,cur,t,h1,h2,h3,h4,h5,h6,h7⟩:=r;rw[h1]
 have h8:∀ (i:Nat) e (c:Nat) x,es[i]?=some e->e[c]?=some x->cur[i*z+c]?=some (cur.getD (i*z+c) undef)/\RepO g w (p.at i c) x (cur.getD (i*z+c) undef):=by
  intro i e c x he hx;obtain⟨u,hu,hr⟩:=(h7 i e he).2 c x hx
  have:cur.getD (i*z+c) undef=u:=by
   rw[Array.getD_eq_getD_getElem?,hu];rfl
  rw[this];exact⟨hu,hr⟩
 exact .own p z es b cap cur t (fun i c => cur.getD (i * z + c) undef) h1 h2 h3 h4 h5 h6 (fun e he => by
  obtain⟨i,hi⟩:=List.mem_iff_getElem?.1 he
  exact(h7 i e hi).1) (fun i e c x he hx=>(h8 i e c x he hx).1) (fun i e c x he hx=>(h8 i e c x he hx).2)
def Cell(g:G)(w:World)(V:Vw)(q:Pl)(i c:Nat)(x:A)(u:Value):Prop:=RepO g w (q.at i c) x u\/RepE g w V x u
theorem RowOK.mono{g:G}{w:World}{q:Pl}{z:Nat}{es:List (List A)}{C D:Nat->Nat->A->Value->Prop}(h:RowOK g w q z es C)(hc:∀ i c x u,C i c x u->D i c x u):RowOK g w q z es D:=by
 obtain⟨b,cap,cur,t,h1,h2,h3,h4,h5,h6,h7⟩:=h;exact⟨b,cap,cur,t,h1,h2,h3,h4,h5,h6,fun i e he=>⟨(h7 i e he).1,fun c x hx=>let ⟨u,hu,hr⟩:=(h7 i e he).2 c x hx;⟨u,hu,hc _ _ _ _ hr⟩⟩⟩
def isRowOf(y:A)(z:Nat)(es:List (List A)):Prop:=y= .own z es\/y= .bld z es
theorem RepC.get{g:G}{w:World}{nb:Nat}{p:Pl}{a:A}{v:Value}(r:RepC g w nb p a v){s:List (Nat×Nat)}{y:A}(h:getS a s=some y){z:Nat}{es:List (List A)}(hy:isRowOf y z es):
  y= .own z es/\ ∃u,RepO g w (p.plus s) (.own z es) u:=by
 have main:∀ a,RepO g w p a v->getS a s=some y->y= .own z es/\ ∃u,RepO g w (p.plus s) (.own z es) u:=by
  intro a r h;obtain⟨u,hu⟩:=r.get s h;rcases hy with rfl|rfl
  ·exact⟨rfl,u,hu⟩
  ·cases hu with
   |imm _ _ _ hi ha=>simp[A.leaf]at ha
 cases a<;>simp only[RepC]at r<;>first
  |exact main _ r h
  |(cases s<;>simp[getS,child]at h<;>(subst h;rcases hy with hy|hy<;>cases hy))
def RowAt(g:G)(w:World)(V:Vw)(q:Pl)(y:A)(z:Nat)(es:List (List A)):Prop:=
 (y= .own z es/\ ∃u,RepO g w q (.own z es) u)\/(y= .bld z es/\ ∃u,BldOK g w V q z es u)
theorem RowAt.rowOK{g:G}{w:World}{V:Vw}{q:Pl}{y:A}{z:Nat}{es:List (List A)}(h:RowAt g w V q y z es):RowOK g w q z es (Cell g w V q):=by
 rcases h with⟨_,u,hu⟩|⟨_,u,b,cap,cur,t,e1,e2,e3,e4,e5,e6,e7,e8⟩
 ·exact hu.rowOK.1.mono fun i c x u h=> .inl h
 ·exact⟨b,cap,cur,t,e2,e3,e4,e5,e6,e7,fun i e he=>⟨(e8 i e he).1,fun c x hx=>let ⟨u,hu,hr⟩:=(e8 i e he).2 c x hx;⟨u,hu,.inr hr⟩⟩⟩
theorem RepL.get{g:G}{w:World}{V:Vw}{p:Pl}{a:A}{v:Value}(r:RepL g w V p a v){s:List (Nat×Nat)}{y:A}(h:getS a s=some y){z:Nat}{es:List (List A)}(hy:isRowOf y z es):
  RowAt g w V (p.plus s) y z es:=by
 have main:RepC g w V.nb p a v->RowAt g w V (p.plus s) y z es:=by
  intro r;obtain⟨e,u,hu⟩:=r.get h hy;exact .inl ⟨e,u,hu⟩
 cases a<;>simp only[RepL]at r<;>first
  |exact main r
  |(cases s<;>simp[getS,child]at h<;>(subst h;rcases hy with hy|hy<;>cases hy);done)
  |skip
 rename_i z' es';cases s with
 | nil=>
   simp only[getS,Oe]at h;subst h;rcases hy with hy|hy<;>cases hy
   rw[Pl.plus_nil];exact .inr ⟨rfl,v,r⟩
 | cons q s=>
   obtain⟨i,c⟩:=q;simp only[getS]at h;cases hc:child (.bld z' es') (i,c)with
   |none=>rw[hc]at h;cases h
   | some x=>
     rw[hc]at h
     have hx:∃ e,es'[i]?=some e/\e[c]?=some x:=by
      simp only[child]at hc;split at hc
      ·rename_i e he;exact⟨e,he,hc⟩
      ·cases hc
     obtain⟨e,he,hx⟩:=hx;obtain⟨b,cap,cur,t,e1,e2,e3,e4,e5,e6,e7,e8⟩:=r;obtain⟨u,hu,hr⟩:=(e8 i e he).2 c x hx
     have hleaf:(∃q,x= .sref q)\/x.leaf=true:=by
      cases x<;>simp only[RepE]at hr<;>first|exact .inr hr.1|exact .inl ⟨_,rfl⟩
     have hch:∀ q,child x q=none:=by
      intro q;rcases hleaf with⟨q',rfl⟩|hl
      ·rfl
      ·exact leaf_child hl q
     cases s with
     | nil=>
       simp only[getS,Oe]at h;subst h;rcases hleaf with⟨q',rfl⟩|hl
       ·rcases hy with hy|hy<;>cases hy
       ·rcases hy with rfl|rfl<;>simp[A.leaf]at hl
     |cons q s=>simp only[getS,hch]at h;cases h
theorem RepA.get{g:G}{w:World}{V:Vw}{p:Pl}{a:A}{v:Value}(r:RepA g w V p a v){s:List (Nat×Nat)}{y:A}(h:getS a s=some y){z:Nat}{es:List (List A)}(hy:isRowOf y z es):
  RowAt g w V (p.plus s) y z es:=by
 cases a<;>simp only[RepA]at r<;>first
  |exact r.get h hy
  |skip
 rename_i cs;cases s with
 | nil=>
   simp only[getS,Oe]at h;subst h;rcases hy with hy|hy<;>cases hy
 | cons q s=>
   obtain⟨i,c⟩:=q;simp only[getS]at h;cases i with
   |succ i=>simp[child]at h
   | zero=>
     simp only[child]at h;cases hc:cs[c]? with
     |none=>rw[hc]at h;cases h
     | some x=>
       rw[hc]at h;obtain⟨us,h1,h2,h3⟩:=r;have hlt:c<us.length:=by rw[<-h2];exact(Ge hc).1
       have:=(h3 c x us[c] hc (Gg hlt)).get h hy
       rwa [<-Pl.plus_cons]at this
theorem RepT.get{g:G}{w:World}{V:Vw}{p:Pl}{a:A}{v:Value}(r:RepT g w V p a v){s:List (Nat×Nat)}{y:A}(h:getS a s=some y){z:Nat}{es:List (List A)}(hy:isRowOf y z es):
  RowAt g w V (p.plus s) y z es:=by
 cases a<;>simp only[RepT]at r<;>first
  |exact r.get h hy
  |(cases s<;>simp[getS,child]at h<;>(subst h;rcases hy with hy|hy<;>cases hy);done)
  |skip
 rename_i cs;cases s with
 | nil=>
   simp only[getS,Oe]at h;subst h;rcases hy with hy|hy<;>cases hy
 | cons q s=>
   obtain⟨i,c⟩:=q;simp only[getS]at h;cases c with
   |succ c=>simp[child]at h
   | zero=>
     simp only[child]at h;cases hc:cs[i]? with
     |none=>rw[hc]at h;cases h
     | some x=>
       rw[hc]at h;obtain⟨us,h1,h2,h3⟩:=r;have hlt:i<us.length:=by rw[<-h2];exact(Ge hc).1
       have:=(h3 i x us[i] hc (Gg hlt)).get h hy
       rwa [<-Pl.plus_cons]at this
theorem pl_eta(q:Pl):(⟨q.r,[]⟩:Pl).plus q.s=q:=by cases q;rfl
theorem RepE.view0{g:G}{w:World}{σ:St}{x:A}{u:Value}(h:RepE g w σ.view0 x u):RepE g w σ.view x u:=by
 cases x<;>simp only[RepE]at h ⊢ <;>first
  |exact h
  |refine⟨?_,h.2⟩
 have h1:=h.1;unfold Vw.ok at h1 ⊢
 split<;>rename_i e<;>simp only[e]at h1<;>first
  |exact absurd h1 (Nat.not_lt_zero _)
  |exact h1
theorem Inv.rowAt{g:G}{σ:St}{w:World}{tv tl:Nat->Value}(h:Inv g σ w tv tl){q:Pl}{y:A}{z:Nat}{es:List (List A)}(hy:σ.get q=some y)(hz:isRowOf y z es):
  RowAt g w σ.view q y z es:=by
 unfold St.get at hy;cases hroot:σ.root q.r with
 |none=>rw[hroot]at hy;cases hy
 | some a=>
   rw[hroot]at hy;dsimp only at hy
   have key:(∃v,RepT g w σ.view0 ⟨q.r,[]⟩ a v)\/(∃v,RepT g w σ.view ⟨q.r,[]⟩ a v)\/(∃v,RepC g w σ.bx.length ⟨q.r,[]⟩ a v):=by
    cases hq:q.r with
    |var n=>rw[hq]at hroot;exact .inl ⟨_,h.vars n a hroot⟩
    |loc k=>rw[hq]at hroot;exact .inr (.inl ⟨_,h.locs k a hroot⟩)
    | box b c=>
      rw[hq]at hroot;simp only[St.root]at hroot;split at hroot
      ·rename_i cs hcs;have:=h.boxes b _ hcs
       simp only[BoxOK]at this;obtain⟨_,cur,t,_,_,h4⟩:=this;obtain⟨u,_,hc⟩:=h4 c a hroot;exact .inr (.inr ⟨u,hc⟩)
      ·cases hroot
    |hand k=>rw[hq]at hroot;cases hroot
   rcases key with⟨v,hv⟩|⟨v,hv⟩|⟨v,hv⟩
   ·have:=hv.get hy hz;rw[pl_eta]at this;rcases this with⟨e,u,hu⟩|⟨e,u,b,cap,cur,t,e1,e2,e3,e4,e5,e6,e7,e8⟩
    ·exact .inl ⟨e,u,hu⟩
    ·exact .inr ⟨e,u,b,cap,cur,t,e1,e2,e3,e4,e5,e6,e7,fun i e he=>⟨(e8 i e he).1,fun c x hx=>let ⟨u,hu,hr⟩:=(e8 i e he).2 c x hx;⟨u,hu,hr.view0⟩⟩⟩
   ·have:=hv.get hy hz
    rwa [pl_eta]at this
   ·obtain⟨e,u,hu⟩:=hv.get hy hz;rw[pl_eta]at hu;exact .inl ⟨e,u,hu⟩
theorem row_get{σ:St}{q:Pl}{z:Nat}{es:List (List A)}(hr:σ.row q=some (z,es)):∃ y,σ.get q=some y/\isRowOf y z es:=by
 unfold St.row at hr
 split at hr<;>first
  |(rename_i e;cases hr;exact⟨_,e,.inl rfl⟩)
  |(rename_i e;cases hr;exact⟨_,e,.inr rfl⟩)
  |cases hr
theorem Inv.row{g:G}{σ:St}{w:World}{tv tl:Nat->Value}(h:Inv g σ w tv tl){q:Pl}{z:Nat}{es:List (List A)}(hr:σ.row q=some (z,es)):
  RowOK g w q z es (Cell g w σ.view q):=by
 obtain⟨y,hy,hz⟩:=row_get hr;exact(h.rowAt hy hz).rowOK
theorem Inv.owns{g:G}{σ:St}{w:World}{tv tl:Nat->Value}(h:Inv g σ w tv tl){q:Pl}{zn:Nat×Nat}(hr:σ.R q=some zn):g.ow (g.hd q).1=some (.row q):=by
 unfold St.R at hr;split at hr
 ·rename_i z es e;obtain⟨b,cap,cur,t,h1,h2,_⟩:=h.row e;rw[h1];exact h2
 ·cases hr
theorem Inv.push{g g':G}{σ:St}{w w':World}{tv tl:Nat->Value}(h:Inv g σ w tv tl)(hk:Keeps (.loc σ.ls.length) g w g' w'){x:A}{v:Value}
  (hx:RepT g' w' ({σ with ls:=σ.ls++[x]}:St).view ⟨.loc σ.ls.length,[]⟩ x v):Inv g' {σ with ls:=σ.ls++[x]} w' tv (upd tl σ.ls.length v):=by
 have tr:∀ (p:Pl) (V V':Vw),p.r≠ .loc σ.ls.length->V.R=σ.R->V.nl<=σ.ls.length->V'.R=({σ with ls:=σ.ls++[x]}:St).R->V.nl<=V'.nl->V'.nb=V.nb-> ∀rs as,Tr p g w V g' w' V' rs as:=by
  intro p V V' hp hR hl hR' hl' hb rs as;have hroot:∀ q,V.ok q->q.r≠ .loc σ.ls.length:=fun q hq=>ok_root hq hl
  have hRR:∀ q,V.ok q->V'.R q=V.R q:=fun q hq=>by rw[hR,hR'];exact R_push (hroot q hq)
  refine{hk.stays hp with blk:=fun b _=>by rw[hk.blk],nb:=by omega,ok:=?_,ref:=?_,app:=?_}
  ·intro q _ hq;unfold Vw.ok at hq ⊢
   split<;>rename_i e<;>simp only[e]at hq<;>first|omega|trivial
  ·intro q _ hq;exact .inr ⟨hRR q hq,hk.hd q (hroot q hq)⟩
  ·intro q _ hq;cases hn:V'.R q with
   |none=>exact .inl rfl
   | some zn=>
     rw[hRR q hq,hR]at hn;exact .inr ⟨hk.row q _ (hroot q hq) (h.owns hn),fun b hb=>⟨hk.owt q b (hroot q hq) hb,hk.rowt q b (hroot q hq) hb⟩⟩
 refine⟨fun n y hy=>?_,fun k y hy=>?_,fun b y hy=>?_,hk.lt h.lt⟩
 ·exact(h.vars n y hy).tr (tr _ σ.view0 ({σ with ls:=σ.ls++[x]}:St).view0 (by simp) rfl (Nat.zero_le _) rfl (Nat.le_refl _) rfl _ _) (fun _ h=>h) (fun _ h=>h)
 ·by_cases hkk:k<σ.ls.length
  ·rw[List.getElem?_append_left hkk]at hy;rw[upd_ne (by omega)];exact(h.locs k y hy).tr (tr _ σ.view ({σ with ls:=σ.ls++[x]}:St).view (by simp;omega) rfl (Nat.le_refl _) rfl (by simp[St.view]) rfl _ _) (fun _ h=>h) (fun _ h=>h)
  ·have hlen:k=σ.ls.length:=by
    have:=(Ge hy).1;simp at this;omega
   subst hlen;rw[List.getElem?_append_right (Nat.le_refl _)]at hy;simp only[Nat.sub_self,List.getElem?_cons_zero,Oe]at hy;subst hy;rw[upd_self];exact hx
 ·exact(h.boxes b y hy).keeps (by simp) hk (Nat.le_refl _)
end Go.Ab
end
section
namespace Go.Ab
open Go.RowKit
def rowLen:Option A->Option (Nat×Nat)
 |some (.own z es)=>some (z,es.length)
 |some (.bld z es)=>some (z,es.length)
 |_=>none
theorem R_eq(σ:St)(q:Pl):σ.R q=rowLen (σ.get q):=by
 unfold St.R St.row;cases h:σ.get q with
 |none=>rfl
 |some a=>cases a<;>rfl
theorem rowLen_setChild(a:A)(q:Nat×Nat)(x:A):rowLen (some (setChild a q x))=rowLen (some a):=by
 obtain⟨i,c⟩:=q;cases a with
 |own z es=>simp only[setChild];split<;>simp[rowLen]
 |bld z es=>simp only[setChild];split<;>simp[rowLen]
 |agg cs=>cases i<;>simp[setChild,rowLen]
 |tup vs=>cases c<;>simp[setChild,rowLen]
 |_=>simp[setChild]
theorem child_setChild(a:A)(q:Nat×Nat)(x y:A)(h:child a q=some y):child (setChild a q x) q=some x:=by
 obtain⟨i,c⟩:=q;cases a with
 | own z es=>
   simp only[child]at h;split at h
   ·rename_i e he;have hi:i<es.length:=(Ge he).1
    have hc:c<e.length:=(Ge h).1;simp only[setChild,he,child,List.getElem?_set_self hi,List.getElem?_set_self hc]
   ·cases h
 | bld z es=>
   simp only[child]at h;split at h
   ·rename_i e he;have hi:i<es.length:=(Ge he).1
    have hc:c<e.length:=(Ge h).1;simp only[setChild,he,child,List.getElem?_set_self hi,List.getElem?_set_self hc]
   ·cases h
 | agg cs=>
   cases i with
   | zero=>
     simp only[child]at h;have hc:c<cs.length:=(Ge h).1
     simp[setChild,child,hc]
   |succ i=>simp[child]at h
 | tup vs=>
   cases c with
   | zero=>
     simp only[child]at h;have hc:i<vs.length:=(Ge h).1
     simp[setChild,child,hc]
   |succ c=>simp[child]at h
 |_=>simp[child]at h
theorem child_setChild_ne(a:A)(q q':Nat×Nat)(x:A)(h:q≠q'):child (setChild a q x) q'=child a q':=by
 obtain⟨i,c⟩:=q;obtain⟨j,d⟩:=q';cases a with
 | own z es=>
   simp only[setChild];split
   ·rename_i e he;have hi:i<es.length:=(Ge he).1
    simp only[child,List.getElem?_set]
    by_cases hij:i=j
    ·subst hij;have hcd:c≠d:=fun e=>h (by rw[e])
     simp only[he,if_true,if_pos hi,List.getElem?_set,if_neg hcd]
    ·simp only[if_neg hij]
   ·rfl
 | bld z es=>
   simp only[setChild];split
   ·rename_i e he;have hi:i<es.length:=(Ge he).1
    simp only[child,List.getElem?_set]
    by_cases hij:i=j
    ·subst hij;have hcd:c≠d:=fun e=>h (by rw[e])
     simp only[he,if_true,if_pos hi,List.getElem?_set,if_neg hcd]
    ·simp only[if_neg hij]
   ·rfl
 | agg cs=>
   cases i with
   | zero=>
     simp only[setChild];cases j with
     | zero=>
       have hcd:c≠d:=fun e=>h (by rw[e]);simp[child,List.getElem?_set,hcd]
     |succ j=>simp[child]
   |succ i=>simp[setChild]
 | tup vs=>
   cases c with
   | zero=>
     simp only[setChild];cases d with
     | zero=>
       have hcd:i≠j:=fun e=>h (by rw[e]);simp[child,List.getElem?_set,hcd]
     |succ d=>simp[child]
   |succ c=>simp[setChild]
 |_=>simp[setChild]
theorem getS_setS_under:∀ (s t:List (Nat×Nat)) (a x y:A),getS a s=some y->getS (setS a s x) (s++t)=getS x t
 |[],t,a,x,y,_=>by simp[setS]
 | q::s,t,a,x,y,h=>by
   simp only[getS]at h;cases hc:child a q with
   |none=>rw[hc]at h;cases h
   | some b=>
     rw[hc]at h;simp only[setS,hc,List.cons_append,getS,child_setChild a q _ b hc];exact getS_setS_under s t b x y h
theorem rowLen_getS_setS:∀ (s t:List (Nat×Nat)) (a x:A),(∀t',t≠s++t')->rowLen (getS (setS a s x) t)=rowLen (getS a t)
 |[],t,a,x,h=>absurd rfl (h t)
 | q::s,[],a,x,_=>by
   simp only[setS];split
   ·simp only[getS];exact rowLen_setChild a q _
   ·rfl
 | q::s,q'::t,a,x,h=>by
   simp only[setS];split
   ·rename_i b hb;simp only[getS]
    by_cases hq:q=q'
    ·subst hq;rw[child_setChild a q _ b hb,hb];exact rowLen_getS_setS s t b x (fun t' e=>h t' (by rw[e];rfl))
    ·rw[child_setChild_ne a q q' _ hq]
   ·rfl
theorem root_setRoot_self{σ:St}{r:Rt}{a:A}(x:A)(h:σ.root r=some a):(σ.setRoot r x).root r=some x:=by
 cases r with
 | var n=>
   have:n<σ.vs.length:=(Ge h).1;simp[St.setRoot,St.root,this]
 | loc k=>
   have:k<σ.ls.length:=(Ge h).1;simp[St.setRoot,St.root,this]
 | box b c=>
   simp only[St.root]at h;split at h
   ·rename_i cs hcs;have hb:b<σ.bx.length:=(Ge hcs).1
    have hc:c<cs.length:=(Ge h).1;simp only[St.setRoot,St.root,hcs,List.getElem?_set_self hb,List.getElem?_set_self hc]
   ·cases h
 |hand k=>cases h
theorem root_setRoot_ne{σ:St}{r r':Rt}(x:A)(h:r≠r'):(σ.setRoot r x).root r'=σ.root r':=by
 cases r with
 | var n=>
   cases r' with
   | var m=>
     have:n≠m:=fun e=>h (by rw[e]);simp[St.setRoot,St.root,List.getElem?_set,this]
   |_=>rfl
 | loc n=>
   cases r' with
   | loc m=>
     have:n≠m:=fun e=>h (by rw[e]);simp[St.setRoot,St.root,List.getElem?_set,this]
   |_=>rfl
 | box b c=>
   simp only[St.setRoot];split
   ·rename_i cs hcs;have hb:b<σ.bx.length:=(Ge hcs).1
    cases r' with
    | box b' c'=>
      simp only[St.root,List.getElem?_set]
      by_cases hbb:b=b'
      ·subst hbb;have:c≠c':=fun e=>h (by rw[e])
       simp only[if_true,if_pos hb,hcs,List.getElem?_set,if_neg this]
      ·simp only[if_neg hbb]
    |_=>rfl
   ·rfl
 |hand k=>rfl
theorem get_set_under{σ:St}{p:Pl}{y:A}(x:A)(h:σ.get p=some y)(t:List (Nat×Nat)):(σ.set p x).get (p.plus t)=getS x t:=by
 unfold St.get at h;cases hr:σ.root p.r with
 |none=>rw[hr]at h;cases h
 | some a=>
   rw[hr]at h;dsimp only at h;unfold St.set St.get;rw[hr];simp only[Pl.plus,root_setRoot_self _ hr];exact getS_setS_under p.s t a x y h
theorem R_set_under{σ:St}{p:Pl}{y:A}(x:A)(h:σ.get p=some y)(t:List (Nat×Nat)):(σ.set p x).R (p.plus t)=rowLen (getS x t):=by
 rw[R_eq,get_set_under x h]
theorem R_set_other{σ:St}{p q:Pl}(x:A)(h:¬ p.under q):(σ.set p x).R q=σ.R q:=by
 rw[R_eq,R_eq];unfold St.set;cases hr:σ.root p.r with
 |none=>rfl
 | some a=>
   dsimp only
   unfold St.get
   by_cases hq:p.r=q.r
   ·rw[<-hq,root_setRoot_self _ hr,hr];exact rowLen_getS_setS p.s q.s a x (fun t e=>h ⟨hq,t,e⟩)
   ·rw[root_setRoot_ne _ hq]
theorem setRoot_lens(σ:St)(r:Rt)(x:A):(σ.setRoot r x).vs.length=σ.vs.length/\(σ.setRoot r x).ls.length=σ.ls.length/\(σ.setRoot r x).bx.length=σ.bx.length:=by
 cases r with
 |box b c=>simp only[St.setRoot];split<;>simp
 |_=>simp[St.setRoot]
theorem set_lens(σ:St)(p:Pl)(x:A):(σ.set p x).vs.length=σ.vs.length/\(σ.set p x).ls.length=σ.ls.length/\(σ.set p x).bx.length=σ.bx.length:=by
 unfold St.set;split
 ·exact setRoot_lens _ _ _
 ·exact⟨rfl,rfl,rfl⟩
structure KeepsP(p:Pl)(g:G)(w:World)(g':G)(w':World):Prop extends Later g w g' w' where
 blk:g'.blk=g.blk
 hd:∀ q:Pl,¬p.under q->(∀k,q.r≠ .hand k)->g'.hd q=g.hd q
 ow:∀ (q:Pl) b,¬p.under q->(∀k,q.r≠ .hand k)->g.ow b=some (.row q)->g'.ow b=some (.row q)
 row:∀ (q:Pl) b,¬p.under q->(∀k,q.r≠ .hand k)->g.ow b=some (.row q)->w'.heap[b]?=w.heap[b]?
 owb:∀ b k,g.ow b=some (.bx k)->g'.ow b=some (.bx k)
 rowb:∀ b k,g.ow b=some (.bx k)->w'.heap[b]?=w.heap[b]?
 owt:∀ (q:Pl) b,¬p.under q->g.ow b=some (.tmp q)->g'.ow b=some (.tmp q)
 rowt:∀ (q:Pl) b,¬p.under q->g.ow b=some (.tmp q)->w'.heap[b]?=w.heap[b]?
 lt:(∀b,g.ow b≠none->b<w.heap.size)-> ∀b,g'.ow b≠none->b<w'.heap.size
def noHand(p:Pl):Prop:=∀ k,p.r≠ .hand k
theorem KeepsP.stays{p r0:Pl}{g g':G}{w w':World}(h:KeepsP p g w g' w')(h0:noHand r0)(hq:∀ r,r0.under r-> ¬p.under r):Stays r0 g w g' w':=
 { h.toLater with
   hd:=fun r hr=>h.hd r (hq r hr) (by rw[<-hr.1];exact h0)
   ow:=fun r b hr=>h.ow r b (hq r hr) (by rw[<-hr.1];exact h0)
   row:=fun r b hr=>h.row r b (hq r hr) (by rw[<-hr.1];exact h0)}
theorem KeepsP.turns{p r0:Pl}{g g':G}{w w':World}(h:KeepsP p g w g' w')(h0:noHand r0):Turns r0 p g w g' w':=
 { h.toLater with
   hd:=fun r hr hp=>h.hd r hp (by rw[<-hr.1];exact h0)
   ow:=fun r b hr hp=>h.ow r b hp (by rw[<-hr.1];exact h0)
   row:=fun r b hr hp=>h.row r b hp (by rw[<-hr.1];exact h0)}
theorem RepC.set{g g':G}{w w':World}{nb:Nat}{p:Pl}{a:A}{v:Value}(r:RepC g w nb p a v){s:List (Nat×Nat)}{z:Nat}{es:List (List A)}{y':A}
  (h:getS a s=some (.own z es)) (hy:∀ u,RepO g w (p.plus s) (.own z es) u->RepO g' w' (p.plus s) y' u) (ht:Turns p (p.plus s) g w g' w') (hs:s=[]->RepC g' w' nb p y' v):
  RepC g' w' nb p (setS a s y') v:=by
 have none:∀ a,child a=(fun _=>Option.none)->getS a s=some (.own z es)->a= .own z es:=by
  intro a hc h;cases s with
  |nil=>simpa[getS]using h
  |cons q s=>simp[getS,hc]at h
 cases a
 case own z0 es0=>
  simp only[RepC]at r;cases s with
  |nil=>exact hs rfl
  | cons q s=>
    have:=RepO.set (q::s) r h hy ht
    have e:∃ z1 es1,setS (.own z0 es0) (q::s) y'= .own z1 es1:=by
     simp only[setS];split
     ·simp only[setChild];split<;>exact⟨_,_,rfl⟩
     ·exact⟨_,_,rfl⟩
    obtain⟨z1,es1,e⟩:=e;rw[e]at this ⊢
    exact this
 all_goals
  (simp only [RepC] at r
   cases s with
   |nil=>simp[getS]at h
   | cons q s=>
     first
      |(cases r with|imm _ _ _ hi ha=>(rw[getS,leaf_child ha]at h;cases h))
      |(simp[getS,child]at h))
theorem RepO.toC{g:G}{w:World}{nb:Nat}{p:Pl}{a:A}{v:Value}(r:RepO g w p a v):RepC g w nb p a v:=by
 cases a<;>simp only[RepC]<;>first
  |exact r
  |(cases r with|imm _ _ _ hi ha=>simp[A.leaf]at ha)
  |skip
 cases r with
 | imm _ _ _ hi ha=>
   cases hi with
   |clo f=>exact⟨[],[],rfl,rfl,rfl,fun c x u hx=>by simp at hx,fun c x u hx=>by simp at hx⟩
   |emp _ z oa cap h=>rcases h with h|h<;>cases h
   |row _ z es b off cap u h=>rcases h with h|h<;>cases h
theorem RepO.toL{g:G}{w:World}{V:Vw}{p:Pl}{a:A}{v:Value}(r:RepO g w p a v):RepL g w V p a v:=by
 cases a<;>simp only[RepL]<;>first
  |exact r.toC
  |(cases r with|imm _ _ _ hi ha=>simp[A.leaf]at ha)
theorem RepC.toL{g:G}{w:World}{V:Vw}{p:Pl}{a:A}{v:Value}(r:RepC g w V.nb p a v):RepL g w V p a v:=by
 cases a<;>simp only[RepL]<;>first
  |exact r
  |(simp only[RepC]at r;cases r with|imm _ _ _ hi ha=>simp[A.leaf]at ha)
structure Turned(g:G)(w:World)(V:Vw)(g':G)(w':World)(V':Vw)(q:Pl)(y y':A):Prop where
 own:∀ z es u,y= .own z es->RepO g w q y u->RepO g' w' q y' u
 bld:∀ z es u,y= .bld z es->BldOK g w V q z es u->RepL g' w' V' q y' u
theorem RepL.set{g g':G}{w w':World}{V V':Vw}{p:Pl}{a:A}{v:Value}(r:RepL g w V p a v){s:List (Nat×Nat)}{y:A}{z:Nat}{es:List (List A)}{y':A}
  (h:getS a s=some y) (hr:isRowOf y z es) (hy:Turned g w V g' w' V' (p.plus s) y y') (ht:Turns p (p.plus s) g w g' w') (hnb:V'.nb=V.nb):RepL g' w' V' p (setS a s y') v:=by
 have main:RepC g w V.nb p a v->RepL g' w' V' p (setS a s y') v:=by
  intro r;obtain⟨e,u,hu⟩:=r.get h hr;subst e;cases s with
  | nil=>
    simp only[getS,Oe]at h;subst h;simp only[setS];rw[Pl.plus_nil]at hy;simp only[RepC]at r;exact(hy.own z es v rfl r).toL
  | cons q s=>
    have:=r.set h (fun u=>hy.own z es u rfl) ht (fun e=>by cases e);exact RepC.toL (by rw[hnb];exact this)
 cases a
 case bld z' es'=>
  have k:=RepL.get r h hr;cases s with
  | nil=>
    simp only[getS,Oe]at h;subst h;simp only[RepL]at r;simp only[setS];rw[Pl.plus_nil]at hy;exact hy.bld z' es' v rfl r
  | cons q s=>
    exfalso;obtain⟨i,c⟩:=q;simp only[getS]at h;cases hc:child (.bld z' es') (i,c)with
    |none=>rw[hc]at h;cases h
    | some x=>
      rw[hc]at h
      have hx:∃ e,es'[i]?=some e/\e[c]?=some x:=by
       simp only[child]at hc;split at hc
       ·rename_i e he;exact⟨e,he,hc⟩
       ·cases hc
      obtain⟨e,he,hx⟩:=hx;simp only[RepL]at r;obtain⟨b,cap,cur,t,e1,e2,e3,e4,e5,e6,e7,e8⟩:=r;obtain⟨u,hu,hq⟩:=(e8 i e he).2 c x hx
      have hl:(∃q,x= .sref q)\/x.leaf=true:=by
       cases x<;>simp only[RepE]at hq<;>first|exact .inr hq.1|exact .inl ⟨_,rfl⟩
      have hch:∀ q,child x q=none:=by
       intro q;rcases hl with⟨q',rfl⟩|hl
       ·rfl
       ·exact leaf_child hl q
      cases s with
      | nil=>
        simp only[getS,Oe]at h;subst h;rcases hl with⟨q',rfl⟩|hl
        ·rcases hr with hr|hr<;>cases hr
        ·rcases hr with rfl|rfl<;>simp[A.leaf]at hl
      |cons q s=>simp only[getS,hch]at h;cases h
 case sref q=>cases s<;>simp[getS,child]at h;subst h;rcases hr with hr|hr<;>cases hr
 case sub q lo hi=>cases s<;>simp[getS,child]at h;subst h;rcases hr with hr|hr<;>cases hr
 case pref q i c=>cases s<;>simp[getS,child]at h;subst h;rcases hr with hr|hr<;>cases hr
 case app z q cs=>cases s<;>simp[getS,child]at h;subst h;rcases hr with hr|hr<;>cases hr
 all_goals exact main (by simpa only[RepL]using r)
theorem setS_agg{a y':A}{s:List (Nat×Nat)}(ha:∀ cs,a≠ .agg cs)(hy:∀ cs,y'≠ .agg cs):∀ cs,setS a s y'≠ .agg cs:=by
 intro cs e;cases s with
 |nil=>exact hy cs e
 | cons q s=>
   simp only[setS]at e;split at e
   ·obtain⟨i,c⟩:=q;cases a<;>cases i<;>cases c<;>simp only[setChild]at e<;>(try(split at e))<;>first|exact absurd rfl (ha _)|cases e
   ·exact ha cs e
theorem RepL.toA{g:G}{w:World}{V:Vw}{p:Pl}{a:A}{v:Value}(r:RepL g w V p a v)(h:∀ cs,a≠ .agg cs):RepA g w V p a v:=by
 cases a<;>simp only[RepA]<;>first
  |exact r
  |exact absurd rfl (h _)
theorem RepA.set{g g':G}{w w':World}{V V':Vw}{p:Pl}{a:A}{v:Value}(r:RepA g w V p a v){s:List (Nat×Nat)}{y:A}{z:Nat}{es:List (List A)}{y':A}(hp:noHand p)
  (h:getS a s=some y) (hr:isRowOf y z es) (hy:Turned g w V g' w' V' (p.plus s) y y') (ht:∀ p',p.under p'->Turns p' (p.plus s) g w g' w') (hnb:V'.nb=V.nb)
  (tr:∀ p',p.under p'->(∀r,p'.under r-> ¬(p.plus s).under r)->Tr p' g w V g' w' V' (refsA a) (appsA a)) (hya:∀ cs,y'≠ .agg cs):RepA g' w' V' p (setS a s y') v:=by
 cases a
 case agg cs=>
  cases s with
  | nil=>
    simp only[getS,Oe]at h;subst h;rcases hr with hr|hr<;>cases hr
  | cons q s=>
    obtain⟨i,c⟩:=q;simp only[getS]at h;cases i with
    |succ i=>simp[child]at h
    | zero=>
      cases hc:child (.agg cs) (0,c)with
      |none=>rw[hc]at h;cases h
      | some x=>
        rw[hc]at h;have hx:cs[c]?=some x:=hc
        simp only[RepA]at r;obtain⟨us,h1,h2,h3⟩:=r;simp only[setS,hc,setChild,RepA];refine⟨us,h1,by simpa using h2,fun c' x' u' hx' hu'=>?_⟩;rw[List.getElem?_set]at hx';split at hx'
        ·rename_i hcc;subst hcc;rw[if_pos (Ge hx).1]at hx';cases hx';rw[Pl.plus_cons]at hy;exact(h3 c x u' hx hu').set h hr hy (by rw[<-Pl.plus_cons];exact ht _ (Pl.under_at (Pl.under_refl p) 0 c)) hnb
        ·rename_i hcc;refine(h3 c' x' u' hx' hu').tr (tr _ (Pl.under_at (Pl.under_refl p) 0 c') ?_) ?_ ?_
         ·intro r hr1 hr2;rw[Pl.plus_cons]at hr2;exact Pl.at_apart (fun e=>hcc (by injection e)) (Pl.under_trans (Pl.under_plus _ s) hr2) hr1
         ·exact fun q hq=>by simp only[refsA,List.mem_flatMap];exact⟨x',Mg hx',hq⟩
         ·exact fun q hq=>by simp only[appsA,List.mem_flatMap];exact⟨x',Mg hx',hq⟩
 all_goals
  (have r':=RepL.set (by simpa only [RepA] using r) h hr hy (ht p (Pl.under_refl p)) hnb
   exact r'.toA (setS_agg (fun _ e=>by cases e) hya))
theorem setS_tup{a y':A}{s:List (Nat×Nat)}(ha:∀ cs,a≠ .tup cs)(hy:∀ cs,y'≠ .tup cs):∀ cs,setS a s y'≠ .tup cs:=by
 intro cs e;cases s with
 |nil=>exact hy cs e
 | cons q s=>
   simp only[setS]at e;split at e
   ·obtain⟨i,c⟩:=q;cases a<;>cases i<;>cases c<;>simp only[setChild]at e<;>(try(split at e))<;>first|exact absurd rfl (ha _)|cases e
   ·exact ha cs e
theorem RepA.solid{g:G}{w:World}{V:Vw}{p:Pl}{a:A}{v:Value}(r:RepA g w V p a v)(h:(match a with| .ud=>true| .top=>true|_=>false)=true):False:=by
 cases a<;>simp at h
 all_goals
  (simp only [RepA,RepL,RepC] at r
   cases r with
   |imm _ _ _ hi ha=>simp[A.leaf]at ha)
theorem RepA.toT{g:G}{w:World}{V:Vw}{p:Pl}{a:A}{v:Value}(r:RepA g w V p a v)(h:∀ cs,a≠ .tup cs):RepT g w V p a v:=by
 cases a<;>simp only[RepT]<;>first
  |exact r
  |exact absurd rfl (h _)
  |exact(r.solid rfl).elim
theorem RepT.set{g g':G}{w w':World}{V V':Vw}{p:Pl}{a:A}{v:Value}(r:RepT g w V p a v){s:List (Nat×Nat)}{y:A}{z:Nat}{es:List (List A)}{y':A}(hp:noHand p)
  (h:getS a s=some y) (hr:isRowOf y z es) (hy:Turned g w V g' w' V' (p.plus s) y y') (ht:∀ p',p.under p'->Turns p' (p.plus s) g w g' w') (hnb:V'.nb=V.nb)
  (tr:∀ p',p.under p'->(∀r,p'.under r-> ¬(p.plus s).under r)->Tr p' g w V g' w' V' (refsT a) (appsT a)) (hya:∀ cs,y'≠ .agg cs) (hyt:∀ cs,y'≠ .tup cs):RepT g' w' V' p (setS a s y') v:=by
 cases a
 case tup cs=>
  cases s with
  | nil=>
    simp only[getS,Oe]at h;subst h;rcases hr with hr|hr<;>cases hr
  | cons q s=>
    obtain⟨i,c⟩:=q;simp only[getS]at h;cases c with
    |succ c=>simp[child]at h
    | zero=>
      cases hc:child (.tup cs) (i,0)with
      |none=>rw[hc]at h;cases h
      | some x=>
        rw[hc]at h;have hx:cs[i]?=some x:=hc
        simp only[RepT]at r;obtain⟨us,h1,h2,h3⟩:=r;simp only[setS,hc,setChild,RepT];refine⟨us,h1,by simpa using h2,fun c' x' u' hx' hu'=>?_⟩;rw[List.getElem?_set]at hx';split at hx'
        ·rename_i hcc;subst hcc;rw[if_pos (Ge hx).1]at hx';cases hx';rw[Pl.plus_cons]at hy;refine(h3 i x u' hx hu').set hp h hr hy ?_ hnb ?_ hya
         ·intro p' hp';rw[<-Pl.plus_cons];exact ht p' (Pl.under_trans (Pl.under_at (Pl.under_refl p) i 0) hp')
         ·intro p' hp' hn;rw[<-Pl.plus_cons]at hn;refine(tr p' (Pl.under_trans (Pl.under_at (Pl.under_refl p) i 0) hp') hn).sub ?_ ?_
          ·exact fun q hq=>by simp only[refsT,List.mem_flatMap];exact⟨x,Mg hx,hq⟩
          ·exact fun q hq=>by simp only[appsT,List.mem_flatMap];exact⟨x,Mg hx,hq⟩
        ·rename_i hcc;refine(h3 c' x' u' hx' hu').tr (tr _ (Pl.under_at (Pl.under_refl p) c' 0) ?_) ?_ ?_
         ·intro r hr1 hr2;rw[Pl.plus_cons]at hr2;exact Pl.at_apart (fun e=>hcc (by injection e)) (Pl.under_trans (Pl.under_plus _ s) hr2) hr1
         ·exact fun q hq=>by simp only[refsT,List.mem_flatMap];exact⟨x',Mg hx',hq⟩
         ·exact fun q hq=>by simp only[appsT,List.mem_flatMap];exact⟨x',Mg hx',hq⟩
 case ud=>cases s<;>simp[getS,child]at h<;>(subst h;rcases hr with hr|hr<;>cases hr)
 case top=>cases s<;>simp[getS,child]at h<;>(subst h;rcases hr with hr|hr<;>cases hr)
 all_goals
  (have r':=RepA.set (by simpa only [RepT] using r) hp h hr hy ht hnb tr hya
   exact r'.toT (setS_tup (fun _ e=>by cases e) hyt))
end Go.Ab
end
section
namespace Go.Ab
open Go.RowKit
def RefIn(σ:St)(q:Pl):Prop:=(∃(n:Nat) (x:A),σ.vs[n]?=some x/\q∈refsT x)\/(∃(n:Nat) (x:A),σ.ls[n]?=some x/\q∈refsT x)
def AppIn(σ:St)(q:Pl):Prop:=(∃(n:Nat) (x:A),σ.vs[n]?=some x/\q∈appsT x)\/(∃(n:Nat) (x:A),σ.ls[n]?=some x/\q∈appsT x)
theorem vs_set{σ:St}{p:Pl}{y':A}{n:Nat}{x:A}(h:(σ.set p y').vs[n]?=some x):
  (∃a,σ.vs[n]?=some a/\p.r= .var n/\x=setS a p.s y')\/(σ.vs[n]?=some x/\p.r≠ .var n):=by
 unfold St.set at h;cases hr:σ.root p.r with
 | none=>
   rw[hr]at h;refine .inr ⟨h,fun e=>?_⟩;rw[e]at hr;simp only[St.root]at hr;dsimp only at h;rw[hr]at h;cases h
 | some a=>
   rw[hr]at h;dsimp only at h;cases hp:p.r with
   | var m=>
     rw[hp]at h hr;simp only[St.setRoot,List.getElem?_set]at h;split at h
     ·rename_i e;subst e;split at h
      ·cases h;exact .inl ⟨a,hr,rfl,rfl⟩
      ·cases h
     ·rename_i e;exact .inr ⟨h,fun e'=>e (by injection e')⟩
   |loc m=>rw[hp]at h;exact .inr ⟨h,by simp⟩
   |box b c=>rw[hp]at h;simp only[St.setRoot]at h;exact .inr ⟨by split at h<;>exact h,by simp⟩
   |hand k=>rw[hp]at h;exact .inr ⟨h,by simp⟩
theorem ls_set{σ:St}{p:Pl}{y':A}{n:Nat}{x:A}(h:(σ.set p y').ls[n]?=some x):
  (∃a,σ.ls[n]?=some a/\p.r= .loc n/\x=setS a p.s y')\/(σ.ls[n]?=some x/\p.r≠ .loc n):=by
 unfold St.set at h;cases hr:σ.root p.r with
 | none=>
   rw[hr]at h;refine .inr ⟨h,fun e=>?_⟩;rw[e]at hr;simp only[St.root]at hr;dsimp only at h;rw[hr]at h;cases h
 | some a=>
   rw[hr]at h;dsimp only at h;cases hp:p.r with
   | loc m=>
     rw[hp]at h hr;simp only[St.setRoot,List.getElem?_set]at h;split at h
     ·rename_i e;subst e;split at h
      ·cases h;exact .inl ⟨a,hr,rfl,rfl⟩
      ·cases h
     ·rename_i e;exact .inr ⟨h,fun e'=>e (by injection e')⟩
   |var m=>rw[hp]at h;exact .inr ⟨h,by simp⟩
   |box b c=>rw[hp]at h;simp only[St.setRoot]at h;exact .inr ⟨by split at h<;>exact h,by simp⟩
   |hand k=>rw[hp]at h;exact .inr ⟨h,by simp⟩
theorem bx_set{σ:St}{p:Pl}{y':A}{b:Nat}{x:Bx}(hne:σ.root p.r≠none)(h:(σ.set p y').bx[b]?=some x):
  (∃cs c a,σ.bx[b]?=some (.cells cs)/\p.r= .box b c/\cs[c]?=some a/\x= .cells (cs.set c (setS a p.s y')))\/(σ.bx[b]?=some x/\ ∀c,p.r≠ .box b c):=by
 unfold St.set at h;cases hr:σ.root p.r with
 | none=>
   exact absurd hr hne
 | some a=>
   rw[hr]at h;dsimp only at h;cases hp:p.r with
   |var m=>rw[hp]at h;exact .inr ⟨h,by simp⟩
   |loc m=>rw[hp]at h;exact .inr ⟨h,by simp⟩
   |hand k=>rw[hp]at h;exact .inr ⟨h,by simp⟩
   | box b' c=>
     rw[hp]at h hr;simp only[St.root]at hr;split at hr
     ·rename_i cs hcs;simp only[St.setRoot,hcs,List.getElem?_set]at h;split at h
      ·rename_i e;subst e;split at h
       ·cases h;exact .inl ⟨cs,c,a,hcs,rfl,hr,rfl⟩
       ·cases h
      ·rename_i e;exact .inr ⟨h,fun c' e'=>e (by injection e')⟩
     ·cases hr
theorem Inv.turn{g g':G}{σ:St}{w w':World}{tv tl:Nat->Value}(h:Inv g σ w tv tl){p:Pl}(hp:noHand p){y y':A}{z:Nat}{es:List (List A)}(hg:σ.get p=some y)(hr:isRowOf y z es)
  (k:KeepsP p g w g' w') (hT:∀ (V V':Vw),V=σ.view\/V=σ.view0->V'=(σ.set p y').view\/V'=(σ.set p y').view0->V.nl=V'.nl->Turned g w V g' w' V' p y y')
  (hR:∀ q,p.under q->RefIn σ q->(σ.set p y').R q=none\/((σ.set p y').R q=σ.R q/\g'.hd q=g.hd q))
  (hA:∀ q,p.under q->AppIn σ q->(σ.set p y').R q=none\/(w'.heap[(g.hd q).1]?=w.heap[(g.hd q).1]?/\ ∀b,g.ow b=some (.tmp q)->g'.ow b=some (.tmp q)/\w'.heap[b]?=w.heap[b]?))
  (hya:∀ cs,y'≠ .agg cs) (hyt:∀ cs,y'≠ .tup cs):Inv g' (σ.set p y') w' tv tl:=by
 obtain⟨hl1,hl2,hl3⟩:=set_lens σ p y'
 have tr:∀ (p':Pl) (V V':Vw) (a:A),(∀q,q∈refsT a->RefIn σ q)->(∀q,q∈appsT a->AppIn σ q)->noHand p'->(∀r,p'.under r-> ¬p.under r)->V.R=σ.R->V'.R=(σ.set p y').R->V.nl=V'.nl->V'.nb=V.nb->
   Tr p' g w V g' w' V' (refsT a) (appsT a):=by
  intro p' V V' a h1 h2 hn hu e1 e2 e3 e4
  have nh:∀ q,V.ok q-> ∀k,q.r≠ .hand k:=by
   intro q hq k e;simp only[Vw.ok,e]at hq
  refine{k.stays hn hu with blk:=fun b _=>by rw[k.blk],nb:=by omega,ok:=?_,ref:=?_,app:=?_}
  ·intro q _ hq;unfold Vw.ok at hq ⊢
   split<;>rename_i e<;>simp only[e]at hq<;>first|omega|trivial
  ·intro q hq hok;rw[e1,e2]
   by_cases hpq:p.under q
   ·exact hR q hpq (h1 q hq)
   ·exact .inr ⟨R_set_other y' hpq,k.hd q hpq (nh q hok)⟩
  ·intro q hq hok;rw[e2]
   by_cases hpq:p.under q
   ·exact hA q hpq (h2 q hq)
   ·cases hn:(σ.set p y').R q with
    |none=>exact .inl rfl
    | some zn=>
      rw[R_set_other y' hpq]at hn;exact .inr ⟨k.row q _ hpq (nh q hok) (h.owns hn),fun b hb=>⟨k.owt q b hpq hb,k.rowt q b hpq hb⟩⟩
 have hrootget:∀ a,σ.root p.r=some a->getS a p.s=some y:=by
  intro a ha;unfold St.get at hg;rw[ha]at hg;exact hg
 have eta:(⟨p.r,[]⟩:Pl).plus p.s=p:=pl_eta p;refine⟨fun n x hx=>?_,fun n x hx=>?_,fun b x hx=>?_,k.lt h.lt⟩
 ·have i1:∀ a,σ.vs[n]?=some a-> ∀q,q∈refsT a->RefIn σ q:=fun a ha q hq=> .inl ⟨n,a,ha,hq⟩;have i2:∀ a,σ.vs[n]?=some a-> ∀q,q∈appsT a->AppIn σ q:=fun a ha q hq=> .inl ⟨n,a,ha,hq⟩
  rcases vs_set hx with⟨a,ha,hpr,rfl⟩|⟨ha,hpr⟩
  ·have hn:noHand (⟨.var n,[]⟩:Pl):=fun k e=>by cases e
   have e0:(⟨.var n,[]⟩:Pl).plus p.s=p:=by rw[<-hpr];exact eta
   refine(h.vars n a ha).set hn (hrootget a (by rw[hpr];exact ha)) hr (by rw[e0];exact hT _ _ (.inr rfl) (.inr rfl) rfl) ?_ (by simp[St.view0,hl3]) ?_ hya hyt
   ·intro p' hp';rw[e0];exact k.turns (fun j e=>by rw[<-hp'.1]at e;cases e)
   ·intro p' hp' hu;rw[e0]at hu;exact tr p' _ _ a (i1 a ha) (i2 a ha) (fun j e=>by rw[<-hp'.1]at e;cases e) hu rfl rfl rfl (by simp[St.view0,hl3])
  ·refine(h.vars n x ha).tr (tr _ σ.view0 (σ.set p y').view0 x (i1 x ha) (i2 x ha) (fun j e=>by cases e) ?_ rfl rfl rfl (by simp[St.view0,hl3])) (fun _ h=>h) (fun _ h=>h);intro r hr1 hr2;exact hpr (under_root hr2 hr1)
 ·have i1:∀ a,σ.ls[n]?=some a-> ∀q,q∈refsT a->RefIn σ q:=fun a ha q hq=> .inr ⟨n,a,ha,hq⟩;have i2:∀ a,σ.ls[n]?=some a-> ∀q,q∈appsT a->AppIn σ q:=fun a ha q hq=> .inr ⟨n,a,ha,hq⟩
  rcases ls_set hx with⟨a,ha,hpr,rfl⟩|⟨ha,hpr⟩
  ·have hn:noHand (⟨.loc n,[]⟩:Pl):=fun k e=>by cases e
   have e0:(⟨.loc n,[]⟩:Pl).plus p.s=p:=by rw[<-hpr];exact eta
   refine(h.locs n a ha).set hn (hrootget a (by rw[hpr];exact ha)) hr (by rw[e0];exact hT _ _ (.inl rfl) (.inl rfl) (by simp[St.view,hl2])) ?_ (by simp[St.view,hl3]) ?_ hya hyt
   ·intro p' hp';rw[e0];exact k.turns (fun j e=>by rw[<-hp'.1]at e;cases e)
   ·intro p' hp' hu;rw[e0]at hu;exact tr p' _ _ a (i1 a ha) (i2 a ha) (fun j e=>by rw[<-hp'.1]at e;cases e) hu rfl rfl (by simp[St.view,hl2]) (by simp[St.view,hl3])
  ·refine(h.locs n x ha).tr (tr _ σ.view (σ.set p y').view x (i1 x ha) (i2 x ha) (fun j e=>by cases e) ?_ rfl rfl (by simp[St.view,hl2]) (by simp[St.view,hl3])) (fun _ h=>h) (fun _ h=>h);intro r hr1 hr2;exact hpr (under_root hr2 hr1)
 ·rw[hl3]
  have old:∀ x,σ.bx[b]?=some x->(∀c,p.r≠ .box b c)->BoxOK g' w' σ.bx.length b x:=by
   intro x hx hne;have:=h.boxes b x hx
   cases x with
   | cells cs=>
     simp only[BoxOK]at this ⊢
     obtain⟨h1,cur,t,h2,h3,h4⟩:=this;rw[k.blk];refine⟨k.owb _ _ h1,cur,t,(k.rowb _ _ h1).trans h2,h3,fun c x hx=>?_⟩;obtain⟨u,hu,hc⟩:=h4 c x hx;exact⟨u,hu,hc.keeps (k.stays (fun j e=>by cases e) (fun r hr1 hr2=>hne c (under_root hr2 hr1))) k.blk (Nat.le_refl _)⟩
   | map es=>
     simp only[BoxOK]at this ⊢
     obtain⟨h1,ents,clk,h2,h3,h4⟩:=this;rw[k.blk];refine⟨k.owb _ _ h1,ents,clk,(k.rowb _ _ h1).trans h2,h3,fun i k' x hx=>?_⟩;obtain⟨e,he,hk,hv⟩:=h4 i k' x hx;exact⟨e,he,hk,hv.later k.toLater⟩
   |gone=>trivial
  rcases bx_set (fun e=>by unfold St.get at hg;rw[e]at hg;cases hg) hx with⟨cs,c,a,hcs,hpr,hca,rfl⟩|⟨hx,hne⟩
  ·have:=h.boxes b _ hcs;simp only[BoxOK]at this ⊢
   obtain⟨h1,cur,t,h2,h3,h4⟩:=this;rw[k.blk];refine⟨k.owb _ _ h1,cur,t,(k.rowb _ _ h1).trans h2,by simpa using h3,fun c' x hx=>?_⟩;rw[List.getElem?_set]at hx;split at hx
   ·rename_i e;subst e;rw[if_pos (Ge hca).1]at hx;cases hx;obtain⟨u,hu,hc⟩:=h4 c a hca;refine⟨u,hu,?_⟩;have e0:(⟨.box b c,[]⟩:Pl).plus p.s=p:=by rw[<-hpr];exact eta
    have hga:getS a p.s=some y:=hrootget a (by rw[hpr];simp[St.root,hcs,hca]);obtain⟨ey,u',hu'⟩:=hc.get hga hr;subst ey;have hto:=hT σ.view (σ.set p y').view (.inl rfl) (.inl rfl) (by simp[St.view,hl2])
    refine hc.set hga (fun u0 hu0=>by rw[e0]at hu0 ⊢;exact hto.own z es u0 rfl hu0) (by rw[e0];exact k.turns (fun j e=>by cases e)) (fun es0=>?_);have hu2:RepC g w σ.bx.length ⟨.box b c,[]⟩ a u:=hc
    rw[es0]at hga;simp only[getS,Oe]at hga;subst hga;simp only[RepC]at hu2;have hp0:p=⟨.box b c,[]⟩:=by rw[<-e0,es0,Pl.plus_nil]
    rw[hp0]at hto;exact(hto.own z es u rfl hu2).toC
   ·rename_i e;obtain⟨u,hu,hc⟩:=h4 c' x hx;refine⟨u,hu,hc.keeps (k.stays (fun j e=>by cases e) (fun r hr1 hr2=>?_)) k.blk (Nat.le_refl _)⟩;have:=under_root hr2 hr1
    rw[hpr]at this;exact e (by injection this)
  ·exact old x hx hne
theorem Inv.getOwn{g:G}{σ:St}{w:World}{tv tl:Nat->Value}(h:Inv g σ w tv tl){q:Pl}{z:Nat}{es:List (List A)}(hr:σ.get q=some (.own z es)):
  RepO g w q (.own z es) (.slice (some ⟨(g.hd q).1,0,none⟩) es.length (g.hd q).2):=by
 rcases h.rowAt hr (.inl rfl)with⟨_,u,hu⟩|⟨e,_⟩
 ·rw[<-hu.rowOK.2];exact hu
 ·cases e
end Go.Ab
end
section
namespace Go.Ab
open Go.RowKit
structure MS(w:World)(tv tl:Nat->Value)(T:Prop)(D:Pl->Prop)(g:G)(σ:St)(g':G)(σ':St):Prop extends Later g w g' w where
 blk:g'.blk=g.blk
 owb:∀ b k,g.ow b=some (.bx k)->g'.ow b=some (.bx k)
 hd:∀ r:Pl,¬noHand r-> ¬D r->g'.hd r=g.hd r
 ow:∀ (r:Pl) b,¬noHand r-> ¬D r->g.ow b=some (.row r)->g'.ow b=some (.row r)
 inv:Inv g' σ' w tv tl
 nv:σ'.vs.length=σ.vs.length
 nl:σ'.ls.length=σ.ls.length
 nb:σ'.bx.length=σ.bx.length
 ref:∀ r:Pl,noHand r->σ'.R r=none\/(σ'.R r=σ.R r/\g'.hd r=g.hd r)
 tmp:∀ (r:Pl) b,noHand r->g.ow b=some (.tmp r)->(T/\σ'.R r=none)\/g'.ow b=some (.tmp r)
variable {w:World} {tv tl:Nat->Value} {T:Prop}
theorem MS.refl{D:Pl->Prop}{g:G}{σ:St}(h:Inv g σ w tv tl):MS w tv tl T D g σ g σ:=
 { Later.refl g w with
   blk:=rfl,owb:=fun _ _ h=>h,hd:=fun _ _ _=>rfl,ow:=fun _ _ _ _ h=>h,inv:=h,nv:=rfl,nl:=rfl,nb:=rfl
   ref:=fun _ _=> .inr ⟨rfl,rfl⟩,tmp:=fun _ _ _ h=> .inr h}
theorem MS.trans{D:Pl->Prop}{g g' g'':G}{σ σ' σ'':St}(h:MS w tv tl T D g σ g' σ')(k:MS w tv tl T D g' σ' g'' σ''):MS w tv tl T D g σ g'' σ'':=
 { h.toLater.trans k.toLater with
   blk:=k.blk.trans h.blk,owb:=fun b j e=>k.owb b j (h.owb b j e)
   hd:=fun r h0 hd=>(k.hd r h0 hd).trans (h.hd r h0 hd)
   ow:=fun r b h0 hd e=>k.ow r b h0 hd (h.ow r b h0 hd e)
   inv:=k.inv,nv:=k.nv.trans h.nv,nl:=k.nl.trans h.nl,nb:=k.nb.trans h.nb
   ref:=fun r h0=>by
    rcases k.ref r h0 with e|⟨e,e'⟩
    ·exact .inl e
    ·rcases h.ref r h0 with f|⟨f,f'⟩
     ·exact .inl (e.trans f)
     ·exact .inr ⟨e.trans f,e'.trans f'⟩
   tmp:=fun r b h0 e=>by
    rcases h.tmp r b h0 e with f|f
    ·rcases k.ref r h0 with e|⟨e,_⟩
     ·exact .inl ⟨f.1,e⟩
     ·exact .inl ⟨f.1,e.trans f.2⟩
    ·exact k.tmp r b h0 f}
theorem MS.mono{D E:Pl->Prop}{g g':G}{σ σ':St}(h:MS w tv tl T D g σ g' σ')(hd:∀ r,D r->E r):MS w tv tl T E g σ g' σ':=
 {h with hd:=fun r h0 hE=>h.hd r h0 (fun e=>hE (hd r e)),ow:=fun r b h0 hE=>h.ow r b h0 (fun e=>hE (hd r e))}
theorem MS.weak{S:Prop}{D:Pl->Prop}{g g':G}{σ σ':St}(h:MS w tv tl T D g σ g' σ')(hs:T->S):MS w tv tl S D g σ g' σ':=
 {h with tmp:=fun r b h0 e=>(h.tmp r b h0 e).imp (fun e=>⟨hs e.1,e.2⟩) id}
theorem RepE.noApp{g:G}{w:World}{V:Vw}{x:A}{u:Value}(h:RepE g w V x u):appsL x=[]:=by
 cases x<;>simp only[RepE]at h<;>first
  |rfl
  |(exfalso;have:=h.1;simp[A.leaf]at this;done)
theorem MS.stays{D:Pl->Prop}{g g':G}{σ σ':St}(h:MS w tv tl T D g σ g' σ'){r0:Pl}(h0:¬ noHand r0)(hD:∀ r,r0.under r-> ¬D r):Stays r0 g w g' w:=
 have hh:∀ r,r0.under r-> ¬noHand r:=fun r hr hn=>h0 (fun k e=>hn k (by rw[<-hr.1];exact e))
 { h.toLater with
   hd:=fun r hr=>h.hd r (hh r hr) (hD r hr)
   ow:=fun r b hr=>h.ow r b (hh r hr) (hD r hr)
   row:=fun _ _ _ _=>rfl}
theorem ok_noHand{V:Vw}{q:Pl}(h:V.ok q):noHand q:=by
 intro k e;simp only[Vw.ok,e]at h
theorem MS.ok{D:Pl->Prop}{g g':G}{σ σ':St}(h:MS w tv tl T D g σ g' σ'){q:Pl}(hq:σ.view.ok q):σ'.view.ok q:=by
 unfold Vw.ok at hq ⊢
 have h1:=h.nl;have h2:=h.nb
 split<;>rename_i e<;>simp only[e,St.view]at hq ⊢ <;>first|omega|trivial
theorem RepS.step{D:Pl->Prop}{g g':G}{σ σ':St}(h:MS w tv tl T D g σ g' σ'){q:Pl}{v:Value}(r:RepS g σ.view q v):RepS g' σ'.view q v:=by
 refine⟨h.ok r.1,r.2.1,fun z n hR=>?_⟩;rcases h.ref q (ok_noHand r.1)with e|⟨e,e'⟩
 ·simp only[St.view]at hR;rw[e]at hR;cases hR
 ·rw[e'];exact r.2.2 z n (by simp only[St.view]at hR ⊢;rw[<-e];exact hR)
theorem RepE.step{D:Pl->Prop}{g g':G}{σ σ':St}(h:MS w tv tl T D g σ g' σ'){x:A}{u:Value}(r:RepE g w σ.view x u):RepE g' w σ'.view x u:=by
 cases x<;>simp only[RepE]at r ⊢ <;>first
  |exact⟨r.1,r.2.later h.toLater⟩
  |exact RepS.step h r
def A.light:A->Bool
 | .own _ _=>false| .bld _ _=>false| .agg _=>false| .tup _=>false
 |_=>true
theorem RepL.step{D:Pl->Prop}{g g':G}{σ σ':St}(h:MS w tv tl T D g σ g' σ'){p p':Pl}{x:A}{u:Value}(hx:x.light=true)(r:RepL g w σ.view p x u):RepL g' w σ'.view p' x u:=by
 cases x
 case sref q=>exact RepS.step h r
 case sub q lo hi=>
  simp only[RepL]at r ⊢
  refine⟨h.ok r.1,r.2.1,fun z n hR=>?_⟩;rcases h.ref q (ok_noHand r.1)with e|⟨e,e'⟩
  ·simp only[St.view]at hR;rw[e]at hR;cases hR
  ·rw[e'];exact r.2.2 z n (by simp only[St.view]at hR ⊢;rw[<-e];exact hR)
 case pref q i c=>
  simp only[RepL]at r ⊢
  refine⟨h.ok r.1,r.2.1,fun z n hR=>?_⟩;rcases h.ref q (ok_noHand r.1)with e|⟨e,e'⟩
  ·simp only[St.view]at hR;rw[e]at hR;cases hR
  ·rw[e'];exact r.2.2 z n (by simp only[St.view]at hR ⊢;rw[<-e];exact hR)
 case app z q cs=>
  simp only[RepL]at r ⊢
  refine⟨h.ok r.1,r.2.1,⟨r.2.2.1.1,fun r' hr'=>h.ok (r.2.2.1.2 r' hr')⟩,fun z' n hR hz=>?_⟩;have hR':σ'.R q≠none:=by simp only[St.view]at hR;rw[hR];simp
  rcases h.ref q (ok_noHand r.1)with e|⟨e,e'⟩
  ·exact absurd e hR'
  ·obtain⟨b,cap,cur,t,e1,e2,e3,e4,e5,e6,e7,e8⟩:=r.2.2.2 z' n (by simp only[St.view]at hR ⊢;rw[<-e];exact hR) hz;refine⟨b,cap,cur,t,e1,e2,e3,e4,e5,?_,by rw[e'];exact e7,fun i e he=>⟨(e8 i e he).1,fun c x hx=>?_⟩⟩
   ·rw[e'];exact e6.imp id (fun k=>(h.tmp q b (ok_noHand r.1) k).resolve_left fun e=>hR' e.2)
   ·obtain⟨u,hu,hr⟩:=(e8 i e he).2 c x hx;exact⟨u,hu,hr.step h⟩
 case bld z es=>simp[A.light]at hx
 case own z es=>simp[A.light]at hx
 case agg cs=>simp[A.light]at hx
 case tup cs=>simp[A.light]at hx
 all_goals
  (simp only [RepL,RepC] at r ⊢
   first
    |(cases r with|imm _ _ _ hi ha=>exact .imm _ _ _ (hi.later h.toLater) ha)
    |exact⟨by have:=h.nb;simp only[St.view]at r ⊢;omega,by rw[h.blk];exact r.2⟩
    | (obtain ⟨us,vs,h1,h2,h3,h4,h5⟩:=r
       have e:σ.view.nb<=σ'.view.nb:=by have:=h.nb;simp only[St.view];omega
       exact⟨us,vs,h1,h2,h3,fun c x u hx hu=>(h4 c x u hx hu).later h.toLater h.blk e,fun c x u hx hu=>(h5 c x u hx hu).later h.toLater h.blk e⟩))
theorem mapM_ok{α β:Type}{f:St->α->Option (β×St)}(In:Nat->G->St->α->Prop)(Out:Nat->G->St->β->Prop)(D:Nat->Pl->Prop)
  (hf:∀ j g σ a b σ',Inv g σ w tv tl->In j g σ a->f σ a=some (b,σ')-> ∃g',MS w tv tl T (D j) g σ g' σ'/\Out j g' σ' b)
  (hin:∀ j E g σ g' σ' a,MS w tv tl T E g σ g' σ'->In j g σ a->In j g' σ' a)
  (hout:∀ j E g σ g' σ' b,(∀r,D j r-> ¬E r)->MS w tv tl T E g σ g' σ'->Out j g σ b->Out j g' σ' b)
  (hD:∀ j k r,j≠k->D j r-> ¬D k r):
  ∀(xs:List α) (j0:Nat) (σ:St) (ys:List β) (σ':St) (g:G),Inv g σ w tv tl->(∀(j:Nat) x,xs[j]?=some x->In (j0+j) g σ x)->mapM' f σ xs=some (ys,σ')->
   ∃g',MS w tv tl T (fun r=> ∃j,j0<=j/\D j r) g σ g' σ'/\ys.length=xs.length/\ ∀(j:Nat) y,ys[j]?=some y->Out (j0+j) g' σ' y
 | [],j0,σ,ys,σ',g,hi,_,h=>by
   simp only[mapM',Oe,Prod.mk.injEq]at h;obtain⟨rfl,rfl⟩:=h;exact⟨g,MS.refl hi,rfl,fun j y hy=>by simp at hy⟩
 | x::xs,j0,σ,ys,σ',g,hi,hx,h=>by
   simp only[mapM']at h;cases h1:f σ x with
   |none=>rw[h1]at h;cases h
   | some b1=>
     obtain⟨b,σ1⟩:=b1;rw[h1]at h;dsimp only at h;cases h2:mapM' f σ1 xs with
     |none=>rw[h2]at h;cases h
     | some b2=>
       obtain⟨bs,σ2⟩:=b2;rw[h2]at h;simp only[Oe,Prod.mk.injEq]at h;obtain⟨rfl,rfl⟩:=h;obtain⟨g1,m1,o1⟩:=hf j0 g σ x b σ1 hi (hx 0 x rfl) h1
       obtain⟨g2,m2,hl,o2⟩:=mapM_ok In Out D hf hin hout hD xs (j0+1) σ1 bs σ2 g1 m1.inv
        (fun j y hy => by
          have:=hin _ _ _ _ _ _ _ m1 (hx (j+1) y hy)
          rwa [show j0+(j+1)=j0+1+j by omega]at this) h2
       refine⟨g2,(m1.mono fun r hr=>⟨j0,Nat.le_refl _,hr⟩).trans (m2.mono fun r ⟨j,hj,hr⟩=>⟨j,by omega,hr⟩),by simp[hl],?_⟩;intro j y hy;cases j with
       | zero=>
         simp only[List.getElem?_cons_zero,Oe]at hy;subst hy;exact hout j0 _ _ _ _ _ _ (fun r hr ⟨j,hj,hr'⟩=>hD j0 j r (by omega) hr hr') m2 o1
       | succ j=>
         rw[show j0+(j+1)=j0+1+j by omega];exact o2 j y hy
theorem keepsP_mv{g:G}{p q:Pl}(hq:¬ noHand q):KeepsP p g w (g.mv p q) w:=
 have nq:∀ r:Pl,(∀k,r.r≠ .hand k)-> ¬q.under r:=fun r hr hu=>hq (fun k e=>hr k (by rw[<-hu.1];exact e))
 { mv_later g w p q with
   blk:=rfl
   hd:=fun r _ hr=>mv_hd_other (nq r hr)
   ow:=fun r b hp _ h=>mv_ow_other h hp
   row:=fun _ _ _ _ _=>rfl
   owb:=fun b k h=>mv_bx h
   rowb:=fun _ _ _=>rfl
   owt:=fun r b _ h=>mv_tmp h
   rowt:=fun _ _ _ _=>rfl
   lt:=fun h b hb=>h b (mv_some hb)}
theorem getS_un(t:List (Nat×Nat)):rowLen (getS .un t)=none:=by
 cases t with
 |nil=>rfl
 |cons q t=>simp[getS,child,rowLen]
theorem take_ok{g:G}{σ:St}(h:Inv g σ w tv tl){p q:Pl}(hp:noHand p)(hq:¬ noHand q){y:A}{z:Nat}{es:List (List A)}(hg:σ.get p=some y)(hr:isRowOf y z es):
  MS w tv tl T (q.under ·) g σ (g.mv p q) (σ.set p .un):=by
 obtain⟨hl1,hl2,hl3⟩:=set_lens σ p .un
 have hR:∀ r,p.under r->(σ.set p .un).R r=none:=by
  intro r hr;obtain⟨t,rfl⟩:=(Pl.under_iff p r).1 hr;rw[R_set_under .un hg];exact getS_un t
 have nu:∀ r,¬noHand r-> ¬p.under r:=fun r hr hu=>hr (fun k e=>hp k (by rw[hu.1];exact e));have nq:∀ r:Pl,noHand r-> ¬q.under r:=fun r hr hu=>hq (fun k e=>hr k (by rw[<-hu.1];exact e))
 refine{mv_later g w p q with blk:=rfl,owb:=fun b k h=>mv_bx h,hd:=?_,ow:=?_,inv:=?_,nv:=hl1,nl:=hl2,nb:=hl3,ref:=?_,tmp:=?_}
 ·exact fun r _ hD=>mv_hd_other hD
 ·exact fun r b h0 _ ho=>mv_ow_other ho (nu r h0)
 ·refine h.turn hp hg hr (keepsP_mv hq) ?_ ?_ ?_ (fun _ e=>by cases e) (fun _ e=>by cases e)
  ·exact fun V V' _ _ _=>⟨fun z es u e hu=> .imm _ _ _ (.un u (by subst e;have:=hu.rowOK.2;subst this;rfl)) rfl,fun z es u _ hu=>by simp only[RepL,RepC];exact .imm _ _ _ (.un u (by obtain⟨b,cap,cur,t,rfl,_⟩:=hu;rfl)) rfl⟩
  ·exact fun r hr _=> .inl (hR r hr)
  ·exact fun r hr _=> .inl (hR r hr)
 ·intro r hr0
  by_cases hu:p.under r
  ·exact .inl (hR r hu)
  ·exact .inr ⟨R_set_other .un hu,mv_hd_other (nq r hr0)⟩
 ·exact fun r b _ ho=> .inr (mv_tmp ho)
theorem RepS.eq{g:G}{σ:St}{q:Pl}{v:Value}(r:RepS g σ.view q v){z:Nat}{es:List (List A)}(h:σ.row q=some (z,es)):v= .slice (some ⟨(g.hd q).1,0,none⟩) es.length (g.hd q).2:=
 r.2.2 z es.length (by simp only[St.view,St.R,h])
theorem row_own{σ:St}{q:Pl}{z:Nat}{es:List (List A)}(h:σ.get q=some (.own z es)):σ.row q=some (z,es):=by unfold St.row;rw[h]
theorem row_bld{σ:St}{q:Pl}{z:Nat}{es:List (List A)}(h:σ.get q=some (.bld z es)):σ.row q=some (z,es):=by unfold St.row;rw[h]
def elemF(n:Nat)(σ:St)(x:Bool×List A):Option (List A×St):=if x.1 then mapM' (matL n) σ x.2 else some (x.2,σ)
theorem mapM_append{α β:Type}(f:St->α->Option (β×St)):∀ (xs ys:List α) (σ:St) (as:List β) (σ1:St) (bs:List β) (σ2:St),
  mapM' f σ xs=some (as,σ1)->mapM' f σ1 ys=some (bs,σ2)->mapM' f σ (xs++ys)=some (as++bs,σ2)
 | [],ys,σ,as,σ1,bs,σ2,h1,h2=>by
   simp only[mapM',Oe,Prod.mk.injEq]at h1;obtain⟨rfl,rfl⟩:=h1;exact h2
 | x::xs,ys,σ,as,σ1,bs,σ2,h1,h2=>by
   simp only[mapM']at h1;cases hx:f σ x with
   |none=>rw[hx]at h1;cases h1
   | some b=>
     obtain⟨b,σ'⟩:=b;rw[hx]at h1;dsimp only at h1;cases hr:mapM' f σ' xs with
     |none=>rw[hr]at h1;cases h1
     | some c=>
       obtain⟨c,σ''⟩:=c;rw[hr]at h1;simp only[Oe,Prod.mk.injEq]at h1;obtain⟨rfl,rfl⟩:=h1;have:=mapM_append f xs ys σ' c σ'' bs σ2 hr h2
       simp only[List.cons_append,mapM',hx,this]
theorem elem_true(n:Nat):∀ (es:List (List A)) (σ:St),mapM' (elemF n) σ (es.map fun e=>(true,e))=mapM' (mapM' (matL n)) σ es
 |[],σ=>rfl
 | e::es,σ=>by
   simp only[List.map_cons,mapM',elemF,if_true];cases h:mapM' (matL n) σ e with
   |none=>rfl
   | some b=>
     obtain⟨b,σ'⟩:=b;dsimp only
     rw[elem_true n es σ']
theorem elem_false(n:Nat):∀ (es:List (List A)) (σ:St),mapM' (elemF n) σ (es.map fun e=>(false,e))=some (es,σ)
 |[],σ=>rfl
 | e::es,σ=>by
   have h:=elem_false n es σ;simp only[List.map_cons,mapM',elemF,Bool.false_eq_true,if_false];rw[h]
def flags(cs:List (Bool×List (List A))):List (Bool×List A):=cs.flatMap fun c=>c.2.map fun e=>(c.1,e)
theorem elem_chunks(n:Nat):∀ (cs:List (Bool×List (List A))) (σ:St) (ess:List (List (List A))) (σ':St),
  mapM' (fun σ (c:Bool×List (List A))=>if c.1 then mapM' (mapM' (matL n)) σ c.2 else some (c.2,σ)) σ cs=some (ess,σ')->
  mapM' (elemF n) σ (flags cs)=some (ess.flatten,σ')
 | [],σ,ess,σ',h=>by
   simp only[mapM',Oe,Prod.mk.injEq]at h;obtain⟨rfl,rfl⟩:=h;rfl
 | (b,es)::cs,σ,ess,σ',h=>by
   simp only[mapM']at h;cases h1:(if b then mapM' (mapM' (matL n)) σ es else some (es,σ))with
   |none=>rw[h1]at h;cases h
   | some r=>
     obtain⟨es',σ1⟩:=r;rw[h1]at h;dsimp only at h;cases h2:mapM' (fun σ (c:Bool×List (List A))=>if c.1 then mapM' (mapM' (matL n)) σ c.2 else some (c.2,σ)) σ1 cs with
     |none=>rw[h2]at h;cases h
     | some r2=>
       obtain⟨ess',σ2⟩:=r2;rw[h2]at h;simp only[Oe,Prod.mk.injEq]at h;obtain⟨rfl,rfl⟩:=h;have k:=elem_chunks n cs σ1 ess' σ2 h2
       have k0:mapM' (elemF n) σ (es.map fun e=>(b,e))=some (es',σ1):=by
        cases b with
        |true=>rw[elem_true];simpa using h1
        |false=>rw[elem_false];simpa using h1
       exact mapM_append _ _ _ _ _ _ _ _ k0 k
theorem flags_get{cs:List (Bool×List (List A))}:(flags cs).map (·.2)=flat cs:=by
 induction cs with
 |nil=>rfl
 |cons c cs ih=>simp[flags,flat]at ih ⊢;rw[ih];simp[Function.comp_def]
def MatOK(w:World)(tv tl:Nat->Value)(n:Nat):Prop:=
 ∀(σ:St) (a a':A) (σ':St),matL n σ a=some (a',σ')-> ∀(g:G) (p q:Pl) (v:Value),Inv g σ w tv tl-> ¬noHand q->RepL g w σ.view p a v->
  ∃g',MS w tv tl (appsL a≠[]) (q.under ·) g σ g' σ'/\RepC g' w σ'.bx.length q a' v/\(RepE g w σ.view a v->RepO g' w q a' v)/\ ∀r,a= .sref r->σ'.R r=none
theorem RepE.toL{g:G}{w:World}{V:Vw}{p:Pl}{x:A}{u:Value}(h:RepE g w V x u):RepL g w V p x u:=by
 cases x<;>simp only[RepE]at h<;>first
  |exact h
  |exact(RepO.imm p _ u h.2 h.1).toL
  |(exfalso;have:=h.1;simp[A.leaf]at this;done)
theorem hand_at{q:Pl}(h:¬ noHand q)(i c:Nat):¬ noHand (q.at i c):=h
theorem elems_ok{n:Nat}(ih:MatOK w tv tl n){q:Pl}(hq:¬ noHand q)(o z:Nat)(U:Nat->Nat->Value)(fs:List (Bool×List A))(σ:St)(es':List (List A))(σ':St)(g:G)
  (hi:Inv g σ w tv tl) (hin:∀ (i:Nat) (b:Bool) e,fs[i]?=some (b,e)->e.length=z/\(b=false-> ∀x,x∈e->x.leaf=true)/\ ∀(c:Nat) x,e[c]?=some x->RepE g w σ.view x (U i c))
  (h:mapM' (elemF n) σ fs=some (es',σ')):
  ∃g',MS w tv tl False (fun r=> ∃i c,o<=i/\(q.at i c).under r) g σ g' σ'/\es'.length=fs.length/\
   ∀(i:Nat) e,es'[i]?=some e->e.length=z/\ ∀(c:Nat) x,e[c]?=some x->RepO g' w (q.at (o+i) c) x (U i c):=by
 obtain⟨g',m,hl,ho⟩:=mapM_ok (T:=False) (w:=w) (tv:=tv) (tl:=tl) (f:=elemF n)
  (fun i g σ (x:Bool×List A)=>x.2.length=z/\(x.1=false-> ∀y,y∈x.2->y.leaf=true)/\ ∀(c:Nat) y,x.2[c]?=some y->RepE g w σ.view y (U i c))
  (fun i g _ e=>e.length=z/\ ∀(c:Nat) x,e[c]?=some x->RepO g w (q.at (o+i) c) x (U i c))
  (fun i r=> ∃c,(q.at (o+i) c).under r)
  (by
    intro j g σ x b σ' hi hx hf
    obtain⟨fl,e⟩:=x
    obtain⟨h1,h2,h3⟩:=hx
    cases fl with
    | false=>
      simp only[elemF,Bool.false_eq_true,if_false,Oe,Prod.mk.injEq]at hf
      obtain⟨rfl,rfl⟩:=hf
      refine⟨g,MS.refl hi,h1,fun c x hx=>?_⟩
      have hl:=h2 rfl x (Mg hx)
      have hr:=h3 c x hx
      cases x<;>simp only[RepE]at hr<;>first
       |exact .imm _ _ _ hr.2 hr.1
       |simp[A.leaf]at hl
    | true=>
      simp only[elemF,if_true]at hf
      obtain⟨g',m,hl,ho⟩:=mapM_ok (T:=False) (w:=w) (tv:=tv) (tl:=tl) (f:=matL n)
       (fun c g σ x=>RepE g w σ.view x (U j c)) (fun c g _ y=>RepO g w (q.at (o+j) c) y (U j c)) (fun c r=>(q.at (o+j) c).under r)
       (fun c g σ a b σ' hi hx hf => by
         obtain⟨g',m,_,hO,_⟩:=ih σ a b σ' hf g (q.at (o+j) c) (q.at (o+j) c) _ hi (hand_at hq _ _) hx.toL
         exact⟨g',m.weak (fun e=>absurd hx.noApp e),hO hx⟩)
       (fun c E g σ g' σ' a m hx=>hx.step m)
       (fun c E g σ g' σ' b hd m hr=>hr.stays (m.stays (hand_at hq _ _) hd))
       (fun c d r hne h1 h2=>Pl.at_apart (fun e=>hne (by injection e)) h1 h2)
       e 0 σ b σ' g hi (fun c x hx=>by simpa using h3 c x hx) hf
      exact⟨g',m.mono fun r ⟨c,_,hr⟩=>⟨c,hr⟩,by rw[hl];exact h1,fun c x hx=>by simpa using ho c x hx⟩)
  (fun j E g σ g' σ' a m hx=>⟨hx.1,hx.2.1,fun c y hy=>(hx.2.2 c y hy).step m⟩)
  (fun j E g σ g' σ' b hd m hx=>⟨hx.1,fun c x hxc=>(hx.2 c x hxc).stays (m.stays (hand_at hq _ _) fun r hr=>hd r ⟨c,hr⟩)⟩)
  (fun j k r hne ⟨c,h1⟩ ⟨d,h2⟩=>Pl.at_apart (fun e=>hne (by injection e with e1;omega)) h1 h2)
  fs 0 σ es' σ' g hi (fun i x hx=>by obtain⟨b,e⟩:=x;simpa using hin i b e hx) h
 refine⟨g',m.mono fun r ⟨i,_,c,hr⟩=>⟨o+i,c,by omega,hr⟩,hl,fun i e he=>by simpa using ho i e he⟩
def G.adopt(g:G)(q:Pl)(b cap:Nat):G where
 ow b':=if b'=b then some (.row q)else g.ow b'
 hd r:=if r=q then(b,cap)else g.hd r
 blk:=g.blk
theorem Inv.weak{g g':G}{σ:St}(h:Inv g σ w tv tl)(hl:Later g w g' w)(hb:g'.blk=g.blk)(hhd:∀ r:Pl,noHand r->g'.hd r=g.hd r)
  (how:∀ (r:Pl) b,noHand r->g.ow b=some (.row r)->g'.ow b=some (.row r)) (howb:∀ b k,g.ow b=some (.bx k)->g'.ow b=some (.bx k))
  (ht:∀ (r:Pl) b,noHand r->g.ow b=some (.tmp r)->σ.R r=none\/g'.ow b=some (.tmp r)) (hlt:∀ b,g'.ow b≠none->b<w.heap.size):Inv g' σ w tv tl:=by
 have st:∀ p:Pl,noHand p->Stays p g w g' w:=fun p hp=>
  have hh:∀ r,p.under r->noHand r:=fun r hr k e=>hp k (by rw[hr.1];exact e)
  {hl with hd:=fun r hr=>hhd r (hh r hr),ow:=fun r b hr=>how r b (hh r hr),row:=fun _ _ _ _=>rfl}
 have tr:∀ (p:Pl) (V:Vw) (rs as:List Pl),noHand p->V.R=σ.R->Tr p g w V g' w V rs as:=by
  intro p V rs as hp hV;refine{st p hp with blk:=fun b _=>by rw[hb],nb:=Nat.le_refl _,ok:=fun _ _ h=>h,ref:=fun q _ hq=> .inr ⟨rfl,hhd q (ok_noHand hq)⟩,app:=fun q _ hq=>?_};cases hR:V.R q with
  |none=>exact .inl rfl
  |some zn=>exact .inr ⟨rfl,fun b hbt=>⟨(ht q b (ok_noHand hq) hbt).resolve_left (by rw[<-hV,hR];simp),rfl⟩⟩
 refine⟨fun n x hx=>(h.vars n x hx).tr (tr _ _ _ _ (fun k e=>by cases e) rfl) (fun _ h=>h) (fun _ h=>h),fun n x hx=>(h.locs n x hx).tr (tr _ _ _ _ (fun k e=>by cases e) rfl) (fun _ h=>h) (fun _ h=>h),fun b x hx=>?_,hlt⟩;have:=h.boxes b x hx
 cases x with
 | cells cs=>
   simp only[BoxOK]at this ⊢
   obtain⟨h1,cur,t,h2,h3,h4⟩:=this;rw[hb];exact⟨howb _ _ h1,cur,t,h2,h3,fun c x hx=>let ⟨u,hu,hc⟩:=h4 c x hx;⟨u,hu,hc.keeps (st _ (fun k e=>by cases e)) hb (Nat.le_refl _)⟩⟩
 | map es=>
   simp only[BoxOK]at this ⊢
   obtain⟨h1,ents,clk,h2,h3,h4⟩:=this;rw[hb];exact⟨howb _ _ h1,ents,clk,h2,h3,fun i k x hx=>let ⟨e,he,hk,hv⟩:=h4 i k x hx;⟨e,he,hk,hv.later hl⟩⟩
 |gone=>trivial
theorem adopt_ok{g:G}{σ:St}(h:Inv g σ w tv tl){p q:Pl}(hp:noHand p)(hq:¬ noHand q){b cap:Nat}(hb:g.ow b=some (.tmp p))(hR:σ.R p=none):
  MS w tv tl True (q.under ·) g σ (g.adopt q b cap) σ:=by
 have hl:Later g w (g.adopt q b cap) w:=⟨Nat.le_refl _,fun b' _ hn => by
  simp only[G.adopt]
  rw[if_neg (fun e=>by subst e;rw[hb]at hn;cases hn)]
  exact hn,fun _ _ _=>rfl,fun b' _ h=>⟨by simp only[G.adopt];rw[if_neg (fun e=>by subst e;rw[hb]at h;cases h)];exact h,rfl⟩⟩
 have ne:∀ {b'} {o:Ow},g.ow b'=some o->o≠ .tmp p->(g.adopt q b cap).ow b'=some o:=by
  intro b' o ho hne;simp only[G.adopt];rw[if_neg (fun e=>by subst e;rw[hb]at ho;cases ho;exact hne rfl)];exact ho
 have hhd:∀ r:Pl,r≠q->(g.adopt q b cap).hd r=g.hd r:=fun r hr=>by simp only[G.adopt];rw[if_neg hr]
 have nq:∀ r:Pl,noHand r->r≠q:=fun r hr e=>hq (e ▸ hr)
 have ht:∀ (r:Pl) b',noHand r->g.ow b'=some (.tmp r)->σ.R r=none\/(g.adopt q b cap).ow b'=some (.tmp r):=by
  intro r b' hr ho
  by_cases e:r=p
  ·subst e;exact .inl hR
  ·exact .inr (ne ho (fun e'=>e (by injection e')))
 refine{hl with blk:=rfl,owb:=fun b' k e=>ne e (by simp),hd:=?_,ow:=fun r b' _ _ e=>ne e (by simp),inv:=?_,nv:=rfl,nl:=rfl,nb:=rfl,ref:=?_,tmp:=?_}
 ·exact fun r _ hD=>hhd r (fun e=>hD (e ▸ Pl.under_refl q))
 ·refine h.weak hl rfl (fun r hr=>hhd r (nq r hr)) (fun r b' _ e=>ne e (by simp)) (fun b' k e=>ne e (by simp)) ht ?_;intro b' hb';refine h.lt b' (fun e=>hb' ?_);simp only[G.adopt];rw[if_neg (fun e'=>by subst e';rw[hb]at e;cases e)];exact e
 ·exact fun r hr=> .inr ⟨rfl,hhd r (nq r hr)⟩
 ·exact fun r b' hr e=>(ht r b' hr e).imp (fun e=>⟨trivial,e⟩) id
theorem MS.R_none{D:Pl->Prop}{g g':G}{σ σ':St}(h:MS w tv tl T D g σ g' σ'){r:Pl}(hr:noHand r)(e:σ.R r=none):σ'.R r=none:=by
 rcases h.ref r hr with f|⟨f,_⟩
 ·exact f
 ·rw[f];exact e
theorem R_set_un{σ:St}{p:Pl}{y:A}(h:σ.get p=some y):(σ.set p .un).R p=none:=by
 have:=R_set_under (A.un) h [];rw[Pl.plus_nil]at this;rw[this];rfl
theorem matL_sref{n:Nat}(ih:MatOK w tv tl n){σ:St}{r:Pl}{a':A}{σ':St}(h:matL (n+1) σ (.sref r)=some (a',σ')){g:G}{p q:Pl}{v:Value}(hi:Inv g σ w tv tl)(hq:¬ noHand q)
  (hr:RepL g w σ.view p (.sref r) v):∃ g',MS w tv tl False (q.under ·) g σ g' σ'/\RepO g' w q a' v/\σ'.R r=none:=by
 have hrr:RepS g σ.view r v:=hr;have hn:noHand r:=ok_noHand hrr.1
 simp only[matL]at h;split at h
 ·rename_i z es hg;simp only[Oe,Prod.mk.injEq]at h;obtain⟨rfl,rfl⟩:=h;refine⟨g.mv r q,(take_ok hi hn hq hg (.inl rfl)).weak id,?_,R_set_un hg⟩;have:=hi.getOwn hg
  rw[<-hrr.eq (row_own hg)]at this;have:=mv_rep (p:=r) (q:=q) this [] (Pl.plus_nil r).symm
  rwa [Pl.plus_nil]at this
 ·rename_i z es hg;split at h
  ·rename_i es' σ1 hm;simp only[Oe,Prod.mk.injEq]at h;obtain⟨rfl,rfl⟩:=h;have m1:MS w tv tl False (q.under ·) g σ (g.mv r q) (σ.set r .un):=take_ok hi hn hq hg (.inr rfl)
   have hv:=hrr.eq (row_bld hg);rcases hi.rowAt hg (.inr rfl)with⟨e,_⟩|⟨_,u,b,cap,cur,t,e1,e2,e3,e4,e5,e6,e7,e8⟩
   ·cases e
   ·have hU:∀ (i:Nat) e,es[i]?=some e->e.length=z/\ ∀(c:Nat) x,e[c]?=some x->cur[i*z+c]?=some (cur.getD (i*z+c) undef)/\RepE g w σ.view x (cur.getD (i*z+c) undef):=by
     intro i e he;refine⟨(e8 i e he).1,fun c x hx=>?_⟩;obtain⟨u,hu,hr⟩:=(e8 i e he).2 c x hx;have:cur.getD (i*z+c) undef=u:=by rw[Array.getD_eq_getD_getElem?,hu];rfl
     rw[this];exact⟨hu,hr⟩
    rw[<-elem_true]at hm
    obtain⟨g2,m2,hl,ho⟩:=elems_ok ih hq 0 z (fun i c=>cur.getD (i*z+c) undef) (es.map fun e=>(true,e)) (σ.set r .un) es' σ1 (g.mv r q) m1.inv
     (fun i b e he => by
       rw[List.getElem?_map]at he
       cases hes:es[i]? with
       |none=>rw[hes]at he;cases he
       | some e0=>
         rw[hes]at he
         simp only[Option.map_some,Oe,Prod.mk.injEq]at he
         obtain⟨rfl,rfl⟩:=he
         exact⟨(hU i e0 hes).1,fun e=>by simp at e,fun c x hx=>((hU i e0 hes).2 c x hx).2.step m1⟩) hm
    rw[List.length_map]at hl
    have hqD:¬ ∃i c,0<=i/\(q.at i c).under q:=by
     rintro⟨i,c,_,hu⟩;have:=hu.2
     obtain⟨s,hs⟩:=this;have:=congrArg List.length hs
     simp[Pl.at]at this
    have hhd:(g.mv r q).hd q=(b,cap):=by
     have:=mv_hd (g:=g) (p:=r) (q:=q) [];rw[Pl.plus_nil,Pl.plus_nil]at this;rw[this,e2]
    have how:(g.mv r q).ow b=some (.row q):=by
     have:=mv_ow (g:=g) (p:=r) (q:=q) (b:=b) [] (by rw[Pl.plus_nil];exact e3)
     rwa [Pl.plus_nil]at this
    refine⟨g2,m1.trans (m2.mono fun x ⟨i,c,_,hu⟩=>Pl.under_of_at hu),?_,m2.R_none hn (R_set_un hg)⟩;have hh2:g2.hd q=(b,cap):=(m2.hd q hq hqD).trans hhd
    have:v= .slice (some ⟨(g2.hd q).1,0,none⟩) es'.length (g2.hd q).2:=by rw[hv,hl,hh2,e2]
    rw[this];refine RepO.of_rowOK ⟨b,cap,cur,t,hh2,m2.ow q b hq hqD how,e4,e5,by omega,e7,fun i e he=>⟨(ho i e he).1,fun c x hx=>?_⟩⟩;have hk:=(ho i e he).2 c x hx
    rw[Nat.zero_add]at hk;have hlt:i<es.length:=by rw[<-hl];exact(Ge he).1
    have hle:c<z:=by rw[<-(ho i e he).1];exact(Ge hx).1
    obtain⟨k1,k2⟩:=hU i es[i] (Gg hlt);exact⟨_,(k2 c (es[i][c]'(by omega)) (Gg (by omega))).1,hk⟩
  ·cases h
 ·cases h
theorem flags_row{cs:List (Bool×List (List A))}{i:Nat}{b:Bool}{e:List A}(h:(flags cs)[i]?=some (b,e)):(flat cs)[i]?=some e/\ ∃c,c∈cs/\c.1=b/\e∈c.2:=by
 constructor
 ·rw[<-flags_get,List.getElem?_map,h];rfl
 ·have:=Mg h;simp only[flags,List.mem_flatMap,List.mem_map,Prod.mk.injEq]at this;obtain⟨c,hc,e',he',h1,rfl⟩:=this;exact⟨c,hc,h1,he'⟩
theorem flags_len{cs:List (Bool×List (List A))}:(flags cs).length=(flat cs).length:=by rw[<-flags_get,List.length_map]
theorem matL_row{n:Nat}{σ:St}{r:Pl}{a':A}{σ':St}(h:matL n σ (.sref r)=some (a',σ')):∃ z es es',σ.row r=some (z,es)/\a'= .own z es':=by
 cases n with
 |zero=>simp[matL]at h
 | succ n=>
   simp only[matL]at h;split at h
   ·rename_i z es hg;simp only[Oe,Prod.mk.injEq]at h;exact⟨z,es,es,row_own hg,h.1.symm⟩
   ·rename_i z es hg;split at h
    ·rename_i es' σ1 _;simp only[Oe,Prod.mk.injEq]at h;exact⟨z,es,es',row_bld hg,h.1.symm⟩
    ·cases h
   ·cases h
theorem not_at_self{q:Pl}{P:Nat->Nat->Prop}:¬ ∃i c,P i c/\(q.at i c).under q:=by
 rintro⟨i,c,_,_,s,hs⟩;have:=congrArg List.length hs
 simp[Pl.at]at this
theorem ref_moved{n:Nat}(ih:MatOK w tv tl n){σ:St}{r:Pl}{z:Nat}{es:List (List A)}{σ':St}(h:matL n σ (.sref r)=some (.own z es,σ')){g:G}{q:Pl}(hi:Inv g σ w tv tl)(hq:¬ noHand q)
  (hok:σ.view.ok r):∃ g' es0,MS w tv tl False (q.under ·) g σ g' σ'/\RepO g' w q (.own z es) (.slice (some ⟨(g.hd r).1,0,none⟩) es.length (g.hd r).2)/\σ'.R r=none/\
   σ.row r=some (z,es0)/\es0.length=es.length:=by
 obtain⟨z',es0,es',h1,h2⟩:=matL_row h;simp only[A.own.injEq]at h2;obtain⟨rfl,rfl⟩:=h2
 have hrs:RepL g w σ.view q (.sref r) (.slice (some ⟨(g.hd r).1,0,none⟩) es0.length (g.hd r).2):=by
  refine⟨hok,rfl,fun z' n' hR=>?_⟩;simp only[St.view,St.R,h1,Oe,Prod.mk.injEq]at hR;rw[hR.2]
 obtain⟨g',m,hC,hO,hn⟩:=ih σ _ _ σ' h g q q _ hi hq hrs;have hO:=hO hrs
 have hv:=hO.rowOK.2;simp only[Value.slice.injEq]at hv;refine⟨g',es0,m.weak (fun e=>absurd rfl e),?_,hn r rfl,h1,hv.2.1⟩;rw[<-hv.2.1];exact hO
theorem RepL.replace{g:G}{σ:St}(hi:Inv g σ w tv tl){p p':Pl}{x:A}{u:Value}(hx:x.light=true)(r:RepL g w σ.view p x u):RepL g w σ.view p' x u:=
 RepL.step (MS.refl (T:=False) (D:=fun _=>False) hi) hx r
theorem light_of_leaf{x:A}(h:x.leaf=true):x.light=true:=by
 cases x<;>simp_all [A.leaf,A.light]
theorem matL_ok:∀ n,MatOK w tv tl n
 |0=>fun σ a a' σ' h=>by simp[matL]at h
 | n+1=>fun σ a a' σ' h g p q v hi hq hr=>by
   have ih:=matL_ok n
   have simple:(a.light=true)->some (a,σ)=some (a',σ')->(∀r,a≠ .sref r)->(∀g V p v,RepL g w V p a v->RepC g w V.nb p a v)-> ∃g',MS w tv tl (appsL a≠[]) (q.under ·) g σ g' σ'/\RepC g' w σ'.bx.length q a' v/\(RepE g w σ.view a v->RepO g' w q a' v)/\ ∀r,a= .sref r->σ'.R r=none:=by
    intro hl e hs hC;simp only[Oe,Prod.mk.injEq]at e;obtain⟨rfl,rfl⟩:=e;refine⟨g,MS.refl hi,hC _ _ _ _ (hr.replace hi hl),fun he=>?_,fun r e=>absurd e (hs r)⟩
    cases a<;>simp only[RepE]at he<;>first
     |exact .imm _ _ _ he.2 he.1
     |exact absurd rfl (hs _)
   cases a
   case sref r=>
    obtain⟨g',m,hO,hR⟩:=matL_sref ih h hi hq hr;exact⟨g',m.weak False.elim,hO.toC,fun _=>hO,fun r' e=>by cases e;exact hR⟩
   case app z r cs=>
    simp only[matL]at h;split at h
    ·rename_i z' es σ1 h1;split at h
     ·rename_i hz;subst hz;split at h
      ·rename_i ess σ2 h2;simp only[Oe,Prod.mk.injEq]at h;obtain⟨rfl,rfl⟩:=h;simp only[RepL]at hr;obtain⟨hok,_,⟨hleaf,_⟩,happ⟩:=hr;have hn:=ok_noHand hok
       obtain⟨g1,es0,m1,hO,hRn,hrow,hlen⟩:=ref_moved ih h1 hi hq hok;obtain⟨b,cap,cur,t,e1,e2,e3,e4,e5,e6,e7,e8⟩:=happ z' es0.length (by simp only[St.view,St.R,hrow]) rfl;rw[hlen]at e1 e4 e7 e8
       have hU:∀ (i:Nat) e,(flat cs)[i]?=some e->e.length=z'/\ ∀(c:Nat) x,e[c]?=some x->cur[(es.length+i)*z'+c]?=some (cur.getD ((es.length+i)*z'+c) undef)/\RepE g w σ.view x (cur.getD ((es.length+i)*z'+c) undef):=by
        intro i e he;refine⟨(e8 i e he).1,fun c x hx=>?_⟩;obtain⟨u,hu,hr⟩:=(e8 i e he).2 c x hx;have:cur.getD ((es.length+i)*z'+c) undef=u:=by rw[Array.getD_eq_getD_getElem?,hu];rfl
        rw[this];exact⟨hu,hr⟩
       obtain⟨⟨b1,cap1,cur1,t1,f1,f2,f3,f4,f5,f6,f7⟩,hv1⟩:=hO.rowOK
       have hb1:b1=(g.hd r).1/\cap1=(g.hd r).2:=by
        simp only[f1,Value.slice.injEq,Oe,Addr.mk.injEq]at hv1;exact⟨hv1.1.1.symm,hv1.2.2.symm⟩
       -- the row,in the block that the append has made
       have step2:∃ g2,MS w tv tl True (q.under ·) g1 σ1 g2 σ1/\g2.hd q=(b,cap)/\g2.ow b=some (.row q)/\
         ∀(i:Nat) e,es[i]?=some e->e.length=z'/\ ∀(c:Nat) x,e[c]?=some x-> ∃u,cur[i*z'+c]?=some u/\RepO g2 w (q.at i c) x u:=by
        rcases e6 with e6|e6
        ·have hb:b1=b/\cap1=cap:=by rw[hb1.1,hb1.2,<-e6];exact⟨rfl,rfl⟩
         obtain⟨rfl,rfl⟩:=hb;rw[e2]at f3;simp only[Oe,Obj.cells.injEq]at f3;obtain⟨rfl,_,_⟩:=f3;exact⟨g1,MS.refl m1.inv,f1,f2,f7⟩
        ·have ht:g1.ow b=some (.tmp r):=(m1.tmp r b hn e6).resolve_left (fun e=>e.1);have ma:=adopt_ok m1.inv hn hq (cap:=cap) ht hRn
         refine⟨g1.adopt q b cap,ma,by simp[G.adopt],by simp[G.adopt],fun i e he=>⟨(f7 i e he).1,fun c x hx=>?_⟩⟩;obtain⟨u,hu,hx'⟩:=(f7 i e he).2 c x hx;refine⟨u,?_,?_⟩
         ·have hi':i<es.length:=(Ge he).1;have hc':c<z':=by rw[<-(f7 i e he).1];exact(Ge hx).1
          have:i*z'+c<es.length*z':=by
           calc i*z'+c<i*z'+z':=by omega
            _=(i+1)*z':=by rw[Nat.succ_mul]
            _<=es.length*z':=Nat.mul_le_mul_right _ hi'
          rw[<-e7 _ this,<-hb1.1,cell_of f3];exact hu
         ·refine hx'.stays {ma.toLater with hd:=?_,ow:=?_,row:=fun _ _ _ _=>rfl}
          ·intro r' hr';simp only[G.adopt];rw[if_neg];rintro rfl;exact not_at_self (P:=fun _ _=>True) ⟨i,c,trivial,hr'⟩
          ·intro r' b' _ ho;simp only[G.adopt];rw[if_neg (fun e=>by subst e;rw[ht]at ho;cases ho)];exact ho
       obtain⟨g2,m2,k1,k2,k3⟩:=step2;have h3:=elem_chunks n cs σ1 ess σ2 h2
       obtain⟨g3,m3,hl,ho⟩:=elems_ok ih hq es.length z' (fun i c=>cur.getD ((es.length+i)*z'+c) undef) (flags cs) σ1 ess.flatten σ2 g2 m2.inv
        (fun i fl e he => by
          obtain⟨he',c,hc,h1,h2⟩:=flags_row he
          exact⟨(hU i e he').1,fun hf=>hleaf c hc (h1.trans hf) e h2,fun c x hx=>(((hU i e he').2 c x hx).2.step m1).step m2⟩) h3
       rw[flags_len]at hl;have hqD:¬ ∃i c,es.length<=i/\(q.at i c).under q:=not_at_self
       have hh3:g3.hd q=(b,cap):=(m3.hd q hq hqD).trans k1
       have hO3:RepO g3 w q (.own z' (es++ess.flatten)) v:=by
        have:v= .slice (some ⟨(g3.hd q).1,0,none⟩) (es++ess.flatten).length (g3.hd q).2:=by rw[hh3,List.length_append,hl,e1]
        rw[this];refine RepO.of_rowOK ⟨b,cap,cur,t,hh3,m3.ow q b hq hqD k2,e2,e3,by rw[List.length_append,hl];exact e4,e5,fun i e he=>?_⟩
        by_cases hlt:i<es.length
        ·rw[List.getElem?_append_left hlt]at he;refine⟨(k3 i e he).1,fun c x hx=>?_⟩;obtain⟨u,hu,hx'⟩:=(k3 i e he).2 c x hx;refine⟨u,hu,hx'.stays (m3.stays (hand_at hq _ _) ?_)⟩;rintro r' hr' ⟨i',c',hi',hr2⟩;exact Pl.at_apart (fun e=>by injection e with e1;omega) hr' hr2
        ·rw[List.getElem?_append_right (by omega)]at he;have:=ho (i-es.length) e he
         rw[show es.length+(i-es.length)=i by omega]at this;refine⟨this.1,fun c x hx=>⟨_,?_,this.2 c x hx⟩⟩;have hlt2:i-es.length<(flat cs).length:=by rw[<-hl];exact(Ge he).1
         have hcz:c<z':=by rw[<-this.1];exact(Ge hx).1
         obtain⟨l1,l2⟩:=hU (i-es.length) (flat cs)[i-es.length] (Gg hlt2);have:=(l2 c ((flat cs)[i-es.length][c]'(by omega)) (Gg (by omega))).1
         rw[show es.length+(i-es.length)=i by omega]at this;exact this
       refine⟨g3,((m1.weak (S:=appsL (.app z' r cs)≠[]) False.elim).trans (m2.weak fun _=>by simp[appsL])).trans ((m3.weak False.elim).mono fun x ⟨i,c,_,hu⟩=>Pl.under_of_at hu),hO3.toC,fun _=>hO3,fun r' e=>by cases e⟩
      ·cases h
     ·cases h
    ·cases h
   case sub r lo hi'=>
    simp only[matL]at h;split at h
    ·rename_i hlo;subst hlo;split at h
     ·rename_i z es σ1 h1;simp only[Oe,Prod.mk.injEq]at h;obtain⟨rfl,rfl⟩:=h;simp only[RepL]at hr;obtain⟨hok,_,hsub⟩:=hr;obtain⟨g1,es0,m1,hO,hRn,hrow,hlen⟩:=ref_moved ih h1 hi hq hok;obtain⟨_,hle,oa,hv,hoa⟩:=hsub z es0.length (by simp only[St.view,St.R,hrow]);rw[hoa (.inr (by trivial))]at hv;obtain⟨⟨b1,cap1,cur1,t1,f1,f2,f3,f4,f5,f6,f7⟩,hv1⟩:=hO.rowOK;rw[f1]at hv1
      simp only[Value.slice.injEq,Oe,Addr.mk.injEq]at hv1;have htl:(es.take hi').length=hi':=by rw[List.length_take];omega
      have hO3:RepO g1 w q (.own z (es.take hi')) v:=by
       have:v= .slice (some ⟨(g1.hd q).1,0,none⟩) (es.take hi').length (g1.hd q).2:=by
        rw[hv,htl,f1,hv1.1.1,hv1.2.2];simp
       rw[this];refine RepO.of_rowOK ⟨b1,cap1,cur1,t1,f1,f2,f3,f4,by omega,f6,fun i e he=>?_⟩;rw[List.getElem?_take]at he;split at he
       ·exact f7 i e he
       ·cases he
      exact⟨g1,m1.weak False.elim,hO3.toC,fun _=>hO3,fun r' e=>by cases e⟩
     ·cases h
    ·cases h
   all_goals first
    |(simp only[matL,reduceCtorEq]at h;done)
    | (refine simple rfl (by simpa only [matL] using h) (fun r e => by cases e) ?_
       intro g V p v h
       exact h)
end Go.Ab
end
section
namespace Go.Ab
open Go.RowKit
variable {w:World} {tv tl:Nat->Value}
def A.one:A->Bool
 | .bld _ _=>false| .agg _=>false| .tup _=>false
 |_=>true
def lightA:A->Bool
 | .agg cs=>cs.all A.light
 |x=>x.light
def lightT:A->Bool
 | .tup vs=>vs.all lightA
 |x=>lightA x
def oneA:A->Bool
 | .agg cs=>cs.all A.one
 |x=>x.one
def oneT:A->Bool
 | .tup vs=>vs.all oneA
 |x=>oneA x
theorem matL_kind:∀ {n:Nat} {σ:St} {a a':A} {σ':St},matL n σ a=some (a',σ')->a'.loose=false/\a'.one=true
 |0,σ,a,a',σ',h=>by simp[matL]at h
 | n+1,σ,a,a',σ',h=>by
   cases a<;>simp only[matL]at h<;>
    (repeat' (split at h))<;>
    simp only[Oe,Prod.mk.injEq,reduceCtorEq]at h<;>
    (obtain⟨rfl,rfl⟩:=h;exact⟨rfl,rfl⟩)
theorem RepL.stepq{T:Prop}{D:Pl->Prop}{g g':G}{σ σ':St}(h:MS w tv tl T D g σ g' σ'){q:Pl}(hq:¬ noHand q)(hD:∀ r,q.under r-> ¬D r){x:A}{u:Value}(hx:x.one=true)
  (r:RepL g w σ.view q x u):RepL g' w σ'.view q x u:=by
 by_cases hl:x.light=true
 ·exact r.step h hl
 ·cases x<;>simp[A.light,A.one]at hl hx;simp only[RepL,RepC]at r ⊢
  exact r.stays (h.stays hq hD)
def CellOK(w:World)(tv tl:Nat->Value)(F:St->A->Option (A×St)):Prop:=
 ∀g σ a a' σ' (p q:Pl) v,Inv g σ w tv tl->F σ a=some (a',σ')->a.light=true->RepL g w σ.view p a v-> ¬noHand q->
  ∃g',MS w tv tl True (q.under ·) g σ g' σ'/\RepL g' w σ'.view q a' v/\a'.one=true
theorem cellsM_ok{F:St->A->Option (A×St)}(hF:CellOK w tv tl F){g:G}{σ σ':St}{cs cs':List A}{p q:Pl}{us:List Value}(hi:Inv g σ w tv tl)(h:mapM' F σ cs=some (cs',σ'))(hl:cs.all A.light=true)
  (hlen:cs.length=us.length) (hr:∀ (c:Nat) x u,cs[c]?=some x->us[c]?=some u->RepL g w σ.view (p.at 0 c) x u) (hq:¬ noHand q):
  ∃g',MS w tv tl True (q.under ·) g σ g' σ'/\cs'.length=us.length/\cs'.all A.one=true/\ ∀(c:Nat) x u,cs'[c]?=some x->us[c]?=some u->RepL g' w σ'.view (q.at 0 c) x u:=by
 obtain⟨g',m,hl',ho⟩:=mapM_ok (w:=w) (tv:=tv) (tl:=tl) (T:=True) (f:=F)
  (fun c g σ x=>x.light=true/\RepL g w σ.view (p.at 0 c) x (us.getD c undef))
  (fun c g σ y=>y.one=true/\RepL g w σ.view (q.at 0 c) y (us.getD c undef))
  (fun c r=>(q.at 0 c).under r)
  (fun c g σ a b σ' hi hx hf => by
    obtain⟨g',m,h1,h2⟩:=hF g σ a b σ' (p.at 0 c) (q.at 0 c) _ hi hf hx.1 hx.2 (hand_at hq _ _)
    exact⟨g',m,h2,h1⟩)
  (fun c E g σ g' σ' a m hx=>⟨hx.1,hx.2.step m hx.1⟩)
  (fun c E g σ g' σ' b hd m hx=>⟨hx.1,hx.2.stepq m (hand_at hq _ _) hd hx.1⟩)
  (fun c d r hne h1 h2=>Pl.at_apart (fun e=>hne (by injection e)) h1 h2)
  cs 0 σ cs' σ' g hi (fun c x hx => by
   rw[Nat.zero_add]
   have hc:c<us.length:=by rw[<-hlen];exact(Ge hx).1
   refine⟨List.all_eq_true.1 hl x (Mg hx),?_⟩
   rw[List.getD_eq_getElem?_getD,Gg hc]
   exact hr c x _ hx (Gg hc)) h
 refine⟨g',m.mono fun r ⟨c,_,hr⟩=>Pl.under_of_at hr,hl'.trans hlen,?_,fun c x u hx hu=>?_⟩
 ·rw[List.all_eq_true];intro x hx;obtain⟨i,hi⟩:=List.mem_iff_getElem?.1 hx;exact(ho i x hi).1
 ·have:=(ho c x hx).2;rw[Nat.zero_add,List.getD_eq_getElem?_getD,hu]at this;exact this
theorem cellOK_matL(n:Nat):CellOK w tv tl (matL n):=fun g σ a a' σ' p q v hi h _ hr hq=>
 let ⟨g',m,hC,_,_⟩:=matL_ok n σ a a' σ' h g p q v hi hq hr
 ⟨g',m.weak fun _=>trivial,hC.toL,(matL_kind h).2⟩
theorem cellOK_asgL:CellOK w tv tl asgL:=fun g σ a a' σ' p q v hi h hl hr hq=>by
 have main:matL 20 σ a=some (a',σ')->_:=fun h=>cellOK_matL 20 g σ a a' σ' p q v hi h hl hr hq
 cases a<;>simp only[asgL]at h<;>first
  |exact main h
  |skip
 split at h
 ·exact main h
 ·simp only[Oe,Prod.mk.injEq]at h;obtain⟨rfl,rfl⟩:=h;exact⟨g,MS.refl hi,hr,rfl⟩
def ValOK(w:World)(tv tl:Nat->Value)(F:St->A->Option (A×St)):Prop:=
 ∀g σ a a' σ' (p q:Pl) v,Inv g σ w tv tl->F σ a=some (a',σ')->lightA a=true->RepA g w σ.view p a v-> ¬noHand q->
  ∃g',MS w tv tl True (q.under ·) g σ g' σ'/\RepA g' w σ'.view q a' v/\oneA a'=true
theorem RepL.toA'{g:G}{V:Vw}{p:Pl}{a:A}{v:Value}(r:RepL g w V p a v)(h:a.one=true):RepA g w V p a v/\oneA a=true:=by
 refine⟨r.toA (fun cs e=>by subst e;simp[A.one]at h),?_⟩;cases a<;>simp[A.one,oneA]at h ⊢
theorem valOK_agg{F:St->A->Option (A×St)}(hF:CellOK w tv tl F){g:G}{σ:St}{cs cs':List A}{σ':St}{p q:Pl}{v:Value}(hi:Inv g σ w tv tl)(h:mapM' F σ cs=some (cs',σ'))(hl:lightA (.agg cs)=true)
  (hr:RepA g w σ.view p (.agg cs) v) (hq:¬ noHand q):∃ g',MS w tv tl True (q.under ·) g σ g' σ'/\RepA g' w σ'.view q (.agg cs') v/\oneA (.agg cs')=true:=by
 simp only[RepA]at hr;obtain⟨us,rfl,h1,h2⟩:=hr;obtain⟨g',m,e1,e2,e3⟩:=cellsM_ok hF hi h hl h1 h2 hq;exact⟨g',m,⟨us,rfl,e1,e3⟩,e2⟩
theorem valOK_matA:ValOK w tv tl matA:=fun g σ a a' σ' p q v hi h hl hr hq=>by
 have main:a.light=true->matL 20 σ a=some (a',σ')->RepL g w σ.view p a v-> ∃g',MS w tv tl True (q.under ·) g σ g' σ'/\RepA g' w σ'.view q a' v/\oneA a'=true:=fun hl h hr=>
  let ⟨g',m,h1,h2⟩:=cellOK_matL 20 g σ a a' σ' p q v hi h hl hr hq
  ⟨g',m,(h1.toA' h2).1,(h1.toA' h2).2⟩
 cases a<;>simp only[matA]at h<;>first
  |exact main hl h hr
  |skip
 split at h
 ·rename_i cs' σ1 hm;simp only[Oe,Prod.mk.injEq]at h;obtain⟨rfl,rfl⟩:=h;exact valOK_agg (cellOK_matL 20) hi hm hl hr hq
 ·cases h
theorem RepA.step{T:Prop}{D:Pl->Prop}{g g':G}{σ σ':St}(h:MS w tv tl T D g σ g' σ'){p p':Pl}{a:A}{v:Value}(hl:lightA a=true)(r:RepA g w σ.view p a v):RepA g' w σ'.view p' a v:=by
 cases a<;>simp only[RepA]at r ⊢ <;>first
  |exact RepL.step h hl r
  |skip
 obtain⟨us,h1,h2,h3⟩:=r;exact⟨us,h1,h2,fun c x u hx hu=>(h3 c x u hx hu).step h (List.all_eq_true.1 hl x (Mg hx))⟩
theorem RepA.stepq{T:Prop}{D:Pl->Prop}{g g':G}{σ σ':St}(h:MS w tv tl T D g σ g' σ'){q:Pl}(hq:¬ noHand q)(hD:∀ r,q.under r-> ¬D r){a:A}{v:Value}(hl:oneA a=true)
  (r:RepA g w σ.view q a v):RepA g' w σ'.view q a v:=by
 cases a<;>simp only[RepA]at r ⊢ <;>first
  |exact RepL.stepq h hq hD hl r
  |skip
 obtain⟨us,h1,h2,h3⟩:=r;exact⟨us,h1,h2,fun c x u hx hu=>(h3 c x u hx hu).stepq h (hand_at hq _ _) (fun r hr=>hD r (Pl.under_of_at hr)) (List.all_eq_true.1 hl x (Mg hx))⟩
def WholeOK(w:World)(tv tl:Nat->Value)(F:St->A->Option (A×St)):Prop:=
 ∀g σ a a' σ' (p q:Pl) v,Inv g σ w tv tl->F σ a=some (a',σ')->lightT a=true->RepT g w σ.view p a v-> ¬noHand q->
  ∃g',MS w tv tl True (q.under ·) g σ g' σ'/\RepT g' w σ'.view q a' v/\oneT a'=true
theorem oneA_noTup{a:A}(h:oneA a=true):∀ cs,a≠ .tup cs:=by
 rintro cs rfl;simp[oneA,A.one]at h
theorem RepA.toT'{g:G}{V:Vw}{p:Pl}{a:A}{v:Value}(r:RepA g w V p a v)(h:oneA a=true):RepT g w V p a v/\oneT a=true:=by
 refine⟨r.toT (oneA_noTup h),?_⟩;cases a<;>simp[A.one,oneA,oneT]at h ⊢
 exact h
theorem whole_mat:WholeOK w tv tl mat:=fun g σ a a' σ' p q v hi h hl hr hq=>by
 have main:lightA a=true->matA σ a=some (a',σ')->RepA g w σ.view p a v-> ∃g',MS w tv tl True (q.under ·) g σ g' σ'/\RepT g' w σ'.view q a' v/\oneT a'=true:=fun hl h hr=>
  let ⟨g',m,h1,h2⟩:=valOK_matA g σ a a' σ' p q v hi h hl hr hq
  ⟨g',m,(h1.toT' h2).1,(h1.toT' h2).2⟩
 cases a<;>simp only[mat]at h<;>first
  |exact main hl h hr
  |(simp[matA,matL]at h;done)
  |skip
 rename_i vs;split at h
 ·rename_i vs' σ1 hm;simp only[Oe,Prod.mk.injEq]at h;obtain⟨rfl,rfl⟩:=h;simp only[RepT]at hr;obtain⟨us,rfl,h1,h2⟩:=hr
  obtain⟨g',m,hl',ho⟩:=mapM_ok (w:=w) (tv:=tv) (tl:=tl) (T:=True) (f:=matA)
   (fun j g σ x=>lightA x=true/\RepA g w σ.view (p.at j 0) x (us.getD j undef))
   (fun j g σ y=>oneA y=true/\RepA g w σ.view (q.at j 0) y (us.getD j undef))
   (fun j r=>(q.at j 0).under r)
   (fun j g σ a b σ' hi hx hf => by
     obtain⟨g',m,h1,h2⟩:=valOK_matA g σ a b σ' (p.at j 0) (q.at j 0) _ hi hf hx.1 hx.2 (hand_at hq _ _)
     exact⟨g',m,h2,h1⟩)
   (fun j E g σ g' σ' a m hx=>⟨hx.1,hx.2.step m hx.1⟩)
   (fun j E g σ g' σ' b hd m hx=>⟨hx.1,hx.2.stepq m (hand_at hq _ _) hd hx.1⟩)
   (fun j k r hne h1 h2=>Pl.at_apart (fun e=>hne (by injection e)) h1 h2)
   vs 0 σ vs' _ g hi (fun j x hx => by
    rw[Nat.zero_add]
    have hc:j<us.length:=by rw[<-h1];exact(Ge hx).1
    refine⟨List.all_eq_true.1 hl x (Mg hx),?_⟩
    rw[List.getD_eq_getElem?_getD,Gg hc]
    exact h2 j x _ hx (Gg hc)) hm
  refine⟨g',m.mono fun r ⟨c,_,hr⟩=>Pl.under_of_at hr,⟨us,rfl,hl'.trans h1,fun j x u hx hu=>?_⟩,?_⟩
  ·have:=(ho j x hx).2;rw[Nat.zero_add,List.getD_eq_getElem?_getD,hu]at this;exact this
  ·simp only[oneT,List.all_eq_true];intro x hx;obtain⟨i,hi⟩:=List.mem_iff_getElem?.1 hx;exact(ho i x hi).1
 ·cases h
theorem whole_asg:WholeOK w tv tl asg:=fun g σ a a' σ' p q v hi h hl hr hq=>by
 have main:mat σ a=some (a',σ')->_:=fun h=>whole_mat g σ a a' σ' p q v hi h hl hr hq
 cases a<;>simp only[asg]at h<;>first
  |exact main h
  |skip
 case sref r=>
  split at h
  ·obtain⟨g',m,h1,h2⟩:=cellOK_matL 20 g σ _ a' σ' p q v hi h rfl hr hq;obtain⟨h1,h2⟩:=h1.toA' h2;exact⟨g',m,(h1.toT' h2).1,(h1.toT' h2).2⟩
  ·simp only[Oe,Prod.mk.injEq]at h;obtain⟨rfl,rfl⟩:=h;exact⟨g,MS.refl hi,hr,rfl⟩
 case pref r i c=>
  simp only[Oe,Prod.mk.injEq]at h;obtain⟨rfl,rfl⟩:=h;exact⟨g,MS.refl hi,hr,rfl⟩
 case agg cs=>
  split at h
  ·rename_i cs' σ1 hm;simp only[Oe,Prod.mk.injEq]at h;obtain⟨rfl,rfl⟩:=h;obtain⟨g',m,h1,h2⟩:=valOK_agg cellOK_asgL hi hm hl hr hq;exact⟨g',m,(h1.toT' h2).1,(h1.toT' h2).2⟩
  ·cases h
end Go.Ab
end
section
namespace Go.Ab
open Go.RowKit
variable {w:World} {tv tl:Nat->Value}
theorem getS_none{a:A}(h:∀ q,child a q=none):∀ s,s≠[]->getS a s=none
 |[],e=>absurd rfl e
 |q::s,_=>by simp[getS,h q]
theorem rowLen_killE(q:Pl)(x:A):∀ s,rowLen (getS (killE q x) s)=rowLen (getS x s):=by
 intro s;cases x with
 | sref p=>
   simp only[killE];split
   ·cases s with
    |nil=>rfl
    |cons c s=>rw[getS_none (fun _=>rfl) _ (by simp),getS_none (fun _=>rfl) _ (by simp)]
   ·rfl
 |_=>rfl
theorem rowLen_killLeaf(q:Pl)(x:A)(s:List (Nat×Nat)):rowLen (getS (killLeaf q x) s)=rowLen (getS x s):=by
 have flat:∀ a b:A,(∀q,child a q=none)->(∀q,child b q=none)->rowLen (some a)=none->rowLen (some b)=none->rowLen (getS a s)=rowLen (getS b s):=by
  intro a b ha hb ra rb;cases s with
  |nil=>simp only[getS];rw[ra,rb]
  |cons c s=>rw[getS_none ha _ (by simp),getS_none hb _ (by simp)]
 cases x<;>simp only[killLeaf]<;>first
  |rfl
  | (split <;> first
      |rfl
      |exact flat _ _ (fun _=>rfl) (fun _=>rfl) rfl rfl)
  |skip
 rename_i z es;cases s with
 |nil=>simp[getS,rowLen]
 | cons c s=>
   obtain⟨i,c⟩:=c;simp only[getS,child,List.getElem?_map];cases es[i]? with
   |none=>rfl
   | some e=>
     simp only[Option.map_some,List.getElem?_map];cases e[c]? with
     |none=>rfl
     |some x=>exact rowLen_killE q x s
theorem rowLen_killAg(q:Pl)(x:A)(s:List (Nat×Nat)):rowLen (getS (killAg q x) s)=rowLen (getS x s):=by
 cases x<;>simp only[killAg]<;>try exact rowLen_killLeaf q _ s
 rename_i cs;cases s with
 |nil=>rfl
 | cons c s=>
   obtain⟨i,c⟩:=c;cases i with
   |succ i=>rfl
   | zero=>
     simp only[getS,child,List.getElem?_map];cases cs[c]? with
     |none=>rfl
     |some x=>exact rowLen_killLeaf q x s
theorem rowLen_killA(q:Pl)(x:A)(s:List (Nat×Nat)):rowLen (getS (killA q x) s)=rowLen (getS x s):=by
 cases x<;>simp only[killA]<;>try exact rowLen_killAg q _ s
 rename_i vs;cases s with
 |nil=>rfl
 | cons c s=>
   obtain⟨i,c⟩:=c;cases c with
   |succ c=>rfl
   | zero=>
     simp only[getS,child,List.getElem?_map];cases vs[i]? with
     |none=>rfl
     |some x=>exact rowLen_killAg q x s
theorem R_kill(σ:St)(q r:Pl):(σ.kill q).R r=σ.R r:=by
 rw[R_eq,R_eq];unfold St.get
 have main:∀ (o:Option A),rowLen (match (o.map (killA q))with|some a=>getS a r.s|none=>none)=rowLen (match o with|some a=>getS a r.s|none=>none):=by
  intro o;cases o with
  |none=>rfl
  |some a=>exact rowLen_killA q a r.s
 cases hr:r.r<;>simp only[St.root,St.kill,List.getElem?_map]
 ·exact main _
 ·exact main _
theorem view_kill(σ:St)(q:Pl):(σ.kill q).view=σ.view/\(σ.kill q).view0=σ.view0:=by
 have hR:(σ.kill q).R=σ.R:=funext (R_kill σ q);simp only[St.view,St.view0,hR];simp[St.kill]
theorem RepE.kill{g:G}{V:Vw}{x:A}{u:Value}(q:Pl)(r:RepE g w V x u):RepE g w V (killE q x) u:=by
 cases x<;>simp only[killE]<;>try exact r
 split
 ·exact⟨rfl,.un u r.2.1⟩
 ·exact r
theorem RepL.un{g:G}{V:Vw}{p:Pl}{v:Value}(h:v.oneCell'=true):RepL g w V p .un v:=by
 simp only[RepL,RepC];exact .imm _ _ _ (.un v h) rfl
theorem flat_kill(q:Pl)(cs:List (Bool×List (List A))):flat (cs.map fun c=>(c.1,c.2.map (·.map (killE q))))=(flat cs).map (·.map (killE q)):=by
 induction cs with
 |nil=>rfl
 | cons c cs ih=>
   simp only[flat,List.map_cons,List.flatten_cons,List.map_append]at ih ⊢
   rw[ih]
theorem RepL.kill{g:G}{V:Vw}{p:Pl}{a:A}{v:Value}(q:Pl)(r:RepL g w V p a v):RepL g w V p (killLeaf q a) v:=by
 cases a<;>simp only[killLeaf]<;>first
  |exact r
  |(split<;>first|exact RepL.un r.2.1|exact r)
  |skip
 ·rename_i z es;simp only[RepL]at r ⊢
  obtain⟨b,cap,cur,t,e1,e2,e3,e4,e5,e6,e7,e8⟩:=r;refine⟨b,cap,cur,t,by rw[e1,List.length_map],e2,e3,e4,e5,by rw[List.length_map];exact e6,e7,fun i e he=>?_⟩;rw[List.getElem?_map]at he;cases hes:es[i]? with
  |none=>rw[hes]at he;cases he
  | some e0=>
    rw[hes]at he;simp only[Option.map_some,Oe]at he;subst he;refine⟨by rw[List.length_map];exact(e8 i e0 hes).1,fun c x hx=>?_⟩;rw[List.getElem?_map]at hx;cases hxs:e0[c]? with
    |none=>rw[hxs]at hx;cases hx
    | some x0=>
      rw[hxs]at hx;simp only[Option.map_some,Oe]at hx;subst hx;obtain⟨u,hu,hr⟩:=(e8 i e0 hes).2 c x0 hxs;exact⟨u,hu,hr.kill q⟩
 ·rename_i z p' cs;split
  ·exact RepL.un r.2.1
  ·simp only[RepL]at r ⊢
   obtain⟨h1,h0,⟨h2,h4⟩,h3⟩:=r;refine⟨h1,h0,⟨?_,?_⟩,fun z' n hR hz=>?_⟩
   ·intro c hc hf e he x hx;rw[List.mem_map]at hc;obtain⟨c0,hc0,rfl⟩:=hc;simp only[List.mem_map]at he;obtain⟨e0,he0,rfl⟩:=he;rw[List.mem_map]at hx;obtain⟨x0,hx0,rfl⟩:=hx;have:=h2 c0 hc0 hf e0 he0 x0 hx0
    cases x0<;>simp only[killE]<;>first|exact this|simp[A.leaf]at this
   ·intro r hr;refine h4 r ?_;rw[flat_kill]at hr;simp only[List.mem_flatMap,List.mem_map]at hr ⊢
    obtain⟨e,⟨e0,he0,rfl⟩,x,hx,hr⟩:=hr;rw[List.mem_map]at hx;obtain⟨x0,hx0,rfl⟩:=hx;refine⟨e0,he0,x0,hx0,?_⟩;cases x0 with
    | sref p=>
      simp only[killE]at hr
      by_cases hh:hangs q p=true
      ·rw[if_pos hh]at hr;simp[refsE]at hr
      ·rw[if_neg hh]at hr;exact hr
    |_=>simp[killE,refsE]at hr
   ·obtain⟨b,cap,cur,t,e1,e2,e3,e4,e5,e6,e7,e8⟩:=h3 z' n hR hz;rw[<-List.length_map (f:=fun e:List A=>e.map (killE q)),<-flat_kill]at e1 e4;refine⟨b,cap,cur,t,e1,e2,e3,e4,e5,e6,e7,fun i e he=>?_⟩;rw[flat_kill,List.getElem?_map]at he;cases hes:(flat cs)[i]? with
    |none=>rw[hes]at he;cases he
    | some e0=>
      rw[hes]at he;simp only[Option.map_some,Oe]at he;subst he;refine⟨by rw[List.length_map];exact(e8 i e0 hes).1,fun c x hx=>?_⟩;rw[List.getElem?_map]at hx;cases hxs:e0[c]? with
      |none=>rw[hxs]at hx;cases hx
      | some x0=>
        rw[hxs]at hx;simp only[Option.map_some,Oe]at hx;subst hx;obtain⟨u,hu,hr⟩:=(e8 i e0 hes).2 c x0 hxs;exact⟨u,hu,hr.kill q⟩
theorem killLeaf_noagg(q:Pl)(x:A)(h:∀ cs,x≠ .agg cs):∀ cs,killLeaf q x≠ .agg cs:=by
 cases x<;>simp only[killLeaf]<;>first
  |(intro cs e;cases e;done)
  |exact h
  |(split<;>(intro cs e;cases e))
theorem killLeaf_notup(q:Pl)(x:A)(h:∀ cs,x≠ .tup cs):∀ cs,killLeaf q x≠ .tup cs:=by
 cases x<;>simp only[killLeaf]<;>first
  |(intro cs e;cases e;done)
  |exact h
  |(split<;>(intro cs e;cases e))
theorem killAg_notup(q:Pl)(x:A)(h:∀ cs,x≠ .tup cs):∀ cs,killAg q x≠ .tup cs:=by
 cases x<;>simp only[killAg]<;>first
  |(intro cs e;cases e;done)
  |exact killLeaf_notup q _ h
theorem RepA.kill{g:G}{V:Vw}{p:Pl}{a:A}{v:Value}(q:Pl)(r:RepA g w V p a v):RepA g w V p (killAg q a) v:=by
 by_cases h:∃ cs,a= .agg cs
 ·obtain⟨cs,rfl⟩:=h;simp only[RepA,killAg]at r ⊢
  obtain⟨us,h1,h2,h3⟩:=r;refine⟨us,h1,by rw[List.length_map];exact h2,fun c x u hx hu=>?_⟩;rw[List.getElem?_map]at hx;cases hxs:cs[c]? with
  |none=>rw[hxs]at hx;cases hx
  | some x0=>
    rw[hxs]at hx;simp only[Option.map_some,Oe]at hx;subst hx;exact(h3 c x0 u hxs hu).kill q
 ·have hn:∀ cs,a≠ .agg cs:=fun cs e=>h ⟨cs,e⟩;have e:killAg q a=killLeaf q a:=by cases a<;>first|rfl|exact absurd rfl (hn _)
  rw[e];refine RepL.toA (RepL.kill q ?_) (killLeaf_noagg q a hn);cases a<;>first|exact r|exact absurd rfl (hn _)
theorem RepT.kill{g:G}{V:Vw}{p:Pl}{a:A}{v:Value}(q:Pl)(r:RepT g w V p a v):RepT g w V p (killA q a) v:=by
 by_cases h:∃ cs,a= .tup cs
 ·obtain⟨cs,rfl⟩:=h;simp only[RepT,killA]at r ⊢
  obtain⟨us,h1,h2,h3⟩:=r;refine⟨us,h1,by rw[List.length_map];exact h2,fun c x u hx hu=>?_⟩;rw[List.getElem?_map]at hx;cases hxs:cs[c]? with
  |none=>rw[hxs]at hx;cases hx
  | some x0=>
    rw[hxs]at hx;simp only[Option.map_some,Oe]at hx;subst hx;exact(h3 c x0 u hxs hu).kill q
 ·have hn:∀ cs,a≠ .tup cs:=fun cs e=>h ⟨cs,e⟩;have e:killA q a=killAg q a:=by cases a<;>first|rfl|exact absurd rfl (hn _)
  rw[e]
  by_cases hs:a= .top\/a= .ud
  ·rcases hs with rfl|rfl
   ·trivial
   ·exact r
  ·refine RepA.toT (RepA.kill q ?_) (killAg_notup q a hn);cases a<;>first|exact r|exact absurd rfl (hn _)|(simp at hs;done)
theorem Inv.kill{g:G}{σ:St}(h:Inv g σ w tv tl)(q:Pl):Inv g (σ.kill q) w tv tl:=by
 obtain⟨hv,hv0⟩:=view_kill σ q;refine⟨fun n x hx=>?_,fun n x hx=>?_,h.boxes,h.lt⟩
 ·simp only[St.kill,List.getElem?_map]at hx;cases hxs:σ.vs[n]? with
  |none=>rw[hxs]at hx;cases hx
  | some x0=>
    rw[hxs]at hx;simp only[Option.map_some,Oe]at hx;subst hx;rw[hv0];exact(h.vars n x0 hxs).kill q
 ·simp only[St.kill,List.getElem?_map]at hx;cases hxs:σ.ls[n]? with
  |none=>rw[hxs]at hx;cases hx
  | some x0=>
    rw[hxs]at hx;simp only[Option.map_some,Oe]at hx;subst hx;rw[hv];exact(h.locs n x0 hxs).kill q
theorem killE_refs{q r:Pl}{x:A}(h:r∈refsE (killE q x)):hangs q r=false:=by
 cases x with
 | sref p=>
   simp only[killE]at h
   by_cases hh:hangs q p=true
   ·rw[if_pos hh]at h;simp[refsE]at h
   ·rw[if_neg hh]at h;simp[refsE]at h;subst h;simpa using hh
 |_=>simp[killE,refsE]at h
theorem flatE_refs{q r:Pl}{es:List (List A)}(h:r∈(es.map (·.map (killE q))).flatMap (·.flatMap refsE)):hangs q r=false:=by
 simp only[List.mem_flatMap,List.mem_map]at h;obtain⟨e,⟨e0,_,rfl⟩,x,hx,hr⟩:=h;rw[List.mem_map]at hx;obtain⟨x0,_,rfl⟩:=hx;exact killE_refs hr
theorem same_hangs{q p:Pl}(h:p.r.same q.r=false):hangs q p=false:=by simp[hangs,h]
theorem killLeaf_refs{q r:Pl}{x:A}(h:r∈refsL (killLeaf q x)):hangs q r=false:=by
 cases x<;>simp only[killLeaf]at h<;>first
  |(simp[refsL]at h;done)
  | (split at h
     ·simp[refsL]at h
     ·rename_i hh
      simp[refsL]at h
      subst h
      simpa using hh
     done)
  |skip
 ·exact flatE_refs h
 ·split at h
  ·simp[refsL]at h
  ·rename_i hh;simp only[refsL,List.mem_cons]at h;rcases h with rfl|h
   ·exact same_hangs (by simpa using hh)
   ·rw[flat_kill]at h;exact flatE_refs h
theorem killLeaf_apps{q r:Pl}{x:A}(h:r∈appsL (killLeaf q x)):r.r.same q.r=false:=by
 cases x<;>simp only[killLeaf]at h<;>first
  |(simp[appsL]at h;done)
  |(split at h<;>(simp[appsL]at h;done))
  |skip
 split at h
 ·simp[appsL]at h
 ·rename_i hh;simp[appsL]at h;subst h;simpa using hh
theorem killAg_refs{q r:Pl}{x:A}(h:r∈refsA (killAg q x)):hangs q r=false:=by
 by_cases hx:∃ cs,x= .agg cs
 ·obtain⟨cs,rfl⟩:=hx;simp only[killAg,refsA,List.mem_flatMap,List.mem_map]at h;obtain⟨_,⟨x0,_,rfl⟩,hr⟩:=h;exact killLeaf_refs hr
 ·have hn:∀ cs,x≠ .agg cs:=fun cs e=>hx ⟨cs,e⟩;have e:killAg q x=killLeaf q x:=by cases x<;>first|rfl|exact absurd rfl (hn _)
  rw[e]at h;refine killLeaf_refs (x:=x) ?_;have h2:=killLeaf_noagg q x hn
  generalize killLeaf q x=y at h h2 ⊢
  cases y<;>first|exact h|exact absurd rfl (h2 _)
theorem killAg_apps{q r:Pl}{x:A}(h:r∈appsA (killAg q x)):r.r.same q.r=false:=by
 by_cases hx:∃ cs,x= .agg cs
 ·obtain⟨cs,rfl⟩:=hx;simp only[killAg,appsA,List.mem_flatMap,List.mem_map]at h;obtain⟨_,⟨x0,_,rfl⟩,hr⟩:=h;exact killLeaf_apps hr
 ·have hn:∀ cs,x≠ .agg cs:=fun cs e=>hx ⟨cs,e⟩;have e:killAg q x=killLeaf q x:=by cases x<;>first|rfl|exact absurd rfl (hn _)
  rw[e]at h;refine killLeaf_apps (x:=x) ?_;have h2:=killLeaf_noagg q x hn
  generalize killLeaf q x=y at h h2 ⊢
  cases y<;>first|exact h|exact absurd rfl (h2 _)
theorem killA_refs{q r:Pl}{x:A}(h:r∈refsT (killA q x)):hangs q r=false:=by
 by_cases hx:∃ cs,x= .tup cs
 ·obtain⟨cs,rfl⟩:=hx;simp only[killA,refsT,List.mem_flatMap,List.mem_map]at h;obtain⟨_,⟨x0,_,rfl⟩,hr⟩:=h;exact killAg_refs hr
 ·have hn:∀ cs,x≠ .tup cs:=fun cs e=>hx ⟨cs,e⟩;have e:killA q x=killAg q x:=by cases x<;>first|rfl|exact absurd rfl (hn _)
  rw[e]at h;refine killAg_refs (x:=x) ?_;have h2:=killAg_notup q x hn
  generalize killAg q x=y at h h2 ⊢
  cases y<;>first|exact h|exact absurd rfl (h2 _)
theorem killA_apps{q r:Pl}{x:A}(h:r∈appsT (killA q x)):r.r.same q.r=false:=by
 by_cases hx:∃ cs,x= .tup cs
 ·obtain⟨cs,rfl⟩:=hx;simp only[killA,appsT,List.mem_flatMap,List.mem_map]at h;obtain⟨_,⟨x0,_,rfl⟩,hr⟩:=h;exact killAg_apps hr
 ·have hn:∀ cs,x≠ .tup cs:=fun cs e=>hx ⟨cs,e⟩;have e:killA q x=killAg q x:=by cases x<;>first|rfl|exact absurd rfl (hn _)
  rw[e]at h;refine killAg_apps (x:=x) ?_;have h2:=killAg_notup q x hn
  generalize killAg q x=y at h h2 ⊢
  cases y<;>first|exact h|exact absurd rfl (h2 _)
theorem same_self{p q:Pl}(hp:noHand q)(h:q.r=p.r):p.r.same q.r=true:=by
 rw[h];cases hr:p.r<;>simp[Rt.same];exact hp _ (h.trans hr)
theorem refIn_kill{σ:St}{q r:Pl}(h:RefIn (σ.kill q) r):hangs q r=false:=by
 rcases h with⟨n,x,hx,hr⟩|⟨n,x,hx,hr⟩
 all_goals
  simp only[St.kill,List.getElem?_map]at hx
  first
   | (cases hxs:σ.vs[n]? with
      |none=>rw[hxs]at hx;cases hx
      |some x0=>rw[hxs]at hx;simp only[Option.map_some,Oe]at hx;subst hx;exact killA_refs hr)
   | (cases hxs:σ.ls[n]? with
      |none=>rw[hxs]at hx;cases hx
      |some x0=>rw[hxs]at hx;simp only[Option.map_some,Oe]at hx;subst hx;exact killA_refs hr)
theorem appIn_kill{σ:St}{q r:Pl}(h:AppIn (σ.kill q) r):r.r.same q.r=false:=by
 rcases h with⟨n,x,hx,hr⟩|⟨n,x,hx,hr⟩
 all_goals
  simp only[St.kill,List.getElem?_map]at hx
  first
   | (cases hxs:σ.vs[n]? with
      |none=>rw[hxs]at hx;cases hx
      |some x0=>rw[hxs]at hx;simp only[Option.map_some,Oe]at hx;subst hx;exact killA_apps hr)
   | (cases hxs:σ.ls[n]? with
      |none=>rw[hxs]at hx;cases hx
      |some x0=>rw[hxs]at hx;simp only[Option.map_some,Oe]at hx;subst hx;exact killA_apps hr)
end Go.Ab
end
section
namespace Go.Ab
open Go.RowKit
variable {w:World} {tv tl:Nat->Value}
theorem Stays.refl(p:Pl)(g:G)(w:World):Stays p g w g w:=
 {Later.refl g w with hd:=fun _ _=>rfl,ow:=fun _ _ _ h=>h,row:=fun _ _ _ _=>rfl}
theorem RepT.review{g:G}{V V':Vw}{x:A}{v:Value}{p:Pl}(r:RepT g w V p x v)(hb:V'.nb=V.nb)(hok:∀ q,q∈refsT x->V.ok q->V'.ok q)(hR:∀ q,q∈refsT x->V.ok q->V'.R q=none\/V'.R q=V.R q):RepT g w V' p x v:=by
 have t:Tr p g w V g w V' (refsT x) (appsT x):=
  {Stays.refl p g w with blk:=fun _ _=>rfl,nb:=by omega,ok:=hok,ref:=fun q hq h=>(hR q hq h).imp id (fun e=>⟨e,rfl⟩),app:=fun q _ _=> .inr ⟨rfl,fun b hb=>⟨hb,rfl⟩⟩}
 exact r.tr t (fun _ h=>h) (fun _ h=>h)
theorem ok_push{σ:St}{y:A}{q:Pl}(hq:σ.view.ok q):(σ.push y).view.ok q:=by
 unfold Vw.ok at hq ⊢
 split<;>rename_i e<;>simp only[e,St.view,St.push]at hq ⊢ <;>first|(simp;omega)|exact hq|trivial
theorem RepT.push{g:G}{σ:St}{y x:A}{v:Value}{p:Pl}(r:RepT g w σ.view p x v):RepT g w (σ.push y).view p x v:=
 r.review rfl (fun _ _ h=>ok_push h) fun q _ hq=> .inr (R_push (ok_root hq (Nat.le_refl _)))
theorem Inv.push'{g g':G}{σ:St}{w':World}(h:Inv g σ w tv tl)(hk:Keeps (.loc σ.ls.length) g w g' w'){x:A}{v:Value}(hx:RepT g' w' σ.view ⟨.loc σ.ls.length,[]⟩ x v):
  Inv g' (σ.push x) w' tv (upd tl σ.ls.length v):=h.push hk hx.push
theorem Inv.pushTop{g:G}{σ:St}(h:Inv g σ w tv tl)(v:Value):Inv g (σ.push .top) w tv (upd tl σ.ls.length v):=h.push' (Keeps.refl _ g w) trivial
theorem mv_repK{g:G}{q p:Pl}{nb:Nat}{x:A}{u:Value}(r:RepK g w nb x u):RepK (g.mv q p) w nb x u:=r.later (mv_later g w q p) rfl (Nat.le_refl _)
theorem RepC.mv{g:G}{q p:Pl}{nb:Nat}{s:List (Nat×Nat)}{x:A}{u:Value}(r:RepC g w nb (q.plus s) x u):RepC (g.mv q p) w nb (p.plus s) x u:=by
 cases x<;>simp only[RepC]at r ⊢ <;>first
  |exact mv_rep r s rfl
  |exact r
  |skip
 obtain⟨us,vs,h1,h2,h3,h4,h5⟩:=r;exact⟨us,vs,h1,h2,h3,fun c x u hx hu=>mv_repK (h4 c x u hx hu),fun c x u hx hu=>mv_repK (h5 c x u hx hu)⟩
theorem RepS.mv{g:G}{V:Vw}{q p r:Pl}{v:Value}(h:RepS g V r v)(hr:¬ p.under r):RepS (g.mv q p) V r v:=
 ⟨h.1,h.2.1,fun z n e=>by rw[mv_hd_other hr];exact h.2.2 z n e⟩
theorem RepE.mv{g:G}{V:Vw}{q p:Pl}{x:A}{v:Value}(h:RepE g w V x v)(hr:∀ r,r∈refsE x-> ¬p.under r):RepE (g.mv q p) w V x v:=by
 cases x<;>simp only[RepE]at h ⊢ <;>first
  |exact⟨h.1,h.2.later (mv_later g w q p)⟩
  |exact h.mv (hr _ (by simp[refsE]))
theorem RepL.mv{g:G}{V:Vw}{q p:Pl}{s:List (Nat×Nat)}{x:A}{v:Value}(r:RepL g w V (q.plus s) x v)(h1:x.one=true)(hr:∀ r,r∈refsL x-> ¬p.under r):RepL (g.mv q p) w V (p.plus s) x v:=by
 cases x
 case sref q'=>exact RepS.mv r (hr _ (by simp[refsL]))
 case sub q' lo hi=>
  simp only[RepL]at r ⊢
  rw[mv_hd_other (hr q' (by simp[refsL]))];exact r
 case pref q' i c=>
  simp only[RepL]at r ⊢
  rw[mv_hd_other (hr q' (by simp[refsL]))];exact r
 case app z q' cs=>
  simp only[RepL]at r ⊢
  refine⟨r.1,r.2.1,r.2.2.1,fun z' n hR hz=>?_⟩;obtain⟨b,cap,cur,t,e1,e2,e3,e4,e5,e6,e7,e8⟩:=r.2.2.2 z' n hR hz;have hq:=hr q' (by simp[refsL])
  refine⟨b,cap,cur,t,e1,e2,e3,e4,e5,?_,by rw[mv_hd_other hq];exact e7,fun i e he=>⟨(e8 i e he).1,fun c x hx=>?_⟩⟩
  ·rw[mv_hd_other hq];exact e6.imp id mv_tmp
  ·obtain⟨u,hu,hx'⟩:=(e8 i e he).2 c x hx;exact⟨u,hu,hx'.mv fun r hr'=>hr r (by simp only[refsL,List.mem_cons];exact .inr (mem_flat2 he hx hr'))⟩
 case bld z es=>simp[A.one]at h1
 all_goals (simp only[RepL]at r ⊢;exact RepC.mv r)
theorem RepA.mv{g:G}{V:Vw}{q p:Pl}{s:List (Nat×Nat)}{x:A}{v:Value}(r:RepA g w V (q.plus s) x v)(h1:oneA x=true)(hr:∀ r,r∈refsA x-> ¬p.under r):RepA (g.mv q p) w V (p.plus s) x v:=by
 cases x
 case agg cs=>
  simp only[RepA]at r ⊢
  obtain⟨us,e1,e2,e3⟩:=r;refine⟨us,e1,e2,fun c x u hx hu=>?_⟩;have:=e3 c x u hx hu
  rw[Pl.plus_at]at this ⊢
  refine this.mv (List.all_eq_true.1 h1 x (Mg hx)) fun r hr'=>hr r ?_;simp only[refsA,List.mem_flatMap];exact⟨x,Mg hx,hr'⟩
 all_goals (simp only[RepA]at r ⊢;exact RepL.mv r h1 hr)
theorem RepA.mv0{g:G}{V:Vw}{q p:Pl}{x:A}{v:Value}(r:RepA g w V q x v)(h1:oneA x=true)(hr:∀ r,r∈refsA x-> ¬p.under r):RepA (g.mv q p) w V p x v:=by
 have:=RepA.mv (s:=[]) (q:=q) (p:=p) (by rw[Pl.plus_nil];exact r) h1 hr
 rwa [Pl.plus_nil]at this
theorem RepT.mv{g:G}{V:Vw}{q p:Pl}{x:A}{v:Value}(r:RepT g w V q x v)(h1:oneT x=true)(hr:∀ r,r∈refsT x-> ¬p.under r):RepT (g.mv q p) w V p x v:=by
 cases x
 case top=>trivial
 case ud=>exact r
 case tup cs=>
  simp only[RepT]at r ⊢
  obtain⟨us,e1,e2,e3⟩:=r;refine⟨us,e1,e2,fun c x u hx hu=>?_⟩;have:=e3 c x u hx hu
  refine RepA.mv (s:=[(c,0)]) this (List.all_eq_true.1 h1 x (Mg hx)) fun r hr'=>hr r ?_;simp only[refsT,List.mem_flatMap];exact⟨x,Mg hx,hr'⟩
 all_goals
  (simp only [RepT] at r ⊢
   exact RepA.mv0 r (by simpa only[oneT]using h1) hr)
theorem fill_tr{g:G}{σ:St}(h:Inv g σ w tv tl){q p:Pl}(hq:¬ noHand q){V V':Vw}{p':Pl}(hp':noHand p')(hne:p'.r≠p.r)(hV:V.R=σ.R)(hV':∀ r,r.r≠p.r->V'.R r=V.R r)(hnl:V'.nl=V.nl)(hnb:V'.nb=V.nb){rs as:List Pl}
  (hrs:∀ r,r∈rs->r.r≠p.r):Tr p' g w V (g.mv q p) w V' rs as:=by
 have hu:∀ r:Pl,r.r≠p.r-> ¬p.under r:=fun r hr hu=>hr hu.1.symm;have nq:∀ r:Pl,noHand r-> ¬q.under r:=fun r hr hu=>hq (fun k e=>hr k (by rw[<-hu.1];exact e))
 refine{mv_later g w q p with hd:=?_,ow:=?_,row:=fun _ _ _ _=>rfl,blk:=fun _ _=>rfl,nb:=by omega,ok:=?_,ref:=?_,app:=?_}
 ·exact fun r hr=>mv_hd_other (hu r (by rw[<-hr.1];exact hne))
 ·exact fun r b hr ho=>mv_ow_other ho (nq r (fun k e=>hp' k (by rw[hr.1];exact e)))
 ·intro r _ hr;unfold Vw.ok at hr ⊢
  split<;>rename_i e<;>simp only[e]at hr<;>first|omega|trivial
 ·exact fun r hr _=> .inr ⟨hV' r (hrs r hr),mv_hd_other (hu r (hrs r hr))⟩
 ·exact fun r _ _=> .inr ⟨rfl,fun b hb=>⟨mv_tmp hb,rfl⟩⟩
theorem fill_box{g:G}{q p:Pl}(hq:¬ noHand q)(hp:∀ b c,p.r≠ .box b c){nb b:Nat}{x:Bx}(k:BoxOK g w nb b x):BoxOK (g.mv q p) w nb b x:=by
 have nq:∀ r:Pl,noHand r-> ¬q.under r:=fun r hr hu=>hq (fun k e=>hr k (by rw[<-hu.1];exact e));cases x with
 | cells cs=>
   simp only[BoxOK]at k ⊢
   obtain⟨h1,cur,t,h2,h3,h4⟩:=k;refine⟨mv_bx h1,cur,t,h2,h3,fun c x hx=>?_⟩;obtain⟨u,hu,hc⟩:=h4 c x hx
   have st:Stays ⟨.box b c,[]⟩ g w (g.mv q p) w:={ mv_later g w q p with
    hd:=fun r hr=>mv_hd_other (fun hu=>hp b c (by rw[hu.1,<-hr.1]))
    ow:=fun r b' hr ho=>mv_ow_other ho (nq r (fun k e=>by rw[<-hr.1]at e;cases e))
    row:=fun _ _ _ _=>rfl}
   exact⟨u,hu,hc.keeps st rfl (Nat.le_refl _)⟩
 | map es=>
   simp only[BoxOK]at k ⊢
   obtain⟨h1,ents,clk,h2,h3,h4⟩:=k;exact⟨mv_bx h1,ents,clk,h2,h3,fun i k' x hx=>let ⟨e,he,hk,hv⟩:=h4 i k' x hx;⟨e,he,hk,hv.later (mv_later g w q p)⟩⟩
 |gone=>trivial
theorem R_vs{σ:St}{n:Nat}{x:A}{r:Pl}(h:r.r≠ .var n):({σ with vs:=σ.vs.set n x}:St).R r=σ.R r:=by
 refine R_of_root ?_;cases hr:r.r with
 | var m=>
   simp only[St.root];rw[List.getElem?_set_ne (fun e=>h (by rw[hr,e]))]
 |_=>rfl
theorem R_ls{σ:St}{n:Nat}{x:A}{r:Pl}(h:r.r≠ .loc n):({σ with ls:=σ.ls.set n x}:St).R r=σ.R r:=by
 refine R_of_root ?_;cases hr:r.r with
 | loc m=>
   simp only[St.root];rw[List.getElem?_set_ne (fun e=>h (by rw[hr,e]))]
 |_=>rfl
theorem Inv.fillVar{g:G}{σ:St}(h:Inv g σ w tv tl){q:Pl}(hq:¬ noHand q){n:Nat}{x:A}{v:Value}(hx:RepT g w σ.view0 q x v)(h1:oneT x=true)(hrs:∀ r,RefIn σ r->r.r≠ .var n)(hxr:∀ r,r∈refsT x->r.r≠ .var n):
  Inv (g.mv q ⟨.var n,[]⟩) {σ with vs:=σ.vs.set n x} w (upd tv n v) tl:=by
 refine⟨fun m y hy=>?_,fun m y hy=>?_,fun b y hy=>fill_box hq (by simp) (h.boxes b y hy),fun b hb=>h.lt b (mv_some hb)⟩
 ·by_cases e:n=m
  ·subst e;rw[upd_self];simp only[List.getElem?_set]at hy;simp only[if_true]at hy;split at hy
   ·simp only[Oe]at hy;subst hy;refine(hx.mv h1 fun r hr hu=>hxr r hr hu.1.symm).review rfl ?_ fun r hr _=> .inr (R_vs (hxr r hr));intro r _ hr;exact hr
   ·cases hy
  ·rw[upd_ne (fun e'=>e e'.symm)];simp only at hy;rw[List.getElem?_set_ne e]at hy;exact(h.vars m y hy).tr (fill_tr (p:=⟨.var n,[]⟩) (V:=σ.view0) (V':=({σ with vs:=σ.vs.set n x}:St).view0) h hq (fun k e=>by cases e) (fun e'=>e (by injection e' with e';exact e'.symm)) rfl (fun r hr=>R_vs hr) rfl rfl (rs:=refsT y) (as:=appsT y) fun r hr=>hrs r (.inl ⟨m,y,hy,hr⟩)) (fun _ h=>h) (fun _ h=>h)
 ·exact(h.locs m y hy).tr (fill_tr (p:=⟨.var n,[]⟩) (V:=σ.view) (V':=({σ with vs:=σ.vs.set n x}:St).view) h hq (fun k e=>by cases e) (fun e=>by cases e) rfl (fun r hr=>R_vs hr) rfl rfl (rs:=refsT y) (as:=appsT y) fun r hr=>hrs r (.inr ⟨m,y,hy,hr⟩)) (fun _ h=>h) (fun _ h=>h)
theorem locFreeL_refs{x:A}(h:locFreeL x=true)(r:Pl)(hr:r∈refsL x):∀ k,r.r≠ .loc k:=by
 cases x<;>simp[locFreeL,refsL]at h hr
 all_goals
  subst hr;intro k e;rw[e]at h;simp[Rt.isLoc]at h
theorem locFree_refs{x:A}(h:locFree x=true)(r:Pl)(hr:r∈refsT x):∀ k,r.r≠ .loc k:=by
 cases x
 case tup=>simp[locFree]at h
 case agg cs=>
  simp only[refsT,refsA,List.mem_flatMap]at hr;obtain⟨y,hy,hr⟩:=hr;exact locFreeL_refs (List.all_eq_true.1 h y hy) r hr
 all_goals exact locFreeL_refs (by simpa only[locFree]using h) r (by simpa only[refsT,refsA]using hr)
theorem killL_one{q:Pl}{x:A}(h:x.one=true):(killLeaf q x).one=true:=by
 cases x<;>simp only[killLeaf]<;>first
  |exact h
  |(split<;>rfl)
  |(simp[A.one]at h)
theorem killAg_one{q:Pl}{x:A}(h:oneA x=true):oneA (killAg q x)=true:=by
 cases x
 case agg cs=>
  simp only[killAg,oneA,List.all_eq_true,List.mem_map]at h ⊢
  rintro y ⟨z,hz,rfl⟩;exact killL_one (h z hz)
 all_goals
  first
   |(simp[oneA,A.one]at h;done)
   |(simp only[killAg,killLeaf];first|exact h|(split<;>rfl))
theorem killA_one{q:Pl}{x:A}(h:oneT x=true):oneT (killA q x)=true:=by
 cases x
 case tup vs=>
  simp only[killA,oneT,List.all_eq_true,List.mem_map]at h ⊢
  rintro y ⟨z,hz,rfl⟩;exact killAg_one (h z hz)
 case agg cs=>exact killAg_one (x:=.agg cs) h
 all_goals
  first
   |(simp[oneT,oneA,A.one]at h;done)
   |(simp only[killA,killAg,killLeaf];first|exact h|(split<;>rfl))
theorem hangs_var{n:Nat}{r:Pl}(h:hangs ⟨.var n,[]⟩ r=false):r.r≠ .var n:=by
 intro e;simp[hangs,Rt.same,e]at h
theorem locFreeL_kill{q:Pl}{x:A}(h:locFreeL x=true):locFreeL (killLeaf q x)=true:=by
 cases x<;>simp only[killLeaf]<;>first
  |exact h
  |(split<;>first|rfl|exact h)
  |(simp[locFreeL]at h)
theorem locFree_kill{q:Pl}{x:A}(h:locFree x=true):locFree (killA q x)=true:=by
 cases x
 case tup vs=>simp[locFree]at h
 case agg cs=>
  simp only[killA,killAg,locFree,List.all_eq_true,List.mem_map]at h ⊢
  rintro y ⟨z,hz,rfl⟩;exact locFreeL_kill (h z hz)
 all_goals
  first
   |(simp[locFree,locFreeL]at h;done)
   |(simp only[killA,killAg,killLeaf];first|exact h|(split<;>first|rfl|exact h))
theorem Inv.putVar{g:G}{σ:St}(h:Inv g σ w tv tl){q:Pl}(hq:¬ noHand q){n:Nat}{x:A}{v u:Value}(hx:RepT g w σ.view q x v)(h1:oneT x=true)(hf:locFree x=true):
  ∃g',Inv g' (σ.put (.var n) x) w (upd tv n v) (upd tl σ.ls.length u)/\Later g w g' w/\g'.blk=g.blk:=by
 have hi:=(h.pushTop u).kill ⟨.var n,[]⟩;have hv0:=(view_kill (σ.push .top) ⟨.var n,[]⟩).2
 refine⟨_,hi.fillVar hq (x:=killA ⟨.var n,[]⟩ x) ?_ (killA_one h1) (fun r hr=>hangs_var (refIn_kill hr)) (fun r hr=>hangs_var (killA_refs hr)),mv_later _ _ _ _,rfl⟩;rw[hv0];refine((hx.push (y:=.top)).kill ⟨.var n,[]⟩).review rfl ?_ fun r _ _=> .inr rfl;intro r hr hok;have:=locFree_refs (locFree_kill hf) r hr
 unfold Vw.ok at hok ⊢
 split<;>rename_i e<;>simp only[e]at hok<;>first|exact absurd e (this _)|exact hok|trivial
theorem Inv.putV{g:G}{σ σ':St}(h:Inv g σ w tv tl){n:Nat}{x:A}{v u:Value}{p:Pl}(hx:RepT g w σ.view p x v)(hl:lightT x=true)(hp:σ.putV (.var n) x=some σ'):
  ∃g',Inv g' σ' w (upd tv n v) (upd tl σ.ls.length u)/\Later g w g' w/\σ'.ls.length=σ.ls.length+1/\g'.blk=g.blk/\σ'.bx.length=σ.bx.length:=by
 simp only[St.putV]at hp;split at hp
 ·rename_i x1 σ1 ha;split at hp
  ·rename_i hf;simp only[Oe]at hp;subst hp;have hq:¬ noHand ⟨.hand 0,[]⟩:=fun h=>h 0 rfl
   obtain⟨g1,m,hx1,h1⟩:=whole_asg g σ x x1 σ1 p ⟨.hand 0,[]⟩ v h ha hl hx hq;obtain⟨g2,i2,l2,b2⟩:=m.inv.putVar (n:=n) (u:=u) hq hx1 h1 hf;rw[m.nl]at i2;exact⟨g2,i2,m.toLater.trans l2,by simp[St.put,St.push,St.kill,m.nl],by rw[b2,m.blk],by simp[St.put,St.push,St.kill,m.nb]⟩
  ·cases hp
 ·cases hp
end Go.Ab
end
section
namespace Go.Ab
open Go.RowKit
variable {w:World} {tv tl:Nat->Value}
theorem RepI.one{g:G}{a:A}{v:Value}(r:RepI g w a v)(h:∀ cs,a≠ .agg cs):v.oneCell'=true:=by
 cases r<;>first
  |assumption
  |rfl
  |exact absurd rfl (h _)
theorem RepO.one{g:G}{p:Pl}{a:A}{v:Value}(r:RepO g w p a v):v.oneCell'=true:=by
 cases r with
 |imm _ _ _ hi ha=>exact hi.one (fun cs e=>by subst e;simp[A.leaf]at ha)
 |own=>rfl
theorem RepC.one{g:G}{nb:Nat}{p:Pl}{a:A}{v:Value}(r:RepC g w nb p a v):v.oneCell'=true:=by
 cases a<;>simp only[RepC]at r<;>first
  |exact RepO.one r
  |(rw[r.2];rfl)
  |skip
 obtain⟨us,vs,rfl,_⟩:=r;rfl
theorem RepL.one{g:G}{V:Vw}{p:Pl}{a:A}{v:Value}(r:RepL g w V p a v):v.oneCell'=true:=by
 cases a<;>simp only[RepL]at r<;>first
  |exact RepC.one r
  |exact r.2.1
  |skip
 obtain⟨b,cap,cur,t,rfl,_⟩:=r;rfl
theorem RepL.noAgg{g:G}{V:Vw}{p:Pl}{cs:List A}{v:Value}(r:RepL g w V p (.agg cs) v):False:=by
 simp only[RepL,RepC]at r;cases r with
 |imm _ _ _ hi ha=>simp[A.leaf]at ha
theorem RepL.noTup{g:G}{V:Vw}{p:Pl}{cs:List A}{v:Value}(r:RepL g w V p (.tup cs) v):False:=by
 simp only[RepL,RepC]at r;cases r with
 |imm _ _ _ hi ha=>simp[A.leaf]at ha
theorem RepA.noTup{g:G}{V:Vw}{p:Pl}{cs:List A}{v:Value}(r:RepA g w V p (.tup cs) v):False:=by
 simp only[RepA]at r;exact r.noTup
theorem ok_of_root{σ:St}{q:Pl}{a:A}(h:σ.root q.r=some a):σ.view.ok q:=by
 unfold Vw.ok;cases hr:q.r with
 |var n=>trivial
 | loc k=>
   rw[hr]at h;exact(Ge h).1
 | box b c=>
   rw[hr]at h;simp only[St.root]at h;split at h
   ·rename_i cs e;exact(Ge e).1
   ·cases h
 |hand k=>rw[hr]at h;cases h
theorem ok_of_get{σ:St}{q:Pl}{a:A}(h:σ.get q=some a):σ.view.ok q:=by
 unfold St.get at h;cases hr:σ.root q.r with
 |none=>rw[hr]at h;cases h
 |some x=>exact ok_of_root hr
theorem repS_of{g:G}{σ:St}{q:Pl}{z n:Nat}{v:Value}(hok:σ.view.ok q)(hR:σ.R q=some (z,n))(hv:v= .slice (some ⟨(g.hd q).1,0,none⟩) n (g.hd q).2):RepS g σ.view q v:=by
 refine⟨hok,by rw[hv];rfl,fun z' n' e=>?_⟩;simp only[St.view]at e;rw[hR]at e;cases e;exact hv
theorem rdLeaf_ok{g:G}{σ:St}{p:Pl}{x:A}{v:Value}(hg:σ.get p=some x)(r:RepL g w σ.view p x v)(q:Pl):RepL g w σ.view q (rdLeaf p x) v/\(rdLeaf p x).light=true:=by
 have rep:x.light=true->RepL g w σ.view q x v:=by
  intro hl
  cases x<;>simp[A.light]at hl<;>first
   |exact r
   | (simp only [RepL,RepC] at r ⊢
      first
       |exact r
       |(cases r with|imm _ _ _ hi ha=>exact .imm _ _ _ hi ha))
 cases x<;>simp only[rdLeaf]<;>first
  |exact⟨rep rfl,rfl⟩
  |exact r.noAgg.elim
  |exact r.noTup.elim
  |skip
 ·rename_i z es;simp only[RepL,RepC]at r;exact⟨repS_of (z:=z) (n:=es.length) (ok_of_get hg) (by simp only[St.R,row_own hg]) r.rowOK.2,rfl⟩
 ·rename_i z es;obtain⟨b,cap,cur,t,e1,e2,_⟩:=r;exact⟨repS_of (z:=z) (n:=es.length) (ok_of_get hg) (by simp only[St.R,row_bld hg]) (by rw[e1,e2]),rfl⟩
theorem rdLeaves_get{p:Pl}{j:Nat}:∀ {cs:List A} {c0 c:Nat} {x:A},(rdLeaves p j c0 cs)[c]?=some x-> ∃y,cs[c]?=some y/\x=rdLeaf (p.at j (c0+c)) y
 |[],c0,c,x,h=>by simp[rdLeaves]at h
 | y::ys,c0,0,x,h=>by
   simp only[rdLeaves,List.getElem?_cons_zero,Oe]at h;exact⟨y,rfl,by rw[<-h,Nat.add_zero]⟩
 | y::ys,c0,c+1,x,h=>by
   simp only[rdLeaves,List.getElem?_cons_succ]at h;obtain⟨y',h1,h2⟩:=rdLeaves_get h;exact⟨y',h1,by rw[h2,show c0+1+c=c0+(c+1)by omega]⟩
theorem rdLeaves_len{p:Pl}{j:Nat}:∀ {cs:List A} {c0:Nat},(rdLeaves p j c0 cs).length=cs.length
 |[],_=>rfl
 |y::ys,c0=>by simp[rdLeaves,rdLeaves_len (cs:=ys)]
theorem get_at{σ:St}{p:Pl}{a:A}{i c:Nat}(h:σ.get p=some a):σ.get (p.at i c)=child a (i,c):=by
 unfold St.get at h ⊢
 simp only[Pl.at];cases hr:σ.root p.r with
 |none=>rw[hr]at h;cases h
 | some x=>
   rw[hr]at h;dsimp only at h ⊢
   have:∀ (s:List (Nat×Nat)) (x:A),getS x s=some a->getS x (s++[(i,c)])=child a (i,c):=by
    intro s
    induction s with
    | nil=>
      intro x h;simp only[getS,Oe]at h;subst h;simp only[List.nil_append,getS];cases child x (i,c)<;>rfl
    | cons q s ih=>
      intro x h;simp only[List.cons_append,getS]at h ⊢
      cases hc:child x q with
      |none=>rw[hc]at h;cases h
      |some y=>rw[hc]at h;exact ih y h
   exact this _ _ h
theorem rdAgg_ok{g:G}{σ:St}{p:Pl}{cs:List A}{v:Value}(hg:σ.get p=some (.agg cs))(r:RepA g w σ.view p (.agg cs) v)(q:Pl):
  RepA g w σ.view q (.agg (rdLeaves p 0 0 cs)) v/\lightA (.agg (rdLeaves p 0 0 cs))=true:=by
 simp only[RepA]at r ⊢
 obtain⟨us,h1,h2,h3⟩:=r
 have key:∀ (c:Nat) x,(rdLeaves p 0 0 cs)[c]?=some x-> ∀u,us[c]?=some u->RepL g w σ.view (q.at 0 c) x u/\x.light=true:=by
  intro c x hx u hu;obtain⟨y,hy,rfl⟩:=rdLeaves_get hx;rw[Nat.zero_add];exact rdLeaf_ok (by rw[get_at hg];exact hy) (h3 c y u hy hu) _
 refine⟨⟨us,h1,by rw[rdLeaves_len];exact h2,fun c x u hx hu=>(key c x hx u hu).1⟩,?_⟩;simp only[lightA,List.all_eq_true];intro x hx;obtain⟨c,hc⟩:=List.mem_iff_getElem?.1 hx;have hlt:c<us.length:=by rw[<-h2,<-rdLeaves_len (p:=p) (j:=0) (c0:=0)];exact(Ge hc).1
 exact(key c x hc _ (Gg hlt)).2
theorem rdA_noAgg{g:G}{σ:St}{p:Pl}{a:A}{v:Value}(hg:σ.get p=some a)(r:RepL g w σ.view p a v)(q:Pl):RepA g w σ.view q (rdLeaf p a) v/\lightA (rdLeaf p a)=true:=by
 obtain⟨h1,h2⟩:=rdLeaf_ok hg r q;have hn:∀ cs,rdLeaf p a≠ .agg cs:=fun cs e=>by rw[e]at h2;simp[A.light]at h2
 refine⟨h1.toA hn,?_⟩;generalize rdLeaf p a=b at h2 hn;cases b<;>first|exact h2|exact absurd rfl (hn _)
theorem rdA_ok{g:G}{σ:St}{p:Pl}{a:A}{v:Value}(hg:σ.get p=some a)(r:RepT g w σ.view p a v)(q:Pl):RepT g w σ.view q (rdA p a) v/\lightT (rdA p a)=true:=by
 have up:∀ b,RepA g w σ.view q b v/\lightA b=true->RepT g w σ.view q b v/\lightT b=true:=by
  rintro b ⟨h1,h2⟩;have hn:∀ cs,b≠ .tup cs:=fun cs e=>by subst e;exact h1.noTup
  refine⟨h1.toT hn,?_⟩;cases b<;>first|exact h2|exact absurd rfl (hn _)
 cases a
 case agg cs=>exact up _ (rdAgg_ok hg (by simpa only[RepT]using r) q)
 case top=>exact⟨trivial,rfl⟩
 case ud=>exact⟨r,rfl⟩
 case tup xs=>
  simp only[RepT]at r;obtain⟨us,h1,h2,h3⟩:=r;simp only[rdA]
  have key:∀ (j:Nat) x u,xs[j]?=some x->us[j]?=some u->RepA g w σ.view (q.at j 0) (match x with| .agg cs=> .agg (rdLeaves (p.at j 0) 0 0 cs)|x=>rdLeaf (p.at j 0) x) u/\
    lightA (match x with| .agg cs=> .agg (rdLeaves (p.at j 0) 0 0 cs)|x=>rdLeaf (p.at j 0) x)=true:=by
   intro j x u hx hu;have hr:=h3 j x u hx hu
   have hgx:σ.get (p.at j 0)=some x:=by rw[get_at hg];exact hx
   cases x
   case agg cs=>exact rdAgg_ok hgx hr _
   all_goals exact rdA_noAgg hgx (by simpa only[RepA]using hr) _
  refine⟨⟨us,h1,by simpa using h2,fun j x u hx hu=>?_⟩,?_⟩
  ·rw[List.getElem?_map,List.getElem?_zipIdx]at hx;cases hxs:xs[j]? with
   |none=>rw[hxs]at hx;cases hx
   | some y=>
     rw[hxs]at hx;simp only[Option.map_some,Oe,Nat.zero_add]at hx;subst hx;exact(key j y u hxs hu).1
  ·simp only[lightT,List.all_eq_true,List.mem_map];rintro y ⟨⟨x,j⟩,hx,rfl⟩;have hx':=List.mem_zipIdx_iff_getElem?.1 hx
   have hlt:j<us.length:=by rw[<-h2];exact(Ge hx').1
   exact(key j x _ hx' (Gg hlt)).2
 all_goals exact up _ (rdA_noAgg hg (by simpa only[RepT,RepA]using r) q)
structure Lk(c:TC)(ρ:Operand->Value)(tv tl:Nat->Value):Prop where
 v:∀ t n,c.vars.findIdx? (· ==t)=some n->tv n=ρ (.tmp t)
 l:∀ t k,c.locs.findIdx? (· ==some t)=some k->tl k=ρ (.tmp t)
 k:∀ x,ρ (.const x)=x
 f:∀ n,ρ (.func n)= .func (.func n) #[] #[]
theorem constLeaf_ok{x:Value}{a:A}(h:constLeaf x=some a):a= .v x/\x.oneCell'=true:=by
 unfold constLeaf at h;split at h<;>first|(cases h;exact⟨rfl,rfl⟩)|cases h
theorem mapM_get{α β:Type}{f:α->Option β}:∀ {xs:List α} {ys:List β},xs.mapM f=some ys->ys.length=xs.length/\ ∀(i:Nat) x y,xs[i]?=some x->ys[i]?=some y->f x=some y
 | [],ys,h=>by
   simp only[List.mapM_nil]at h;cases h;exact⟨rfl,fun i x y hx=>by simp at hx⟩
 | x::xs,ys,h=>by
   simp only[List.mapM_cons]at h;cases h1:f x with
   |none=>rw[h1]at h;cases h
   | some y=>
     rw[h1]at h;cases h2:xs.mapM f with
     |none=>simp only[h2]at h;cases h
     | some ys'=>
       simp only[h2]at h;cases h;obtain⟨k1,k2⟩:=mapM_get h2;refine⟨by simp[k1],fun i a b ha hb=>?_⟩;cases i with
       |zero=>simp at ha hb;rw[<-ha,<-hb];exact h1
       |succ i=>exact k2 i a b (by simpa using ha) (by simpa using hb)
theorem RepL.v{g:G}{V:Vw}{p:Pl}{x:Value}(h:x.oneCell'=true):RepL g w V p (.v x) x:=by
 simp only[RepL,RepC];exact .imm _ _ _ (.v x h) rfl
theorem RepT.v{g:G}{V:Vw}{p:Pl}{x:Value}(h:x.oneCell'=true):RepT g w V p (.v x) x:=by
 simp only[RepT,RepA];exact RepL.v h
theorem constA_ok{x:Value}{a:A}(h:constA x=some a)(g:G)(V:Vw)(p:Pl):RepT g w V p a x/\lightT a=true:=by
 have leaf:constLeaf x=some a->RepT g w V p a x/\lightT a=true:=by
  intro h;obtain⟨rfl,h1⟩:=constLeaf_ok h;exact⟨RepT.v h1,rfl⟩
 cases x<;>simp only[constA]at h<;>first
  |exact leaf h
  |skip
 rename_i cs;cases hm:cs.toList.mapM constLeaf with
 |none=>rw[hm]at h;cases h
 | some as=>
   rw[hm]at h;simp only[Oe]at h;subst h;obtain⟨h1,h2⟩:=mapM_get hm;refine⟨⟨cs.toList,by simp,h1,fun c x u hx hu=>?_⟩,?_⟩
   ·obtain⟨rfl,h3⟩:=constLeaf_ok (h2 c u x hu hx);exact RepL.v h3
   ·simp only[lightT,lightA,List.all_eq_true];intro x hx;obtain⟨i,hi⟩:=List.mem_iff_getElem?.1 hx;have hlt:i<cs.toList.length:=by rw[<-h1];exact(Ge hi).1
    obtain⟨rfl,_⟩:=constLeaf_ok (h2 i _ x (Gg hlt) hi);rfl
theorem rd_ok{c:TC}{ρ:Operand->Value}(hL:Lk c ρ tv tl){g:G}{σ:St}(hi:Inv g σ w tv tl){x:Operand}{d:Opd}{a:A}(ho:c.opd x=some d)(hr:σ.rd d=some a)(q:Pl):
  RepT g w σ.view q a (ρ x)/\lightT a=true:=by
 cases x with
 | tmp t=>
   simp only[TC.opd]at ho;cases hl:c.locs.findIdx? (· ==some t)with
   | some k=>
     rw[hl]at ho;simp only[Oe]at ho;subst ho;simp only[St.rd]at hr;cases hx:σ.ls[k]? with
     |none=>rw[hx]at hr;cases hr
     | some y=>
       rw[hx]at hr;simp only[Oe]at hr;subst hr;rw[<-hL.l t k hl];exact rdA_ok (p:=⟨.loc k,[]⟩) (by simp[St.get,St.root,hx,getS]) (hi.locs k y hx) q
   | none=>
     rw[hl]at ho;dsimp only at ho;cases hv:c.vars.findIdx? (· ==t)with
     |none=>rw[hv]at ho;cases ho
     | some n=>
       rw[hv]at ho;simp only[Oe]at ho;subst ho;simp only[St.rd]at hr;cases hx:σ.vs[n]? with
       |none=>rw[hx]at hr;cases hr
       | some y=>
         rw[hx]at hr;simp only[Oe]at hr;subst hr;rw[<-hL.v t n hv];refine rdA_ok (p:=⟨.var n,[]⟩) (by simp[St.get,St.root,hx,getS]) ?_ q;refine(hi.vars n y hx).review rfl (fun r _ hr=>?_) (fun r _ _=> .inr rfl);unfold Vw.ok at hr ⊢
         split<;>rename_i e<;>simp only[e,St.view0]at hr<;>first|exact absurd hr (Nat.not_lt_zero _)|exact hr|trivial
 | const x=>
   simp only[TC.opd]at ho;cases hc:constA x with
   |none=>rw[hc]at ho;cases ho
   | some b=>
     rw[hc]at ho;simp only[Oe]at ho;subst ho;simp only[St.rd,Oe]at hr;subst hr;rw[hL.k];exact constA_ok hc g _ q
 | func f=>
   simp only[TC.opd,Oe]at ho;subst ho;simp only[St.rd,Oe]at hr;subst hr;rw[hL.f];refine⟨?_,rfl⟩;simp only[RepT,RepA,RepL,RepC];exact⟨[],[],rfl,rfl,rfl,fun c x u hx=>by simp at hx,fun c x u hx=>by simp at hx⟩
 |global n=>simp[TC.opd]at ho
end Go.Ab
end
section
namespace Go.Ab
open Go.RowKit
variable {w:World} {tv tl:Nat->Value}
def Same(w w':World):Prop:=w'.tape=w.tape/\w'.os=w.os/\w'.output=w.output
theorem Same.refl(w:World):Same w w:=⟨rfl,rfl,rfl⟩
theorem Same.trans{w w' w'':World}(h:Same w w')(k:Same w' w''):Same w w'':=⟨k.1.trans h.1,k.2.1.trans h.2.1,k.2.2.trans h.2.2⟩
structure BX(g:G)(σ:St)(g':G)(σ':St):Prop where
 le:σ.bx.length<=σ'.bx.length
 blk:∀ b,b<σ.bx.length->g'.blk b=g.blk b
theorem BX.refl(g:G)(σ:St):BX g σ g σ:=⟨Nat.le_refl _,fun _ _=>rfl⟩
theorem BX.same{g g':G}{σ σ':St}(hb:g'.blk=g.blk)(hl:σ'.bx.length=σ.bx.length):BX g σ g' σ':=⟨by omega,fun b _=>by rw[hb]⟩
theorem BX.trans{g g' g'':G}{σ σ' σ'':St}(h:BX g σ g' σ')(k:BX g' σ' g'' σ''):BX g σ g'' σ'':=
 ⟨Nat.le_trans h.le k.le,fun b hb=>(k.blk b (Nat.lt_of_lt_of_le hb h.le)).trans (h.blk b hb)⟩
def PRes(P:Program)(o:Oper)(ρ:Operand->Value)(g:G)(σ:St)(w:World)(x:A):Prop:=
 ∃v w' g',(execOp ρ o).run P w= .ok (.value v) w'/\Keeps (.loc σ.ls.length) g w g' w'/\Same w w'/\RepT g' w' σ.view ⟨.loc σ.ls.length,[]⟩ x v
theorem PRes.same{P:Program}{o:Oper}{ρ:Operand->Value}{g:G}{σ:St}{x:A}{v:Value}(h:(execOp ρ o).run P w= .ok (.value v) w)(hr:RepT g w σ.view ⟨.loc σ.ls.length,[]⟩ x v):PRes P o ρ g σ w x:=
 ⟨v,w,g,h,Keeps.refl _ g w,Same.refl w,hr⟩
structure Cx(P:Program)(c:TC)(o:Oper)(ρ:Operand->Value)(tv tl:Nat->Value)(g:G)(σ:St)(w:World):Prop where
 L:Lk c ρ tv tl
 I:Inv g σ w tv tl
 P:c.P=P
section
variable {g:G} {V:Vw} {p:Pl} {u:Value}
theorem repT_v{x:Value}(r:RepT g w V p (.v x) u):u=x:=by
 simp only[RepT,RepA,RepL,RepC]at r;cases r with
 | imm _ _ _ hi ha=>
   cases hi<;>first
    |rfl
    |(rename_i ha;rcases ha with ha|ha<;>cases ha;done)
    |(rename_i hr _ _ _ _ _ _;rcases hr with ha|ha<;>cases ha)
theorem repT_agg{cs:List A}(r:RepT g w V p (.agg cs) u):∃ us:List Value,u= .agg us.toArray/\cs.length=us.length/\ ∀(c:Nat) x v,cs[c]?=some x->us[c]?=some v->RepL g w V (p.at 0 c) x v:=r
theorem repT_pt{b c:Nat}(r:RepT g w V p (.pt b c) u):b<V.nb/\u= .pointer (some ⟨g.blk b,c,none⟩):=by
 simpa only[RepT,RepA,RepL,RepC]using r
theorem repT_mp{b:Nat}(r:RepT g w V p (.mp b) u):b<V.nb/\u= .map (some (g.blk b)):=by
 simpa only[RepT,RepA,RepL,RepC]using r
theorem repT_pref{q:Pl}{i c:Nat}(r:RepT g w V p (.pref q i c) u):V.ok q/\u.oneCell'=true/\ ∀z n,V.R q=some (z,n)->i<n->u= .pointer (some ⟨(g.hd q).1,i*z+c,none⟩):=by
 simpa only[RepT,RepA,RepL]using r
theorem repT_pimm{cs:List A}(r:RepT g w V p (.pimm cs) u):RepI g w (.pimm cs) u:=by
 simp only[RepT,RepA,RepL,RepC]at r;cases r with
 |imm _ _ _ hi ha=>exact hi
theorem repT_imm{nl:Bool}{z:Nat}{es:List (List A)}(r:RepT g w V p (.imm nl z es) u):RepI g w (.imm nl z es) u:=by
 simp only[RepT,RepA,RepL,RepC]at r;cases r with
 |imm _ _ _ hi ha=>exact hi
theorem repT_sref{q:Pl}(r:RepT g w V p (.sref q) u):RepS g V q u:=r
theorem repT_ofL{a:A}(r:RepL g w V p a u):RepT g w V p a u:=
 (r.toA fun cs e=>by subst e;exact r.noAgg).toT fun cs e=>by subst e;exact r.noTup
theorem repT_ofI{a:A}(r:RepI g w a u)(h:a.leaf=true):RepT g w V p a u:=repT_ofL (RepC.toL (RepO.toC (.imm _ _ _ r h)))
end
theorem info_of_underlying{P:Program}{t:TypeId}(h:(P.underlying t).isSome=true):∃ i,P.info? t=some i:=by
 cases hi:P.info? t with
 |some i=>exact⟨i,rfl⟩
 |none=>simp[Program.underlying,hi]at h
theorem run_sizeOf{P:Program}{t:TypeId}{i:TypeInfo}(h:P.info? t=some i)(w:World):(sizeOf t).run P w= .ok (P.cellsOf t) w:=by
 simp[sizeOf,typeInfo,h,Program.cellsOf]
theorem run_isAgg{P:Program}{t:TypeId}(h:(P.underlying t).isSome=true)(w:World):(isAgg t).run P w= .ok (isAggT P t) w:=by
 cases hd:P.underlying t with
 |none=>rw[hd]at h;cases h
 |some d=>cases d<;>simp[isAgg,run_underlying hd,isAggT,hd]
theorem R'_R{σ:St}{q:Pl}{n:Nat}(h:σ.R' q=some n):∃ z,σ.R q=some (z,n):=by
 unfold St.R' at h;unfold St.R;split at h
 ·rename_i z es e;simp only[Oe]at h;exact⟨z,by first|rw[e,<-h]|rw[<-h]⟩
 ·cases h
section
variable {P:Program} {c:TC} {o:Oper} {ρ:Operand->Value} {g:G} {σ:St}
theorem op_move(h:Cx P c o ρ tv tl g σ w){x:Operand}(hop:o.op= .move x\/o.op= .assign x){d:Opd}(hd:c.opd x=some d){y:A}(hy:pop σ (.move d)=some y):PRes P o ρ g σ w y:=by
 refine PRes.same (v:=ρ x) ?_ (rd_ok h.L h.I hd hy _).1;rcases hop with hop|hop<;>simp[execOp,hop]
theorem op_pick(h:Cx P c o ρ tv tl g σ w){x a b:Operand}(hop:o.op= .pick x a b){dx da db:Opd}(hx:c.opd x=some dx)(ha:c.opd a=some da)(hb:c.opd b=some db){y:A}(hy:pop σ (.pick dx da db)=some y):PRes P o ρ g σ w y:=by
 simp only[pop]at hy;split at hy
 ·rename_i t hr;have e:=repT_v (rd_ok h.L h.I hx hr ⟨.loc 0,[]⟩).1
  cases t with
  |true=>exact PRes.same (v:=ρ a) (by simp[execOp,hop,e,asBool]) (rd_ok h.L h.I ha hy _).1
  |false=>exact PRes.same (v:=ρ b) (by simp[execOp,hop,e,asBool]) (rd_ok h.L h.I hb hy _).1
 ·cases hy
theorem op_nilchk(h:Cx P c o ρ tv tl g σ w){x:Operand}(hop:o.op= .nilCheck x){d:Opd}(hd:c.opd x=some d){y:A}(hy:pop σ (.nilchk d)=some y):PRes P o ρ g σ w y:=by
 have main:∀ y,σ.rd d=some y->(∀f first cap,ρ x= .func f first cap-> ∃n,f= .func n)->(ρ x≠ .pointer none)->(ρ x≠ .nilIface)->(ρ x≠ .nilFunc)->PRes P o ρ g σ w y:=by
  intro y hy h1 h2 h3 h4;refine PRes.same (v:=ρ x) ?_ (rd_ok h.L h.I hd hy _).1;simp only[execOp,hop]
  split<;>first
   |exact absurd (by assumption) h2
   |exact absurd (by assumption) h3
   |exact absurd (by assumption) h4
   |(rename_i e;obtain⟨n,e'⟩:=h1 _ _ _ e;cases e')
   |rfl
 simp only[pop]at hy;split at hy
 ·rename_i hr;simp only[Oe]at hy;subst hy;have e:=(repT_pt (rd_ok h.L h.I hd hr ⟨.loc 0,[]⟩).1).2
  exact main _ hr (by simp[e]) (by simp[e]) (by simp[e]) (by simp[e])
 ·rename_i q i c hr;split at hy
  ·rename_i n hn;split at hy
   ·rename_i hlt;simp only[Oe]at hy;subst hy;obtain⟨z,hz⟩:=R'_R hn;have e:=(repT_pref (rd_ok h.L h.I hd hr ⟨.loc 0,[]⟩).1).2.2 z n hz hlt
    exact main _ hr (by simp[e]) (by simp[e]) (by simp[e]) (by simp[e])
   ·cases hy
  ·cases hy
 ·rename_i hr;simp only[Oe]at hy;subst hy;have e:=repT_pimm (rd_ok h.L h.I hd hr ⟨.loc 0,[]⟩).1
  obtain⟨b,off,e⟩:∃ b off,ρ x= .pointer (some ⟨b,off,none⟩):=by
   generalize ρ x=u at e;cases e with
   |emp _ _ _ _ ha=>rcases ha with ha|ha<;>cases ha
   |row _ _ _ _ _ _ _ ha=>rcases ha with ha|ha<;>cases ha
   |pimm _ b off u _ _ _ _=>exact⟨b,off,rfl⟩
  exact main _ hr (by simp[e]) (by simp[e]) (by simp[e]) (by simp[e])
 ·rename_i hr;simp only[Oe]at hy;subst hy;have r:=(rd_ok h.L h.I hd hr ⟨.loc 0,[]⟩).1
  simp only[RepT,RepA,RepL,RepC]at r;obtain⟨us,vs,e,_⟩:=r;exact main _ hr (by rw[e];intro f _ _ h;cases h;exact⟨_,rfl⟩) (by simp[e]) (by simp[e]) (by simp[e])
 ·cases hy
theorem run_binI{op:BinOp}{t:TypeId}{k:IntKind}{a b:Int}{r:A}(h:binI op k a b=some r):∃ v,(binOp op t (.int k a) (.int k b)).run P w= .ok v w/\r= .v v/\v.oneCell'=true:=by
 cases op<;>simp only[binI,Oe,reduceCtorEq]at h
 case quo=>
  split at h
  ·cases h
  ·rename_i h0;simp only[Oe]at h;exact⟨_,by simp[binOp,Op.intDiv,h0],h.symm,rfl⟩
 case rem=>
  split at h
  ·cases h
  ·rename_i h0;simp only[Oe]at h;exact⟨_,by simp[binOp,Op.intDiv,h0],h.symm,rfl⟩
 all_goals exact⟨_,by simp[binOp,Op.intArith,Op.intBits,Op.intCmp],h.symm,rfl⟩
theorem run_binS{op:BinOp}{t:TypeId}{a b:ByteArray}{r:A}(h:binS op a b=some r):∃ v,(binOp op t (.string a) (.string b)).run P w= .ok v w/\r= .v v/\v.oneCell'=true:=by
 cases op<;>simp only[binS,Oe,reduceCtorEq]at h
 case add=>
  split at h
  ·rename_i h0;simp only[Oe]at h;exact⟨_,by rw[show(binOp .add t (.string a) (.string b))=Op.stringOp .add a b from rfl,run_string_add_sum w a b (by omega)],h.symm,rfl⟩
  ·cases h
 all_goals exact⟨_,by simp[binOp,Op.stringOp],h.symm,rfl⟩
theorem op_bin(h:Cx P c o ρ tv tl g σ w){op:BinOp}{t t':TypeId}{x y:Operand}(hop:o.op= .binOp op t x y t'){dx dy:Opd}(hx:c.opd x=some dx)(hy:c.opd y=some dy){r:A}(hr:pop σ (.bin op dx dy)=some r):PRes P o ρ g σ w r:=by
 simp only[pop]at hr;split at hr
 ·rename_i k a k' b ha hb;split at hr
  ·rename_i hk;subst hk;have ea:=repT_v (rd_ok h.L h.I hx ha ⟨.loc 0,[]⟩).1
   have eb:=repT_v (rd_ok h.L h.I hy hb ⟨.loc 0,[]⟩).1;have hg:(eqGuard op t x y (.int k a) (.int k b)).run P w= .ok () w:=by cases op<;>rfl
   obtain⟨v,h1,rfl,h2⟩:=run_binI (P:=P) (w:=w) (t:=t) hr;exact PRes.same (v:=v) (by simp only[execOp,hop,ea,eb,Sem.run_bind,hg,Result.andThen_ok,h1];rfl) (RepT.v h2)
  ·cases hr
 ·rename_i a b ha hb;have ea:=repT_v (rd_ok h.L h.I hx ha ⟨.loc 0,[]⟩).1
  have eb:=repT_v (rd_ok h.L h.I hy hb ⟨.loc 0,[]⟩).1;have hg:(eqGuard op t x y (.string a) (.string b)).run P w= .ok () w:=by cases op<;>rfl
  obtain⟨v,h1,rfl,h2⟩:=run_binS (P:=P) (w:=w) (t:=t) hr;exact PRes.same (v:=v) (by simp only[execOp,hop,ea,eb,Sem.run_bind,hg,Result.andThen_ok,h1];rfl) (RepT.v h2)
 ·cases hr
theorem op_un(h:Cx P c o ρ tv tl g σ w){op:UnOp}{t:TypeId}{x:Operand}(hop:o.op= .unOp op t x){dx:Opd}(hx:c.opd x=some dx){r:A}(hr:pop σ (.un op dx)=some r):PRes P o ρ g σ w r:=by
 simp only[pop]at hr;split at hr
 ·rename_i b ha;simp only[Oe]at hr;subst hr;have ea:=repT_v (rd_ok h.L h.I hx ha ⟨.loc 0,[]⟩).1
  exact PRes.same (v:=_) (by simp only[execOp,hop,ea,Sem.run_bind];rfl) (RepT.v rfl)
 ·rename_i k n ha;simp only[Oe]at hr;subst hr;have ea:=repT_v (rd_ok h.L h.I hx ha ⟨.loc 0,[]⟩).1
  exact PRes.same (v:=_) (by simp only[execOp,hop,ea,Sem.run_bind];rfl) (RepT.v rfl)
 ·cases hr
theorem op_conv(h:Cx P c o ρ tv tl g σ w){s d:TypeId}{ds':TypeDesc}{k:IntKind}{x:Operand}(hop:o.op= .convert s d x)(hs:(P.underlying s)=some ds')(hd:P.underlying d=some (.int k)){dx:Opd}(hx:c.opd x=some dx){r:A}(hr:pop σ (.conv k dx)=some r):PRes P o ρ g σ w r:=by
 simp only[pop]at hr;split at hr
 ·rename_i j n ha;simp only[Oe]at hr;subst hr;have ea:=repT_v (rd_ok h.L h.I hx ha ⟨.loc 0,[]⟩).1
  exact PRes.same (v:=_) (by simp only[execOp,hop,ea,Sem.run_bind,convert,run_underlying hs,run_underlying hd,Result.andThen_ok];rfl) (RepT.v rfl)
 ·cases hr
theorem op_ext(h:Cx P c o ρ tv tl g σ w){i:Nat}{x:Operand}(hop:o.op= .extract x i){dx:Opd}(hx:c.opd x=some dx){r:A}(hr:pop σ (.ext i dx)=some r):PRes P o ρ g σ w r:=by
 simp only[pop]at hr;split at hr
 ·rename_i vs ha;obtain⟨r1,r2⟩:=rd_ok h.L h.I hx ha ⟨.loc 0,[]⟩;simp only[RepT]at r1;obtain⟨us,e,h1,h2⟩:=r1;have hlt:i<us.length:=by rw[<-h1];exact(Ge hr).1
  have hu:=Gg hlt;have hl:=List.all_eq_true.1 r2 r (Mg hr)
  refine PRes.same (v:=us[i]) (by simp only[execOp,hop,e,Sem.run_bind,Instr.extract];simp[hlt]) ?_;have:=h2 i r us[i] hr hu
  refine RepA.toT ?_ (fun cs e=>by subst e;exact this.noTup);exact this.step (MS.refl (T:=False) (D:=fun _=>False) h.I) hl
 ·cases hr
end
end Go.Ab
end
