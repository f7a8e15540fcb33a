/- May a function be? -/
import Derived.Test.YtkmmpbmmmbebgaaKnown
import Derived.Test.YtkmmpbmmmbebgaaMade
import Derived.Test.YtkmmpbmmmbebgaaLarge
set_option linter.all false
namespace Go.Ab.Ytkmmpbmmmbebgaa
set_option maxRecDepth 100000
set_option maxHeartbeats 8000000
structure TermP (f : TFunc) (t : TTerm) : Prop where
 next : ∀ d, d ∈ nextF t -> 0 <= d /\ d < f.blocks.length
 kind : t.kind = 1 \/ (t.kind = 3 /\ -1 <= t.a /\ t.a < f.size) \/ (t.kind = 2 /\ 0 <= t.a /\ t.a < f.size)
/-- The k-th instruction of block i, of which all ahead are Phis iff head. -/
structure InP (u : TUnit) (n : Int) (f : TFunc) (i : Nat) (l : List TIns) (k : Nat) (x : TIns) : Prop where
 known : knownP u f n x
 phi : x.op = 47 -> (∀ (j : Nat) (y : TIns), j < k -> l[j]? = some y -> y.op = 47) /\ i ≠ 0 /\ ∃ w, (waysF f)[i]? = some w /\ x.args.length = w.length
 makes : -1 <= makesF x /\ makesF x < f.size /\ (makesF x < 0 -> x.op = 42 \/ ¬ makesB x)
 uses : ∀ d, d ∈ usesF x -> 0 <= d /\ d < f.size
structure FunP (u : TUnit) (n : Int) (f : TFunc) : Prop where
 head : 1 <= f.blocks.length /\ f.blocks.length <= 2000 /\ 0 <= f.size /\ f.size <= 524288 /\ 0 <= f.params /\ f.params <= f.vars.length
 term : ∀ (i : Nat) (b : TBlock), f.blocks[i]? = some b -> TermP f b.term
 many : insSum f <= 524288
 ins : ∀ (i : Nat) (b : TBlock), f.blocks[i]? = some b -> ∀ (k : Nat) (x : TIns), b.ins[k]? = some x -> InP u n f i b.ins k x
theorem upto_snoc {α : Type} {l : List α} {P : Nat -> α -> Prop} {i : Nat} {x : α} (h : ∀ (j : Nat) (y : α), j < i -> l[j]? = some y -> P j y) (hx : l[i]? = some x) (p : P i x) : ∀ (j : Nat) (y : α), j < i + 1 -> l[j]? = some y -> P j y := by
 intro j y hj hy
 by_cases hji : j < i
 ·exact h j y hji hy
 ·have : j = i := by omega
  subst this
  rw [hx] at hy
  cases hy
  exact p
theorem upto_all {α : Type} {l : List α} {P : Nat -> α -> Prop} {n : Nat} (h : ∀ (j : Nat) (y : α), j < n -> l[j]? = some y -> P j y) (hn : n = l.length) : ∀ (j : Nat) (y : α), l[j]? = some y -> P j y :=
 fun j y hy => h j y (by have := (List.getElem?_eq_some_iff.1 hy).1; omega) hy
theorem upto_zero {α : Type} {l : List α} {P : Nat -> α -> Prop} : ∀ (j : Nat) (y : α), j < 0 -> l[j]? = some y -> P j y := fun _ _ h => absurd h (Nat.not_lt_zero _)
theorem mem_of_upto {l : List Int} {P : Int -> Prop} (h : ∀ (j : Nat) (y : Int), l[j]? = some y -> P y) : ∀ d, d ∈ l -> P d := fun d hd => by
 obtain ⟨j, hj⟩ := List.getElem?_of_mem hd
 exact h j d hj
theorem uses_len (x : TIns) : (usesF x).length <= x.args.length + 2 := by
 unfold usesF
 split
 ·simp
 split
 ·simp
 split
 ·omega
 split
 ·split <;> simp
 split <;> simp
theorem waysTo_len : ∀ (bs : List TBlock) (i : Nat) (w : List (List Int)), (waysTo bs i w).length = w.length
 | [], _, w => rfl
 | b :: bs, i, w => by rw [waysTo, waysTo_len bs, addWays_len]
theorem ends_of {f : TFunc} (h : ∀ (i : Nat) (b : TBlock), f.blocks[i]? = some b -> TermP f b.term) : EndsOK f := fun b hb => by
 obtain ⟨i, hi⟩ := List.getElem?_of_mem hb
 exact (h i b hi).next
theorem funMay_ok {u : TUnit} {eu : List A} (hu : UnitR u eu) {n : Nat} {f : TFunc} (hf : u.funcs[n]? = some f) (hs : FuncSmall f) (hsum : insSum f <= 1000000000) :
  WC E 35 [.agg eu, .v (.int .i64 (Int.ofNat n))] [] fun r _ => IsB (FunP u n f) r := by
 have hu0 := hu
 have hf0 := hf
 obtain ⟨funcs, main, points⟩ := u
 obtain ⟨_, _, rfl, ⟨nf, fs, fl, rfl, hfl, h1, hF, _⟩, ⟨np, ps, pl, rfl, hpl, h2, hP, _⟩⟩ := hu
 simp only at hf hF hP h1 h2
 have hnl := (List.getElem?_eq_some_iff.1 hf).1
 obtain ⟨e, he, hR⟩ := hF.at n hnl
 have hfe : funcs[n] = f := by rw [List.getElem?_eq_getElem hnl] at hf; exact Option.some.inj hf
 rw [hfe] at hR
 have hways := ways_ok hR hs.b
 obtain ⟨name, params, result, vars, blocks, size⟩ := f
 obtain ⟨_, _, rfl, ⟨nv, vs, nvl, rfl, hvl, h3, hv, _⟩, ⟨nb, bs, nbl, rfl, hbl, h4, hb, _⟩⟩ := hR
 simp only at h3 h4 hv hb
 have hsb := hs.b
 simp only at hsb
 refine WC.enter rfl rfl rfl ?_
 unfold b35 ki kb vi mt mw ft ll lg lt iz og ov oo
 repeat' (first | refine W.seq ?_ | refine W.easy (n := 200) (k := ?_) | refine W.block ?_ | refine W.skip ?_ | refine W.ret ?_ | refine Ret.ret (k := ?_) | (refine W.condL (h := ?_); change W _ _ _ _) | refine W.regS ?_ | refine WS.done ?_ | refine WS.pre (n := 200) (k := ?_) | (refine WS.guard (h := ?_); change WS _ _ _ _) | refine WS.len (h := ?_) | refine WS.iaddr (h := ?_) | (refine WS.cmp (k1 := fun h => ?_) (k2 := fun h => ?_) <;> simp only [cmpP, oC, nTr, ne_eq] at h <;> (try (exfalso; omega))) | refine WS.consN (n := 60) (k := ?_) | fail)
 all_goals try
  refine .inr ⟨rfl, fun h => ?_⟩
  have := h.head
  simp only at this
  omega
 refine W.forS nbl (fun i (c : Int) σ => sn 6 i (si 15 c σ)) (fun i (c : Int) => c = sumTo (fun b => b.ins.length) blocks i /\ ∀ (j : Nat) (b : TBlock), j < i -> blocks[j]? = some b -> TermP ⟨name, params, result, vars, blocks, size⟩ b.term) 0 (Nat.zero_le _) ?_ ?_
 ·exact ⟨_, by cbv, by simp only [sumTo_zero]; rfl, upto_zero⟩
 rintro i c hi ⟨hc, hT⟩
 refine W.norm (k := ?_)
 unfold l35_4 ki kb vi mt mw fa ft ll lg lt iz og ov oo
 by_cases hin : i < nbl
 ·as_aux_lemma =>
   have hib : i < blocks.length := by omega
   obtain ⟨eb, heb, hRb⟩ := hb.at i hib
   have hbi : blocks[i]? = some blocks[i] := List.getElem?_eq_getElem hib
   have hsucc := sumTo_succ (fun b : TBlock => b.ins.length) blocks hib
   have hle := sumTo_le (fun b : TBlock => b.ins.length) blocks (i + 1)
   simp only [insSum] at hsum
   generalize blocks[i] = b at hRb hbi hsucc
   obtain ⟨ins, ⟨kind, a, to, els⟩⟩ := b
   obtain ⟨_, rfl, ⟨ni, is, nil, rfl, hil, h5, hI, _⟩⟩ := hRb
   simp only at h5 hsucc
   repeat' (first | refine W.seq ?_ | refine W.block ?_ | refine W.skip ?_ | (refine W.condL (h := ?_); change W _ _ _ _) | refine W.regS ?_ | refine WS.done ?_ | refine WS.pre (n := 200) (k := ?_) | refine WS.len (h := ?_) | refine WS.iaddr (h := ?_) | (refine WS.cmp (k1 := fun h => ?_) (k2 := fun h => ?_) <;> simp only [cmpP, oC, nTr, ne_eq] at h <;> (try (exfalso; omega))) | refine WS.consN (n := 60) (k := ?_) | fail)
   refine WS.call (hc := (next_ok ⟨kind, a, to, els⟩)) (k := ?_)
   rintro l _ ⟨nl, ls, m, rfl, hm, hml, hL, _⟩
   have hnx : ∀ Q : Prop, (TermP ⟨name, params, result, vars, blocks, size⟩ ⟨kind, a, to, els⟩ -> Q) -> FunP ⟨funcs, main, points⟩ n ⟨name, params, result, vars, blocks, size⟩ -> Q := fun Q k h => k (h.term i _ hbi)
   have hmk := fun h => TermP.mk (f := ⟨name, params, result, vars, blocks, size⟩) (t := ⟨kind, a, to, els⟩) h
   have hex := fun h : TermP ⟨name, params, result, vars, blocks, size⟩ ⟨kind, a, to, els⟩ => h.next
   have hl2 := next_len ⟨kind, a, to, els⟩
   generalize nextF ⟨kind, a, to, els⟩ = nx at *
   refine ⟨_, _, _, by cbv; first | done | fail, by cbv; first | done | fail, ?_⟩
   repeat' (first | refine W.seq ?_ | refine W.easy (n := 200) (k := ?_) | refine W.block ?_ | refine W.frz (k := ?_) | refine WS.done ?_ | refine WS.consN (n := 60) (k := ?_) | fail)
   refine W.forS m (fun k (_ : Unit) σ => sn 9 k σ) (fun k _ => ∀ (j : Nat) (y : Int), j < k -> nx[j]? = some y -> 0 <= y /\ y < blocks.length) 0 (Nat.zero_le _) ?_ ?_
   ·exact ⟨(), by cbv, upto_zero⟩
   rintro k _ hk hN
   refine W.norm (k := ?_)
   unfold l35_3 ki kb mt mw ll iz og ov oo
   by_cases hkm : k < m
   ·have hkn : k < nx.length := by omega
    obtain ⟨ek, hek, rfl⟩ := hL.at k hkn
    have hky : nx[k]? = some nx[k] := List.getElem?_eq_getElem hkn
    generalize nx[k] = y at *
    repeat' (first | refine W.seq ?_ | refine W.easy (n := 200) (k := ?_) | refine W.block ?_ | refine W.skip ?_ | refine W.ret ?_ | refine Ret.ret (k := ?_) | (refine W.condL (h := ?_); change W _ _ _ _) | refine W.regS ?_ | refine WS.done ?_ | refine WS.pre (n := 200) (k := ?_) | refine WS.len (h := ?_) | (refine WS.cmp (k1 := fun h => ?_) (k2 := fun h => ?_) <;> simp only [cmpP, oC, nTr, ne_eq] at h <;> (try (exfalso; omega))) | refine WS.inc (h := ?_) | refine WS.consN (n := 60) (k := ?_) | refine W.beginD (h := ?_) | (refine WD.done ⟨_, by cbv; first | done | fail, ?_⟩; dsimp only) | refine WD.pre (n := 200) (ha := rfl) (k := ?_) | (refine WD.guard (h := ?_); change WD _ _ _ _ _ _ _ _) | refine WD.len (h := ?_) | refine WD.iaddr (h := ?_) | (refine WD.cmp (k1 := fun h => ?_) (k2 := fun h => ?_) <;> simp only [cmpP, oC, nTr, ne_eq] at h <;> (try (exfalso; omega))) | fail)
    all_goals first
     | (refine .inr ⟨rfl, hnx _ fun h => ?_⟩
        have := hex h y (List.mem_of_getElem? hky)
        simp only at this
        omega)
     | exact ⟨by omega, (), by cbv, upto_snoc hN hky (by omega)⟩
   ·have hall : ∀ d, d ∈ nx -> 0 <= d /\ d < blocks.length := mem_of_upto (upto_all hN (by omega))
    repeat' (first | refine W.seq ?_ | refine W.easy (n := 200) (k := ?_) | refine W.skip ?_ | refine W.ret ?_ | refine W.exit ?_ | refine Ret.ret (k := ?_) | (refine W.condL (h := ?_); change W _ _ _ _) | refine W.regS ?_ | refine WS.done ?_ | refine WS.pre (n := 200) (k := ?_) | (refine WS.guard (h := ?_); change WS _ _ _ _) | refine WS.len (h := ?_) | refine WS.iaddr (h := ?_) | (refine WS.cmp (k1 := fun h => ?_) (k2 := fun h => ?_) <;> simp only [cmpP, oC, nTr, ne_eq] at h <;> (try (exfalso; omega))) | refine WS.inc (h := ?_) | (refine WS.add (h := fun c hc => ?_) <;> (try simp only [oC] at hc)) | refine WS.consN (n := 60) (k := ?_) | fail)
    all_goals first
     | (refine .inr ⟨rfl, hnx _ fun h => ?_⟩
        have := h.kind
        simp only at this
        omega)
     | exact ⟨by omega, _, by cbv, by omega, upto_snoc hT hbi (hmk hall (by simp only; omega))⟩
 ·have hall := upto_all hT (by omega)
  have hE := ends_of (f := ⟨name, params, result, vars, blocks, size⟩) hall
  have hlen := sumTo_all (fun b : TBlock => b.ins.length) blocks (i := i) (by omega)
  have hsi := hs.i
  have hsa := hs.a
  simp only at hsi hsa
  repeat' (first | refine W.seq ?_ | refine W.easy (n := 200) (k := ?_) | refine W.skip ?_ | refine W.ret ?_ | refine W.exit ?_ | refine W.frz (k := ?_) | refine Ret.ret (k := ?_) | (refine W.condL (h := ?_); change W _ _ _ _) | refine W.regS ?_ | refine WS.done ?_ | refine WS.pre (n := 200) (k := ?_) | refine WS.len (h := ?_) | (refine WS.cmp (k1 := fun h => ?_) (k2 := fun h => ?_) <;> simp only [cmpP, oC, nTr, ne_eq] at h <;> (try (exfalso; omega))) | fail)
  ·refine .inr ⟨rfl, fun h => ?_⟩
   have := h.many
   simp only [insSum] at this
   omega
  have hmany : insSum ⟨name, params, result, vars, blocks, size⟩ <= 524288 := by
   simp only [insSum]
   omega
  refine WS.call (hc := (hways hE)) (k := ?_)
  rintro w _ ⟨nw, ws, m, rfl, hwl, hwm, hW, _⟩
  have hwlen : (waysF ⟨name, params, result, vars, blocks, size⟩).length = blocks.length := by
   unfold waysF
   rw [waysTo_len, List.length_replicate]
  have hmkI := fun i l k x a b => InP.mk (u := ⟨funcs, main, points⟩) (n := n) (f := ⟨name, params, result, vars, blocks, size⟩) (i := i) (l := l) (k := k) (x := x) a b
  have hphI := fun i l k x => InP.phi (u := ⟨funcs, main, points⟩) (n := n) (f := ⟨name, params, result, vars, blocks, size⟩) (i := i) (l := l) (k := k) (x := x)
  generalize waysF ⟨name, params, result, vars, blocks, size⟩ = wf at *
  refine ⟨_, _, _, by cbv; first | done | fail, by cbv; first | done | fail, ?_⟩
  repeat' (first | refine W.seq ?_ | refine W.easy (n := 200) (k := ?_) | refine W.block ?_ | refine W.frz (k := ?_) | refine WS.done ?_ | refine WS.consN (n := 60) (k := ?_) | fail)
  refine W.forS nbl (fun i (_ : Unit) σ => sn 17 i σ) (fun i _ => ∀ (j : Nat) (b : TBlock), j < i -> blocks[j]? = some b -> ∀ (k : Nat) (x : TIns), b.ins[k]? = some x -> InP ⟨funcs, main, points⟩ n ⟨name, params, result, vars, blocks, size⟩ j b.ins k x) 0 (Nat.zero_le _) ?_ ?_
  ·exact ⟨(), by cbv, upto_zero⟩
  clear hi hc hT hlen
  intro i _ hi hJ
  refine W.norm (k := ?_)
  unfold l35_2 ki kb mt mw ft ll ov oo
  by_cases hin : i < nbl
  ·have hib : i < blocks.length := by omega
   obtain ⟨eb, heb, hRb⟩ := hb.at i hib
   have hbi : blocks[i]? = some blocks[i] := List.getElem?_eq_getElem hib
   have hil := hsi _ (List.getElem_mem hib)
   have hial := hsa _ (List.getElem_mem hib)
   have hwi : i < wf.length := by omega
   obtain ⟨ew, hew, hC⟩ := hW.at i hwi
   have hwi' : wf[i]? = some wf[i] := List.getElem?_eq_getElem hwi
   generalize wf[i] = wl at hC hwi'
   generalize blocks[i] = b at hRb hbi hil hial
   obtain ⟨ins, ⟨kind, a, to, els⟩⟩ := b
   obtain ⟨_, rfl, ⟨ni, is, nil, rfl, hil2, h5, hI, _⟩⟩ := hRb
   simp only at h5 hil hial hI
   repeat' (first | refine W.seq ?_ | refine W.easy (n := 200) (k := ?_) | refine W.block ?_ | refine W.skip ?_ | (refine W.condL (h := ?_); change W _ _ _ _) | refine W.regS ?_ | refine WS.done ?_ | refine WS.pre (n := 200) (k := ?_) | refine WS.len (h := ?_) | (refine WS.cmp (k1 := fun h => ?_) (k2 := fun h => ?_) <;> simp only [cmpP, oC, nTr, ne_eq] at h <;> (try (exfalso; omega))) | fail)
   refine W.forS nil (fun k (hd : Bool) σ => sn 19 k (sv 21 (.v (.bool hd)) σ)) (fun k hd => (hd = true ↔ ∀ (j : Nat) (y : TIns), j < k -> ins[j]? = some y -> y.op = 47) /\ ∀ (j : Nat) (y : TIns), j < k -> ins[j]? = some y -> InP ⟨funcs, main, points⟩ n ⟨name, params, result, vars, blocks, size⟩ i ins j y) 0 (Nat.zero_le _) ?_ ?_
   ·exact ⟨true, by cbv, ⟨fun _ => upto_zero, fun _ => rfl⟩, upto_zero⟩
   rintro k hd hk ⟨hh, hK⟩
   refine W.norm (k := ?_)
   unfold l35_1 ki kb vi mt mw fa ft ll lg lt iz og ov oo
   by_cases hkn : k < nil
   ·have hki : k < ins.length := by omega
    obtain ⟨ek, hek, hRk⟩ := hI.at k hki
    have hxk : ins[k]? = some ins[k] := List.getElem?_eq_getElem hki
    have hxa := hial _ (List.getElem_mem hki)
    generalize ins[k] = x at hRk hxk hxa
    have ck := known_ok hu0 hf0 hRk
    have cm := makes_ok hRk
    have cb := makesB_ok hRk
    have cu := uses_ok hRk (by omega)
    have hbad : ∀ Q : Prop, (InP ⟨funcs, main, points⟩ n ⟨name, params, result, vars, blocks, size⟩ i ins k x -> Q) -> FunP ⟨funcs, main, points⟩ n ⟨name, params, result, vars, blocks, size⟩ -> Q := fun Q kk h => kk (h.ins i _ hbi k _ hxk)
    have p1 := fun h : InP ⟨funcs, main, points⟩ n ⟨name, params, result, vars, blocks, size⟩ i ins k x => h.known
    have p2 := hphI i ins k x
    have p3 := fun h : InP ⟨funcs, main, points⟩ n ⟨name, params, result, vars, blocks, size⟩ i ins k x => h.makes
    have p4 := fun h : InP ⟨funcs, main, points⟩ n ⟨name, params, result, vars, blocks, size⟩ i ins k x => h.uses
    have pm := hmkI i ins k x
    have hul := uses_len x
    obtain ⟨op, dst, xa, xb, var, num, args⟩ := x
    obtain ⟨_, rfl, ⟨na, as, nal, rfl, hal, h6, hA, _⟩⟩ := hRk
    simp only at h6 hA hxa p1 p2 p3 p4 pm hul
    generalize knownP ⟨funcs, main, points⟩ ⟨name, params, result, vars, blocks, size⟩ n ⟨op, dst, xa, xb, var, num, args⟩ = kp at *
    generalize makesF ⟨op, dst, xa, xb, var, num, args⟩ = mv at *
    generalize makesB ⟨op, dst, xa, xb, var, num, args⟩ = mb at *
    generalize usesF ⟨op, dst, xa, xb, var, num, args⟩ = us at *
    by_cases h47 : op = 47
    case' pos =>
     subst h47
     rcases hC with ⟨rfl, rfl⟩ | ⟨old, rfl, hold⟩
     case' inr =>
      have hol := hold.len
      obtain ⟨no, hno⟩ : ∃ no, no = wl.length := ⟨_, rfl⟩
      rw [<- hno] at hol
    all_goals cases hd
    all_goals
     repeat' (first | refine W.seq ?_ | refine W.block ?_ | refine W.skip ?_ | (refine W.condL (h := ?_); change W _ _ _ _) | refine W.regS ?_ | refine WS.done ?_ | refine WS.pre (n := 200) (k := ?_) | (refine WS.guard (h := ?_); change WS _ _ _ _) | refine WS.len (h := ?_) | refine WS.iaddr (h := ?_) | (refine WS.cmp (k1 := fun h => ?_) (k2 := fun h => ?_) <;> simp only [cmpP, oC, nTr, ne_eq] at h <;> (try (exfalso; omega))) | refine WS.consN (n := 60) (k := ?_) | refine W.beginD (h := ?_) | refine WD.pre (n := 200) (ha := rfl) (k := ?_) | fail)
    all_goals
     refine WD.call (hc := (ck)) (k := ?_)
     rintro _ _ (⟨rfl, hk'⟩ | ⟨rfl, hk'⟩)
     all_goals
      refine ⟨_, _, _, by cbv; first | done | fail, by cbv; first | done | fail, ?_⟩
    all_goals
     repeat' (first | refine W.seq ?_ | refine W.easy (n := 200) (k := ?_) | refine W.skip ?_ | refine W.ret ?_ | refine Ret.ret (k := ?_) | (refine W.condL (h := ?_); change W _ _ _ _) | refine W.regS ?_ | refine WS.pre (n := 200) (k := ?_) | (refine WD.done ⟨_, by cbv; first | done | fail, ?_⟩; dsimp only) | refine WD.pre (n := 200) (ha := rfl) (k := ?_) | (refine WD.guard (h := ?_); change WD _ _ _ _ _ _ _ _) | refine WD.len (h := ?_) | refine WD.iaddr (h := ?_) | (refine WD.cmp (k1 := fun h => ?_) (k2 := fun h => ?_) <;> simp only [cmpP, oC, nTr, ne_eq] at h <;> (try (exfalso; omega))) | refine WD.oneN (n := 60) (k := ?_) | fail)
    all_goals first
     | (refine .inr ⟨rfl, hbad _ fun h => ?_⟩
        first
         | exact hk' (p1 h)
         | (obtain ⟨w1, w2, w, w3, w4⟩ := p2 h rfl
            first
             | (have := hh.2 w1; simp at this; done)
             | omega
             | (rw [hwi'] at w3
                cases w3
                (try simp only [List.length_nil] at w4)
                omega)))
     | skip
       refine WS.call (hc := (cm)) (k := ?_)
       rintro _ _ rfl
       refine ⟨_, _, _, by cbv; first | done | fail, by cbv; first | done | fail, ?_⟩
       repeat' (first | refine W.seq ?_ | refine W.easy (n := 200) (k := ?_) | refine W.skip ?_ | refine W.ret ?_ | refine W.frz (k := ?_) | refine Ret.ret (k := ?_) | (refine W.condL (h := ?_); change W _ _ _ _) | refine W.regS ?_ | refine WS.done ?_ | refine WS.pre (n := 200) (k := ?_) | (refine WS.guard (h := ?_); change WS _ _ _ _) | (refine WS.cmp (k1 := fun h => ?_) (k2 := fun h => ?_) <;> simp only [cmpP, oC, nTr, ne_eq] at h <;> (try (exfalso; omega))) | refine WS.consN (n := 60) (k := ?_) | fail)
    all_goals try
     refine .inr ⟨rfl, hbad _ fun h => ?_⟩
     have := p3 h
     (try simp only at this)
     omega
    all_goals try
     refine WS.call (hc := (cb)) (k := ?_)
     rintro _ _ (⟨rfl, hb'⟩ | ⟨rfl, hb'⟩)
     all_goals
      refine ⟨_, _, _, by cbv; first | done | fail, by cbv; first | done | fail, ?_⟩
     all_goals
      repeat' (first | refine W.seq ?_ | refine W.easy (n := 200) (k := ?_) | refine W.skip ?_ | refine W.ret ?_ | refine W.frz (k := ?_) | refine Ret.ret (k := ?_) | (refine W.condL (h := ?_); change W _ _ _ _) | refine W.regS ?_ | refine WS.done ?_ | refine WS.pre (n := 200) (k := ?_) | fail)
    all_goals try
     refine .inr ⟨rfl, hbad _ fun h => ?_⟩
     have := (p3 h).2.2 (by omega)
     (try simp only at this)
     first
      | omega
      | (rcases this with h | h
         ·omega
         ·exact h hb')
    all_goals
     refine WS.call (hc := (cu)) (k := ?_)
     rintro _ _ ⟨nu, es, nn, rfl, hn1, hn2, hU, _⟩
     refine ⟨_, _, _, by cbv; first | done | fail, by cbv; first | done | fail, ?_⟩
    all_goals
     repeat' (first | refine W.seq ?_ | refine W.easy (n := 200) (k := ?_) | refine W.block ?_ | refine W.frz (k := ?_) | refine WS.done ?_ | refine WS.consN (n := 60) (k := ?_) | fail)
    all_goals
     as_aux_lemma =>
      have hIn : (∀ d, d ∈ us -> 0 <= d /\ d < size) -> InP ⟨funcs, main, points⟩ n ⟨name, params, result, vars, blocks, size⟩ i ins k _ := fun hall' => pm hk' (by
       first
        | exact fun h => absurd h h47
        | exact fun _ => ⟨hh.1 rfl, by omega, _, hwi', by (try simp only [List.length_nil]); omega⟩) ⟨by omega, by omega, fun h0 => by
       first
        | (exfalso; omega)
        | exact .inr hb'
        | exact .inl (by omega)⟩ hall'
      refine W.forS nn (fun q (_ : Unit) σ => sn 27 q σ) (fun q _ => ∀ (j : Nat) (y : Int), j < q -> us[j]? = some y -> 0 <= y /\ y < size) 0 (Nat.zero_le _) ?_ ?_
      ·exact ⟨(), by cbv, upto_zero⟩
      rintro q _ hq hN
      refine W.norm (k := ?_)
      unfold l35_0 ki kb mt mw ll iz og ov oo
      by_cases hqn : q < nn
      ·have hqu : q < us.length := by omega
       obtain ⟨eq, heq, rfl⟩ := hU.at q hqu
       have hqy : us[q]? = some us[q] := List.getElem?_eq_getElem hqu
       generalize us[q] = y at *
       repeat' (first | refine W.seq ?_ | refine W.easy (n := 200) (k := ?_) | refine W.block ?_ | refine W.skip ?_ | refine W.ret ?_ | refine Ret.ret (k := ?_) | (refine W.condL (h := ?_); change W _ _ _ _) | refine W.regS ?_ | refine WS.done ?_ | refine WS.pre (n := 200) (k := ?_) | refine WS.len (h := ?_) | (refine WS.cmp (k1 := fun h => ?_) (k2 := fun h => ?_) <;> simp only [cmpP, oC, nTr, ne_eq] at h <;> (try (exfalso; omega))) | refine WS.inc (h := ?_) | refine WS.consN (n := 60) (k := ?_) | refine W.beginD (h := ?_) | (refine WD.done ⟨_, by cbv; first | done | fail, ?_⟩; dsimp only) | refine WD.pre (n := 200) (ha := rfl) (k := ?_) | (refine WD.guard (h := ?_); change WD _ _ _ _ _ _ _ _) | refine WD.iaddr (h := ?_) | (refine WD.cmp (k1 := fun h => ?_) (k2 := fun h => ?_) <;> simp only [cmpP, oC, nTr, ne_eq] at h <;> (try (exfalso; omega))) | fail)
       all_goals first
        | (refine .inr ⟨rfl, hbad _ fun h => ?_⟩
           have := p4 h y (List.mem_of_getElem? hqy)
           (try simp only at this)
           omega)
        | exact ⟨by omega, (), by cbv, upto_snoc hN hqy (by omega)⟩
      ·have hall' : ∀ d, d ∈ us -> 0 <= d /\ d < size := mem_of_upto (upto_all hN (by omega))
       repeat' (first | refine W.seq ?_ | refine W.exit ?_ | (refine W.condL (h := ?_); change W _ _ _ _) | refine W.regS ?_ | refine WS.done ?_ | refine WS.pre (n := 200) (k := ?_) | refine WS.len (h := ?_) | (refine WS.cmp (k1 := fun h => ?_) (k2 := fun h => ?_) <;> simp only [cmpP, oC, nTr, ne_eq] at h <;> (try (exfalso; omega))) | refine WS.inc (h := ?_) | refine WS.consN (n := 60) (k := ?_) | fail)
       all_goals first
        | exact ⟨by omega, true, by cbv, ⟨fun _ => upto_snoc (hh.1 rfl) hxk rfl, fun _ => rfl⟩, upto_snoc hK hxk (hIn hall')⟩
        | exact ⟨by omega, false, by cbv, ⟨fun h => (by cases h), fun h => absurd (h k _ (by omega) hxk) h47⟩, upto_snoc hK hxk (hIn hall')⟩
   ·
    repeat' (first | refine W.seq ?_ | refine W.exit ?_ | (refine W.condL (h := ?_); change W _ _ _ _) | refine W.regS ?_ | refine WS.done ?_ | refine WS.pre (n := 200) (k := ?_) | refine WS.len (h := ?_) | refine WS.iaddr (h := ?_) | (refine WS.cmp (k1 := fun h => ?_) (k2 := fun h => ?_) <;> simp only [cmpP, oC, nTr, ne_eq] at h <;> (try (exfalso; omega))) | refine WS.inc (h := ?_) | refine WS.consN (n := 60) (k := ?_) | fail)
    exact ⟨by omega, (), by cbv, upto_snoc hJ hbi (upto_all hK (by simp only; omega))⟩
  ·
   repeat' (first | refine W.seq ?_ | refine W.easy (n := 200) (k := ?_) | refine W.ret ?_ | refine W.exit ?_ | refine Ret.ret (k := ?_) | (refine W.condL (h := ?_); change W _ _ _ _) | refine W.regS ?_ | refine WS.done ?_ | refine WS.pre (n := 200) (k := ?_) | refine WS.len (h := ?_) | (refine WS.cmp (k1 := fun h => ?_) (k2 := fun h => ?_) <;> simp only [cmpP, oC, nTr, ne_eq] at h <;> (try (exfalso; omega))) | fail)
   have h0 : 1 <= blocks.length /\ blocks.length <= 2000 /\ 0 <= size /\ size <= 524288 /\ 0 <= params /\ params <= vars.length := by omega
   exact .inl ⟨rfl, ⟨h0, hall, hmany, upto_all hJ (by simp only; omega)⟩⟩
end Go.Ab.Ytkmmpbmmmbebgaa
