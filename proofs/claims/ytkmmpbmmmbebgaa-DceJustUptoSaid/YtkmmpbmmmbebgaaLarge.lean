/- Large: what it says. -/
import Derived.Test.YtkmmpbmmmbebgaaAbE
import Derived.Test.YtkmmpbmmmbebgaaM4
set_option linter.all false
namespace Go.Ab.Ytkmmpbmmmbebgaa
set_option maxRecDepth 100000
set_option maxHeartbeats 4000000
def sumTo {α : Type} (f : α -> Nat) (l : List α) (i : Nat) : Nat := ((l.take i).map f).sum
theorem sumTo_zero {α : Type} (f : α -> Nat) (l : List α) : sumTo f l 0 = 0 := rfl
theorem sumTo_succ {α : Type} (f : α -> Nat) (l : List α) {i : Nat} (h : i < l.length) : sumTo f l (i + 1) = sumTo f l i + f l[i] := by
 unfold sumTo
 rw [List.take_succ_eq_append_getElem h, List.map_append, List.sum_append]
 simp
theorem sumTo_all {α : Type} (f : α -> Nat) (l : List α) {i : Nat} (h : l.length <= i) : sumTo f l i = (l.map f).sum := by
 unfold sumTo
 rw [List.take_of_length_le h]
theorem sumTo_le {α : Type} (f : α -> Nat) (l : List α) (i : Nat) : sumTo f l i <= (l.map f).sum := by
 unfold sumTo
 conv => rhs; rw [<- List.take_append_drop i l, List.map_append, List.sum_append]
 exact Nat.le_add_right _ _
def insSum (f : TFunc) : Nat := (f.blocks.map fun b => b.ins.length).sum
def funcSum (f : TFunc) : Nat := f.blocks.length + f.vars.length + insSum f
def largeN (u : TUnit) : Nat := u.funcs.length + u.points.length + (u.funcs.map funcSum).sum
theorem large {u : TUnit} {e : List A} (hu : UnitR u e) (hn : largeN u < 9223372036854775807) : WC E 26 [.agg e] [] fun x _ => IsB (6000 < largeN u) x := by
 obtain ⟨funcs, main, points⟩ := u
 obtain ⟨_, _, rfl, ⟨nf, fs, n, rfl, hfl, h1, hf, _⟩, ⟨np, ps, m, rfl, hpl, h2, hp, _⟩⟩ := hu
 simp only [largeN] at hf hp hn h1 h2 ⊢
 refine WC.enter rfl rfl rfl ?_
 unfold b26 ki kb mt mw ft ll ov oo
 repeat' (first | refine W.seq ?_ | refine W.easy (n := 200) (k := ?_) | refine W.block ?_ | refine W.regS ?_ | refine WS.done ?_ | refine WS.pre (n := 200) (k := ?_) | refine WS.len (h := ?_) | (refine WS.add (h := fun c hc => ?_) <;> (try simp only [oC] at hc)) | refine WS.consN (n := 60) (k := ?_) | fail)
 refine W.forS n (fun i (c : Int) σ => sn 3 i (si 5 c σ)) (fun i (c : Int) => c = funcs.length + points.length + sumTo funcSum funcs i) 0 (Nat.zero_le _) ?_ ?_
 ·exact ⟨_, by cbv, by simp only [sumTo_zero]; omega⟩
 intro i c hi hc
 refine W.norm (k := ?_)
 unfold l26_1 ki mt mw fa ft ll iz ov oo
 by_cases hin : i < n
 ·have hif : i < funcs.length := by omega
  obtain ⟨e, he, hR⟩ := hf.at i hif
  have hs := sumTo_succ funcSum funcs hif
  have hle := sumTo_le funcSum funcs (i + 1)
  generalize funcs[i] = f at hR hs
  obtain ⟨name, params, result, vars, blocks, size⟩ := f
  obtain ⟨_, _, rfl, ⟨nv, vs, nvl, rfl, hvl, h3, hv, _⟩, ⟨nb, bs, nbl, rfl, hbl, h4, hb, _⟩⟩ := hR
  simp only [funcSum, insSum] at hs hv hb h3 h4
  repeat' (first | refine W.seq ?_ | refine W.easy (n := 200) (k := ?_) | refine W.block ?_ | refine W.skip ?_ | (refine W.condL (h := ?_); change W _ _ _ _) | refine W.regS ?_ | refine WS.done ?_ | refine WS.pre (n := 200) (k := ?_) | refine WS.len (h := ?_) | (refine WS.cmp (k1 := fun h => ?_) (k2 := fun h => ?_) <;> simp only [cmpP, oC, nTr, ne_eq] at h <;> (try (exfalso; omega))) | refine W.beginD (h := ?_) | (refine WD.done ⟨_, by cbv; first | done | fail, ?_⟩; dsimp only) | refine WD.pre (n := 200) (ha := rfl) (k := ?_) | refine WD.len (h := ?_) | refine WD.iaddr (h := ?_) | (refine WD.add (h := fun c hc => ?_) <;> (try simp only [oC] at hc)) | refine WD.oneN (n := 60) (k := ?_) | fail)
  refine W.forS nbl (fun j (c : Int) σ => sn 6 j (si 5 c σ)) (fun j (c : Int) => c = funcs.length + points.length + sumTo funcSum funcs i + blocks.length + vars.length + sumTo (fun b => b.ins.length) blocks j) 0 (Nat.zero_le _) ?_ ?_
  ·exact ⟨_, by cbv, by simp only [sumTo_zero]; omega⟩
  intro j c hj hc
  refine W.norm (k := ?_)
  unfold l26_0 ki mt mw fa ft ll iz ov oo
  by_cases hjn : j < nbl
  ·have hjb : j < blocks.length := by omega
   obtain ⟨e2, he2, hR2⟩ := hb.at j hjb
   have hs2 := sumTo_succ (fun b : TBlock => b.ins.length) blocks hjb
   have hle2 := sumTo_le (fun b : TBlock => b.ins.length) blocks (j + 1)
   generalize blocks[j] = b at hR2 hs2
   obtain ⟨ins, term⟩ := b
   obtain ⟨_, rfl, ⟨ni, is, nil, rfl, hil, h5, hI, _⟩⟩ := hR2
   simp only at hs2 h5
   repeat' (first | refine W.seq ?_ | refine W.block ?_ | refine W.skip ?_ | (refine W.condL (h := ?_); change W _ _ _ _) | refine W.regS ?_ | refine WS.done ?_ | refine WS.pre (n := 200) (k := ?_) | refine WS.len (h := ?_) | refine WS.iaddr (h := ?_) | (refine WS.cmp (k1 := fun h => ?_) (k2 := fun h => ?_) <;> simp only [cmpP, oC, nTr, ne_eq] at h <;> (try (exfalso; omega))) | refine WS.inc (h := ?_) | (refine WS.add (h := fun c hc => ?_) <;> (try simp only [oC] at hc)) | refine WS.consN (n := 60) (k := ?_) | fail)
   exact ⟨by omega, _, by cbv, by omega⟩
  ·have hs2 := sumTo_all (fun b : TBlock => b.ins.length) blocks (i := j) (by omega)
   repeat' (first | refine W.seq ?_ | refine W.exit ?_ | (refine W.condL (h := ?_); change W _ _ _ _) | refine W.regS ?_ | refine WS.done ?_ | refine WS.pre (n := 200) (k := ?_) | refine WS.len (h := ?_) | refine WS.iaddr (h := ?_) | (refine WS.cmp (k1 := fun h => ?_) (k2 := fun h => ?_) <;> simp only [cmpP, oC, nTr, ne_eq] at h <;> (try (exfalso; omega))) | refine WS.inc (h := ?_) | refine WS.consN (n := 60) (k := ?_) | fail)
   exact ⟨by omega, _, by cbv, by omega⟩
 ·have hs := sumTo_all funcSum funcs (i := i) (by omega)
  repeat' (first | refine W.seq ?_ | refine W.ret ?_ | refine W.exit ?_ | refine Ret.ret (k := ?_) | (refine W.condL (h := ?_); change W _ _ _ _) | refine W.regS ?_ | refine WS.done ?_ | refine WS.pre (n := 200) (k := ?_) | refine WS.len (h := ?_) | (refine WS.cmp (k1 := fun h => ?_) (k2 := fun h => ?_) <;> simp only [cmpP, oC, nTr, ne_eq] at h <;> (try (exfalso; omega))) | refine WS.consN (n := 60) (k := ?_) | fail)
  all_goals first
   | exact .inl ⟨rfl, by omega⟩
   | exact .inr ⟨rfl, by omega⟩
end Go.Ab.Ytkmmpbmmmbebgaa
