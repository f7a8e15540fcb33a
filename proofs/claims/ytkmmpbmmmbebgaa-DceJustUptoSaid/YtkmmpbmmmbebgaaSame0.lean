/- The same instructions. -/
import Derived.Test.YtkmmpbmmmbebgaaMade
import Derived.Test.YtkmmpbmmmbebgaaM4
set_option linter.all false
namespace Go.Ab.Ytkmmpbmmmbebgaa
set_option maxRecDepth 100000
set_option maxHeartbeats 8000000
theorem rowR_eq {α : Type} {R : α -> List A -> Prop} (hR : ∀ x e e', R x e -> R x e' -> e = e') {l : List α} : ∀ {r r' : List (List A)}, RowR R l r -> RowR R l r' -> r = r' := by
 induction l with
 | nil => intro r r' h h'; cases h; cases h'; rfl
 | cons x l ih =>
   intro r r' h h'
   cases h with
   | cons h1 h2 =>
     cases h' with
     | cons h3 h4 => rw [hR _ _ _ h1 h3, ih h2 h4]
theorem intRow_eq {l : List Int} {r r' : List (List A)} (h : RowR IntR l r) (h' : RowR IntR l r') : r = r' := rowR_eq (fun _ _ _ h h' => h.trans h'.symm) h h'
theorem strRow_eq {l : List ByteArray} {r r' : List (List A)} (h : RowR StrR l r) (h' : RowR StrR l r') : r = r' := rowR_eq (fun _ _ _ h h' => h.trans h'.symm) h h'
theorem sameInts14_ok {l : List Int} {a b : A} (ha : SlA 1 IntR l a) (hb : SlA 1 IntR l b) (hn : l.length <= 1000000000) : WC E 50 [a, b] [] fun r _ => r = .v (.bool true) := by
 obtain ⟨na, es, n, rfl, h1, h2, h3, _⟩ := ha
 obtain ⟨nb, es', n', rfl, h1', h2', h3', _⟩ := hb
 obtain rfl := intRow_eq h3 h3'
 obtain rfl : n' = n := by omega
 refine WC.enter rfl rfl rfl ?_
 unfold b50 ki kb mt ov oo
 repeat' (first | refine W.seq ?_ | refine W.easy (n := 200) (k := ?_) | refine W.block ?_ | refine W.skip ?_ | (refine W.condL (h := ?_); change W _ _ _ _) | refine W.regS ?_ | refine WS.done ?_ | refine WS.pre (n := 200) (k := ?_) | refine WS.len (h := ?_) | (refine WS.cmp (k1 := fun h => ?_) (k2 := fun h => ?_) <;> simp only [cmpP, oC, nTr, ne_eq] at h <;> (try (exfalso; omega))) | fail)
 refine W.forS n' (fun k (_ : Unit) σ => sn 4 k σ) (fun _ _ => True) 0 (Nat.zero_le _) ?_ ?_
 ·exact ⟨(), by cbv, trivial⟩
 rintro k _ hk _
 refine W.norm (k := ?_)
 unfold l50_0 ki kb mt mw ll iz ov oo
 by_cases hkn : k < n'
 ·have hkl : k < l.length := by omega
  obtain ⟨ek, hek, rfl⟩ := h3.at k hkl
  generalize l[k] = v at *
  repeat' (first | refine W.seq ?_ | refine W.block ?_ | refine W.skip ?_ | (refine W.condL (h := ?_); change W _ _ _ _) | refine W.regS ?_ | refine WS.done ?_ | refine WS.pre (n := 200) (k := ?_) | refine WS.len (h := ?_) | (refine WS.cmp (k1 := fun h => ?_) (k2 := fun h => ?_) <;> simp only [cmpP, oC, nTr, ne_eq] at h <;> (try (exfalso; omega))) | refine WS.inc (h := ?_) | refine WS.consN (n := 60) (k := ?_) | refine W.beginD (h := ?_) | (refine WD.done ⟨_, by cbv; first | done | fail, ?_⟩; dsimp only) | refine WD.pre (n := 200) (ha := rfl) (k := ?_) | refine WD.iaddr (h := ?_) | refine WD.oneN (n := 60) (k := ?_) | fail)
  exact ⟨by omega, (), by cbv, trivial⟩
 ·
  repeat' (first | refine W.seq ?_ | refine W.easy (n := 200) (k := ?_) | refine W.ret ?_ | refine W.exit ?_ | refine Ret.ret (k := ?_) | (refine W.condL (h := ?_); change W _ _ _ _) | refine W.regS ?_ | refine WS.done ?_ | refine WS.pre (n := 200) (k := ?_) | refine WS.len (h := ?_) | (refine WS.cmp (k1 := fun h => ?_) (k2 := fun h => ?_) <;> simp only [cmpP, oC, nTr, ne_eq] at h <;> (try (exfalso; omega))) | fail)
  rfl
theorem sameIns_ok {x : TIns} {e e' : List A} (h : InsR x e) (h' : InsR x e') (hn : x.args.length <= 1000000000) : WC E 37 [.agg e, .agg e'] [] fun r _ => r = .v (.bool true) := by
 obtain ⟨op, dst, a, b, var, num, args⟩ := x
 obtain ⟨_, rfl, hA⟩ := h
 obtain ⟨_, rfl, hA'⟩ := h'
 have hc := sameInts14_ok hA hA' hn
 obtain ⟨na, es, n, rfl, h1, h2, h3, _⟩ := hA
 obtain ⟨nb, es', n', rfl, h1', h2', h3', _⟩ := hA'
 refine WC.enter rfl rfl rfl ?_
 unfold b37 kb mw ft ll og ov oo
 repeat' (first | refine W.seq ?_ | refine W.easy (n := 200) (k := ?_) | refine W.regS ?_ | refine WS.pre (n := 200) (k := ?_) | (refine WS.guard (h := ?_); change WS _ _ _ _) | (refine WS.cmp (k1 := fun h => ?_) (k2 := fun h => ?_) <;> simp only [cmpP, oC, nTr, ne_eq] at h <;> (try (exfalso; omega))) | fail)
 refine WS.call (hc := (hc)) (k := ?_)
 rintro _ _ rfl
 refine ⟨_, _, _, by cbv; first | done | fail, by cbv; first | done | fail, ?_⟩
 repeat' (first | refine W.ret ?_ | refine Ret.ret (k := ?_) | refine WS.done ?_ | refine WS.pre (n := 200) (k := ?_) | refine WS.consN (n := 60) (k := ?_) | fail)
 rfl
/-- So many cells there may be. -/
structure SameSmall (f : TFunc) : Prop where
 v : f.vars.length <= 1000000000 /\ ∀ v, v ∈ f.vars -> v.fields.length <= 1000000000
 b : f.blocks.length <= 1000000000
 i : ∀ b, b ∈ f.blocks -> b.ins.length <= 1000000000
 a : ∀ b, b ∈ f.blocks -> ∀ x, x ∈ b.ins -> x.args.length <= 1000000000
end Go.Ab.Ytkmmpbmmmbebgaa
