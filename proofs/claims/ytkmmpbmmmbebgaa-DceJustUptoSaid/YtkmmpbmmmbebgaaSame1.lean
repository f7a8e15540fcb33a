/- The same variables and points. -/
import Derived.Test.YtkmmpbmmmbebgaaSame0
set_option linter.all false
namespace Go.Ab.Ytkmmpbmmmbebgaa
set_option maxRecDepth 100000
set_option maxHeartbeats 8000000
theorem sameInts13_ok {l : List Int} {a b : A} (ha : SlA 1 IntR l a) (hb : SlA 1 IntR l b) (hn : l.length <= 1000000000) : WC E 42 [a, b] [] fun r _ => r = .v (.bool true) := by
 obtain ⟨na, es, n, rfl, h1, h2, h3, _⟩ := ha
 obtain ⟨nb, es', n', rfl, h1', h2', h3', _⟩ := hb
 obtain rfl := intRow_eq h3 h3'
 obtain rfl : n' = n := by omega
 refine WC.enter rfl rfl rfl ?_
 unfold b42 ki kb mt ov oo
 repeat' (first | refine W.seq ?_ | refine W.easy (n := 200) (k := ?_) | refine W.block ?_ | refine W.skip ?_ | (refine W.condL (h := ?_); change W _ _ _ _) | refine W.regS ?_ | refine WS.done ?_ | refine WS.pre (n := 200) (k := ?_) | refine WS.len (h := ?_) | (refine WS.cmp (k1 := fun h => ?_) (k2 := fun h => ?_) <;> simp only [cmpP, oC, nTr, ne_eq] at h <;> (try (exfalso; omega))) | fail)
 refine W.forS n' (fun k (_ : Unit) σ => sn 4 k σ) (fun _ _ => True) 0 (Nat.zero_le _) ?_ ?_
 ·exact ⟨(), by cbv, trivial⟩
 rintro k _ hk _
 refine W.norm (k := ?_)
 unfold l42_0 ki kb mt mw ll iz ov oo
 by_cases hkn : k < n'
 ·have hkl : k < l.length := by omega
  obtain ⟨ek, hek, rfl⟩ := h3.at k hkl
  generalize l[k] = v at *
  repeat' (first | refine W.seq ?_ | refine W.block ?_ | refine W.skip ?_ | (refine W.condL (h := ?_); change W _ _ _ _) | refine W.regS ?_ | refine WS.done ?_ | refine WS.pre (n := 200) (k := ?_) | refine WS.len (h := ?_) | (refine WS.cmp (k1 := fun h => ?_) (k2 := fun h => ?_) <;> simp only [cmpP, oC, nTr, ne_eq] at h <;> (try (exfalso; omega))) | refine WS.inc (h := ?_) | refine WS.consN (n := 60) (k := ?_) | refine W.beginD (h := ?_) | (refine WD.done ⟨_, by cbv; first | done | fail, ?_⟩; dsimp only) | refine WD.pre (n := 200) (ha := rfl) (k := ?_) | refine WD.iaddr (h := ?_) | refine WD.oneN (n := 60) (k := ?_) | fail)
  exact ⟨by omega, (), by cbv, trivial⟩
 ·
  repeat' (first | refine W.seq ?_ | refine W.easy (n := 200) (k := ?_) | refine W.ret ?_ | refine W.exit ?_ | refine Ret.ret (k := ?_) | (refine W.condL (h := ?_); change W _ _ _ _) | refine W.regS ?_ | refine WS.done ?_ | refine WS.pre (n := 200) (k := ?_) | refine WS.len (h := ?_) | (refine WS.cmp (k1 := fun h => ?_) (k2 := fun h => ?_) <;> simp only [cmpP, oC, nTr, ne_eq] at h <;> (try (exfalso; omega))) | fail)
  rfl
theorem sameTexts_ok {l : List ByteArray} {a b : A} (ha : SlA 1 StrR l a) (hb : SlA 1 StrR l b) (hn : l.length <= 1000000000) : WC E 43 [a, b] [] fun r _ => r = .v (.bool true) := by
 obtain ⟨na, es, n, rfl, h1, h2, h3, _⟩ := ha
 obtain ⟨nb, es', n', rfl, h1', h2', h3', _⟩ := hb
 obtain rfl := strRow_eq h3 h3'
 obtain rfl : n' = n := by omega
 refine WC.enter rfl rfl rfl ?_
 unfold b43 ki kb mt ov oo
 repeat' (first | refine W.seq ?_ | refine W.easy (n := 200) (k := ?_) | refine W.block ?_ | refine W.skip ?_ | (refine W.condL (h := ?_); change W _ _ _ _) | refine W.regS ?_ | refine WS.done ?_ | refine WS.pre (n := 200) (k := ?_) | refine WS.len (h := ?_) | (refine WS.cmp (k1 := fun h => ?_) (k2 := fun h => ?_) <;> simp only [cmpP, oC, nTr, ne_eq] at h <;> (try (exfalso; omega))) | fail)
 refine W.forS n' (fun k (_ : Unit) σ => sn 4 k σ) (fun _ _ => True) 0 (Nat.zero_le _) ?_ ?_
 ·exact ⟨(), by cbv, trivial⟩
 rintro k _ hk _
 refine W.norm (k := ?_)
 unfold l43_0 ki kb mt mw ll iz ov oo
 by_cases hkn : k < n'
 ·have hkl : k < l.length := by omega
  obtain ⟨ek, hek, rfl⟩ := h3.at k hkl
  generalize l[k] = v at *
  repeat' (first | refine W.seq ?_ | refine W.block ?_ | refine W.skip ?_ | (refine W.condL (h := ?_); change W _ _ _ _) | refine W.regS ?_ | refine WS.done ?_ | refine WS.pre (n := 200) (k := ?_) | refine WS.len (h := ?_) | (refine WS.cmp (k1 := fun h => ?_) (k2 := fun h => ?_) <;> simp only [cmpP, oC, nTr, ne_eq] at h <;> (try (exfalso; omega))) | refine WS.inc (h := ?_) | refine WS.consN (n := 60) (k := ?_) | refine W.beginD (h := ?_) | (refine WD.done ⟨_, by cbv; first | done | fail, ?_⟩; dsimp only) | refine WD.pre (n := 200) (ha := rfl) (k := ?_) | refine WD.iaddr (h := ?_) | refine WD.strNeV (h := ?_) | fail)
  exact ⟨by omega, (), by cbv, trivial⟩
 ·
  repeat' (first | refine W.seq ?_ | refine W.easy (n := 200) (k := ?_) | refine W.ret ?_ | refine W.exit ?_ | refine Ret.ret (k := ?_) | (refine W.condL (h := ?_); change W _ _ _ _) | refine W.regS ?_ | refine WS.done ?_ | refine WS.pre (n := 200) (k := ?_) | refine WS.len (h := ?_) | (refine WS.cmp (k1 := fun h => ?_) (k2 := fun h => ?_) <;> simp only [cmpP, oC, nTr, ne_eq] at h <;> (try (exfalso; omega))) | fail)
  rfl
theorem sameVars_ok {l : List TVar} {a b : A} (ha : SlA 6 VarR l a) (hb : SlA 6 VarR l b) (hn : l.length <= 1000000000 /\ ∀ v, v ∈ l -> v.fields.length <= 1000000000) : WC E 32 [a, b] [] fun r _ => r = .v (.bool true) := by
 obtain ⟨na, es, n, rfl, h1, h2, h3, _⟩ := ha
 obtain ⟨nb, es', n', rfl, h1', h2', h3', _⟩ := hb
 obtain rfl : n' = n := by omega
 refine WC.enter rfl rfl rfl ?_
 unfold b32 ki kb mt ov oo
 repeat' (first | refine W.seq ?_ | refine W.easy (n := 200) (k := ?_) | refine W.block ?_ | refine W.skip ?_ | (refine W.condL (h := ?_); change W _ _ _ _) | refine W.regS ?_ | refine WS.done ?_ | refine WS.pre (n := 200) (k := ?_) | refine WS.len (h := ?_) | (refine WS.cmp (k1 := fun h => ?_) (k2 := fun h => ?_) <;> simp only [cmpP, oC, nTr, ne_eq] at h <;> (try (exfalso; omega))) | fail)
 refine W.forS n' (fun k (_ : Unit) σ => sn 4 k σ) (fun _ _ => True) 0 (Nat.zero_le _) ?_ ?_
 ·exact ⟨(), by cbv, trivial⟩
 rintro k _ hk _
 refine W.norm (k := ?_)
 unfold l32_0 ki kb mt mw fa ll iz og ov oo
 by_cases hkn : k < n'
 ·have hkl : k < l.length := by omega
  obtain ⟨ek, hek, hV⟩ := h3.at k hkl
  obtain ⟨ek', hek', hV'⟩ := h3'.at k hkl
  have hfl := hn.2 _ (List.getElem_mem hkl)
  generalize l[k] = v at *
  obtain ⟨name, ⟨tk, tn, tname⟩, words, fields⟩ := v
  obtain ⟨_, rfl, hF⟩ := hV
  obtain ⟨_, rfl, hF'⟩ := hV'
  have hc := sameTexts_ok hF hF' hfl
  obtain ⟨nf, fs, nfl, rfl, hf1, hf2, hf3, _⟩ := hF
  obtain ⟨nf', fs', nfl', rfl, hf1', hf2', hf3', _⟩ := hF'
  repeat' (first | refine W.seq ?_ | refine W.block ?_ | refine W.skip ?_ | (refine W.condL (h := ?_); change W _ _ _ _) | refine W.regS ?_ | refine WS.done ?_ | refine WS.pre (n := 200) (k := ?_) | refine WS.len (h := ?_) | (refine WS.cmp (k1 := fun h => ?_) (k2 := fun h => ?_) <;> simp only [cmpP, oC, nTr, ne_eq] at h <;> (try (exfalso; omega))) | refine W.beginD (h := ?_) | refine WD.pre (n := 200) (ha := rfl) (k := ?_) | (refine WD.guard (h := ?_); change WD _ _ _ _ _ _ _ _) | refine WD.iaddr (h := ?_) | (refine WD.cmp (k1 := fun h => ?_) (k2 := fun h => ?_) <;> simp only [cmpP, oC, nTr, ne_eq] at h <;> (try (exfalso; omega))) | refine WD.strNe (k := ?_) | refine WD.eqSame (k := ?_) | fail)
  refine WD.call (hc := (hc)) (k := ?_)
  rintro _ _ rfl
  refine ⟨_, _, _, by cbv; first | done | fail, by cbv; first | done | fail, ?_⟩
  repeat' (first | refine W.skip ?_ | (refine W.condL (h := ?_); change W _ _ _ _) | refine W.regS ?_ | refine WS.done ?_ | refine WS.pre (n := 200) (k := ?_) | refine WS.inc (h := ?_) | refine WS.consN (n := 60) (k := ?_) | (refine WD.done ⟨_, by cbv; first | done | fail, ?_⟩; dsimp only) | refine WD.pre (n := 200) (ha := rfl) (k := ?_) | fail)
  exact ⟨by omega, (), by cbv, trivial⟩
 ·
  repeat' (first | refine W.seq ?_ | refine W.easy (n := 200) (k := ?_) | refine W.ret ?_ | refine W.exit ?_ | refine Ret.ret (k := ?_) | (refine W.condL (h := ?_); change W _ _ _ _) | refine W.regS ?_ | refine WS.done ?_ | refine WS.pre (n := 200) (k := ?_) | refine WS.len (h := ?_) | (refine WS.cmp (k1 := fun h => ?_) (k2 := fun h => ?_) <;> simp only [cmpP, oC, nTr, ne_eq] at h <;> (try (exfalso; omega))) | fail)
  rfl
theorem samePoints_ok {l : List TPoint} {a b : A} (ha : SlA 3 PointR l a) (hb : SlA 3 PointR l b) (hn : l.length <= 1000000000 /\ ∀ v, v ∈ l -> v.scope.length <= 1000000000) : WC E 30 [a, b] [] fun r _ => r = .v (.bool true) := by
 obtain ⟨na, es, n, rfl, h1, h2, h3, _⟩ := ha
 obtain ⟨nb, es', n', rfl, h1', h2', h3', _⟩ := hb
 obtain rfl : n' = n := by omega
 refine WC.enter rfl rfl rfl ?_
 unfold b30 ki kb mt ov oo
 repeat' (first | refine W.seq ?_ | refine W.easy (n := 200) (k := ?_) | refine W.block ?_ | refine W.skip ?_ | (refine W.condL (h := ?_); change W _ _ _ _) | refine W.regS ?_ | refine WS.done ?_ | refine WS.pre (n := 200) (k := ?_) | refine WS.len (h := ?_) | (refine WS.cmp (k1 := fun h => ?_) (k2 := fun h => ?_) <;> simp only [cmpP, oC, nTr, ne_eq] at h <;> (try (exfalso; omega))) | fail)
 refine W.forS n' (fun k (_ : Unit) σ => sn 4 k σ) (fun _ _ => True) 0 (Nat.zero_le _) ?_ ?_
 ·exact ⟨(), by cbv, trivial⟩
 rintro k _ hk _
 refine W.norm (k := ?_)
 unfold l30_0 ki kb mt mw fa ll iz og ov oo
 by_cases hkn : k < n'
 ·have hkl : k < l.length := by omega
  obtain ⟨ek, hek, hV⟩ := h3.at k hkl
  obtain ⟨ek', hek', hV'⟩ := h3'.at k hkl
  have hfl := hn.2 _ (List.getElem_mem hkl)
  generalize l[k] = v at *
  obtain ⟨func, line, scope⟩ := v
  obtain ⟨_, rfl, hF⟩ := hV
  obtain ⟨_, rfl, hF'⟩ := hV'
  have hc := sameInts13_ok hF hF' hfl
  obtain ⟨nf, fs, nfl, rfl, hf1, hf2, hf3, _⟩ := hF
  obtain ⟨nf', fs', nfl', rfl, hf1', hf2', hf3', _⟩ := hF'
  repeat' (first | refine W.seq ?_ | refine W.block ?_ | refine W.skip ?_ | (refine W.condL (h := ?_); change W _ _ _ _) | refine W.regS ?_ | refine WS.done ?_ | refine WS.pre (n := 200) (k := ?_) | refine WS.len (h := ?_) | (refine WS.cmp (k1 := fun h => ?_) (k2 := fun h => ?_) <;> simp only [cmpP, oC, nTr, ne_eq] at h <;> (try (exfalso; omega))) | refine W.beginD (h := ?_) | refine WD.pre (n := 200) (ha := rfl) (k := ?_) | (refine WD.guard (h := ?_); change WD _ _ _ _ _ _ _ _) | refine WD.iaddr (h := ?_) | (refine WD.cmp (k1 := fun h => ?_) (k2 := fun h => ?_) <;> simp only [cmpP, oC, nTr, ne_eq] at h <;> (try (exfalso; omega))) | fail)
  refine WD.call (hc := (hc)) (k := ?_)
  rintro _ _ rfl
  refine ⟨_, _, _, by cbv; first | done | fail, by cbv; first | done | fail, ?_⟩
  repeat' (first | refine W.skip ?_ | (refine W.condL (h := ?_); change W _ _ _ _) | refine W.regS ?_ | refine WS.done ?_ | refine WS.pre (n := 200) (k := ?_) | refine WS.inc (h := ?_) | refine WS.consN (n := 60) (k := ?_) | (refine WD.done ⟨_, by cbv; first | done | fail, ?_⟩; dsimp only) | refine WD.pre (n := 200) (ha := rfl) (k := ?_) | fail)
  exact ⟨by omega, (), by cbv, trivial⟩
 ·
  repeat' (first | refine W.seq ?_ | refine W.easy (n := 200) (k := ?_) | refine W.ret ?_ | refine W.exit ?_ | refine Ret.ret (k := ?_) | (refine W.condL (h := ?_); change W _ _ _ _) | refine W.regS ?_ | refine WS.done ?_ | refine WS.pre (n := 200) (k := ?_) | refine WS.len (h := ?_) | (refine WS.cmp (k1 := fun h => ?_) (k2 := fun h => ?_) <;> simp only [cmpP, oC, nTr, ne_eq] at h <;> (try (exfalso; omega))) | fail)
  rfl
end Go.Ab.Ytkmmpbmmmbebgaa
