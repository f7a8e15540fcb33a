/- The same row of instructions. -/
import Derived.Test.YtkmmpbmmmbebgaaSame0
set_option linter.all false
namespace Go.Ab.Ytkmmpbmmmbebgaa
set_option maxRecDepth 100000
set_option maxHeartbeats 8000000
theorem sameRow_ok {l : List TIns} {a b : A} (ha : SlA 7 InsR l a) (hb : SlA 7 InsR l b) (hn : l.length <= 1000000000 /\ ∀ v, v ∈ l -> v.args.length <= 1000000000) : WC E 20 [a, b] [] fun r _ => r = .v (.bool true) := by
 obtain ⟨na, es, n, rfl, h1, h2, h3, _⟩ := ha
 obtain ⟨nb, es', n', rfl, h1', h2', h3', _⟩ := hb
 obtain rfl : n' = n := by omega
 refine WC.enter rfl rfl rfl ?_
 unfold b20 ki kb mt ov oo
 repeat' (first | refine W.seq ?_ | refine W.easy (n := 200) (k := ?_) | refine W.block ?_ | refine W.skip ?_ | (refine W.condL (h := ?_); change W _ _ _ _) | refine W.regS ?_ | refine WS.done ?_ | refine WS.pre (n := 200) (k := ?_) | refine WS.len (h := ?_) | (refine WS.cmp (k1 := fun h => ?_) (k2 := fun h => ?_) <;> simp only [cmpP, oC, nTr, ne_eq] at h <;> (try (exfalso; omega))) | fail)
 refine W.forA n' (fun k (_ : Unit) σ => sn 4 k σ) (fun _ _ => True) 0 (Nat.zero_le _) ?_ ?_
 ·exact ⟨(), by cbv, trivial⟩
 rintro QA kA k _ hk _
 refine W.norm (k := ?_)
 unfold l20_0 ki kb mt mw lg iz ov oo
 by_cases hkn : k < n'
 ·have hkl : k < l.length := by omega
  obtain ⟨ek, hek, hV⟩ := h3.at k hkl
  obtain ⟨ek', hek', hV'⟩ := h3'.at k hkl
  have hfl := hn.2 _ (List.getElem_mem hkl)
  generalize l[k] = v at *
  have hc := sameIns_ok hV hV' hfl
  obtain ⟨op, dst, xa, xb, var, num, args⟩ := v
  obtain ⟨_, rfl, ⟨na, as, nal, rfl, hal, h6, hA, _⟩⟩ := hV
  obtain ⟨_, rfl, ⟨na', as', nal', rfl, hal', h6', hA', _⟩⟩ := hV'
  repeat' (first | refine W.seq ?_ | refine W.block ?_ | refine W.skip ?_ | (refine W.condL (h := ?_); change W _ _ _ _) | refine W.regS ?_ | refine WS.done ?_ | refine WS.pre (n := 200) (k := ?_) | refine WS.len (h := ?_) | (refine WS.cmp (k1 := fun h => ?_) (k2 := fun h => ?_) <;> simp only [cmpP, oC, nTr, ne_eq] at h <;> (try (exfalso; omega))) | refine W.beginD (h := ?_) | refine WD.pre (n := 200) (ha := rfl) (k := ?_) | refine WD.iaddr (h := ?_) | fail)
  refine WD.call (hc := (hc)) (k := ?_)
  rintro _ _ rfl
  refine ⟨_, _, _, by cbv; first | done | fail, by cbv; first | done | fail, ?_⟩
  repeat' (first | refine W.skip ?_ | (refine W.condL (h := ?_); change W _ _ _ _) | refine W.regS ?_ | refine WS.done ?_ | refine WS.pre (n := 200) (k := ?_) | refine WS.inc (h := ?_) | refine WS.consN (n := 60) (k := ?_) | (refine WD.done ⟨_, by cbv; first | done | fail, ?_⟩; dsimp only) | refine WD.pre (n := 200) (ha := rfl) (k := ?_) | fail)
  exact ⟨by omega, (), by cbv, trivial⟩
 ·
  repeat' (first | refine W.seq ?_ | refine W.exit ?_ | (refine W.condL (h := ?_); change W _ _ _ _) | refine W.regS ?_ | refine WS.done ?_ | refine WS.pre (n := 200) (k := ?_) | refine WS.len (h := ?_) | (refine WS.cmp (k1 := fun h => ?_) (k2 := fun h => ?_) <;> simp only [cmpP, oC, nTr, ne_eq] at h <;> (try (exfalso; omega))) | fail)
  refine kA _ _ ?_
  repeat' (first | refine W.seq ?_ | refine W.easy (n := 200) (k := ?_) | refine W.ret ?_ | refine Ret.ret (k := ?_) | fail)
  rfl
theorem sameRow0_ok {a : A} (ha : SlA 7 InsR [] a) : WC E 20 [a, .v (.slice none 0 0)] [] fun r _ => r = .v (.bool true) := by
 obtain ⟨na, es, n, rfl, h1, h2, h3, _⟩ := ha
 cases h3
 obtain rfl : n = 0 := h2
 refine WC.enter rfl rfl rfl ?_
 unfold b20 ki kb mt ov oo
 repeat' (first | refine W.seq ?_ | refine W.easy (n := 200) (k := ?_) | refine W.block ?_ | refine W.skip ?_ | (refine W.condL (h := ?_); change W _ _ _ _) | refine W.regS ?_ | refine WS.done ?_ | refine WS.pre (n := 200) (k := ?_) | refine WS.len (h := ?_) | (refine WS.cmp (k1 := fun h => ?_) (k2 := fun h => ?_) <;> simp only [cmpP, oC, nTr, ne_eq] at h <;> (try (exfalso; omega))) | refine WS.consN (n := 60) (k := ?_) | fail)
 refine W.forA 0 (fun k (_ : Unit) σ => sn 4 k σ) (fun _ _ => True) 0 (Nat.zero_le _) ?_ ?_
 ·exact ⟨(), by cbv, trivial⟩
 rintro QA kA k _ hk _
 obtain rfl : k = 0 := by omega
 refine W.norm (k := ?_)
 unfold l20_0 ki kb mt mw lg iz ov oo
 repeat' (first | refine W.seq ?_ | refine W.exit ?_ | (refine W.condL (h := ?_); change W _ _ _ _) | refine W.regS ?_ | refine WS.done ?_ | refine WS.pre (n := 200) (k := ?_) | refine WS.len (h := ?_) | (refine WS.cmp (k1 := fun h => ?_) (k2 := fun h => ?_) <;> simp only [cmpP, oC, nTr, ne_eq] at h <;> (try (exfalso; omega))) | fail)
 refine kA _ _ ?_
 repeat' (first | refine W.seq ?_ | refine W.easy (n := 200) (k := ?_) | refine W.ret ?_ | refine Ret.ret (k := ?_) | fail)
 rfl
end Go.Ab.Ytkmmpbmmmbebgaa
