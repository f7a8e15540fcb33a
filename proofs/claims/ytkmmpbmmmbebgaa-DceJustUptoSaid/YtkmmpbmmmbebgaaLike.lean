/- Two units with the same functions, but for their blocks. -/
import Derived.Test.YtkmmpbmmmbebgaaSame1
set_option linter.all false
namespace Go.Ab.Ytkmmpbmmmbebgaa
set_option maxRecDepth 100000
set_option maxHeartbeats 8000000
/-- The same, but for the blocks. -/
def LikeF (f g : TFunc) : Prop := g.name = f.name /\ g.params = f.params /\ g.result = f.result /\ g.vars = f.vars
theorem like_ok {u v : TUnit} {e e' : List A} (h : UnitR u e) (h' : UnitR v e') (hm : v.main = u.main) (hpt : v.points = u.points) (hl : v.funcs.length = u.funcs.length) (hk : ∀ (i : Nat) f g, u.funcs[i]? = some f -> v.funcs[i]? = some g -> LikeF f g)
  (hs : ∀ f, f ∈ u.funcs -> f.vars.length <= 1000000000 /\ ∀ v, v ∈ f.vars -> v.fields.length <= 1000000000) (hn : u.funcs.length <= 1000000000) (hp : u.points.length <= 1000000000 /\ ∀ v, v ∈ u.points -> v.scope.length <= 1000000000) :
  WC E 14 [.agg e, .agg e'] [] fun r _ => r = .v (.bool true) := by
 obtain ⟨funcs, main, points⟩ := u
 obtain ⟨funcs', main', points'⟩ := v
 simp only at hm hpt hl hk hs hn hp
 subst hm hpt
 obtain ⟨_, _, rfl, ⟨nf, fs, n, rfl, hfl, h1, hf, _⟩, hP⟩ := h
 obtain ⟨_, _, rfl, ⟨nf', fs', n', rfl, hfl', h1', hf', _⟩, hP'⟩ := h'
 have hc := samePoints_ok hP hP' hp
 obtain ⟨np, ps, m, rfl, hpl, h2, hP, _⟩ := hP
 obtain ⟨np', ps', m', rfl, hpl', h2', hP', _⟩ := hP'
 simp only at h1 h1' hf hf'
 obtain rfl : n' = n := by omega
 refine WC.enter rfl rfl rfl ?_
 unfold b14 ki kb ft ll og ov oo
 repeat' (first | refine W.seq ?_ | refine W.easy (n := 200) (k := ?_) | refine W.regS ?_ | refine WS.pre (n := 200) (k := ?_) | (refine WS.guard (h := ?_); change WS _ _ _ _) | refine WS.len (h := ?_) | (refine WS.cmp (k1 := fun h => ?_) (k2 := fun h => ?_) <;> simp only [cmpP, oC, nTr, ne_eq] at h <;> (try (exfalso; omega))) | fail)
 refine WS.call (hc := (hc)) (k := ?_)
 rintro _ _ rfl
 refine ⟨_, _, _, by cbv; first | done | fail, by cbv; first | done | fail, ?_⟩
 repeat' (first | refine W.seq ?_ | refine W.easy (n := 200) (k := ?_) | refine W.block ?_ | refine W.skip ?_ | (refine W.condL (h := ?_); change W _ _ _ _) | refine WS.done ?_ | refine WS.pre (n := 200) (k := ?_) | fail)
 refine W.forA n' (fun k (_ : Unit) σ => sn 6 k σ) (fun _ _ => True) 0 (Nat.zero_le _) ?_ ?_
 ·exact ⟨(), by cbv, trivial⟩
 rintro QA kA k _ hkk _
 refine W.norm (k := ?_)
 unfold l14_0 ki kb vi mt mw ft ll lg iz og ov oo
 by_cases hkn : k < n'
 ·have hkl : k < funcs.length := by omega
  have hkl' : k < funcs'.length := by omega
  obtain ⟨ek, hek, hF⟩ := hf.at k hkl
  obtain ⟨ek', hek', hF'⟩ := hf'.at k hkl'
  have hlk := hk k _ _ (List.getElem?_eq_getElem hkl) (List.getElem?_eq_getElem hkl')
  have hv := hs _ (List.getElem_mem hkl)
  generalize funcs[k] = f at *
  generalize funcs'[k] = g at *
  obtain ⟨name, params, result, vars, blocks, size⟩ := f
  obtain ⟨name', params', result', vars', blocks', size'⟩ := g
  obtain ⟨k1, k2, k3, k4⟩ := hlk
  simp only at k1 k2 k3 k4 hv
  subst k1 k2 k3 k4
  obtain ⟨_, _, rfl, hV, ⟨nb, bs, nbl, rfl, hbl, h4, hb, _⟩⟩ := hF
  obtain ⟨_, _, rfl, hV', ⟨nb', bs', nbl', rfl, hbl', h4', hb', _⟩⟩ := hF'
  have cv := sameVars_ok hV hV' hv
  obtain ⟨nv, vs, nvl, rfl, hvl, h3, hv, _⟩ := hV
  obtain ⟨nv', vs', nvl', rfl, hvl', h3', hv', _⟩ := hV'
  cases result'
  all_goals
   repeat' (first | refine W.seq ?_ | refine W.block ?_ | refine W.skip ?_ | (refine W.condL (h := ?_); change W _ _ _ _) | refine W.regS ?_ | refine WS.done ?_ | refine WS.pre (n := 200) (k := ?_) | (refine WS.guard (h := ?_); change WS _ _ _ _) | refine WS.len (h := ?_) | refine WS.iaddr (h := ?_) | (refine WS.cmp (k1 := fun h => ?_) (k2 := fun h => ?_) <;> simp only [cmpP, oC, nTr, ne_eq] at h <;> (try (exfalso; omega))) | refine WS.strNe (k := ?_) | refine WS.consN (n := 60) (k := ?_) | fail)
   refine WS.call (hc := (cv)) (k := ?_)
   rintro _ _ rfl
   refine ⟨_, _, _, by cbv; first | done | fail, by cbv; first | done | fail, ?_⟩
   repeat' (first | refine W.skip ?_ | (refine W.condL (h := ?_); change W _ _ _ _) | refine W.regS ?_ | refine WS.done ?_ | refine WS.pre (n := 200) (k := ?_) | refine WS.inc (h := ?_) | refine WS.consN (n := 60) (k := ?_) | fail)
   exact ⟨by omega, (), by cbv, trivial⟩
 ·
  repeat' (first | refine W.seq ?_ | refine W.exit ?_ | (refine W.condL (h := ?_); change W _ _ _ _) | refine W.regS ?_ | refine WS.done ?_ | refine WS.pre (n := 200) (k := ?_) | refine WS.len (h := ?_) | (refine WS.cmp (k1 := fun h => ?_) (k2 := fun h => ?_) <;> simp only [cmpP, oC, nTr, ne_eq] at h <;> (try (exfalso; omega))) | fail)
  refine kA _ _ ?_
  repeat' (first | refine W.seq ?_ | refine W.easy (n := 200) (k := ?_) | refine W.ret ?_ | refine Ret.ret (k := ?_) | fail)
  rfl
end Go.Ab.Ytkmmpbmmmbebgaa
