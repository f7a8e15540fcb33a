/- May a unit be? -/
import Derived.Test.YtkmmpbmmmbebgaaFuncMay
set_option linter.all false
namespace Go.Ab.Ytkmmpbmmmbebgaa
set_option maxRecDepth 100000
set_option maxHeartbeats 8000000
def PointP (u : TUnit) (p : TPoint) : Prop := 0 <= p.func /\ ∃ f, u.funcs[p.func.toNat]? = some f /\ ∀ d, d ∈ p.scope -> 0 <= d /\ d < f.vars.length
structure MayP (u : TUnit) : Prop where
 main : 0 <= u.main /\ ∃ f, u.funcs[u.main.toNat]? = some f /\ f.params = 0
 few : u.funcs.length <= 64
 points : ∀ (i : Nat) (p : TPoint), u.points[i]? = some p -> PointP u p
 vars : ∀ (i : Nat) (f : TFunc), u.funcs[i]? = some f -> ∀ (k : Nat) (v : TVar), f.vars[k]? = some v -> 1 <= v.words /\ v.words <= 16
 funcs : ∀ (i : Nat) (f : TFunc), u.funcs[i]? = some f -> FunP u i f
theorem may_ok {u : TUnit} {e : List A} (hu : UnitR u e) (hs : ∀ f, f ∈ u.funcs -> FuncSmall f /\ insSum f <= 1000000000) (hp : u.points.length <= 100000 /\ ∀ p, p ∈ u.points -> p.scope.length <= 100000000) : WC E 16 [.agg e] [] fun r _ => IsB (MayP u) r := by
 have hu0 := hu
 obtain ⟨funcs, main, points⟩ := u
 obtain ⟨_, _, rfl, ⟨nf, fs, n, rfl, hfl, h1, hf, _⟩, ⟨np, ps, m, rfl, hpl, h2, hP, _⟩⟩ := hu
 simp only at hs hp h1 h2 hf hP
 have hmain : MayP ⟨funcs, main, points⟩ -> 0 <= main /\ main < funcs.length /\ funcs.length <= 64 := fun h => by
  obtain ⟨f, h3, _⟩ := h.main.2
  have h4 := (List.getElem?_eq_some_iff.1 h3).1
  have h5 := h.main.1
  have h6 := h.few
  simp only at h4 h5 h6
  omega
 refine WC.enter rfl rfl rfl ?_
 unfold b16 ki kb ft ll og ov oo
 by_cases hm : 0 <= main /\ main < funcs.length
 case' pos =>
  obtain ⟨mj, rfl, hmj⟩ := intOf hm
  obtain ⟨em, hem, hM⟩ := hf.at mj (by omega)
  have hfm : funcs[mj]? = some funcs[mj] := List.getElem?_eq_getElem (by omega)
  generalize funcs[mj] = mf at hM hfm
  have hmp : MayP ⟨funcs, Int.ofNat mj, points⟩ -> mf.params = 0 := fun h => by
   obtain ⟨f, h3, h4⟩ := h.main.2
   have h5 : funcs[mj]? = some f := h3
   rw [hfm] at h5
   cases h5
   exact h4
  have hmm : mf.params = 0 -> 0 <= (Int.ofNat mj) /\ ∃ f, funcs[(Int.ofNat mj).toNat]? = some f /\ f.params = 0 := fun h => ⟨Int.natCast_nonneg mj, mf, hfm, h⟩
  obtain ⟨mname, mparams, mresult, mvars, mblocks, msize⟩ := mf
  obtain ⟨_, _, rfl, _, _⟩ := hM
  simp only at hmp hmm
 all_goals
  repeat' (first | refine W.seq ?_ | refine W.easy (n := 200) (k := ?_) | refine W.block ?_ | refine W.skip ?_ | refine W.ret ?_ | refine Ret.ret (k := ?_) | (refine W.condL (h := ?_); change W _ _ _ _) | refine W.regS ?_ | refine WS.done ?_ | refine WS.pre (n := 200) (k := ?_) | (refine WS.guard (h := ?_); change WS _ _ _ _) | refine WS.len (h := ?_) | refine WS.iaddr (h := ?_) | (refine WS.cmp (k1 := fun h => ?_) (k2 := fun h => ?_) <;> simp only [cmpP, oC, nTr, ne_eq] at h <;> (try (exfalso; omega))) | fail)
 all_goals try
  refine .inr ⟨rfl, fun h => ?_⟩
  have := hmain h
  first
   | omega
   | (have := hmp h
      omega)
 refine W.forS m (fun i (_ : Unit) σ => sn 4 i σ) (fun i _ => ∀ (j : Nat) (p : TPoint), j < i -> points[j]? = some p -> PointP ⟨funcs, Int.ofNat mj, points⟩ p) 0 (Nat.zero_le _) ?_ ?_
 ·exact ⟨(), by cbv, upto_zero⟩
 intro i _ hi hQ
 refine W.norm (k := ?_)
 unfold l16_3 ki kb vi mt mw ft ll lg iz og ov oo
 by_cases hin : i < m
 ·have hib : i < points.length := by omega
  obtain ⟨ep, hep, hRp⟩ := hP.at i hib
  have hpi : points[i]? = some points[i] := List.getElem?_eq_getElem hib
  have hsc := hp.2 _ (List.getElem_mem hib)
  generalize points[i] = p at hRp hpi hsc
  obtain ⟨pfunc, pline, pscope⟩ := p
  obtain ⟨_, rfl, ⟨ns, ss, sl, rfl, hsl, h3, hS, _⟩⟩ := hRp
  simp only at h3 hsc hS
  have hbad : ∀ Q : Prop, (PointP ⟨funcs, Int.ofNat mj, points⟩ ⟨pfunc, pline, pscope⟩ -> Q) -> MayP ⟨funcs, Int.ofNat mj, points⟩ -> Q := fun Q k h => k (h.points i _ hpi)
  by_cases hg : 0 <= pfunc /\ pfunc < funcs.length
  ·obtain ⟨gj, rfl, hgj⟩ := intOf hg
   obtain ⟨eg, heg, hG⟩ := hf.at gj (by omega)
   have hfg : funcs[gj]? = some funcs[gj] := List.getElem?_eq_getElem (by omega)
   generalize funcs[gj] = g at hG hfg
   obtain ⟨gname, gparams, gresult, gvars, gblocks, gsize⟩ := g
   obtain ⟨_, _, rfl, ⟨nv, vs, nvl, rfl, hvl, h4, hv, _⟩, _⟩ := hG
   simp only at h4
   have hpp : PointP ⟨funcs, Int.ofNat mj, points⟩ ⟨Int.ofNat gj, pline, pscope⟩ -> ∀ d, d ∈ pscope -> 0 <= d /\ d < gvars.length := fun h => by
    obtain ⟨_, f, h5, h6⟩ := h
    have h7 : funcs[gj]? = some f := h5
    rw [hfg] at h7
    cases h7
    exact h6
   have hpq : (∀ d, d ∈ pscope -> 0 <= d /\ d < gvars.length) -> PointP ⟨funcs, Int.ofNat mj, points⟩ ⟨Int.ofNat gj, pline, pscope⟩ := fun h => ⟨Int.natCast_nonneg gj, _, hfg, h⟩
   repeat' (first | refine W.seq ?_ | refine W.easy (n := 200) (k := ?_) | refine W.block ?_ | refine W.skip ?_ | (refine W.condL (h := ?_); change W _ _ _ _) | refine W.regS ?_ | refine WS.done ?_ | refine WS.pre (n := 200) (k := ?_) | (refine WS.guard (h := ?_); change WS _ _ _ _) | refine WS.len (h := ?_) | refine WS.iaddr (h := ?_) | (refine WS.cmp (k1 := fun h => ?_) (k2 := fun h => ?_) <;> simp only [cmpP, oC, nTr, ne_eq] at h <;> (try (exfalso; omega))) | refine WS.consN (n := 60) (k := ?_) | fail)
   refine W.forS sl (fun k (_ : Unit) σ => sn 8 k σ) (fun k _ => ∀ (j : Nat) (y : Int), j < k -> pscope[j]? = some y -> 0 <= y /\ y < gvars.length) 0 (Nat.zero_le _) ?_ ?_
   ·exact ⟨(), by cbv, upto_zero⟩
   rintro k _ hk hN
   refine W.norm (k := ?_)
   unfold l16_2 ki kb mt mw ft ll iz og ov oo
   by_cases hkm : k < sl
   ·have hkn : k < pscope.length := by omega
    obtain ⟨ek, hek, rfl⟩ := hS.at k hkn
    have hky : pscope[k]? = some pscope[k] := List.getElem?_eq_getElem hkn
    generalize pscope[k] = y at *
    repeat' (first | refine W.seq ?_ | refine W.easy (n := 200) (k := ?_) | refine W.block ?_ | refine W.skip ?_ | refine W.ret ?_ | refine Ret.ret (k := ?_) | (refine W.condL (h := ?_); change W _ _ _ _) | refine W.regS ?_ | refine WS.done ?_ | refine WS.pre (n := 200) (k := ?_) | refine WS.len (h := ?_) | (refine WS.cmp (k1 := fun h => ?_) (k2 := fun h => ?_) <;> simp only [cmpP, oC, nTr, ne_eq] at h <;> (try (exfalso; omega))) | refine WS.inc (h := ?_) | refine WS.consN (n := 60) (k := ?_) | refine W.beginD (h := ?_) | (refine WD.done ⟨_, by cbv; first | done | fail, ?_⟩; dsimp only) | refine WD.pre (n := 200) (ha := rfl) (k := ?_) | (refine WD.guard (h := ?_); change WD _ _ _ _ _ _ _ _) | refine WD.len (h := ?_) | refine WD.iaddr (h := ?_) | (refine WD.cmp (k1 := fun h => ?_) (k2 := fun h => ?_) <;> simp only [cmpP, oC, nTr, ne_eq] at h <;> (try (exfalso; omega))) | fail)
    all_goals first
     | (refine .inr ⟨rfl, hbad _ fun h => ?_⟩
        have := hpp h y (List.mem_of_getElem? hky)
        omega)
     | exact ⟨by omega, (), by cbv, upto_snoc hN hky (by omega)⟩
   ·have hall : ∀ d, d ∈ pscope -> 0 <= d /\ d < gvars.length := mem_of_upto (upto_all hN (by omega))
    repeat' (first | refine W.seq ?_ | refine W.exit ?_ | (refine W.condL (h := ?_); change W _ _ _ _) | refine W.regS ?_ | refine WS.done ?_ | refine WS.pre (n := 200) (k := ?_) | refine WS.len (h := ?_) | (refine WS.cmp (k1 := fun h => ?_) (k2 := fun h => ?_) <;> simp only [cmpP, oC, nTr, ne_eq] at h <;> (try (exfalso; omega))) | refine WS.inc (h := ?_) | refine WS.consN (n := 60) (k := ?_) | fail)
    exact ⟨by omega, (), by cbv, upto_snoc hQ hpi (hpq hall)⟩
  ·
   repeat' (first | refine W.seq ?_ | refine W.easy (n := 200) (k := ?_) | refine W.block ?_ | refine W.skip ?_ | refine W.ret ?_ | refine Ret.ret (k := ?_) | (refine W.condL (h := ?_); change W _ _ _ _) | refine W.regS ?_ | refine WS.done ?_ | refine WS.pre (n := 200) (k := ?_) | (refine WS.guard (h := ?_); change WS _ _ _ _) | refine WS.len (h := ?_) | refine WS.iaddr (h := ?_) | (refine WS.cmp (k1 := fun h => ?_) (k2 := fun h => ?_) <;> simp only [cmpP, oC, nTr, ne_eq] at h <;> (try (exfalso; omega))) | refine WS.consN (n := 60) (k := ?_) | fail)
   all_goals
    refine .inr ⟨rfl, hbad _ fun h => ?_⟩
    obtain ⟨h5, f, h6, _⟩ := h
    have h7 := (List.getElem?_eq_some_iff.1 h6).1
    simp only at h5 h7
    omega
 ·have hpall := upto_all hQ (by omega)
  repeat' (first | refine W.seq ?_ | refine W.easy (n := 200) (k := ?_) | refine W.block ?_ | refine W.exit ?_ | (refine W.condL (h := ?_); change W _ _ _ _) | refine W.regS ?_ | refine WS.done ?_ | refine WS.pre (n := 200) (k := ?_) | refine WS.len (h := ?_) | (refine WS.cmp (k1 := fun h => ?_) (k2 := fun h => ?_) <;> simp only [cmpP, oC, nTr, ne_eq] at h <;> (try (exfalso; omega))) | fail)
  refine W.forS n (fun i (_ : Unit) σ => sn 11 i σ) (fun i _ => (∀ (j : Nat) (f : TFunc), j < i -> funcs[j]? = some f -> ∀ (k : Nat) (v : TVar), f.vars[k]? = some v -> 1 <= v.words /\ v.words <= 16) /\ ∀ (j : Nat) (f : TFunc), j < i -> funcs[j]? = some f -> FunP ⟨funcs, Int.ofNat mj, points⟩ j f) 0 (Nat.zero_le _) ?_ ?_
  ·exact ⟨(), by cbv, upto_zero, upto_zero⟩
  clear hi hQ
  rintro i _ hi ⟨hQ, hT⟩
  refine W.norm (k := ?_)
  unfold l16_1 ki kb mt mw ft ll lt ov oo
  by_cases hin : i < n
  ·have hib : i < funcs.length := by omega
   obtain ⟨eb, heb, hRf⟩ := hf.at i hib
   have hfi : funcs[i]? = some funcs[i] := List.getElem?_eq_getElem hib
   obtain ⟨hsf, hsi⟩ := hs _ (List.getElem_mem hib)
   generalize funcs[i] = f at hRf hfi hsf hsi
   have cf := funMay_ok hu0 hfi hsf hsi
   have hb1 := fun (h : MayP ⟨funcs, Int.ofNat mj, points⟩) => h.vars i _ hfi
   have hb2 := fun (h : MayP ⟨funcs, Int.ofNat mj, points⟩) => h.funcs i _ hfi
   have hsv := hsf.v
   obtain ⟨name, params, result, vars, blocks, size⟩ := f
   obtain ⟨_, _, rfl, ⟨nv, vs, nvl, rfl, hvl, h3, hv, _⟩, ⟨nb, bs, nbl, rfl, hbl, h4, hb, _⟩⟩ := hRf
   simp only at h3 hsv hb1 hv
   repeat' (first | refine W.seq ?_ | refine W.easy (n := 200) (k := ?_) | refine W.block ?_ | refine W.skip ?_ | (refine W.condL (h := ?_); change W _ _ _ _) | refine W.regS ?_ | refine WS.done ?_ | refine WS.pre (n := 200) (k := ?_) | refine WS.len (h := ?_) | (refine WS.cmp (k1 := fun h => ?_) (k2 := fun h => ?_) <;> simp only [cmpP, oC, nTr, ne_eq] at h <;> (try (exfalso; omega))) | fail)
   refine W.forS nvl (fun k (_ : Unit) σ => sn 13 k σ) (fun k _ => ∀ (j : Nat) (y : TVar), j < k -> vars[j]? = some y -> 1 <= y.words /\ y.words <= 16) 0 (Nat.zero_le _) ?_ ?_
   ·exact ⟨(), by cbv, upto_zero⟩
   rintro k _ hk hN
   refine W.norm (k := ?_)
   unfold l16_0 ki kb vi mt mw fa ft ll lg iz og ov oo
   by_cases hkm : k < nvl
   ·have hkn : k < vars.length := by omega
    obtain ⟨ek, hek, hRv⟩ := hv.at k hkn
    have hky : vars[k]? = some vars[k] := List.getElem?_eq_getElem hkn
    generalize vars[k] = y at hRv hky
    have hb3 := fun (h : MayP ⟨funcs, Int.ofNat mj, points⟩) => hb1 h k _ hky
    have hb4 := fun h => upto_snoc (P := fun _ (y : TVar) => 1 <= y.words /\ y.words <= 16) hN hky h
    obtain ⟨vname, ⟨tk, tn, tname⟩, words, fields⟩ := y
    obtain ⟨_, rfl, ⟨nfl, fls, fln, rfl, hfln, hfl2, _, _⟩⟩ := hRv
    simp only at hb3 hb4
    repeat' (first | refine W.seq ?_ | refine W.easy (n := 200) (k := ?_) | refine W.block ?_ | refine W.skip ?_ | refine W.ret ?_ | refine Ret.ret (k := ?_) | (refine W.condL (h := ?_); change W _ _ _ _) | refine W.regS ?_ | refine WS.done ?_ | refine WS.pre (n := 200) (k := ?_) | (refine WS.guard (h := ?_); change WS _ _ _ _) | refine WS.len (h := ?_) | refine WS.iaddr (h := ?_) | (refine WS.cmp (k1 := fun h => ?_) (k2 := fun h => ?_) <;> simp only [cmpP, oC, nTr, ne_eq] at h <;> (try (exfalso; omega))) | refine WS.inc (h := ?_) | refine WS.consN (n := 60) (k := ?_) | fail)
    all_goals first
     | (refine .inr ⟨rfl, fun h => ?_⟩
        have := hb3 h
        omega)
     | exact ⟨by omega, (), by cbv, hb4 (by omega)⟩
   ·have hall := upto_all hN (by omega)
    repeat' (first | refine W.seq ?_ | refine W.exit ?_ | (refine W.condL (h := ?_); change W _ _ _ _) | refine W.regS ?_ | refine WS.done ?_ | refine WS.pre (n := 200) (k := ?_) | refine WS.len (h := ?_) | refine WS.iaddr (h := ?_) | (refine WS.cmp (k1 := fun h => ?_) (k2 := fun h => ?_) <;> simp only [cmpP, oC, nTr, ne_eq] at h <;> (try (exfalso; omega))) | fail)
    refine WS.call (hc := (cf)) (k := ?_)
    rintro _ _ (⟨rfl, hk'⟩ | ⟨rfl, hk'⟩)
    all_goals
     refine ⟨_, _, _, by cbv; first | done | fail, by cbv; first | done | fail, ?_⟩
    all_goals
     repeat' (first | refine W.seq ?_ | refine W.easy (n := 200) (k := ?_) | refine W.skip ?_ | refine W.ret ?_ | refine Ret.ret (k := ?_) | (refine W.condL (h := ?_); change W _ _ _ _) | refine W.regS ?_ | refine WS.done ?_ | refine WS.pre (n := 200) (k := ?_) | refine WS.inc (h := ?_) | refine WS.consN (n := 60) (k := ?_) | fail)
    ·exact ⟨by omega, (), by cbv, upto_snoc hQ hfi hall, upto_snoc hT hfi hk'⟩
    ·exact .inr ⟨rfl, fun h => hk' (hb2 h)⟩
  ·
   repeat' (first | refine W.seq ?_ | refine W.easy (n := 200) (k := ?_) | refine W.ret ?_ | refine W.exit ?_ | refine Ret.ret (k := ?_) | (refine W.condL (h := ?_); change W _ _ _ _) | refine W.regS ?_ | refine WS.done ?_ | refine WS.pre (n := 200) (k := ?_) | refine WS.len (h := ?_) | (refine WS.cmp (k1 := fun h => ?_) (k2 := fun h => ?_) <;> simp only [cmpP, oC, nTr, ne_eq] at h <;> (try (exfalso; omega))) | fail)
   exact .inl ⟨rfl, ⟨hmm (by omega), by simp only; omega, hpall, upto_all hQ (by simp only; omega), upto_all hT (by simp only; omega)⟩⟩
end Go.Ab.Ytkmmpbmmmbebgaa
