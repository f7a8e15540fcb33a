/- Small: what it says. -/
import Derived.Test.YtkmmpbmmmbebgaaLarge
set_option linter.all false
namespace Go.Ab.Ytkmmpbmmmbebgaa
set_option maxRecDepth 100000
set_option maxHeartbeats 4000000
def SmallP (u : TUnit) : Prop := largeN u <= 6000 /\ ∀ (i : Nat) (f : TFunc), u.funcs[i]? = some f -> f.blocks.length <= 60 /\ f.size <= 2000
theorem small_ok {u : TUnit} {e : List A} (hu : UnitR u e) (hn : largeN u < 9223372036854775807) : WC E 8 [.agg e] [] fun x _ => IsB (SmallP u) x := by
 have hcall := large hu hn
 obtain ⟨funcs, main, points⟩ := u
 obtain ⟨_, _, rfl, ⟨nf, fs, n, rfl, hfl, h1, hf, _⟩, ⟨np, ps, m, rfl, hpl, h2, hp, _⟩⟩ := hu
 generalize hL : largeN ⟨funcs, main, points⟩ = L at *
 simp only [SmallP, hL]
 have hfn : funcs.length <= L := by
  rw [<- hL]
  simp only [largeN]
  omega
 simp only at hf hp h1 h2
 refine WC.enter rfl rfl rfl ?_
 unfold b8 ki kb lt ov
 repeat' (first | refine W.seq ?_ | refine W.easy (n := 200) (k := ?_) | refine W.regS ?_ | refine WS.pre (n := 200) (k := ?_) | fail)
 refine WS.call (hc := (hcall)) (k := ?_)
 rintro _ _ (⟨rfl, hc⟩ | ⟨rfl, hc⟩)
 all_goals
  refine ⟨_, _, _, by cbv; first | done | fail, by cbv; first | done | fail, ?_⟩
 all_goals
  repeat' (first | refine W.seq ?_ | refine W.easy (n := 200) (k := ?_) | refine W.block ?_ | refine W.skip ?_ | refine W.ret ?_ | refine Ret.ret (k := ?_) | (refine W.condL (h := ?_); change W _ _ _ _) | refine WS.done ?_ | fail)
 ·exact .inr ⟨rfl, fun h => by have := h.1; omega⟩
 refine W.forS n (fun i (_ : Unit) σ => sn 4 i σ) (fun i _ => ∀ (j : Nat) (f : TFunc), j < i -> funcs[j]? = some f -> f.blocks.length <= 60 /\ f.size <= 2000) 0 (Nat.zero_le _) ?_ ?_
 ·exact ⟨(), by cbv, fun j f h => absurd h (Nat.not_lt_zero _)⟩
 intro i _ hi hP
 refine W.norm (k := ?_)
 unfold l8_0 ki kb mt mw fa ft ll iz og ov oo
 by_cases hin : i < n
 ·have hif : i < funcs.length := by omega
  obtain ⟨e, he, hR⟩ := hf.at i hif
  have hfi : funcs[i]? = some funcs[i] := List.getElem?_eq_getElem hif
  generalize funcs[i] = f at hR hfi
  obtain ⟨name, params, result, vars, blocks, size⟩ := f
  obtain ⟨_, _, rfl, ⟨nv, vs, nvl, rfl, hvl, h3, hv, _⟩, ⟨nb, bs, nbl, rfl, hbl, h4, hb, _⟩⟩ := hR
  simp only at h4
  repeat' (first | refine W.seq ?_ | refine W.easy (n := 200) (k := ?_) | refine W.block ?_ | refine W.skip ?_ | refine W.ret ?_ | refine Ret.ret (k := ?_) | (refine W.condL (h := ?_); change W _ _ _ _) | refine W.regS ?_ | refine WS.done ?_ | refine WS.pre (n := 200) (k := ?_) | (refine WS.guard (h := ?_); change WS _ _ _ _) | refine WS.len (h := ?_) | refine WS.iaddr (h := ?_) | (refine WS.cmp (k1 := fun h => ?_) (k2 := fun h => ?_) <;> simp only [cmpP, oC, nTr, ne_eq] at h <;> (try (exfalso; omega))) | refine WS.inc (h := ?_) | refine WS.consN (n := 60) (k := ?_) | fail)
  all_goals first
   | (refine .inr ⟨rfl, fun h => ?_⟩
      have := h.2 i _ hfi
      simp only at this
      omega)
   | (refine ⟨by omega, (), by cbv, fun j f hj hjf => ?_⟩
      by_cases hji : j < i
      ·exact hP j f hji hjf
      ·have : j = i := by omega
       subst this
       rw [hfi] at hjf
       cases hjf
       exact ⟨by simp only; omega, by simp only; omega⟩)
 ·
  repeat' (first | refine W.seq ?_ | refine W.easy (n := 200) (k := ?_) | refine W.ret ?_ | refine W.exit ?_ | refine Ret.ret (k := ?_) | (refine W.condL (h := ?_); change W _ _ _ _) | refine W.regS ?_ | refine WS.done ?_ | refine WS.pre (n := 200) (k := ?_) | refine WS.len (h := ?_) | (refine WS.cmp (k1 := fun h => ?_) (k2 := fun h => ?_) <;> simp only [cmpP, oC, nTr, ne_eq] at h <;> (try (exfalso; omega))) | fail)
  refine .inl ⟨rfl, by omega, fun j f hjf => ?_⟩
  have := (List.getElem?_eq_some_iff.1 hjf).1
  exact hP j f (by omega) hjf
end Go.Ab.Ytkmmpbmmmbebgaa
