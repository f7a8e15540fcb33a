/- Is a unit sound? -/
import Derived.Test.YtkmmpbmmmbebgaaSound
set_option linter.all false
namespace Go.Ab.Ytkmmpbmmmbebgaa
set_option maxRecDepth 100000
set_option maxHeartbeats 8000000
def SoundU (u : TUnit) : Prop := MayP u /\ ∀ (i : Nat) (f : TFunc), u.funcs[i]? = some f -> SoundF f
structure UnitSmall (u : TUnit) : Prop where
 f : ∀ f, f ∈ u.funcs -> FuncSmall f /\ insSum f <= 1000000000
 p : u.points.length <= 100000 /\ ∀ p, p ∈ u.points -> p.scope.length <= 100000000
theorem check_ok {u : TUnit} {e : List A} (h : UnitR u e) (hs : UnitSmall u) : WC E 27 [.agg e] [] fun r _ => ∃ a b c t, r = .tup [.v (.int .i64 a), .v (.int .i64 b), .v (.int .i64 c), .v (.int .i64 t)] /\ (t = 0 ↔ SoundU u) := by
 have cmay := may_ok h hs.f hs.p
 obtain ⟨funcs, main, points⟩ := u
 obtain ⟨_, _, rfl, ⟨nf, fs, n, rfl, hfl, h1, hf, _⟩, ⟨np, ps, m, rfl, hpl, h2, hP, _⟩⟩ := h
 have hsf := hs.f
 simp only at h1 h2 hf hP hsf
 refine WC.enter rfl rfl rfl ?_
 unfold b27 ki lt ov oo
 repeat' (first | refine W.seq ?_ | refine W.easy (n := 200) (k := ?_) | refine W.regS ?_ | refine WS.pre (n := 200) (k := ?_) | fail)
 refine WS.call (hc := (cmay)) (k := ?_)
 rintro _ _ (⟨rfl, hm⟩ | ⟨rfl, hm⟩)
 ·have hfew := hm.few
  simp only at hfew
  refine ⟨_, _, _, by cbv; first | done | fail, by cbv; first | done | fail, ?_⟩
  repeat' (first | refine W.seq ?_ | refine W.easy (n := 200) (k := ?_) | refine W.block ?_ | refine W.skip ?_ | (refine W.condL (h := ?_); change W _ _ _ _) | refine WS.done ?_ | refine WS.pre (n := 200) (k := ?_) | fail)
  refine W.forA n (fun i (_ : Unit) σ => sn 7 i σ) (fun i _ => ∀ (j : Nat) (f : TFunc), j < i -> funcs[j]? = some f -> SoundF f) 0 (Nat.zero_le _) ?_ ?_
  ·exact ⟨(), by cbv, upto_zero⟩
  rintro QA kA i _ hi hF
  refine W.norm (k := ?_)
  unfold l27_0 ki mt mw ft ll lg iz ov oo
  by_cases hin : i < n
  ·have hib : i < funcs.length := by omega
   obtain ⟨e, he, hR⟩ := hf.at i hib
   have hbi : funcs[i]? = some funcs[i] := List.getElem?_eq_getElem hib
   have hsi := hsf _ (List.getElem_mem hib)
   have hmi := hm.funcs i _ hbi
   generalize funcs[i] = f at hR hbi hsi hmi
   have hc := soundF_ok hR hsi.1 hmi
   obtain ⟨_, _, rfl, ⟨nv, vs, nvl, rfl, hvl, h3, hv, _⟩, ⟨nb, bs, nbl, rfl, hbl, h4, hb, _⟩⟩ := hR
   repeat' (first | refine W.seq ?_ | refine W.block ?_ | refine W.skip ?_ | (refine W.condL (h := ?_); change W _ _ _ _) | refine W.regS ?_ | refine WS.done ?_ | refine WS.pre (n := 200) (k := ?_) | refine WS.len (h := ?_) | refine WS.iaddr (h := ?_) | (refine WS.cmp (k1 := fun h => ?_) (k2 := fun h => ?_) <;> simp only [cmpP, oC, nTr, ne_eq] at h <;> (try (exfalso; omega))) | fail)
   refine WS.call (hc := (hc)) (k := ?_)
   rintro _ _ ⟨a, b, t, rfl, ht⟩
   cases t
   all_goals
    refine ⟨_, _, _, by cbv; first | done | fail, by cbv; first | done | fail, ?_⟩
    repeat' (first | refine W.seq ?_ | refine W.easy (n := 200) (k := ?_) | refine W.skip ?_ | refine W.ret ?_ | (refine W.condL (h := ?_); change W _ _ _ _) | refine W.regS ?_ | refine WS.done ?_ | refine WS.pre (n := 200) (k := ?_) | refine WS.inc (h := ?_) | refine WS.consN (n := 60) (k := ?_) | fail)
   ·refine kA _ _ ?_
    repeat' (first | refine Ret.ret (k := ?_) | fail)
    refine ⟨_, _, _, _, rfl, iff_of_false (by decide) fun h => ?_⟩
    have := ht.2 (h.2 i f hbi)
    cases this
   ·exact ⟨by omega, (), by cbv, upto_snoc (P := fun _ f => SoundF f) hF hbi (ht.1 rfl)⟩
  ·have hall := upto_all hF (by omega)
   repeat' (first | refine W.seq ?_ | refine W.exit ?_ | (refine W.condL (h := ?_); change W _ _ _ _) | refine W.regS ?_ | refine WS.done ?_ | refine WS.pre (n := 200) (k := ?_) | refine WS.len (h := ?_) | (refine WS.cmp (k1 := fun h => ?_) (k2 := fun h => ?_) <;> simp only [cmpP, oC, nTr, ne_eq] at h <;> (try (exfalso; omega))) | fail)
   refine kA _ _ ?_
   repeat' (first | refine W.seq ?_ | refine W.easy (n := 200) (k := ?_) | refine W.ret ?_ | refine Ret.ret (k := ?_) | fail)
   exact ⟨_, _, _, _, rfl, iff_of_true rfl ⟨hm, hall⟩⟩
 ·
  refine ⟨_, _, _, by cbv; first | done | fail, by cbv; first | done | fail, ?_⟩
  repeat' (first | refine W.seq ?_ | refine W.easy (n := 200) (k := ?_) | refine W.ret ?_ | refine Ret.ret (k := ?_) | (refine W.condL (h := ?_); change W _ _ _ _) | refine WS.done ?_ | refine WS.pre (n := 200) (k := ?_) | fail)
  exact ⟨_, _, _, _, rfl, iff_of_false (by decide) fun h => hm h.1⟩
theorem sound_ok {u : TUnit} {e : List A} (h : UnitR u e) (hs : UnitSmall u) : WC E 9 [.agg e] [] fun r _ => IsB (SoundU u) r := by
 have hc := check_ok h hs
 obtain ⟨funcs, main, points⟩ := u
 obtain ⟨_, _, rfl, ⟨nf, fs, n, rfl, hfl, h1, hf, _⟩, ⟨np, ps, m, rfl, hpl, h2, hP, _⟩⟩ := h
 refine WC.enter rfl rfl rfl ?_
 unfold b9 ki kb mt mw lt ov oo
 repeat' (first | refine W.seq ?_ | refine W.easy (n := 200) (k := ?_) | refine W.regS ?_ | refine WS.pre (n := 200) (k := ?_) | fail)
 refine WS.call (hc := (hc)) (k := ?_)
 rintro _ _ ⟨a, b, c, t, rfl, ht⟩
 refine ⟨_, _, _, by cbv; first | done | fail, by cbv; first | done | fail, ?_⟩
 repeat' (first | refine W.seq ?_ | refine W.ret ?_ | refine Ret.ret (k := ?_) | refine W.regS ?_ | refine WS.done ?_ | refine WS.pre (n := 200) (k := ?_) | (refine WS.cmp (k1 := fun h => ?_) (k2 := fun h => ?_) <;> simp only [cmpP, oC, nTr, ne_eq] at h <;> (try (exfalso; omega))) | refine WS.consN (n := 60) (k := ?_) | fail)
 ·exact .inl ⟨rfl, ht.1 (by omega)⟩
 ·exact .inr ⟨rfl, fun h' => by have := ht.2 h'; omega⟩
end Go.Ab.Ytkmmpbmmmbebgaa
