/- Dead instructions: a unit with just what is needed. -/
import Derived.Test.YtkmmpbmmmbebgaaDce4
set_option linter.all false
namespace Go.Ab.Ytkmmpbmmmbebgaa
set_option maxRecDepth 100000
set_option maxHeartbeats 8000000
/-- Each function with what is needed of it. -/
inductive DceL : List TFunc -> List TFunc -> Prop
 | nil : DceL [] []
 | cons {f l l' o} : Needed f o -> DceL l l' -> DceL (f :: l) (dceF o f :: l')
theorem DceL.snoc {f : TFunc} {l l' : List TFunc} {o : List Bool} (h : DceL l l') (ho : Needed f o) : DceL (l ++ [f]) (l' ++ [dceF o f]) := by
 induction h with
 | nil => exact .cons ho .nil
 | cons h1 _ ih => exact .cons h1 ih
theorem DceL.len {l l' : List TFunc} (h : DceL l l') : l'.length = l.length := by
 induction h with
 | nil => rfl
 | cons _ _ ih => simp [ih]
structure DceFOK (f : TFunc) : Prop where
 small : FuncSmall f
 ok : DceOK f
 bind : ∀ b, b ∈ f.blocks -> ∀ x, x ∈ b.ins -> x.op = 46 -> x.a < f.size
theorem unit_ok {u : TUnit} {e : List A} (h : UnitR u e) (hs : ∀ f, f ∈ u.funcs -> DceFOK f) (hn : u.funcs.length <= 100000) : WC E 12 [.agg e] [] fun r _ => ∃ l e', DceL u.funcs l /\ r = .agg e' /\ UnitR { u with funcs := l } e' := by
 obtain ⟨funcs, main, points⟩ := u
 obtain ⟨_, _, rfl, ⟨nf, fs, n, rfl, hfl, h1, hf, _⟩, ⟨np, ps, m, rfl, hpl, h2, hP, _⟩⟩ := h
 simp only at hs hn h1 h2 hf hP
 have hps : SlA 3 PointR points (.imm np 3 ps) := ⟨np, ps, m, rfl, hpl, h2, hP, ‹_›⟩
 refine WC.enter rfl rfl rfl ?_
 unfold b12 ki vi ft lt ov oo
 repeat' (first | refine W.seq ?_ | refine W.easy (n := 200) (k := ?_) | refine W.block ?_ | refine W.regS ?_ | refine WS.done ?_ | refine WS.pre (n := 200) (k := ?_) | refine WS.len (h := ?_) | refine WS.consN (n := 60) (k := ?_) | fail)
 refine W.forS n (fun i (x : A) σ => sn 4 i (sb 2 0 x σ)) (fun i x => ∃ l, DceL (funcs.take i) l /\ GrowR 6 FuncR l x) 0 (Nat.zero_le _) ?_ ?_
 ·exact ⟨_, by cbv, [], .nil, .inl ⟨rfl, rfl⟩⟩
 rintro i x hi ⟨l, hl, hQ⟩
 refine W.norm (k := ?_)
 unfold l12_0 ki vi mw ft ll lg lt ov oo
 by_cases hin : i < n
 ·have hib : i < funcs.length := by omega
  obtain ⟨e, he, hR⟩ := hf.at i hib
  have hbi : funcs[i]? = some funcs[i] := List.getElem?_eq_getElem hib
  have hsf := hs _ (List.getElem_mem hib)
  have hll : l.length <= 100000 := by rw [hl.len, List.length_take]; omega
  have hsn := fun o (ho : Needed funcs[i] o) => hl.snoc ho
  rw [<- take_snoc hbi] at hsn
  generalize funcs[i] = f at hR hbi hsf hsn
  have hc := function_ok hR hsf.small hsf.ok hsf.bind
  rcases hQ with ⟨rfl, hy⟩ | ⟨ry, ny, rfl, hyl, hyn, hyR⟩
  case' inr =>
   have hny : ny <= 100000 := by rw [hyn]; exact hll
  all_goals
   obtain ⟨_, _, rfl, ⟨nv, vs, nvl, rfl, hvl, h3, hv, _⟩, ⟨nb, bs, nbl, rfl, hbl, h4, hb, _⟩⟩ := hR
   repeat' (first | refine W.seq ?_ | refine W.block ?_ | refine W.skip ?_ | refine W.frz (k := ?_) | (refine W.condL (h := ?_); change W _ _ _ _) | refine W.regS ?_ | refine WS.done ?_ | refine WS.pre (n := 200) (k := ?_) | refine WS.iaddr (h := ?_) | (refine WS.cmp (k1 := fun h => ?_) (k2 := fun h => ?_) <;> simp only [cmpP, oC, nTr, ne_eq] at h <;> (try (exfalso; omega))) | refine WS.consN (n := 60) (k := ?_) | refine W.beginD (h := ?_) | refine WD.pre (n := 200) (ha := rfl) (k := ?_) | fail)
  all_goals
   refine WD.qcall (hc := (hc)) (k := ?_)
   rintro _ _ ⟨o, e', ho, rfl, hR'⟩
   have hR2 := hR'
   have hsn2 := hsn o ho
   generalize dceF o f = f' at *
   obtain ⟨_, _, rfl, ⟨nv', vs', nvl', rfl, hvl', h3', hv', _⟩, ⟨nb', bs', nbl', rfl, hbl', h4', hb', _⟩⟩ := hR'
   refine ⟨_, _, _, by cbv; first | done | fail, by cbv; first | done | fail, by cbv; first | done | fail, ?_⟩
  all_goals
   repeat' (first | refine W.regS ?_ | refine WS.done ?_ | refine WS.inc (h := ?_) | refine WS.consN (n := 60) (k := ?_) | (refine WD.done ⟨_, by cbv; first | done | fail, ?_⟩; dsimp only) | refine WD.stoApp (h := fun r hr => ?_) | refine WD.pre (n := 200) (ha := rfl) (k := ?_) | refine WD.app (h := ?_) | refine WD.oneN (n := 60) (k := ?_) | fail)
  all_goals first
   | exact ⟨by omega, _, by cbv, _, hsn2, growR_one hR2 hy⟩
   | exact ⟨by omega, _, by cbv, _, hsn2, growR_snoc hR2 hyR hr⟩
 ·have hi' : funcs.take i = funcs := List.take_of_length_le (by omega)
  rw [hi'] at hl
  rcases hQ with ⟨rfl, hy⟩ | ⟨ry, ny, rfl, hyl, hyn, hyR⟩
  ·
   repeat' (first | refine W.seq ?_ | refine W.easy (n := 200) (k := ?_) | refine W.ret ?_ | refine W.exit ?_ | refine W.frz (k := ?_) | refine Ret.ret (k := ?_) | (refine W.condL (h := ?_); change W _ _ _ _) | refine W.regS ?_ | refine WS.done ?_ | (refine WS.cmp (k1 := fun h => ?_) (k2 := fun h => ?_) <;> simp only [cmpP, oC, nTr, ne_eq] at h <;> (try (exfalso; omega))) | fail)
   exact ⟨l, _, hl, rfl, _, _, rfl, slA_frz0 hy rfl, hps⟩
  ·
   repeat' (first | refine W.seq ?_ | refine W.easy (n := 200) (k := ?_) | refine W.ret ?_ | refine W.exit ?_ | refine W.frz (k := ?_) | refine Ret.ret (k := ?_) | (refine W.condL (h := ?_); change W _ _ _ _) | refine W.regS ?_ | refine WS.done ?_ | (refine WS.cmp (k1 := fun h => ?_) (k2 := fun h => ?_) <;> simp only [cmpP, oC, nTr, ne_eq] at h <;> (try (exfalso; omega))) | fail)
   exact ⟨l, _, hl, rfl, _, _, rfl, slA_own hyR, hps⟩
end Go.Ab.Ytkmmpbmmmbebgaa
