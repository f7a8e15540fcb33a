/- Is it an instruction, with its variable in place? -/
import Derived.Test.YtkmmpbmmmbebgaaBasic
set_option linter.all false
namespace Go.Ab.Ytkmmpbmmmbebgaa
set_option maxRecDepth 100000
set_option maxHeartbeats 4000000
def knownP (u : TUnit) (f : TFunc) (n : Int) (x : TIns) : Prop :=
 if x.op = 32 \/ x.op = 36 \/ x.op = 43 \/ x.op = 44 \/ x.op = 47 then True
 else if x.op = 33 then 0 <= x.num /\ x.num < f.params
 else if x.op = 34 \/ x.op = 35 \/ x.op = 46 then varP scalarP f x.var
 else if x.op = 37 \/ x.op = 38 then varP arrayP f x.var
 else if x.op = 39 \/ x.op = 40 then varP fieldsP f x.var /\ 0 <= x.num /\ varP (fun v => x.num < v.words) f x.var
 else if x.op = 41 then varP arrayP f x.var \/ varP fieldsP f x.var
 else if x.op = 42 then 0 <= x.num /\ ∃ g, u.funcs[x.num.toNat]? = some g /\ (x.args.length : Int) = g.params
 else if x.op = 45 then 0 <= x.num /\ ∃ p, u.points[x.num.toNat]? = some p /\ p.func = n
 else 1 <= x.op /\ x.op <= 15
theorem known_ok {u : TUnit} {eu : List A} (hu : UnitR u eu) {n : Nat} {f : TFunc} (hf : u.funcs[n]? = some f) {x : TIns} {ex : List A} (hx : InsR x ex) : WC E 48 [.agg eu, .v (.int .i64 (Int.ofNat n)), .agg ex] [] fun r _ => IsB (knownP u f n x) r := by
 obtain ⟨funcs, main, points⟩ := u
 obtain ⟨_, _, rfl, ⟨nf, fs, fl, rfl, hfl, h1, hF, _⟩, ⟨np, ps, pl, rfl, hpl, h2, hP, _⟩⟩ := hu
 simp only at hf hF hP h1 h2
 have hnl := (List.getElem?_eq_some_iff.1 hf).1
 obtain ⟨e, he, hR⟩ := hF.at n hnl
 have hfe : funcs[n] = f := by rw [List.getElem?_eq_getElem hnl] at hf; exact Option.some.inj hf
 rw [hfe] at hR
 have cs := fun k => scalar_ok hR k
 have ca := fun k => array_ok hR k
 have cf := fun k => fields_ok hR k
 obtain ⟨name, params, result, vars, blocks, size⟩ := f
 obtain ⟨_, _, rfl, ⟨nv, vs, nvl, rfl, hvl, h3, hv, _⟩, ⟨nb, bs, nbl, rfl, hbl, h4, hb, _⟩⟩ := hR
 obtain ⟨op, dst, xa, xb, var, num, args⟩ := x
 obtain ⟨_, rfl, ⟨na, as, nal, rfl, hal, h6, hA, _⟩⟩ := hx
 simp only at h3 h4 hv hb h6 hA
 simp only [knownP]
 have mem : ∀ k : Int, k = 32 \/ k = 33 \/ k = 34 \/ k = 35 \/ k = 36 \/ k = 37 \/ k = 38 \/ k = 39 \/ k = 40 \/ k = 41 \/ k = 42 \/ k = 43 \/ k = 44 \/ k = 45 \/ k = 46 \/ k = 47 \/ (k < 32 \/ 47 < k) := fun k => by omega
 refine WC.enter rfl rfl rfl ?_
 unfold b48 ki kb vi mt mw ft ll lg lt iz og ov oo
 rcases mem op with rfl | rfl | rfl | rfl | rfl | rfl | rfl | rfl | rfl | rfl | rfl | rfl | rfl | rfl | rfl | rfl | hop
 case' inr.inr.inr.inr.inr.inr.inr.inr.inr.inr.inl =>
  by_cases hr : 0 <= num /\ num < funcs.length
  case' pos =>
   obtain ⟨j, rfl, hj⟩ := intOf hr
   obtain ⟨eg, heg, hG⟩ := hF.at j (by omega)
   have hg : funcs[j]? = some funcs[j] := List.getElem?_eq_getElem (by omega)
   generalize funcs[j] = g at hG hg
   have hpt : (0 <= Int.ofNat j /\ ∃ g, funcs[(Int.ofNat j).toNat]? = some g /\ (args.length : Int) = g.params) = ((args.length : Int) = g.params) := propext ⟨fun ⟨_, v, h1, h2⟩ => by
    rw [show (Int.ofNat j).toNat = j from rfl, hg] at h1
    cases h1
    exact h2, fun h => ⟨Int.natCast_nonneg j, _, hg, h⟩⟩
   obtain ⟨gname, gparams, gresult, gvars, gblocks, gsize⟩ := g
   obtain ⟨_, _, rfl, _, _⟩ := hG
   simp only at hpt
  case' neg =>
   have hpt : (0 <= num /\ ∃ g, funcs[num.toNat]? = some g /\ (args.length : Int) = g.params) = False := propext ⟨fun ⟨h0, v, h1, _⟩ => by
    have := (List.getElem?_eq_some_iff.1 h1).1
    omega, False.elim⟩
 case' inr.inr.inr.inr.inr.inr.inr.inr.inr.inr.inr.inr.inr.inl =>
  by_cases hr : 0 <= num /\ num < points.length
  case' pos =>
   obtain ⟨j, rfl, hj⟩ := intOf hr
   obtain ⟨eg, heg, hG⟩ := hP.at j (by omega)
   have hg : points[j]? = some points[j] := List.getElem?_eq_getElem (by omega)
   generalize points[j] = g at hG hg
   have hpt : (0 <= Int.ofNat j /\ ∃ p, points[(Int.ofNat j).toNat]? = some p /\ p.func = (n : Int)) = (g.func = (n : Int)) := propext ⟨fun ⟨_, v, h1, h2⟩ => by
    rw [show (Int.ofNat j).toNat = j from rfl, hg] at h1
    cases h1
    exact h2, fun h => ⟨Int.natCast_nonneg j, _, hg, h⟩⟩
   obtain ⟨gfunc, gline, gscope⟩ := g
   obtain ⟨_, rfl, _⟩ := hG
   simp only at hpt
  case' neg =>
   have hpt : (0 <= num /\ ∃ p, points[num.toNat]? = some p /\ p.func = (n : Int)) = False := propext ⟨fun ⟨h0, v, h1, _⟩ => by
    have := (List.getElem?_eq_some_iff.1 h1).1
    omega, False.elim⟩
 case' inr.inr.inr.inr.inr.inr.inr.inl | inr.inr.inr.inr.inr.inr.inr.inr.inl =>
  by_cases hr : 0 <= var /\ var < vars.length
  case' pos =>
   obtain ⟨j, rfl, hj⟩ := intOf hr
   obtain ⟨eg, heg, hG⟩ := hv.at j (by omega)
   have hg : vars[j]? = some vars[j] := List.getElem?_eq_getElem (by omega)
   generalize vars[j] = g at hG hg
   have hvp : ∀ p, varP p ⟨name, params, result, vars, blocks, size⟩ (Int.ofNat j) = p g := fun p => propext ⟨fun ⟨_, v, h1, h2⟩ => by
    rw [show (Int.ofNat j).toNat = j from rfl, hg] at h1
    cases h1
    exact h2, fun h => ⟨Int.natCast_nonneg j, _, hg, h⟩⟩
   obtain ⟨gname, ⟨gkind, gn, gtn⟩, gwords, gfields⟩ := g
   obtain ⟨_, rfl, _⟩ := hG
  case' neg => have hno := fun p => varP_not (p := p) (f := ⟨name, params, result, vars, blocks, size⟩) hr
 all_goals
  repeat' (first | refine W.seq ?_ | refine W.easy (n := 200) (k := ?_) | refine W.block ?_ | refine W.skip ?_ | refine W.ret ?_ | refine Ret.ret (k := ?_) | (refine W.condL (h := ?_); change W _ _ _ _) | refine W.regS ?_ | refine WS.done ?_ | refine WS.pre (n := 200) (k := ?_) | (refine WS.guard (h := ?_); change WS _ _ _ _) | refine WS.len (h := ?_) | refine WS.iaddr (h := ?_) | (refine WS.cmp (k1 := fun h => ?_) (k2 := fun h => ?_) <;> simp only [cmpP, oC, nTr, ne_eq] at h <;> (try (exfalso; omega))) | refine WS.consN (n := 60) (k := ?_) | refine W.beginD (h := ?_) | (refine WD.done ⟨_, by cbv; first | done | fail, ?_⟩; dsimp only) | refine WD.pre (n := 200) (ha := rfl) (k := ?_) | (refine WD.guard (h := ?_); change WD _ _ _ _ _ _ _ _) | refine WD.len (h := ?_) | refine WD.iaddr (h := ?_) | (refine WD.cmp (k1 := fun h => ?_) (k2 := fun h => ?_) <;> simp only [cmpP, oC, nTr, ne_eq] at h <;> (try (exfalso; omega))) | refine WD.oneN (n := 60) (k := ?_) | fail)
 all_goals first
  | (refine .inl ⟨rfl, ?_⟩; simp [*]; done)
  | (refine .inr ⟨rfl, ?_⟩; simp [*]; done)
  | (refine .inl ⟨rfl, ?_⟩; (repeat' split) <;> first | trivial | omega)
  | (refine .inr ⟨rfl, ?_⟩; (repeat' split) <;> first | trivial | omega)
  | (rw [if_neg (by omega), if_neg (by omega), if_neg (by omega), if_neg (by omega), if_neg (by omega), if_neg (by omega), if_pos rfl, hpt]; first | exact .inl ⟨rfl, by omega⟩ | exact .inr ⟨rfl, by omega⟩ | exact .inr ⟨rfl, id⟩)
  | (rw [if_neg (by omega), if_neg (by omega), if_neg (by omega), if_neg (by omega), if_neg (by omega), if_neg (by omega), if_neg (by omega), if_pos rfl, hpt]; first | exact .inl ⟨rfl, by omega⟩ | exact .inr ⟨rfl, by omega⟩ | exact .inr ⟨rfl, id⟩)
  | skip
    refine WS.call (hc := (cs _)) (k := ?_)
  | skip
    refine WS.call (hc := (ca _)) (k := ?_)
  | skip
    refine WD.call (hc := (cf _)) (k := ?_)
 all_goals
  rintro _ _ (⟨rfl, hc⟩ | ⟨rfl, hc⟩)
  all_goals
   refine ⟨_, _, _, by cbv; first | done | fail, by cbv; first | done | fail, ?_⟩
 all_goals
  repeat' (first | refine W.ret ?_ | refine Ret.ret (k := ?_) | refine WS.done ?_ | refine WS.pre (n := 200) (k := ?_) | (refine WS.guard (h := ?_); change WS _ _ _ _) | refine WS.consN (n := 60) (k := ?_) | (refine WD.done ⟨_, by cbv; first | done | fail, ?_⟩; dsimp only) | refine WD.pre (n := 200) (ha := rfl) (k := ?_) | (refine WD.guard (h := ?_); change WD _ _ _ _ _ _ _ _) | refine WD.iaddr (h := ?_) | (refine WD.cmp (k1 := fun h => ?_) (k2 := fun h => ?_) <;> simp only [cmpP, oC, nTr, ne_eq] at h <;> (try (exfalso; omega))) | refine WD.oneN (n := 60) (k := ?_) | fail)
 all_goals first
  | (refine .inl ⟨rfl, ?_⟩; simp [*]; done)
  | (refine .inr ⟨rfl, ?_⟩; simp [*]; done)
  | (refine .inl ⟨rfl, ?_⟩; simp [varP, *]; done)
  | (refine .inr ⟨rfl, ?_⟩; simp [varP, *]; done)
  | exact absurd hc (hno _)
  | (refine .inl ⟨rfl, ?_⟩; simp only [hvp] at hc ⊢; simp [*]; done)
  | (refine .inr ⟨rfl, ?_⟩; simp only [hvp] at hc ⊢; simp [*]; done)
  | skip
    refine WS.call (hc := (cf _)) (k := ?_)
    rintro _ _ (⟨rfl, hc'⟩ | ⟨rfl, hc'⟩)
    all_goals
     refine ⟨_, _, _, by cbv; first | done | fail, by cbv; first | done | fail, ?_⟩
 all_goals
  repeat' (first | refine W.ret ?_ | refine Ret.ret (k := ?_) | refine WS.done ?_ | refine WS.pre (n := 200) (k := ?_) | refine WS.consN (n := 60) (k := ?_) | fail)
 all_goals first
  | (refine .inl ⟨rfl, ?_⟩; simp [*]; done)
  | (refine .inr ⟨rfl, ?_⟩; simp [*]; done)
end Go.Ab.Ytkmmpbmmmbebgaa
