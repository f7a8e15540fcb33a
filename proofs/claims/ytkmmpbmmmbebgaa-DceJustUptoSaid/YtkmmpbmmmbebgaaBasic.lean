/- What single instructions and ends look at and make. -/
import Derived.Test.YtkmmpbmmmbebgaaAbE
import Derived.Test.YtkmmpbmmmbebgaaM4
set_option linter.all false
namespace Go.Ab.Ytkmmpbmmmbebgaa
set_option maxRecDepth 100000
set_option maxHeartbeats 4000000
def nextF (t : TTerm) : List Int := if t.kind = 1 then [t.to] else if t.kind = 2 then [t.to, t.els] else []
def makesF (x : TIns) : Int := if x.op = 35 \/ x.op = 38 \/ x.op = 40 \/ x.op = 41 \/ x.op = 44 \/ x.op = 45 \/ x.op = 46 then -1 else x.dst
def usesF (x : TIns) : List Int :=
 if x.op = 14 \/ x.op = 15 \/ x.op = 36 \/ x.op = 35 \/ x.op = 37 \/ x.op = 40 \/ x.op = 44 then [x.a]
 else if x.op = 38 then [x.a, x.b]
 else if x.op = 42 \/ x.op = 47 then x.args
 else if x.op = 46 then (if 0 <= x.a then [x.a] else [])
 else if 1 <= x.op /\ x.op <= 13 then [x.a, x.b] else []
def TermA (t : TTerm) : A := .agg [.v (.int .u8 t.kind), .v (.int .i64 t.a), .v (.int .i64 t.to), .v (.int .i64 t.els)]
theorem intR1 (a : Int) : RowR IntR [a] [[.v (.int .i64 a)]] := .cons rfl .nil
theorem intR2 (a b : Int) : RowR IntR [a, b] [[.v (.int .i64 a)], [.v (.int .i64 b)]] := .cons rfl (.cons rfl .nil)
theorem slA_own {α : Type} {z : Nat} {R : α -> List A -> Prop} {l : List α} {es : List (List A)} (h : RowR R l es) : SlA z R l (.imm false z es) := ⟨false, es, es.length, rfl, rfl, h.len, h, fun h => by cases h⟩
theorem slA_nil {α : Type} {z : Nat} {R : α -> List A -> Prop} : SlA z R [] (.imm true z []) := ⟨true, [], 0, rfl, rfl, rfl, .nil, fun _ => rfl⟩
theorem next_ok (t : TTerm) : WC E 46 [TermA t] [] fun r _ => SlA 1 IntR (nextF t) r := by
 obtain ⟨kind, a, to, els⟩ := t
 refine WC.enter rfl rfl rfl ?_
 unfold b46 TermA
 repeat' (first | refine W.seq ?_ | refine W.easy (n := 200) (k := ?_) | refine W.block ?_ | refine W.skip ?_ | refine W.ret ?_ | refine W.frz (k := ?_) | refine Ret.ret (k := ?_) | (refine W.condL (h := ?_); change W _ _ _ _) | refine W.regS ?_ | refine WS.done ?_ | (refine WS.cmp (k1 := fun h => ?_) (k2 := fun h => ?_) <;> simp only [cmpP, oC, nTr, ne_eq] at h <;> (try (exfalso; omega))) | refine WS.consN (n := 60) (k := ?_) | fail)
 ·simp only [nextF, *, if_true]
  exact slA_own (intR1 _)
 ·simp only [nextF, *, if_true, if_false]
  exact slA_own (intR2 _ _)
 ·simp only [nextF, *, if_false]
  exact slA_nil
theorem makes_ok {x : TIns} {e : List A} (h : InsR x e) : WC E 18 [.agg e] [] fun r _ => r = .v (.int .i64 (makesF x)) := by
 obtain ⟨op, dst, a, b, var, num, args⟩ := x
 obtain ⟨_, rfl, ⟨nl, es, n, rfl, hn, hl, hI, _⟩⟩ := h
 refine WC.enter rfl rfl rfl ?_
 unfold b18 ki mw ft ll ov oo
 repeat' (first | refine W.seq ?_ | refine W.easy (n := 200) (k := ?_) | refine W.block ?_ | refine W.skip ?_ | refine W.ret ?_ | refine Ret.ret (k := ?_) | (refine W.condL (h := ?_); change W _ _ _ _) | refine W.regS ?_ | refine WS.done ?_ | (refine WS.cmp (k1 := fun h => ?_) (k2 := fun h => ?_) <;> simp only [cmpP, oC, nTr, ne_eq] at h <;> (try (exfalso; omega))) | refine WS.consN (n := 60) (k := ?_) | fail)
 all_goals simp [tupA, makesF, *]
theorem uses_ok {x : TIns} {e : List A} (h : InsR x e) (hn : x.args.length <= 4294967296) : WC E 36 [.agg e] [] fun r _ => SlA 1 IntR (usesF x) r := by
 obtain ⟨op, dst, a, b, var, num, args⟩ := x
 obtain ⟨_, rfl, ⟨nl, es, n, rfl, hes, hl, hI, _⟩⟩ := h
 simp only at hl hI hn
 have hfl := intR_flat hI
 refine WC.enter rfl rfl rfl ?_
 unfold b36 ki kb vi mw ft ll og ov oo
 repeat' (first | refine W.seq ?_ | refine W.easy (n := 200) (k := ?_) | refine W.block ?_ | refine W.skip ?_ | refine W.ret ?_ | refine W.frz (k := ?_) | refine Ret.ret (k := ?_) | (refine W.condL (h := ?_); change W _ _ _ _) | refine W.regS ?_ | refine WS.done ?_ | refine WS.setApp (h := fun r hr => ?_) | refine WS.pre (n := 200) (k := ?_) | (refine WS.guard (h := ?_); change WS _ _ _ _) | (refine WS.cmp (k1 := fun h => ?_) (k2 := fun h => ?_) <;> simp only [cmpP, oC, nTr, ne_eq] at h <;> (try (exfalso; omega))) | refine WS.app (hn := (news_imm (by assumption))) (h := ?_) | refine WS.consN (n := 60) (k := ?_) | fail)
 all_goals first
  | (simp [usesF, *, tupA, slA_nil]; done)
  | (simp [usesF, *, tupA]; exact slA_own (intR1 _))
  | (simp [usesF, *, tupA]; exact slA_own (intR2 _ _))
  | (subst hr; simp [usesF, *, tupA]; exact slA_own ‹_›)
/-- Does it make a virtual? -/
def makesB (x : TIns) : Prop := ¬ (x.op = 35 \/ x.op = 38 \/ x.op = 40 \/ x.op = 41 \/ x.op = 44 \/ x.op = 45 \/ x.op = 46)
theorem makesB_ok {x : TIns} {e : List A} (h : InsR x e) : WC E 49 [.agg e] [] fun r _ => IsB (makesB x) r := by
 obtain ⟨op, dst, a, b, var, num, args⟩ := x
 obtain ⟨_, rfl, ⟨nl, es, n, rfl, hn, hl, hI, _⟩⟩ := h
 refine WC.enter rfl rfl rfl ?_
 unfold b49 kb mw ft ov oo
 repeat' (first | refine W.seq ?_ | refine W.easy (n := 200) (k := ?_) | refine W.block ?_ | refine W.skip ?_ | refine W.ret ?_ | refine Ret.ret (k := ?_) | (refine W.condL (h := ?_); change W _ _ _ _) | refine W.regS ?_ | refine WS.done ?_ | (refine WS.cmp (k1 := fun h => ?_) (k2 := fun h => ?_) <;> simp only [cmpP, oC, nTr, ne_eq] at h <;> (try (exfalso; omega))) | refine WS.consN (n := 60) (k := ?_) | fail)
 all_goals first
  | (refine .inl ⟨rfl, ?_⟩; simp [makesB, *]; done)
  | (refine .inr ⟨rfl, ?_⟩; simp [makesB, *]; done)
def TypeA (t : TType) : A := .agg [.v (.int .u8 t.kind), .v (.int .i64 t.n), .v (.string t.name)]
def scalarT (t : TType) : Prop := t.kind = 1 \/ t.kind = 2
theorem scalarT_ok (t : TType) : WC E 66 [TypeA t] [] fun r _ => IsB (scalarT t) r := by
 obtain ⟨kind, n, name⟩ := t
 refine WC.enter rfl rfl rfl ?_
 unfold b66 TypeA
 repeat' (first | refine W.seq ?_ | refine W.easy (n := 200) (k := ?_) | refine W.ret ?_ | refine Ret.ret (k := ?_) | refine W.regS ?_ | refine WS.done ?_ | refine WS.pre (n := 200) (k := ?_) | (refine WS.guard (h := ?_); change WS _ _ _ _) | (refine WS.cmp (k1 := fun h => ?_) (k2 := fun h => ?_) <;> simp only [cmpP, oC, nTr, ne_eq] at h <;> (try (exfalso; omega))) | refine WS.consN (n := 60) (k := ?_) | fail)
 all_goals first
  | (refine .inl ⟨rfl, ?_⟩; simp [scalarT, *]; done)
  | (refine .inr ⟨rfl, ?_⟩; simp [scalarT, *]; done)
/-- Is a number a variable's that is so? -/
def varP (p : TVar -> Prop) (f : TFunc) (k : Int) : Prop := 0 <= k /\ ∃ v, f.vars[k.toNat]? = some v /\ p v
def scalarP (v : TVar) : Prop := scalarT v.type /\ v.words = 1
def arrayP (v : TVar) : Prop := v.type.kind = 3 /\ 1 <= v.words /\ v.words <= 16
def fieldsP (v : TVar) : Prop := v.type.kind = 4 /\ 1 <= v.words /\ v.words <= 16
theorem intOf {k : Int} {n : Nat} (h : 0 <= k /\ k < n) : ∃ j : Nat, k = Int.ofNat j /\ j < n := ⟨k.toNat, by simp only [Int.ofNat_eq_natCast]; omega, by omega⟩
theorem varP_of {p : TVar -> Prop} {f : TFunc} {j : Nat} (hj : j < f.vars.length) : varP p f (Int.ofNat j) ↔ p f.vars[j] := by
 unfold varP
 have e : (Int.ofNat j).toNat = j := rfl
 rw [e, List.getElem?_eq_getElem hj]
 constructor
 ·rintro ⟨_, v, hv, hp⟩
  cases hv
  exact hp
 ·exact fun hp => ⟨Int.natCast_nonneg j, _, rfl, hp⟩
theorem varP_not {p : TVar -> Prop} {f : TFunc} {k : Int} (hk : ¬ (0 <= k /\ k < f.vars.length)) : ¬ varP p f k := by
 rintro ⟨h, v, hv, _⟩
 have := (List.getElem?_eq_some_iff.1 hv).1
 exact hk ⟨h, by omega⟩
theorem IsB.iff {p q : Prop} {x : A} (h : IsB p x) (k : p ↔ q) : IsB q x := by
 rcases h with ⟨h, hp⟩ | ⟨h, hp⟩
 ·exact .inl ⟨h, k.1 hp⟩
 ·exact .inr ⟨h, fun hq => hp (k.2 hq)⟩
theorem scalar_ok {f : TFunc} {e : List A} (h : FuncR f e) (k : Int) : WC E 60 [.agg e, .v (.int .i64 k)] [] fun r _ => IsB (varP scalarP f k) r := by
 obtain ⟨name, params, result, vars, blocks, size⟩ := f
 obtain ⟨_, _, rfl, ⟨nv, vs, nvl, rfl, hvl, h3, hv, _⟩, ⟨nb, bs, nbl, rfl, hbl, h4, hb, _⟩⟩ := h
 simp only at h3 h4 hv hb
 by_cases hk : 0 <= k /\ k < nvl
 ·obtain ⟨j, rfl, hj⟩ := intOf hk
  have hjv : j < vars.length := by omega
  obtain ⟨e, he, hR⟩ := hv.at j hjv
  refine WC.mono (Q := fun r _ => IsB (scalarP vars[j]) r) ?_ fun r _ hr => IsB.iff hr (varP_of (f := ⟨name, params, result, vars, blocks, size⟩) hjv).symm
  generalize vars[j] = v at hR
  obtain ⟨vn, ⟨tk, tn, tnm⟩, words, fields⟩ := v
  obtain ⟨_, rfl, ⟨nf, fs, nfl, rfl, hfl, h5, hf, _⟩⟩ := hR
  refine WC.enter rfl rfl rfl ?_
  unfold b60 ki kb mt mw og ov oo
  repeat' (first | refine W.seq ?_ | refine W.easy (n := 200) (k := ?_) | refine W.regS ?_ | refine WS.pre (n := 200) (k := ?_) | (refine WS.guard (h := ?_); change WS _ _ _ _) | refine WS.len (h := ?_) | refine WS.iaddr (h := ?_) | (refine WS.cmp (k1 := fun h => ?_) (k2 := fun h => ?_) <;> simp only [cmpP, oC, nTr, ne_eq] at h <;> (try (exfalso; omega))) | fail)
  refine WS.call (hc := (scalarT_ok ⟨tk, tn, tnm⟩)) (k := ?_)
  rintro r _ (⟨rfl, hs⟩ | ⟨rfl, hs⟩)
  ·
   refine ⟨_, _, _, by cbv; first | done | fail, by cbv; first | done | fail, ?_⟩
   repeat' (first | refine W.ret ?_ | refine Ret.ret (k := ?_) | refine WS.done ?_ | refine WS.pre (n := 200) (k := ?_) | (refine WS.guard (h := ?_); change WS _ _ _ _) | refine WS.iaddr (h := ?_) | (refine WS.cmp (k1 := fun h => ?_) (k2 := fun h => ?_) <;> simp only [cmpP, oC, nTr, ne_eq] at h <;> (try (exfalso; omega))) | refine WS.consN (n := 60) (k := ?_) | fail)
   ·exact .inl ⟨rfl, hs, h⟩
   ·exact .inr ⟨rfl, fun hh => h hh.2⟩
  ·
   refine ⟨_, _, _, by cbv; first | done | fail, by cbv; first | done | fail, ?_⟩
   repeat' (first | refine W.ret ?_ | refine Ret.ret (k := ?_) | refine WS.done ?_ | refine WS.pre (n := 200) (k := ?_) | (refine WS.guard (h := ?_); change WS _ _ _ _) | refine WS.consN (n := 60) (k := ?_) | fail)
   exact .inr ⟨rfl, fun hh => hs hh.1⟩
 ·refine WC.mono (Q := fun r _ => IsB False r) ?_ fun r _ hr => IsB.iff hr (iff_of_false (fun h => h) (varP_not (by simp only; rw [<- h3]; exact hk)))
  refine WC.enter rfl rfl rfl ?_
  unfold b60 ki kb mt mw og ov oo
  repeat' (first | refine W.seq ?_ | refine W.easy (n := 200) (k := ?_) | refine W.ret ?_ | refine Ret.ret (k := ?_) | refine W.regS ?_ | refine WS.done ?_ | refine WS.pre (n := 200) (k := ?_) | (refine WS.guard (h := ?_); change WS _ _ _ _) | refine WS.len (h := ?_) | (refine WS.cmp (k1 := fun h => ?_) (k2 := fun h => ?_) <;> simp only [cmpP, oC, nTr, ne_eq] at h <;> (try (exfalso; omega))) | refine WS.consN (n := 60) (k := ?_) | fail)
  all_goals exact .inr ⟨rfl, fun h => h⟩
theorem array_ok {f : TFunc} {e : List A} (h : FuncR f e) (k : Int) : WC E 61 [.agg e, .v (.int .i64 k)] [] fun r _ => IsB (varP arrayP f k) r := by
 obtain ⟨name, params, result, vars, blocks, size⟩ := f
 obtain ⟨_, _, rfl, ⟨nv, vs, nvl, rfl, hvl, h3, hv, _⟩, ⟨nb, bs, nbl, rfl, hbl, h4, hb, _⟩⟩ := h
 simp only at h3 h4 hv hb
 by_cases hk : 0 <= k /\ k < nvl
 ·obtain ⟨j, rfl, hj⟩ := intOf hk
  have hjv : j < vars.length := by omega
  obtain ⟨e, he, hR⟩ := hv.at j hjv
  refine WC.mono (Q := fun r _ => IsB (arrayP vars[j]) r) ?_ fun r _ hr => IsB.iff hr (varP_of (f := ⟨name, params, result, vars, blocks, size⟩) hjv).symm
  generalize vars[j] = v at hR
  obtain ⟨vn, ⟨tk, tn, tnm⟩, words, fields⟩ := v
  obtain ⟨_, rfl, ⟨nf, fs, nfl, rfl, hfl, h5, hf, _⟩⟩ := hR
  refine WC.enter rfl rfl rfl ?_
  unfold b61 ki kb mt mw og ov oo
  repeat' (first | refine W.seq ?_ | refine W.easy (n := 200) (k := ?_) | refine W.ret ?_ | refine Ret.ret (k := ?_) | refine W.regS ?_ | refine WS.done ?_ | refine WS.pre (n := 200) (k := ?_) | (refine WS.guard (h := ?_); change WS _ _ _ _) | refine WS.len (h := ?_) | refine WS.iaddr (h := ?_) | (refine WS.cmp (k1 := fun h => ?_) (k2 := fun h => ?_) <;> simp only [cmpP, oC, nTr, ne_eq] at h <;> (try (exfalso; omega))) | refine WS.consN (n := 60) (k := ?_) | fail)
  all_goals first
   | (refine .inl ⟨rfl, ?_⟩; simp [arrayP, *]; done)
   | (refine .inr ⟨rfl, ?_⟩; simp [arrayP, *]; done)
 ·refine WC.mono (Q := fun r _ => IsB False r) ?_ fun r _ hr => IsB.iff hr (iff_of_false (fun h => h) (varP_not (by simp only; rw [<- h3]; exact hk)))
  refine WC.enter rfl rfl rfl ?_
  unfold b61 ki kb mt mw og ov oo
  repeat' (first | refine W.seq ?_ | refine W.easy (n := 200) (k := ?_) | refine W.ret ?_ | refine Ret.ret (k := ?_) | refine W.regS ?_ | refine WS.done ?_ | refine WS.pre (n := 200) (k := ?_) | (refine WS.guard (h := ?_); change WS _ _ _ _) | refine WS.len (h := ?_) | (refine WS.cmp (k1 := fun h => ?_) (k2 := fun h => ?_) <;> simp only [cmpP, oC, nTr, ne_eq] at h <;> (try (exfalso; omega))) | refine WS.consN (n := 60) (k := ?_) | fail)
  all_goals exact .inr ⟨rfl, fun h => h⟩
theorem fields_ok {f : TFunc} {e : List A} (h : FuncR f e) (k : Int) : WC E 62 [.agg e, .v (.int .i64 k)] [] fun r _ => IsB (varP fieldsP f k) r := by
 obtain ⟨name, params, result, vars, blocks, size⟩ := f
 obtain ⟨_, _, rfl, ⟨nv, vs, nvl, rfl, hvl, h3, hv, _⟩, ⟨nb, bs, nbl, rfl, hbl, h4, hb, _⟩⟩ := h
 simp only at h3 h4 hv hb
 by_cases hk : 0 <= k /\ k < nvl
 ·obtain ⟨j, rfl, hj⟩ := intOf hk
  have hjv : j < vars.length := by omega
  obtain ⟨e, he, hR⟩ := hv.at j hjv
  refine WC.mono (Q := fun r _ => IsB (fieldsP vars[j]) r) ?_ fun r _ hr => IsB.iff hr (varP_of (f := ⟨name, params, result, vars, blocks, size⟩) hjv).symm
  generalize vars[j] = v at hR
  obtain ⟨vn, ⟨tk, tn, tnm⟩, words, fields⟩ := v
  obtain ⟨_, rfl, ⟨nf, fs, nfl, rfl, hfl, h5, hf, _⟩⟩ := hR
  refine WC.enter rfl rfl rfl ?_
  unfold b62 ki kb mt mw og ov oo
  repeat' (first | refine W.seq ?_ | refine W.easy (n := 200) (k := ?_) | refine W.ret ?_ | refine Ret.ret (k := ?_) | refine W.regS ?_ | refine WS.done ?_ | refine WS.pre (n := 200) (k := ?_) | (refine WS.guard (h := ?_); change WS _ _ _ _) | refine WS.len (h := ?_) | refine WS.iaddr (h := ?_) | (refine WS.cmp (k1 := fun h => ?_) (k2 := fun h => ?_) <;> simp only [cmpP, oC, nTr, ne_eq] at h <;> (try (exfalso; omega))) | refine WS.consN (n := 60) (k := ?_) | fail)
  all_goals first
   | (refine .inl ⟨rfl, ?_⟩; simp [fieldsP, *]; done)
   | (refine .inr ⟨rfl, ?_⟩; simp [fieldsP, *]; done)
 ·refine WC.mono (Q := fun r _ => IsB False r) ?_ fun r _ hr => IsB.iff hr (iff_of_false (fun h => h) (varP_not (by simp only; rw [<- h3]; exact hk)))
  refine WC.enter rfl rfl rfl ?_
  unfold b62 ki kb mt mw og ov oo
  repeat' (first | refine W.seq ?_ | refine W.easy (n := 200) (k := ?_) | refine W.ret ?_ | refine Ret.ret (k := ?_) | refine W.regS ?_ | refine WS.done ?_ | refine WS.pre (n := 200) (k := ?_) | (refine WS.guard (h := ?_); change WS _ _ _ _) | refine WS.len (h := ?_) | (refine WS.cmp (k1 := fun h => ?_) (k2 := fun h => ?_) <;> simp only [cmpP, oC, nTr, ne_eq] at h <;> (try (exfalso; omega))) | refine WS.consN (n := 60) (k := ?_) | fail)
  all_goals exact .inr ⟨rfl, fun h => h⟩
end Go.Ab.Ytkmmpbmmmbebgaa
