/- The same units. -/
import Derived.Test.YtkmmpbmmmbebgaaMade
import Derived.Test.YtkmmpbmmmbebgaaM4
set_option linter.all false
namespace Go.Ab.Ytkmmpbmmmbebgaa
set_option maxRecDepth 100000
set_option maxHeartbeats 8000000

theorem rowR_eq {α : Type} {R : α → List A → Prop} (hR : ∀ x e e', R x e → R x e' → e = e') {l : List α} : ∀ {r r' : List (List A)}, RowR R l r → RowR R l r' → r = r' := by
  induction l with
  | nil => intro r r' h h'; cases h; cases h'; rfl
  | cons x l ih =>
    intro r r' h h'
    cases h with
    | cons h1 h2 =>
      cases h' with
      | cons h3 h4 => rw [hR _ _ _ h1 h3, ih h2 h4]

theorem intRow_eq {l : List Int} {r r' : List (List A)} (h : RowR IntR l r) (h' : RowR IntR l r') : r = r' := rowR_eq (fun _ _ _ h h' => h.trans h'.symm) h h'
theorem strRow_eq {l : List ByteArray} {r r' : List (List A)} (h : RowR StrR l r) (h' : RowR StrR l r') : r = r' := rowR_eq (fun _ _ _ h h' => h.trans h'.symm) h h'

theorem sameInts14_ok {l : List Int} {a b : A} (ha : SlA 1 IntR l a) (hb : SlA 1 IntR l b) (hn : l.length ≤ 1000000000) : WC E 50 [a, b] [] fun r _ => r = .v (.bool true) := by
  obtain ⟨na, es, n, rfl, h1, h2, h3, _⟩ := ha
  obtain ⟨nb, es', n', rfl, h1', h2', h3', _⟩ := hb
  obtain rfl := intRow_eq h3 h3'
  obtain rfl : n' = n := by omega
  refine WC.enter rfl rfl rfl ?_
  unfold b50
  repeat' (first | refine W.seq ?_ | refine W.easy (n := 200) (k := ?_) | refine W.block ?_ | refine W.skip ?_ | (refine W.condL (h := ?_); change W _ _ _ _) | refine W.regS ?_ | refine WS.done ?_ | refine WS.pre (n := 200) (k := ?_) | refine WS.len (h := ?_) | (refine WS.cmp (k1 := fun h => ?_) (k2 := fun h => ?_) <;> simp only [cmpP, Int.ofNat_eq_natCast, not_true_eq_false, ne_eq] at h <;> (try (exfalso; omega))) | fail)
  refine W.forS n' (fun k (_ : Unit) σ => sn 4 k σ) (fun _ _ => True) 0 (Nat.zero_le _) ?_ ?_
  · exact ⟨(), by cbv, trivial⟩
  rintro k _ hk _
  refine W.norm (k := ?_)
  unfold l50_0
  by_cases hkn : k < n'
  · have hkl : k < l.length := by omega
    obtain ⟨ek, hek, rfl⟩ := h3.at k hkl
    generalize l[k] = v at *
    repeat' (first | refine W.seq ?_ | refine W.block ?_ | refine W.skip ?_ | (refine W.condL (h := ?_); change W _ _ _ _) | refine W.regS ?_ | refine WS.done ?_ | refine WS.pre (n := 200) (k := ?_) | refine WS.len (h := ?_) | (refine WS.cmp (k1 := fun h => ?_) (k2 := fun h => ?_) <;> simp only [cmpP, Int.ofNat_eq_natCast, not_true_eq_false, ne_eq] at h <;> (try (exfalso; omega))) | refine WS.inc (h := ?_) | refine WS.consN (n := 60) (k := ?_) | refine W.beginD (h := ?_) | (refine WD.done ⟨_, by cbv; first | done | fail, ?_⟩; dsimp only) | refine WD.pre (n := 200) (ha := rfl) (k := ?_) | refine WD.iaddr (h := ?_) | refine WD.oneN (n := 60) (k := ?_) | fail)
    exact ⟨by omega, (), by cbv, trivial⟩
  ·
    repeat' (first | refine W.seq ?_ | refine W.easy (n := 200) (k := ?_) | refine W.ret ?_ | refine W.exit ?_ | refine Ret.ret (k := ?_) | (refine W.condL (h := ?_); change W _ _ _ _) | refine W.regS ?_ | refine WS.done ?_ | refine WS.pre (n := 200) (k := ?_) | refine WS.len (h := ?_) | (refine WS.cmp (k1 := fun h => ?_) (k2 := fun h => ?_) <;> simp only [cmpP, Int.ofNat_eq_natCast, not_true_eq_false, ne_eq] at h <;> (try (exfalso; omega))) | fail)
    rfl

theorem sameInts13_ok {l : List Int} {a b : A} (ha : SlA 1 IntR l a) (hb : SlA 1 IntR l b) (hn : l.length ≤ 1000000000) : WC E 42 [a, b] [] fun r _ => r = .v (.bool true) := by
  obtain ⟨na, es, n, rfl, h1, h2, h3, _⟩ := ha
  obtain ⟨nb, es', n', rfl, h1', h2', h3', _⟩ := hb
  obtain rfl := intRow_eq h3 h3'
  obtain rfl : n' = n := by omega
  refine WC.enter rfl rfl rfl ?_
  unfold b42
  repeat' (first | refine W.seq ?_ | refine W.easy (n := 200) (k := ?_) | refine W.block ?_ | refine W.skip ?_ | (refine W.condL (h := ?_); change W _ _ _ _) | refine W.regS ?_ | refine WS.done ?_ | refine WS.pre (n := 200) (k := ?_) | refine WS.len (h := ?_) | (refine WS.cmp (k1 := fun h => ?_) (k2 := fun h => ?_) <;> simp only [cmpP, Int.ofNat_eq_natCast, not_true_eq_false, ne_eq] at h <;> (try (exfalso; omega))) | fail)
  refine W.forS n' (fun k (_ : Unit) σ => sn 4 k σ) (fun _ _ => True) 0 (Nat.zero_le _) ?_ ?_
  · exact ⟨(), by cbv, trivial⟩
  rintro k _ hk _
  refine W.norm (k := ?_)
  unfold l42_0
  by_cases hkn : k < n'
  · have hkl : k < l.length := by omega
    obtain ⟨ek, hek, rfl⟩ := h3.at k hkl
    generalize l[k] = v at *
    repeat' (first | refine W.seq ?_ | refine W.block ?_ | refine W.skip ?_ | (refine W.condL (h := ?_); change W _ _ _ _) | refine W.regS ?_ | refine WS.done ?_ | refine WS.pre (n := 200) (k := ?_) | refine WS.len (h := ?_) | (refine WS.cmp (k1 := fun h => ?_) (k2 := fun h => ?_) <;> simp only [cmpP, Int.ofNat_eq_natCast, not_true_eq_false, ne_eq] at h <;> (try (exfalso; omega))) | refine WS.inc (h := ?_) | refine WS.consN (n := 60) (k := ?_) | refine W.beginD (h := ?_) | (refine WD.done ⟨_, by cbv; first | done | fail, ?_⟩; dsimp only) | refine WD.pre (n := 200) (ha := rfl) (k := ?_) | refine WD.iaddr (h := ?_) | refine WD.oneN (n := 60) (k := ?_) | fail)
    exact ⟨by omega, (), by cbv, trivial⟩
  ·
    repeat' (first | refine W.seq ?_ | refine W.easy (n := 200) (k := ?_) | refine W.ret ?_ | refine W.exit ?_ | refine Ret.ret (k := ?_) | (refine W.condL (h := ?_); change W _ _ _ _) | refine W.regS ?_ | refine WS.done ?_ | refine WS.pre (n := 200) (k := ?_) | refine WS.len (h := ?_) | (refine WS.cmp (k1 := fun h => ?_) (k2 := fun h => ?_) <;> simp only [cmpP, Int.ofNat_eq_natCast, not_true_eq_false, ne_eq] at h <;> (try (exfalso; omega))) | fail)
    rfl

theorem sameTexts_ok {l : List ByteArray} {a b : A} (ha : SlA 1 StrR l a) (hb : SlA 1 StrR l b) (hn : l.length ≤ 1000000000) : WC E 43 [a, b] [] fun r _ => r = .v (.bool true) := by
  obtain ⟨na, es, n, rfl, h1, h2, h3, _⟩ := ha
  obtain ⟨nb, es', n', rfl, h1', h2', h3', _⟩ := hb
  obtain rfl := strRow_eq h3 h3'
  obtain rfl : n' = n := by omega
  refine WC.enter rfl rfl rfl ?_
  unfold b43
  repeat' (first | refine W.seq ?_ | refine W.easy (n := 200) (k := ?_) | refine W.block ?_ | refine W.skip ?_ | (refine W.condL (h := ?_); change W _ _ _ _) | refine W.regS ?_ | refine WS.done ?_ | refine WS.pre (n := 200) (k := ?_) | refine WS.len (h := ?_) | (refine WS.cmp (k1 := fun h => ?_) (k2 := fun h => ?_) <;> simp only [cmpP, Int.ofNat_eq_natCast, not_true_eq_false, ne_eq] at h <;> (try (exfalso; omega))) | fail)
  refine W.forS n' (fun k (_ : Unit) σ => sn 4 k σ) (fun _ _ => True) 0 (Nat.zero_le _) ?_ ?_
  · exact ⟨(), by cbv, trivial⟩
  rintro k _ hk _
  refine W.norm (k := ?_)
  unfold l43_0
  by_cases hkn : k < n'
  · have hkl : k < l.length := by omega
    obtain ⟨ek, hek, rfl⟩ := h3.at k hkl
    generalize l[k] = v at *
    repeat' (first | refine W.seq ?_ | refine W.block ?_ | refine W.skip ?_ | (refine W.condL (h := ?_); change W _ _ _ _) | refine W.regS ?_ | refine WS.done ?_ | refine WS.pre (n := 200) (k := ?_) | refine WS.len (h := ?_) | (refine WS.cmp (k1 := fun h => ?_) (k2 := fun h => ?_) <;> simp only [cmpP, Int.ofNat_eq_natCast, not_true_eq_false, ne_eq] at h <;> (try (exfalso; omega))) | refine WS.inc (h := ?_) | refine WS.consN (n := 60) (k := ?_) | refine W.beginD (h := ?_) | (refine WD.done ⟨_, by cbv; first | done | fail, ?_⟩; dsimp only) | refine WD.pre (n := 200) (ha := rfl) (k := ?_) | refine WD.iaddr (h := ?_) | refine WD.strNeV (h := ?_) | fail)
    exact ⟨by omega, (), by cbv, trivial⟩
  ·
    repeat' (first | refine W.seq ?_ | refine W.easy (n := 200) (k := ?_) | refine W.ret ?_ | refine W.exit ?_ | refine Ret.ret (k := ?_) | (refine W.condL (h := ?_); change W _ _ _ _) | refine W.regS ?_ | refine WS.done ?_ | refine WS.pre (n := 200) (k := ?_) | refine WS.len (h := ?_) | (refine WS.cmp (k1 := fun h => ?_) (k2 := fun h => ?_) <;> simp only [cmpP, Int.ofNat_eq_natCast, not_true_eq_false, ne_eq] at h <;> (try (exfalso; omega))) | fail)
    rfl

theorem sameIns_ok {x : TIns} {e e' : List A} (h : InsR x e) (h' : InsR x e') (hn : x.args.length ≤ 1000000000) : WC E 37 [.agg e, .agg e'] [] fun r _ => r = .v (.bool true) := by
  obtain ⟨op, dst, a, b, var, num, args⟩ := x
  obtain ⟨_, rfl, hA⟩ := h
  obtain ⟨_, rfl, hA'⟩ := h'
  have hc := sameInts14_ok hA hA' hn
  obtain ⟨na, es, n, rfl, h1, h2, h3, _⟩ := hA
  obtain ⟨nb, es', n', rfl, h1', h2', h3', _⟩ := hA'
  refine WC.enter rfl rfl rfl ?_
  unfold b37
  repeat' (first | refine W.seq ?_ | refine W.easy (n := 200) (k := ?_) | refine W.regS ?_ | refine WS.pre (n := 200) (k := ?_) | (refine WS.guard (h := ?_); change WS _ _ _ _) | (refine WS.cmp (k1 := fun h => ?_) (k2 := fun h => ?_) <;> simp only [cmpP, Int.ofNat_eq_natCast, not_true_eq_false, ne_eq] at h <;> (try (exfalso; omega))) | fail)
  refine WS.call (hc := (hc)) (k := ?_)
  rintro _ _ rfl
  refine ⟨_, _, _, by cbv; first | done | fail, by cbv; first | done | fail, ?_⟩
  repeat' (first | refine W.ret ?_ | refine Ret.ret (k := ?_) | refine WS.done ?_ | refine WS.pre (n := 200) (k := ?_) | refine WS.consN (n := 60) (k := ?_) | fail)
  rfl

theorem sameVars_ok {l : List TVar} {a b : A} (ha : SlA 6 VarR l a) (hb : SlA 6 VarR l b) (hn : l.length ≤ 1000000000 ∧ ∀ v, v ∈ l → v.fields.length ≤ 1000000000) : WC E 32 [a, b] [] fun r _ => r = .v (.bool true) := by
  obtain ⟨na, es, n, rfl, h1, h2, h3, _⟩ := ha
  obtain ⟨nb, es', n', rfl, h1', h2', h3', _⟩ := hb
  obtain rfl : n' = n := by omega
  refine WC.enter rfl rfl rfl ?_
  unfold b32
  repeat' (first | refine W.seq ?_ | refine W.easy (n := 200) (k := ?_) | refine W.block ?_ | refine W.skip ?_ | (refine W.condL (h := ?_); change W _ _ _ _) | refine W.regS ?_ | refine WS.done ?_ | refine WS.pre (n := 200) (k := ?_) | refine WS.len (h := ?_) | (refine WS.cmp (k1 := fun h => ?_) (k2 := fun h => ?_) <;> simp only [cmpP, Int.ofNat_eq_natCast, not_true_eq_false, ne_eq] at h <;> (try (exfalso; omega))) | fail)
  refine W.forS n' (fun k (_ : Unit) σ => sn 4 k σ) (fun _ _ => True) 0 (Nat.zero_le _) ?_ ?_
  · exact ⟨(), by cbv, trivial⟩
  rintro k _ hk _
  refine W.norm (k := ?_)
  unfold l32_0
  by_cases hkn : k < n'
  · have hkl : k < l.length := by omega
    obtain ⟨ek, hek, hV⟩ := h3.at k hkl
    obtain ⟨ek', hek', hV'⟩ := h3'.at k hkl
    have hfl := hn.2 _ (List.getElem_mem hkl)
    generalize l[k] = v at *
    obtain ⟨name, ⟨tk, tn, tname⟩, words, fields⟩ := v
    obtain ⟨_, rfl, hF⟩ := hV
    obtain ⟨_, rfl, hF'⟩ := hV'
    have hc := sameTexts_ok hF hF' hfl
    obtain ⟨nf, fs, nfl, rfl, hf1, hf2, hf3, _⟩ := hF
    obtain ⟨nf', fs', nfl', rfl, hf1', hf2', hf3', _⟩ := hF'
    repeat' (first | refine W.seq ?_ | refine W.block ?_ | refine W.skip ?_ | (refine W.condL (h := ?_); change W _ _ _ _) | refine W.regS ?_ | refine WS.done ?_ | refine WS.pre (n := 200) (k := ?_) | refine WS.len (h := ?_) | (refine WS.cmp (k1 := fun h => ?_) (k2 := fun h => ?_) <;> simp only [cmpP, Int.ofNat_eq_natCast, not_true_eq_false, ne_eq] at h <;> (try (exfalso; omega))) | refine W.beginD (h := ?_) | refine WD.pre (n := 200) (ha := rfl) (k := ?_) | (refine WD.guard (h := ?_); change WD _ _ _ _ _ _ _ _) | refine WD.iaddr (h := ?_) | (refine WD.cmp (k1 := fun h => ?_) (k2 := fun h => ?_) <;> simp only [cmpP, Int.ofNat_eq_natCast, not_true_eq_false, ne_eq] at h <;> (try (exfalso; omega))) | refine WD.strNe (k := ?_) | refine WD.eqSame (k := ?_) | fail)
    refine WD.call (hc := (hc)) (k := ?_)
    rintro _ _ rfl
    refine ⟨_, _, _, by cbv; first | done | fail, by cbv; first | done | fail, ?_⟩
    repeat' (first | refine W.skip ?_ | (refine W.condL (h := ?_); change W _ _ _ _) | refine W.regS ?_ | refine WS.done ?_ | refine WS.pre (n := 200) (k := ?_) | refine WS.inc (h := ?_) | refine WS.consN (n := 60) (k := ?_) | (refine WD.done ⟨_, by cbv; first | done | fail, ?_⟩; dsimp only) | refine WD.pre (n := 200) (ha := rfl) (k := ?_) | fail)
    exact ⟨by omega, (), by cbv, trivial⟩
  ·
    repeat' (first | refine W.seq ?_ | refine W.easy (n := 200) (k := ?_) | refine W.ret ?_ | refine W.exit ?_ | refine Ret.ret (k := ?_) | (refine W.condL (h := ?_); change W _ _ _ _) | refine W.regS ?_ | refine WS.done ?_ | refine WS.pre (n := 200) (k := ?_) | refine WS.len (h := ?_) | (refine WS.cmp (k1 := fun h => ?_) (k2 := fun h => ?_) <;> simp only [cmpP, Int.ofNat_eq_natCast, not_true_eq_false, ne_eq] at h <;> (try (exfalso; omega))) | fail)
    rfl

theorem samePoints_ok {l : List TPoint} {a b : A} (ha : SlA 3 PointR l a) (hb : SlA 3 PointR l b) (hn : l.length ≤ 1000000000 ∧ ∀ v, v ∈ l → v.scope.length ≤ 1000000000) : WC E 30 [a, b] [] fun r _ => r = .v (.bool true) := by
  obtain ⟨na, es, n, rfl, h1, h2, h3, _⟩ := ha
  obtain ⟨nb, es', n', rfl, h1', h2', h3', _⟩ := hb
  obtain rfl : n' = n := by omega
  refine WC.enter rfl rfl rfl ?_
  unfold b30
  repeat' (first | refine W.seq ?_ | refine W.easy (n := 200) (k := ?_) | refine W.block ?_ | refine W.skip ?_ | (refine W.condL (h := ?_); change W _ _ _ _) | refine W.regS ?_ | refine WS.done ?_ | refine WS.pre (n := 200) (k := ?_) | refine WS.len (h := ?_) | (refine WS.cmp (k1 := fun h => ?_) (k2 := fun h => ?_) <;> simp only [cmpP, Int.ofNat_eq_natCast, not_true_eq_false, ne_eq] at h <;> (try (exfalso; omega))) | fail)
  refine W.forS n' (fun k (_ : Unit) σ => sn 4 k σ) (fun _ _ => True) 0 (Nat.zero_le _) ?_ ?_
  · exact ⟨(), by cbv, trivial⟩
  rintro k _ hk _
  refine W.norm (k := ?_)
  unfold l30_0
  by_cases hkn : k < n'
  · have hkl : k < l.length := by omega
    obtain ⟨ek, hek, hV⟩ := h3.at k hkl
    obtain ⟨ek', hek', hV'⟩ := h3'.at k hkl
    have hfl := hn.2 _ (List.getElem_mem hkl)
    generalize l[k] = v at *
    obtain ⟨func, line, scope⟩ := v
    obtain ⟨_, rfl, hF⟩ := hV
    obtain ⟨_, rfl, hF'⟩ := hV'
    have hc := sameInts13_ok hF hF' hfl
    obtain ⟨nf, fs, nfl, rfl, hf1, hf2, hf3, _⟩ := hF
    obtain ⟨nf', fs', nfl', rfl, hf1', hf2', hf3', _⟩ := hF'
    repeat' (first | refine W.seq ?_ | refine W.block ?_ | refine W.skip ?_ | (refine W.condL (h := ?_); change W _ _ _ _) | refine W.regS ?_ | refine WS.done ?_ | refine WS.pre (n := 200) (k := ?_) | refine WS.len (h := ?_) | (refine WS.cmp (k1 := fun h => ?_) (k2 := fun h => ?_) <;> simp only [cmpP, Int.ofNat_eq_natCast, not_true_eq_false, ne_eq] at h <;> (try (exfalso; omega))) | refine W.beginD (h := ?_) | refine WD.pre (n := 200) (ha := rfl) (k := ?_) | (refine WD.guard (h := ?_); change WD _ _ _ _ _ _ _ _) | refine WD.iaddr (h := ?_) | (refine WD.cmp (k1 := fun h => ?_) (k2 := fun h => ?_) <;> simp only [cmpP, Int.ofNat_eq_natCast, not_true_eq_false, ne_eq] at h <;> (try (exfalso; omega))) | fail)
    refine WD.call (hc := (hc)) (k := ?_)
    rintro _ _ rfl
    refine ⟨_, _, _, by cbv; first | done | fail, by cbv; first | done | fail, ?_⟩
    repeat' (first | refine W.skip ?_ | (refine W.condL (h := ?_); change W _ _ _ _) | refine W.regS ?_ | refine WS.done ?_ | refine WS.pre (n := 200) (k := ?_) | refine WS.inc (h := ?_) | refine WS.consN (n := 60) (k := ?_) | (refine WD.done ⟨_, by cbv; first | done | fail, ?_⟩; dsimp only) | refine WD.pre (n := 200) (ha := rfl) (k := ?_) | fail)
    exact ⟨by omega, (), by cbv, trivial⟩
  ·
    repeat' (first | refine W.seq ?_ | refine W.easy (n := 200) (k := ?_) | refine W.ret ?_ | refine W.exit ?_ | refine Ret.ret (k := ?_) | (refine W.condL (h := ?_); change W _ _ _ _) | refine W.regS ?_ | refine WS.done ?_ | refine WS.pre (n := 200) (k := ?_) | refine WS.len (h := ?_) | (refine WS.cmp (k1 := fun h => ?_) (k2 := fun h => ?_) <;> simp only [cmpP, Int.ofNat_eq_natCast, not_true_eq_false, ne_eq] at h <;> (try (exfalso; omega))) | fail)
    rfl

/-- So many cells there may be. -/
structure SameSmall (f : TFunc) : Prop where
  v : f.vars.length ≤ 1000000000 ∧ ∀ v, v ∈ f.vars → v.fields.length ≤ 1000000000
  b : f.blocks.length ≤ 1000000000
  i : ∀ b, b ∈ f.blocks → b.ins.length ≤ 1000000000
  a : ∀ b, b ∈ f.blocks → ∀ x, x ∈ b.ins → x.args.length ≤ 1000000000

theorem sameFunc_ok {f : TFunc} {e e' : List A} (h : FuncR f e) (h' : FuncR f e') (hs : SameSmall f) : WC E 31 [.agg e, .agg e'] [] fun r _ => r = .v (.bool true) := by
  obtain ⟨name, params, result, vars, blocks, size⟩ := f
  obtain ⟨_, _, rfl, hV, ⟨nb, bs, nbl, rfl, hbl, h4, hb, _⟩⟩ := h
  obtain ⟨_, _, rfl, hV', ⟨nb', bs', nbl', rfl, hbl', h4', hb', _⟩⟩ := h'
  have hc := sameVars_ok hV hV' hs.v
  obtain ⟨nv, vs, nvl, rfl, hvl, h3, hv, _⟩ := hV
  obtain ⟨nv', vs', nvl', rfl, hvl', h3', hv', _⟩ := hV'
  obtain rfl : nbl' = nbl := by omega
  have hsb := hs.b
  simp only at h4 hb hb' hsb
  refine WC.enter rfl rfl rfl ?_
  unfold b31
  cases result
  all_goals
    repeat' (first | refine W.seq ?_ | refine W.easy (n := 200) (k := ?_) | refine W.regS ?_ | refine WS.pre (n := 200) (k := ?_) | (refine WS.guard (h := ?_); change WS _ _ _ _) | (refine WS.cmp (k1 := fun h => ?_) (k2 := fun h => ?_) <;> simp only [cmpP, Int.ofNat_eq_natCast, not_true_eq_false, ne_eq] at h <;> (try (exfalso; omega))) | refine WS.strNe (k := ?_) | refine WS.consN (n := 60) (k := ?_) | fail)
    refine WS.call (hc := (hc)) (k := ?_)
    rintro _ _ rfl
    refine ⟨_, _, _, by cbv; first | done | fail, by cbv; first | done | fail, ?_⟩
    repeat' (first | refine W.seq ?_ | refine W.easy (n := 200) (k := ?_) | refine W.block ?_ | refine W.skip ?_ | (refine W.condL (h := ?_); change W _ _ _ _) | refine WS.done ?_ | refine WS.pre (n := 200) (k := ?_) | (refine WS.guard (h := ?_); change WS _ _ _ _) | refine WS.len (h := ?_) | (refine WS.cmp (k1 := fun h => ?_) (k2 := fun h => ?_) <;> simp only [cmpP, Int.ofNat_eq_natCast, not_true_eq_false, ne_eq] at h <;> (try (exfalso; omega))) | fail)
  all_goals
   refine W.forA nbl' (fun k (_ : Unit) σ => sn 6 k σ) (fun _ _ => True) 0 (Nat.zero_le _) ?_ ?_
   · exact ⟨(), by cbv, trivial⟩
   rintro QA kA k _ hk _
   refine W.norm (k := ?_)
   unfold l31_1
   by_cases hkn : k < nbl'
   · have hkl : k < blocks.length := by omega
     obtain ⟨ek, hek, hB⟩ := hb.at k hkl
     obtain ⟨ek', hek', hB'⟩ := hb'.at k hkl
     have hil := hs.i _ (List.getElem_mem hkl)
     have hal := hs.a _ (List.getElem_mem hkl)
     generalize blocks[k] = b at *
     obtain ⟨ins, ⟨kind, a, to, els⟩⟩ := b
     obtain ⟨_, rfl, ⟨ni, is, nil, rfl, hi1, hi2, hI, _⟩⟩ := hB
     obtain ⟨_, rfl, ⟨ni', is', nil', rfl, hi1', hi2', hI', _⟩⟩ := hB'
     obtain rfl : nil' = nil := by omega
     simp only at hi2 hil hal hI hI'
     repeat' (first | refine W.seq ?_ | refine W.easy (n := 200) (k := ?_) | refine W.block ?_ | refine W.skip ?_ | (refine W.condL (h := ?_); change W _ _ _ _) | refine W.regS ?_ | refine WS.done ?_ | refine WS.pre (n := 200) (k := ?_) | (refine WS.guard (h := ?_); change WS _ _ _ _) | refine WS.len (h := ?_) | refine WS.iaddr (h := ?_) | (refine WS.cmp (k1 := fun h => ?_) (k2 := fun h => ?_) <;> simp only [cmpP, Int.ofNat_eq_natCast, not_true_eq_false, ne_eq] at h <;> (try (exfalso; omega))) | refine WS.eqSame (k := ?_) | refine WS.consN (n := 60) (k := ?_) | fail)
     refine W.forA nil' (fun k (_ : Unit) σ => sn 11 k σ) (fun _ _ => True) 0 (Nat.zero_le _) ?_ ?_
     · exact ⟨(), by cbv, trivial⟩
     rintro QB kB q _ hq _
     refine W.norm (k := ?_)
     unfold l31_0
     by_cases hqn : q < nil'
     · have hql : q < ins.length := by omega
       obtain ⟨eq, heq, hX⟩ := hI.at q hql
       obtain ⟨eq', heq', hX'⟩ := hI'.at q hql
       have ci := sameIns_ok hX hX' (hal _ (List.getElem_mem hql))
       obtain ⟨_, rfl, ⟨na, as, nal, rfl, ha1, ha2, hA, _⟩⟩ := hX
       obtain ⟨_, rfl, ⟨na', as', nal', rfl, ha1', ha2', hA', _⟩⟩ := hX'
       repeat' (first | refine W.seq ?_ | refine W.block ?_ | refine W.skip ?_ | (refine W.condL (h := ?_); change W _ _ _ _) | refine W.regS ?_ | refine WS.done ?_ | refine WS.pre (n := 200) (k := ?_) | refine WS.len (h := ?_) | (refine WS.cmp (k1 := fun h => ?_) (k2 := fun h => ?_) <;> simp only [cmpP, Int.ofNat_eq_natCast, not_true_eq_false, ne_eq] at h <;> (try (exfalso; omega))) | refine W.beginD (h := ?_) | refine WD.pre (n := 200) (ha := rfl) (k := ?_) | refine WD.iaddr (h := ?_) | fail)
       refine WD.call (hc := (ci)) (k := ?_)
       rintro _ _ rfl
       refine ⟨_, _, _, by cbv; first | done | fail, by cbv; first | done | fail, ?_⟩
       repeat' (first | refine W.skip ?_ | (refine W.condL (h := ?_); change W _ _ _ _) | refine W.regS ?_ | refine WS.done ?_ | refine WS.pre (n := 200) (k := ?_) | refine WS.inc (h := ?_) | refine WS.consN (n := 60) (k := ?_) | (refine WD.done ⟨_, by cbv; first | done | fail, ?_⟩; dsimp only) | refine WD.pre (n := 200) (ha := rfl) (k := ?_) | fail)
       exact ⟨by omega, (), by cbv, trivial⟩
     ·
       repeat' (first | refine W.seq ?_ | refine W.exit ?_ | (refine W.condL (h := ?_); change W _ _ _ _) | refine W.regS ?_ | refine WS.done ?_ | refine WS.pre (n := 200) (k := ?_) | refine WS.len (h := ?_) | (refine WS.cmp (k1 := fun h => ?_) (k2 := fun h => ?_) <;> simp only [cmpP, Int.ofNat_eq_natCast, not_true_eq_false, ne_eq] at h <;> (try (exfalso; omega))) | fail)
       refine kB _ _ ?_
       repeat' (first | refine W.regS ?_ | refine WS.done ?_ | refine WS.pre (n := 200) (k := ?_) | refine WS.inc (h := ?_) | refine WS.consN (n := 60) (k := ?_) | fail)
       exact ⟨by omega, (), by cbv, trivial⟩
   ·
     repeat' (first | refine W.seq ?_ | refine W.exit ?_ | (refine W.condL (h := ?_); change W _ _ _ _) | refine W.regS ?_ | refine WS.done ?_ | refine WS.pre (n := 200) (k := ?_) | refine WS.len (h := ?_) | (refine WS.cmp (k1 := fun h => ?_) (k2 := fun h => ?_) <;> simp only [cmpP, Int.ofNat_eq_natCast, not_true_eq_false, ne_eq] at h <;> (try (exfalso; omega))) | fail)
     refine kA _ _ ?_
     repeat' (first | refine W.seq ?_ | refine W.easy (n := 200) (k := ?_) | refine W.ret ?_ | refine Ret.ret (k := ?_) | fail)
     rfl

theorem same_ok {u : TUnit} {e e' : List A} (h : UnitR u e) (h' : UnitR u e') (hs : ∀ f, f ∈ u.funcs → SameSmall f) (hn : u.funcs.length ≤ 1000000000) (hp : u.points.length ≤ 1000000000 ∧ ∀ v, v ∈ u.points → v.scope.length ≤ 1000000000) : WC E 13 [.agg e, .agg e'] [] fun r _ => r = .v (.bool true) := by
  obtain ⟨funcs, main, points⟩ := u
  obtain ⟨_, _, rfl, ⟨nf, fs, n, rfl, hfl, h1, hf, _⟩, hP⟩ := h
  obtain ⟨_, _, rfl, ⟨nf', fs', n', rfl, hfl', h1', hf', _⟩, hP'⟩ := h'
  have hc := samePoints_ok hP hP' hp
  obtain ⟨np, ps, m, rfl, hpl, h2, hP, _⟩ := hP
  obtain ⟨np', ps', m', rfl, hpl', h2', hP', _⟩ := hP'
  obtain rfl : n' = n := by omega
  simp only at h1 hf hf' hn hs
  refine WC.enter rfl rfl rfl ?_
  unfold b13
  repeat' (first | refine W.seq ?_ | refine W.easy (n := 200) (k := ?_) | refine W.regS ?_ | refine WS.pre (n := 200) (k := ?_) | (refine WS.guard (h := ?_); change WS _ _ _ _) | refine WS.len (h := ?_) | (refine WS.cmp (k1 := fun h => ?_) (k2 := fun h => ?_) <;> simp only [cmpP, Int.ofNat_eq_natCast, not_true_eq_false, ne_eq] at h <;> (try (exfalso; omega))) | fail)
  refine WS.call (hc := (hc)) (k := ?_)
  rintro _ _ rfl
  refine ⟨_, _, _, by cbv; first | done | fail, by cbv; first | done | fail, ?_⟩
  repeat' (first | refine W.seq ?_ | refine W.easy (n := 200) (k := ?_) | refine W.block ?_ | refine W.skip ?_ | (refine W.condL (h := ?_); change W _ _ _ _) | refine WS.done ?_ | refine WS.pre (n := 200) (k := ?_) | fail)
  refine W.forA n' (fun k (_ : Unit) σ => sn 6 k σ) (fun _ _ => True) 0 (Nat.zero_le _) ?_ ?_
  · exact ⟨(), by cbv, trivial⟩
  rintro QA kA k _ hk _
  refine W.norm (k := ?_)
  unfold l13_0
  by_cases hkn : k < n'
  · have hkl : k < funcs.length := by omega
    obtain ⟨ek, hek, hF⟩ := hf.at k hkl
    obtain ⟨ek', hek', hF'⟩ := hf'.at k hkl
    have hss := hs _ (List.getElem_mem hkl)
    generalize funcs[k] = f at *
    have cf := sameFunc_ok hF hF' hss
    obtain ⟨_, _, rfl, ⟨nv, vs, nvl, rfl, hvl, h3, hv, _⟩, ⟨nb, bs, nbl, rfl, hbl, h4, hb, _⟩⟩ := hF
    obtain ⟨_, _, rfl, ⟨nv', vs', nvl', rfl, hvl', h3', hv', _⟩, ⟨nb', bs', nbl', rfl, hbl', h4', hb', _⟩⟩ := hF'
    repeat' (first | refine W.seq ?_ | refine W.block ?_ | refine W.skip ?_ | (refine W.condL (h := ?_); change W _ _ _ _) | refine W.regS ?_ | refine WS.done ?_ | refine WS.pre (n := 200) (k := ?_) | refine WS.len (h := ?_) | (refine WS.cmp (k1 := fun h => ?_) (k2 := fun h => ?_) <;> simp only [cmpP, Int.ofNat_eq_natCast, not_true_eq_false, ne_eq] at h <;> (try (exfalso; omega))) | refine W.beginD (h := ?_) | refine WD.pre (n := 200) (ha := rfl) (k := ?_) | refine WD.iaddr (h := ?_) | fail)
    refine WD.call (hc := (cf)) (k := ?_)
    rintro _ _ rfl
    refine ⟨_, _, _, by cbv; first | done | fail, by cbv; first | done | fail, ?_⟩
    repeat' (first | refine W.skip ?_ | (refine W.condL (h := ?_); change W _ _ _ _) | refine W.regS ?_ | refine WS.done ?_ | refine WS.pre (n := 200) (k := ?_) | refine WS.inc (h := ?_) | refine WS.consN (n := 60) (k := ?_) | (refine WD.done ⟨_, by cbv; first | done | fail, ?_⟩; dsimp only) | refine WD.pre (n := 200) (ha := rfl) (k := ?_) | fail)
    exact ⟨by omega, (), by cbv, trivial⟩
  ·
    repeat' (first | refine W.seq ?_ | refine W.exit ?_ | (refine W.condL (h := ?_); change W _ _ _ _) | refine W.regS ?_ | refine WS.done ?_ | refine WS.pre (n := 200) (k := ?_) | refine WS.len (h := ?_) | (refine WS.cmp (k1 := fun h => ?_) (k2 := fun h => ?_) <;> simp only [cmpP, Int.ofNat_eq_natCast, not_true_eq_false, ne_eq] at h <;> (try (exfalso; omega))) | fail)
    refine kA _ _ ?_
    repeat' (first | refine W.seq ?_ | refine W.easy (n := 200) (k := ?_) | refine W.ret ?_ | refine Ret.ret (k := ?_) | fail)
    rfl
end Go.Ab.Ytkmmpbmmmbebgaa
