/- What is needed, as the statement tells it: the whole walk. -/
import Derived.Test.YtkmmpbmmmbebgaaNeedRef2c
set_option linter.all false
namespace Go.Ab.Ytkmmpbmmmbebgaa
set_option maxRecDepth 100000
set_option maxHeartbeats 8000000
theorem rneed_ok {f : TFunc} {e : List A} (h : FuncR f e) (hs : FuncSmall f) {n : Nat} (hd : NeedIn f n) : WC E 17 [.agg e] [] fun r _ => ∃ o es, (r = .own 1 es \/ r = .imm false 1 es) /\ RowR BRow o es /\ o.length = n /\ ∀ j : Nat, o[j]? = some true ↔ RefNeed f j := by
 have hstart := LoopI.start hd
 have hskip := fun {out : List Bool} {row : List Int} {i j : Nat} (h : LoopI f n out row i) => h.skip (j := j)
 have hmark := fun {out : List Bool} {row : List Int} {i j : Nat} (h : LoopI f n out row i) => h.marks (j := j) hd
 have htold := fun {out : List Bool} {row : List Int} {i : Nat} (h : LoopI f n out row i) => h.told
 have hrl := row_len f
 have hsl := succ_len f
 have hw := hd.w
 have hfew := hd.few
 have hmul : n * funcW f <= 2000 * 1200000 := Nat.mul_le_mul hfew hw
 have hsz := hd.size
 obtain ⟨name, params, result, vars, blocks, size⟩ := f
 simp only at hsz
 subst hsz
 obtain ⟨_, _, rfl, ⟨nv, vs, nvl, rfl, hvl, h3, hv, _⟩, ⟨nb, bs, nbl, rfl, hbl, h4, hb, _⟩⟩ := h
 have hsb := hs.b
 simp only at h3 h4 hv hb hsb hrl
 have hbd : ∀ (out : List Bool) (row : List Int) (i : Nat), LoopI ⟨name, params, result, vars, blocks, (n : Int)⟩ n out row i -> row.length <= 3000000000 := fun out row i h => by
  have h1 := h.cnt
  have h2 := hmul
  have h3 := hw
  simp only at h1
  generalize funcW ⟨name, params, result, vars, blocks, (n : Int)⟩ = W' at *
  generalize n * W' = nW at *
  generalize out.count false * W' = cW at *
  omega
 refine WC.enter rfl rfl rfl ?_
 unfold b17 ki mt mw ft ll ov oo
 repeat' (first | refine W.seq ?_ | refine W.easy (n := 200) (k := ?_) | refine W.block ?_ | refine W.regS ?_ | refine WS.done ?_ | refine WS.pre (n := 200) (k := ?_) | refine WS.mk' (k := fun r hr => ?_) | refine WS.consN (n := 60) (k := ?_) | fail)
 have hr0 : RowR BRow (List.replicate n false) r := by subst hr; exact RowR.replicate (R := BRow) (x := false) rfl n
 refine W.forA nbl (fun i (x : A) σ => sn 3 i (sv 7 x σ)) (fun i x => GrowR 1 IntR ((blocks.take i).flatMap rowB) x) 0 (Nat.zero_le _) ?_ ?_
 ·exact ⟨_, by cbv, .inl ⟨rfl, rfl⟩⟩
 rintro QA kA i x hi hP
 by_cases hin : i < nbl
 ·as_aux_lemma =>
   have hib : i < blocks.length := by omega
   obtain ⟨eb, heb, hRb⟩ := hb.at i hib
   have hbi : blocks[i]? = some blocks[i] := List.getElem?_eq_getElem hib
   have hil := hs.i _ (List.getElem_mem hib)
   have hal := hs.a _ (List.getElem_mem hib)
   have hbound := flatMap_le_take (g := rowB) (l := blocks) (i + 1)
   have hnext := flatMap_take (g := rowB) hbi
   rw [hnext, List.length_append] at hbound
   generalize blocks[i] = b at hRb hbi hil hal hnext hbound
   generalize (blocks.take i).flatMap rowB = prev at *
   obtain ⟨ins, ⟨kind, a, to, els⟩⟩ := b
   obtain ⟨_, rfl, ⟨ni, is, nil, rfl, hil2, h5, hI, _⟩⟩ := hRb
   simp only at hil hal h5 hI
   have hrb : rowB ⟨ins, ⟨kind, a, to, els⟩⟩ = rowT ⟨kind, a, to, els⟩ ++ ins.flatMap rowI := rfl
   rw [hrb, List.length_append] at hbound
   rw [hrb] at hnext
   have hinner : ∀ x, GrowR 1 IntR (prev ++ rowT ⟨kind, a, to, els⟩ ++ ins.flatMap rowI) x -> GrowR 1 IntR ((blocks.take (i + 1)).flatMap rowB) x := fun x h => by rw [hnext, <- List.append_assoc]; exact h
   have hT0 : ¬ (kind ≠ 1 /\ 0 <= a) -> rowT ⟨kind, a, to, els⟩ = [] := fun h => if_neg h
   have hT1 : kind ≠ 1 /\ 0 <= a -> rowT ⟨kind, a, to, els⟩ = [a] := fun h => if_pos h
   generalize rowT ⟨kind, a, to, els⟩ = tl at *
   rcases hP with ⟨rfl, hy⟩ | ⟨ry, ny, rfl, hyl, hyn, hyR⟩
   all_goals
    by_cases hta : kind ≠ 1 /\ 0 <= a
    case' pos => have htl := hT1 hta
    case' neg => have htl := hT0 hta
    all_goals
     rw [htl] at hbound
     (try simp only [List.length_nil, List.length_cons] at hbound)
     refine W.norm (k := ?_)
     unfold l17_4 ki kb vi mt mw fa ft ll lg iz og ov oo
     repeat' (first | refine W.seq ?_ | refine W.easy (n := 200) (k := ?_) | refine W.block ?_ | refine W.skip ?_ | (refine W.condL (h := ?_); change W _ _ _ _) | refine W.regS ?_ | refine WS.done ?_ | refine WS.setApp (h := fun r hr => ?_) | refine WS.pre (n := 200) (k := ?_) | (refine WS.guard (h := ?_); change WS _ _ _ _) | refine WS.len (h := ?_) | refine WS.iaddr (h := ?_) | (refine WS.cmp (k1 := fun h => ?_) (k2 := fun h => ?_) <;> simp only [cmpP, oC, nTr, ne_eq] at h <;> (try (exfalso; omega))) | refine WS.app (h := ?_) | refine WS.consN (n := 60) (k := ?_) | fail)
   all_goals try
    (exfalso; simp only [ne_eq] at hta; omega)
   all_goals
    refine rneed_inner (pv := prev ++ tl) heb hil2 h5 hI hal ?_ (by omega) ?_ ?_
    ·simp only [List.length_append, htl, List.length_cons, List.length_nil]
     omega
    ·first
      | (rw [htl, List.append_nil]; first | exact .inl ⟨rfl, hy⟩ | exact .inr ⟨ry, ny, rfl, hyl, hyn, hyR⟩)
      | (rw [htl]; first | exact growR_one (R := IntR) (x := a) rfl hy | exact growR_snoc (R := IntR) (x := a) rfl hyR (by assumption))
      | trace_state
    ·intro y hy'
     have hfin := hinner y hy'
     rcases hy' with ⟨rfl, hq⟩ | ⟨rq, nq, rfl, hql, hqn, hqR⟩
     all_goals
      refine W.norm (k := ?_)
      repeat' (first | refine W.regS ?_ | refine WS.done ?_ | refine WS.pre (n := 200) (k := ?_) | refine WS.inc (h := ?_) | refine WS.consN (n := 60) (k := ?_) | fail)
     all_goals exact ⟨by omega, _, by cbv, hfin⟩
 ·have hk' : blocks.take i = blocks := List.take_of_length_le (by omega)
  obtain rfl : i = nbl := by omega
  rw [hk'] at hP
  rcases hP with ⟨rfl, hq⟩ | ⟨rq, nq, rfl, hql, hqn, hqR⟩
  all_goals
   refine W.norm (k := ?_)
   unfold l17_4 ki kb vi mt mw fa ft ll lg iz og ov oo
   repeat' (first | refine W.seq ?_ | refine W.exit ?_ | (refine W.condL (h := ?_); change W _ _ _ _) | refine W.regS ?_ | refine WS.done ?_ | refine WS.pre (n := 200) (k := ?_) | refine WS.len (h := ?_) | (refine WS.cmp (k1 := fun h => ?_) (k2 := fun h => ?_) <;> simp only [cmpP, oC, nTr, ne_eq] at h <;> (try (exfalso; omega))) | fail)
   refine kA _ _ ?_
   refine W.norm (k := ?_)
   repeat' (first | refine W.seq ?_ | refine W.easy (n := 200) (k := ?_) | refine W.block ?_ | fail)
   refine W.forA (blocks.length + 2 * funcW ⟨name, params, result, vars, blocks, n⟩ + n * funcW ⟨name, params, result, vars, blocks, n⟩) (fun k (x : A × A) σ => sn 13 k (sv 7 x.1 (sv 15 x.2 σ))) (fun k x => ∃ out row, LoopI ⟨name, params, result, vars, blocks, n⟩ n out row k /\ GrowR 1 IntR row x.1 /\ ∃ r, x.2 = .own 1 r /\ RowR BRow out r) 0 (Nat.zero_le _) ?_ ?_
   ·refine ⟨(_, _), by cbv, _, _, hstart, ?_, _, rfl, hr0⟩
    first | exact .inl ⟨rfl, hq⟩ | exact .inr ⟨rq, nq, rfl, hql, hqn, hqR⟩
   rintro QC kC k ⟨x, y⟩ hk ⟨out, row, hL, hG, ry, he, hyR⟩
   simp only at he hG
   subst he
   have hcnt := hL.cnt
   simp only at hcnt
   have hol := hL.len
   have hryl := hyR.len
   have hle := hL.le
   have hmul' := hmul
   have hw' := hw
   generalize funcW ⟨name, params, result, vars, blocks, (n : Int)⟩ = W' at *
   have hcw := Nat.zero_le (out.count false * W')
   generalize out.count false * W' = cW at *
   generalize n * W' = nW at *
   by_cases hkr : k < row.length
   ·rcases hG with ⟨rfl, hq'⟩ | ⟨rg, ng, rfl, hgl, hgn, hgR⟩
    ·exfalso
     rw [hq'] at hkr
     exact absurd hkr (Nat.not_lt_zero _)
    obtain ⟨ev, hev, hvR⟩ := hgR.at k hkr
    have hkv : row[k]? = some row[k] := List.getElem?_eq_getElem hkr
    have hvr := hL.rng _ (List.getElem_mem hkr)
    generalize row[k] = v at *
    obtain ⟨j, rfl⟩ : ∃ j : Nat, v = (j : Int) := ⟨v.toNat, by omega⟩
    obtain rfl : ev = [.v (.int .i64 j)] := hvR
    have hjo : j < out.length := by omega
    obtain ⟨eo, heo, hoR⟩ := hyR.at j hjo
    have hjv : out[j]? = some out[j] := List.getElem?_eq_getElem hjo
    generalize out[j] = o at *
    obtain rfl : eo = [.v (.bool o)] := hoR
    have hrgl : rg.length <= 3000000000 := by omega
    have hkg : k < rg.length := by omega
    have hjy : j < ry.length := by omega
    cases o
    ·as_aux_lemma =>
      have hM := hL.marks hd hkv hjv
      have hcM := hbd _ _ _ hM
      rw [List.length_append] at hcM
      have hyR' := hyR.set (R := BRow) j (x := true) (e := [.v (.bool true)]) rfl
      refine W.norm (k := ?_)
      unfold l17_2 ki kb mt mw ll iz ov oo
      repeat' (first | refine W.seq ?_ | refine W.easy (n := 200) (k := ?_) | refine W.block ?_ | refine W.skip ?_ | (refine W.condL (h := ?_); change W _ _ _ _) | refine W.regS ?_ | refine WS.done ?_ | refine WS.loadP (k := ?_) | refine WS.stoP (k := fun q hq => ?_) | refine WS.pre (n := 200) (k := ?_) | refine WS.lenO (k := ?_) | refine WS.iaddrO (k := ?_) | (refine WS.cmp (k1 := fun h => ?_) (k2 := fun h => ?_) <;> simp only [cmpP, oC, nTr, ne_eq] at h <;> (try (exfalso; omega))) | fail)
      refine rneed_blocks (pv := row) hb hbl h4 hs.i hs.a hsb ?_ hkv ⟨_, rfl, hgR⟩ ?_
      ·exact hcM
      intro r' hr'
      refine W.norm (k := ?_)
      repeat' (first | refine W.regS ?_ | refine WS.done ?_ | refine WS.pre (n := 200) (k := ?_) | refine WS.inc (h := ?_) | refine WS.consN (n := 60) (k := ?_) | fail)
      subst hq
      exact ⟨by omega, (_, _), by cbv, _, _, hM, .inr ⟨_, _, rfl, rfl, hr'.len, hr'⟩, _, rfl, hyR'⟩
    ·as_aux_lemma =>
      refine W.norm (k := ?_)
      unfold l17_2 ki kb mt mw ll iz ov oo
      repeat' (first | refine W.seq ?_ | refine W.block ?_ | refine W.skip ?_ | refine W.exit ?_ | (refine W.condL (h := ?_); change W _ _ _ _) | refine W.regS ?_ | refine WS.done ?_ | refine WS.loadP (k := ?_) | refine WS.pre (n := 200) (k := ?_) | refine WS.lenO (k := ?_) | refine WS.iaddrO (k := ?_) | (refine WS.cmp (k1 := fun h => ?_) (k2 := fun h => ?_) <;> simp only [cmpP, oC, nTr, ne_eq] at h <;> (try (exfalso; omega))) | refine WS.inc (h := ?_) | refine WS.consN (n := 60) (k := ?_) | fail)
      exact ⟨by omega, (_, _), by cbv, _, _, hL.skip hkv hjv, .inr ⟨rg, ng, rfl, hgl, hgn, hgR⟩, _, rfl, hyR⟩
   ·as_aux_lemma =>
     have hke : k = row.length := by omega
     have hT := hL.told hke
     rcases hG with ⟨rfl, hq'⟩ | ⟨rg, ng, rfl, hgl, hgn, hgR⟩
     ·obtain rfl : k = 0 := by rw [hke, hq']; rfl
      refine W.norm (k := ?_)
      unfold l17_2 ki kb mt mw ll iz ov oo
      repeat' (first | refine W.seq ?_ | refine W.exit ?_ | (refine W.condL (h := ?_); change W _ _ _ _) | refine W.regS ?_ | refine WS.done ?_ | refine WS.pre (n := 200) (k := ?_) | (refine WS.cmp (k1 := fun h => ?_) (k2 := fun h => ?_) <;> simp only [cmpP, oC, nTr, ne_eq] at h <;> (try (exfalso; omega))) | refine WS.consN (n := 60) (k := ?_) | fail)
      refine kC _ _ ?_
      refine W.norm (k := ?_)
      repeat' (first | refine W.seq ?_ | refine W.easy (n := 200) (k := ?_) | refine W.ret ?_ | refine W.frz (k := ?_) | refine Ret.ret (k := ?_) | fail)
      exact ⟨out, ry, .inr rfl, hyR, hol, hT⟩
     ·have hkg : k = rg.length := by omega
      clear hke
      refine W.norm (k := ?_)
      unfold l17_2 ki kb mt mw ll iz ov oo
      repeat' (first | refine W.seq ?_ | refine W.exit ?_ | (refine W.condL (h := ?_); change W _ _ _ _) | refine W.regS ?_ | refine WS.done ?_ | refine WS.pre (n := 200) (k := ?_) | refine WS.lenO (k := ?_) | (refine WS.cmp (k1 := fun h => ?_) (k2 := fun h => ?_) <;> simp only [cmpP, oC, nTr, ne_eq] at h <;> (try (exfalso; omega))) | fail)
      all_goals try (exfalso; omega)
      refine kC _ _ ?_
      refine W.norm (k := ?_)
      repeat' (first | refine W.seq ?_ | refine W.easy (n := 200) (k := ?_) | refine W.ret ?_ | refine W.frz (k := ?_) | refine Ret.ret (k := ?_) | fail)
      exact ⟨out, ry, .inr rfl, hyR, hol, hT⟩
end Go.Ab.Ytkmmpbmmmbebgaa
