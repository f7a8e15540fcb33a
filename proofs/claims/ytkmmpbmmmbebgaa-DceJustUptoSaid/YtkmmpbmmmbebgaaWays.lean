/- The ways into each block. -/
import Derived.Test.YtkmmpbmmmbebgaaBasic
set_option linter.all false
namespace Go.Ab.Ytkmmpbmmmbebgaa
set_option maxRecDepth 100000
set_option maxHeartbeats 4000000
/-- An element that is a row of numbers, or nil. -/
def CellR (l : List Int) (e : List A) : Prop := (e = [.nil] /\ l = []) \/ ∃ es, e = [.own 1 es] /\ RowR IntR l es
/-- Block i goes to each of l. -/
def addWays (i : Int) : List Int -> List (List Int) -> List (List Int)
 | [], w => w
 | d :: l, w => addWays i l (w.set d.toNat (w.getD d.toNat [] ++ [i]))
def waysTo : List TBlock -> Nat -> List (List Int) -> List (List Int)
 | [], _, w => w
 | b :: bs, i, w => waysTo bs (i + 1) (addWays i (nextF b.term) w)
def waysF (f : TFunc) : List (List Int) := waysTo f.blocks 0 (List.replicate f.blocks.length [])
/-- All ends go to blocks. -/
def EndsOK (f : TFunc) : Prop := ∀ b, b ∈ f.blocks -> ∀ d, d ∈ nextF b.term -> 0 <= d /\ d < f.blocks.length
theorem addWays_len (i : Int) : ∀ l w, (addWays i l w).length = w.length
 | [], w => rfl
 | d :: l, w => by rw [addWays, addWays_len i l, List.length_set]
theorem addWays_snoc (i : Int) : ∀ l d w, addWays i (l ++ [d]) w = (addWays i l w).set d.toNat ((addWays i l w).getD d.toNat [] ++ [i])
 | [], d, w => rfl
 | c :: l, d, w => by rw [List.cons_append, addWays, addWays_snoc i l d, addWays]
/-- No row is longer than so many. -/
def Short (n : Nat) (w : List (List Int)) : Prop := ∀ l, l ∈ w -> l.length <= n
theorem next_len (t : TTerm) : (nextF t).length <= 2 := by
 unfold nextF
 split
 ·simp
 ·split <;> simp
theorem ways_ok {f : TFunc} {e : List A} (h : FuncR f e) (hn : f.blocks.length <= 100000) (hE : EndsOK f) : WC E 47 [.agg e] [] fun r _ => SlA 1 CellR (waysF f) r := by
 obtain ⟨name, params, result, vars, blocks, size⟩ := f
 obtain ⟨_, _, rfl, ⟨nv, vs, nvl, rfl, hvl, h3, hv, _⟩, ⟨nb, bs, nbl, rfl, hbl, h4, hb, _⟩⟩ := h
 simp only [waysF] at h3 h4 hv hb hn ⊢
 refine WC.enter rfl rfl rfl ?_
 unfold b47 ki mt mw ft ll ov oo
 repeat' (first | refine W.seq ?_ | refine W.easy (n := 200) (k := ?_) | refine W.block ?_ | refine W.regS ?_ | refine WS.done ?_ | refine WS.pre (n := 200) (k := ?_) | refine WS.len (h := ?_) | refine WS.mk' (k := fun r hr => ?_) | refine WS.consN (n := 60) (k := ?_) | fail)
 have hr0 : RowR CellR (List.replicate blocks.length []) r := by
  subst hr
  have e : (Int.ofNat nbl).toNat = blocks.length := h4
  rw [e]
  exact RowR.replicate (.inl ⟨rfl, rfl⟩) _
 refine W.forS nbl (fun i (r : List (List A)) σ => sn 3 i (sv 8 (.own 1 r) σ)) (fun i r => ∃ w, RowR CellR w r /\ w.length = blocks.length /\ (∀ l, l ∈ w -> l.length <= 2 * i) /\ waysTo (blocks.drop i) i w = waysTo blocks 0 (List.replicate blocks.length [])) 0 (Nat.zero_le _) ?_ ?_
 ·exact ⟨_, by cbv, _, hr0, by simp, fun l hl => by rw [(List.mem_replicate.1 hl).2]; simp, rfl⟩
 rintro i r hi ⟨w, hw, hwl, hws, hwt⟩
 refine W.norm (k := ?_)
 unfold l47_1 ki mt mw fa ft ll lg iz ov oo
 by_cases hin : i < nbl
 ·have hib : i < blocks.length := by omega
  obtain ⟨e, he, hR⟩ := hb.at i hib
  have hmem := List.getElem_mem hib
  have hdrop := List.drop_eq_getElem_cons hib
  have hEb := hE _ hmem
  generalize blocks[i] = b at hR hdrop hEb
  obtain ⟨ins, ⟨kind, a, to, els⟩⟩ := b
  obtain ⟨_, rfl, ⟨ni, is, nil, rfl, hil, h5, hI, _⟩⟩ := hR
  simp only at hEb
  rw [hdrop, waysTo] at hwt
  simp only at hwt
  repeat' (first | refine W.seq ?_ | refine W.block ?_ | refine W.skip ?_ | (refine W.condL (h := ?_); change W _ _ _ _) | refine W.regS ?_ | refine WS.done ?_ | refine WS.pre (n := 200) (k := ?_) | refine WS.len (h := ?_) | refine WS.iaddr (h := ?_) | (refine WS.cmp (k1 := fun h => ?_) (k2 := fun h => ?_) <;> simp only [cmpP, oC, nTr, ne_eq] at h <;> (try (exfalso; omega))) | fail)
  refine WS.call (hc := (next_ok ⟨kind, a, to, els⟩)) (k := ?_)
  rintro l _ ⟨nl, ls, m, rfl, hm, hml, hL, _⟩
  have hl2 := next_len ⟨kind, a, to, els⟩
  generalize nextF ⟨kind, a, to, els⟩ = nx at *
  refine ⟨_, _, _, by cbv; first | done | fail, by cbv; first | done | fail, ?_⟩
  repeat' (first | refine W.seq ?_ | refine W.easy (n := 200) (k := ?_) | refine W.block ?_ | refine W.frz (k := ?_) | refine WS.done ?_ | refine WS.consN (n := 60) (k := ?_) | fail)
  refine W.forS m (fun k (r : List (List A)) σ => sn 5 k (sv 8 (.own 1 r) σ)) (fun k r => ∃ w', RowR CellR w' r /\ w'.length = blocks.length /\ w' = addWays i (nx.take k) w /\ (∀ l, l ∈ w' -> l.length <= 2 * i + k)) 0 (Nat.zero_le _) ?_ ?_
  ·exact ⟨_, by cbv, _, hw, hwl, rfl, fun l hl => hws l hl⟩
  rintro k r hk ⟨w', hw', hwl', rfl, hws'⟩
  refine W.norm (k := ?_)
  unfold l47_0 ki vi mt mw ll iz ov oo
  by_cases hkm : k < m
  ·have hkn : k < nx.length := by omega
   obtain ⟨ek, hek, rfl⟩ := hL.at k hkn
   have htk := List.take_succ_eq_append_getElem hkn
   have hd := hEb _ (List.getElem_mem hkn)
   generalize nx[k] = d at *
   obtain ⟨j, rfl, hj⟩ := intOf hd
   have hjw : j < (addWays i (nx.take k) w).length := by omega
   have hrl := hw'.len
   obtain ⟨ej, hej, hC⟩ := hw'.at j hjw
   have hgd : (addWays i (nx.take k) w).getD j [] = (addWays i (nx.take k) w)[j] := by rw [List.getD_eq_getElem?_getD, List.getElem?_eq_getElem hjw]; rfl
   have hlen := hws' _ (List.getElem_mem hjw)
   have hset : ∀ q, RowR IntR ((addWays i (nx.take k) w)[j] ++ [(i : Int)]) q -> ∃ w', RowR CellR w' (r.set j [.own 1 q]) /\ w'.length = blocks.length /\ w' = addWays i (nx.take (k + 1)) w /\ (∀ l, l ∈ w' -> l.length <= 2 * i + (k + 1)) := by
    intro q hq
    refine ⟨_, hw'.set j (.inr ⟨q, rfl, hq⟩), by simp [hwl'], ?_, ?_⟩
    ·rw [htk, addWays_snoc]
     show _ = (addWays i (nx.take k) w).set j ((addWays i (nx.take k) w).getD j [] ++ [(i : Int)])
     rw [hgd]
    ·intro l hl
     rcases List.mem_or_eq_of_mem_set hl with h | rfl
     ·have := hws' l h; omega
     ·simp; omega
   rcases hC with ⟨rfl, hnil⟩ | ⟨old, rfl, hold⟩
   ·
    repeat' (first | refine W.seq ?_ | refine W.block ?_ | refine W.skip ?_ | (refine W.condL (h := ?_); change W _ _ _ _) | refine W.regS ?_ | refine WS.done ?_ | refine WS.pre (n := 200) (k := ?_) | refine WS.len (h := ?_) | (refine WS.cmp (k1 := fun h => ?_) (k2 := fun h => ?_) <;> simp only [cmpP, oC, nTr, ne_eq] at h <;> (try (exfalso; omega))) | refine WS.inc (h := ?_) | refine WS.consN (n := 60) (k := ?_) | refine W.beginD (h := ?_) | (refine WD.done ⟨_, by cbv; first | done | fail, ?_⟩; dsimp only) | refine WD.loadP (h := ?_) | refine WD.stoP (k := fun q hq => ?_) | refine WD.pre (n := 200) (ha := rfl) (k := ?_) | refine WD.iaddrO (h := ?_) | refine WD.iaddr (h := ?_) | refine WD.oneN (n := 60) (k := ?_) | fail)
    exact ⟨by omega, _, by cbv, by rw [<- hq]; exact hset _ (by rw [hnil]; exact intR1 _)⟩
   ·have hol := hold.len
    repeat' (first | refine W.seq ?_ | refine W.block ?_ | refine W.skip ?_ | (refine W.condL (h := ?_); change W _ _ _ _) | refine W.regS ?_ | refine WS.done ?_ | refine WS.pre (n := 200) (k := ?_) | refine WS.len (h := ?_) | (refine WS.cmp (k1 := fun h => ?_) (k2 := fun h => ?_) <;> simp only [cmpP, oC, nTr, ne_eq] at h <;> (try (exfalso; omega))) | refine WS.inc (h := ?_) | refine WS.consN (n := 60) (k := ?_) | refine W.beginD (h := ?_) | (refine WD.done ⟨_, by cbv; first | done | fail, ?_⟩; dsimp only) | refine WD.loadP (h := ?_) | refine WD.stoN (k := fun q hq => ?_) | refine WD.pre (n := 200) (ha := rfl) (k := ?_) | refine WD.iaddrO (h := ?_) | refine WD.iaddr (h := ?_) | refine WD.appN (k := ?_) | fail)
    exact ⟨by omega, _, by cbv, by rw [<- hq]; exact hset _ (hold.append (intR1 _))⟩
  ·
   repeat' (first | refine W.seq ?_ | refine W.exit ?_ | (refine W.condL (h := ?_); change W _ _ _ _) | refine W.regS ?_ | refine WS.done ?_ | refine WS.pre (n := 200) (k := ?_) | refine WS.len (h := ?_) | (refine WS.cmp (k1 := fun h => ?_) (k2 := fun h => ?_) <;> simp only [cmpP, oC, nTr, ne_eq] at h <;> (try (exfalso; omega))) | refine WS.inc (h := ?_) | refine WS.consN (n := 60) (k := ?_) | fail)
   have hkm' : k = m := by omega
   subst hkm'
   rw [List.take_of_length_le (by omega)] at hw' hwl' hws'
   exact ⟨by omega, _, by cbv, _, hw', hwl', fun l hl => by have := hws' l hl; omega, hwt⟩
 ·
  repeat' (first | refine W.seq ?_ | refine W.easy (n := 200) (k := ?_) | refine W.ret ?_ | refine W.exit ?_ | refine W.frz (k := ?_) | refine Ret.ret (k := ?_) | (refine W.condL (h := ?_); change W _ _ _ _) | refine W.regS ?_ | refine WS.done ?_ | refine WS.pre (n := 200) (k := ?_) | refine WS.len (h := ?_) | (refine WS.cmp (k1 := fun h => ?_) (k2 := fun h => ?_) <;> simp only [cmpP, oC, nTr, ne_eq] at h <;> (try (exfalso; omega))) | fail)
  rw [List.drop_of_length_le (by omega), waysTo] at hwt
  rw [<- hwt]
  exact slA_own hw
end Go.Ab.Ytkmmpbmmmbebgaa
