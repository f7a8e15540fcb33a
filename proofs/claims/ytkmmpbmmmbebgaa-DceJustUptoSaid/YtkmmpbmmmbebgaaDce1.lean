/- Dead instructions: what single instructions look at and make. -/
import Derived.Test.YtkmmpbmmmbebgaaCopy
import Derived.Test.YtkmmpbmmmbebgaaM4
set_option linter.all false
namespace Go.Ab.Ytkmmpbmmmbebgaa
set_option maxRecDepth 100000
set_option maxHeartbeats 4000000
def looksF (x : TIns) : List Int :=
 if (1 <= x.op /\ x.op <= 13) \/ x.op = 38 then [x.a, x.b]
 else if x.op = 14 \/ x.op = 15 \/ x.op = 36 \/ x.op = 37 \/ x.op = 40 \/ x.op = 44 then [x.a]
 else if x.op = 42 \/ x.op = 47 then x.args else []
def hasF (x : TIns) : Prop := ¬ (x.op = 4 \/ x.op = 5 \/ x.op = 37 \/ x.op = 42 \/ x.op = 43 \/ x.op = 38 \/ x.op = 40 \/ x.op = 41 \/ x.op = 44 \/ x.op = 45 \/ x.op = 46)
def stayF (x : TIns) : Prop := x.op = 4 \/ x.op = 5 \/ x.op = 37 \/ x.op = 42 \/ x.op = 43
theorem looks_ok {x : TIns} {e : List A} (h : InsR x e) : WC E 56 [.agg e] [] fun r _ => SlA 1 IntR (looksF x) r := by
 obtain ⟨op, dst, a, b, var, num, args⟩ := x
 obtain ⟨_, rfl, ⟨nl, es, n, rfl, hes, hl, hI, hnl⟩⟩ := h
 simp only at hl hI hnl
 have hfl := intR_flat hI
 have hs : SlA 1 IntR args (.imm nl 1 es) := ⟨nl, es, n, rfl, hes, hl, hI, hnl⟩
 refine WC.enter rfl rfl rfl ?_
 unfold b56 kb vi mw ft ll og ov oo
 repeat' (first | refine W.seq ?_ | refine W.easy (n := 200) (k := ?_) | refine W.block ?_ | refine W.skip ?_ | refine W.ret ?_ | refine W.frz (k := ?_) | refine Ret.ret (k := ?_) | (refine W.condL (h := ?_); change W _ _ _ _) | refine W.regS ?_ | refine WS.done ?_ | refine WS.pre (n := 200) (k := ?_) | (refine WS.guard (h := ?_); change WS _ _ _ _) | (refine WS.cmp (k1 := fun h => ?_) (k2 := fun h => ?_) <;> simp only [cmpP, oC, nTr, ne_eq] at h <;> (try (exfalso; omega))) | refine WS.consN (n := 60) (k := ?_) | fail)
 all_goals first
  | (simp [looksF, *, tupA, slA_nil]; done)
  | (simp [looksF, *, tupA]; exact slA_own (intR1 _))
  | (simp [looksF, *, tupA]; exact slA_own (intR2 _ _))
  | (simp [looksF, *, tupA]; exact hs)
theorem has_ok {x : TIns} {e : List A} (h : InsR x e) : WC E 40 [.agg e] [] fun r _ => IsB (hasF x) r := by
 obtain ⟨op, dst, a, b, var, num, args⟩ := x
 obtain ⟨_, rfl, ⟨nl, es, n, rfl, hn, hl, hI, _⟩⟩ := h
 refine WC.enter rfl rfl rfl ?_
 unfold b40 kb mw ft ll ov oo
 repeat' (first | refine W.seq ?_ | refine W.easy (n := 200) (k := ?_) | refine W.block ?_ | refine W.skip ?_ | refine W.ret ?_ | refine Ret.ret (k := ?_) | (refine W.condL (h := ?_); change W _ _ _ _) | refine W.regS ?_ | refine WS.done ?_ | refine WS.pre (n := 200) (k := ?_) | (refine WS.cmp (k1 := fun h => ?_) (k2 := fun h => ?_) <;> simp only [cmpP, oC, nTr, ne_eq] at h <;> (try (exfalso; omega))) | refine WS.consN (n := 60) (k := ?_) | fail)
 all_goals first
  | (refine .inl ⟨rfl, ?_⟩; simp [hasF, *]; done)
  | (refine .inr ⟨rfl, ?_⟩; simp [hasF, *]; done)
theorem stay_ok {x : TIns} {e : List A} (h : InsR x e) : WC E 57 [.agg e] [] fun r _ => IsB (stayF x) r := by
 obtain ⟨op, dst, a, b, var, num, args⟩ := x
 obtain ⟨_, rfl, ⟨nl, es, n, rfl, hn, hl, hI, _⟩⟩ := h
 refine WC.enter rfl rfl rfl ?_
 unfold b57 kb mw ft ov oo
 repeat' (first | refine W.seq ?_ | refine W.easy (n := 200) (k := ?_) | refine W.block ?_ | refine W.skip ?_ | refine W.ret ?_ | refine Ret.ret (k := ?_) | (refine W.condL (h := ?_); change W _ _ _ _) | refine W.regS ?_ | refine WS.done ?_ | (refine WS.cmp (k1 := fun h => ?_) (k2 := fun h => ?_) <;> simp only [cmpP, oC, nTr, ne_eq] at h <;> (try (exfalso; omega))) | refine WS.consN (n := 60) (k := ?_) | fail)
 all_goals first
  | (refine .inl ⟨rfl, ?_⟩; simp [stayF, *]; done)
  | (refine .inr ⟨rfl, ?_⟩; simp [stayF, *]; done)
theorem clone_ok {l : List Int} {a : A} (h : SlA 1 IntR l a) (hn : l.length <= 100000000) : WC E 41 [a] [] fun r _ => GrowR 1 IntR l r := by
 obtain ⟨nl, es, n, rfl, hes, hl, hI, hnl⟩ := h
 have hfl := intR_flat hI
 refine WC.enter rfl rfl rfl ?_
 unfold b41 vi mt mw ov oo
 cases nl
 all_goals
  repeat' (first | refine W.seq ?_ | refine W.easy (n := 200) (k := ?_) | refine W.skip ?_ | refine W.ret ?_ | refine Ret.ret (k := ?_) | (refine W.condL (h := ?_); change W _ _ _ _) | refine W.regS ?_ | refine WS.done ?_ | refine WS.setApp (h := fun r hr => ?_) | refine WS.pre (n := 200) (k := ?_) | refine WS.app (hn := (news_imm (by assumption))) (h := ?_) | refine WS.consN (n := 60) (k := ?_) | fail)
 ·exact .inr ⟨_, _, rfl, rfl, by subst hr; simpa [hes] using hl, by subst hr; simpa using hI⟩
 ·rw [hnl rfl]
  exact .inl ⟨rfl, rfl⟩
/-- What is needed, and what is still to be looked at. -/
def needF : List Int -> List Bool × List Int -> List Bool × List Int
 | [], s => s
 | v :: l, s => needF l (if 0 <= v /\ s.1.getD v.toNat true = false then (s.1.set v.toNat true, s.2 ++ [v]) else s)
theorem needF_snoc (v : Int) : ∀ (l : List Int) (s : List Bool × List Int), needF (l ++ [v]) s = (if 0 <= v /\ (needF l s).1.getD v.toNat true = false then ((needF l s).1.set v.toNat true, (needF l s).2 ++ [v]) else needF l s)
 | [], s => rfl
 | x :: l, s => by rw [List.cons_append, needF, needF_snoc v l, needF]
theorem needF_len : ∀ (l : List Int) (s : List Bool × List Int), (needF l s).1.length = s.1.length
 | [], s => rfl
 | x :: l, s => by
   rw [needF, needF_len l]
   split
   ·simp
   ·rfl
/-- A row of bools, a row of numbers that grows. -/
def NeedR (s : List Bool × List Int) (a b : A) : Prop := (∃ r n, a = .own 1 r /\ r.length = n /\ n = s.1.length /\ RowR BRow s.1 r) /\ GrowR 1 IntR s.2 b
theorem growR_snoc {α : Type} {z : Nat} {R : α -> List A -> Prop} {l : List α} {x : α} {e : List A} (he : R x e) {r r' : List (List A)} (hr : RowR R l r) (hr' : r ++ [[e]].flatten = r') : GrowR z R (l ++ [x]) (.own z r') := by
 subst hr'
 have := rowR_snoc hr he
 exact .inr ⟨_, _, rfl, rfl, this.len, this⟩
theorem need_ok {l : List Int} {a : A} (hl : SlA 1 IntR l a) {s : List Bool × List Int} {x y : A} (hs : NeedR s x y) (hr : ∀ v, v ∈ l -> v < s.1.length) (hb : s.1.length <= 1000000 /\ s.2.length + l.length <= 1000000000) :
  WC E 55 [a, .pt 0 0, .pt 1 0] [.cells [x], .cells [y]] fun r bx => r = .tup [] /\ ∃ x' y', bx = [.cells [x'], .cells [y']] /\ NeedR (needF l s) x' y' := by
 obtain ⟨out, work⟩ := s
 obtain ⟨⟨r0, n, rfl, hrn0, hn, hR0⟩, hy0⟩ := hs
 obtain ⟨nl, es, m, rfl, hes, hlm, hI, hnl⟩ := hl
 simp only at hn hR0 hr hb
 refine WC.enter rfl rfl rfl ?_
 unfold b55 ki ov
 repeat' (first | refine W.seq ?_ | refine W.block ?_ | refine W.frz (k := ?_) | refine W.regS ?_ | refine WS.done ?_ | refine WS.len (h := ?_) | refine WS.consN (n := 60) (k := ?_) | fail)
 refine W.forS m (fun k (c : A × A) σ => sn 3 k (sb 0 0 c.1 (sb 1 0 c.2 σ))) (fun k c => NeedR (needF (l.take k) (out, work)) c.1 c.2 /\ (needF (l.take k) (out, work)).2.length <= work.length + k) 0 (Nat.zero_le _) ?_ ?_
 ·exact ⟨(.own 1 r0, y), by cbv, ⟨⟨r0, n, rfl, hrn0, hn, hR0⟩, hy0⟩, by simp [needF]⟩
 rintro k ⟨x', y'⟩ hk ⟨hN, hw⟩
 simp only at hN
 have hlen := needF_len (l.take k) (out, work)
 simp only at hlen hw
 by_cases hkm : k < m
 ·have hkl : k < l.length := by omega
  obtain ⟨ek, hek, rfl⟩ := hI.at k hkl
  have hky : l[k]? = some l[k] := List.getElem?_eq_getElem hkl
  have hv := hr _ (List.getElem_mem hkl)
  generalize l[k] = v at *
  rw [take_snoc hky, needF_snoc]
  generalize needF (l.take k) (out, work) = s at *
  obtain ⟨o, w⟩ := s
  obtain ⟨⟨r, n', rfl, hrn, hn', hR⟩, hy⟩ := hN
  simp only at hn' hR hlen hy hw ⊢
  by_cases hv0 : 0 <= v
  ·obtain ⟨j, rfl, hj⟩ := intOf (n := out.length) ⟨hv0, hv⟩
   have hjo : j < o.length := by omega
   have hej := bRow_of hR hjo
   have hgd : o.getD j true = o[j] := by rw [List.getD_eq_getElem?_getD, List.getElem?_eq_getElem hjo]; rfl
   have hset : RowR BRow (o.set j true) (r.set j [.v (.bool true)]) := hR.set j rfl
   have hc : (0 <= Int.ofNat j /\ o.getD (Int.ofNat j).toNat true = false) ↔ o[j] = false := by
    rw [show (Int.ofNat j).toNat = j from rfl, hgd]
    exact ⟨fun h => h.2, fun h => ⟨hv0, h⟩⟩
   simp only [hc]
   generalize o[j] = bj at *
   rcases hy with ⟨rfl, hy⟩ | ⟨ry, ny, rfl, hyl, hyn, hyR⟩
   all_goals
    cases bj
   all_goals
    (try simp only [reduceCtorEq, if_false, if_true])
    refine W.norm (k := ?_)
    unfold l55_0 ki kb vi mt mw ll iz og ov oo
    repeat' (first | refine W.seq ?_ | refine W.block ?_ | refine W.skip ?_ | (refine W.condL (h := ?_); change W _ _ _ _) | refine W.regS ?_ | refine WS.done ?_ | refine WS.stoApp (h := fun r hr => ?_) | refine WS.loadP (k := ?_) | refine WS.stoP (k := fun q hq => ?_) | refine WS.pre (n := 200) (k := ?_) | (refine WS.guard (h := ?_); change WS _ _ _ _) | refine WS.iaddrO (k := ?_) | refine WS.iaddr (h := ?_) | (refine WS.cmp (k1 := fun h => ?_) (k2 := fun h => ?_) <;> simp only [cmpP, oC, nTr, ne_eq] at h <;> (try (exfalso; omega))) | refine WS.inc (h := ?_) | refine WS.app (h := ?_) | refine WS.consN (n := 60) (k := ?_) | fail)
   ·exact ⟨by omega, (_, _), by cbv, ⟨⟨q, _, rfl, rfl, by rw [<- hq]; simp [hrn, hn'], by rw [<- hq]; exact hset⟩, .inr ⟨_, _, rfl, rfl, by simp [hy], by simp only [hy]; exact intR1 _⟩⟩, by (try simp only [List.length_append, List.length_cons, List.length_nil]); omega⟩
   ·exact ⟨by omega, (_, _), by cbv, ⟨⟨r, n', rfl, hrn, hn', hR⟩, .inl ⟨rfl, hy⟩⟩, by (try simp only [List.length_append, List.length_cons, List.length_nil]); omega⟩
   ·exact ⟨by omega, (_, _), by cbv, ⟨⟨q, _, rfl, rfl, by rw [<- hq]; simp [hrn, hn'], by rw [<- hq]; exact hset⟩, growR_snoc (R := IntR) (x := Int.ofNat j) rfl hyR hr⟩, by (try simp only [List.length_append, List.length_cons, List.length_nil]); omega⟩
   ·exact ⟨by omega, (_, _), by cbv, ⟨⟨r, n', rfl, hrn, hn', hR⟩, .inr ⟨ry, ny, rfl, hyl, hyn, hyR⟩⟩, by (try simp only [List.length_append, List.length_cons, List.length_nil]); omega⟩
  ·simp only [hv0, false_and, if_false]
   rcases hy with ⟨rfl, hy⟩ | ⟨ry, ny, rfl, hyl, hyn, hyR⟩
   all_goals
    refine W.norm (k := ?_)
    unfold l55_0 ki kb vi mt mw ll iz og ov oo
    repeat' (first | refine W.seq ?_ | refine W.block ?_ | refine W.skip ?_ | (refine W.condL (h := ?_); change W _ _ _ _) | refine W.regS ?_ | refine WS.done ?_ | refine WS.pre (n := 200) (k := ?_) | (refine WS.guard (h := ?_); change WS _ _ _ _) | refine WS.iaddr (h := ?_) | (refine WS.cmp (k1 := fun h => ?_) (k2 := fun h => ?_) <;> simp only [cmpP, oC, nTr, ne_eq] at h <;> (try (exfalso; omega))) | refine WS.inc (h := ?_) | refine WS.consN (n := 60) (k := ?_) | fail)
   ·exact ⟨by omega, (_, _), by cbv, ⟨⟨r, n', rfl, hrn, hn', hR⟩, .inl ⟨rfl, hy⟩⟩, by (try simp only [List.length_append, List.length_cons, List.length_nil]); omega⟩
   ·exact ⟨by omega, (_, _), by cbv, ⟨⟨r, n', rfl, hrn, hn', hR⟩, .inr ⟨ry, ny, rfl, hyl, hyn, hyR⟩⟩, by (try simp only [List.length_append, List.length_cons, List.length_nil]); omega⟩
 ·obtain ⟨⟨r, n', rfl, hrn, hn', hR⟩, hy⟩ := hN
  have hl : l.take k = l := List.take_of_length_le (by omega)
  rw [hl] at hR hn' hy
  refine W.norm (k := ?_)
  unfold l55_0 ki kb vi mt mw ll iz og ov oo
  repeat' (first | refine W.seq ?_ | refine W.exit ?_ | refine Ret.normal (k := ?_) | (refine W.condL (h := ?_); change W _ _ _ _) | refine W.regS ?_ | refine WS.done ?_ | (refine WS.cmp (k1 := fun h => ?_) (k2 := fun h => ?_) <;> simp only [cmpP, oC, nTr, ne_eq] at h <;> (try (exfalso; omega))) | fail)
  exact ⟨rfl, _, _, rfl, ⟨r, n', rfl, hrn, hn', hR⟩, hy⟩
theorem need_nil {x y : A} {s : List Bool × List Int} (hs : NeedR s x y) : WC E 55 [.v (.slice none 0 0), .pt 0 0, .pt 1 0] [.cells [x], .cells [y]] fun r bx => r = .tup [] /\ ∃ x' y', bx = [.cells [x'], .cells [y']] /\ NeedR (needF [] s) x' y' := by
 refine WC.enter rfl rfl rfl ?_
 unfold b55 ki ov
 repeat' (first | refine W.seq ?_ | refine W.block ?_ | refine W.frz (k := ?_) | refine W.regS ?_ | refine WS.done ?_ | refine WS.consN (n := 60) (k := ?_) | fail)
 refine W.forS 0 (fun k (_ : Unit) σ => sn 3 k σ) (fun _ _ => True) 0 (Nat.zero_le _) ?_ ?_
 ·exact ⟨(), by cbv, trivial⟩
 rintro k _ hk _
 obtain rfl : k = 0 := by omega
 refine W.norm (k := ?_)
 unfold l55_0 ki kb vi mt mw ll iz og ov oo
 repeat' (first | refine W.seq ?_ | refine W.exit ?_ | refine Ret.normal (k := ?_) | (refine W.condL (h := ?_); change W _ _ _ _) | refine W.regS ?_ | refine WS.done ?_ | (refine WS.cmp (k1 := fun h => ?_) (k2 := fun h => ?_) <;> simp only [cmpP, oC, nTr, ne_eq] at h <;> (try (exfalso; omega))) | fail)
 exact ⟨rfl, _, _, rfl, hs⟩
end Go.Ab.Ytkmmpbmmmbebgaa
