/- To which blocks a way leads. -/
import Derived.Test.YtkmmpbmmmbebgaaWays
set_option linter.all false
namespace Go.Ab.Ytkmmpbmmmbebgaa
set_option maxRecDepth 100000
set_option maxHeartbeats 4000000
def BRow (b : Bool) (e : List A) : Prop := e = [.v (.bool b)]
/-- Where a block's end goes. -/
def nextAt (f : TFunc) (a : Nat) : List Int := match f.blocks[a]? with | some b => nextF b.term | none => []
/-- A way from the first block, not by block x. -/
inductive Way (f : TFunc) (x : Int) : Int -> Prop
 | start : x ≠ 0 -> Way f x 0
 | step {a : Nat} {d : Int} : Way f x a -> d ∈ nextAt f a -> d ≠ x -> Way f x d
theorem way_ne {f : TFunc} {x d : Int} (h : Way f x d) : d ≠ x := by
 cases h with
 | start h0 => exact fun e => h0 e.symm
 | step _ _ h => exact h
/-- What holds while blocks are marked. -/
structure Marks (f : TFunc) (x : Int) (out : List Bool) (l : List Int) (i : Nat) : Prop where
 n : out.length = f.blocks.length
 z : (0 : Int) ∈ l
 r : ∀ d, d ∈ l -> 0 <= d /\ d < f.blocks.length
 w : ∀ d, d ∈ l -> d ≠ x -> Way f x d
 o : ∀ a : Nat, out[a]? = some true -> Way f x a /\ (a : Int) ≠ x
 s : ∀ a : Nat, out[a]? = some true -> ∀ d, d ∈ nextAt f a -> d ∈ l
 d : ∀ k : Nat, k < i -> ∀ d, l[k]? = some d -> d = x \/ out[d.toNat]? = some true
 c : l.length + 2 * (out.filter (! ·)).length <= 1 + 2 * f.blocks.length
def marksM (p : List Bool × List Int × Nat) : Nat := 3 * (p.1.filter (! ·)).length + (p.2.1.length - p.2.2)
theorem nextAt_range {f : TFunc} (hE : EndsOK f) {a : Nat} {d : Int} (h : d ∈ nextAt f a) : 0 <= d /\ d < f.blocks.length := by
 unfold nextAt at h
 split at h
 ·rename_i b hb; exact hE b (List.mem_of_getElem? hb) d h
 ·cases h
theorem way_range {f : TFunc} (hE : EndsOK f) (hn : 0 < f.blocks.length) {x d : Int} (h : Way f x d) : 0 <= d /\ d < f.blocks.length := by
 cases h with
 | start => omega
 | step _ h _ => exact nextAt_range hE h
theorem filter_set_true : ∀ (l : List Bool) (a : Nat), l[a]? = some false -> ((l.set a true).filter (! ·)).length + 1 = (l.filter (! ·)).length
 | [], a, h => by simp at h
 | b :: l, 0, h => by simp at h; subst h; simp
 | b :: l, a + 1, h => by
   have := filter_set_true l a (by simpa using h)
   cases b <;> simp [List.set_cons_succ] at this ⊢ <;> omega
theorem Marks.start {f : TFunc} {x : Int} (hn : 0 < f.blocks.length) : Marks f x (List.replicate f.blocks.length false) [0] 0 := by
 refine ⟨by simp, by simp, fun d hd => by simp at hd; omega, fun d hd hx => ?_, fun a h => ?_, fun a h => ?_, fun k hk => by omega, ?_⟩
 ·simp at hd; subst hd; exact .start (fun e => hx e.symm)
 ·rw [List.getElem?_replicate] at h; split at h <;> simp at h
 ·rw [List.getElem?_replicate] at h; split at h <;> simp at h
 ·simp [Nat.add_comm]
/-- A block is passed by. -/
theorem Marks.skip {f : TFunc} {x : Int} {out : List Bool} {l : List Int} {i : Nat} (h : Marks f x out l i) {j : Nat} (hl : l[i]? = some (j : Int)) (hd : (j : Int) = x \/ out[j]? = some true) : Marks f x out l (i + 1) :=
 ⟨h.n, h.z, h.r, h.w, h.o, h.s, fun k hk d hdk => by
   by_cases e : k = i
   ·subst e
    rw [hl] at hdk
    cases hdk
    exact hd
   ·exact h.d k (by omega) d hdk, h.c⟩
/-- A block is marked. -/
theorem Marks.mark {f : TFunc} {x : Int} {out : List Bool} {l : List Int} {i : Nat} (h : Marks f x out l i) {j : Nat} (hl : l[i]? = some (j : Int)) (hx : (j : Int) ≠ x) (ho : out[j]? = some false) (hE : EndsOK f) :
  Marks f x (out.set j true) (l ++ nextAt f j) (i + 1) := by
 have hjl : j < out.length := (List.getElem?_eq_some_iff.1 ho).1
 have hw := h.w j (List.mem_of_getElem? hl) hx
 have hnl : (nextAt f j).length <= 2 := by
  unfold nextAt
  split
  ·exact next_len _
  ·simp
 have get : ∀ a : Nat, (out.set j true)[a]? = some true -> a = j \/ out[a]? = some true := by
  intro a ha
  rw [List.getElem?_set] at ha
  split at ha
  ·rename_i e; exact .inl e.symm
  ·exact .inr ha
 refine ⟨by simp [h.n], by simp [h.z], fun d hd => ?_, fun d hd hdx => ?_, fun a ha => ?_, fun a ha d hd => ?_, fun k hk d hd => ?_, ?_⟩
 ·rcases List.mem_append.1 hd with hd | hd
  ·exact h.r d hd
  ·exact nextAt_range hE hd
 ·rcases List.mem_append.1 hd with hd | hd
  ·exact h.w d hd hdx
  ·exact .step hw hd hdx
 ·rcases get a ha with rfl | ha
  ·exact ⟨hw, hx⟩
  ·exact h.o a ha
 ·rcases get a ha with rfl | ha
  ·exact List.mem_append_right _ hd
  ·exact List.mem_append_left _ (h.s a ha d hd)
 ·have hil : i < l.length := (List.getElem?_eq_some_iff.1 hl).1
  rw [List.getElem?_append_left (by omega)] at hd
  by_cases e : k = i
  ·subst e
   rw [hl] at hd
   cases hd
   right
   show (out.set j true)[j]? = some true
   rw [List.getElem?_set_self hjl]
  ·rcases h.d k (by omega) d hd with h1 | h1
   ·exact .inl h1
   ·right
    rw [List.getElem?_set]
    split
    ·rfl
    ·exact h1
 ·have := filter_set_true out j ho
  have := h.c
  simp
  omega
/-- At the end the blocks are marked to which a way leads. -/
theorem Marks.done {f : TFunc} {x : Int} {out : List Bool} {l : List Int} {i : Nat} (h : Marks f x out l i) (hi : l.length <= i) (a : Nat) : out[a]? = some true ↔ Way f x a /\ (a : Int) ≠ x := by
 refine ⟨h.o a, ?_⟩
 have all : ∀ d, Way f x d -> d ≠ x -> ∃ a : Nat, d = a /\ out[a]? = some true := by
  intro d hw
  have mem : ∀ d, d ∈ l -> d ≠ x -> ∃ a : Nat, d = a /\ out[a]? = some true := by
   intro d hd hx
   obtain ⟨k, hk⟩ := List.mem_iff_getElem?.1 hd
   have hkl := (List.getElem?_eq_some_iff.1 hk).1
   rcases h.d k (by omega) d hk with h1 | h1
   ·exact absurd h1 hx
   ·exact ⟨d.toNat, by have := (h.r d hd).1; omega, h1⟩
  induction hw with
  | start => exact mem 0 h.z
  | @step a d hwa hd _ ih =>
    intro hx
    obtain ⟨a', e, ho⟩ := ih (way_ne hwa)
    have : a' = a := by omega
    subst this
    exact mem _ (h.s a' ho d hd) hx
 rintro ⟨hw, hx⟩
 obtain ⟨a', e, ho⟩ := all _ hw hx
 have : a' = a := by omega
 subst this
 exact ho
theorem bRow_of {out : List Bool} {es : List (List A)} (h : RowR BRow out es) {j : Nat} (hj : j < out.length) : es[j]? = some [.v (.bool out[j])] := by
 obtain ⟨e, h1, h2⟩ := h.at j hj
 rw [h1, h2]
/-- A row of bools that says of each block whether p. -/
def BoolsR (n : Nat) (p : Nat -> Prop) (r : A) : Prop := ∃ l, SlA 1 BRow l r /\ l.length = n /\ ∀ a : Nat, l[a]? = some true ↔ a < n /\ p a
theorem without_ok {f : TFunc} {e : List A} (h : FuncR f e) (h0 : 0 < f.blocks.length) (hn : f.blocks.length <= 100000) (hE : EndsOK f) (x : Int) : WC E 63 [.agg e, .v (.int .i64 x)] [] fun r _ => BoolsR f.blocks.length (fun a => Way f x a) r := by
 have hM0 := Marks.start (f := f) (x := x) h0
 obtain ⟨name, params, result, vars, blocks, size⟩ := f
 obtain ⟨_, _, rfl, ⟨nv, vs, nvl, rfl, hvl, h3, hv, _⟩, ⟨nb, bs, nbl, rfl, hbl, h4, hb, _⟩⟩ := h
 simp only at h3 h4 hv hb hn h0 hM0 ⊢
 generalize hf : (⟨name, params, result, vars, blocks, size⟩ : TFunc) = f at *
 have hfb : f.blocks = blocks := by rw [<- hf]
 have hfl : f.blocks.length = blocks.length := by rw [hfb]
 refine WC.enter rfl rfl rfl ?_
 unfold b63 ki vi mt mw ft ll ov oo
 repeat' (first | refine W.seq ?_ | refine W.easy (n := 200) (k := ?_) | refine W.block ?_ | refine W.regS ?_ | refine WS.done ?_ | refine WS.pre (n := 200) (k := ?_) | refine WS.len (h := ?_) | refine WS.mk' (k := fun r hr => ?_) | refine WS.consN (n := 60) (k := ?_) | fail)
 have hr0 : RowR BRow (List.replicate blocks.length false) r := by
  subst hr
  have e : (Int.ofNat nbl).toNat = blocks.length := h4
  rw [e]
  exact RowR.replicate (R := BRow) rfl _
 refine W.whileS (α := List Bool × List Int × Nat × List (List A) × List (List A)) (fun p => marksM (p.1, p.2.1, p.2.2.1)) (fun p σ => sn 4 p.2.2.1 (sv 7 (.own 1 p.2.2.2.1) (sv 5 (.own 1 p.2.2.2.2) σ)))
  (fun p => RowR BRow p.1 p.2.2.2.1 /\ RowR IntR p.2.1 p.2.2.2.2 /\ Marks f x p.1 p.2.1 p.2.2.1) ?_ ?_
 ·exact ⟨(List.replicate blocks.length false, [0], 0, r, [[.v (.int .i64 0)]]), rfl, hr0, intR1 0, hM0⟩
 rintro ⟨out, l, i, ro, rl⟩ ⟨hro, hrl, hM⟩
 simp only at hro hrl hM ⊢
 refine W.norm (k := ?_)
 unfold l63_0 ki kb mt mw fa ft ll lg iz og ov oo
 have hrll := hrl.len
 obtain ⟨m, hm⟩ : ∃ m, rl.length = m := ⟨_, rfl⟩
 have hlm : m = l.length := by omega
 have hmc := hM.c
 by_cases hi : i < m
 ·have hil : i < l.length := by omega
  obtain ⟨e, he, hed⟩ := hrl.at i hil
  have hli : l[i]? = some l[i] := List.getElem?_eq_getElem hil
  have hrg := hM.r _ (List.getElem_mem hil)
  generalize l[i] = d at hed hli hrg
  subst hed
  obtain ⟨j, rfl, hj⟩ := intOf hrg
  have hjo : j < out.length := by rw [hM.n]; exact hj
  have hbj := bRow_of hro hjo
  have hoj : out[j]? = some out[j] := List.getElem?_eq_getElem hjo
  have hrol := hro.len
  generalize out[j] = b at hbj hoj
  cases b with
  | true =>
    repeat' (first | refine W.seq ?_ | refine W.block ?_ | refine W.skip ?_ | refine W.exit ?_ | (refine W.condL (h := ?_); change W _ _ _ _) | refine W.regS ?_ | refine WS.done ?_ | refine WS.loadP (k := ?_) | refine WS.pre (n := 200) (k := ?_) | (refine WS.guard (h := ?_); change WS _ _ _ _) | refine WS.lenO (k := ?_) | refine WS.iaddrO (k := ?_) | (refine WS.cmp (k1 := fun h => ?_) (k2 := fun h => ?_) <;> simp only [cmpP, oC, nTr, ne_eq] at h <;> (try (exfalso; omega))) | refine WS.inc (h := ?_) | refine WS.consN (n := 60) (k := ?_) | fail)
    exact ⟨(out, l, i + 1, ro, rl), by cbv, ⟨hro, hrl, hM.skip hli (.inr hoj)⟩, by simp only [marksM]; omega⟩
  | false =>
    by_cases hjx : (j : Int) = x
    ·
     repeat' (first | refine W.seq ?_ | refine W.block ?_ | refine W.skip ?_ | refine W.exit ?_ | (refine W.condL (h := ?_); change W _ _ _ _) | refine W.regS ?_ | refine WS.done ?_ | refine WS.loadP (k := ?_) | refine WS.pre (n := 200) (k := ?_) | (refine WS.guard (h := ?_); change WS _ _ _ _) | refine WS.lenO (k := ?_) | refine WS.iaddrO (k := ?_) | (refine WS.cmp (k1 := fun h => ?_) (k2 := fun h => ?_) <;> simp only [cmpP, oC, nTr, ne_eq] at h <;> (try (exfalso; omega))) | refine WS.inc (h := ?_) | refine WS.consN (n := 60) (k := ?_) | fail)
     exact ⟨(out, l, i + 1, ro, rl), by cbv, ⟨hro, hrl, hM.skip hli (.inl hjx)⟩, by simp only [marksM]; omega⟩
    ·have hjb : j < blocks.length := by omega
     obtain ⟨eb, heb, hbR⟩ := hb.at j hjb
     have hnx : nextAt f j = nextF blocks[j].term := by unfold nextAt; rw [hfb, List.getElem?_eq_getElem hjb]
     have hM2 := hM.mark hli hjx hoj hE
     have hft := filter_set_true out j hoj
     generalize blocks[j] = bj at hbR hnx
     obtain ⟨ins, ⟨kind, a, to, els⟩⟩ := bj
     obtain ⟨_, rfl, ⟨ni, is, nil, rfl, hil, h5, hI, _⟩⟩ := hbR
     repeat' (first | refine W.seq ?_ | refine W.block ?_ | refine W.skip ?_ | (refine W.condL (h := ?_); change W _ _ _ _) | refine W.regS ?_ | refine WS.done ?_ | refine WS.loadP (k := ?_) | refine WS.stoP (k := fun q hq => ?_) | refine WS.pre (n := 200) (k := ?_) | (refine WS.guard (h := ?_); change WS _ _ _ _) | refine WS.lenO (k := ?_) | refine WS.iaddrO (k := ?_) | (refine WS.cmp (k1 := fun h => ?_) (k2 := fun h => ?_) <;> simp only [cmpP, oC, nTr, ne_eq] at h <;> (try (exfalso; omega))) | refine W.beginD (h := ?_) | refine WD.loadP (h := ?_) | refine WD.pre (n := 200) (ha := rfl) (k := ?_) | refine WD.iaddrO (h := ?_) | refine WD.iaddr (h := ?_) | fail)
     refine WD.qcall (hc := (next_ok ⟨kind, a, to, els⟩)) (k := ?_)
     rintro ln _ ⟨nl, ls, k, rfl, hk, hkl, hL, _⟩
     have hfl2 := intR_flat hL
     have hl2 := next_len ⟨kind, a, to, els⟩
     refine ⟨_, _, _, by cbv; first | done | fail, by cbv; first | done | fail, by cbv; first | done | fail, ?_⟩
     repeat' (first | refine W.regS ?_ | refine WS.done ?_ | refine WS.pre (n := 200) (k := ?_) | refine WS.inc (h := ?_) | refine WS.consN (n := 60) (k := ?_) | (refine WD.done ⟨_, by cbv; first | done | fail, ?_⟩; dsimp only) | refine WD.setApp (h := fun r hr => ?_) | refine WD.appI (h := ?_) | fail)
     exact ⟨(out.set j true, l ++ nextAt f j, i + 1, q, r), by cbv, ⟨by rw [<- hq]; exact hro.set j rfl, by rw [<- hr, hnx]; exact hrl.append (by simpa using hL), hM2⟩, by simp only [marksM, List.length_append, hnx]; omega⟩
 ·
  repeat' (first | refine W.seq ?_ | refine W.easy (n := 200) (k := ?_) | refine W.ret ?_ | refine W.exit ?_ | refine W.frz (k := ?_) | refine Ret.ret (k := ?_) | (refine W.condL (h := ?_); change W _ _ _ _) | refine W.regS ?_ | refine WS.done ?_ | refine WS.pre (n := 200) (k := ?_) | refine WS.lenO (k := ?_) | (refine WS.cmp (k1 := fun h => ?_) (k2 := fun h => ?_) <;> simp only [cmpP, oC, nTr, ne_eq] at h <;> (try (exfalso; omega))) | fail)
  refine ⟨out, slA_own hro, by rw [hM.n, hfl], fun a => ?_⟩
  rw [hM.done (by omega) a]
  exact ⟨fun h => ⟨by have := way_range hE (by omega) h.1; omega, h.1⟩, fun h => ⟨h.2, way_ne h.2⟩⟩
theorem reached_ok {f : TFunc} {e : List A} (h : FuncR f e) (h0 : 0 < f.blocks.length) (hn : f.blocks.length <= 100000) (hE : EndsOK f) : WC E 52 [.agg e] [] fun r _ => BoolsR f.blocks.length (fun a => Way f (-1) a) r := by
 obtain ⟨x, hx⟩ : ∃ x : Int, x = -1 := ⟨_, rfl⟩
 rw [<- hx]
 have hM0 := Marks.start (f := f) (x := x) h0
 obtain ⟨name, params, result, vars, blocks, size⟩ := f
 obtain ⟨_, _, rfl, ⟨nv, vs, nvl, rfl, hvl, h3, hv, _⟩, ⟨nb, bs, nbl, rfl, hbl, h4, hb, _⟩⟩ := h
 simp only at h3 h4 hv hb hn h0 hM0 ⊢
 generalize hf : (⟨name, params, result, vars, blocks, size⟩ : TFunc) = f at *
 have hfb : f.blocks = blocks := by rw [<- hf]
 have hfl : f.blocks.length = blocks.length := by rw [hfb]
 refine WC.enter rfl rfl rfl ?_
 unfold b52 ki vi mt mw ft ll ov oo
 repeat' (first | refine W.seq ?_ | refine W.easy (n := 200) (k := ?_) | refine W.block ?_ | refine W.regS ?_ | refine WS.done ?_ | refine WS.pre (n := 200) (k := ?_) | refine WS.len (h := ?_) | refine WS.mk' (k := fun r hr => ?_) | refine WS.consN (n := 60) (k := ?_) | fail)
 have hr0 : RowR BRow (List.replicate blocks.length false) r := by
  subst hr
  have e : (Int.ofNat nbl).toNat = blocks.length := h4
  rw [e]
  exact RowR.replicate (R := BRow) rfl _
 refine W.whileS (α := List Bool × List Int × Nat × List (List A) × List (List A)) (fun p => marksM (p.1, p.2.1, p.2.2.1)) (fun p σ => sn 3 p.2.2.1 (sv 6 (.own 1 p.2.2.2.1) (sv 4 (.own 1 p.2.2.2.2) σ)))
  (fun p => RowR BRow p.1 p.2.2.2.1 /\ RowR IntR p.2.1 p.2.2.2.2 /\ Marks f x p.1 p.2.1 p.2.2.1) ?_ ?_
 ·exact ⟨(List.replicate blocks.length false, [0], 0, r, [[.v (.int .i64 0)]]), rfl, hr0, intR1 0, hM0⟩
 rintro ⟨out, l, i, ro, rl⟩ ⟨hro, hrl, hM⟩
 simp only at hro hrl hM ⊢
 refine W.norm (k := ?_)
 unfold l52_0 ki kb mt mw fa ft ll lg iz ov oo
 have hrll := hrl.len
 obtain ⟨m, hm⟩ : ∃ m, rl.length = m := ⟨_, rfl⟩
 have hlm : m = l.length := by omega
 have hmc := hM.c
 by_cases hi : i < m
 ·have hil : i < l.length := by omega
  obtain ⟨e, he, hed⟩ := hrl.at i hil
  have hli : l[i]? = some l[i] := List.getElem?_eq_getElem hil
  have hrg := hM.r _ (List.getElem_mem hil)
  generalize l[i] = d at hed hli hrg
  subst hed
  obtain ⟨j, rfl, hj⟩ := intOf hrg
  have hjo : j < out.length := by rw [hM.n]; exact hj
  have hbj := bRow_of hro hjo
  have hoj : out[j]? = some out[j] := List.getElem?_eq_getElem hjo
  have hrol := hro.len
  generalize out[j] = b at hbj hoj
  cases b with
  | true =>
    repeat' (first | refine W.seq ?_ | refine W.block ?_ | refine W.skip ?_ | refine W.exit ?_ | (refine W.condL (h := ?_); change W _ _ _ _) | refine W.regS ?_ | refine WS.done ?_ | refine WS.loadP (k := ?_) | refine WS.pre (n := 200) (k := ?_) | refine WS.lenO (k := ?_) | refine WS.iaddrO (k := ?_) | (refine WS.cmp (k1 := fun h => ?_) (k2 := fun h => ?_) <;> simp only [cmpP, oC, nTr, ne_eq] at h <;> (try (exfalso; omega))) | refine WS.inc (h := ?_) | refine WS.consN (n := 60) (k := ?_) | fail)
    exact ⟨(out, l, i + 1, ro, rl), by cbv, ⟨hro, hrl, hM.skip hli (.inr hoj)⟩, by simp only [marksM]; omega⟩
  | false =>
    have hjx : ¬ (j : Int) = x := by omega
    ·have hjb : j < blocks.length := by omega
     obtain ⟨eb, heb, hbR⟩ := hb.at j hjb
     have hnx : nextAt f j = nextF blocks[j].term := by unfold nextAt; rw [hfb, List.getElem?_eq_getElem hjb]
     have hM2 := hM.mark hli hjx hoj hE
     have hft := filter_set_true out j hoj
     generalize blocks[j] = bj at hbR hnx
     obtain ⟨ins, ⟨kind, a, to, els⟩⟩ := bj
     obtain ⟨_, rfl, ⟨ni, is, nil, rfl, hil, h5, hI, _⟩⟩ := hbR
     repeat' (first | refine W.seq ?_ | refine W.block ?_ | refine W.skip ?_ | (refine W.condL (h := ?_); change W _ _ _ _) | refine W.regS ?_ | refine WS.done ?_ | refine WS.loadP (k := ?_) | refine WS.stoP (k := fun q hq => ?_) | refine WS.pre (n := 200) (k := ?_) | refine WS.lenO (k := ?_) | refine WS.iaddrO (k := ?_) | (refine WS.cmp (k1 := fun h => ?_) (k2 := fun h => ?_) <;> simp only [cmpP, oC, nTr, ne_eq] at h <;> (try (exfalso; omega))) | refine W.beginD (h := ?_) | refine WD.loadP (h := ?_) | refine WD.pre (n := 200) (ha := rfl) (k := ?_) | refine WD.iaddrO (h := ?_) | refine WD.iaddr (h := ?_) | fail)
     refine WD.qcall (hc := (next_ok ⟨kind, a, to, els⟩)) (k := ?_)
     rintro ln _ ⟨nl, ls, k, rfl, hk, hkl, hL, _⟩
     have hfl2 := intR_flat hL
     have hl2 := next_len ⟨kind, a, to, els⟩
     refine ⟨_, _, _, by cbv; first | done | fail, by cbv; first | done | fail, by cbv; first | done | fail, ?_⟩
     repeat' (first | refine W.regS ?_ | refine WS.done ?_ | refine WS.pre (n := 200) (k := ?_) | refine WS.inc (h := ?_) | refine WS.consN (n := 60) (k := ?_) | (refine WD.done ⟨_, by cbv; first | done | fail, ?_⟩; dsimp only) | refine WD.setApp (h := fun r hr => ?_) | refine WD.appI (h := ?_) | fail)
     exact ⟨(out.set j true, l ++ nextAt f j, i + 1, q, r), by cbv, ⟨by rw [<- hq]; exact hro.set j rfl, by rw [<- hr, hnx]; exact hrl.append (by simpa using hL), hM2⟩, by simp only [marksM, List.length_append, hnx]; omega⟩
 ·
  repeat' (first | refine W.seq ?_ | refine W.easy (n := 200) (k := ?_) | refine W.ret ?_ | refine W.exit ?_ | refine W.frz (k := ?_) | refine Ret.ret (k := ?_) | (refine W.condL (h := ?_); change W _ _ _ _) | refine W.regS ?_ | refine WS.done ?_ | refine WS.pre (n := 200) (k := ?_) | refine WS.lenO (k := ?_) | (refine WS.cmp (k1 := fun h => ?_) (k2 := fun h => ?_) <;> simp only [cmpP, oC, nTr, ne_eq] at h <;> (try (exfalso; omega))) | fail)
  refine ⟨out, slA_own hro, by rw [hM.n, hfl], fun a => ?_⟩
  rw [hM.done (by omega) a]
  exact ⟨fun h => ⟨by have := way_range hE (by omega) h.1; omega, h.1⟩, fun h => ⟨h.2, way_ne h.2⟩⟩
/-- One block stands over another one. -/
def Dom (f : TFunc) (a b : Nat) : Prop := Way f (-1) a /\ Way f (-1) b /\ ¬ Way f a b
/-- An element that is a row of bools, owned. -/
def BCellR (n : Nat) (p : Nat -> Prop) (e : List A) : Prop := ∃ l es, e = [.own 1 es] /\ RowR BRow l es /\ l.length = n /\ ∀ a : Nat, l[a]? = some true ↔ a < n /\ p a
end Go.Ab.Ytkmmpbmmmbebgaa
