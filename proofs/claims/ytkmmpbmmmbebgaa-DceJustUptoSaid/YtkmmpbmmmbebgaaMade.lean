/- Where a virtual is made, and whether it is there. -/
import Derived.Test.YtkmmpbmmmbebgaaTable
set_option linter.all false
namespace Go.Ab.Ytkmmpbmmmbebgaa
set_option maxRecDepth 100000
set_option maxHeartbeats 4000000
/-- The instruction at a place. -/
def insAt (f : TFunc) (p q : Nat) : Option TIns := match f.blocks[p]? with | some b => b.ins[q]? | none => none
def MadeAt (f : TFunc) (v : Int) (p q : Nat) : Prop := ∃ x, insAt f p q = some x /\ makesF x = v
def FirstMade (f : TFunc) (v : Int) (p q : Nat) : Prop := MadeAt f v p q /\ ∀ p' q', MadeAt f v p' q' -> p < p' \/ p = p' /\ q <= q'
theorem insAt_some {f : TFunc} {p q : Nat} {x : TIns} (h : insAt f p q = some x) : ∃ b, f.blocks[p]? = some b /\ b.ins[q]? = some x := by
 unfold insAt at h
 split at h
 ·rename_i b hb; exact ⟨b, hb, h⟩
 ·cases h
theorem insAt_of {f : TFunc} {p q : Nat} {b : TBlock} (h : f.blocks[p]? = some b) : insAt f p q = b.ins[q]? := by unfold insAt; rw [h]
theorem firstMade_eq {f : TFunc} {v : Int} {p q p' q' : Nat} (h : FirstMade f v p q) (k : FirstMade f v p' q') : p = p' /\ q = q' := by
 have h1 := h.2 _ _ k.1
 have h2 := k.2 _ _ h.1
 omega
/-- So many cells there may be. -/
structure FuncSmall (f : TFunc) : Prop where
 b : f.blocks.length <= 100000
 i : ∀ b, b ∈ f.blocks -> b.ins.length <= 100000
 a : ∀ b, b ∈ f.blocks -> ∀ x, x ∈ b.ins -> x.args.length <= 2000000
 v : f.vars.length <= 100000
theorem made_ok {f : TFunc} {e : List A} (h : FuncR f e) (hs : FuncSmall f) (v : Int) : WC E 54 [.agg e, .v (.int .i64 v)] [] fun r _ =>
  (∃ p q : Nat, r = .tup [.v (.int .i64 (Int.ofNat p)), .v (.int .i64 (Int.ofNat q)), .v (.bool true)] /\ FirstMade f v p q) \/ (r = .tup [.v (.int .i64 0), .v (.int .i64 0), .v (.bool false)] /\ ∀ p q, ¬ MadeAt f v p q) := by
 obtain ⟨_, _, rfl, ⟨nv, vs, nvl, rfl, hvl, h3, hv, _⟩, ⟨nb, bs, nbl, rfl, hbl, h4, hb, _⟩⟩ := h
 have hsb := hs.b
 refine WC.enter rfl rfl rfl ?_
 unfold b54 ki kb ov
 repeat' (first | refine W.seq ?_ | refine W.easy (n := 200) (k := ?_) | refine W.block ?_ | fail)
 refine W.forS nbl (fun i (_ : Unit) σ => sn 5 i σ) (fun i _ => ∀ p, p < i -> ∀ q, ¬ MadeAt f v p q) 0 (Nat.zero_le _) ?_ ?_
 ·exact ⟨(), by cbv, fun p hp => absurd hp (Nat.not_lt_zero p)⟩
 intro i _ hi hP
 refine W.norm (k := ?_)
 unfold l54_1 ki mt mw ft ll ov oo
 by_cases hin : i < nbl
 ·have hib : i < f.blocks.length := by omega
  obtain ⟨e, he, hR⟩ := hb.at i hib
  have hbi : f.blocks[i]? = some f.blocks[i] := List.getElem?_eq_getElem hib
  have hil := hs.i _ (List.getElem_mem hib)
  have hx := hs.a _ (List.getElem_mem hib)
  generalize f.blocks[i] = b at hR hbi hil hx
  obtain ⟨ins, ⟨kind, a, to, els⟩⟩ := b
  obtain ⟨_, rfl, ⟨ni, is, nil, rfl, hil2, h5, hI, _⟩⟩ := hR
  simp only at hil h5 hI hx
  have hat : ∀ q, insAt f i q = ins[q]? := fun q => insAt_of hbi
  repeat' (first | refine W.seq ?_ | refine W.easy (n := 200) (k := ?_) | refine W.block ?_ | refine W.skip ?_ | (refine W.condL (h := ?_); change W _ _ _ _) | refine W.regS ?_ | refine WS.done ?_ | refine WS.pre (n := 200) (k := ?_) | refine WS.len (h := ?_) | (refine WS.cmp (k1 := fun h => ?_) (k2 := fun h => ?_) <;> simp only [cmpP, oC, nTr, ne_eq] at h <;> (try (exfalso; omega))) | fail)
  refine W.forS nil (fun k (_ : Unit) σ => sn 8 k σ) (fun k _ => ∀ q, q < k -> ¬ MadeAt f v i q) 0 (Nat.zero_le _) ?_ ?_
  ·exact ⟨(), by cbv, fun p hp => absurd hp (Nat.not_lt_zero p)⟩
  intro k _ hk hQ
  refine W.norm (k := ?_)
  unfold l54_0 ki kb mt mw fa ft ll lg iz ov oo
  by_cases hkn : k < nil
  ·have hki : k < ins.length := by omega
   obtain ⟨ek, hek, hRk⟩ := hI.at k hki
   have hxk := hat k
   rw [List.getElem?_eq_getElem hki] at hxk
   generalize ins[k] = x at hRk hxk
   have hcall := makes_ok hRk
   obtain ⟨op, dst, xa, xb, var, num, args⟩ := x
   obtain ⟨_, rfl, ⟨na, as, nal, rfl, hal, h6, hA, _⟩⟩ := hRk
   repeat' (first | refine W.seq ?_ | refine W.block ?_ | refine W.skip ?_ | (refine W.condL (h := ?_); change W _ _ _ _) | refine W.regS ?_ | refine WS.done ?_ | refine WS.pre (n := 200) (k := ?_) | refine WS.len (h := ?_) | refine WS.iaddr (h := ?_) | (refine WS.cmp (k1 := fun h => ?_) (k2 := fun h => ?_) <;> simp only [cmpP, oC, nTr, ne_eq] at h <;> (try (exfalso; omega))) | fail)
   refine WS.call (hc := (hcall)) (k := ?_)
   rintro _ _ rfl
   generalize hmv : makesF ⟨op, dst, xa, xb, var, num, args⟩ = mv at *
   refine ⟨_, _, _, by cbv; first | done | fail, by cbv; first | done | fail, ?_⟩
   repeat' (first | refine W.seq ?_ | refine W.easy (n := 200) (k := ?_) | refine W.skip ?_ | refine W.ret ?_ | refine Ret.ret (k := ?_) | (refine W.condL (h := ?_); change W _ _ _ _) | refine W.regS ?_ | refine WS.done ?_ | refine WS.pre (n := 200) (k := ?_) | (refine WS.cmp (k1 := fun h => ?_) (k2 := fun h => ?_) <;> simp only [cmpP, oC, nTr, ne_eq] at h <;> (try (exfalso; omega))) | refine WS.inc (h := ?_) | refine WS.consN (n := 60) (k := ?_) | fail)
   ·refine .inl ⟨i, k, rfl, ⟨_, hxk, by rw [hmv]; exact h⟩, fun p' q' hm => ?_⟩
    by_cases hp : p' < i
    ·exact absurd hm (hP p' hp q')
    ·by_cases hp2 : p' = i
     ·subst hp2
      by_cases hq : q' < k
      ·exact absurd hm (hQ q' hq)
      ·omega
     ·omega
   ·refine ⟨by omega, (), by cbv, fun q hq => ?_⟩
    by_cases hqk : q < k
    ·exact hQ q hqk
    ·have : q = k := by omega
     subst this
     rintro ⟨x, h1, h2⟩
     rw [hxk] at h1
     cases h1
     rw [hmv] at h2
     exact absurd h2 (by assumption)
  ·
   repeat' (first | refine W.seq ?_ | refine W.exit ?_ | (refine W.condL (h := ?_); change W _ _ _ _) | refine W.regS ?_ | refine WS.done ?_ | refine WS.pre (n := 200) (k := ?_) | refine WS.len (h := ?_) | refine WS.iaddr (h := ?_) | (refine WS.cmp (k1 := fun h => ?_) (k2 := fun h => ?_) <;> simp only [cmpP, oC, nTr, ne_eq] at h <;> (try (exfalso; omega))) | refine WS.inc (h := ?_) | refine WS.consN (n := 60) (k := ?_) | fail)
   refine ⟨by omega, (), by cbv, fun p hp q => ?_⟩
   by_cases hpi : p < i
   ·exact hP p hpi q
   ·have : p = i := by omega
    subst this
    by_cases hq : q < k
    ·exact hQ q hq
    ·rintro ⟨x, h1, h2⟩
     rw [hat, List.getElem?_eq_none (by omega)] at h1
     cases h1
 ·
  repeat' (first | refine W.seq ?_ | refine W.easy (n := 200) (k := ?_) | refine W.ret ?_ | refine W.exit ?_ | refine Ret.ret (k := ?_) | (refine W.condL (h := ?_); change W _ _ _ _) | refine W.regS ?_ | refine WS.done ?_ | refine WS.pre (n := 200) (k := ?_) | refine WS.len (h := ?_) | (refine WS.cmp (k1 := fun h => ?_) (k2 := fun h => ?_) <;> simp only [cmpP, oC, nTr, ne_eq] at h <;> (try (exfalso; omega))) | fail)
  refine .inr ⟨rfl, fun p q => ?_⟩
  by_cases hpi : p < i
  ·exact hP p hpi q
  ·rintro ⟨x, h1, h2⟩
   unfold insAt at h1
   rw [List.getElem?_eq_none (by omega)] at h1
   cases h1
/-- Is a virtual there, at a place of a block? -/
def ThereP (f : TFunc) (v : Int) (b i : Nat) : Prop := ∃ p q, FirstMade f v p q /\ ((p = b /\ q < i) \/ (p ≠ b /\ Dom f p b))
theorem table_at {f : TFunc} {nl : Bool} {es : List (List A)} (h : TableR f (.imm nl 1 es)) {a b : Nat} (ha : a < f.blocks.length) (hb : b < f.blocks.length) : ∃ r d, es[a]? = some [.own 1 r] /\ r[b]? = some [.v (.bool d)] /\ (d = true ↔ Dom f a b) := by
 obtain ⟨nl', es', n, e0, h1, h2, h3⟩ := h
 cases e0
 obtain ⟨e, he, l, r, rfl, hr, hl, hd⟩ := h3 a (by omega)
 obtain ⟨d, hd1, hd2⟩ := bools_at hl hd (j := b) (by omega)
 exact ⟨r, d, he, bRow_at hr hd1, hd2⟩
theorem made_range {f : TFunc} {v : Int} {p q : Nat} (h : MadeAt f v p q) : p < f.blocks.length := by
 obtain ⟨x, h1, _⟩ := h
 obtain ⟨b, hb, _⟩ := insAt_some h1
 exact (List.getElem?_eq_some_iff.1 hb).1
theorem there_ok {f : TFunc} {e : List A} (h : FuncR f e) (hs : FuncSmall f) {t : A} (ht : TableR f t) (v : Int) {b i : Nat} (hb : b < f.blocks.length) : WC E 53 [.agg e, t, .v (.int .i64 v), .v (.int .i64 (Int.ofNat b)), .v (.int .i64 (Int.ofNat i))] [] fun r _ => IsB (ThereP f v b i) r := by
 have hcall := made_ok h hs v
 obtain ⟨_, _, rfl, ⟨nv, vs, nvl, rfl, hvl, h3, hv, _⟩, ⟨nb, bs, nbl, rfl, hbl, h4, hb', _⟩⟩ := h
 obtain ⟨nt, et, nT, rfl, ht1, ht2, ht3⟩ := ht
 have hat := fun a (ha : a < f.blocks.length) => table_at (b := b) ⟨nt, et, nT, rfl, ht1, ht2, ht3⟩ ha hb
 refine WC.enter rfl rfl rfl ?_
 unfold b53 kb mt mw lt og ov oo
 repeat' (first | refine W.seq ?_ | refine W.easy (n := 200) (k := ?_) | refine W.regS ?_ | refine WS.pre (n := 200) (k := ?_) | fail)
 refine WS.call (hc := (hcall)) (k := ?_)
 rintro _ _ (⟨p, q, rfl, hm⟩ | ⟨rfl, hm⟩)
 ·obtain ⟨r, d, her, hrd, hd⟩ := hat p (made_range hm.1)
  have fin : ∀ P : Prop, ((p = b /\ q < i) \/ (p ≠ b /\ Dom f p b) ↔ P) -> (ThereP f v b i ↔ P) := fun P hP => by
   rw [<- hP]
   constructor
   ·rintro ⟨p', q', h1, h2⟩
    obtain ⟨rfl, rfl⟩ := firstMade_eq h1 hm
    exact h2
   ·exact fun h2 => ⟨p, q, hm, h2⟩
  refine ⟨_, _, _, by cbv; first | done | fail, by cbv; first | done | fail, ?_⟩
  by_cases hpb : p = b
  ·subst hpb
   repeat' (first | refine W.seq ?_ | refine W.ret ?_ | refine Ret.ret (k := ?_) | refine W.regS ?_ | refine WS.done ?_ | refine WS.pre (n := 200) (k := ?_) | (refine WS.guard (h := ?_); change WS _ _ _ _) | (refine WS.cmp (k1 := fun h => ?_) (k2 := fun h => ?_) <;> simp only [cmpP, oC, nTr, ne_eq] at h <;> (try (exfalso; omega))) | refine WS.consN (n := 60) (k := ?_) | fail)
   all_goals first
    | exact .inl ⟨rfl, (fin _ Iff.rfl).2 (.inl ⟨rfl, by omega⟩)⟩
    | (refine .inr ⟨rfl, fun h => ?_⟩
       rcases (fin _ Iff.rfl).1 h with h | h
       ·omega
       ·exact h.1 rfl)
  ·cases d with
   | true =>
     repeat' (first | refine W.seq ?_ | refine W.ret ?_ | refine Ret.ret (k := ?_) | refine W.regS ?_ | refine WS.done ?_ | refine WS.pre (n := 200) (k := ?_) | (refine WS.guard (h := ?_); change WS _ _ _ _) | refine WS.iaddr (h := ?_) | (refine WS.cmp (k1 := fun h => ?_) (k2 := fun h => ?_) <;> simp only [cmpP, oC, nTr, ne_eq] at h <;> (try (exfalso; omega))) | refine WS.consN (n := 60) (k := ?_) | fail)
     all_goals exact .inl ⟨rfl, (fin _ Iff.rfl).2 (.inr ⟨hpb, hd.1 rfl⟩)⟩
   | false =>
     repeat' (first | refine W.seq ?_ | refine W.ret ?_ | refine Ret.ret (k := ?_) | refine W.regS ?_ | refine WS.done ?_ | refine WS.pre (n := 200) (k := ?_) | (refine WS.guard (h := ?_); change WS _ _ _ _) | refine WS.iaddr (h := ?_) | (refine WS.cmp (k1 := fun h => ?_) (k2 := fun h => ?_) <;> simp only [cmpP, oC, nTr, ne_eq] at h <;> (try (exfalso; omega))) | refine WS.consN (n := 60) (k := ?_) | fail)
     all_goals
      refine .inr ⟨rfl, fun h => ?_⟩
      rcases (fin _ Iff.rfl).1 h with h | h
      ·exact hpb h.1
      ·exact absurd (hd.2 h.2) (by simp)
 ·
  refine ⟨_, _, _, by cbv; first | done | fail, by cbv; first | done | fail, ?_⟩
  repeat' (first | refine W.seq ?_ | refine W.ret ?_ | refine Ret.ret (k := ?_) | refine W.regS ?_ | refine WS.done ?_ | refine WS.pre (n := 200) (k := ?_) | (refine WS.guard (h := ?_); change WS _ _ _ _) | refine WS.consN (n := 60) (k := ?_) | fail)
  all_goals exact .inr ⟨rfl, fun ⟨p, q, h1, _⟩ => hm p q h1.1⟩
end Go.Ab.Ytkmmpbmmmbebgaa
