/- Copies. -/
import Derived.Test.YtkmmpbmmmbebgaaMade
set_option linter.all false
namespace Go.Ab.Ytkmmpbmmmbebgaa
set_option maxRecDepth 100000
set_option maxHeartbeats 8000000
/-- A row that grows: nil at first. -/
def GrowR {α : Type} (z : Nat) (R : α -> List A -> Prop) (l : List α) (x : A) : Prop := (x = .v (.slice none 0 0) /\ l = []) \/ ∃ r n, x = .own z r /\ r.length = n /\ n = l.length /\ RowR R l r
theorem GrowR.zero {α : Type} {z : Nat} {R : α -> List A -> Prop} {l : List α} : GrowR z R (l.take 0) (.v (.slice none 0 0)) := .inl ⟨rfl, by simp⟩
theorem rowR_snoc {α : Type} {R : α -> List A -> Prop} {l : List α} {r : List (List A)} (h : RowR R l r) {x : α} {e : List A} (he : R x e) : RowR R (l ++ [x]) (r ++ [e]) := h.append (.cons he .nil)
theorem take_snoc {α : Type} {l : List α} {k : Nat} {x : α} (h : l[k]? = some x) : l.take (k + 1) = l.take k ++ [x] := by
 rw [List.take_add_one, h]
 rfl
theorem GrowR.step {α : Type} {z : Nat} {R : α -> List A -> Prop} {l : List α} {k : Nat} {x : α} {e : List A} (h : l[k]? = some x) (he : R x e) {r r' : List (List A)} (hr : RowR R (l.take k) r) (hr' : r ++ [[e]].flatten = r') : GrowR z R (l.take (k + 1)) (.own z r') := by
 subst hr'
 have := rowR_snoc hr he
 exact .inr ⟨_, _, rfl, rfl, by rw [take_snoc h]; exact this.len, by rw [take_snoc h]; exact this⟩
theorem GrowR.step0 {α : Type} {z : Nat} {R : α -> List A -> Prop} {l : List α} {k : Nat} {x : α} {e : List A} (h : l[k]? = some x) (he : R x e) (hr : l.take k = []) : GrowR z R (l.take (k + 1)) (.own z [e]) :=
 .inr ⟨_, _, rfl, rfl, by rw [take_snoc h, hr]; rfl, by rw [take_snoc h, hr]; exact .cons he .nil⟩
/-- A row that has grown, frozen. -/
theorem slA_frz {α : Type} {z : Nat} {R : α -> List A -> Prop} {l l' : List α} {r : List (List A)} (h : RowR R l r) (e : l = l') : SlA z R l' (.imm false z r) := by subst e; exact slA_own h
theorem slA_frz0 {α : Type} {z : Nat} {R : α -> List A -> Prop} {l l' : List α} (h : l = []) (e : l = l') : SlA z R l' (.imm true z []) := by subst e; subst h; exact slA_nil
theorem copyFunc_ok {f : TFunc} {e : List A} (h : FuncR f e) (hs : FuncSmall f) : WC E 28 [.agg e] [] fun r _ => ∃ e', r = .agg e' /\ FuncR f e' := by
 obtain ⟨_, _, rfl, ⟨nv, vs, nvl, rfl, hvl, h3, hv, _⟩, ⟨nb, bs, nbl, rfl, hbl, h4, hb, _⟩⟩ := h
 have hsb := hs.b
 have hsv := hs.v
 have hfl := varR_flat hv
 refine WC.enter rfl rfl rfl ?_
 unfold b28 ki vi mw ft ll lt ov oo
 repeat' (first | refine W.seq ?_ | refine W.easy (n := 200) (k := ?_) | refine W.block ?_ | refine W.regS ?_ | refine WS.done ?_ | refine WS.stoApp (h := fun r hr => ?_) | refine WS.pre (n := 200) (k := ?_) | refine WS.app (hn := (news_imm (by assumption))) (h := ?_) | fail)
 have hr' : RowR VarR f.vars r := by subst hr; simpa using hv
 refine W.forS nbl (fun i (x : A) σ => sn 3 i (sb 0 4 x σ)) (fun i x => GrowR 5 BlockR (f.blocks.take i) x) 0 (Nat.zero_le _) ?_ ?_
 ·exact ⟨_, by cbv, .zero⟩
 intro i x hi hP
 refine W.norm (k := ?_)
 unfold l28_1 ki vi mt mw fa ft ll lg lt iz ov oo
 by_cases hin : i < nbl
 ·have hib : i < f.blocks.length := by omega
  obtain ⟨e, he, hR⟩ := hb.at i hib
  have hbi : f.blocks[i]? = some f.blocks[i] := List.getElem?_eq_getElem hib
  have hil := hs.i _ (List.getElem_mem hib)
  have hx := hs.a _ (List.getElem_mem hib)
  generalize f.blocks[i] = b at hR hbi hil hx
  obtain ⟨ins, ⟨kind, a, to, els⟩⟩ := b
  obtain ⟨_, rfl, ⟨ni, is, nil, rfl, hil2, h5, hI, _⟩⟩ := hR
  simp only at hil h5 hI hx
  have hblk : ∀ y', SlA 7 InsR ins y' -> BlockR ⟨ins, ⟨kind, a, to, els⟩⟩ [y', .v (.int .u8 kind), .v (.int .i64 a), .v (.int .i64 to), .v (.int .i64 els)] := fun y' hy' => ⟨_, rfl, hy'⟩
  have hg0 := fun e he (h0 : f.blocks.take i = []) => GrowR.step0 (z := 5) (R := BlockR) (e := e) hbi he h0
  have hg1 := fun e he r r' hr hr' => GrowR.step (z := 5) (R := BlockR) (e := e) hbi he (r := r) (r' := r') hr hr'
  rcases hP with ⟨rfl, hz⟩ | ⟨rz, nz, rfl, hzl, hzn, hzR⟩
  case' inr =>
   have hnz : nz <= 100000 := by rw [hzn, List.length_take]; omega
  all_goals
   repeat' (first | refine W.seq ?_ | refine W.easy (n := 200) (k := ?_) | refine W.block ?_ | refine W.skip ?_ | (refine W.condL (h := ?_); change W _ _ _ _) | refine W.regS ?_ | refine WS.done ?_ | refine WS.pre (n := 200) (k := ?_) | refine WS.len (h := ?_) | refine WS.iaddr (h := ?_) | (refine WS.cmp (k1 := fun h => ?_) (k2 := fun h => ?_) <;> simp only [cmpP, oC, nTr, ne_eq] at h <;> (try (exfalso; omega))) | refine WS.consN (n := 60) (k := ?_) | fail)
  all_goals
   refine W.forS nil (fun k (y : A) σ => sn 6 k (sb 2 0 y σ)) (fun k y => GrowR 7 InsR (ins.take k) y) 0 (Nat.zero_le _) ?_ ?_
   ·exact ⟨_, by cbv, .zero⟩
   intro k y hk hQ
   refine W.norm (k := ?_)
   unfold l28_0 ki vi mt mw fa ft ll lg lt iz ov oo
   by_cases hkn : k < nil
   ·have hki : k < ins.length := by omega
    obtain ⟨ek, hek, hRk⟩ := hI.at k hki
    have hxk : ins[k]? = some ins[k] := List.getElem?_eq_getElem hki
    have hxa := hx _ (List.getElem_mem hki)
    generalize ins[k] = x at hRk hxk hxa
    obtain ⟨op, dst, xa, xb, var, num, args⟩ := x
    obtain ⟨_, rfl, ⟨na, as, nal, rfl, hal, h6, hA, _⟩⟩ := hRk
    simp only at hxa h6
    have hafl := intR_flat hA
    have hins : ∀ r, [] ++ [as].flatten = r -> InsR ⟨op, dst, xa, xb, var, num, args⟩ [.v (.int .u8 op), .v (.int .i64 dst), .v (.int .i64 xa), .v (.int .i64 xb), .v (.int .i64 var), .v (.int .i64 num), .imm false 1 r] := fun r hr => ⟨_, rfl, slA_own (by subst hr; simpa using hA)⟩
    rcases hQ with ⟨rfl, hy⟩ | ⟨ry, ny, rfl, hyl, hyn, hyR⟩
    ·
     repeat' (first | refine W.seq ?_ | refine W.block ?_ | refine W.skip ?_ | refine W.frz (k := ?_) | (refine W.condL (h := ?_); change W _ _ _ _) | refine W.regS ?_ | refine WS.done ?_ | refine WS.stoApp (h := fun r hr => ?_) | refine WS.pre (n := 200) (k := ?_) | refine WS.len (h := ?_) | refine WS.iaddr (h := ?_) | (refine WS.cmp (k1 := fun h => ?_) (k2 := fun h => ?_) <;> simp only [cmpP, oC, nTr, ne_eq] at h <;> (try (exfalso; omega))) | refine WS.inc (h := ?_) | refine WS.app (hn := (news_imm (by assumption))) (h := ?_) | refine WS.consN (n := 60) (k := ?_) | fail)
     exact ⟨by omega, _, by cbv, GrowR.step0 hxk (hins r hr) hy⟩
    ·have hny : ny <= 100000 := by rw [hyn, List.length_take]; omega
     repeat' (first | refine W.seq ?_ | refine W.block ?_ | refine W.skip ?_ | refine W.frz (k := ?_) | (refine W.condL (h := ?_); change W _ _ _ _) | refine W.regS ?_ | refine WS.done ?_ | refine WS.stoApp (h := fun r hr => ?_) | refine WS.pre (n := 200) (k := ?_) | refine WS.len (h := ?_) | refine WS.iaddr (h := ?_) | (refine WS.cmp (k1 := fun h => ?_) (k2 := fun h => ?_) <;> simp only [cmpP, oC, nTr, ne_eq] at h <;> (try (exfalso; omega))) | refine WS.inc (h := ?_) | refine WS.app (hn := (news_imm (by assumption))) (h := ?_) | refine WS.app (h := ?_) | refine WS.consN (n := 60) (k := ?_) | fail)
     exact ⟨by omega, _, by cbv, GrowR.step hxk (hins _ ‹[] ++ [as].flatten = _›) hyR hr⟩
   ·have hk' : ins.take k = ins := List.take_of_length_le (by omega)
    rcases hQ with ⟨rfl, hy⟩ | ⟨ry, ny, rfl, hyl, hyn, hyR⟩
    ·
     repeat' (first | refine W.seq ?_ | refine W.exit ?_ | refine W.frz (k := ?_) | (refine W.condL (h := ?_); change W _ _ _ _) | refine W.regS ?_ | refine WS.done ?_ | refine WS.stoApp (h := fun r hr => ?_) | refine WS.pre (n := 200) (k := ?_) | refine WS.len (h := ?_) | refine WS.iaddr (h := ?_) | (refine WS.cmp (k1 := fun h => ?_) (k2 := fun h => ?_) <;> simp only [cmpP, oC, nTr, ne_eq] at h <;> (try (exfalso; omega))) | refine WS.inc (h := ?_) | refine WS.app (h := ?_) | refine WS.consN (n := 60) (k := ?_) | fail)
     first
      | exact ⟨by omega, _, by cbv, hg0 _ (hblk _ (slA_frz0 hy hk')) hz⟩
      | exact ⟨by omega, _, by cbv, hg1 _ (hblk _ (slA_frz0 hy hk')) _ _ hzR hr⟩
    ·
     repeat' (first | refine W.seq ?_ | refine W.exit ?_ | refine W.frz (k := ?_) | (refine W.condL (h := ?_); change W _ _ _ _) | refine W.regS ?_ | refine WS.done ?_ | refine WS.stoApp (h := fun r hr => ?_) | refine WS.pre (n := 200) (k := ?_) | refine WS.len (h := ?_) | refine WS.iaddr (h := ?_) | (refine WS.cmp (k1 := fun h => ?_) (k2 := fun h => ?_) <;> simp only [cmpP, oC, nTr, ne_eq] at h <;> (try (exfalso; omega))) | refine WS.inc (h := ?_) | refine WS.app (h := ?_) | refine WS.consN (n := 60) (k := ?_) | fail)
     first
      | exact ⟨by omega, _, by cbv, hg0 _ (hblk _ (slA_frz hyR hk')) hz⟩
      | exact ⟨by omega, _, by cbv, hg1 _ (hblk _ (slA_frz hyR hk')) _ _ hzR hr⟩
 ·have hi' : f.blocks.take i = f.blocks := List.take_of_length_le (by omega)
  rcases hP with ⟨rfl, hz⟩ | ⟨rz, nz, rfl, hzl, hzn, hzR⟩
  ·
   repeat' (first | refine W.seq ?_ | refine W.easy (n := 200) (k := ?_) | refine W.ret ?_ | refine W.exit ?_ | refine W.frz (k := ?_) | refine Ret.ret (k := ?_) | (refine W.condL (h := ?_); change W _ _ _ _) | refine W.regS ?_ | refine WS.done ?_ | refine WS.pre (n := 200) (k := ?_) | refine WS.len (h := ?_) | (refine WS.cmp (k1 := fun h => ?_) (k2 := fun h => ?_) <;> simp only [cmpP, oC, nTr, ne_eq] at h <;> (try (exfalso; omega))) | fail)
   exact ⟨_, rfl, _, _, rfl, slA_own hr', slA_frz0 hz hi'⟩
  ·
   repeat' (first | refine W.seq ?_ | refine W.easy (n := 200) (k := ?_) | refine W.ret ?_ | refine W.exit ?_ | refine W.frz (k := ?_) | refine Ret.ret (k := ?_) | (refine W.condL (h := ?_); change W _ _ _ _) | refine W.regS ?_ | refine WS.done ?_ | refine WS.pre (n := 200) (k := ?_) | refine WS.len (h := ?_) | (refine WS.cmp (k1 := fun h => ?_) (k2 := fun h => ?_) <;> simp only [cmpP, oC, nTr, ne_eq] at h <;> (try (exfalso; omega))) | fail)
   exact ⟨_, rfl, _, _, rfl, slA_own hr', slA_frz hzR hi'⟩
theorem copy_ok {u : TUnit} {e : List A} (h : UnitR u e) (hs : ∀ f, f ∈ u.funcs -> FuncSmall f) (hn : u.funcs.length <= 100000 /\ u.points.length <= 100000) : WC E 11 [.agg e] [] fun r _ => ∃ e', r = .agg e' /\ UnitR u e' := by
 obtain ⟨funcs, main, points⟩ := u
 obtain ⟨_, _, rfl, ⟨nf, fs, n, rfl, hfl, h1, hf, _⟩, ⟨np, ps, m, rfl, hpl, h2, hP, _⟩⟩ := h
 simp only at hs hn h1 h2 hf hP
 have hpf := pointR_flat hP
 refine WC.enter rfl rfl rfl ?_
 unfold b11 ki vi mw ft ll lt ov oo
 repeat' (first | refine W.seq ?_ | refine W.easy (n := 200) (k := ?_) | refine W.block ?_ | refine W.frz (k := ?_) | fail)
 refine W.forS n (fun i (x : A) σ => sn 3 i (sb 0 0 x σ)) (fun i x => GrowR 6 FuncR (funcs.take i) x) 0 (Nat.zero_le _) ?_ ?_
 ·exact ⟨_, by cbv, .zero⟩
 intro i x hi hQ
 refine W.norm (k := ?_)
 unfold l11_0 ki vi mt mw ft ll lg iz ov oo
 by_cases hin : i < n
 ·have hib : i < funcs.length := by omega
  obtain ⟨e, he, hR⟩ := hf.at i hib
  have hbi : funcs[i]? = some funcs[i] := List.getElem?_eq_getElem hib
  have hsf := hs _ (List.getElem_mem hib)
  generalize funcs[i] = f at hR hbi hsf
  have hc := copyFunc_ok hR hsf
  have hlen : e.length = 6 := by obtain ⟨_, _, rfl, _, _⟩ := hR; rfl
  rcases hQ with ⟨rfl, hy⟩ | ⟨ry, ny, rfl, hyl, hyn, hyR⟩
  case' inr =>
   have hny : ny <= 100000 := by rw [hyn, List.length_take]; omega
  all_goals
   obtain ⟨_, _, rfl, ⟨nv, vs, nvl, rfl, hvl, h3, hv, _⟩, ⟨nb, bs, nbl, rfl, hbl, h4, hb, _⟩⟩ := hR
   repeat' (first | refine W.seq ?_ | refine W.block ?_ | refine W.skip ?_ | refine W.frz (k := ?_) | (refine W.condL (h := ?_); change W _ _ _ _) | refine W.regS ?_ | refine WS.done ?_ | refine WS.pre (n := 200) (k := ?_) | refine WS.len (h := ?_) | (refine WS.cmp (k1 := fun h => ?_) (k2 := fun h => ?_) <;> simp only [cmpP, oC, nTr, ne_eq] at h <;> (try (exfalso; omega))) | refine W.beginD (h := ?_) | refine WD.pre (n := 200) (ha := rfl) (k := ?_) | refine WD.iaddr (h := ?_) | fail)
  all_goals
   refine WD.qcall (hc := (hc)) (k := ?_)
   rintro _ _ ⟨e', rfl, hR'⟩
   have hR2 := hR'
   obtain ⟨_, _, rfl, ⟨nv', vs', nvl', rfl, hvl', h3', hv', _⟩, ⟨nb', bs', nbl', rfl, hbl', h4', hb', _⟩⟩ := hR'
   refine ⟨_, _, _, by cbv; first | done | fail, by cbv; first | done | fail, by cbv; first | done | fail, ?_⟩
  all_goals
   repeat' (first | refine W.regS ?_ | refine WS.done ?_ | refine WS.pre (n := 200) (k := ?_) | refine WS.inc (h := ?_) | refine WS.consN (n := 60) (k := ?_) | (refine WD.done ⟨_, by cbv; first | done | fail, ?_⟩; dsimp only) | refine WD.stoApp (h := fun r hr => ?_) | refine WD.pre (n := 200) (ha := rfl) (k := ?_) | refine WD.app (h := ?_) | refine WD.oneN (n := 60) (k := ?_) | fail)
  all_goals first
   | exact ⟨by omega, _, by cbv, GrowR.step0 hbi hR2 hy⟩
   | exact ⟨by omega, _, by cbv, GrowR.step hbi hR2 hyR hr⟩
 ·have hi' : funcs.take i = funcs := List.take_of_length_le (by omega)
  rcases hQ with ⟨rfl, hy⟩ | ⟨ry, ny, rfl, hyl, hyn, hyR⟩
  ·
   repeat' (first | refine W.seq ?_ | refine W.easy (n := 200) (k := ?_) | refine W.ret ?_ | refine W.exit ?_ | refine W.frz (k := ?_) | refine Ret.ret (k := ?_) | (refine W.condL (h := ?_); change W _ _ _ _) | refine W.regS ?_ | refine WS.done ?_ | refine WS.stoApp (h := fun r hr => ?_) | refine WS.pre (n := 200) (k := ?_) | refine WS.len (h := ?_) | (refine WS.cmp (k1 := fun h => ?_) (k2 := fun h => ?_) <;> simp only [cmpP, oC, nTr, ne_eq] at h <;> (try (exfalso; omega))) | refine WS.app (hn := (news_imm (by assumption))) (h := ?_) | fail)
   exact ⟨_, rfl, _, _, rfl, slA_frz0 hy hi', slA_own (by subst hr; simpa using hP)⟩
  ·
   repeat' (first | refine W.seq ?_ | refine W.easy (n := 200) (k := ?_) | refine W.ret ?_ | refine W.exit ?_ | refine W.frz (k := ?_) | refine Ret.ret (k := ?_) | (refine W.condL (h := ?_); change W _ _ _ _) | refine W.regS ?_ | refine WS.done ?_ | refine WS.stoApp (h := fun r hr => ?_) | refine WS.pre (n := 200) (k := ?_) | refine WS.len (h := ?_) | (refine WS.cmp (k1 := fun h => ?_) (k2 := fun h => ?_) <;> simp only [cmpP, oC, nTr, ne_eq] at h <;> (try (exfalso; omega))) | refine WS.app (hn := (news_imm (by assumption))) (h := ?_) | fail)
   exact ⟨_, rfl, _, _, rfl, slA_frz hyR hi', slA_own (by subst hr; simpa using hP)⟩
end Go.Ab.Ytkmmpbmmmbebgaa
