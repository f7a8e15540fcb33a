/- Sizes of a function's rows. -/
import Derived.Test.YtkmmpbmmmbebgaaJust
set_option linter.all false
namespace Go.Ab.Ytkmmpbmmmbebgaa
set_option maxRecDepth 100000
set_option maxHeartbeats 8000000
theorem funcW_small {u : TUnit} (h : largeN u <= 6000) (hz : uSz u <= 1100000) : ∀ f, f ∈ u.funcs -> funcW f <= 1200000 := fun f hf => by
 have h1 := mem_le_sum (g := funcSum) hf
 have h2 := mem_le_sum (g := fSz) hf
 have h3 : funcW f <= (f.blocks.map bSz).sum + insSum f := by
  unfold funcW insSum
  have key : ∀ b : TBlock, insW b <= bSz b + b.ins.length := fun b => by
   unfold insW bSz
   induction b.ins with
   | nil => simp
   | cons x l ih => simp only [List.map_cons, List.sum_cons, iSz, List.length_cons] at ih ⊢; omega
  induction f.blocks with
  | nil => simp
  | cons b l ih => have := key b; simp only [List.map_cons, List.sum_cons]; omega
 unfold largeN at h
 unfold uSz at hz
 have e1 : funcSum f = f.blocks.length + f.vars.length + insSum f := rfl
 have e2 : fSz f = 1 + (f.vars.map vSz).sum + (f.blocks.map bSz).sum := rfl
 omega
/-- One block's instructions. -/
theorem just_inner {nf : Bool} {fs : List (List A)} {main : Int} {np : Bool} {ps : List (List A)} {nf2 : Bool} {fs2 : List (List A)} {np2 : Bool} {ps2 : List (List A)} {name : ByteArray} {params : Int} {result : Bool} {sz : Nat} {nv nb nv' nb' : Bool} {vs vs' bs bs' : List (List A)} {i j : Nat} {ni : Bool} {is : List (List A)} {nil : Nat} {kind a to els : Int} {ins : List TIns} {es : List (List A)} {o : List Bool} {Q : Ex -> St -> Prop}
  (he : bs'[j]? = some [.imm ni 7 is, .v (.int .u8 kind), .v (.int .i64 a), .v (.int .i64 to), .v (.int .i64 els)]) (hil : is.length = nil) (hnil : nil = ins.length) (hI : RowR InsR ins is) (hnl : nil <= 100000) (hR : RowR BRow o es) (hol : o.length = sz)
  (hx : ∀ x, x ∈ ins -> x.op ≠ 35 /\ (hasF x -> 0 <= x.dst) /\ makesF x < sz /\ (x.op = 46 -> x.a < sz)) (hsz : sz <= 2000)
  (hex : ∀ y, GrowR 7 InsR (ins.filterMap (dceI o)) y -> Q (.exit 4) ⟨[.agg [.imm nf 6 fs, .v (.int .i64 main), .imm np 3 ps], .top, .pt 0 0, .v (.bool false), .pt 1 0, .v (.bool false), .v (.int .i64 (Int.ofNat i)), .v (.bool true), .pt 2 0, .pt 3 0, .v (.bool false), .v (.int .i64 (Int.ofNat j)), .v (.bool true),
     .v (.int .i64 (Int.ofNat nil)), .v (.bool false), .top, .imm false 1 es, .top, .top, .top, y, .top], [],
    [.cells [.imm nf 6 fs, .v (.int .i64 main), .imm np 3 ps], .cells [.imm nf2 6 fs2, .v (.int .i64 main), .imm np2 3 ps2], .cells [.v (.string name), .v (.int .i64 params), .v (.bool result), .imm nv' 6 vs', .imm nb' 5 bs', .v (.int .i64 (Int.ofNat sz))], .cells [.v (.string name), .v (.int .i64 params), .v (.bool result), .imm nv 6 vs, .imm nb 5 bs, .v (.int .i64 (Int.ofNat sz))]]⟩) :
  W E (.loop [14, 15, 17, 18, 19] l5_0) ⟨[.agg [.imm nf 6 fs, .v (.int .i64 main), .imm np 3 ps], .top, .pt 0 0, .v (.bool false), .pt 1 0, .v (.bool false), .v (.int .i64 (Int.ofNat i)), .v (.bool true), .pt 2 0, .pt 3 0, .v (.bool false), .v (.int .i64 (Int.ofNat j)), .v (.bool true),
    .v (.int .i64 0), .top, .top, .imm false 1 es, .top, .top, .top, .v (.slice none 0 0), .top], [],
   [.cells [.imm nf 6 fs, .v (.int .i64 main), .imm np 3 ps], .cells [.imm nf2 6 fs2, .v (.int .i64 main), .imm np2 3 ps2], .cells [.v (.string name), .v (.int .i64 params), .v (.bool result), .imm nv' 6 vs', .imm nb' 5 bs', .v (.int .i64 (Int.ofNat sz))], .cells [.v (.string name), .v (.int .i64 params), .v (.bool result), .imm nv 6 vs, .imm nb 5 bs, .v (.int .i64 (Int.ofNat sz))]]⟩ Q := by
 refine W.forA nil (fun k (x : A) σ => sn 13 k (sv 20 x σ)) (fun k x => GrowR 7 InsR ((ins.take k).filterMap (dceI o)) x) 0 (Nat.zero_le _) ?_ ?_
 ·exact ⟨_, by cbv, .inl ⟨rfl, rfl⟩⟩
 rintro QB kB k x hk hQ
 by_cases hkn : k < nil
 ·as_aux_lemma =>
   have hki : k < ins.length := by omega
   obtain ⟨ek, hek, hRk⟩ := hI.at k hki
   have hxk : ins[k]? = some ins[k] := List.getElem?_eq_getElem hki
   obtain ⟨h35, hdst, hmk, hra⟩ := hx _ (List.getElem_mem hki)
   have hS : ∀ y z, dceI o ins[k] = some y -> GrowR 7 InsR ((ins.take k).filterMap (dceI o) ++ [y]) z -> GrowR 7 InsR ((ins.take (k + 1)).filterMap (dceI o)) z := fun y z h1 h2 => by rw [fm_some hxk h1]; exact h2
   have hN : ∀ z, dceI o ins[k] = none -> GrowR 7 InsR ((ins.take k).filterMap (dceI o)) z -> GrowR 7 InsR ((ins.take (k + 1)).filterMap (dceI o)) z := fun z h1 h2 => by rw [fm_none hxk h1]; exact h2
   have hpl : ((ins.take k).filterMap (dceI o)).length <= 100000 := by
    have h1 := List.length_filterMap_le (dceI o) (ins.take k)
    rw [List.length_take] at h1
    omega
   generalize (ins.take k).filterMap (dceI o) = pw at *
   generalize ins[k] = x' at *
   have hd := dceI_eq (o := o) h35 hdst
   have cr := root_ok hRk
   have cm := makes_ok hRk
   have hQ0 := hQ
   have hdS : x'.op ≠ 46 -> (rootP x' \/ 0 <= makesF x' /\ o.getD (makesF x').toNat false = true) -> dceI o x' = some x' := fun h1 h2 => by
    have hc : rootP x' \/ x'.op = 46 \/ (0 <= makesF x' /\ o.getD (makesF x').toNat false = true) := h2.elim .inl fun h => .inr (.inr h)
    rw [hd, if_pos hc]
    exact congrArg some (if_neg fun h => h1 h.1)
   have hdN : x'.op ≠ 46 -> ¬ rootP x' -> ¬ (0 <= makesF x' /\ o.getD (makesF x').toNat false = true) -> dceI o x' = none := fun h1 h2 h3 => by
    rw [hd]
    exact if_neg fun h => h.elim h2 fun h => h.elim h1 h3
   have hd46 : x'.op = 46 -> (makesF x' = -1 /\ dceI o x' = some (if 0 <= x'.a /\ o.getD x'.a.toNat false = false then { x' with a := -1 } else x')) := fun h => by
    refine ⟨by unfold makesF; rw [if_pos (by omega)], ?_⟩
    have hc : rootP x' \/ x'.op = 46 \/ (0 <= makesF x' /\ o.getD (makesF x').toNat false = true) := .inr (.inl h)
    rw [hd, if_pos hc]
    by_cases hg : 0 <= x'.a /\ o.getD x'.a.toNat false = false
    ·rw [if_pos hg, if_pos ⟨h, hg⟩]
    ·rw [if_neg hg, if_neg fun hh => hg hh.2]
   have hrm : x'.op ≠ 46 -> makesF x' < 0 -> rootP x' := fun h1 h2 => .inr ⟨h1, h2⟩
   have hnr : ∀ y : TIns, y.op = 46 -> ¬ rootP y := fun y h hr => by
    unfold rootP stayF at hr
    omega
   clear hd
   generalize makesF x' = mv at *
   obtain ⟨op, dst, xa, xb, var, num, args⟩ := x'
   have hRk0 := hRk
   obtain ⟨_, rfl, ⟨na, as, nal, rfl, hal', h6, hA, hna⟩⟩ := hRk
   simp only at hdS hdN hd46 hrm hra hdst h35
   have leaf : ∀ (y : TIns) (ey : List A), dceI o ⟨op, dst, xa, xb, var, num, args⟩ = some y -> InsR y ey -> (∀ r r' : List (List A), RowR InsR pw r -> r ++ [[ey]].flatten = r' -> GrowR 7 InsR ((ins.take (k + 1)).filterMap (dceI o)) (.own 7 r')) /\ (pw = [] -> GrowR 7 InsR ((ins.take (k + 1)).filterMap (dceI o)) (.own 7 [ey])) := fun y ey h1 h2 => ⟨fun r r' h3 h4 => hS _ _ h1 (growR_snoc (R := InsR) h2 h3 h4), fun h3 => hS _ _ h1 (growR_one h2 h3)⟩
   by_cases h46 : op = 46
   ·subst h46
    obtain ⟨rfl, hd⟩ := hd46 rfl
    have hRy : InsR ⟨46, dst, -1, xb, var, num, args⟩ _ := ⟨_, rfl, ⟨na, as, nal, rfl, hal', h6, hA, hna⟩⟩
    have cr' := root_ok hRy
    have hxa := hra rfl
    by_cases h0 : 0 <= xa
    ·obtain ⟨q, rfl⟩ : ∃ q : Nat, xa = (q : Int) := ⟨xa.toNat, by omega⟩
     have hqo : q < o.length := by omega
     obtain ⟨eq, heq, hbq⟩ := hR.at q hqo
     have hqe : q < es.length := (List.getElem?_eq_some_iff.1 heq).1
     have hoq : o[q]? = some o[q] := List.getElem?_eq_getElem hqo
     generalize o[q] = bq at *
     obtain rfl : eq = [.v (.bool bq)] := hbq
     have hgq : o.getD (((q : Nat) : Int).toNat) false = bq := by rw [Int.toNat_natCast, List.getD_eq_getElem?_getD, hoq]; rfl
     rw [hgq] at hd
     cases bq
     ·rw [if_pos ⟨h0, rfl⟩] at hd
      have hlf := leaf _ _ hd hRy
      as_aux_lemma =>
       rcases hQ with ⟨rfl, hq⟩ | ⟨rq, nq, rfl, hql, hqn, hqR⟩
       case' inr => have hnq : rq.length <= 100000 := by omega
       all_goals
        refine W.norm (k := ?_)
        unfold l5_0 ki kb vi mt mw fa ft ll lg lt iz og ov oo
        repeat' (first | refine W.seq ?_ | refine W.block ?_ | refine W.skip ?_ | (refine W.condL (h := ?_); change W _ _ _ _) | refine W.regS ?_ | refine WS.done ?_ | refine WS.pre (n := 200) (k := ?_) | refine WS.len (h := ?_) | refine WS.iaddr (h := ?_) | (refine WS.cmp (k1 := fun h => ?_) (k2 := fun h => ?_) <;> simp only [cmpP, oC, nTr, ne_eq] at h <;> (try (exfalso; omega))) | refine WS.consN (n := 60) (k := ?_) | fail)
        refine WS.call (hc := (cm)) (k := ?_)
        rintro _ _ rfl
        refine ⟨_, _, _, by cbv; first | done | fail, by cbv; first | done | fail, ?_⟩
        repeat' (first | refine W.seq ?_ | refine W.easy (n := 200) (k := ?_) | refine W.frz (k := ?_) | (refine W.condL (h := ?_); change W _ _ _ _) | refine W.regS ?_ | refine WS.done ?_ | refine WS.pre (n := 200) (k := ?_) | (refine WS.guard (h := ?_); change WS _ _ _ _) | refine WS.iaddr (h := ?_) | (refine WS.cmp (k1 := fun h => ?_) (k2 := fun h => ?_) <;> simp only [cmpP, oC, nTr, ne_eq] at h <;> (try (exfalso; omega))) | refine WS.consN (n := 60) (k := ?_) | fail)
        refine WS.call (hc := (cr')) (k := ?_)
        rintro _ _ (⟨rfl, hrp⟩ | ⟨rfl, hrp⟩)
        case' inl => exact absurd hrp (hnr _ rfl)
        refine ⟨_, _, _, by cbv; first | done | fail, by cbv; first | done | fail, ?_⟩
        repeat' (first | refine W.seq ?_ | refine W.frz (k := ?_) | (refine W.condL (h := ?_); change W _ _ _ _) | refine W.regS ?_ | refine WS.done ?_ | refine WS.setApp (h := fun r hr => ?_) | refine WS.pre (n := 200) (k := ?_) | (refine WS.guard (h := ?_); change WS _ _ _ _) | (refine WS.cmp (k1 := fun h => ?_) (k2 := fun h => ?_) <;> simp only [cmpP, oC, nTr, ne_eq] at h <;> (try (exfalso; omega))) | refine WS.inc (h := ?_) | refine WS.app (h := ?_) | refine WS.consN (n := 60) (k := ?_) | fail)
       all_goals exact ⟨by omega, _, by cbv, by first | exact hlf.1 _ _ hqR (by assumption) | exact hlf.2 hq⟩
     ·rw [if_neg (fun h => by cases h.2)] at hd
      have hlf := leaf _ _ hd hRk0
      as_aux_lemma =>
       rcases hQ with ⟨rfl, hq⟩ | ⟨rq, nq, rfl, hql, hqn, hqR⟩
       case' inr => have hnq : rq.length <= 100000 := by omega
       all_goals
        refine W.norm (k := ?_)
        unfold l5_0 ki kb vi mt mw fa ft ll lg lt iz og ov oo
        repeat' (first | refine W.seq ?_ | refine W.block ?_ | refine W.skip ?_ | (refine W.condL (h := ?_); change W _ _ _ _) | refine W.regS ?_ | refine WS.done ?_ | refine WS.pre (n := 200) (k := ?_) | refine WS.len (h := ?_) | refine WS.iaddr (h := ?_) | (refine WS.cmp (k1 := fun h => ?_) (k2 := fun h => ?_) <;> simp only [cmpP, oC, nTr, ne_eq] at h <;> (try (exfalso; omega))) | refine WS.consN (n := 60) (k := ?_) | fail)
        refine WS.call (hc := (cm)) (k := ?_)
        rintro _ _ rfl
        refine ⟨_, _, _, by cbv; first | done | fail, by cbv; first | done | fail, ?_⟩
        repeat' (first | refine W.seq ?_ | refine W.skip ?_ | refine W.frz (k := ?_) | (refine W.condL (h := ?_); change W _ _ _ _) | refine W.regS ?_ | refine WS.done ?_ | refine WS.pre (n := 200) (k := ?_) | (refine WS.guard (h := ?_); change WS _ _ _ _) | refine WS.iaddr (h := ?_) | (refine WS.cmp (k1 := fun h => ?_) (k2 := fun h => ?_) <;> simp only [cmpP, oC, nTr, ne_eq] at h <;> (try (exfalso; omega))) | refine WS.consN (n := 60) (k := ?_) | fail)
        refine WS.call (hc := (cr)) (k := ?_)
        rintro _ _ (⟨rfl, hrp⟩ | ⟨rfl, hrp⟩)
        case' inl => exact absurd hrp (hnr _ rfl)
        refine ⟨_, _, _, by cbv; first | done | fail, by cbv; first | done | fail, ?_⟩
        repeat' (first | refine W.seq ?_ | refine W.frz (k := ?_) | (refine W.condL (h := ?_); change W _ _ _ _) | refine W.regS ?_ | refine WS.done ?_ | refine WS.setApp (h := fun r hr => ?_) | refine WS.pre (n := 200) (k := ?_) | (refine WS.guard (h := ?_); change WS _ _ _ _) | (refine WS.cmp (k1 := fun h => ?_) (k2 := fun h => ?_) <;> simp only [cmpP, oC, nTr, ne_eq] at h <;> (try (exfalso; omega))) | refine WS.inc (h := ?_) | refine WS.app (h := ?_) | refine WS.consN (n := 60) (k := ?_) | fail)
       all_goals exact ⟨by omega, _, by cbv, by first | exact hlf.1 _ _ hqR (by assumption) | exact hlf.2 hq⟩
    ·rw [if_neg (fun h => h0 h.1)] at hd
     have hlf := leaf _ _ hd hRk0
     as_aux_lemma =>
      rcases hQ with ⟨rfl, hq⟩ | ⟨rq, nq, rfl, hql, hqn, hqR⟩
      case' inr => have hnq : rq.length <= 100000 := by omega
      all_goals
       refine W.norm (k := ?_)
       unfold l5_0 ki kb vi mt mw fa ft ll lg lt iz og ov oo
       repeat' (first | refine W.seq ?_ | refine W.block ?_ | refine W.skip ?_ | (refine W.condL (h := ?_); change W _ _ _ _) | refine W.regS ?_ | refine WS.done ?_ | refine WS.pre (n := 200) (k := ?_) | refine WS.len (h := ?_) | refine WS.iaddr (h := ?_) | (refine WS.cmp (k1 := fun h => ?_) (k2 := fun h => ?_) <;> simp only [cmpP, oC, nTr, ne_eq] at h <;> (try (exfalso; omega))) | refine WS.consN (n := 60) (k := ?_) | fail)
       refine WS.call (hc := (cm)) (k := ?_)
       rintro _ _ rfl
       refine ⟨_, _, _, by cbv; first | done | fail, by cbv; first | done | fail, ?_⟩
       repeat' (first | refine W.seq ?_ | refine W.skip ?_ | refine W.frz (k := ?_) | (refine W.condL (h := ?_); change W _ _ _ _) | refine W.regS ?_ | refine WS.done ?_ | refine WS.pre (n := 200) (k := ?_) | (refine WS.guard (h := ?_); change WS _ _ _ _) | (refine WS.cmp (k1 := fun h => ?_) (k2 := fun h => ?_) <;> simp only [cmpP, oC, nTr, ne_eq] at h <;> (try (exfalso; omega))) | refine WS.consN (n := 60) (k := ?_) | fail)
       refine WS.call (hc := (cr)) (k := ?_)
       rintro _ _ (⟨rfl, hrp⟩ | ⟨rfl, hrp⟩)
       case' inl => exact absurd hrp (hnr _ rfl)
       refine ⟨_, _, _, by cbv; first | done | fail, by cbv; first | done | fail, ?_⟩
       repeat' (first | refine W.seq ?_ | refine W.frz (k := ?_) | (refine W.condL (h := ?_); change W _ _ _ _) | refine W.regS ?_ | refine WS.done ?_ | refine WS.setApp (h := fun r hr => ?_) | refine WS.pre (n := 200) (k := ?_) | (refine WS.guard (h := ?_); change WS _ _ _ _) | (refine WS.cmp (k1 := fun h => ?_) (k2 := fun h => ?_) <;> simp only [cmpP, oC, nTr, ne_eq] at h <;> (try (exfalso; omega))) | refine WS.inc (h := ?_) | refine WS.app (h := ?_) | refine WS.consN (n := 60) (k := ?_) | fail)
      all_goals exact ⟨by omega, _, by cbv, by first | exact hlf.1 _ _ hqR (by assumption) | exact hlf.2 hq⟩
   ·have hdS := hdS h46
    have hdN := hdN h46
    have hrm := hrm h46
    by_cases hm0 : 0 <= mv
    ·obtain ⟨q, rfl⟩ : ∃ q : Nat, mv = (q : Int) := ⟨mv.toNat, by omega⟩
     have hqo : q < o.length := by omega
     obtain ⟨eq, heq, hbq⟩ := hR.at q hqo
     have hqe : q < es.length := (List.getElem?_eq_some_iff.1 heq).1
     have hoq : o[q]? = some o[q] := List.getElem?_eq_getElem hqo
     generalize o[q] = bq at *
     obtain rfl : eq = [.v (.bool bq)] := hbq
     have hgq : o.getD (((q : Nat) : Int).toNat) false = bq := by rw [Int.toNat_natCast, List.getD_eq_getElem?_getD, hoq]; rfl
     rw [hgq] at hdS hdN
     as_aux_lemma =>
      rcases hQ with ⟨rfl, hq⟩ | ⟨rq, nq, rfl, hql, hqn, hqR⟩
      case' inr => have hnq : rq.length <= 100000 := by omega
      all_goals
       refine W.norm (k := ?_)
       unfold l5_0 ki kb vi mt mw fa ft ll lg lt iz og ov oo
       repeat' (first | refine W.seq ?_ | refine W.block ?_ | refine W.skip ?_ | (refine W.condL (h := ?_); change W _ _ _ _) | refine W.regS ?_ | refine WS.done ?_ | refine WS.pre (n := 200) (k := ?_) | refine WS.len (h := ?_) | refine WS.iaddr (h := ?_) | (refine WS.cmp (k1 := fun h => ?_) (k2 := fun h => ?_) <;> simp only [cmpP, oC, nTr, ne_eq] at h <;> (try (exfalso; omega))) | refine WS.consN (n := 60) (k := ?_) | fail)
       refine WS.call (hc := (cm)) (k := ?_)
       rintro _ _ rfl
       refine ⟨_, _, _, by cbv; first | done | fail, by cbv; first | done | fail, ?_⟩
       repeat' (first | refine W.seq ?_ | refine W.skip ?_ | refine W.frz (k := ?_) | (refine W.condL (h := ?_); change W _ _ _ _) | refine W.regS ?_ | refine WS.done ?_ | refine WS.pre (n := 200) (k := ?_) | (refine WS.guard (h := ?_); change WS _ _ _ _) | (refine WS.cmp (k1 := fun h => ?_) (k2 := fun h => ?_) <;> simp only [cmpP, oC, nTr, ne_eq] at h <;> (try (exfalso; omega))) | refine WS.consN (n := 60) (k := ?_) | fail)
       refine WS.call (hc := (cr)) (k := ?_)
       rintro _ _ (⟨rfl, hrp⟩ | ⟨rfl, hrp⟩)
       case' inr => cases bq
       all_goals
        refine ⟨_, _, _, by cbv; first | done | fail, by cbv; first | done | fail, ?_⟩
        repeat' (first | refine W.seq ?_ | refine W.skip ?_ | refine W.frz (k := ?_) | (refine W.condL (h := ?_); change W _ _ _ _) | refine W.regS ?_ | refine WS.done ?_ | refine WS.setApp (h := fun r hr => ?_) | refine WS.pre (n := 200) (k := ?_) | (refine WS.guard (h := ?_); change WS _ _ _ _) | refine WS.iaddr (h := ?_) | (refine WS.cmp (k1 := fun h => ?_) (k2 := fun h => ?_) <;> simp only [cmpP, oC, nTr, ne_eq] at h <;> (try (exfalso; omega))) | refine WS.inc (h := ?_) | refine WS.app (h := ?_) | refine WS.consN (n := 60) (k := ?_) | fail)
      all_goals first
       | (refine ⟨by omega, _, by cbv, ?_⟩
          have hlf := leaf _ _ (hdS (.inl hrp)) hRk0
          first | exact hlf.1 _ _ hqR (by assumption) | exact hlf.2 hq)
       | (refine ⟨by omega, _, by cbv, ?_⟩
          have hlf := leaf _ _ (hdS (.inr ⟨hm0, rfl⟩)) hRk0
          first | exact hlf.1 _ _ hqR (by assumption) | exact hlf.2 hq)
       | exact ⟨by omega, _, by cbv, hN _ (hdN hrp fun h => by cases h.2) hQ0⟩
    ·as_aux_lemma =>
      rcases hQ with ⟨rfl, hq⟩ | ⟨rq, nq, rfl, hql, hqn, hqR⟩
      case' inr => have hnq : rq.length <= 100000 := by omega
      all_goals
       refine W.norm (k := ?_)
       unfold l5_0 ki kb vi mt mw fa ft ll lg lt iz og ov oo
       repeat' (first | refine W.seq ?_ | refine W.block ?_ | refine W.skip ?_ | (refine W.condL (h := ?_); change W _ _ _ _) | refine W.regS ?_ | refine WS.done ?_ | refine WS.pre (n := 200) (k := ?_) | refine WS.len (h := ?_) | refine WS.iaddr (h := ?_) | (refine WS.cmp (k1 := fun h => ?_) (k2 := fun h => ?_) <;> simp only [cmpP, oC, nTr, ne_eq] at h <;> (try (exfalso; omega))) | refine WS.consN (n := 60) (k := ?_) | fail)
       refine WS.call (hc := (cm)) (k := ?_)
       rintro _ _ rfl
       refine ⟨_, _, _, by cbv; first | done | fail, by cbv; first | done | fail, ?_⟩
       repeat' (first | refine W.seq ?_ | refine W.skip ?_ | refine W.frz (k := ?_) | (refine W.condL (h := ?_); change W _ _ _ _) | refine W.regS ?_ | refine WS.done ?_ | refine WS.pre (n := 200) (k := ?_) | (refine WS.guard (h := ?_); change WS _ _ _ _) | (refine WS.cmp (k1 := fun h => ?_) (k2 := fun h => ?_) <;> simp only [cmpP, oC, nTr, ne_eq] at h <;> (try (exfalso; omega))) | refine WS.consN (n := 60) (k := ?_) | fail)
       refine WS.call (hc := (cr)) (k := ?_)
       rintro _ _ (⟨rfl, hrp⟩ | ⟨rfl, hrp⟩)
       case' inr => exact absurd (hrm (by omega)) hrp
       refine ⟨_, _, _, by cbv; first | done | fail, by cbv; first | done | fail, ?_⟩
       repeat' (first | refine W.seq ?_ | refine W.frz (k := ?_) | (refine W.condL (h := ?_); change W _ _ _ _) | refine W.regS ?_ | refine WS.done ?_ | refine WS.setApp (h := fun r hr => ?_) | refine WS.pre (n := 200) (k := ?_) | (refine WS.guard (h := ?_); change WS _ _ _ _) | refine WS.inc (h := ?_) | refine WS.app (h := ?_) | refine WS.consN (n := 60) (k := ?_) | fail)
      all_goals
       refine ⟨by omega, _, by cbv, ?_⟩
       have hlf := leaf _ _ (hdS (.inl hrp)) hRk0
       first | exact hlf.1 _ _ hqR (by assumption) | exact hlf.2 hq
 ·have hk' : ins.take k = ins := List.take_of_length_le (by omega)
  obtain rfl : k = nil := by omega
  rw [hk'] at hQ
  have hx := hex x hQ
  rcases hQ with ⟨rfl, hq⟩ | ⟨rq, nq, rfl, hql, hqn, hqR⟩ <;>
  ·
   refine W.norm (k := ?_)
   unfold l5_0 ki kb vi mt mw fa ft ll lg lt iz og ov oo
   repeat' (first | refine W.seq ?_ | refine W.exit ?_ | (refine W.condL (h := ?_); change W _ _ _ _) | refine W.regS ?_ | refine WS.done ?_ | refine WS.pre (n := 200) (k := ?_) | refine WS.len (h := ?_) | refine WS.iaddr (h := ?_) | (refine WS.cmp (k1 := fun h => ?_) (k2 := fun h => ?_) <;> simp only [cmpP, oC, nTr, ne_eq] at h <;> (try (exfalso; omega))) | fail)
   exact kB _ _ hx
end Go.Ab.Ytkmmpbmmmbebgaa
