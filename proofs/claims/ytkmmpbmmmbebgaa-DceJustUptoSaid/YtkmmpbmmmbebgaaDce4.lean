/- Dead instructions: a function with just what is needed. -/
import Derived.Test.YtkmmpbmmmbebgaaDce3
set_option linter.all false
namespace Go.Ab.Ytkmmpbmmmbebgaa
set_option maxRecDepth 100000
set_option maxHeartbeats 8000000
def dceI (o : List Bool) (x : TIns) : Option TIns :=
 if hasF x /\ o.getD x.dst.toNat false = false then none
 else some (if x.op = 46 /\ 0 <= x.a /\ o.getD x.a.toNat false = false then { x with a := -1 } else x)
def dceB (o : List Bool) (b : TBlock) : TBlock := { b with ins := b.ins.filterMap (dceI o) }
def dceF (o : List Bool) (f : TFunc) : TFunc := { f with blocks := f.blocks.map (dceB o) }
theorem growR_one {α : Type} {z : Nat} {R : α -> List A -> Prop} {l : List α} {x : α} {e : List A} (he : R x e) (hl : l = []) : GrowR z R (l ++ [x]) (.own z [e]) := by
 subst hl
 exact .inr ⟨_, _, rfl, rfl, rfl, .cons he .nil⟩
theorem fm_none {α β : Type} {g : α -> Option β} {l : List α} {k : Nat} {x : α} (h : l[k]? = some x) (hg : g x = none) : (l.take (k + 1)).filterMap g = (l.take k).filterMap g := by
 rw [take_snoc h, List.filterMap_append]
 simp [hg]
theorem fm_some {α β : Type} {g : α -> Option β} {l : List α} {k : Nat} {x : α} {y : β} (h : l[k]? = some x) (hg : g x = some y) : (l.take (k + 1)).filterMap g = (l.take k).filterMap g ++ [y] := by
 rw [take_snoc h, List.filterMap_append]
 simp [hg]
theorem needed_len {f : TFunc} {o : List Bool} (hd : DceOK f) (h : Needed f o) : o.length = f.size.toNat := by
 obtain ⟨o1, h1, rfl⟩ := h
 rw [keep_len]
 have hg : GoodN f.size.toNat (0 + (f.blocks.map insW).sum) (phase f f.blocks) := by
  have hn : ((f.size.toNat : Nat) : Int) = f.size := by have := hd.size.1; omega
  refine foldB_good f.blocks 0 _ (goodN_zero _) fun b hb => ⟨fun x hx => ?_, fun hk => ?_⟩
  ·have := hd.ins b hb x hx
   unfold insOK
   rw [hn]
   exact this
  ·rw [hn]
   exact hd.term b hb hk
 have key : ∀ (ms : List (List Int)) (s : List Bool × List Int) (o1 : List Bool), Pops ms s o1 -> o1.length = s.1.length := by
  intro ms s o1 h
  induction h with
  | done => rfl
  | step _ ih => rw [ih, needF_len]
 rw [key _ _ _ h1]
 exact hg.s.len
theorem function_ok {f : TFunc} {e : List A} (h : FuncR f e) (hs : FuncSmall f) (hd : DceOK f) (hbd : ∀ b, b ∈ f.blocks -> ∀ x, x ∈ b.ins -> x.op = 46 -> x.a < f.size) : WC E 29 [.agg e] [] fun r _ => ∃ o e', Needed f o /\ r = .agg e' /\ FuncR (dceF o f) e' := by
 have cn := needed_ok h hs hd
 have hlen := fun o => needed_len (o := o) hd
 obtain ⟨name, params, result, vars, blocks, size⟩ := f
 obtain ⟨sz, hsz⟩ : ∃ sz : Nat, size = Int.ofNat sz := ⟨size.toNat, by have := hd.size.1; simp only [Int.ofNat_eq_natCast] at this ⊢; omega⟩
 subst hsz
 have hsl : sz <= 524288 := by have := hd.size.2; simp only [Int.ofNat_eq_natCast] at this; omega
 obtain ⟨_, _, rfl, ⟨nv, vs, nvl, rfl, hvl, h3, hv, _⟩, ⟨nb, bs, nbl, rfl, hbl, h4, hb, _⟩⟩ := h
 have hsb := hs.b
 simp only at h3 h4 hv hb hsb hbd hlen
 have hvs : SlA 6 VarR vars (.imm nv 6 vs) := ⟨nv, vs, nvl, rfl, hvl, h3, hv, ‹_›⟩
 refine WC.enter rfl rfl rfl ?_
 unfold b29 ki vi mw ft lt ov oo
 repeat' (first | refine W.seq ?_ | refine W.easy (n := 200) (k := ?_) | refine W.frz (k := ?_) | refine W.regS ?_ | refine WS.pre (n := 200) (k := ?_) | fail)
 refine WS.call (hc := (cn)) (k := ?_)
 rintro _ _ ⟨o, es, hO, rfl, hE⟩
 have hol : o.length = sz := hlen o hO
 have hel : es.length = sz := by rw [hE.len]; exact hol
 refine ⟨_, _, _, by cbv; first | done | fail, by cbv; first | done | fail, ?_⟩
 repeat' (first | refine W.seq ?_ | refine W.easy (n := 200) (k := ?_) | refine W.block ?_ | refine W.frz (k := ?_) | refine W.regS ?_ | refine WS.done ?_ | refine WS.pre (n := 200) (k := ?_) | refine WS.len (h := ?_) | refine WS.consN (n := 60) (k := ?_) | fail)
 refine W.forS nbl (fun i (x : A) σ => sn 4 i (sb 2 4 x σ)) (fun i x => GrowR 5 BlockR ((blocks.take i).map (dceB o)) x) 0 (Nat.zero_le _) ?_ ?_
 ·exact ⟨_, by cbv, .inl ⟨rfl, rfl⟩⟩
 intro i x hi hP
 refine W.norm (k := ?_)
 unfold l29_1 ki vi mt mw ft ll lg lt ov oo
 by_cases hin : i < nbl
 ·have hib : i < blocks.length := by omega
  obtain ⟨eb, heb, hRb⟩ := hb.at i hib
  have hbi : blocks[i]? = some blocks[i] := List.getElem?_eq_getElem hib
  have hil := hs.i _ (List.getElem_mem hib)
  have hx := hs.a _ (List.getElem_mem hib)
  have hdi := hd.ins _ (List.getElem_mem hib)
  have hbdi := hbd _ (List.getElem_mem hib)
  have htm : (blocks.take (i + 1)).map (dceB o) = (blocks.take i).map (dceB o) ++ [dceB o blocks[i]] := by rw [take_snoc hbi, List.map_append]; rfl
  generalize blocks[i] = b at hRb hbi hil hx hdi hbdi htm
  obtain ⟨ins, ⟨kind, a, to, els⟩⟩ := b
  obtain ⟨_, rfl, ⟨ni, is, nil, rfl, hil2, h5, hI, _⟩⟩ := hRb
  simp only at hil h5 hI hx hdi hbdi
  rcases hP with ⟨rfl, hz⟩ | ⟨rz, nz, rfl, hzl, hzn, hzR⟩
  case' inr =>
   have hnz : nz <= 100000 := by rw [hzn, List.length_map, List.length_take]; omega
  all_goals
   repeat' (first | refine W.seq ?_ | refine W.easy (n := 200) (k := ?_) | refine W.block ?_ | refine W.skip ?_ | (refine W.condL (h := ?_); change W _ _ _ _) | refine W.regS ?_ | refine WS.done ?_ | refine WS.pre (n := 200) (k := ?_) | refine WS.len (h := ?_) | refine WS.iaddr (h := ?_) | (refine WS.cmp (k1 := fun h => ?_) (k2 := fun h => ?_) <;> simp only [cmpP, oC, nTr, ne_eq] at h <;> (try (exfalso; omega))) | refine WS.consN (n := 60) (k := ?_) | fail)
  all_goals
   refine W.forS nil (fun k (y : A) σ => sn 9 k (sv 17 y σ)) (fun k y => GrowR 7 InsR ((ins.take k).filterMap (dceI o)) y) 0 (Nat.zero_le _) ?_ ?_
   ·exact ⟨_, by cbv, .inl ⟨rfl, rfl⟩⟩
   intro k y hk hQ
   refine W.norm (k := ?_)
   unfold l29_0 ki kb vi mt mw ft ll lg lt og ov oo
   by_cases hkn : k < nil
   ·have hki : k < ins.length := by omega
    obtain ⟨ek, hek, hRk⟩ := hI.at k hki
    have hxk : ins[k]? = some ins[k] := List.getElem?_eq_getElem hki
    have hxa := hx _ (List.getElem_mem hki)
    have hxo := hdi _ (List.getElem_mem hki)
    have hxb := hbdi _ (List.getElem_mem hki)
    have hfl : ((ins.take k).filterMap (dceI o)).length <= 100000 := Nat.le_trans (List.length_filterMap_le _ _) (by rw [List.length_take]; omega)
    generalize ins[k] = x at *
    have ch := has_ok hRk
    obtain ⟨op, dst, xa, xb, var, num, args⟩ := x
    obtain ⟨_, rfl, ⟨na, as, nal, rfl, hal, h6, hA, _⟩⟩ := hRk
    have hc := clone_ok (l := args) ⟨na, as, nal, rfl, hal, h6, hA, ‹_›⟩ (by simp only at hxa; omega)
    simp only at hxa h6 hxo hxb
    have hi0 : args = [] -> ∀ v, InsR ⟨op, dst, v, xb, var, num, args⟩ [.v (.int .u8 op), .v (.int .i64 dst), .v (.int .i64 v), .v (.int .i64 xb), .v (.int .i64 var), .v (.int .i64 num), .imm true 1 []] := fun h v => ⟨_, rfl, slA_frz0 (l := args) h rfl⟩
    have hi1 : ∀ r, RowR IntR args r -> ∀ v, InsR ⟨op, dst, v, xb, var, num, args⟩ [.v (.int .u8 op), .v (.int .i64 dst), .v (.int .i64 v), .v (.int .i64 xb), .v (.int .i64 var), .v (.int .i64 num), .imm false 1 r] := fun r h v => ⟨_, rfl, slA_own h⟩
    have hQ0 := hQ
    have hdrop : dceI o ⟨op, dst, xa, xb, var, num, args⟩ = none -> GrowR 7 InsR ((ins.take (k + 1)).filterMap (dceI o)) y := fun h => by rw [fm_none hxk h]; exact hQ
    have hkeep := fun y (h : dceI o ⟨op, dst, xa, xb, var, num, args⟩ = some y) => fm_some hxk h
    have hel2 := hE
    have case1 : hasF ⟨op, dst, xa, xb, var, num, args⟩ -> op ≠ 46 /\ ∃ j : Nat, dst = Int.ofNat j /\ j < sz := fun h => ⟨fun e => h (by simp [e]), intOf (hxo.1 h)⟩
    rcases hQ with ⟨rfl, hy⟩ | ⟨ry, ny, rfl, hyl, hyn, hyR⟩
    case' inr =>
     have hny : ny <= 100000 := by rw [hyn]; exact hfl
    all_goals
     repeat' (first | refine W.seq ?_ | refine W.block ?_ | refine W.skip ?_ | (refine W.condL (h := ?_); change W _ _ _ _) | refine W.regS ?_ | refine WS.done ?_ | refine WS.pre (n := 200) (k := ?_) | refine WS.iaddr (h := ?_) | (refine WS.cmp (k1 := fun h => ?_) (k2 := fun h => ?_) <;> simp only [cmpP, oC, nTr, ne_eq] at h <;> (try (exfalso; omega))) | refine WS.consN (n := 60) (k := ?_) | fail)
    all_goals
     refine WS.call (hc := (ch)) (k := ?_)
     rintro _ _ (⟨rfl, hh⟩ | ⟨rfl, hh⟩)
     ·obtain ⟨h46, j, rfl, hj⟩ := case1 hh
      have hjo : j < o.length := by omega
      have hej := bRow_of hE hjo
      have hgd : o.getD (Int.ofNat j).toNat false = o[j] := by rw [List.getD_eq_getElem?_getD]; show (o[j]?).getD false = _; rw [List.getElem?_eq_getElem hjo]; rfl
      have hdi0 : o[j] = false -> dceI o ⟨op, Int.ofNat j, xa, xb, var, num, args⟩ = none := fun h => if_pos ⟨hh, hgd.trans h⟩
      have hdi1 : o[j] = true -> dceI o ⟨op, Int.ofNat j, xa, xb, var, num, args⟩ = some ⟨op, Int.ofNat j, xa, xb, var, num, args⟩ := fun h => by
       unfold dceI
       rw [if_neg (fun hc => by have := hc.2; simp only [hgd, h] at this; cases this), if_neg (fun hc => h46 hc.1)]
      generalize o[j] = bj at *
      cases bj
      all_goals
       refine ⟨_, _, _, by cbv; first | done | fail, by cbv; first | done | fail, ?_⟩
       repeat' (first | refine W.seq ?_ | refine W.skip ?_ | refine W.exit ?_ | refine W.frz (k := ?_) | (refine W.condL (h := ?_); change W _ _ _ _) | refine W.regS ?_ | refine WS.done ?_ | refine WS.pre (n := 200) (k := ?_) | (refine WS.guard (h := ?_); change WS _ _ _ _) | refine WS.iaddr (h := ?_) | (refine WS.cmp (k1 := fun h => ?_) (k2 := fun h => ?_) <;> simp only [cmpP, oC, nTr, ne_eq] at h <;> (try (exfalso; omega))) | refine WS.inc (h := ?_) | refine WS.consN (n := 60) (k := ?_) | fail)
      ·exact ⟨by omega, _, by cbv, hdrop (hdi0 rfl)⟩
      ·have hdi' := hdi1 rfl
       refine WS.call (hc := (hc)) (k := ?_)
       rintro _ _ (⟨rfl, hca⟩ | ⟨rc, nc, rfl, hcl, hcn, hcR⟩)
       all_goals
        refine ⟨_, _, _, by cbv; first | done | fail, by cbv; first | done | fail, ?_⟩
        repeat' (first | refine W.seq ?_ | refine W.frz (k := ?_) | refine W.regS ?_ | refine WS.done ?_ | refine WS.setApp (h := fun r hr => ?_) | refine WS.pre (n := 200) (k := ?_) | refine WS.inc (h := ?_) | refine WS.app (h := ?_) | refine WS.consN (n := 60) (k := ?_) | fail)
       all_goals first
        | exact ⟨by omega, _, by cbv, by rw [hkeep _ hdi']; exact growR_one (hi0 hca _) hy⟩
        | exact ⟨by omega, _, by cbv, by rw [hkeep _ hdi']; exact growR_one (hi1 _ hcR _) hy⟩
        | exact ⟨by omega, _, by cbv, by rw [hkeep _ hdi']; exact growR_snoc (hi0 hca _) hyR hr⟩
        | exact ⟨by omega, _, by cbv, by rw [hkeep _ hdi']; exact growR_snoc (hi1 _ hcR _) hyR hr⟩
     ·have hnh : ∀ z, dceI o ⟨op, dst, xa, xb, var, num, args⟩ = some z ↔ (if op = 46 /\ 0 <= xa /\ o.getD xa.toNat false = false then (⟨op, dst, -1, xb, var, num, args⟩ : TIns) else ⟨op, dst, xa, xb, var, num, args⟩) = z := fun z => by
       unfold dceI
       rw [if_neg (fun hc => hh hc.1)]
       exact Option.some_inj
      by_cases h46 : op = 46 /\ 0 <= xa
      ·obtain ⟨rfl, ha0⟩ := h46
       obtain ⟨j, rfl, hj⟩ := intOf (n := sz) ⟨ha0, hxb rfl⟩
       have hjo : j < o.length := by omega
       have hej := bRow_of hE hjo
       have hgd : o.getD (Int.ofNat j).toNat false = o[j] := by rw [List.getD_eq_getElem?_getD]; show (o[j]?).getD false = _; rw [List.getElem?_eq_getElem hjo]; rfl
       have hdi0 : o[j] = false -> dceI o ⟨46, dst, Int.ofNat j, xb, var, num, args⟩ = some ⟨46, dst, -1, xb, var, num, args⟩ := fun h => (hnh _).2 (if_pos ⟨rfl, ha0, hgd.trans h⟩)
       have hdi1 : o[j] = true -> dceI o ⟨46, dst, Int.ofNat j, xb, var, num, args⟩ = some ⟨46, dst, Int.ofNat j, xb, var, num, args⟩ := fun h => (hnh _).2 (if_neg fun hc => by have := hgd.symm.trans hc.2.2; rw [h] at this; cases this)
       generalize o[j] = bj at *
       cases bj
       all_goals
        refine ⟨_, _, _, by cbv; first | done | fail, by cbv; first | done | fail, ?_⟩
        repeat' (first | refine W.seq ?_ | refine W.easy (n := 200) (k := ?_) | refine W.skip ?_ | refine W.frz (k := ?_) | (refine W.condL (h := ?_); change W _ _ _ _) | refine W.regS ?_ | refine WS.done ?_ | refine WS.pre (n := 200) (k := ?_) | (refine WS.guard (h := ?_); change WS _ _ _ _) | refine WS.iaddr (h := ?_) | (refine WS.cmp (k1 := fun h => ?_) (k2 := fun h => ?_) <;> simp only [cmpP, oC, nTr, ne_eq] at h <;> (try (exfalso; omega))) | refine WS.consN (n := 60) (k := ?_) | fail)
       ·have hdi' := hdi0 rfl
        refine WS.call (hc := (hc)) (k := ?_)
        rintro _ _ (⟨rfl, hca⟩ | ⟨rc, nc, rfl, hcl, hcn, hcR⟩)
        all_goals
         refine ⟨_, _, _, by cbv; first | done | fail, by cbv; first | done | fail, ?_⟩
         repeat' (first | refine W.seq ?_ | refine W.frz (k := ?_) | refine W.regS ?_ | refine WS.done ?_ | refine WS.setApp (h := fun r hr => ?_) | refine WS.pre (n := 200) (k := ?_) | refine WS.inc (h := ?_) | refine WS.app (h := ?_) | refine WS.consN (n := 60) (k := ?_) | fail)
        all_goals first
         | exact ⟨by omega, _, by cbv, by rw [hkeep _ hdi']; exact growR_one (hi0 hca _) hy⟩
         | exact ⟨by omega, _, by cbv, by rw [hkeep _ hdi']; exact growR_one (hi1 _ hcR _) hy⟩
         | exact ⟨by omega, _, by cbv, by rw [hkeep _ hdi']; exact growR_snoc (hi0 hca _) hyR hr⟩
         | exact ⟨by omega, _, by cbv, by rw [hkeep _ hdi']; exact growR_snoc (hi1 _ hcR _) hyR hr⟩
       ·have hdi' := hdi1 rfl
        refine WS.call (hc := (hc)) (k := ?_)
        rintro _ _ (⟨rfl, hca⟩ | ⟨rc, nc, rfl, hcl, hcn, hcR⟩)
        all_goals
         refine ⟨_, _, _, by cbv; first | done | fail, by cbv; first | done | fail, ?_⟩
         repeat' (first | refine W.seq ?_ | refine W.frz (k := ?_) | refine W.regS ?_ | refine WS.done ?_ | refine WS.setApp (h := fun r hr => ?_) | refine WS.pre (n := 200) (k := ?_) | refine WS.inc (h := ?_) | refine WS.app (h := ?_) | refine WS.consN (n := 60) (k := ?_) | fail)
        all_goals first
         | exact ⟨by omega, _, by cbv, by rw [hkeep _ hdi']; exact growR_one (hi0 hca _) hy⟩
         | exact ⟨by omega, _, by cbv, by rw [hkeep _ hdi']; exact growR_one (hi1 _ hcR _) hy⟩
         | exact ⟨by omega, _, by cbv, by rw [hkeep _ hdi']; exact growR_snoc (hi0 hca _) hyR hr⟩
         | exact ⟨by omega, _, by cbv, by rw [hkeep _ hdi']; exact growR_snoc (hi1 _ hcR _) hyR hr⟩
      ·have hdi' : dceI o ⟨op, dst, xa, xb, var, num, args⟩ = some ⟨op, dst, xa, xb, var, num, args⟩ := (hnh _).2 (if_neg fun hc => h46 ⟨hc.1, hc.2.1⟩)
       refine ⟨_, _, _, by cbv; first | done | fail, by cbv; first | done | fail, ?_⟩
       repeat' (first | refine W.seq ?_ | refine W.skip ?_ | refine W.frz (k := ?_) | (refine W.condL (h := ?_); change W _ _ _ _) | refine W.regS ?_ | refine WS.done ?_ | refine WS.pre (n := 200) (k := ?_) | (refine WS.guard (h := ?_); change WS _ _ _ _) | (refine WS.cmp (k1 := fun h => ?_) (k2 := fun h => ?_) <;> simp only [cmpP, oC, nTr, ne_eq] at h <;> (try (exfalso; omega))) | refine WS.consN (n := 60) (k := ?_) | fail)
       all_goals try
        first
        | (exfalso; omega)
        | skip
       all_goals
        refine WS.call (hc := (hc)) (k := ?_)
        rintro _ _ (⟨rfl, hca⟩ | ⟨rc, nc, rfl, hcl, hcn, hcR⟩)
        all_goals
         refine ⟨_, _, _, by cbv; first | done | fail, by cbv; first | done | fail, ?_⟩
         repeat' (first | refine W.seq ?_ | refine W.frz (k := ?_) | refine W.regS ?_ | refine WS.done ?_ | refine WS.setApp (h := fun r hr => ?_) | refine WS.pre (n := 200) (k := ?_) | refine WS.inc (h := ?_) | refine WS.app (h := ?_) | refine WS.consN (n := 60) (k := ?_) | fail)
        all_goals first
         | exact ⟨by omega, _, by cbv, by rw [hkeep _ hdi']; exact growR_one (hi0 hca _) hy⟩
         | exact ⟨by omega, _, by cbv, by rw [hkeep _ hdi']; exact growR_one (hi1 _ hcR _) hy⟩
         | exact ⟨by omega, _, by cbv, by rw [hkeep _ hdi']; exact growR_snoc (hi0 hca _) hyR hr⟩
         | exact ⟨by omega, _, by cbv, by rw [hkeep _ hdi']; exact growR_snoc (hi1 _ hcR _) hyR hr⟩
   ·have hk' : ins.take k = ins := List.take_of_length_le (by omega)
    rw [hk'] at hQ
    have hblk : ∀ y', SlA 7 InsR (ins.filterMap (dceI o)) y' -> BlockR (dceB o ⟨ins, ⟨kind, a, to, els⟩⟩) [y', .v (.int .u8 kind), .v (.int .i64 a), .v (.int .i64 to), .v (.int .i64 els)] := fun y' hy' => ⟨_, rfl, hy'⟩
    rcases hQ with ⟨rfl, hy⟩ | ⟨ry, ny, rfl, hyl, hyn, hyR⟩
    all_goals
     repeat' (first | refine W.seq ?_ | refine W.easy (n := 200) (k := ?_) | refine W.exit ?_ | refine W.frz (k := ?_) | (refine W.condL (h := ?_); change W _ _ _ _) | refine W.regS ?_ | refine WS.done ?_ | refine WS.stoApp (h := fun r hr => ?_) | refine WS.pre (n := 200) (k := ?_) | (refine WS.cmp (k1 := fun h => ?_) (k2 := fun h => ?_) <;> simp only [cmpP, oC, nTr, ne_eq] at h <;> (try (exfalso; omega))) | refine WS.inc (h := ?_) | refine WS.app (h := ?_) | refine WS.consN (n := 60) (k := ?_) | fail)
    all_goals first
     | exact ⟨by omega, _, by cbv, by rw [htm]; exact growR_one (hblk _ (slA_frz0 hy rfl)) hz⟩
     | exact ⟨by omega, _, by cbv, by rw [htm]; exact growR_one (hblk _ (slA_own hyR)) hz⟩
     | exact ⟨by omega, _, by cbv, by rw [htm]; exact growR_snoc (hblk _ (slA_frz0 hy rfl)) hzR hr⟩
     | exact ⟨by omega, _, by cbv, by rw [htm]; exact growR_snoc (hblk _ (slA_own hyR)) hzR hr⟩
 ·have hi' : blocks.take i = blocks := List.take_of_length_le (by omega)
  rw [hi'] at hP
  rcases hP with ⟨rfl, hz⟩ | ⟨rz, nz, rfl, hzl, hzn, hzR⟩
  ·
   repeat' (first | refine W.seq ?_ | refine W.easy (n := 200) (k := ?_) | refine W.ret ?_ | refine W.exit ?_ | refine W.frz (k := ?_) | refine Ret.ret (k := ?_) | (refine W.condL (h := ?_); change W _ _ _ _) | refine W.regS ?_ | refine WS.done ?_ | (refine WS.cmp (k1 := fun h => ?_) (k2 := fun h => ?_) <;> simp only [cmpP, oC, nTr, ne_eq] at h <;> (try (exfalso; omega))) | fail)
   exact ⟨o, _, hO, rfl, _, _, rfl, hvs, slA_frz0 hz rfl⟩
  ·
   repeat' (first | refine W.seq ?_ | refine W.easy (n := 200) (k := ?_) | refine W.ret ?_ | refine W.exit ?_ | refine W.frz (k := ?_) | refine Ret.ret (k := ?_) | (refine W.condL (h := ?_); change W _ _ _ _) | refine W.regS ?_ | refine WS.done ?_ | (refine WS.cmp (k1 := fun h => ?_) (k2 := fun h => ?_) <;> simp only [cmpP, oC, nTr, ne_eq] at h <;> (try (exfalso; omega))) | fail)
   exact ⟨o, _, hO, rfl, _, _, rfl, hvs, slA_own hzR⟩
end Go.Ab.Ytkmmpbmmmbebgaa
