/- There is just what is needed: the law as the machine runs it. -/
import Derived.Test.YtkmmpbmmmbebgaaJust2
import Derived.Test.YtkmmpbmmmbebgaaRow
set_option linter.all false
namespace Go.Ab.Ytkmmpbmmmbebgaa
set_option maxRecDepth 100000
set_option maxHeartbeats 8000000
theorem just_ok {u : TUnit} {e : List A} (h : UnitR u e) (hz : uSz u <= 1100000) (hw : WC E 10 [] [] fun r _ => r = .v (.bool true)) : WC E 5 [.agg e] [] fun r _ => r = .v (.bool true) := by
 have hlu := large_le u
 have csm := small_ok h (by omega)
 by_cases hL : largeN u <= 6000
 case' pos =>
  have hsz := sizes_of hL hz
  have cso := sound_ok h hsz.small
  have hR0 := h
  have ccp := copy_ok h (fun f hf => (hsz.small.f f hf).1) ⟨by have := hsz.few; omega, hsz.small.p.1⟩
  obtain ⟨rc, bc, ⟨e1, rfl, hR1⟩, ccp⟩ := ccp.fix
  have hWf : ∀ f, f ∈ u.funcs -> funcW f <= 1200000 := funcW_small hL hz
  have hsf := fun f hf => (hsz.small.f f hf).1
  have key : MayP u -> SoundU u -> ∃ (l : List TFunc) (e2 : List A), UnitR { u with funcs := l } e2 /\ l.length = u.funcs.length /\ UnitSmall { u with funcs := l } /\ (∀ g, g ∈ l -> SameSmall g) /\ (∃ b, WC E 12 [.agg e1] [] fun r b' => r = .agg e2 /\ b' = b) /\ SoundU { u with funcs := l } /\
    (WC E 14 [.agg e2, .agg e] [] fun r _ => r = .v (.bool true)) /\ ∀ (i : Nat) f g, u.funcs[i]? = some f -> l[i]? = some g -> ∃ o, g = dceF o f /\ SNd u i f o := fun hm hs => by
   have hok : ∀ f, f ∈ u.funcs -> DceFOK f := fun f hf => by
    obtain ⟨i, hi⟩ := List.getElem?_of_mem hf
    exact dceFOK hm hs hi (hsz.small.f f hf).1 (hsz.w f hf)
   obtain ⟨r, b, ⟨l, e2, hl, rfl, hR2⟩, cu⟩ := (unit_ok hR1 hok (by have := hsz.few; omega)).fix
   have hs2 := sizes_dce hsz hl
   have hS := soundU_dce hm hs hsz hl
   have hat : ∀ (i : Nat) f g, u.funcs[i]? = some f -> l[i]? = some g -> ∃ o, g = dceF o f /\ SNd u i f o := fun i f g hf hg => by
    obtain ⟨f', o, h1, h2, h3⟩ := hl.at i g hg
    rw [hf] at h1
    cases h1
    exact ⟨o, h2, hm.funcs i f hf, hs.2 i f hf, (hok f (List.mem_of_getElem? hf)).ok, h3⟩
   refine ⟨l, e2, hR2, hl.len, hs2.1, hs2.2, ⟨b, cu⟩, hS, ?_, hat⟩
   refine like_ok hR2 hR0 rfl rfl hl.len.symm (fun i g f hg hf => ?_) (fun g hg => ⟨(hs2.2 g hg).v.1, fun v hv => (hs2.2 g hg).v.2 v hv⟩) (by have := hsz.few; have := hl.len; simp only; omega) ?_
   ·obtain ⟨o, rfl, _⟩ := hat i f g hf hg
    exact ⟨rfl, rfl, rfl, rfl⟩
   ·have := hsz.pts
    exact ⟨by simp only; omega, fun p hp => by have := this.2 p hp; omega⟩
 all_goals
  obtain ⟨funcs, main, points⟩ := u
  obtain ⟨_, _, rfl, ⟨nf, fs, n, rfl, hfl, h1, hf, _⟩, ⟨np, ps, m, rfl, hpl, h2, hP, _⟩⟩ := h
  refine WC.enter rfl rfl rfl ?_
  unfold b5 ki kb vi mw lt og ov oo
  repeat' (first | refine W.seq ?_ | refine W.easy (n := 200) (k := ?_) | refine W.regS ?_ | refine WS.pre (n := 200) (k := ?_) | fail)
  refine WS.call (hc := (csm)) (k := ?_)
  rintro _ _ (⟨rfl, hsm⟩ | ⟨rfl, hsm⟩)
  all_goals
   refine ⟨_, _, _, by cbv; first | done | fail, by cbv; first | done | fail, ?_⟩
   repeat' (first | refine W.seq ?_ | (refine W.condL (h := ?_); change W _ _ _ _) | refine W.regS ?_ | refine WS.done ?_ | refine WS.pre (n := 200) (k := ?_) | (refine WS.guard (h := ?_); change WS _ _ _ _) | fail)
 case' pos.inr | neg.inr =>
  refine WS.call (hc := (hw)) (k := ?_)
  rintro _ _ rfl
  refine ⟨_, _, _, by cbv; first | done | fail, by cbv; first | done | fail, ?_⟩
  repeat' (first | refine W.ret ?_ | refine Ret.ret (k := ?_) | refine WS.done ?_ | refine WS.consN (n := 60) (k := ?_) | fail)
  rfl
 case' neg.inl => exact absurd hsm.1 hL
 refine WS.call (hc := (cso)) (k := ?_)
 rintro _ _ (⟨rfl, hS⟩ | ⟨rfl, hS⟩)
 ·obtain ⟨l, e2, hR2, hll, hs2, hsame, ⟨b2, cu⟩, hS2, clk, hat⟩ := key hS.1 hS
  have cso2 := sound_ok hR2 hs2
  obtain ⟨_, _, rfl, ⟨nf1, fs1, n1, rfl, hfl1, h11, hf1, _⟩, ⟨np1, ps1, m1, rfl, hpl1, h21, hP1, _⟩⟩ := hR1
  obtain ⟨_, _, rfl, ⟨nf2, fs2, n2, rfl, hfl2, h12, hf2, _⟩, ⟨np2, ps2, m2, rfl, hpl2, h22, hP2, _⟩⟩ := hR2
  simp only at h1 hf h12 hf2 hll hWf hsf hat
  have hfew := hsz.few
  simp only at hfew
  obtain rfl : n2 = n := by omega
  refine ⟨_, _, _, by cbv; first | done | fail, by cbv; first | done | fail, ?_⟩
  repeat' (first | refine W.seq ?_ | refine W.skip ?_ | refine W.frz (k := ?_) | (refine W.condL (h := ?_); change W _ _ _ _) | refine W.regS ?_ | refine WS.done ?_ | refine WS.pre (n := 200) (k := ?_) | fail)
  refine WS.call (hc := (ccp)) (k := ?_)
  rintro _ _ ⟨rfl, rfl⟩
  refine ⟨_, _, _, by cbv; first | done | fail, by cbv; first | done | fail, ?_⟩
  repeat' (first | refine W.seq ?_ | refine W.easy (n := 200) (k := ?_) | refine W.easyD (n := 200) (k := ?_) | refine W.block ?_ | refine W.skip ?_ | refine W.ret ?_ | refine W.exit ?_ | refine W.frz (k := ?_) | refine Ret.ret (k := ?_) | refine Ret.normal (k := ?_) | (refine W.condL (h := ?_); change W _ _ _ _) | refine W.cond (ha := fun h => ?_) (hb := fun h => ?_) | refine W.regS ?_ | refine WS.done ?_ | refine WS.setApp (h := fun r hr => ?_) | refine WS.stoApp (h := fun r hr => ?_) | refine WS.loadP (k := ?_) | refine WS.stoP (k := fun q hq => ?_) | refine WS.pre (n := 200) (k := ?_) | (refine WS.guard (h := ?_); change WS _ _ _ _) | refine WS.lenO (k := ?_) | refine WS.len (h := ?_) | refine WS.iaddrO (k := ?_) | refine WS.iaddr (h := ?_) | (refine WS.cmp (k1 := fun h => ?_) (k2 := fun h => ?_) <;> simp only [cmpP, oC, nTr, ne_eq] at h <;> (try (exfalso; omega))) | refine WS.inc (h := ?_) | (refine WS.add (h := fun c hc => ?_) <;> (try simp only [oC] at hc)) | refine WS.mk' (k := fun r hr => ?_) | refine WS.app (hn := (news_imm (by assumption))) (h := ?_) | refine WS.app (h := ?_) | refine WS.dec (h := ?_) | refine WS.subO (k := ?_) | refine WS.stoSub (h := fun r hr => ?_) | refine WS.lookI (h := fun hin => ?_) (h0 := fun hin => ?_) | refine WS.upI (h := fun ks' es' hks' hkv' => ?_) | refine WS.strNe (k := ?_) | refine WS.strEq (k := ?_) | refine WS.eqSame (k := ?_) | refine WS.consN (n := 60) (k := ?_) | refine W.beginD (h := ?_) | (refine WD.done ⟨_, by cbv; first | done | fail, ?_⟩; dsimp only) | refine WD.setApp (h := fun r hr => ?_) | refine WD.stoApp (h := fun r hr => ?_) | refine WD.loadP (h := ?_) | refine WD.stoP (k := fun q hq => ?_) | refine WD.stoN (k := fun q hq => ?_) | refine WD.pre (n := 200) (ha := rfl) (k := ?_) | (refine WD.guard (h := ?_); change WD _ _ _ _ _ _ _ _) | refine WD.want (h := ?_) | refine WD.lenO (k := ?_) | refine WD.len (h := ?_) | refine WD.iaddrO (h := ?_) | refine WD.iaddr (h := ?_) | (refine WD.cmp (k1 := fun h => ?_) (k2 := fun h => ?_) <;> simp only [cmpP, oC, nTr, ne_eq] at h <;> (try (exfalso; omega))) | (refine WD.add (h := fun c hc => ?_) <;> (try simp only [oC] at hc)) | refine WD.appN (k := ?_) | refine WD.appI (h := ?_) | refine WD.app (h := ?_) | (refine WD.appN0 (h := fun h0 => ?_) (k := fun h0 => ?_)) | refine WD.appIN (k := ?_) | refine WD.strNeV (h := ?_) | refine WD.strNe (k := ?_) | refine WD.strEq (k := ?_) | refine WD.eqSame (k := ?_) | refine WD.oneN (n := 60) (k := ?_) | refine WS.appN0 (h := fun h0 => ?_) (k := fun r hr hr0 => ?_) | fail)
  refine WS.call (hc := (cu)) (k := ?_)
  rintro _ _ ⟨rfl, rfl⟩
  refine ⟨_, _, _, by cbv; first | done | fail, by cbv; first | done | fail, ?_⟩
  repeat' (first | refine W.seq ?_ | refine W.frz (k := ?_) | refine W.regS ?_ | refine WS.done ?_ | refine WS.pre (n := 200) (k := ?_) | refine WS.consN (n := 60) (k := ?_) | fail)
  refine WS.call (hc := (cso2)) (k := ?_)
  rintro _ _ (⟨rfl, _⟩ | ⟨rfl, hn⟩)
  case' inr => exact absurd hS2 hn
  refine ⟨_, _, _, by cbv; first | done | fail, by cbv; first | done | fail, ?_⟩
  repeat' (first | refine WS.pre (n := 200) (k := ?_) | (refine WS.guard (h := ?_); change WS _ _ _ _) | fail)
  refine WS.call (hc := (clk)) (k := ?_)
  rintro _ _ rfl
  refine ⟨_, _, _, by cbv; first | done | fail, by cbv; first | done | fail, ?_⟩
  repeat' (first | refine W.seq ?_ | refine W.easy (n := 200) (k := ?_) | refine W.block ?_ | refine W.skip ?_ | (refine W.condL (h := ?_); change W _ _ _ _) | refine WS.done ?_ | refine WS.pre (n := 200) (k := ?_) | fail)
  refine W.forA n2 (fun k (_ : Unit) σ => sn 6 k σ) (fun _ _ => True) 0 (Nat.zero_le _) ?_ ?_
  ·exact ⟨(), by cbv, trivial⟩
  rintro QA kA i _ hi _
  refine W.norm (k := ?_)
  unfold l5_2 ki kb vi mt mw ft ll lg lt iz ov oo
  by_cases hin : i < n2
  ·have hib : i < l.length := by omega
   have hib' : i < funcs.length := by omega
   obtain ⟨ei, hei, hF⟩ := hf2.at i hib
   obtain ⟨ei', hei', hF'⟩ := hf.at i hib'
   have hss := hsame _ (List.getElem_mem hib)
   have hww := hWf _ (List.getElem_mem hib')
   have hsm' := hsf _ (List.getElem_mem hib')
   have h2000 := (hsm.2 i _ (List.getElem?_eq_getElem hib')).2
   obtain ⟨o, hgo, hsnd⟩ := hat i _ _ (List.getElem?_eq_getElem hib') (List.getElem?_eq_getElem hib)
   generalize l[i] = g at hF hss hgo
   generalize funcs[i] = f at *
   subst hgo
   obtain ⟨sz, hszN⟩ : ∃ k : Nat, f.size = k := ⟨f.size.toNat, by have := hsnd.ok.size; omega⟩
   have hsz2 : sz <= 2000 := by omega
   have hni := hsnd.needIn hszN hsz2 hww
   have crn := rneed_ok hF' hsm' hni
   obtain ⟨_, bN, ⟨o', es, hre, hRo, hol, ho⟩, crn⟩ := crn.fix
   obtain rfl := hsnd.same_needed hszN hol ho
   have hof : SNd ⟨funcs, main, points⟩ i f o' := hsnd
   obtain ⟨name, params, result, vars, blocks, size⟩ := f
   obtain ⟨_, _, rfl, ⟨nv, vs, nvl, rfl, hvl, h3, hv, _⟩, ⟨nb, bs, nbl, rfl, hbl, h4, hb, _⟩⟩ := hF
   obtain ⟨_, _, rfl, ⟨nv', vs', nvl', rfl, hvl', h3', hv', _⟩, ⟨nb', bs', nbl', rfl, hbl', h4', hb', _⟩⟩ := hF'
   simp only [dceF] at h3 h4 hv hb
   simp only [List.length_map] at h4
   simp only at h3' h4' hv' hb' hszN
   subst hszN
   obtain rfl : nbl' = nbl := by omega
   have hsb := hss.b
   simp only [dceF, List.length_map] at hsb
   have hdb : (dceF o' ⟨name, params, result, vars, blocks, (sz : Int)⟩).blocks = blocks.map (dceB o') := rfl
   have hsi := hss.i
   have hsa := hss.a
   rw [hdb] at hsi hsa
   rcases hre with rfl | rfl
   all_goals
    repeat' (first | refine W.seq ?_ | refine W.block ?_ | refine W.skip ?_ | refine W.frz (k := ?_) | (refine W.condL (h := ?_); change W _ _ _ _) | refine W.regS ?_ | refine WS.done ?_ | refine WS.pre (n := 200) (k := ?_) | refine WS.len (h := ?_) | refine WS.iaddr (h := ?_) | (refine WS.cmp (k1 := fun h => ?_) (k2 := fun h => ?_) <;> simp only [cmpP, oC, nTr, ne_eq] at h <;> (try (exfalso; omega))) | refine WS.consN (n := 60) (k := ?_) | fail)
    refine WS.call (hc := (crn)) (k := ?_)
    rintro _ _ ⟨rfl, rfl⟩
    refine ⟨_, _, _, by cbv; first | done | fail, by cbv; first | done | fail, ?_⟩
    repeat' (first | refine W.seq ?_ | refine W.easy (n := 200) (k := ?_) | refine W.block ?_ | refine W.skip ?_ | refine W.frz (k := ?_) | (refine W.condL (h := ?_); change W _ _ _ _) | refine W.regS ?_ | refine WS.done ?_ | refine WS.pre (n := 200) (k := ?_) | refine WS.len (h := ?_) | (refine WS.cmp (k1 := fun h => ?_) (k2 := fun h => ?_) <;> simp only [cmpP, oC, nTr, ne_eq] at h <;> (try (exfalso; omega))) | refine WS.consN (n := 60) (k := ?_) | fail)
    refine W.forA nbl' (fun k (_ : Unit) σ => sn 11 k σ) (fun _ _ => True) 0 (Nat.zero_le _) ?_ ?_
    ·exact ⟨(), by cbv, trivial⟩
    rintro QB kB k _ hk _
    refine W.norm (k := ?_)
    unfold l5_1 ki kb mt mw fa ft ll lg iz og ov oo
    by_cases hkn : k < nbl'
    ·have hkb : k < blocks.length := by omega
     obtain ⟨ek', hek', hB'⟩ := hb'.at k hkb
     obtain ⟨ek, hek, hB⟩ := hb.at k (by rw [List.length_map]; exact hkb)
     have hil := hsi _ (List.getElem_mem (by rw [List.length_map]; exact hkb))
     have hal := hsa _ (List.getElem_mem (by rw [List.length_map]; exact hkb))
     have hbk : blocks[k]? = some blocks[k] := List.getElem?_eq_getElem hkb
     have hxx : ∀ x, x ∈ blocks[k].ins -> x.op ≠ 35 /\ (hasF x -> 0 <= x.dst) /\ makesF x < sz /\ (x.op = 46 -> x.a < sz) := fun x hx => by
      have hin : InF ⟨name, params, result, vars, blocks, (sz : Int)⟩ x := ⟨_, List.getElem_mem hkb, hx⟩
      obtain ⟨p, q, hq, hi, hs⟩ := hof.inF hin
      refine ⟨hs.get.2, fun hh => (hof.ok.ins _ (List.getElem_mem hkb) x hx).1 hh |>.1, hi.makes.2.1, fun h46 => ?_⟩
      by_cases h0 : 0 <= x.a
      ·refine (hi.uses x.a ?_).2
       unfold usesF
       rw [if_neg (by omega), if_neg (by omega), if_neg (by omega), if_pos h46, if_pos h0]
       exact List.mem_cons_self
      ·omega
     have hil0 := hsm'.i _ (List.getElem_mem hkb)
     rw [List.getElem_map] at hB hil hal
     generalize blocks[k] = b at *
     obtain ⟨ins, ⟨kind, a, to, els⟩⟩ := b
     obtain ⟨_, rfl, hI⟩ := hB
     obtain ⟨_, rfl, hI'⟩ := hB'
     simp only [dceB] at hI hil hal
     have hI0 := hI
     obtain ⟨ni, is, nil, rfl, hi1, hi2, hI, _⟩ := hI
     obtain ⟨ni', is', nil', rfl, hi1', hi2', hI', _⟩ := hI'
     simp only at hi1' hi2' hI' hxx hil0
     repeat' (first | refine W.seq ?_ | refine W.easy (n := 200) (k := ?_) | refine W.block ?_ | refine W.skip ?_ | (refine W.condL (h := ?_); change W _ _ _ _) | refine W.regS ?_ | refine WS.done ?_ | refine WS.pre (n := 200) (k := ?_) | refine WS.len (h := ?_) | (refine WS.cmp (k1 := fun h => ?_) (k2 := fun h => ?_) <;> simp only [cmpP, oC, nTr, ne_eq] at h <;> (try (exfalso; omega))) | fail)
     refine just_inner hek' hi1' hi2' hI' (by omega) hRo hol hxx hsz2 ?_
     intro y hy
     rcases hy with ⟨rfl, hq⟩ | ⟨rq, nq, rfl, hql, hqn, hqR⟩
     ·rw [hq] at hI0
      have crow := sameRow0_ok hI0
      refine W.norm (k := ?_)
      repeat' (first | refine W.seq ?_ | refine W.beginD (h := ?_) | refine WD.pre (n := 200) (ha := rfl) (k := ?_) | (refine WD.guard (h := ?_); change WD _ _ _ _ _ _ _ _) | refine WD.iaddr (h := ?_) | refine WD.eqSame (k := ?_) | fail)
      refine WD.call (hc := (crow)) (k := ?_)
      rintro _ _ rfl
      refine ⟨_, _, _, by cbv; first | done | fail, by cbv; first | done | fail, ?_⟩
      repeat' (first | refine W.skip ?_ | (refine W.condL (h := ?_); change W _ _ _ _) | refine W.regS ?_ | refine WS.done ?_ | refine WS.pre (n := 200) (k := ?_) | refine WS.inc (h := ?_) | refine WS.consN (n := 60) (k := ?_) | (refine WD.done ⟨_, by cbv; first | done | fail, ?_⟩; dsimp only) | refine WD.pre (n := 200) (ha := rfl) (k := ?_) | fail)
      exact ⟨by omega, (), by cbv, trivial⟩
     ·have crow := sameRow_ok hI0 (slA_own hqR) ⟨hil, hal⟩
      refine W.norm (k := ?_)
      repeat' (first | refine W.seq ?_ | refine W.beginD (h := ?_) | refine WD.pre (n := 200) (ha := rfl) (k := ?_) | (refine WD.guard (h := ?_); change WD _ _ _ _ _ _ _ _) | refine WD.iaddr (h := ?_) | refine WD.eqSame (k := ?_) | fail)
      refine WD.call (hc := (crow)) (k := ?_)
      rintro _ _ rfl
      refine ⟨_, _, _, by cbv; first | done | fail, by cbv; first | done | fail, ?_⟩
      repeat' (first | refine W.skip ?_ | (refine W.condL (h := ?_); change W _ _ _ _) | refine W.regS ?_ | refine WS.done ?_ | refine WS.pre (n := 200) (k := ?_) | refine WS.inc (h := ?_) | refine WS.consN (n := 60) (k := ?_) | (refine WD.done ⟨_, by cbv; first | done | fail, ?_⟩; dsimp only) | refine WD.pre (n := 200) (ha := rfl) (k := ?_) | fail)
      exact ⟨by omega, (), by cbv, trivial⟩
    ·
     repeat' (first | refine W.seq ?_ | refine W.exit ?_ | (refine W.condL (h := ?_); change W _ _ _ _) | refine W.regS ?_ | refine WS.done ?_ | refine WS.pre (n := 200) (k := ?_) | refine WS.len (h := ?_) | (refine WS.cmp (k1 := fun h => ?_) (k2 := fun h => ?_) <;> simp only [cmpP, oC, nTr, ne_eq] at h <;> (try (exfalso; omega))) | fail)
     refine kB _ _ ?_
     repeat' (first | refine W.regS ?_ | refine WS.done ?_ | refine WS.pre (n := 200) (k := ?_) | refine WS.inc (h := ?_) | refine WS.consN (n := 60) (k := ?_) | fail)
     exact ⟨by omega, (), by cbv, trivial⟩
  ·
   repeat' (first | refine W.seq ?_ | refine W.exit ?_ | (refine W.condL (h := ?_); change W _ _ _ _) | refine W.regS ?_ | refine WS.done ?_ | refine WS.pre (n := 200) (k := ?_) | refine WS.len (h := ?_) | (refine WS.cmp (k1 := fun h => ?_) (k2 := fun h => ?_) <;> simp only [cmpP, oC, nTr, ne_eq] at h <;> (try (exfalso; omega))) | fail)
   refine kA _ _ ?_
   repeat' (first | refine W.seq ?_ | refine W.regS ?_ | fail)
   refine WS.call (hc := (hw)) (k := ?_)
   rintro _ _ rfl
   refine ⟨_, _, _, by cbv; first | done | fail, by cbv; first | done | fail, ?_⟩
   repeat' (first | refine W.ret ?_ | refine Ret.ret (k := ?_) | refine WS.done ?_ | refine WS.consN (n := 60) (k := ?_) | fail)
   rfl
 ·
  refine ⟨_, _, _, by cbv; first | done | fail, by cbv; first | done | fail, ?_⟩
  repeat' (first | refine W.seq ?_ | (refine W.condL (h := ?_); change W _ _ _ _) | refine W.regS ?_ | refine WS.done ?_ | refine WS.pre (n := 200) (k := ?_) | fail)
  refine WS.call (hc := (hw)) (k := ?_)
  rintro _ _ rfl
  refine ⟨_, _, _, by cbv; first | done | fail, by cbv; first | done | fail, ?_⟩
  repeat' (first | refine W.ret ?_ | refine Ret.ret (k := ?_) | refine WS.done ?_ | refine WS.consN (n := 60) (k := ?_) | fail)
  rfl
end Go.Ab.Ytkmmpbmmmbebgaa
