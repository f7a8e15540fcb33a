/- Done a second time it is the same: the law as the machine runs it. -/
import Derived.Test.YtkmmpbmmmbebgaaTwice
set_option linter.all false
namespace Go.Ab.Ytkmmpbmmmbebgaa
set_option maxRecDepth 100000
set_option maxHeartbeats 8000000

theorem twice_ok {u : TUnit} {e : List A} (h : UnitR u e) (hz : uSz u ≤ 1100000) (hw : WC E 10 [] [] fun r _ => r = .v (.bool true)) : WC E 7 [.agg e] [] fun r _ => r = .v (.bool true) := by
 have hlu := large_le u
 have csm := small_ok h (by omega)
 by_cases hL : largeN u ≤ 6000
 case' pos =>
  have hsz := sizes_of hL hz
  have cso := sound_ok h hsz.small
  have ccp := copy_ok h (fun f hf => (hsz.small.f f hf).1) ⟨by have := hsz.few; omega, hsz.small.p.1⟩
  obtain ⟨rc, bc, ⟨e1, rfl, hR1⟩, ccp⟩ := ccp.fix
  have key : MayP u → SoundU u → ∃ (l : List TFunc) (e2 : List A), UnitR { u with funcs := l } e2 ∧ l.length ≤ 6000 ∧ UnitSmall { u with funcs := l } ∧ (∀ g, g ∈ l → SameSmall g) ∧ (∃ b, WC E 12 [.agg e1] [] fun r b' => r = .agg e2 ∧ b' = b) ∧ SoundU { u with funcs := l } ∧
    ∃ e3 : List A, (∃ b, WC E 11 [.agg e2] [] fun r b' => r = .agg e3 ∧ b' = b) ∧ UnitR { u with funcs := l } e3 ∧ ∃ e4 : List A, (∃ b, WC E 12 [.agg e3] [] fun r b' => r = .agg e4 ∧ b' = b) ∧ UnitR { u with funcs := l } e4 := fun hm hs => by
   have hok : ∀ f, f ∈ u.funcs → DceFOK f := fun f hf => by
    obtain ⟨i, hi⟩ := List.getElem?_of_mem hf
    exact dceFOK hm hs hi (hsz.small.f f hf).1 (hsz.w f hf)
   obtain ⟨r, b, ⟨l, e2, hl, rfl, hR2⟩, cu⟩ := (unit_ok hR1 hok (by have := hsz.few; omega)).fix
   have hs2 := sizes_dce hsz hl
   obtain ⟨hS, hok2, hid⟩ := twiceU hm hs hsz hl
   have hll : l.length ≤ 6000 := by rw [hl.len]; exact hsz.few
   have ccp2 := copy_ok hR2 (fun f hf => (hs2.1.f f hf).1) ⟨by simp only; omega, hs2.1.p.1⟩
   obtain ⟨_, b3, ⟨e3, rfl, hR3⟩, ccp3⟩ := ccp2.fix
   obtain ⟨_, b4, ⟨l', e4, hl', rfl, hR4⟩, cu2⟩ := (unit_ok hR3 hok2 (by simp only; omega)).fix
   have hll' := hid l' hl'
   subst hll'
   exact ⟨l', e2, hR2, hll, hs2.1, hs2.2, ⟨b, cu⟩, hS, e3, ⟨b3, ccp3⟩, hR3, e4, ⟨b4, cu2⟩, hR4⟩
 all_goals
  obtain ⟨funcs, main, points⟩ := u
  obtain ⟨_, _, rfl, ⟨nf, fs, n, rfl, hfl, h1, hf, _⟩, ⟨np, ps, m, rfl, hpl, h2, hP, _⟩⟩ := h
  refine WC.enter rfl rfl rfl ?_
  unfold b7
  repeat' (first | refine W.seq ?_ | refine W.easy (n := 200) (k := ?_) | refine W.regS ?_ | refine WS.pre (n := 200) (k := ?_) | fail)
  refine WS.call (hc := (csm)) (k := ?_)
  rintro _ _ (⟨rfl, hsm⟩ | ⟨rfl, hsm⟩)
  all_goals
   refine ⟨_, _, _, by cbv; first | done | fail, by cbv; first | done | fail, ?_⟩
   repeat' (first | refine W.seq ?_ | (refine W.condL (h := ?_); change W _ _ _ _) | refine W.regS ?_ | refine WS.done ?_ | refine WS.pre (n := 200) (k := ?_) | (refine WS.guard (h := ?_); change WS _ _ _ _) | fail)
 case' pos.inr | neg.inr =>
  refine WS.call (hc := (hw)) (k := ?_)
  rintro _ _ rfl
  refine ⟨_, _, _, by cbv; first | done | fail, by cbv; first | done | fail, ?_⟩
  repeat' (first | refine W.ret ?_ | refine Ret.ret (k := ?_) | refine WS.done ?_ | refine WS.consN (n := 60) (k := ?_) | fail)
  rfl
 case' neg.inl => exact absurd hsm.1 hL
 refine WS.call (hc := (cso)) (k := ?_)
 rintro _ _ (⟨rfl, hS⟩ | ⟨rfl, hS⟩)
 ·obtain ⟨l, e2, hR2, hll, hs2, hsame, ⟨b2, cu⟩, hS2, e3, ⟨b3, ccp3⟩, hR3, e4, ⟨b4, cu2⟩, hR4⟩ := key hS.1 hS
  have cso2 := sound_ok hR2 hs2
  obtain ⟨_, _, rfl, ⟨nf1, fs1, n1, rfl, hfl1, h11, hf1, _⟩, ⟨np1, ps1, m1, rfl, hpl1, h21, hP1, _⟩⟩ := hR1
  obtain ⟨_, _, rfl, ⟨nf2, fs2, n2, rfl, hfl2, h12, hf2, _⟩, ⟨np2, ps2, m2, rfl, hpl2, h22, hP2, _⟩⟩ := hR2
  obtain ⟨_, _, rfl, ⟨nf3, fs3, n3, rfl, hfl3, h13, hf3, _⟩, ⟨np3, ps3, m3, rfl, hpl3, h23, hP3, _⟩⟩ := hR3
  obtain ⟨_, _, rfl, ⟨nf4, fs4, n4, rfl, hfl4, h14, hf4, _⟩, ⟨np4, ps4, m4, rfl, hpl4, h24, hP4, _⟩⟩ := hR4
  obtain rfl : n4 = n2 := by omega
  simp only at h12 hf2 hf4 hll
  refine ⟨_, _, _, by cbv; first | done | fail, by cbv; first | done | fail, ?_⟩
  repeat' (first | refine W.seq ?_ | refine W.skip ?_ | refine W.frz (k := ?_) | (refine W.condL (h := ?_); change W _ _ _ _) | refine W.regS ?_ | refine WS.done ?_ | refine WS.pre (n := 200) (k := ?_) | fail)
  refine WS.call (hc := (ccp)) (k := ?_)
  rintro _ _ ⟨rfl, rfl⟩
  refine ⟨_, _, _, by cbv; first | done | fail, by cbv; first | done | fail, ?_⟩
  repeat' (first | refine W.seq ?_ | refine W.easy (n := 200) (k := ?_) | refine W.easyD (n := 200) (k := ?_) | refine W.block ?_ | refine W.skip ?_ | refine W.ret ?_ | refine W.exit ?_ | refine W.frz (k := ?_) | refine Ret.ret (k := ?_) | refine Ret.normal (k := ?_) | (refine W.condL (h := ?_); change W _ _ _ _) | refine W.cond (ha := fun h => ?_) (hb := fun h => ?_) | refine W.regS ?_ | refine WS.done ?_ | refine WS.setApp (h := fun r hr => ?_) | refine WS.stoApp (h := fun r hr => ?_) | refine WS.loadP (k := ?_) | refine WS.stoP (k := fun q hq => ?_) | refine WS.pre (n := 200) (k := ?_) | (refine WS.guard (h := ?_); change WS _ _ _ _) | refine WS.lenO (k := ?_) | refine WS.len (h := ?_) | refine WS.iaddrO (k := ?_) | refine WS.iaddr (h := ?_) | (refine WS.cmp (k1 := fun h => ?_) (k2 := fun h => ?_) <;> simp only [cmpP, Int.ofNat_eq_natCast, not_true_eq_false, ne_eq] at h <;> (try (exfalso; omega))) | refine WS.inc (h := ?_) | (refine WS.add (h := fun c hc => ?_) <;> (try simp only [Int.ofNat_eq_natCast] at hc)) | refine WS.mk' (k := fun r hr => ?_) | refine WS.app (hn := (news_imm (by assumption))) (h := ?_) | refine WS.app (h := ?_) | refine WS.dec (h := ?_) | refine WS.subO (k := ?_) | refine WS.stoSub (h := fun r hr => ?_) | refine WS.lookI (h := fun hin => ?_) (h0 := fun hin => ?_) | refine WS.upI (h := fun ks' es' hks' hkv' => ?_) | refine WS.strNe (k := ?_) | refine WS.strEq (k := ?_) | refine WS.eqSame (k := ?_) | refine WS.consN (n := 60) (k := ?_) | refine W.beginD (h := ?_) | (refine WD.done ⟨_, by cbv; first | done | fail, ?_⟩; dsimp only) | refine WD.setApp (h := fun r hr => ?_) | refine WD.stoApp (h := fun r hr => ?_) | refine WD.loadP (h := ?_) | refine WD.stoP (k := fun q hq => ?_) | refine WD.stoN (k := fun q hq => ?_) | refine WD.pre (n := 200) (ha := rfl) (k := ?_) | (refine WD.guard (h := ?_); change WD _ _ _ _ _ _ _ _) | refine WD.want (h := ?_) | refine WD.lenO (k := ?_) | refine WD.len (h := ?_) | refine WD.iaddrO (h := ?_) | refine WD.iaddr (h := ?_) | (refine WD.cmp (k1 := fun h => ?_) (k2 := fun h => ?_) <;> simp only [cmpP, Int.ofNat_eq_natCast, not_true_eq_false, ne_eq] at h <;> (try (exfalso; omega))) | (refine WD.add (h := fun c hc => ?_) <;> (try simp only [Int.ofNat_eq_natCast] at hc)) | refine WD.appN (k := ?_) | refine WD.appI (h := ?_) | refine WD.app (h := ?_) | (refine WD.appN0 (h := fun h0 => ?_) (k := fun h0 => ?_)) | refine WD.appIN (k := ?_) | refine WD.strNeV (h := ?_) | refine WD.strNe (k := ?_) | refine WD.strEq (k := ?_) | refine WD.eqSame (k := ?_) | refine WD.oneN (n := 60) (k := ?_) | refine WS.appN0 (h := fun h0 => ?_) (k := fun r hr hr0 => ?_) | fail)
  refine WS.call (hc := (cu)) (k := ?_)
  rintro _ _ ⟨rfl, rfl⟩
  refine ⟨_, _, _, by cbv; first | done | fail, by cbv; first | done | fail, ?_⟩
  repeat' (first | refine W.seq ?_ | refine W.frz (k := ?_) | refine W.regS ?_ | refine WS.done ?_ | refine WS.pre (n := 200) (k := ?_) | refine WS.consN (n := 60) (k := ?_) | fail)
  refine WS.call (hc := (cso2)) (k := ?_)
  rintro _ _ (⟨rfl, _⟩ | ⟨rfl, hn⟩)
  case' inr => exact absurd hS2 hn
  refine ⟨_, _, _, by cbv; first | done | fail, by cbv; first | done | fail, ?_⟩
  repeat' (first | refine W.seq ?_ | refine W.skip ?_ | refine W.frz (k := ?_) | (refine W.condL (h := ?_); change W _ _ _ _) | refine W.regS ?_ | refine WS.done ?_ | refine WS.pre (n := 200) (k := ?_) | fail)
  refine WS.call (hc := (ccp3)) (k := ?_)
  rintro _ _ ⟨rfl, rfl⟩
  refine ⟨_, _, _, by cbv; first | done | fail, by cbv; first | done | fail, ?_⟩
  repeat' (first | refine W.seq ?_ | refine W.easy (n := 200) (k := ?_) | refine W.easyD (n := 200) (k := ?_) | refine W.block ?_ | refine W.skip ?_ | refine W.ret ?_ | refine W.exit ?_ | refine W.frz (k := ?_) | refine Ret.ret (k := ?_) | refine Ret.normal (k := ?_) | (refine W.condL (h := ?_); change W _ _ _ _) | refine W.cond (ha := fun h => ?_) (hb := fun h => ?_) | refine W.regS ?_ | refine WS.done ?_ | refine WS.setApp (h := fun r hr => ?_) | refine WS.stoApp (h := fun r hr => ?_) | refine WS.loadP (k := ?_) | refine WS.stoP (k := fun q hq => ?_) | refine WS.pre (n := 200) (k := ?_) | (refine WS.guard (h := ?_); change WS _ _ _ _) | refine WS.lenO (k := ?_) | refine WS.len (h := ?_) | refine WS.iaddrO (k := ?_) | refine WS.iaddr (h := ?_) | (refine WS.cmp (k1 := fun h => ?_) (k2 := fun h => ?_) <;> simp only [cmpP, Int.ofNat_eq_natCast, not_true_eq_false, ne_eq] at h <;> (try (exfalso; omega))) | refine WS.inc (h := ?_) | (refine WS.add (h := fun c hc => ?_) <;> (try simp only [Int.ofNat_eq_natCast] at hc)) | refine WS.mk' (k := fun r hr => ?_) | refine WS.app (hn := (news_imm (by assumption))) (h := ?_) | refine WS.app (h := ?_) | refine WS.dec (h := ?_) | refine WS.subO (k := ?_) | refine WS.stoSub (h := fun r hr => ?_) | refine WS.lookI (h := fun hin => ?_) (h0 := fun hin => ?_) | refine WS.upI (h := fun ks' es' hks' hkv' => ?_) | refine WS.strNe (k := ?_) | refine WS.strEq (k := ?_) | refine WS.eqSame (k := ?_) | refine WS.consN (n := 60) (k := ?_) | refine W.beginD (h := ?_) | (refine WD.done ⟨_, by cbv; first | done | fail, ?_⟩; dsimp only) | refine WD.setApp (h := fun r hr => ?_) | refine WD.stoApp (h := fun r hr => ?_) | refine WD.loadP (h := ?_) | refine WD.stoP (k := fun q hq => ?_) | refine WD.stoN (k := fun q hq => ?_) | refine WD.pre (n := 200) (ha := rfl) (k := ?_) | (refine WD.guard (h := ?_); change WD _ _ _ _ _ _ _ _) | refine WD.want (h := ?_) | refine WD.lenO (k := ?_) | refine WD.len (h := ?_) | refine WD.iaddrO (h := ?_) | refine WD.iaddr (h := ?_) | (refine WD.cmp (k1 := fun h => ?_) (k2 := fun h => ?_) <;> simp only [cmpP, Int.ofNat_eq_natCast, not_true_eq_false, ne_eq] at h <;> (try (exfalso; omega))) | (refine WD.add (h := fun c hc => ?_) <;> (try simp only [Int.ofNat_eq_natCast] at hc)) | refine WD.appN (k := ?_) | refine WD.appI (h := ?_) | refine WD.app (h := ?_) | (refine WD.appN0 (h := fun h0 => ?_) (k := fun h0 => ?_)) | refine WD.appIN (k := ?_) | refine WD.strNeV (h := ?_) | refine WD.strNe (k := ?_) | refine WD.strEq (k := ?_) | refine WD.eqSame (k := ?_) | refine WD.oneN (n := 60) (k := ?_) | refine WS.appN0 (h := fun h0 => ?_) (k := fun r hr hr0 => ?_) | fail)
  refine WS.call (hc := (cu2)) (k := ?_)
  rintro _ _ ⟨rfl, rfl⟩
  refine ⟨_, _, _, by cbv; first | done | fail, by cbv; first | done | fail, ?_⟩
  repeat' (first | refine W.seq ?_ | refine W.easy (n := 200) (k := ?_) | refine W.block ?_ | refine W.skip ?_ | (refine W.condL (h := ?_); change W _ _ _ _) | refine W.regS ?_ | refine WS.done ?_ | refine WS.pre (n := 200) (k := ?_) | refine WS.len (h := ?_) | (refine WS.cmp (k1 := fun h => ?_) (k2 := fun h => ?_) <;> simp only [cmpP, Int.ofNat_eq_natCast, not_true_eq_false, ne_eq] at h <;> (try (exfalso; omega))) | refine WS.consN (n := 60) (k := ?_) | fail)
  refine W.forA n4 (fun k (_ : Unit) σ => sn 8 k σ) (fun _ _ => True) 0 (Nat.zero_le _) ?_ ?_
  ·exact ⟨(), by cbv, trivial⟩
  rintro QA kA i _ hi _
  refine W.norm (k := ?_)
  unfold l7_1
  by_cases hin : i < n4
  ·have hib : i < l.length := by omega
   obtain ⟨ei, hei, hF⟩ := hf2.at i hib
   obtain ⟨ei', hei', hF'⟩ := hf4.at i hib
   have hss := hsame _ (List.getElem_mem hib)
   generalize l[i] = g at hF hF' hss
   obtain ⟨_, _, rfl, ⟨nv, vs, nvl, rfl, hvl, h3, hv, _⟩, ⟨nb, bs, nbl, rfl, hbl, h4, hb, _⟩⟩ := hF
   obtain ⟨_, _, rfl, ⟨nv', vs', nvl', rfl, hvl', h3', hv', _⟩, ⟨nb', bs', nbl', rfl, hbl', h4', hb', _⟩⟩ := hF'
   obtain rfl : nbl' = nbl := by omega
   have hsb := hss.b
   repeat' (first | refine W.seq ?_ | refine W.easy (n := 200) (k := ?_) | refine W.block ?_ | refine W.skip ?_ | (refine W.condL (h := ?_); change W _ _ _ _) | refine W.regS ?_ | refine WS.done ?_ | refine WS.pre (n := 200) (k := ?_) | refine WS.len (h := ?_) | (refine WS.cmp (k1 := fun h => ?_) (k2 := fun h => ?_) <;> simp only [cmpP, Int.ofNat_eq_natCast, not_true_eq_false, ne_eq] at h <;> (try (exfalso; omega))) | refine W.beginD (h := ?_) | (refine WD.done ⟨_, by cbv; first | done | fail, ?_⟩; dsimp only) | refine WD.pre (n := 200) (ha := rfl) (k := ?_) | refine WD.len (h := ?_) | refine WD.iaddr (h := ?_) | refine WD.oneN (n := 60) (k := ?_) | fail)
   refine W.forA nbl' (fun k (_ : Unit) σ => sn 11 k σ) (fun _ _ => True) 0 (Nat.zero_le _) ?_ ?_
   ·exact ⟨(), by cbv, trivial⟩
   rintro QB kB k _ hk _
   refine W.norm (k := ?_)
   unfold l7_0
   by_cases hkn : k < nbl'
   ·have hkb : k < g.blocks.length := by omega
    obtain ⟨ek, hek, hB⟩ := hb.at k hkb
    obtain ⟨ek', hek', hB'⟩ := hb'.at k hkb
    have hil := hss.i _ (List.getElem_mem hkb)
    have hal := hss.a _ (List.getElem_mem hkb)
    generalize g.blocks[k] = b at hB hB' hil hal
    obtain ⟨ins, ⟨kind, a, to, els⟩⟩ := b
    obtain ⟨_, rfl, hI⟩ := hB
    obtain ⟨_, rfl, hI'⟩ := hB'
    have cr := sameRow_ok hI hI' ⟨hil, hal⟩
    obtain ⟨ni, is, nil, rfl, hi1, hi2, hI, _⟩ := hI
    obtain ⟨ni', is', nil', rfl, hi1', hi2', hI', _⟩ := hI'
    repeat' (first | refine W.seq ?_ | refine W.block ?_ | refine W.skip ?_ | (refine W.condL (h := ?_); change W _ _ _ _) | refine W.regS ?_ | refine WS.done ?_ | refine WS.pre (n := 200) (k := ?_) | (refine WS.guard (h := ?_); change WS _ _ _ _) | refine WS.len (h := ?_) | refine WS.iaddr (h := ?_) | (refine WS.cmp (k1 := fun h => ?_) (k2 := fun h => ?_) <;> simp only [cmpP, Int.ofNat_eq_natCast, not_true_eq_false, ne_eq] at h <;> (try (exfalso; omega))) | refine WS.eqSame (k := ?_) | refine WS.consN (n := 60) (k := ?_) | fail)
    refine WS.call (hc := (cr)) (k := ?_)
    rintro _ _ rfl
    refine ⟨_, _, _, by cbv; first | done | fail, by cbv; first | done | fail, ?_⟩
    repeat' (first | refine W.skip ?_ | (refine W.condL (h := ?_); change W _ _ _ _) | refine W.regS ?_ | refine WS.done ?_ | refine WS.pre (n := 200) (k := ?_) | refine WS.inc (h := ?_) | refine WS.consN (n := 60) (k := ?_) | fail)
    exact ⟨by omega, (), by cbv, trivial⟩
   ·
    repeat' (first | refine W.seq ?_ | refine W.exit ?_ | (refine W.condL (h := ?_); change W _ _ _ _) | refine W.regS ?_ | refine WS.done ?_ | refine WS.pre (n := 200) (k := ?_) | refine WS.len (h := ?_) | refine WS.iaddr (h := ?_) | (refine WS.cmp (k1 := fun h => ?_) (k2 := fun h => ?_) <;> simp only [cmpP, Int.ofNat_eq_natCast, not_true_eq_false, ne_eq] at h <;> (try (exfalso; omega))) | fail)
    refine kB _ _ ?_
    repeat' (first | refine W.regS ?_ | refine WS.done ?_ | refine WS.pre (n := 200) (k := ?_) | refine WS.inc (h := ?_) | refine WS.consN (n := 60) (k := ?_) | fail)
    exact ⟨by omega, (), by cbv, trivial⟩
  ·
   repeat' (first | refine W.seq ?_ | refine W.exit ?_ | (refine W.condL (h := ?_); change W _ _ _ _) | refine W.regS ?_ | refine WS.done ?_ | refine WS.pre (n := 200) (k := ?_) | refine WS.len (h := ?_) | (refine WS.cmp (k1 := fun h => ?_) (k2 := fun h => ?_) <;> simp only [cmpP, Int.ofNat_eq_natCast, not_true_eq_false, ne_eq] at h <;> (try (exfalso; omega))) | fail)
   refine kA _ _ ?_
   repeat' (first | refine W.seq ?_ | refine W.regS ?_ | fail)
   refine WS.call (hc := (hw)) (k := ?_)
   rintro _ _ rfl
   refine ⟨_, _, _, by cbv; first | done | fail, by cbv; first | done | fail, ?_⟩
   repeat' (first | refine W.ret ?_ | refine Ret.ret (k := ?_) | refine WS.done ?_ | refine WS.consN (n := 60) (k := ?_) | fail)
   rfl
 ·
  refine ⟨_, _, _, by cbv; first | done | fail, by cbv; first | done | fail, ?_⟩
  repeat' (first | refine W.seq ?_ | (refine W.condL (h := ?_); change W _ _ _ _) | refine W.regS ?_ | refine WS.done ?_ | refine WS.pre (n := 200) (k := ?_) | fail)
  refine WS.call (hc := (hw)) (k := ?_)
  rintro _ _ rfl
  refine ⟨_, _, _, by cbv; first | done | fail, by cbv; first | done | fail, ?_⟩
  repeat' (first | refine W.ret ?_ | refine Ret.ret (k := ?_) | refine WS.done ?_ | refine WS.consN (n := 60) (k := ?_) | fail)
  rfl
end Go.Ab.Ytkmmpbmmmbebgaa
