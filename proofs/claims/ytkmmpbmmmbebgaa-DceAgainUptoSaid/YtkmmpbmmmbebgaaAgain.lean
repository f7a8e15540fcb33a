/- Made again it is the same: the law as the machine runs it. -/
import Derived.Test.YtkmmpbmmmbebgaaSmall
import Derived.Test.YtkmmpbmmmbebgaaPlain
import Derived.Test.YtkmmpbmmmbebgaaSame
import Derived.Test.YtkmmpbmmmbebgaaArgs
set_option linter.all false
namespace Go.Ab.Ytkmmpbmmmbebgaa
set_option maxRecDepth 100000
set_option maxHeartbeats 8000000

/-- The same call comes to the same. -/
theorem _root_.Go.Ab.WC.fix {E : Nat → Option AF} {f : Nat} {as : List A} {bx : List Bx} {Q : A → List Bx → Prop} (h : WC E f as bx Q) : ∃ r b, Q r b ∧ WC E f as bx fun r' b' => r' = r ∧ b' = b := by
  obtain ⟨n, r, b, h, q⟩ := h
  exact ⟨r, b, q, n, r, b, h, rfl, rfl⟩

structure Sizes (u : TUnit) : Prop where
  small : UnitSmall u
  same : ∀ f, f ∈ u.funcs → SameSmall f
  w : ∀ f, f ∈ u.funcs → funcW f ≤ 100000000
  few : u.funcs.length ≤ 6000
  pts : u.points.length ≤ 6000 ∧ ∀ p, p ∈ u.points → p.scope.length ≤ 2000000

theorem sizes_of {u : TUnit} (h : largeN u ≤ 6000) (hz : uSz u ≤ 1100000) : Sizes u := by
  have hf : ∀ f, f ∈ u.funcs → funcSum f ≤ 6000 ∧ fSz f ≤ 1100000 := fun f hf => by
    have h1 := mem_le_sum (g := funcSum) hf
    have h2 := mem_le_sum (g := fSz) hf
    unfold largeN at h
    unfold uSz at hz
    omega
  have hb : ∀ f, f ∈ u.funcs → ∀ b, b ∈ f.blocks → b.ins.length ≤ 6000 ∧ bSz b ≤ 1100000 := fun f hf' b hb => by
    obtain ⟨h1, h2⟩ := hf f hf'
    have h3 := mem_le_sum (g := fun b : TBlock => b.ins.length) hb
    have h4 := mem_le_sum (g := bSz) hb
    unfold funcSum insSum at h1
    unfold fSz at h2
    omega
  have hx : ∀ f, f ∈ u.funcs → ∀ b, b ∈ f.blocks → ∀ x, x ∈ b.ins → x.args.length ≤ 1100000 := fun f hf' b hb' x hx => by
    obtain ⟨_, h2⟩ := hb f hf' b hb'
    have h3 := mem_le_sum (g := iSz) hx
    unfold bSz at h2
    have h4 : iSz x = 1 + x.args.length := rfl
    omega
  have hv : ∀ f, f ∈ u.funcs → ∀ v, v ∈ f.vars → v.fields.length ≤ 1100000 := fun f hf' v hv => by
    obtain ⟨_, h2⟩ := hf f hf'
    have h3 := mem_le_sum (g := vSz) hv
    unfold fSz at h2
    have h4 : vSz v = 1 + v.fields.length := rfl
    omega
  have hp : ∀ p, p ∈ u.points → p.scope.length ≤ 1100000 := fun p hp => by
    have h3 := mem_le_sum (g := pSz) hp
    unfold uSz at hz
    have h4 : pSz p = 1 + p.scope.length := rfl
    omega
  have hn : u.funcs.length ≤ 6000 ∧ u.points.length ≤ 6000 := by unfold largeN at h; omega
  have hfs : ∀ f, f ∈ u.funcs → f.blocks.length ≤ 6000 ∧ f.vars.length ≤ 6000 ∧ insSum f ≤ 6000 := fun f hf' => by
    obtain ⟨h1, _⟩ := hf f hf'
    unfold funcSum at h1
    omega
  refine ⟨⟨fun f hf' => ⟨⟨?_, fun b hb' => ?_, fun b hb' x hx' => ?_, ?_⟩, ?_⟩, ⟨?_, fun p hp' => ?_⟩⟩, fun f hf' => ⟨⟨?_, fun v hv' => ?_⟩, ?_, fun b hb' => ?_, fun b hb' x hx' => ?_⟩, fun f hf' => ?_, hn.1, ⟨hn.2, fun p hp' => ?_⟩⟩
  · have := hfs f hf'; omega
  · have := hb f hf' b hb'; omega
  · have := hx f hf' b hb' x hx'; omega
  · have := hfs f hf'; omega
  · have := hfs f hf'; omega
  · omega
  · have := hp p hp'; omega
  · have := hfs f hf'; omega
  · have := hv f hf' v hv'; omega
  · have := hfs f hf'; omega
  · have := hb f hf' b hb'; omega
  · have := hx f hf' b hb' x hx'; omega
  · have h1 : funcW f ≤ 2 * (f.blocks.map bSz).sum := by
      unfold funcW
      have key : ∀ b : TBlock, insW b ≤ 2 * bSz b := fun b => by
        unfold insW bSz
        induction b.ins with
        | nil => simp
        | cons x l ih => simp only [List.map_cons, List.sum_cons, iSz] at ih ⊢; omega
      induction f.blocks with
      | nil => simp
      | cons b l ih => have := key b; simp only [List.map_cons, List.sum_cons]; omega
    obtain ⟨_, h2⟩ := hf f hf'
    unfold fSz at h2
    omega
  · have := hp p hp'; omega

theorem dceB_mem {o : List Bool} {b : TBlock} {x : TIns} (h : x ∈ (dceB o b).ins) : ∃ y, y ∈ b.ins ∧ x.args = y.args := by
  obtain ⟨y, h1, h2⟩ := List.mem_filterMap.1 h
  refine ⟨y, h1, ?_⟩
  rcases dceI_some h2 with rfl | ⟨_, _, rfl⟩ <;> rfl

theorem sizes_dce {u : TUnit} {l : List TFunc} (h : Sizes u) (hd : DceL u.funcs l) : UnitSmall { u with funcs := l } ∧ ∀ g, g ∈ l → SameSmall g := by
  have hat : ∀ g, g ∈ l → ∃ f o, f ∈ u.funcs ∧ g = dceF o f := fun g hg => by
    obtain ⟨i, hi⟩ := List.getElem?_of_mem hg
    obtain ⟨f, o, h1, h2, _⟩ := hd.at i g hi
    exact ⟨f, o, List.mem_of_getElem? h1, h2⟩
  refine ⟨⟨fun g hg => ?_, h.small.p⟩, fun g hg => ?_⟩
  · obtain ⟨f, o, hf, rfl⟩ := hat g hg
    obtain ⟨h1, h2⟩ := h.small.f f hf
    refine ⟨⟨?_, fun b hb => ?_, fun b hb x hx => ?_, h1.v⟩, Nat.le_trans (insSum_dce o f) h2⟩
    · simpa [dceF] using h1.b
    · obtain ⟨b0, hb0, rfl⟩ := List.mem_map.1 hb
      exact Nat.le_trans (List.length_filterMap_le _ _) (h1.i b0 hb0)
    · obtain ⟨b0, hb0, rfl⟩ := List.mem_map.1 hb
      obtain ⟨y, hy, hya⟩ := dceB_mem hx
      rw [hya]
      exact h1.a b0 hb0 y hy
  · obtain ⟨f, o, hf, rfl⟩ := hat g hg
    have h1 := h.same f hf
    refine ⟨h1.v, ?_, fun b hb => ?_, fun b hb x hx => ?_⟩
    · simpa [dceF] using h1.b
    · obtain ⟨b0, hb0, rfl⟩ := List.mem_map.1 hb
      exact Nat.le_trans (List.length_filterMap_le _ _) (h1.i b0 hb0)
    · obtain ⟨b0, hb0, rfl⟩ := List.mem_map.1 hb
      obtain ⟨y, hy, hya⟩ := dceB_mem hx
      rw [hya]
      exact h1.a b0 hb0 y hy

theorem again_ok {u : TUnit} {e : List A} (h : UnitR u e) (hz : uSz u ≤ 1100000) (hw : WC E 10 [] [] fun r _ => r = .v (.bool true)) : WC E 4 [.agg e] [] fun r _ => r = .v (.bool true) := by
  have hlu := large_le u
  have csm := small_ok h (by omega)
  by_cases hL : largeN u ≤ 6000
  case' pos =>
    have hsz := sizes_of hL hz
    have cso := sound_ok h hsz.small
    have ccp := copy_ok h (fun f hf => (hsz.small.f f hf).1) ⟨by have := hsz.few; omega, hsz.small.p.1⟩
    obtain ⟨rc, bc, ⟨e1, rfl, hR1⟩, ccp⟩ := ccp.fix
    have key : MayP u → SoundU u → ∃ (l : List TFunc) (e2 : List A), UnitR { u with funcs := l } e2 ∧ MayP { u with funcs := l } ∧ UnitSmall { u with funcs := l } ∧ (∀ g, g ∈ l → SameSmall g) ∧ l.length ≤ 6000 ∧ ∃ b, WC E 12 [.agg e1] [] fun r b' => r = .agg e2 ∧ b' = b := fun hm hs => by
      have hok : ∀ f, f ∈ u.funcs → DceFOK f := fun f hf => by
        obtain ⟨i, hi⟩ := List.getElem?_of_mem hf
        exact dceFOK hm hs hi (hsz.small.f f hf).1 (hsz.w f hf)
      obtain ⟨r, b, ⟨l, e2, hl, rfl, hR2⟩, cu⟩ := (unit_ok hR1 hok (by have := hsz.few; omega)).fix
      have hs2 := sizes_dce hsz hl
      exact ⟨l, e2, hR2, mayP_dce hm hl, hs2.1, hs2.2, by rw [hl.len]; exact hsz.few, b, cu⟩
  all_goals
    obtain ⟨funcs, main, points⟩ := u
    have hR0 := h
    obtain ⟨_, _, rfl, ⟨nf, fs, n, rfl, hfl, h1, hf, _⟩, ⟨np, ps, m, rfl, hpl, h2, hP, _⟩⟩ := h
    refine WC.enter rfl rfl rfl ?_
    unfold b4
    repeat' (first | refine W.seq ?_ | refine W.easy (n := 200) (k := ?_) | refine W.regS ?_ | refine WS.pre (n := 200) (k := ?_) | fail)
    refine WS.call (hc := (csm)) (k := ?_)
    rintro _ _ (⟨rfl, hsm⟩ | ⟨rfl, hsm⟩)
    all_goals
      refine ⟨_, _, _, by cbv; first | done | fail, by cbv; first | done | fail, ?_⟩
      repeat' (first | refine W.seq ?_ | (refine W.condL (h := ?_); change W _ _ _ _) | refine W.regS ?_ | refine WS.done ?_ | refine WS.pre (n := 200) (k := ?_) | (refine WS.guard (h := ?_); change WS _ _ _ _) | fail)
  case' pos.inr | neg.inr =>
    refine WS.call (hc := (hw)) (k := ?_)
    rintro _ _ rfl
    refine ⟨_, _, _, by cbv; first | done | fail, by cbv; first | done | fail, ?_⟩
    repeat' (first | refine W.ret ?_ | refine Ret.ret (k := ?_) | refine WS.done ?_ | refine WS.consN (n := 60) (k := ?_) | fail)
    rfl
  case' neg.inl => exact absurd hsm.1 hL
  refine WS.call (hc := (cso)) (k := ?_)
  rintro _ _ (⟨rfl, hS⟩ | ⟨rfl, hS⟩)
  · obtain ⟨l, e2, hR2, hm2, hs2, hsame2, hl2, b2, cu⟩ := key hS.1 hS
    have cmay := may_ok hR2 hs2.f hs2.p
    have csame := same_ok hR2 hR2 hsame2 (by simp only; omega) ⟨by have := hsz.pts.1; simp only at this ⊢; omega, fun p hp => Nat.le_trans (hsz.pts.2 p hp) (by decide)⟩
    obtain ⟨_, _, rfl, ⟨nf1, fs1, n1, rfl, hfl1, h11, hf1, _⟩, ⟨np1, ps1, m1, rfl, hpl1, h21, hP1, _⟩⟩ := hR1
    obtain ⟨_, _, rfl, ⟨nf2, fs2, n2, rfl, hfl2, h12, hf2, _⟩, ⟨np2, ps2, m2, rfl, hpl2, h22, hP2, _⟩⟩ := hR2
    refine ⟨_, _, _, by cbv; first | done | fail, by cbv; first | done | fail, ?_⟩
    repeat' (first | refine W.seq ?_ | refine W.skip ?_ | refine W.frz (k := ?_) | (refine W.condL (h := ?_); change W _ _ _ _) | refine W.regS ?_ | refine WS.done ?_ | refine WS.pre (n := 200) (k := ?_) | fail)
    refine WS.call (hc := (ccp)) (k := ?_)
    rintro _ _ ⟨rfl, rfl⟩
    refine ⟨_, _, _, by cbv; first | done | fail, by cbv; first | done | fail, ?_⟩
    repeat' (first | refine W.seq ?_ | refine W.easy (n := 200) (k := ?_) | refine W.easyD (n := 200) (k := ?_) | refine W.block ?_ | refine W.skip ?_ | refine W.ret ?_ | refine W.exit ?_ | refine W.frz (k := ?_) | refine Ret.ret (k := ?_) | refine Ret.normal (k := ?_) | (refine W.condL (h := ?_); change W _ _ _ _) | refine W.cond (ha := fun h => ?_) (hb := fun h => ?_) | refine W.regS ?_ | refine WS.done ?_ | refine WS.setApp (h := fun r hr => ?_) | refine WS.stoApp (h := fun r hr => ?_) | refine WS.loadP (k := ?_) | refine WS.stoP (k := fun q hq => ?_) | refine WS.pre (n := 200) (k := ?_) | (refine WS.guard (h := ?_); change WS _ _ _ _) | refine WS.lenO (k := ?_) | refine WS.len (h := ?_) | refine WS.iaddrO (k := ?_) | refine WS.iaddr (h := ?_) | (refine WS.cmp (k1 := fun h => ?_) (k2 := fun h => ?_) <;> simp only [cmpP, Int.ofNat_eq_natCast, not_true_eq_false, ne_eq] at h <;> (try (exfalso; omega))) | refine WS.inc (h := ?_) | (refine WS.add (h := fun c hc => ?_) <;> (try simp only [Int.ofNat_eq_natCast] at hc)) | refine WS.mk' (k := fun r hr => ?_) | refine WS.app (hn := (news_imm (by assumption))) (h := ?_) | refine WS.app (h := ?_) | refine WS.dec (h := ?_) | refine WS.subO (k := ?_) | refine WS.stoSub (h := fun r hr => ?_) | refine WS.lookI (h := fun hin => ?_) (h0 := fun hin => ?_) | refine WS.upI (h := fun ks' es' hks' hkv' => ?_) | refine WS.strNe (k := ?_) | refine WS.strEq (k := ?_) | refine WS.eqSame (k := ?_) | refine WS.consN (n := 60) (k := ?_) | refine W.beginD (h := ?_) | (refine WD.done ⟨_, by cbv; first | done | fail, ?_⟩; dsimp only) | refine WD.setApp (h := fun r hr => ?_) | refine WD.stoApp (h := fun r hr => ?_) | refine WD.loadP (h := ?_) | refine WD.stoP (k := fun q hq => ?_) | refine WD.stoN (k := fun q hq => ?_) | refine WD.pre (n := 200) (ha := rfl) (k := ?_) | (refine WD.guard (h := ?_); change WD _ _ _ _ _ _ _ _) | refine WD.want (h := ?_) | refine WD.lenO (k := ?_) | refine WD.len (h := ?_) | refine WD.iaddrO (h := ?_) | refine WD.iaddr (h := ?_) | (refine WD.cmp (k1 := fun h => ?_) (k2 := fun h => ?_) <;> simp only [cmpP, Int.ofNat_eq_natCast, not_true_eq_false, ne_eq] at h <;> (try (exfalso; omega))) | (refine WD.add (h := fun c hc => ?_) <;> (try simp only [Int.ofNat_eq_natCast] at hc)) | refine WD.appN (k := ?_) | refine WD.appI (h := ?_) | refine WD.app (h := ?_) | (refine WD.appN0 (h := fun h0 => ?_) (k := fun h0 => ?_)) | refine WD.appIN (k := ?_) | refine WD.strNeV (h := ?_) | refine WD.strNe (k := ?_) | refine WD.strEq (k := ?_) | refine WD.eqSame (k := ?_) | refine WD.oneN (n := 60) (k := ?_) | fail)
    refine WS.call (hc := (cu)) (k := ?_)
    rintro _ _ ⟨rfl, rfl⟩
    refine ⟨_, _, _, by cbv; first | done | fail, by cbv; first | done | fail, ?_⟩
    repeat' (first | refine W.seq ?_ | refine W.frz (k := ?_) | refine WS.done ?_ | refine WS.pre (n := 200) (k := ?_) | refine WS.consN (n := 60) (k := ?_) | refine W.beginD (h := ?_) | refine WD.pre (n := 200) (ha := rfl) (k := ?_) | fail)
    refine WD.call (hc := (cmay)) (k := ?_)
    rintro _ _ (⟨rfl, _⟩ | ⟨rfl, hn⟩)
    case' inr => exact absurd hm2 hn
    refine ⟨_, _, _, by cbv; first | done | fail, by cbv; first | done | fail, ?_⟩
    repeat' (first | refine WD.pre (n := 200) (ha := rfl) (k := ?_) | (refine WD.guard (h := ?_); change WD _ _ _ _ _ _ _ _) | fail)
    refine WD.qcall (hc := (ccp)) (k := ?_)
    rintro _ _ ⟨rfl, rfl⟩
    refine ⟨_, _, _, by cbv; first | done | fail, by cbv; first | done | fail, by cbv; first | done | fail, ?_⟩
    repeat' (first | (refine WD.guard (h := ?_); change WD _ _ _ _ _ _ _ _) | fail)
    refine WD.qcall (hc := (cu)) (k := ?_)
    rintro _ _ ⟨rfl, rfl⟩
    refine ⟨_, _, _, by cbv; first | done | fail, by cbv; first | done | fail, by cbv; first | done | fail, ?_⟩
    repeat' (first | (refine WD.guard (h := ?_); change WD _ _ _ _ _ _ _ _) | fail)
    refine WD.call (hc := (csame)) (k := ?_)
    rintro _ _ rfl
    refine ⟨_, _, _, by cbv; first | done | fail, by cbv; first | done | fail, ?_⟩
    repeat' (first | refine WD.pre (n := 200) (ha := rfl) (k := ?_) | (refine WD.guard (h := ?_); change WD _ _ _ _ _ _ _ _) | fail)
    refine WD.call (hc := (hw)) (k := ?_)
    rintro _ _ rfl
    refine ⟨_, _, _, by cbv; first | done | fail, by cbv; first | done | fail, ?_⟩
    repeat' (first | refine W.ret ?_ | refine Ret.ret (k := ?_) | (refine WD.done ⟨_, by cbv; first | done | fail, ?_⟩; dsimp only) | refine WD.pre (n := 200) (ha := rfl) (k := ?_) | refine WD.oneN (n := 60) (k := ?_) | fail)
    rfl
  ·
    refine ⟨_, _, _, by cbv; first | done | fail, by cbv; first | done | fail, ?_⟩
    repeat' (first | refine W.seq ?_ | (refine W.condL (h := ?_); change W _ _ _ _) | refine W.regS ?_ | refine WS.done ?_ | refine WS.pre (n := 200) (k := ?_) | fail)
    refine WS.call (hc := (hw)) (k := ?_)
    rintro _ _ rfl
    refine ⟨_, _, _, by cbv; first | done | fail, by cbv; first | done | fail, ?_⟩
    repeat' (first | refine W.ret ?_ | refine Ret.ret (k := ?_) | refine WS.done ?_ | refine WS.consN (n := 60) (k := ?_) | fail)
    rfl
end Go.Ab.Ytkmmpbmmmbebgaa
