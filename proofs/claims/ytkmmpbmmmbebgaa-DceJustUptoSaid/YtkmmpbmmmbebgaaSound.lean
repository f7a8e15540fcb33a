/- Is a function sound? -/
import Derived.Test.YtkmmpbmmmbebgaaMay
import Derived.Test.YtkmmpbmmmbebgaaM4
set_option linter.all false
namespace Go.Ab.Ytkmmpbmmmbebgaa
set_option maxRecDepth 100000
set_option maxHeartbeats 8000000
def MarkBefore (f : TFunc) (b i : Nat) (v : Int) : Prop := ∃ p q x, insAt f p q = some x /\ (p < b \/ p = b /\ q < i) /\ x.op = 45 /\ x.num = v
def insLen (f : TFunc) (p : Nat) : Nat := match f.blocks[p]? with | some b => b.ins.length | none => 0
def UseP (f : TFunc) (b i : Nat) (x : TIns) (k : Nat) (u : Int) : Prop :=
 if x.op = 47 then ∃ (l : List Int) (w : Int), (waysF f)[b]? = some l /\ l[k]? = some w /\ ThereP f u w.toNat (insLen f w.toNat) else ThereP f u b i
structure SoundI (f : TFunc) (b i : Nat) (x : TIns) : Prop where
 get : x.op ≠ 34 /\ x.op ≠ 35
 use : ∀ (k : Nat) (u : Int), (usesF x)[k]? = some u -> UseP f b i x k u
 made : 0 <= makesF x -> FirstMade f (makesF x) b i
 mark : x.op = 45 -> ¬ MarkBefore f b i x.num
structure SoundB (f : TFunc) (b : Nat) (y : TBlock) : Prop where
 way : Way f (-1) b
 ins : ∀ (i : Nat) (x : TIns), y.ins[i]? = some x -> SoundI f b i x
 term : y.term.kind ≠ 1 -> 0 <= y.term.a -> ThereP f y.term.a b y.ins.length
def SoundF (f : TFunc) : Prop := ∀ (b : Nat) (y : TBlock), f.blocks[b]? = some y -> SoundB f b y
theorem addWays_range (i N : Int) (hi : 0 <= i /\ i < N) : ∀ (l : List Int) (w : List (List Int)), (∀ r, r ∈ w -> ∀ v, v ∈ r -> 0 <= v /\ v < N) -> ∀ r, r ∈ addWays i l w -> ∀ v, v ∈ r -> 0 <= v /\ v < N
 | [], w, h => h
 | d :: l, w, h => by
   rw [addWays]
   refine addWays_range i N hi l _ fun r hr v hv => ?_
   rcases List.mem_or_eq_of_mem_set hr with h1 | rfl
   ·exact h r h1 v hv
   ·rcases List.mem_append.1 hv with h2 | h2
    ·rw [List.getD_eq_getElem?_getD] at h2
     cases hg : w[d.toNat]? with
     | none => rw [hg] at h2; cases h2
     | some r => rw [hg] at h2; exact h r (List.mem_of_getElem? hg) v h2
    ·simp at h2; subst h2; exact hi
theorem waysTo_range (N : Nat) : ∀ (bs : List TBlock) (i : Nat) (w : List (List Int)), i + bs.length <= N -> (∀ r, r ∈ w -> ∀ v, v ∈ r -> 0 <= v /\ v < (N : Int)) -> ∀ r, r ∈ waysTo bs i w -> ∀ v, v ∈ r -> 0 <= v /\ v < (N : Int)
 | [], i, w, _, h => h
 | b :: bs, i, w, hi, h => by
   rw [waysTo]
   simp only [List.length_cons] at hi
   exact waysTo_range N bs (i + 1) _ (by omega) (addWays_range i N (by omega) _ _ h)
theorem ways_range {f : TFunc} : ∀ r, r ∈ waysF f -> ∀ v, v ∈ r -> 0 <= v /\ v < f.blocks.length :=
 waysTo_range f.blocks.length f.blocks 0 _ (by omega) fun r hr v hv => by rw [(List.mem_replicate.1 hr).2] at hv; cases hv
theorem markBefore_zero {f : TFunc} {v : Int} : ¬ MarkBefore f 0 0 v := by rintro ⟨p, q, x, _, h, _⟩; omega
theorem markBefore_snoc {f : TFunc} {b i : Nat} {x : TIns} (h : insAt f b i = some x) (v : Int) : MarkBefore f b (i + 1) v ↔ MarkBefore f b i v \/ (x.op = 45 /\ v = x.num) := by
 constructor
 ·rintro ⟨p, q, y, h1, h2, h3, h4⟩
  by_cases hq : p = b /\ q = i
  ·obtain ⟨rfl, rfl⟩ := hq
   rw [h] at h1
   cases h1
   exact .inr ⟨h3, h4.symm⟩
  ·exact .inl ⟨p, q, y, h1, by omega, h3, h4⟩
 ·rintro (⟨p, q, y, h1, h2, h3, h4⟩ | ⟨h3, rfl⟩)
  ·exact ⟨p, q, y, h1, by omega, h3, h4⟩
  ·exact ⟨b, i, x, h, by omega, h3, rfl⟩
theorem markBefore_next {f : TFunc} {b : Nat} {y : TBlock} (h : f.blocks[b]? = some y) (v : Int) : MarkBefore f (b + 1) 0 v ↔ MarkBefore f b y.ins.length v := by
 constructor
 ·rintro ⟨p, q, x, h1, h2, h3, h4⟩
  refine ⟨p, q, x, h1, ?_, h3, h4⟩
  by_cases hp : p = b
  ·subst hp
   rw [insAt_of h] at h1
   have := (List.getElem?_eq_some_iff.1 h1).1
   exact .inr ⟨rfl, this⟩
  ·omega
 ·rintro ⟨p, q, x, h1, h2, h3, h4⟩
  exact ⟨p, q, x, h1, by omega, h3, h4⟩
theorem soundF_ok {u : TUnit} {n : Int} {f : TFunc} {e : List A} (h : FuncR f e) (hs : FuncSmall f) (hp : FunP u n f) : WC E 38 [.agg e] [] fun r _ => ∃ a b t, r = .tup [.v (.int .i64 a), .v (.int .i64 b), .v (.bool t)] /\ (t = true ↔ SoundF f) := by
 have hE := ends_of hp.term
 have h0 : 0 < f.blocks.length := by have := hp.head; omega
 have ct := table_ok h h0 hs.b hE
 have cw := ways_ok h hs.b hE
 have cr := reached_ok h h0 hs.b hE
 have cth := fun {t : A} (ht : TableR f t) (v : Int) {b i : Nat} (hb : b < f.blocks.length) => there_ok (i := i) h hs ht v hb
 have cm := made_ok h hs
 have hph := hp.ins
 have hwl : (waysF f).length = f.blocks.length := by unfold waysF; rw [waysTo_len, List.length_replicate]
 have hwr := ways_range (f := f)
 have hSB := fun b y (hy : f.blocks[b]? = some y) (hS : SoundF f) => hS b y hy
 have hSF : (∀ b y, f.blocks[b]? = some y -> SoundB f b y) -> SoundF f := fun h => h
 have hil : ∀ (p : Nat) (y : TBlock), f.blocks[p]? = some y -> insLen f p = y.ins.length := fun p y hy => by unfold insLen; rw [hy]
 obtain ⟨_, _, rfl, ⟨nv, vs, nvl, rfl, hvl, h3, hv, _⟩, ⟨nb, bs, nbl, rfl, hbl, h4, hb, _⟩⟩ := h
 have hsb := hs.b
 refine WC.enter rfl rfl rfl ?_
 unfold b38 ki kb mw lt ov oo
 repeat' (first | refine W.seq ?_ | refine W.easy (n := 200) (k := ?_) | refine W.frz (k := ?_) | refine W.regS ?_ | refine WS.pre (n := 200) (k := ?_) | fail)
 refine WS.call (hc := (ct)) (k := ?_)
 rintro _ _ ht
 have ht0 := ht
 obtain ⟨nt, et, nT, rfl, ht1, ht2, ht3⟩ := ht
 refine ⟨_, _, _, by cbv; first | done | fail, by cbv; first | done | fail, ?_⟩
 repeat' (first | refine W.seq ?_ | refine W.frz (k := ?_) | refine W.regS ?_ | refine WS.done ?_ | refine WS.pre (n := 200) (k := ?_) | refine WS.consN (n := 60) (k := ?_) | fail)
 refine WS.call (hc := (cw)) (k := ?_)
 rintro _ _ ⟨nw, ws, nwl, rfl, hw1, hw2, hW, _⟩
 refine ⟨_, _, _, by cbv; first | done | fail, by cbv; first | done | fail, ?_⟩
 repeat' (first | refine W.seq ?_ | refine W.frz (k := ?_) | refine W.regS ?_ | refine WS.done ?_ | refine WS.pre (n := 200) (k := ?_) | refine WS.consN (n := 60) (k := ?_) | fail)
 refine WS.call (hc := (cr)) (k := ?_)
 rintro _ _ ⟨lr, ⟨nr, rs, nrl, rfl, hr1, hr2, hRr, _⟩, hlr, hra⟩
 refine ⟨_, _, _, by cbv; first | done | fail, by cbv; first | done | fail, ?_⟩
 repeat' (first | refine W.seq ?_ | refine W.easy (n := 200) (k := ?_) | refine W.block ?_ | refine W.frz (k := ?_) | refine WS.done ?_ | refine WS.consN (n := 60) (k := ?_) | fail)
 have hrat : ∀ i, i < f.blocks.length -> ∃ t, rs[i]? = some [.v (.bool t)] /\ (t = true ↔ Way f (-1) i) := fun i hi => by
  obtain ⟨t, h1, h2⟩ := bools_at hlr hra (j := i) hi
  exact ⟨t, bRow_at hRr h1, h2⟩
 refine W.forA nbl (fun i (es : List (Value × A)) σ => sn 5 i (sm 1 es σ)) (fun i es => (∃ ks, MapI ks es /\ ∀ v, v ∈ ks ↔ MarkBefore f i 0 v) /\ ∀ (j : Nat) (y : TBlock), j < i -> f.blocks[j]? = some y -> SoundB f j y) 0 (Nat.zero_le _) ?_ ?_
 ·exact ⟨[], by cbv, ⟨[], rfl, fun v => iff_of_false (by simp) markBefore_zero⟩, upto_zero⟩
 rintro QA kA i es hi ⟨⟨ks, hks, hkv⟩, hBs⟩
 refine W.norm (k := ?_)
 unfold l38_2 ki kb vi mt mw fa ft ll lg iz og ov oo
 by_cases hin : i < nbl
 ·as_aux_lemma =>
   have hib : i < f.blocks.length := by omega
   obtain ⟨eb, heb, hRb⟩ := hb.at i hib
   have hbi : f.blocks[i]? = some f.blocks[i] := List.getElem?_eq_getElem hib
   have hils := hs.i _ (List.getElem_mem hib)
   have hals := hs.a _ (List.getElem_mem hib)
   obtain ⟨t0, hrt, hrw⟩ := hrat i hib
   have hnext := fun v => markBefore_next hbi v
   have hbad : ∀ Q : Prop, (SoundB f i f.blocks[i] -> Q) -> SoundF f -> Q := fun Q k h => k (hSB i _ hbi h)
   have hphi := hph i _ hbi
   have hat : ∀ q, insAt f i q = f.blocks[i].ins[q]? := fun q => insAt_of hbi
   have hsn := fun h => upto_snoc (P := fun j y => SoundB f j y) hBs hbi h
   have cthi := fun (v : Int) (k : Nat) => cth ht0 v (b := i) (i := k) hib
   generalize f.blocks[i] = b at hRb hbi hils hals hnext hbad hphi hat hsn
   obtain ⟨ins, ⟨kind, a, to, els⟩⟩ := b
   obtain ⟨_, rfl, ⟨ni, is, nil, rfl, hil2, h5, hI, _⟩⟩ := hRb
   simp only at h5 hils hals hI hnext hphi hat
   cases t0
   ·
    repeat' (first | refine W.seq ?_ | refine W.easy (n := 200) (k := ?_) | refine W.block ?_ | refine W.skip ?_ | refine W.ret ?_ | (refine W.condL (h := ?_); change W _ _ _ _) | refine W.regS ?_ | refine WS.done ?_ | refine WS.pre (n := 200) (k := ?_) | refine WS.len (h := ?_) | refine WS.iaddr (h := ?_) | (refine WS.cmp (k1 := fun h => ?_) (k2 := fun h => ?_) <;> simp only [cmpP, oC, nTr, ne_eq] at h <;> (try (exfalso; omega))) | fail)
    refine kA _ _ ?_
    repeat' (first | refine Ret.ret (k := ?_) | fail)
    exact ⟨_, _, _, rfl, iff_of_false (by simp) (hbad False fun h => by have := hrw.2 h.way; cases this)⟩
   have hway := hrw.1 rfl
   repeat' (first | refine W.seq ?_ | refine W.easy (n := 200) (k := ?_) | refine W.block ?_ | refine W.skip ?_ | (refine W.condL (h := ?_); change W _ _ _ _) | refine W.regS ?_ | refine WS.done ?_ | refine WS.pre (n := 200) (k := ?_) | refine WS.len (h := ?_) | refine WS.iaddr (h := ?_) | (refine WS.cmp (k1 := fun h => ?_) (k2 := fun h => ?_) <;> simp only [cmpP, oC, nTr, ne_eq] at h <;> (try (exfalso; omega))) | refine WS.consN (n := 60) (k := ?_) | fail)
   refine W.forA nil (fun k (es : List (Value × A)) σ => sn 9 k (sm 1 es σ)) (fun k es => (∃ ks, MapI ks es /\ ∀ v, v ∈ ks ↔ MarkBefore f i k v) /\ ∀ (j : Nat) (y : TIns), j < k -> ins[j]? = some y -> SoundI f i j y) 0 (Nat.zero_le _) ?_ ?_
   ·exact ⟨es, by cbv, ⟨ks, hks, hkv⟩, upto_zero⟩
   clear hks hkv
   clear ks
   rintro QB kB k es2 hk ⟨⟨ks, hks, hkv⟩, hIs⟩
   refine W.norm (k := ?_)
   unfold l38_1 ki kb vi mt mw ft ll lg lt iz og ov oo
   by_cases hkn : k < nil
   ·as_aux_lemma =>
     have hki : k < ins.length := by omega
     obtain ⟨ek, hek, hRk⟩ := hI.at k hki
     have hxk : ins[k]? = some ins[k] := List.getElem?_eq_getElem hki
     have hxa := hals _ (List.getElem_mem hki)
     have hatk := hat k
     rw [hxk] at hatk
     have hphk := hphi k _ hxk
     have hsnI := fun h => upto_snoc (P := fun j y => SoundI f i j y) hIs hxk h
     generalize ins[k] = x at *
     have cu := uses_ok hRk (by omega)
     have cmk := makes_ok hRk
     have hbadI : ∀ Q : Prop, (SoundI f i k x -> Q) -> SoundF f -> Q := fun Q kk => hbad Q fun h => kk (h.ins k x hxk)
     have hmb := markBefore_snoc hatk
     have hul := uses_len x
     have hu47 : x.op = 47 -> usesF x = x.args := fun h => by unfold usesF; rw [h]; rfl
     have hma : MadeAt f (makesF x) i k := ⟨x, hatk, rfl⟩
     obtain ⟨op, dst, xa, xb, var, num, args⟩ := x
     obtain ⟨_, rfl, ⟨na, as, nal, rfl, hal, h6, hA, _⟩⟩ := hRk
     simp only at hxa h6 hul hu47 hmb
     repeat' (first | refine W.seq ?_ | refine W.easy (n := 200) (k := ?_) | refine W.block ?_ | refine W.skip ?_ | refine W.ret ?_ | refine W.frz (k := ?_) | (refine W.condL (h := ?_); change W _ _ _ _) | refine W.regS ?_ | refine WS.done ?_ | refine WS.pre (n := 200) (k := ?_) | (refine WS.guard (h := ?_); change WS _ _ _ _) | refine WS.len (h := ?_) | refine WS.iaddr (h := ?_) | (refine WS.cmp (k1 := fun h => ?_) (k2 := fun h => ?_) <;> simp only [cmpP, oC, nTr, ne_eq] at h <;> (try (exfalso; omega))) | refine WS.consN (n := 60) (k := ?_) | fail)
     all_goals try
      refine kB _ _ (kA _ _ ?_)
      repeat' (first | refine Ret.ret (k := ?_) | fail)
      exact ⟨_, _, _, rfl, iff_of_false (by simp) (hbadI False fun h => by have := h.get; simp only [ne_eq] at this; omega)⟩
     refine WS.call (hc := (cu)) (k := ?_)
     rintro _ _ ⟨nu, us, un, rfl, hn1, hnn, hU, _⟩
     refine ⟨_, _, _, by cbv; first | done | fail, by cbv; first | done | fail, ?_⟩
     repeat' (first | refine W.seq ?_ | refine W.easy (n := 200) (k := ?_) | refine W.block ?_ | refine W.frz (k := ?_) | refine WS.done ?_ | refine WS.consN (n := 60) (k := ?_) | fail)
     have hun : un = (usesF ⟨op, dst, xa, xb, var, num, args⟩).length := hnn
     refine W.forA un (fun q (_ : Unit) σ => sn 14 q σ) (fun q _ => ∀ (j : Nat) (y : Int), j < q -> (usesF ⟨op, dst, xa, xb, var, num, args⟩)[j]? = some y -> UseP f i k ⟨op, dst, xa, xb, var, num, args⟩ j y) 0 (Nat.zero_le _) ?_ ?_
     ·exact ⟨(), by cbv, upto_zero⟩
     rintro QC kC q _ hq hN
     refine W.norm (k := ?_)
     unfold l38_0 ki kb mt mw fa ft ll lt iz ov oo
     by_cases hqn : q < un
     ·as_aux_lemma =>
       have hqu : q < (usesF ⟨op, dst, xa, xb, var, num, args⟩).length := by omega
       obtain ⟨eq, heq, rfl⟩ := hU.at q hqu
       have hqy : (usesF ⟨op, dst, xa, xb, var, num, args⟩)[q]? = some (usesF ⟨op, dst, xa, xb, var, num, args⟩)[q] := List.getElem?_eq_getElem hqu
       have hsnU := fun h => upto_snoc (P := fun j y => UseP f i k ⟨op, dst, xa, xb, var, num, args⟩ j y) hN hqy h
       have hbadU : ∀ Q : Prop, (UseP f i k ⟨op, dst, xa, xb, var, num, args⟩ q (usesF ⟨op, dst, xa, xb, var, num, args⟩)[q] -> Q) -> SoundF f -> Q := fun Q kk => hbadI Q fun h => kk (h.use q _ hqy)
       have hq47 : op = 47 -> q < args.length := fun h => by rw [<- hu47 h]; exact hqu
       generalize (usesF ⟨op, dst, xa, xb, var, num, args⟩)[q] = y at *
       have c1 := cthi y k
       have hU1 : op ≠ 47 -> (UseP f i k ⟨op, dst, xa, xb, var, num, args⟩ q y ↔ ThereP f y i k) := fun h => by unfold UseP; rw [if_neg h]
       by_cases h47 : op = 47
       ·subst h47
        obtain ⟨w1, w2, wl, hwl1, hwl2⟩ := hphk.phi rfl
        simp only at hwl2
        have hqw : q < wl.length := by rw [<- hwl2]; exact hq47 rfl
        have hwlk : wl[q]? = some wl[q] := List.getElem?_eq_getElem hqw
        have hwr2 := hwr wl (List.mem_of_getElem? hwl1) _ (List.getElem_mem hqw)
        have hiw : i < (waysF f).length := (List.getElem?_eq_some_iff.1 hwl1).1
        obtain ⟨ew, hew, hC⟩ := hW.at i hiw
        have hwe : (waysF f)[i] = wl := by rw [List.getElem?_eq_getElem hiw] at hwl1; exact Option.some.inj hwl1
        rw [hwe] at hC
        rcases hC with ⟨_, rfl⟩ | ⟨old, rfl, hold⟩
        ·simp at hqw
        obtain ⟨eo, heo, hoe⟩ := hold.at q hqw
        generalize wl[q] = wv at *
        subst hoe
        obtain ⟨wb, rfl, hwb⟩ := intOf hwr2
        have hol := hold.len
        obtain ⟨e2, he2, hR2⟩ := hb.at wb (by omega)
        have hb2 : f.blocks[wb]? = some f.blocks[wb] := List.getElem?_eq_getElem (by omega)
        have hil2 := hil wb _ hb2
        generalize f.blocks[wb] = b2 at hR2 hb2 hil2
        obtain ⟨ins2, ⟨kind2, a2, to2, els2⟩⟩ := b2
        obtain ⟨_, rfl, ⟨ni2, is2, nil2, rfl, hil22, h52, hI2, _⟩⟩ := hR2
        simp only at h52 hil2
        have c2 := cth ht0 y (b := wb) (i := nil2) (by omega)
        have hU2 : UseP f i k ⟨47, dst, xa, xb, var, num, args⟩ q y ↔ ThereP f y wb nil2 := by
         unfold UseP
         rw [if_pos rfl]
         constructor
         ·rintro ⟨l, w, k1, k2, k3⟩
          rw [hwl1] at k1
          cases k1
          rw [hwlk] at k2
          cases k2
          have e : (Int.ofNat wb).toNat = wb := rfl
          rw [e, hil2, <- h52] at k3
          exact k3
         ·intro k3
          refine ⟨wl, _, hwl1, hwlk, ?_⟩
          have e : (Int.ofNat wb).toNat = wb := rfl
          rw [e, hil2, <- h52]
          exact k3
        repeat' (first | refine W.seq ?_ | refine W.block ?_ | refine W.skip ?_ | (refine W.condL (h := ?_); change W _ _ _ _) | refine W.regS ?_ | refine WS.done ?_ | refine WS.pre (n := 200) (k := ?_) | refine WS.len (h := ?_) | (refine WS.cmp (k1 := fun h => ?_) (k2 := fun h => ?_) <;> simp only [cmpP, oC, nTr, ne_eq] at h <;> (try (exfalso; omega))) | refine W.beginD (h := ?_) | refine WD.pre (n := 200) (ha := rfl) (k := ?_) | refine WD.iaddr (h := ?_) | fail)
        refine WD.call (hc := (c1)) (k := ?_)
        rintro _ _ (⟨rfl, hp1⟩ | ⟨rfl, hp1⟩)
        all_goals
         refine ⟨_, _, _, by cbv; first | done | fail, by cbv; first | done | fail, ?_⟩
         repeat' (first | refine W.seq ?_ | (refine W.condL (h := ?_); change W _ _ _ _) | refine W.regS ?_ | refine WS.done ?_ | refine WS.pre (n := 200) (k := ?_) | (refine WS.cmp (k1 := fun h => ?_) (k2 := fun h => ?_) <;> simp only [cmpP, oC, nTr, ne_eq] at h <;> (try (exfalso; omega))) | refine W.beginD (h := ?_) | (refine WD.done ⟨_, by cbv; first | done | fail, ?_⟩; dsimp only) | refine WD.pre (n := 200) (ha := rfl) (k := ?_) | refine WD.len (h := ?_) | refine WD.iaddr (h := ?_) | refine WD.oneN (n := 60) (k := ?_) | fail)
         refine WD.call (hc := (c2)) (k := ?_)
         rintro _ _ (⟨rfl, hp2⟩ | ⟨rfl, hp2⟩)
         all_goals
          refine ⟨_, _, _, by cbv; first | done | fail, by cbv; first | done | fail, ?_⟩
          repeat' (first | refine W.seq ?_ | refine W.easy (n := 200) (k := ?_) | refine W.skip ?_ | refine W.ret ?_ | (refine W.condL (h := ?_); change W _ _ _ _) | refine W.regS ?_ | refine WS.done ?_ | refine WS.pre (n := 200) (k := ?_) | refine WS.inc (h := ?_) | refine WS.consN (n := 60) (k := ?_) | (refine WD.done ⟨_, by cbv; first | done | fail, ?_⟩; dsimp only) | refine WD.oneN (n := 60) (k := ?_) | fail)
        ·exact ⟨by omega, (), by cbv, hsnU (hU2.2 hp2)⟩
        ·refine kC _ _ (kB _ _ (kA _ _ ?_))
         repeat' (first | refine Ret.ret (k := ?_) | fail)
         exact ⟨_, _, _, rfl, iff_of_false (by simp) (hbadU False fun h => hp2 (hU2.1 h))⟩
        ·exact ⟨by omega, (), by cbv, hsnU (hU2.2 hp2)⟩
        ·refine kC _ _ (kB _ _ (kA _ _ ?_))
         repeat' (first | refine Ret.ret (k := ?_) | fail)
         exact ⟨_, _, _, rfl, iff_of_false (by simp) (hbadU False fun h => hp2 (hU2.1 h))⟩
       ·
        repeat' (first | refine W.seq ?_ | refine W.block ?_ | refine W.skip ?_ | (refine W.condL (h := ?_); change W _ _ _ _) | refine W.regS ?_ | refine WS.done ?_ | refine WS.pre (n := 200) (k := ?_) | refine WS.len (h := ?_) | (refine WS.cmp (k1 := fun h => ?_) (k2 := fun h => ?_) <;> simp only [cmpP, oC, nTr, ne_eq] at h <;> (try (exfalso; omega))) | refine W.beginD (h := ?_) | refine WD.pre (n := 200) (ha := rfl) (k := ?_) | refine WD.iaddr (h := ?_) | fail)
        refine WD.call (hc := (c1)) (k := ?_)
        rintro _ _ (⟨rfl, hp1⟩ | ⟨rfl, hp1⟩)
        all_goals
         refine ⟨_, _, _, by cbv; first | done | fail, by cbv; first | done | fail, ?_⟩
         repeat' (first | refine W.seq ?_ | refine W.easy (n := 200) (k := ?_) | refine W.skip ?_ | refine W.ret ?_ | (refine W.condL (h := ?_); change W _ _ _ _) | refine W.regS ?_ | refine WS.done ?_ | refine WS.pre (n := 200) (k := ?_) | (refine WS.cmp (k1 := fun h => ?_) (k2 := fun h => ?_) <;> simp only [cmpP, oC, nTr, ne_eq] at h <;> (try (exfalso; omega))) | refine WS.inc (h := ?_) | refine WS.consN (n := 60) (k := ?_) | (refine WD.done ⟨_, by cbv; first | done | fail, ?_⟩; dsimp only) | refine WD.oneN (n := 60) (k := ?_) | fail)
        ·exact ⟨by omega, (), by cbv, hsnU ((hU1 h47).2 hp1)⟩
        ·refine kC _ _ (kB _ _ (kA _ _ ?_))
         repeat' (first | refine Ret.ret (k := ?_) | fail)
         exact ⟨_, _, _, rfl, iff_of_false (by simp) (hbadU False fun h => hp1 ((hU1 h47).1 h))⟩
     ·have hallU := upto_all hN (by omega)
      have hmk := fun a b c => hsnI (SoundI.mk a hallU b c)
      simp only at hmk
      have hFM : ∀ p q, FirstMade f (makesF ⟨op, dst, xa, xb, var, num, args⟩) p q -> (FirstMade f (makesF ⟨op, dst, xa, xb, var, num, args⟩) i k ↔ p = i /\ q = k) := fun p q h => ⟨fun h' => firstMade_eq h h', fun hh => by rw [<- hh.1, <- hh.2]; exact h⟩
      have hbadM : 0 <= makesF ⟨op, dst, xa, xb, var, num, args⟩ -> ∀ Q : Prop, (FirstMade f (makesF ⟨op, dst, xa, xb, var, num, args⟩) i k -> Q) -> SoundF f -> Q := fun h0 Q kk => hbadI Q fun h => kk (h.made h0)
      have hbadK : op = 45 -> ∀ Q : Prop, (¬ MarkBefore f i k num -> Q) -> SoundF f -> Q := fun h0 Q kk => hbadI Q fun h => kk (h.mark h0)
      have cmm := fun v => cm v
      generalize makesF ⟨op, dst, xa, xb, var, num, args⟩ = mv at *
      have hks45 : op ≠ 45 -> ∀ v, v ∈ ks ↔ MarkBefore f i (k + 1) v := fun h v => (hkv v).trans ((hmb v).trans (or_iff_left fun hh => h hh.1)).symm
      have hks1 : op = 45 -> ∀ ks' : List Int, (∀ v, v ∈ ks' ↔ v ∈ ks \/ v = num) -> ∀ v, v ∈ ks' ↔ MarkBefore f i (k + 1) v := fun h ks' hk' v => (hk' v).trans ((or_congr (hkv v) ⟨fun e => ⟨h, e⟩, fun e => e.2⟩).trans (hmb v).symm)
      have hkn := hkv num
      repeat' (first | refine W.seq ?_ | refine W.exit ?_ | (refine W.condL (h := ?_); change W _ _ _ _) | refine W.regS ?_ | refine WS.done ?_ | refine WS.pre (n := 200) (k := ?_) | refine WS.len (h := ?_) | (refine WS.cmp (k1 := fun h => ?_) (k2 := fun h => ?_) <;> simp only [cmpP, oC, nTr, ne_eq] at h <;> (try (exfalso; omega))) | fail)
      refine kC _ _ ?_
      repeat' (first | refine W.seq ?_ | refine W.regS ?_ | refine WS.pre (n := 200) (k := ?_) | fail)
      refine WS.call (hc := (cmk)) (k := ?_)
      rintro _ _ rfl
      refine ⟨_, _, _, by cbv; first | done | fail, by cbv; first | done | fail, ?_⟩
      repeat' (first | refine W.seq ?_ | refine W.easy (n := 200) (k := ?_) | refine W.skip ?_ | refine W.ret ?_ | (refine W.condL (h := ?_); change W _ _ _ _) | refine W.regS ?_ | refine WS.done ?_ | refine WS.pre (n := 200) (k := ?_) | (refine WS.cmp (k1 := fun h => ?_) (k2 := fun h => ?_) <;> simp only [cmpP, oC, nTr, ne_eq] at h <;> (try (exfalso; omega))) | refine WS.inc (h := ?_) | refine WS.lookI (h := fun hin => ?_) (h0 := fun hin => ?_) | refine WS.upI (h := fun ks' es' hks' hkv' => ?_) | refine WS.consN (n := 60) (k := ?_) | fail)
      ·
       refine WS.call (hc := (cmm mv)) (k := ?_)
       rintro _ _ (⟨p', q', rfl, hfm⟩ | ⟨rfl, hno⟩)
       ·have hFM' := hFM p' q' hfm
        refine ⟨_, _, _, by cbv; first | done | fail, by cbv; first | done | fail, ?_⟩
        repeat' (first | refine W.seq ?_ | refine W.easy (n := 200) (k := ?_) | refine W.skip ?_ | refine W.ret ?_ | (refine W.condL (h := ?_); change W _ _ _ _) | refine W.regS ?_ | refine WS.done ?_ | refine WS.pre (n := 200) (k := ?_) | (refine WS.guard (h := ?_); change WS _ _ _ _) | (refine WS.cmp (k1 := fun h => ?_) (k2 := fun h => ?_) <;> simp only [cmpP, oC, nTr, ne_eq] at h <;> (try (exfalso; omega))) | refine WS.inc (h := ?_) | refine WS.lookI (h := fun hin => ?_) (h0 := fun hin => ?_) | refine WS.upI (h := fun ks' es' hks' hkv' => ?_) | refine WS.consN (n := 60) (k := ?_) | fail)
        all_goals try
         refine kB _ _ (kA _ _ ?_)
         repeat' (first | refine Ret.ret (k := ?_) | fail)
         first
          | exact ⟨_, _, _, rfl, iff_of_false (by simp) (hbadM (by omega) False fun h => by have := hFM'.1 h; omega)⟩
          | exact ⟨_, _, _, rfl, iff_of_false (by simp) (hbadK (by omega) False fun h => h (hkn.1 hin))⟩
        ·exact ⟨by omega, es', by cbv, ⟨ks', hks', hks1 (by omega) ks' hkv'⟩, hmk ⟨by omega, by omega⟩ (fun _ => hFM'.2 ⟨by omega, by omega⟩) (fun _ h => hin (hkn.2 h))⟩
        ·exact ⟨by omega, es2, by cbv, ⟨ks, hks, hks45 (by omega)⟩, hmk ⟨by omega, by omega⟩ (fun _ => hFM'.2 ⟨by omega, by omega⟩) (fun h => (by omega))⟩
       ·exact absurd hma (hno i k)
      all_goals try
       refine kB _ _ (kA _ _ ?_)
       repeat' (first | refine Ret.ret (k := ?_) | fail)
       exact ⟨_, _, _, rfl, iff_of_false (by simp) (hbadK (by omega) False fun h => h (hkn.1 hin))⟩
      ·exact ⟨by omega, es', by cbv, ⟨ks', hks', hks1 (by omega) ks' hkv'⟩, hmk ⟨by omega, by omega⟩ (fun h => (by omega)) (fun _ h => hin (hkn.2 h))⟩
      ·exact ⟨by omega, es2, by cbv, ⟨ks, hks, hks45 (by omega)⟩, hmk ⟨by omega, by omega⟩ (fun h => (by omega)) (fun h => (by omega))⟩
   ·have hall := upto_all hIs (by omega)
    have hkl : k = ins.length := by omega
    have hnx : ∀ v, v ∈ ks ↔ MarkBefore f (i + 1) 0 v := fun v => (hkv v).trans (by rw [hkl]; exact (hnext v).symm)
    have c3 := cthi a nil
    have hbadT : kind ≠ 1 -> 0 <= a -> ∀ Q : Prop, (ThereP f a i nil -> Q) -> SoundF f -> Q := fun h1 h2 Q kk => hbad Q fun h => kk (by rw [h5]; exact h.term h1 h2)
    have hmkB := fun h => hsn (SoundB.mk hway hall h)
    simp only [<- h5] at hmkB
    repeat' (first | refine W.seq ?_ | refine W.exit ?_ | (refine W.condL (h := ?_); change W _ _ _ _) | refine W.regS ?_ | refine WS.done ?_ | refine WS.pre (n := 200) (k := ?_) | refine WS.len (h := ?_) | (refine WS.cmp (k1 := fun h => ?_) (k2 := fun h => ?_) <;> simp only [cmpP, oC, nTr, ne_eq] at h <;> (try (exfalso; omega))) | fail)
    refine kB _ _ ?_
    repeat' (first | refine W.seq ?_ | refine W.skip ?_ | (refine W.condL (h := ?_); change W _ _ _ _) | refine W.regS ?_ | refine WS.done ?_ | refine WS.pre (n := 200) (k := ?_) | (refine WS.guard (h := ?_); change WS _ _ _ _) | refine WS.len (h := ?_) | refine WS.iaddr (h := ?_) | (refine WS.cmp (k1 := fun h => ?_) (k2 := fun h => ?_) <;> simp only [cmpP, oC, nTr, ne_eq] at h <;> (try (exfalso; omega))) | refine WS.inc (h := ?_) | refine WS.consN (n := 60) (k := ?_) | fail)
    all_goals try
     refine WS.call (hc := (c3)) (k := ?_)
     rintro _ _ (⟨rfl, hp3⟩ | ⟨rfl, hp3⟩)
     all_goals
      refine ⟨_, _, _, by cbv; first | done | fail, by cbv; first | done | fail, ?_⟩
      repeat' (first | refine W.seq ?_ | refine W.skip ?_ | refine W.ret ?_ | (refine W.condL (h := ?_); change W _ _ _ _) | refine W.regS ?_ | refine WS.done ?_ | refine WS.pre (n := 200) (k := ?_) | refine WS.len (h := ?_) | refine WS.inc (h := ?_) | refine WS.consN (n := 60) (k := ?_) | fail)
    all_goals first
     | exact ⟨by omega, es2, by cbv, ⟨ks, hks, hnx⟩, hmkB fun h1 h2 => (by first | exact hp3 | (exfalso; simp only [ne_eq] at h1; omega))⟩
     | (refine kA _ _ ?_
        repeat' (first | refine Ret.ret (k := ?_) | fail)
        exact ⟨_, _, _, rfl, iff_of_false (by simp) (hbadT (by omega) (by omega) False fun h => hp3 h)⟩)
 ·have hall := upto_all hBs (by omega)
  repeat' (first | refine W.seq ?_ | refine W.exit ?_ | (refine W.condL (h := ?_); change W _ _ _ _) | refine W.regS ?_ | refine WS.done ?_ | refine WS.pre (n := 200) (k := ?_) | refine WS.len (h := ?_) | (refine WS.cmp (k1 := fun h => ?_) (k2 := fun h => ?_) <;> simp only [cmpP, oC, nTr, ne_eq] at h <;> (try (exfalso; omega))) | fail)
  refine kA _ _ ?_
  repeat' (first | refine W.seq ?_ | refine W.easy (n := 200) (k := ?_) | refine W.ret ?_ | refine Ret.ret (k := ?_) | fail)
  exact ⟨_, _, _, rfl, iff_of_true rfl (hSF hall)⟩
end Go.Ab.Ytkmmpbmmmbebgaa
