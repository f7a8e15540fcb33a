/- Dead instructions: the function that tells what is needed. -/
import Derived.Test.YtkmmpbmmmbebgaaDce2
set_option linter.all false
namespace Go.Ab.Ytkmmpbmmmbebgaa
set_option maxRecDepth 100000
set_option maxHeartbeats 8000000
/-- What is reckoned so far, in the machine. -/
def PhR (t : NS) (c : A × A × List (List A)) : Prop := RowR CellR t.1 c.2.2 /\ NeedR t.2 c.1 c.2.1
theorem needed_ok {f : TFunc} {e : List A} (h : FuncR f e) (hs : FuncSmall f) (hd : DceOK f) : WC E 39 [.agg e] [] fun r _ => ∃ o es, Needed f o /\ r = .own 1 es /\ RowR BRow o es := by
 obtain ⟨name, params, result, vars, blocks, size⟩ := f
 obtain ⟨sz, hsz⟩ : ∃ sz : Nat, size = Int.ofNat sz := ⟨size.toNat, by have := hd.size.1; simp only [Int.ofNat_eq_natCast] at this ⊢; omega⟩
 subst hsz
 have hsl : sz <= 524288 := by have := hd.size.2; simp only [Int.ofNat_eq_natCast] at this; omega
 obtain ⟨_, _, rfl, ⟨nv, vs, nvl, rfl, hvl, h3, hv, _⟩, ⟨nb, bs, nbl, rfl, hbl, h4, hb, _⟩⟩ := h
 have hsb := hs.b
 simp only at h3 h4 hv hb hsb
 refine WC.enter rfl rfl rfl ?_
 unfold b39 ki mt mw ft ll iz ov oo
 refine W.seq ?_
 repeat' (first | refine W.easy (n := 200) (k := ?_) | fail)
 refine W.scopeK (l := 0) (by rfl) (fun k τ => ∃ (a20 a21 : A) (s : List Bool × List Int) (x y : A) (rb : List (List A)), ((a20 = .ud /\ a21 = .ud) \/ (a20 = .v (.bool true) /\ ∃ v, a21 = .v (.int .i64 v))) /\
  τ = ⟨[.agg [.v (.string name), .v (.int .i64 params), .v (.bool result), .imm nv 6 vs, .imm nb 5 bs, .v (.int .i64 (Int.ofNat sz))], .v (.slice none 0 0), .pt 0 0, .pt 1 0, .pt 2 0, .v (.int .i64 (Int.ofNat nbl)), .v (.int .i64 (Int.ofNat nbl)), .v (.bool false), .imm nb 5 bs,
   .top, .top, .top, .top, .top, .top, .top, .imm false 1 rb, .top, .clo 55 [] [.pt 1 0, .pt 2 0], .top, a20, a21, .ud, .ud, .ud, .ud, .ud, .ud, .ud, .ud, .ud, .ud, .ud], [],
   [.cells [.v (.string name), .v (.int .i64 params), .v (.bool result), .imm nv 6 vs, .imm nb 5 bs, .v (.int .i64 (Int.ofNat sz))], .cells [x], .cells [y]]⟩ /\
  RowR CellR (phase ⟨name, params, result, vars, blocks, Int.ofNat sz⟩ blocks).1 rb /\ GoodM sz 100000000 (phase ⟨name, params, result, vars, blocks, Int.ofNat sz⟩ blocks).1 /\ NeedR s x y /\ GoodS sz k s /\ k <= sz /\ ∀ o, Pops (phase ⟨name, params, result, vars, blocks, Int.ofNat sz⟩ blocks).1 s o -> Pops (phase ⟨name, params, result, vars, blocks, Int.ofNat sz⟩ blocks).1 (phase ⟨name, params, result, vars, blocks, Int.ofNat sz⟩ blocks).2 o) ?_ ?_
 ·rintro k τ ⟨a20, a21, s, x, y, rb, ha, rfl, hB, hM, hN, hG, hk, hpops⟩
  obtain ⟨o, w⟩ := s
  refine W.seq (W.skip ?_)
  rcases List.eq_nil_or_concat w with rfl | ⟨w', v, rfl⟩
  ·as_aux_lemma =>
    have hneed := hpops o .done
    obtain ⟨⟨r, n, rfl, hrn, hn, hR⟩, hy⟩ := hN
    have hyl : y = .v (.slice none 0 0) \/ y = .own 1 [] := by
     rcases hy with ⟨rfl, _⟩ | ⟨ry, ny, rfl, hyl, hyn, hyR⟩
     ·exact .inl rfl
     ·refine .inr ?_
      cases hyR
      rfl
    have hr0 : RowR BRow ((blocks.take 0).foldl (keepBlock (Int.ofNat sz)) o) r := hR
    have hol := hG.len
    simp only at hol
    rcases ha with ⟨rfl, rfl⟩ | ⟨rfl, v0, rfl⟩
    all_goals
     rcases hyl with rfl | rfl
    all_goals
     repeat' (first | refine W.seq ?_ | refine W.block ?_ | refine W.skip ?_ | (refine W.condL (h := ?_); change W _ _ _ _) | refine W.regS ?_ | refine WS.done ?_ | refine WS.pre (n := 200) (k := ?_) | refine WS.len (h := ?_) | (refine WS.cmp (k1 := fun h => ?_) (k2 := fun h => ?_) <;> simp only [cmpP, oC, nTr, ne_eq] at h <;> (try (exfalso; omega))) | refine WS.consN (n := 60) (k := ?_) | fail)
    all_goals
     refine W.forA nbl (fun i (r : List (List A)) σ => sn 22 i (sb 1 0 (.own 1 r) σ)) (fun i r => RowR BRow ((blocks.take i).foldl (keepBlock (Int.ofNat sz)) o) r) 0 (Nat.zero_le _) ?_ ?_
     ·exact ⟨r, by cbv, hr0⟩
     intro QA kA i r1 hi hR1
     by_cases hin : i < nbl
     ·have hib : i < blocks.length := by omega
      obtain ⟨eb, heb, hRb⟩ := hb.at i hib
      have hbi : blocks[i]? = some blocks[i] := List.getElem?_eq_getElem hib
      have hil := hs.i _ (List.getElem_mem hib)
      have hfin : ∀ r, RowR BRow (keepBlock (Int.ofNat sz) ((blocks.take i).foldl (keepBlock (Int.ofNat sz)) o) blocks[i]) r -> RowR BRow ((blocks.take (i + 1)).foldl (keepBlock (Int.ofNat sz)) o) r := fun r h => by rw [foldl_take hbi]; exact h
      have hlen := keep_len (Int.ofNat sz) (blocks.take i) o
      generalize blocks[i] = b at hRb hbi hil hfin
      generalize (blocks.take i).foldl (keepBlock (Int.ofNat sz)) o = ob at *
      obtain ⟨ins, ⟨kind, a, to, els⟩⟩ := b
      obtain ⟨_, rfl, ⟨ni, is, nil, rfl, hil2, h5, hI, _⟩⟩ := hRb
      simp only at hil h5 hI
      refine W.norm (k := ?_)
      unfold l39_5 ki vi mw ft lg ov oo
      repeat' (first | refine W.seq ?_ | refine W.block ?_ | refine W.skip ?_ | (refine W.condL (h := ?_); change W _ _ _ _) | refine W.regS ?_ | refine WS.done ?_ | refine WS.pre (n := 200) (k := ?_) | refine WS.len (h := ?_) | refine WS.iaddr (h := ?_) | (refine WS.cmp (k1 := fun h => ?_) (k2 := fun h => ?_) <;> simp only [cmpP, oC, nTr, ne_eq] at h <;> (try (exfalso; omega))) | refine WS.consN (n := 60) (k := ?_) | fail)
      refine W.forA nil (fun k (r : List (List A)) σ => sn 27 k (sb 1 0 (.own 1 r) σ)) (fun k r => RowR BRow ((ins.take k).foldl (keepStep (Int.ofNat sz)) ob) r) 0 (Nat.zero_le _) ?_ ?_
      ·exact ⟨r1, by cbv, hR1⟩
      intro QB kB k r2 hk hR2
      by_cases hkn : k < nil
      ·have hki : k < ins.length := by omega
       obtain ⟨ek, hek, hRk⟩ := hI.at k hki
       have hxk : ins[k]? = some ins[k] := List.getElem?_eq_getElem hki
       have hlen2 := keepBlock_len (Int.ofNat sz) (ins.take k) ob
       have hfin2 : ∀ r, RowR BRow (keepStep (Int.ofNat sz) ((ins.take k).foldl (keepStep (Int.ofNat sz)) ob) ins[k]) r -> RowR BRow ((ins.take (k + 1)).foldl (keepStep (Int.ofNat sz)) ob) r := fun r h => by rw [foldl_take hxk]; exact h
       generalize ins[k] = xx at *
       generalize (ins.take k).foldl (keepStep (Int.ofNat sz)) ob = ok at *
       have ch := has_ok hRk
       have cs := stay_ok hRk
       have hrl := hR2.len
       obtain ⟨op, dst, xa, xb, var, num, args⟩ := xx
       obtain ⟨_, rfl, ⟨na, as, nal, rfl, hal, h6, hA, _⟩⟩ := hRk
       by_cases hdr : 0 <= dst /\ dst < sz
       case' pos =>
        obtain ⟨j, rfl, hj⟩ := intOf hdr
        have hjo : j < ok.length := by omega
        have hej := bRow_of hR2 hjo
        generalize ok[j] = bj at hej
       all_goals
        refine W.norm (k := ?_)
        unfold l39_4 ki kb vi mw ft ll lg lt iz og ov oo
        repeat' (first | refine W.seq ?_ | refine W.block ?_ | refine W.skip ?_ | (refine W.condL (h := ?_); change W _ _ _ _) | refine W.regS ?_ | refine WS.done ?_ | refine WS.pre (n := 200) (k := ?_) | refine WS.iaddr (h := ?_) | (refine WS.cmp (k1 := fun h => ?_) (k2 := fun h => ?_) <;> simp only [cmpP, oC, nTr, ne_eq] at h <;> (try (exfalso; omega))) | refine WS.consN (n := 60) (k := ?_) | fail)
       all_goals
        refine WS.call (hc := (ch)) (k := ?_)
        rintro _ _ (⟨rfl, hh⟩ | ⟨rfl, hh⟩)
       all_goals
        refine ⟨_, _, _, by cbv; first | done | fail, by cbv; first | done | fail, ?_⟩
        repeat' (first | refine W.skip ?_ | (refine W.condL (h := ?_); change W _ _ _ _) | refine W.regS ?_ | refine WS.done ?_ | refine WS.pre (n := 200) (k := ?_) | (refine WS.guard (h := ?_); change WS _ _ _ _) | (refine WS.cmp (k1 := fun h => ?_) (k2 := fun h => ?_) <;> simp only [cmpP, oC, nTr, ne_eq] at h <;> (try (exfalso; omega))) | refine WS.inc (h := ?_) | refine WS.consN (n := 60) (k := ?_) | fail)
       all_goals try
        refine WS.call (hc := (cs)) (k := ?_)
        rintro _ _ (⟨rfl, hst⟩ | ⟨rfl, hst⟩)
        all_goals
         refine ⟨_, _, _, by cbv; first | done | fail, by cbv; first | done | fail, ?_⟩
         repeat' (first | refine W.skip ?_ | (refine W.condL (h := ?_); change W _ _ _ _) | refine W.regS ?_ | refine WS.done ?_ | refine WS.stoP (k := fun q hq => ?_) | refine WS.pre (n := 200) (k := ?_) | refine WS.iaddrO (k := ?_) | refine WS.inc (h := ?_) | refine WS.consN (n := 60) (k := ?_) | fail)
       all_goals
        have hun : ∀ xx : TIns, ¬ (¬ hasF xx /\ xx.op ≠ 46 /\ 0 <= xx.dst /\ xx.dst < (Int.ofNat sz) /\ stayF xx) -> keepStep (Int.ofNat sz) ok xx = ok := fun xx h => if_neg h
        first
         | (refine ⟨by omega, _, by cbv, hfin2 _ ?_⟩
            rw [hun _ (fun hc => by
             first
              | exact hc.1 hh
              | exact hst hc.2.2.2.2
              | exact hdr ⟨hc.2.2.1, hc.2.2.2.1⟩
              | (have h46 := hc.2.1
                 simp only [ne_eq] at h46
                 omega))]
            exact hR2)
         | (refine ⟨by omega, _, by cbv, hfin2 _ ?_⟩
            have hcc : keepStep (Int.ofNat sz) ok ⟨op, Int.ofNat j, xa, xb, var, num, args⟩ = ok.set j true := if_pos ⟨hh, by simp only [ne_eq]; omega, hdr.1, hdr.2, hst⟩
            rw [hcc, <- hq]
            exact hR2.set j rfl)
      ·have hk' : ins.take k = ins := List.take_of_length_le (by omega)
       rw [hk'] at hR2
       refine W.norm (k := ?_)
       unfold l39_4 ki kb vi mw ft ll lg lt iz og ov oo
       repeat' (first | refine W.seq ?_ | refine W.exit ?_ | (refine W.condL (h := ?_); change W _ _ _ _) | refine W.regS ?_ | refine WS.done ?_ | (refine WS.cmp (k1 := fun h => ?_) (k2 := fun h => ?_) <;> simp only [cmpP, oC, nTr, ne_eq] at h <;> (try (exfalso; omega))) | fail)
       refine kB _ _ ?_
       repeat' (first | refine W.regS ?_ | refine WS.done ?_ | refine WS.inc (h := ?_) | refine WS.consN (n := 60) (k := ?_) | fail)
       exact ⟨by omega, _, by cbv, hfin _ hR2⟩
     ·have hi' : blocks.take i = blocks := List.take_of_length_le (by omega)
      rw [hi'] at hR1
      refine W.norm (k := ?_)
      unfold l39_5 ki vi mw ft lg ov oo
      repeat' (first | refine W.seq ?_ | refine W.exit ?_ | (refine W.condL (h := ?_); change W _ _ _ _) | refine W.regS ?_ | refine WS.done ?_ | (refine WS.cmp (k1 := fun h => ?_) (k2 := fun h => ?_) <;> simp only [cmpP, oC, nTr, ne_eq] at h <;> (try (exfalso; omega))) | fail)
      refine kA _ _ ?_
      repeat' (first | refine W.seq ?_ | refine W.easy (n := 200) (k := ?_) | refine W.ret ?_ | refine W.frz (k := ?_) | refine Ret.ret (k := ?_) | fail)
      exact ⟨_, r1, ⟨o, hneed, rfl⟩, rfl, hR1⟩
  ·as_aux_lemma =>
    rw [List.concat_eq_append] at *
    have hv := hG.work v (by simp)
    obtain ⟨j, rfl, hj⟩ := intOf hv
    have hmu := hG.mu
    simp only [List.length_append, List.length_cons, List.length_nil] at hmu
    have hG' : GoodS sz (k - 1) (o, w') := ⟨hG.len, fun u hu => hG.work u (by simp [hu]), by simp only; omega⟩
    obtain ⟨hx, hy⟩ := hN
    rcases hy with ⟨rfl, hy⟩ | ⟨ry, ny, rfl, hyl, hyn, hyR⟩
    ·simp at hy
    have hx0 := hx
    obtain ⟨rx, nx, rfl, _, _, _⟩ := hx0
    obtain ⟨l1, l2, l3⟩ := intR_last hyR
    obtain ⟨wl, hwl⟩ : ∃ wl, wl = w'.length := ⟨_, rfl⟩
    rw [<- hwl] at l1 l2 l3
    have hwl2 : wl <= 524288 := by omega
    have hjm : j < (phase ⟨name, params, result, vars, blocks, Int.ofNat sz⟩ blocks).1.length := by rw [hM.1]; exact hj
    obtain ⟨ej, hej, hC⟩ := hB.at j hjm
    have hgd : (phase ⟨name, params, result, vars, blocks, Int.ofNat sz⟩ blocks).1.getD (Int.ofNat j).toNat [] = (phase ⟨name, params, result, vars, blocks, Int.ofNat sz⟩ blocks).1[j] := by rw [List.getD_eq_getElem?_getD]; show ((phase ⟨name, params, result, vars, blocks, Int.ofNat sz⟩ blocks).1[j]?).getD [] = _; rw [List.getElem?_eq_getElem hjm]; rfl
    have hml := hM.2 _ (List.getElem_mem hjm)
    have hps := fun o' (h : Pops (phase ⟨name, params, result, vars, blocks, Int.ofNat sz⟩ blocks).1 (needF ((phase ⟨name, params, result, vars, blocks, Int.ofNat sz⟩ blocks).1.getD (Int.ofNat j).toNat []) (o, w')) o') => hpops o' (.step h)
    rw [hgd] at hps
    have hG2 := needF_good _ _ hG' hml.2
    generalize (phase ⟨name, params, result, vars, blocks, Int.ofNat sz⟩ blocks).1[j] = lj at *
    have hbl : rb.length = sz := by rw [hB.len, hM.1]
    rcases ha with ⟨rfl, rfl⟩ | ⟨rfl, v0, rfl⟩
    all_goals
     rcases hC with ⟨rfl, hnil⟩ | ⟨old, rfl, hold⟩
    all_goals
     repeat' (first | refine W.seq ?_ | (refine W.condL (h := ?_); change W _ _ _ _) | refine W.regS ?_ | refine WS.done ?_ | refine WS.loadP (k := ?_) | refine WS.pre (n := 200) (k := ?_) | refine WS.lenO (k := ?_) | refine WS.iaddrO (k := ?_) | refine WS.iaddr (h := ?_) | (refine WS.cmp (k1 := fun h => ?_) (k2 := fun h => ?_) <;> simp only [cmpP, oC, nTr, ne_eq] at h <;> (try (exfalso; omega))) | refine WS.dec (h := ?_) | refine WS.subO (k := ?_) | refine WS.stoSub (h := fun r hr => ?_) | refine WS.consN (n := 60) (k := ?_) | fail)
    all_goals
     have hrow : RowR IntR w' r := by rw [<- hr]; exact l3
     have hN1 : NeedR (o, w') (.own 1 rx) (.own 1 r) := ⟨hx, .inr ⟨r, _, rfl, rfl, hrow.len, hrow⟩⟩
     have hmu2 := hG'.mu
     have hln2 := hG'.len
     simp only at hmu2 hln2
    case' refine_1.inr.inr.inl.inl.refine_1 | refine_1.inr.inr.inr.inl.refine_1 =>
     rw [hnil] at hps hG2
     refine WS.callv (hc := (need_nil hN1)) (k := ?_)
    case' refine_1.inr.inr.inl.inr.refine_1 | refine_1.inr.inr.inr.inr.refine_1 =>
     refine WS.callv (hc := (need_ok (slA_own hold) hN1 (by rw [hln2]; exact hml.2) (by simp only; omega))) (k := ?_)
    all_goals
     rintro _ _ ⟨rfl, x', y', rfl, hN'⟩
     have hN2 := hN'
     obtain ⟨⟨r3, n3, rfl, hrn3, hn3, hR3⟩, hy3⟩ := hN'
     rcases hy3 with ⟨rfl, hy3⟩ | ⟨ry3, ny3, rfl, hyl3, hyn3, hyR3⟩
    all_goals
     refine ⟨_, _, _, by cbv; first | done | fail, by cbv; first | done | fail, ?_⟩
     repeat' (first | refine WS.done ?_ | fail)
     refine W.goto ?_
     exact ⟨k - 1, by omega, _, _, _, _, _, rb, .inr ⟨rfl, _, rfl⟩, by cbv, hB, hM, hN2, hG2, by omega, hps⟩
 intro hrest
 repeat' (first | refine W.seq ?_ | refine W.easy (n := 200) (k := ?_) | refine W.block ?_ | refine W.regS ?_ | refine WS.done ?_ | refine WS.pre (n := 200) (k := ?_) | refine WS.len (h := ?_) | refine WS.mk' (k := fun r hr => ?_) | refine WS.consN (n := 60) (k := ?_) | fail)
 rename_i r_1 hr_1
 have hr1 : RowR BRow (List.replicate sz false) r_1 := by subst hr_1; exact RowR.replicate (R := BRow) (x := false) rfl sz
 have hr2 : RowR CellR (List.replicate sz []) r := by subst hr; exact RowR.replicate (.inl ⟨rfl, rfl⟩) sz
 have hN0 : NeedR (List.replicate sz false, []) (.own 1 r_1) (.v (.slice none 0 0)) := ⟨⟨_, _, rfl, rfl, hr1.len, hr1⟩, .inl ⟨rfl, rfl⟩⟩
 clear hr1
 have hdi : ∀ b, b ∈ blocks -> blockOK sz b := fun b hb' => ⟨fun x hx => hd.ins b hb' x hx, hd.term b hb'⟩
 have hdw := hd.w
 simp only [funcW] at hdw
 refine W.forA nbl (fun i (c : A × A × List (List A)) σ => sn 5 i (sv 16 (.own 1 c.2.2) (sb 1 0 c.1 (sb 2 0 c.2.1 σ)))) (fun i c => GoodN sz ((blocks.take i).map insW).sum ((blocks.take i).foldl blockStep (List.replicate sz [], (List.replicate sz false, []))) /\ PhR ((blocks.take i).foldl blockStep (List.replicate sz [], (List.replicate sz false, []))) c) 0 (Nat.zero_le _) ?_ ?_
 ·exact ⟨(.own 1 r_1, .v (.slice none 0 0), r), by cbv, goodN_zero sz, hr2, hN0⟩
 clear hr2 hN0
 rintro QA kA i ⟨x1, y1, by1⟩ hi ⟨hG, hB, hN⟩
 simp only at hB hN
 by_cases hin : i < nbl
 ·have hib : i < blocks.length := by omega
  obtain ⟨eb, heb, hRb⟩ := hb.at i hib
  have hbi : blocks[i]? = some blocks[i] := List.getElem?_eq_getElem hib
  have hbo := hdi _ (List.getElem_mem hib)
  have hil := hs.i _ (List.getElem_mem hib)
  have hx := hs.a _ (List.getElem_mem hib)
  have hwi := sum_take_le insW blocks (i + 1)
  have hsw : ((blocks.take (i + 1)).map insW).sum = ((blocks.take i).map insW).sum + insW blocks[i] := by
   rw [take_snoc hbi, List.map_append, List.sum_append]
   rfl
  rw [hsw] at hwi
  have hfinB : ∀ c, GoodN sz (((blocks.take i).map insW).sum + insW blocks[i]) (blockStep ((blocks.take i).foldl blockStep (List.replicate sz [], (List.replicate sz false, []))) blocks[i]) -> PhR (blockStep ((blocks.take i).foldl blockStep (List.replicate sz [], (List.replicate sz false, []))) blocks[i]) c -> GoodN sz ((blocks.take (i + 1)).map insW).sum ((blocks.take (i + 1)).foldl blockStep (List.replicate sz [], (List.replicate sz false, []))) /\ PhR ((blocks.take (i + 1)).foldl blockStep (List.replicate sz [], (List.replicate sz false, []))) c := fun c h1 h2 => by
   rw [foldl_take hbi, hsw]
   exact ⟨h1, h2⟩
  generalize ((blocks.take i).map insW).sum = m at *
  generalize blocks[i] = b at hRb hbo hbi hil hx hwi hfinB
  generalize (blocks.take i).foldl blockStep _ = t at *
  obtain ⟨ins, ⟨kind, a, to, els⟩⟩ := b
  obtain ⟨_, rfl, ⟨ni, is, nil, rfl, hil2, h5, hI, _⟩⟩ := hRb
  simp only at hil h5 hI hx
  simp only [insW] at hwi
  have hG0 := hG
  refine W.norm (k := ?_)
  unfold l39_3 ki vi mt mw fa ft ll lg ov oo
  repeat' (first | refine W.seq ?_ | refine W.block ?_ | refine W.skip ?_ | (refine W.condL (h := ?_); change W _ _ _ _) | refine W.regS ?_ | refine WS.done ?_ | refine WS.pre (n := 200) (k := ?_) | refine WS.len (h := ?_) | refine WS.iaddr (h := ?_) | (refine WS.cmp (k1 := fun h => ?_) (k2 := fun h => ?_) <;> simp only [cmpP, oC, nTr, ne_eq] at h <;> (try (exfalso; omega))) | refine WS.consN (n := 60) (k := ?_) | fail)
  refine W.forA nil (fun k (c : A × A × List (List A)) σ => sn 10 k (sv 16 (.own 1 c.2.2) (sb 1 0 c.1 (sb 2 0 c.2.1 σ)))) (fun k c => GoodN sz (m + ((ins.take k).map fun x => x.args.length + 2).sum) ((ins.take k).foldl insStep t) /\ PhR ((ins.take k).foldl insStep t) c) 0 (Nat.zero_le _) ?_ ?_
  ·exact ⟨(x1, y1, by1), by cbv, hG, hB, hN⟩
  clear hG hB hN
  rintro QB kB k ⟨x2, y2, by2⟩ hk ⟨hG, hB, hN⟩
  simp only at hB hN
  by_cases hkn : k < nil
  ·as_aux_lemma =>
    have hki : k < ins.length := by omega
    obtain ⟨ek, hek, hRk⟩ := hI.at k hki
    have hxk : ins[k]? = some ins[k] := List.getElem?_eq_getElem hki
    have hxo := hbo.1 _ (List.getElem_mem hki)
    have hxa := hx _ (List.getElem_mem hki)
    have hwk := sum_take_le (fun x : TIns => x.args.length + 2) ins (k + 1)
    have hsw : ((ins.take (k + 1)).map fun x => x.args.length + 2).sum = ((ins.take k).map fun x => x.args.length + 2).sum + (ins[k].args.length + 2) := by
     rw [take_snoc hxk, List.map_append, List.sum_append]
     rfl
    rw [hsw] at hwk
    have hfin : ∀ c, GoodN sz (m + (((ins.take k).map fun x => x.args.length + 2).sum + (ins[k].args.length + 2))) (insStep ((ins.take k).foldl insStep t) ins[k]) -> PhR (insStep ((ins.take k).foldl insStep t) ins[k]) c -> GoodN sz (m + ((ins.take (k + 1)).map fun x => x.args.length + 2).sum) ((ins.take (k + 1)).foldl insStep t) /\ PhR ((ins.take (k + 1)).foldl insStep t) c := fun c h1 h2 => by
     rw [foldl_take hxk, hsw]
     exact ⟨h1, h2⟩
    generalize ((ins.take k).map fun x => x.args.length + 2).sum = mk at *
    generalize ins[k] = x at *
    generalize (ins.take k).foldl insStep t = tk at *
    have hstep := insStep_good hG hxo
    rw [Nat.add_assoc] at hstep
    have ch := has_ok hRk
    have cl := looks_ok hRk
    obtain ⟨op, dst, xa, xb, var, num, args⟩ := x
    obtain ⟨_, rfl, ⟨na, as, nal, rfl, hal, h6, hA, _⟩⟩ := hRk
    simp only at hxo hxa h6
    have hN0 := hN
    obtain ⟨⟨r2, n2, rfl, hrn, hn2, hR⟩, hy⟩ := hN
    have hs1 := hG.s.len
    have hs2 := hG.s.mu
    rcases hy with ⟨rfl, hy⟩ | ⟨ry, ny, rfl, hyl, hyn, hyR⟩
    all_goals
     refine W.norm (k := ?_)
     unfold l39_2 ki vi mt mw ft ll lg lt iz ov oo
     repeat' (first | refine W.seq ?_ | refine W.block ?_ | refine W.skip ?_ | (refine W.condL (h := ?_); change W _ _ _ _) | refine W.regS ?_ | refine WS.done ?_ | refine WS.pre (n := 200) (k := ?_) | refine WS.iaddr (h := ?_) | (refine WS.cmp (k1 := fun h => ?_) (k2 := fun h => ?_) <;> simp only [cmpP, oC, nTr, ne_eq] at h <;> (try (exfalso; omega))) | refine WS.consN (n := 60) (k := ?_) | fail)
    all_goals
     refine WS.call (hc := (ch)) (k := ?_)
     rintro _ _ (⟨rfl, hh⟩ | ⟨rfl, hh⟩)
     ·
      refine ⟨_, _, _, by cbv; first | done | fail, by cbv; first | done | fail, ?_⟩
      obtain ⟨j, rfl, hj⟩ := intOf (hxo.1 hh)
      have hst : insStep tk ⟨op, Int.ofNat j, xa, xb, var, num, args⟩ = (tk.1.set j (tk.1.getD j [] ++ looksF ⟨op, Int.ofNat j, xa, xb, var, num, args⟩), tk.2) := by
       unfold insStep
       rw [if_pos hh]
       rfl
      have hll := looks_len ⟨op, Int.ofNat j, xa, xb, var, num, args⟩
      simp only at hll
      have hjm : j < tk.1.length := by rw [hG.ms.1]; exact hj
      have hbl2 : by2.length = tk.1.length := hB.len
      obtain ⟨ej, hej, hC⟩ := hB.at j hjm
      have hgd : tk.1.getD j [] = tk.1[j] := by rw [List.getD_eq_getElem?_getD, List.getElem?_eq_getElem hjm]; rfl
      have hml := (hG.ms.2 _ (List.getElem_mem hjm)).1
      have hset : ∀ q, RowR IntR (tk.1.getD j [] ++ looksF ⟨op, Int.ofNat j, xa, xb, var, num, args⟩) q -> RowR CellR (insStep tk ⟨op, Int.ofNat j, xa, xb, var, num, args⟩).1 (by2.set j [.own 1 q]) := by
       intro q hq
       rw [hst]
       exact hB.set j (.inr ⟨q, rfl, hq⟩)
      have hN1 : ∀ a b, NeedR tk.2 a b -> NeedR (insStep tk ⟨op, Int.ofNat j, xa, xb, var, num, args⟩).2 a b := fun a b h => by rw [hst]; exact h
      rw [hgd] at hset
      rcases hC with ⟨rfl, hnil⟩ | ⟨old, rfl, hold⟩
      ·
       repeat' (first | refine W.seq ?_ | refine W.frz (k := ?_) | (refine W.condL (h := ?_); change W _ _ _ _) | refine WS.done ?_ | refine WS.consN (n := 60) (k := ?_) | refine W.beginD (h := ?_) | refine WD.loadP (h := ?_) | refine WD.pre (n := 200) (ha := rfl) (k := ?_) | refine WD.iaddrO (h := ?_) | fail)
       refine WD.qcall (hc := (cl)) (k := ?_)
       rintro _ _ ⟨nu, es, nn, rfl, hn1, hnn, hU, _⟩
       have hufl := intR_flat hU
       refine ⟨_, _, _, by cbv; first | done | fail, by cbv; first | done | fail, by cbv; first | done | fail, ?_⟩
       repeat' (first | refine W.regS ?_ | refine WS.done ?_ | refine WS.inc (h := ?_) | refine WS.consN (n := 60) (k := ?_) | (refine WD.done ⟨_, by cbv; first | done | fail, ?_⟩; dsimp only) | refine WD.stoP (k := fun q hq => ?_) | refine WD.iaddrO (h := ?_) | (refine WD.appN0 (h := fun h0 => ?_) (k := fun h0 => ?_)) | fail)
       ·subst h0
        exact ⟨by omega, (_, _, q), by cbv, hfin (_, _, _) hstep ⟨by rw [<- hq, hst]; exact hB.set j (.inl ⟨rfl, by rw [hgd, hnil, List.length_eq_zero_iff.1 (hnn.symm.trans hn1.symm)]; rfl⟩), hN1 _ _ hN0⟩⟩
       ·exact ⟨by omega, (_, _, q), by cbv, hfin (_, _, _) hstep ⟨by rw [<- hq]; exact hset _ (by rw [hnil]; simpa using hU), hN1 _ _ hN0⟩⟩
      ·have hol := hold.len
       obtain ⟨no, hno⟩ : ∃ no, no = old.length := ⟨_, rfl⟩
       repeat' (first | refine W.seq ?_ | refine W.frz (k := ?_) | (refine W.condL (h := ?_); change W _ _ _ _) | refine WS.done ?_ | refine WS.consN (n := 60) (k := ?_) | refine W.beginD (h := ?_) | refine WD.loadP (h := ?_) | refine WD.pre (n := 200) (ha := rfl) (k := ?_) | refine WD.iaddrO (h := ?_) | fail)
       refine WD.qcall (hc := (cl)) (k := ?_)
       rintro _ _ ⟨nu, es, nn, rfl, hn1, hnn, hU, _⟩
       have hufl := intR_flat hU
       refine ⟨_, _, _, by cbv; first | done | fail, by cbv; first | done | fail, by cbv; first | done | fail, ?_⟩
       repeat' (first | refine WD.appIN (k := ?_) | fail)
       refine WD.iaddrH (k := 10) (kq := ?_)
       repeat' (first | refine W.regS ?_ | refine WS.done ?_ | refine WS.inc (h := ?_) | refine WS.consN (n := 60) (k := ?_) | (refine WD.done ⟨_, by cbv; first | done | fail, ?_⟩; dsimp only) | refine WD.stoN (k := fun q hq => ?_) | fail)
       exact ⟨by omega, (_, _, q), by cbv, hfin (_, _, _) hstep ⟨by rw [<- hq]; exact hset _ (by simpa using hold.append hU), hN1 _ _ hN0⟩⟩
     ·
      refine ⟨_, _, _, by cbv; first | done | fail, by cbv; first | done | fail, ?_⟩
      by_cases h46 : op = 46
      ·subst h46
       have hst : insStep tk ⟨46, dst, xa, xb, var, num, args⟩ = tk := by
        unfold insStep
        rw [if_neg hh, if_pos rfl]
       have hB1 : RowR CellR (insStep tk ⟨46, dst, xa, xb, var, num, args⟩).1 by2 := by rw [hst]; exact hB
       have hN1 : ∀ a b, NeedR tk.2 a b -> NeedR (insStep tk ⟨46, dst, xa, xb, var, num, args⟩).2 a b := fun a b h => by rw [hst]; exact h
       repeat' (first | refine W.seq ?_ | refine W.skip ?_ | (refine W.condL (h := ?_); change W _ _ _ _) | refine W.regS ?_ | refine WS.done ?_ | refine WS.pre (n := 200) (k := ?_) | (refine WS.cmp (k1 := fun h => ?_) (k2 := fun h => ?_) <;> simp only [cmpP, oC, nTr, ne_eq] at h <;> (try (exfalso; omega))) | refine WS.inc (h := ?_) | refine WS.consN (n := 60) (k := ?_) | fail)
       exact ⟨by omega, (_, _, _), by cbv, hfin (_, _, _) hstep ⟨hB1, hN1 _ _ hN0⟩⟩
      ·have hst : insStep tk ⟨op, dst, xa, xb, var, num, args⟩ = (tk.1, needF (looksF ⟨op, dst, xa, xb, var, num, args⟩) tk.2) := by
        unfold insStep
        rw [if_neg hh, if_neg h46]
       have hll := looks_len ⟨op, dst, xa, xb, var, num, args⟩
       simp only at hll
       have hlk := hxo.2
       repeat' (first | refine W.seq ?_ | refine W.frz (k := ?_) | (refine W.condL (h := ?_); change W _ _ _ _) | refine W.regS ?_ | refine WS.done ?_ | refine WS.pre (n := 200) (k := ?_) | (refine WS.cmp (k1 := fun h => ?_) (k2 := fun h => ?_) <;> simp only [cmpP, oC, nTr, ne_eq] at h <;> (try (exfalso; omega))) | refine WS.consN (n := 60) (k := ?_) | fail)
       refine WS.call (hc := (cl)) (k := ?_)
       rintro _ _ hU
       have cn := need_ok hU hN0 (by rw [hs1]; exact hlk) (by omega)
       obtain ⟨nu, es, nn, rfl, hn1, hnn, hU, _⟩ := hU
       have hufl := intR_flat hU
       refine ⟨_, _, _, by cbv; first | done | fail, by cbv; first | done | fail, ?_⟩
       repeat' (first | refine W.seq ?_ | refine W.easy (n := 200) (k := ?_) | refine W.easyD (n := 200) (k := ?_) | refine W.block ?_ | refine W.skip ?_ | refine W.ret ?_ | refine W.exit ?_ | refine W.frz (k := ?_) | refine Ret.ret (k := ?_) | refine Ret.normal (k := ?_) | (refine W.condL (h := ?_); change W _ _ _ _) | refine W.cond (ha := fun h => ?_) (hb := fun h => ?_) | refine W.regS ?_ | refine WS.done ?_ | refine WS.setApp (h := fun r hr => ?_) | refine WS.stoApp (h := fun r hr => ?_) | refine WS.loadP (k := ?_) | refine WS.stoP (k := fun q hq => ?_) | refine WS.pre (n := 200) (k := ?_) | (refine WS.guard (h := ?_); change WS _ _ _ _) | refine WS.lenO (k := ?_) | refine WS.len (h := ?_) | refine WS.iaddrO (k := ?_) | refine WS.iaddr (h := ?_) | (refine WS.cmp (k1 := fun h => ?_) (k2 := fun h => ?_) <;> simp only [cmpP, oC, nTr, ne_eq] at h <;> (try (exfalso; omega))) | refine WS.inc (h := ?_) | (refine WS.add (h := fun c hc => ?_) <;> (try simp only [oC] at hc)) | refine WS.mk' (k := fun r hr => ?_) | refine WS.app (hn := (news_imm (by assumption))) (h := ?_) | refine WS.app (h := ?_) | refine WS.dec (h := ?_) | refine WS.subO (k := ?_) | refine WS.stoSub (h := fun r hr => ?_) | refine WS.lookI (h := fun hin => ?_) (h0 := fun hin => ?_) | refine WS.upI (h := fun ks' es' hks' hkv' => ?_) | refine WS.strNe (k := ?_) | refine WS.strEq (k := ?_) | refine WS.eqSame (k := ?_) | refine WS.consN (n := 60) (k := ?_) | refine W.beginD (h := ?_) | (refine WD.done ⟨_, by cbv; first | done | fail, ?_⟩; dsimp only) | refine WD.setApp (h := fun r hr => ?_) | refine WD.stoApp (h := fun r hr => ?_) | refine WD.loadP (h := ?_) | refine WD.stoP (k := fun q hq => ?_) | refine WD.stoN (k := fun q hq => ?_) | refine WD.pre (n := 200) (ha := rfl) (k := ?_) | (refine WD.guard (h := ?_); change WD _ _ _ _ _ _ _ _) | refine WD.want (h := ?_) | refine WD.lenO (k := ?_) | refine WD.len (h := ?_) | refine WD.iaddrO (h := ?_) | refine WD.iaddr (h := ?_) | (refine WD.cmp (k1 := fun h => ?_) (k2 := fun h => ?_) <;> simp only [cmpP, oC, nTr, ne_eq] at h <;> (try (exfalso; omega))) | (refine WD.add (h := fun c hc => ?_) <;> (try simp only [oC] at hc)) | refine WD.appN (k := ?_) | refine WD.appI (h := ?_) | refine WD.app (h := ?_) | (refine WD.appN0 (h := fun h0 => ?_) (k := fun h0 => ?_)) | refine WD.appIN (k := ?_) | refine WD.strNeV (h := ?_) | refine WD.strNe (k := ?_) | refine WD.strEq (k := ?_) | refine WD.eqSame (k := ?_) | refine WD.oneN (n := 60) (k := ?_) | refine WS.appN0 (h := fun h0 => ?_) (k := fun r hr hr0 => ?_) | fail)
       refine WS.callv (hc := (cn)) (k := ?_)
       rintro _ _ ⟨rfl, x', y', rfl, hN'⟩
       have hB1 : RowR CellR (insStep tk ⟨op, dst, xa, xb, var, num, args⟩).1 by2 := by rw [hst]; exact hB
       have hN2 : NeedR (insStep tk ⟨op, dst, xa, xb, var, num, args⟩).2 x' y' := by rw [hst]; exact hN'
       obtain ⟨⟨r3, n3, rfl, hrn3, hn3, hR3⟩, hy3⟩ := hN'
       rcases hy3 with ⟨rfl, hy3⟩ | ⟨ry3, ny3, rfl, hyl3, hyn3, hyR3⟩
       all_goals
        refine ⟨_, _, _, by cbv; first | done | fail, by cbv; first | done | fail, ?_⟩
        repeat' (first | refine W.regS ?_ | refine WS.done ?_ | refine WS.inc (h := ?_) | refine WS.consN (n := 60) (k := ?_) | fail)
        exact ⟨by omega, (_, _, _), by cbv, hfin (_, _, _) hstep ⟨hB1, hN2⟩⟩
  ·as_aux_lemma =>
    have hk' : ins.take k = ins := List.take_of_length_le (by omega)
    rw [hk'] at hB hN hG
    have hbs : GoodN sz (m + insW ⟨ins, ⟨kind, a, to, els⟩⟩) (blockStep t ⟨ins, ⟨kind, a, to, els⟩⟩) := blockStep_good hG0 hbo
    have hN0 := hN
    have hs1 := hG.s.len
    have hs2 := hG.s.mu
    obtain ⟨⟨r2, n2, rfl, hrn, hn2, hR⟩, hy⟩ := hN
    by_cases hk1 : kind = 1
    ·subst hk1
     have hst : blockStep t ⟨ins, ⟨1, a, to, els⟩⟩ = ins.foldl insStep t := by unfold blockStep; rw [if_pos rfl]
     have hB1 : RowR CellR (blockStep t ⟨ins, ⟨1, a, to, els⟩⟩).1 by2 := by rw [hst]; exact hB
     have hN1 : ∀ x y, NeedR (ins.foldl insStep t).2 x y -> NeedR (blockStep t ⟨ins, ⟨1, a, to, els⟩⟩).2 x y := fun x y h => by rw [hst]; exact h
     rcases hy with ⟨rfl, hy⟩ | ⟨ry, ny, rfl, hyl, hyn, hyR⟩
     all_goals
      refine W.norm (k := ?_)
      unfold l39_2 ki vi mt mw ft ll lg lt iz ov oo
      repeat' (first | refine W.seq ?_ | refine W.exit ?_ | (refine W.condL (h := ?_); change W _ _ _ _) | refine W.regS ?_ | refine WS.done ?_ | (refine WS.cmp (k1 := fun h => ?_) (k2 := fun h => ?_) <;> simp only [cmpP, oC, nTr, ne_eq] at h <;> (try (exfalso; omega))) | fail)
      refine kB _ _ ?_
      repeat' (first | refine W.seq ?_ | refine W.skip ?_ | (refine W.condL (h := ?_); change W _ _ _ _) | refine W.regS ?_ | refine WS.done ?_ | refine WS.pre (n := 200) (k := ?_) | (refine WS.cmp (k1 := fun h => ?_) (k2 := fun h => ?_) <;> simp only [cmpP, oC, nTr, ne_eq] at h <;> (try (exfalso; omega))) | refine WS.inc (h := ?_) | refine WS.consN (n := 60) (k := ?_) | fail)
      exact ⟨by omega, (_, _, _), by cbv, hfinB (_, _, _) hbs ⟨hB1, hN1 _ _ hN0⟩⟩
    ·have hst : blockStep t ⟨ins, ⟨kind, a, to, els⟩⟩ = ((ins.foldl insStep t).1, needF [a] (ins.foldl insStep t).2) := by unfold blockStep; rw [if_neg hk1]
     have hB1 : RowR CellR (blockStep t ⟨ins, ⟨kind, a, to, els⟩⟩).1 by2 := by rw [hst]; exact hB
     have hN1 : ∀ x y, NeedR (needF [a] (ins.foldl insStep t).2) x y -> NeedR (blockStep t ⟨ins, ⟨kind, a, to, els⟩⟩).2 x y := fun x y h => by rw [hst]; exact h
     have cn := need_ok (slA_own (z := 1) (intR1 a)) hN0 (by rw [hs1]; intro v hv; simp at hv; subst hv; exact hbo.2 hk1) (by simp; omega)
     rcases hy with ⟨rfl, hy⟩ | ⟨ry, ny, rfl, hyl, hyn, hyR⟩
     all_goals
      refine W.norm (k := ?_)
      unfold l39_2 ki vi mt mw ft ll lg lt iz ov oo
      repeat' (first | refine W.seq ?_ | refine W.exit ?_ | (refine W.condL (h := ?_); change W _ _ _ _) | refine W.regS ?_ | refine WS.done ?_ | (refine WS.cmp (k1 := fun h => ?_) (k2 := fun h => ?_) <;> simp only [cmpP, oC, nTr, ne_eq] at h <;> (try (exfalso; omega))) | fail)
      refine kB _ _ ?_
      repeat' (first | refine W.seq ?_ | (refine W.condL (h := ?_); change W _ _ _ _) | refine W.regS ?_ | refine WS.done ?_ | refine WS.pre (n := 200) (k := ?_) | (refine WS.cmp (k1 := fun h => ?_) (k2 := fun h => ?_) <;> simp only [cmpP, oC, nTr, ne_eq] at h <;> (try (exfalso; omega))) | fail)
      refine WS.callv (hc := (cn)) (k := ?_)
      rintro _ _ ⟨rfl, x', y', rfl, hN'⟩
      have hN2 := hN'
      obtain ⟨⟨r3, n3, rfl, hrn3, hn3, hR3⟩, hy3⟩ := hN'
      rcases hy3 with ⟨rfl, hy3⟩ | ⟨ry3, ny3, rfl, hyl3, hyn3, hyR3⟩
      all_goals
       refine ⟨_, _, _, by cbv; first | done | fail, by cbv; first | done | fail, ?_⟩
       repeat' (first | refine W.regS ?_ | refine WS.done ?_ | refine WS.inc (h := ?_) | refine WS.consN (n := 60) (k := ?_) | fail)
       exact ⟨by omega, (_, _, _), by cbv, hfinB (_, _, _) hbs ⟨hB1, hN1 _ _ hN2⟩⟩
 ·as_aux_lemma =>
   obtain rfl : i = nbl := by omega
   have hi' : blocks.take i = blocks := List.take_of_length_le (by omega)
   rw [hi'] at hB hN hG
   have hN0 := hN
   obtain ⟨⟨r2, n2, rfl, hrn, hn2, hR⟩, hy⟩ := hN
   have hfin := fun y hN0 => hrest sz _ ⟨.ud, .ud, _, .own 1 r2, y, by1, .inl ⟨rfl, rfl⟩, rfl, hB, goodM_mono hG.ms (by omega), hN0, hG.s, Nat.le_refl _, fun o h => h⟩
   rcases hy with ⟨rfl, hy⟩ | ⟨ry, ny, rfl, hyl, hyn, hyR⟩
   all_goals
    refine W.norm (k := ?_)
    unfold l39_3 ki vi mt mw fa ft ll lg ov oo
    repeat' (first | refine W.seq ?_ | refine W.exit ?_ | (refine W.condL (h := ?_); change W _ _ _ _) | refine W.regS ?_ | refine WS.done ?_ | (refine WS.cmp (k1 := fun h => ?_) (k2 := fun h => ?_) <;> simp only [cmpP, oC, nTr, ne_eq] at h <;> (try (exfalso; omega))) | fail)
    refine kA _ _ ?_
    repeat' (first | refine W.seq ?_ | refine W.frz (k := ?_) | fail)
    refine W.label ?_
    refine (W.unskip (hfin _ hN0)).mono fun e ρ he => ?_
    cases e <;> exact he
end Go.Ab.Ytkmmpbmmmbebgaa
