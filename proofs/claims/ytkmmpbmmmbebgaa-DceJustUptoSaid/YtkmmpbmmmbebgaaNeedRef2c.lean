/- What is needed, as the statement tells it: the users in all blocks. -/
import Derived.Test.YtkmmpbmmmbebgaaNeedRef2b
set_option linter.all false
namespace Go.Ab.Ytkmmpbmmmbebgaa
set_option maxRecDepth 100000
set_option maxHeartbeats 8000000
/-- All blocks, for one wanted value. -/
theorem rneed_blocks {name : ByteArray} {params : Int} {result : Bool} {n : Nat} {nv : Bool} {vs : List (List A)} {nb : Bool} {bs : List (List A)} {nbl ii i3 : Nat} {v : Int} {blocks : List TBlock} {r : List (List A)} {x0 : A} {pv : List Int} {Q : Ex -> St -> Prop}
  (hb : RowR BlockR blocks bs) (hbl : bs.length = nbl) (h4 : nbl = blocks.length) (hsi : ∀ b, b ∈ blocks -> b.ins.length <= 100000) (hsa : ∀ b, b ∈ blocks -> ∀ x, x ∈ b.ins -> x.args.length <= 2000000) (hsb : blocks.length <= 100000) (hlen : pv.length + (blocks.flatMap (succB v)).length <= 3000000000) (hii : pv[ii]? = some v) (h0 : ∃ r, x0 = .own 1 r /\ RowR IntR pv r)
  (hex : ∀ r', RowR IntR (pv ++ blocks.flatMap (succB v)) r' -> Q (.exit 6) ⟨[.agg [.v (.string name), .v (.int .i64 params), .v (.bool result), .imm nv 6 vs, .imm nb 5 bs, .v (.int .i64 (Int.ofNat n))], .v (.slice none 0 0), .pt 0 0, .v (.int .i64 (Int.ofNat i3)), .v (.bool false), .top, .top, .own 1 r',
    .top, .top, .top, .top, .top, .v (.int .i64 (Int.ofNat ii)), .v (.bool true), .own 1 r, .v (.bool false), .v (.int .i64 (Int.ofNat nbl)), .v (.bool false), .top, .top, .top], [], [.cells [.v (.string name), .v (.int .i64 params), .v (.bool result), .imm nv 6 vs, .imm nb 5 bs, .v (.int .i64 (Int.ofNat n))]]⟩) :
  W E (.loop [18, 19, 20, 21] l17_1) ⟨[.agg [.v (.string name), .v (.int .i64 params), .v (.bool result), .imm nv 6 vs, .imm nb 5 bs, .v (.int .i64 (Int.ofNat n))], .v (.slice none 0 0), .pt 0 0, .v (.int .i64 (Int.ofNat i3)), .v (.bool false), .top, .top, x0,
   .top, .top, .top, .top, .top, .v (.int .i64 (Int.ofNat ii)), .v (.bool true), .own 1 r, .v (.bool false), .v (.int .i64 0), .top, .top, .top, .top], [], [.cells [.v (.string name), .v (.int .i64 params), .v (.bool result), .imm nv 6 vs, .imm nb 5 bs, .v (.int .i64 (Int.ofNat n))]]⟩ Q := by
 refine W.forA nbl (fun k (x : A) σ => sn 17 k (sv 7 x σ)) (fun k x => ∃ r, x = .own 1 r /\ RowR IntR (pv ++ (blocks.take k).flatMap (succB v)) r) 0 (Nat.zero_le _) ?_ ?_
 ·exact ⟨x0, by cbv, by simpa using h0⟩
 rintro QB kB k x hk ⟨rq, rfl, hqR⟩
 by_cases hkn : k < nbl
 ·have hki : k < blocks.length := by omega
  obtain ⟨ek, hek, hRk⟩ := hb.at k hki
  have hxk : blocks[k]? = some blocks[k] := List.getElem?_eq_getElem hki
  have hil := hsi _ (List.getElem_mem hki)
  have hal := hsa _ (List.getElem_mem hki)
  have hb2 := flatMap_le_take (g := succB v) (l := blocks) (k + 1)
  have hnx := flatMap_take (g := succB v) hxk
  rw [hnx, List.length_append] at hb2
  have hlen2 : (pv ++ (blocks.take k).flatMap (succB v)).length + (succB v blocks[k]).length <= 3000000000 := by rw [List.length_append]; omega
  have hnxt : ∀ z, RowR IntR ((pv ++ (blocks.take k).flatMap (succB v)) ++ succB v blocks[k]) z -> RowR IntR (pv ++ (blocks.take (k + 1)).flatMap (succB v)) z := fun z hz => by rw [hnx, <- List.append_assoc]; exact hz
  have hiw : (pv ++ (blocks.take k).flatMap (succB v))[ii]? = some v := by
   have := List.getElem?_eq_some_iff.1 hii
   rw [List.getElem?_append_left this.1]; exact hii
  generalize blocks[k] = b at *
  generalize pv ++ (blocks.take k).flatMap (succB v) = pw at *
  obtain ⟨ins, ⟨kind, a, to, els⟩⟩ := b
  obtain ⟨_, rfl, ⟨ni, is, nil, rfl, hil2, h5, hI, _⟩⟩ := hRk
  simp only at hil hal h5 hI
  refine W.norm (k := ?_)
  unfold l17_1 ki mt mw ft ll ov oo
  repeat' (first | refine W.seq ?_ | refine W.easy (n := 200) (k := ?_) | refine W.block ?_ | refine W.skip ?_ | (refine W.condL (h := ?_); change W _ _ _ _) | refine W.regS ?_ | refine WS.done ?_ | refine WS.pre (n := 200) (k := ?_) | refine WS.len (h := ?_) | (refine WS.cmp (k1 := fun h => ?_) (k2 := fun h => ?_) <;> simp only [cmpP, oC, nTr, ne_eq] at h <;> (try (exfalso; omega))) | fail)
  refine rneed_ins (pv := pw) hek hil2 h5 hI hal hlen2 (by omega) hiw (by omega) (by omega) ⟨_, rfl, hqR⟩ ?_
  intro r' hr'
  have hfin := hnxt _ hr'
  refine W.norm (k := ?_)
  repeat' (first | refine W.regS ?_ | refine WS.done ?_ | refine WS.pre (n := 200) (k := ?_) | refine WS.inc (h := ?_) | refine WS.consN (n := 60) (k := ?_) | fail)
  exact ⟨by omega, _, by cbv, _, rfl, hfin⟩
 ·have hk' : blocks.take k = blocks := List.take_of_length_le (by omega)
  obtain rfl : k = nbl := by omega
  rw [hk'] at hqR
  have hx := hex _ hqR
  refine W.norm (k := ?_)
  unfold l17_1 ki mt mw ft ll ov oo
  repeat' (first | refine W.seq ?_ | refine W.exit ?_ | (refine W.condL (h := ?_); change W _ _ _ _) | refine W.regS ?_ | refine WS.done ?_ | refine WS.pre (n := 200) (k := ?_) | refine WS.len (h := ?_) | (refine WS.cmp (k1 := fun h => ?_) (k2 := fun h => ?_) <;> simp only [cmpP, oC, nTr, ne_eq] at h <;> (try (exfalso; omega))) | fail)
  exact kB _ _ hx
end Go.Ab.Ytkmmpbmmmbebgaa
