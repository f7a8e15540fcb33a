/- What is needed, as the statement tells it: one block's users. -/
import Derived.Test.YtkmmpbmmmbebgaaNeedRef2
set_option linter.all false
namespace Go.Ab.Ytkmmpbmmmbebgaa
set_option maxRecDepth 100000
set_option maxHeartbeats 8000000
/-- One block's instructions, for one wanted value. -/
theorem rneed_ins {name : ByteArray} {params : Int} {result : Bool} {n : Nat} {nv : Bool} {vs : List (List A)} {nb : Bool} {bs : List (List A)} {i : Nat} {ni : Bool} {is : List (List A)} {nil ii i3 : Nat} {kind a to els v : Int} {ins : List TIns} {r : List (List A)} {x0 : A} {pv : List Int} {Q : Ex -> St -> Prop}
  (he : bs[i]? = some [.imm ni 7 is, .v (.int .u8 kind), .v (.int .i64 a), .v (.int .i64 to), .v (.int .i64 els)]) (hil : is.length = nil) (hnil : nil = ins.length) (hI : RowR InsR ins is) (hal : ∀ x, x ∈ ins -> x.args.length <= 2000000) (hlen : pv.length + (ins.flatMap (succI v)).length <= 3000000000) (hnl : nil <= 100000) (hii : pv[ii]? = some v) (hil2 : i < bs.length) (hbl : bs.length <= 100000) (h0 : ∃ r, x0 = .own 1 r /\ RowR IntR pv r)
  (hex : ∀ r', RowR IntR (pv ++ ins.flatMap (succI v)) r' -> Q (.exit 8) ⟨[.agg [.v (.string name), .v (.int .i64 params), .v (.bool result), .imm nv 6 vs, .imm nb 5 bs, .v (.int .i64 (Int.ofNat n))], .v (.slice none 0 0), .pt 0 0, .v (.int .i64 (Int.ofNat i3)), .v (.bool false), .top, .top, .own 1 r',
    .top, .top, .top, .top, .top, .v (.int .i64 (Int.ofNat ii)), .v (.bool true), .own 1 r, .v (.bool false), .v (.int .i64 (Int.ofNat i)), .v (.bool true), .v (.int .i64 (Int.ofNat nil)), .v (.bool false), .top], [], [.cells [.v (.string name), .v (.int .i64 params), .v (.bool result), .imm nv 6 vs, .imm nb 5 bs, .v (.int .i64 (Int.ofNat n))]]⟩) :
  W E (.loop [20, 21] l17_0) ⟨[.agg [.v (.string name), .v (.int .i64 params), .v (.bool result), .imm nv 6 vs, .imm nb 5 bs, .v (.int .i64 (Int.ofNat n))], .v (.slice none 0 0), .pt 0 0, .v (.int .i64 (Int.ofNat i3)), .v (.bool false), .top, .top, x0,
   .top, .top, .top, .top, .top, .v (.int .i64 (Int.ofNat ii)), .v (.bool true), .own 1 r, .v (.bool false), .v (.int .i64 (Int.ofNat i)), .v (.bool true), .v (.int .i64 0), .top, .top], [], [.cells [.v (.string name), .v (.int .i64 params), .v (.bool result), .imm nv 6 vs, .imm nb 5 bs, .v (.int .i64 (Int.ofNat n))]]⟩ Q := by
 refine W.forA nil (fun k (x : A) σ => sn 19 k (sv 7 x σ)) (fun k x => ∃ r, x = .own 1 r /\ RowR IntR (pv ++ (ins.take k).flatMap (succI v)) r) 0 (Nat.zero_le _) ?_ ?_
 ·exact ⟨x0, by cbv, by simpa using h0⟩
 rintro QB kB k x hk ⟨rq, rfl, hqR⟩
 by_cases hkn : k < nil
 ·have hki : k < ins.length := by omega
  obtain ⟨ek, hek, hRk⟩ := hI.at k hki
  have hxk : ins[k]? = some ins[k] := List.getElem?_eq_getElem hki
  have hxa := hal _ (List.getElem_mem hki)
  have hb2 := flatMap_le_take (g := succI v) (l := ins) (k + 1)
  have hnx := flatMap_take (g := succI v) hxk
  rw [hnx, List.length_append] at hb2
  have hlen2 : (pv ++ (ins.take k).flatMap (succI v)).length + (succI v ins[k]).length <= 3000000000 := by rw [List.length_append]; omega
  have hnxt : ∀ z, RowR IntR ((pv ++ (ins.take k).flatMap (succI v)) ++ succI v ins[k]) z -> RowR IntR (pv ++ (ins.take (k + 1)).flatMap (succI v)) z := fun z hz => by rw [hnx, <- List.append_assoc]; exact hz
  have hiw : (pv ++ (ins.take k).flatMap (succI v))[ii]? = some v := by
   have := List.getElem?_eq_some_iff.1 hii
   rw [List.getElem?_append_left this.1]; exact hii
  generalize ins[k] = x' at *
  have cu := uses_ok hRk (by omega)
  have cm := makes_ok hRk
  have hI1 : ¬ makesF x' = v -> succI v x' = [] := fun h => if_neg h
  have hI2 : makesF x' = v -> succI v x' = usesF x' := fun h => if_pos h
  have hul := uses_len x'
  generalize pv ++ (ins.take k).flatMap (succI v) = pw at *
  generalize succI v x' = ri at *
  generalize makesF x' = mv at *
  generalize usesF x' = us at *
  obtain ⟨op, dst, xa, xb, var, num, args⟩ := x'
  obtain ⟨_, rfl, ⟨na, as, nal, rfl, hal', h6, hA, _⟩⟩ := hRk
  simp only at hxa hul
  have hiw2 := (List.getElem?_eq_some_iff.1 hiw)
  obtain ⟨ev, hev, hvR⟩ := hqR.at ii hiw2.1
  rw [hiw2.2] at hvR
  obtain rfl : ev = [.v (.int .i64 v)] := hvR
  have hql := hqR.len
  have hiw3 := hiw2.1
  have hil3 : ii < rq.length := by omega
  have hrl : rq.length <= 3000000000 := by omega
  refine W.norm (k := ?_)
  unfold l17_0 ki mt mw fa ft ll lg iz ov oo
  repeat' (first | refine W.seq ?_ | refine W.block ?_ | refine W.skip ?_ | (refine W.condL (h := ?_); change W _ _ _ _) | refine W.regS ?_ | refine WS.done ?_ | refine WS.pre (n := 200) (k := ?_) | refine WS.len (h := ?_) | refine WS.iaddr (h := ?_) | (refine WS.cmp (k1 := fun h => ?_) (k2 := fun h => ?_) <;> simp only [cmpP, oC, nTr, ne_eq] at h <;> (try (exfalso; omega))) | refine W.beginD (h := ?_) | refine WD.pre (n := 200) (ha := rfl) (k := ?_) | refine WD.iaddr (h := ?_) | fail)
  refine WD.qcall (hc := (cm)) (k := ?_)
  rintro _ _ rfl
  refine ⟨_, _, _, by cbv; first | done | fail, by cbv; first | done | fail, by cbv; first | done | fail, ?_⟩
  repeat' (first | refine W.seq ?_ | refine W.skip ?_ | refine W.frz (k := ?_) | refine W.cond (ha := fun h => ?_) (hb := fun h => ?_) | refine W.regS ?_ | refine WS.done ?_ | refine WS.pre (n := 200) (k := ?_) | refine WS.iaddr (h := ?_) | refine WS.inc (h := ?_) | refine WS.consN (n := 60) (k := ?_) | (refine WD.done ⟨_, by cbv; first | done | fail, ?_⟩; dsimp only) | refine WD.loadP (h := ?_) | refine WD.pre (n := 200) (ha := rfl) (k := ?_) | refine WD.iaddrO (h := ?_) | refine WD.oneN (n := 60) (k := ?_) | fail)
  ·
   refine WS.call (hc := (cu)) (k := ?_)
   rintro _ _ ⟨nu, ue, un, rfl, hn1, hnn, hU, _⟩
   have hufl := intR_flat hU
   have hul2 : ue.length <= 2000002 := by omega
   refine ⟨_, _, _, by cbv; first | done | fail, by cbv; first | done | fail, ?_⟩
   repeat' (first | refine W.regS ?_ | refine WS.done ?_ | refine WS.setApp (h := fun r hr => ?_) | refine WS.pre (n := 200) (k := ?_) | refine WS.inc (h := ?_) | refine WS.app (hn := (news_imm (by assumption))) (h := ?_) | refine WS.consN (n := 60) (k := ?_) | fail)
   exact ⟨by omega, _, by cbv, _, rfl, hnxt _ (by rw [hI2 (of_decide_eq_true (by assumption))]; exact rowR_app hqR hU (by assumption))⟩
  ·exact ⟨by omega, _, by cbv, _, rfl, hnxt _ (by rw [hI1 (of_decide_eq_false (by assumption)), List.append_nil]; exact hqR)⟩
 ·have hk' : ins.take k = ins := List.take_of_length_le (by omega)
  obtain rfl : k = nil := by omega
  rw [hk'] at hqR
  have hx := hex _ hqR
  refine W.norm (k := ?_)
  unfold l17_0 ki mt mw fa ft ll lg iz ov oo
  repeat' (first | refine W.seq ?_ | refine W.exit ?_ | (refine W.condL (h := ?_); change W _ _ _ _) | refine W.regS ?_ | refine WS.done ?_ | refine WS.pre (n := 200) (k := ?_) | refine WS.len (h := ?_) | refine WS.iaddr (h := ?_) | (refine WS.cmp (k1 := fun h => ?_) (k2 := fun h => ?_) <;> simp only [cmpP, oC, nTr, ne_eq] at h <;> (try (exfalso; omega))) | fail)
  exact kB _ _ hx
end Go.Ab.Ytkmmpbmmmbebgaa
