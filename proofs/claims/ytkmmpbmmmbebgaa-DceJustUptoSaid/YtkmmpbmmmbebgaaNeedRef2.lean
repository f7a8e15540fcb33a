/- What is needed, as the statement tells it: the walk. -/
import Derived.Test.YtkmmpbmmmbebgaaNeedRef
set_option linter.all false
namespace Go.Ab.Ytkmmpbmmmbebgaa
set_option maxRecDepth 100000
set_option maxHeartbeats 8000000
inductive RefNeed (f : TFunc) : Int -> Prop
 | root {v} : v ∈ f.blocks.flatMap rowB -> RefNeed f v
 | step {v u} : RefNeed f v -> u ∈ succF f v -> RefNeed f u
structure LoopI (f : TFunc) (n : Nat) (out : List Bool) (row : List Int) (i : Nat) : Prop where
 len : out.length = n
 le : i <= row.length
 rng : ∀ v, v ∈ row -> 0 <= v /\ v < n
 root : ∀ v, v ∈ f.blocks.flatMap rowB -> v ∈ row
 done : ∀ (k j : Nat), k < i -> row[k]? = some (j : Int) -> out[j]? = some true
 mark : ∀ j : Nat, out[j]? = some true -> (j : Int) ∈ row /\ ∀ u, u ∈ succF f j -> u ∈ row
 need : ∀ v, v ∈ row -> RefNeed f v
 cnt : row.length + out.count false * funcW f <= f.blocks.length + 2 * funcW f + n * funcW f
theorem row_rng {f : TFunc} {n : Nat} (h : NeedIn f n) : ∀ v, v ∈ f.blocks.flatMap rowB -> 0 <= v /\ v < n := by
 intro v hv
 obtain ⟨b, hb, hv⟩ := List.mem_flatMap.1 hv
 unfold rowB at hv
 rcases List.mem_append.1 hv with hv | hv
 ·unfold rowT at hv
  split at hv
  ·rename_i hc
   simp at hv
   subst hv
   exact ⟨hc.2, h.term b hb hc.1⟩
  ·cases hv
 ·obtain ⟨x, hx, hv⟩ := List.mem_flatMap.1 hv
  unfold rowI at hv
  split at hv
  ·rcases List.mem_append.1 hv with hv | hv
   ·exact h.uses x ⟨b, hb, hx⟩ v hv
   ·split at hv
    ·rename_i h0
     simp at hv
     subst hv
     exact ⟨h0, h.makes x ⟨b, hb, hx⟩⟩
    ·cases hv
  ·cases hv
theorem succ_rng {f : TFunc} {n : Nat} (h : NeedIn f n) {j : Int} : ∀ v, v ∈ succF f j -> 0 <= v /\ v < n := by
 intro v hv
 obtain ⟨b, hb, hv⟩ := List.mem_flatMap.1 hv
 obtain ⟨x, hx, hv⟩ := List.mem_flatMap.1 hv
 unfold succI at hv
 split at hv
 ·exact h.uses x ⟨b, hb, hx⟩ v hv
 ·cases hv
theorem LoopI.start {f : TFunc} {n : Nat} (h : NeedIn f n) : LoopI f n (List.replicate n false) (f.blocks.flatMap rowB) 0 := by
 refine ⟨by simp, Nat.zero_le _, row_rng h, fun v hv => hv, fun k j hk => absurd hk (Nat.not_lt_zero _), fun j hj => ?_, fun v hv => .root hv, ?_⟩
 ·rw [List.getElem?_replicate] at hj
  simp at hj
 ·have := row_len f
  have e : (List.replicate n false).count false = n := by simp
  rw [e]
  omega
theorem LoopI.skip {f : TFunc} {n : Nat} {out : List Bool} {row : List Int} {i j : Nat} (h : LoopI f n out row i) (hr : row[i]? = some (j : Int)) (ho : out[j]? = some true) : LoopI f n out row (i + 1) := by
 have hi := (List.getElem?_eq_some_iff.1 hr).1
 refine ⟨h.len, by omega, h.rng, h.root, fun k j' hk hj' => ?_, h.mark, h.need, h.cnt⟩
 by_cases hki : k < i
 ·exact h.done k j' hki hj'
 ·have : k = i := by omega
  subst this
  rw [hr] at hj'
  have e : (j : Int) = j' := Option.some.inj hj'
  have e2 : j = j' := by omega
  subst e2
  exact ho
theorem LoopI.marks {f : TFunc} {n : Nat} (hn : NeedIn f n) {out : List Bool} {row : List Int} {i j : Nat} (h : LoopI f n out row i) (hr : row[i]? = some (j : Int)) (ho : out[j]? = some false) : LoopI f n (out.set j true) (row ++ succF f j) (i + 1) := by
 have hi := (List.getElem?_eq_some_iff.1 hr).1
 have hj := (List.getElem?_eq_some_iff.1 ho).1
 have hset : ∀ q : Nat, (out.set j true)[q]? = some true ↔ out[q]? = some true \/ q = j := fun q => by
  by_cases hq : j = q
  ·subst hq
   rw [List.getElem?_set_self hj]
   exact ⟨fun _ => .inr rfl, fun _ => rfl⟩
  ·rw [List.getElem?_set_ne hq]
   exact ⟨.inl, fun h => h.elim id fun e => absurd e.symm hq⟩
 have hjr : (j : Int) ∈ row := List.mem_of_getElem? hr
 refine ⟨by simpa using h.len, by rw [List.length_append]; omega, fun v hv => ?_, fun v hv => List.mem_append_left _ (h.root v hv), fun k j' hk hj' => ?_, fun q hq => ?_, fun v hv => ?_, ?_⟩
 ·rcases List.mem_append.1 hv with hv | hv
  ·exact h.rng v hv
  ·exact succ_rng hn v hv
 ·rw [hset]
  rw [List.getElem?_append_left (by omega)] at hj'
  by_cases hki : k < i
  ·exact .inl (h.done k j' hki hj')
  ·have : k = i := by omega
   subst this
   rw [hr] at hj'
   have e : (j : Int) = j' := Option.some.inj hj'
   exact .inr (by omega)
 ·rcases (hset q).1 hq with h1 | rfl
  ·obtain ⟨h2, h3⟩ := h.mark q h1
   exact ⟨List.mem_append_left _ h2, fun u hu => List.mem_append_left _ (h3 u hu)⟩
  ·exact ⟨List.mem_append_left _ hjr, fun u hu => List.mem_append_right _ hu⟩
 ·rcases List.mem_append.1 hv with hv | hv
  ·exact h.need v hv
  ·exact .step (h.need _ hjr) hv
 ·have h1 := count_set_true ho
  have h2 := succ_len f j
  have h3 := h.cnt
  rw [List.length_append]
  have h4 : out.count false * funcW f = (out.set j true).count false * funcW f + funcW f := by rw [<- h1, Nat.add_mul, Nat.one_mul]
  omega
/-- What is told at the end. -/
theorem LoopI.told {f : TFunc} {n : Nat} {out : List Bool} {row : List Int} {i : Nat} (h : LoopI f n out row i) (hi : i = row.length) (j : Nat) : out[j]? = some true ↔ RefNeed f j := by
 have hall : ∀ v, v ∈ row -> ∀ q : Nat, v = (q : Int) -> out[q]? = some true := fun v hv q hq => by
  obtain ⟨k, hk⟩ := List.getElem?_of_mem hv
  have := (List.getElem?_eq_some_iff.1 hk).1
  subst hq
  exact h.done k q (by omega) hk
 constructor
 ·intro hj
  exact h.need _ (h.mark j hj).1
 ·intro hj
  have key : ∀ v, RefNeed f v -> v ∈ row := by
   intro v hv
   induction hv with
   | root h1 => exact h.root _ h1
   | step h1 h2 ih =>
     rename_i v u
     have hr := h.rng v ih
     obtain ⟨q, hq⟩ : ∃ q : Nat, v = q := ⟨v.toNat, by omega⟩
     subst hq
     exact (h.mark q (hall _ ih q rfl)).2 _ h2
  exact hall _ (key _ hj) j rfl
theorem growR_app {α : Type} {z : Nat} {R : α -> List A -> Prop} {l l' : List α} {r r' es : List (List A)} (hr : RowR R l r) (hu : RowR R l' es) (h : r ++ [es].flatten = r') : GrowR z R (l ++ l') (.own z r') := by
 subst h
 have : RowR R (l ++ l') (r ++ [es].flatten) := by simpa using hr.append hu
 exact .inr ⟨_, _, rfl, rfl, this.len, this⟩
theorem growR_app0 {α : Type} {z : Nat} {R : α -> List A -> Prop} {l l' : List α} {r es : List (List A)} (hl : l = []) (hu : RowR R l' es) (h : es = r) : GrowR z R (l ++ l') (.own z r) := by
 subst hl h
 exact .inr ⟨_, _, rfl, rfl, hu.len, hu⟩
theorem growR_nil {α : Type} {z : Nat} {R : α -> List A -> Prop} {l l' : List α} {es : List (List A)} (hl : l = []) (hu : RowR R l' es) (h : es = []) : GrowR z R (l ++ l') (.v (.slice none 0 0)) := by
 subst hl h
 cases hu
 exact .inl ⟨rfl, rfl⟩
theorem rowR_app {α : Type} {R : α -> List A -> Prop} {l l' : List α} {r r' es : List (List A)} (hr : RowR R l r) (hu : RowR R l' es) (h : r ++ [es].flatten = r') : RowR R (l ++ l') r' := by
 subst h
 simpa using hr.append hu
theorem rowR_app0 {α : Type} {R : α -> List A -> Prop} {l l' : List α} {r es : List (List A)} (hl : l = []) (hu : RowR R l' es) (h : es = r) : RowR R (l ++ l') r := by
 subst hl h
 exact hu
theorem app_nil {α : Type} {R : α -> List A -> Prop} {l l' : List α} {es : List (List A)} (hl : l = []) (hu : RowR R l' es) (h : es = []) : l ++ l' = [] := by
 subst hl h
 cases hu
 rfl
/-- One block's instructions. -/
theorem rneed_inner {name : ByteArray} {params : Int} {result : Bool} {n : Nat} {nv : Bool} {vs : List (List A)} {nb : Bool} {bs : List (List A)} {i : Nat} {ni : Bool} {is : List (List A)} {nil : Nat} {kind a to els : Int} {ins : List TIns} {r : List (List A)} {b6 : Bool} {x0 : A} {pv : List Int} {Q : Ex -> St -> Prop}
  (he : bs[i]? = some [.imm ni 7 is, .v (.int .u8 kind), .v (.int .i64 a), .v (.int .i64 to), .v (.int .i64 els)]) (hil : is.length = nil) (hnil : nil = ins.length) (hI : RowR InsR ins is) (hal : ∀ x, x ∈ ins -> x.args.length <= 2000000) (hlen : pv.length + (ins.flatMap rowI).length <= 5000000) (hnl : nil <= 100000) (h0 : GrowR 1 IntR pv x0)
  (hex : ∀ y, GrowR 1 IntR (pv ++ ins.flatMap rowI) y -> Q (.exit 2) ⟨[.agg [.v (.string name), .v (.int .i64 params), .v (.bool result), .imm nv 6 vs, .imm nb 5 bs, .v (.int .i64 (Int.ofNat n))], .v (.slice none 0 0), .pt 0 0, .v (.int .i64 (Int.ofNat i)), .v (.bool true), .pt 1 0, .v (.bool b6), y,
    .v (.int .i64 (Int.ofNat nil)), .v (.bool false), .top, .top, .top, .ud, .ud, .own 1 r, .ud, .ud, .ud, .ud, .ud, .ud], [], [.cells [.v (.string name), .v (.int .i64 params), .v (.bool result), .imm nv 6 vs, .imm nb 5 bs, .v (.int .i64 (Int.ofNat n))], .cells [.v (.int .u8 kind), .v (.int .i64 a), .v (.int .i64 to), .v (.int .i64 els)]]⟩) :
  W E (.loop [9, 10, 11, 12] l17_3) ⟨[.agg [.v (.string name), .v (.int .i64 params), .v (.bool result), .imm nv 6 vs, .imm nb 5 bs, .v (.int .i64 (Int.ofNat n))], .v (.slice none 0 0), .pt 0 0, .v (.int .i64 (Int.ofNat i)), .v (.bool true), .pt 1 0, .v (.bool b6), x0,
   .v (.int .i64 0), .top, .top, .top, .top, .ud, .ud, .own 1 r, .ud, .ud, .ud, .ud, .ud, .ud], [], [.cells [.v (.string name), .v (.int .i64 params), .v (.bool result), .imm nv 6 vs, .imm nb 5 bs, .v (.int .i64 (Int.ofNat n))], .cells [.v (.int .u8 kind), .v (.int .i64 a), .v (.int .i64 to), .v (.int .i64 els)]]⟩ Q := by
 refine W.forA nil (fun k (x : A) σ => sn 8 k (sv 7 x σ)) (fun k x => GrowR 1 IntR (pv ++ (ins.take k).flatMap rowI) x) 0 (Nat.zero_le _) ?_ ?_
 ·exact ⟨x0, by cbv, by simpa using h0⟩
 rintro QB kB k x hk hQ
 by_cases hkn : k < nil
 ·have hki : k < ins.length := by omega
  obtain ⟨ek, hek, hRk⟩ := hI.at k hki
  have hxk : ins[k]? = some ins[k] := List.getElem?_eq_getElem hki
  have hxa := hal _ (List.getElem_mem hki)
  have hb2 := flatMap_le_take (g := rowI) (l := ins) (k + 1)
  have hnx := flatMap_take (g := rowI) hxk
  rw [hnx, List.length_append] at hb2
  have hlen2 : (pv ++ (ins.take k).flatMap rowI).length + (rowI ins[k]).length <= 5000000 := by rw [List.length_append]; omega
  have hnxt : ∀ z, GrowR 1 IntR ((pv ++ (ins.take k).flatMap rowI) ++ rowI ins[k]) z -> GrowR 1 IntR (pv ++ (ins.take (k + 1)).flatMap rowI) z := fun z hz => by rw [hnx, <- List.append_assoc]; exact hz
  generalize ins[k] = x' at *
  have cr := root_ok hRk
  have cu := uses_ok hRk (by omega)
  have cm := makes_ok hRk
  have hI0 : ¬ rootP x' -> rowI x' = [] := fun h => if_neg h
  have hI1 : rootP x' -> ¬ 0 <= makesF x' -> rowI x' = usesF x' := fun h h0 => by unfold rowI; rw [if_pos h, if_neg h0, List.append_nil]
  have hI2 : rootP x' -> 0 <= makesF x' -> rowI x' = usesF x' ++ [makesF x'] := fun h h0 => by unfold rowI; rw [if_pos h, if_pos h0]
  have hul := uses_len x'
  generalize pv ++ (ins.take k).flatMap rowI = pw at *
  generalize rowI x' = ri at *
  generalize rootP x' = rp at *
  generalize makesF x' = mv at *
  generalize usesF x' = us at *
  obtain ⟨op, dst, xa, xb, var, num, args⟩ := x'
  obtain ⟨_, rfl, ⟨na, as, nal, rfl, hal', h6, hA, _⟩⟩ := hRk
  simp only at hxa hul
  have hq0 := hQ
  rcases hQ with ⟨rfl, hq⟩ | ⟨rq, nq, rfl, hql, hqn, hqR⟩
  case' inl =>
   have hpwl : pw.length = 0 := by rw [hq]; rfl
  case' inr =>
   have hnq : nq <= 5000000 := by omega
  all_goals
   refine W.norm (k := ?_)
   unfold l17_3 ki vi mt mw fa ft ll lg iz ov oo
   repeat' (first | refine W.seq ?_ | refine W.block ?_ | refine W.skip ?_ | (refine W.condL (h := ?_); change W _ _ _ _) | refine W.regS ?_ | refine WS.done ?_ | refine WS.pre (n := 200) (k := ?_) | refine WS.len (h := ?_) | refine WS.iaddr (h := ?_) | (refine WS.cmp (k1 := fun h => ?_) (k2 := fun h => ?_) <;> simp only [cmpP, oC, nTr, ne_eq] at h <;> (try (exfalso; omega))) | fail)
   refine WS.call (hc := (cr)) (k := ?_)
   rintro _ _ (⟨rfl, hrp⟩ | ⟨rfl, hrp⟩)
  all_goals
   refine ⟨_, _, _, by cbv; first | done | fail, by cbv; first | done | fail, ?_⟩
   repeat' (first | refine W.seq ?_ | refine W.skip ?_ | refine W.frz (k := ?_) | (refine W.condL (h := ?_); change W _ _ _ _) | refine W.regS ?_ | refine WS.done ?_ | refine WS.pre (n := 200) (k := ?_) | refine WS.iaddr (h := ?_) | refine WS.inc (h := ?_) | refine WS.consN (n := 60) (k := ?_) | fail)
  all_goals try
   exact ⟨by omega, _, by cbv, hnxt _ (by rw [hI0 hrp, List.append_nil]; exact hq0)⟩
  all_goals
   refine WS.call (hc := (cu)) (k := ?_)
   rintro _ _ ⟨nu, ue, un, rfl, hn1, hnn, hU, _⟩
   have hufl := intR_flat hU
   have hul2 : ue.length <= 2000002 := by omega
   refine ⟨_, _, _, by cbv; first | done | fail, by cbv; first | done | fail, ?_⟩
   repeat' (first | refine W.seq ?_ | refine W.regS ?_ | refine WS.done ?_ | refine WS.setApp (h := fun r hr => ?_) | refine WS.pre (n := 200) (k := ?_) | refine WS.iaddr (h := ?_) | refine WS.app (hn := (news_imm (by assumption))) (h := ?_) | refine WS.consN (n := 60) (k := ?_) | refine WS.appN0 (h := fun h0 => ?_) (k := fun r hr hr0 => ?_) | fail)
  all_goals try have hrl := congrArg List.length (show _ = _ from hr)
  all_goals try simp only [List.length_append, List.flatten_cons, List.flatten_nil, List.append_nil, List.length_nil] at hrl
  all_goals
   refine WS.call (hc := (cm)) (k := ?_)
   rintro _ _ rfl
   refine ⟨_, _, _, by cbv; first | done | fail, by cbv; first | done | fail, ?_⟩
   repeat' (first | refine W.seq ?_ | refine W.skip ?_ | (refine W.condL (h := ?_); change W _ _ _ _) | refine W.regS ?_ | refine WS.done ?_ | refine WS.setApp (h := fun r hr => ?_) | refine WS.pre (n := 200) (k := ?_) | (refine WS.cmp (k1 := fun h => ?_) (k2 := fun h => ?_) <;> simp only [cmpP, oC, nTr, ne_eq] at h <;> (try (exfalso; omega))) | refine WS.inc (h := ?_) | refine WS.app (h := ?_) | refine WS.consN (n := 60) (k := ?_) | fail)
  all_goals refine ⟨by omega, _, by cbv, hnxt _ ?_⟩
  all_goals first
   | (rw [hI2 hrp (by assumption), <- List.append_assoc]
      first
      | exact growR_snoc (R := IntR) rfl (rowR_app hqR hU (by assumption)) (by assumption)
      | exact growR_snoc (R := IntR) rfl (rowR_app0 hq hU (by assumption)) (by assumption)
      | exact growR_one rfl (app_nil hq hU (by assumption)))
   | (rw [hI1 hrp (by assumption)]
      first
      | exact growR_app hqR hU (by assumption)
      | exact growR_app0 hq hU (by assumption)
      | exact growR_nil hq hU (by assumption))
 ·have hk' : ins.take k = ins := List.take_of_length_le (by omega)
  obtain rfl : k = nil := by omega
  rw [hk'] at hQ
  have hx := hex x hQ
  rcases hQ with ⟨rfl, hq⟩ | ⟨rq, nq, rfl, hql, hqn, hqR⟩ <;>
  ·
   refine W.norm (k := ?_)
   unfold l17_3 ki vi mt mw fa ft ll lg iz ov oo
   repeat' (first | refine W.seq ?_ | refine W.exit ?_ | (refine W.condL (h := ?_); change W _ _ _ _) | refine W.regS ?_ | refine WS.done ?_ | refine WS.pre (n := 200) (k := ?_) | refine WS.len (h := ?_) | refine WS.iaddr (h := ?_) | (refine WS.cmp (k1 := fun h => ?_) (k2 := fun h => ?_) <;> simp only [cmpP, oC, nTr, ne_eq] at h <;> (try (exfalso; omega))) | fail)
   exact kB _ _ hx
end Go.Ab.Ytkmmpbmmmbebgaa
