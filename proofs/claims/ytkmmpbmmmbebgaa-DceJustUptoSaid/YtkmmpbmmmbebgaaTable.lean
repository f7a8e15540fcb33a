/- Which block stands over which. -/
import Derived.Test.YtkmmpbmmmbebgaaDom
set_option linter.all false
namespace Go.Ab.Ytkmmpbmmmbebgaa
set_option maxRecDepth 100000
set_option maxHeartbeats 4000000
def TableR (f : TFunc) (r : A) : Prop := ∃ nl es n, r = .imm nl 1 es /\ es.length = n /\ n = f.blocks.length /\ ∀ a, a < n -> ∃ e, es[a]? = some e /\ BCellR n (Dom f a) e
theorem bools_at {n : Nat} {p : Nat -> Prop} {l : List Bool} (hl : l.length = n) (h : ∀ a : Nat, l[a]? = some true ↔ a < n /\ p a) {j : Nat} (hj : j < n) : ∃ b, l[j]? = some b /\ (b = true ↔ p j) := by
 have hjl : j < l.length := by omega
 refine ⟨l[j], List.getElem?_eq_getElem hjl, ?_⟩
 have := h j
 rw [List.getElem?_eq_getElem hjl] at this
 simp only [Option.some.injEq] at this
 rw [this]
 exact ⟨fun h => h.2, fun h => ⟨hj, h⟩⟩
theorem bRow_at {l : List Bool} {es : List (List A)} (h : RowR BRow l es) {j : Nat} {b : Bool} (hj : l[j]? = some b) : es[j]? = some [.v (.bool b)] := by
 have hjl := (List.getElem?_eq_some_iff.1 hj).1
 rw [List.getElem?_eq_getElem hjl] at hj
 cases hj
 exact bRow_of h hjl
theorem set_bools {l : List Bool} {n j : Nat} {p : Nat -> Prop} {v : Bool} (hl : l.length = n) (h : ∀ a : Nat, l[a]? = some true ↔ a < j /\ p a) (hj : j < n) (hv : v = true ↔ p j) (a : Nat) : (l.set j v)[a]? = some true ↔ a < j + 1 /\ p a := by
 rw [List.getElem?_set]
 split
 ·rename_i e
  subst e
  rw [if_pos (by omega)]
  simp only [Option.some.injEq]
  rw [hv]
  exact ⟨fun h => ⟨by omega, h⟩, fun h => h.2⟩
 ·rw [h a]
  exact ⟨fun h => ⟨by omega, h.2⟩, fun h => ⟨by omega, h.2⟩⟩
theorem table_ok {f : TFunc} {e : List A} (h : FuncR f e) (h0 : 0 < f.blocks.length) (hn : f.blocks.length <= 100000) (hE : EndsOK f) : WC E 51 [.agg e] [] fun r _ => TableR f r := by
 have hcall := fun x => without_ok h h0 hn hE x
 obtain ⟨_, _, rfl, ⟨nv, vs, nvl, rfl, hvl, h3, hv, _⟩, ⟨nb, bs, nbl, rfl, hbl, h4, hb, _⟩⟩ := h
 rw [<- h4] at hcall
 refine WC.enter rfl rfl rfl ?_
 unfold b51 ki mt mw lt ov oo
 repeat' (first | refine W.seq ?_ | refine W.easy (n := 200) (k := ?_) | refine W.frz (k := ?_) | refine W.regS ?_ | refine WS.pre (n := 200) (k := ?_) | fail)
 refine WS.call (hc := (hcall (-1))) (k := ?_)
 rintro _ _ ⟨all, ⟨nA, eA, mA, rfl, hmA, hlA, hA, _⟩, hAn, hAi⟩
 refine ⟨_, _, _, by cbv; first | done | fail, by cbv; first | done | fail, ?_⟩
 repeat' (first | refine W.seq ?_ | refine W.easy (n := 200) (k := ?_) | refine W.block ?_ | refine W.frz (k := ?_) | refine WS.done ?_ | refine WS.consN (n := 60) (k := ?_) | fail)
 refine W.forS nbl (fun i (p : A) σ => sn 3 i (sv 10 p σ)) (fun i p => (p = .nil /\ i = 0) \/ ∃ q, p = .own 1 q /\ q.length = i /\ ∀ a, a < i -> ∃ e, q[a]? = some e /\ BCellR nbl (Dom f a) e) 0 (Nat.zero_le _) ?_ ?_
 ·exact ⟨.nil, rfl, .inl ⟨rfl, rfl⟩⟩
 intro i p hi hp
 have hend : ∀ q, q.length = i -> (∀ a, a < i -> ∃ e, q[a]? = some e /\ BCellR nbl (Dom f a) e) -> ∀ e, BCellR nbl (Dom f i) e -> ((q ++ [e]).length = i + 1 /\ ∀ a, a < i + 1 -> ∃ e', (q ++ [e])[a]? = some e' /\ BCellR nbl (Dom f a) e') := by
  intro q hq hqa e he
  refine ⟨by simp [hq], fun a ha => ?_⟩
  by_cases hai : a < i
  ·obtain ⟨e', h1, h2⟩ := hqa a hai
   exact ⟨e', by rw [List.getElem?_append_left (by omega)]; exact h1, h2⟩
  ·have : a = i := by omega
   subst this
   exact ⟨e, by rw [List.getElem?_append_right (by omega)]; simp [hq], he⟩
 rcases hp with ⟨rfl, hi0⟩ | ⟨q, rfl, hql, hqa⟩
 all_goals
  refine W.norm (k := ?_)
  unfold l51_1 ki mt mw ft ll lt ov oo
  by_cases hin : i < nbl
 rotate_left
 ·exfalso
  omega
 rotate_left
 ·
  repeat' (first | refine W.seq ?_ | refine W.easy (n := 200) (k := ?_) | refine W.ret ?_ | refine W.exit ?_ | refine W.frz (k := ?_) | refine Ret.ret (k := ?_) | (refine W.condL (h := ?_); change W _ _ _ _) | refine W.regS ?_ | refine WS.done ?_ | refine WS.pre (n := 200) (k := ?_) | refine WS.len (h := ?_) | (refine WS.cmp (k1 := fun h => ?_) (k2 := fun h => ?_) <;> simp only [cmpP, oC, nTr, ne_eq] at h <;> (try (exfalso; omega))) | fail)
  have : i = nbl := by omega
  subst this
  exact ⟨_, _, _, rfl, hql, by omega, fun a ha => hqa a ha⟩
 all_goals
  obtain ⟨bi, hbi, hbp⟩ := bools_at hAn hAi hin
  have hei := bRow_at hA hbi
  repeat' (first | refine W.seq ?_ | refine W.block ?_ | refine W.skip ?_ | refine W.frz (k := ?_) | (refine W.condL (h := ?_); change W _ _ _ _) | refine W.regS ?_ | refine WS.done ?_ | refine WS.pre (n := 200) (k := ?_) | refine WS.len (h := ?_) | (refine WS.cmp (k1 := fun h => ?_) (k2 := fun h => ?_) <;> simp only [cmpP, oC, nTr, ne_eq] at h <;> (try (exfalso; omega))) | fail)
  refine WS.call (hc := (hcall i)) (k := ?_)
  rintro _ _ ⟨lx, ⟨nL, eL, mL, rfl, hmL, hlL, hL, _⟩, hLn, hLi⟩
  refine ⟨_, _, _, by cbv; first | done | fail, by cbv; first | done | fail, ?_⟩
  repeat' (first | refine W.seq ?_ | refine W.easy (n := 200) (k := ?_) | refine W.block ?_ | refine W.frz (k := ?_) | refine W.regS ?_ | refine WS.done ?_ | refine WS.pre (n := 200) (k := ?_) | refine WS.len (h := ?_) | refine WS.mk' (k := fun r hr => ?_) | refine WS.consN (n := 60) (k := ?_) | fail)
  refine W.forS nbl (fun j (r : List (List A)) σ => sn 5 j (sv 7 (.own 1 r) σ)) (fun j r => ∃ l, RowR BRow l r /\ l.length = nbl /\ ∀ a : Nat, l[a]? = some true ↔ a < j /\ Dom f i a) 0 (Nat.zero_le _) ?_ ?_
  ·refine ⟨_, rfl, List.replicate nbl false, by rw [<- hr]; exact RowR.replicate (R := BRow) rfl _, by simp, fun a => ?_⟩
   rw [List.getElem?_replicate]
   split <;> simp
  rintro j r hj ⟨l, hlr, hll, hla⟩
  refine W.norm (k := ?_)
  unfold l51_0 ki kb mt mw ft ll iz og ov oo
  have hrll := hlr.len
  by_cases hjn : j < nbl
  ·obtain ⟨bj, hbj, hbjp⟩ := bools_at hAn hAi hjn
   obtain ⟨lj, hlj, hljp⟩ := bools_at hLn hLi hjn
   have hej := bRow_at hA hbj
   have heL := bRow_at hL hlj
   have hlb : l[j]? = some l[j] := List.getElem?_eq_getElem (by omega)
   have herj := bRow_at hlr hlb
   have hset := fun v hv => set_bools (p := fun a => Dom f i a) (v := v) hll hla hjn hv
   cases bi with
   | false =>
     repeat' (first | refine W.seq ?_ | refine W.block ?_ | refine W.skip ?_ | (refine W.condL (h := ?_); change W _ _ _ _) | refine W.regS ?_ | refine WS.done ?_ | refine WS.stoP (k := fun q hq => ?_) | refine WS.pre (n := 200) (k := ?_) | (refine WS.guard (h := ?_); change WS _ _ _ _) | refine WS.len (h := ?_) | refine WS.iaddrO (k := ?_) | refine WS.iaddr (h := ?_) | (refine WS.cmp (k1 := fun h => ?_) (k2 := fun h => ?_) <;> simp only [cmpP, oC, nTr, ne_eq] at h <;> (try (exfalso; omega))) | refine WS.inc (h := ?_) | refine WS.consN (n := 60) (k := ?_) | fail)
     exact ⟨by omega, q, by cbv, l.set j false, by rw [<- hq]; exact hlr.set j rfl, by simp [hll], hset false (by simp [Dom] at hbp ⊢; exact fun h => absurd h hbp)⟩
   | true =>
     cases bj with
     | false =>
       repeat' (first | refine W.seq ?_ | refine W.block ?_ | refine W.skip ?_ | (refine W.condL (h := ?_); change W _ _ _ _) | refine W.regS ?_ | refine WS.done ?_ | refine WS.stoP (k := fun q hq => ?_) | refine WS.pre (n := 200) (k := ?_) | (refine WS.guard (h := ?_); change WS _ _ _ _) | refine WS.len (h := ?_) | refine WS.iaddrO (k := ?_) | refine WS.iaddr (h := ?_) | (refine WS.cmp (k1 := fun h => ?_) (k2 := fun h => ?_) <;> simp only [cmpP, oC, nTr, ne_eq] at h <;> (try (exfalso; omega))) | refine WS.inc (h := ?_) | refine WS.consN (n := 60) (k := ?_) | fail)
       exact ⟨by omega, q, by cbv, l.set j false, by rw [<- hq]; exact hlr.set j rfl, by simp [hll], hset false (by simp [Dom] at hbjp ⊢; exact fun _ h => absurd h hbjp)⟩
     | true =>
       cases lj with
       | true =>
         repeat' (first | refine W.seq ?_ | refine W.block ?_ | refine W.skip ?_ | (refine W.condL (h := ?_); change W _ _ _ _) | refine W.regS ?_ | refine WS.done ?_ | refine WS.stoP (k := fun q hq => ?_) | refine WS.pre (n := 200) (k := ?_) | (refine WS.guard (h := ?_); change WS _ _ _ _) | refine WS.len (h := ?_) | refine WS.iaddrO (k := ?_) | refine WS.iaddr (h := ?_) | (refine WS.cmp (k1 := fun h => ?_) (k2 := fun h => ?_) <;> simp only [cmpP, oC, nTr, ne_eq] at h <;> (try (exfalso; omega))) | refine WS.inc (h := ?_) | refine WS.consN (n := 60) (k := ?_) | fail)
         exact ⟨by omega, q, by cbv, l.set j false, by rw [<- hq]; exact hlr.set j rfl, by simp [hll], hset false (by simp [Dom] at hljp ⊢; exact fun _ _ => hljp)⟩
       | false =>
         repeat' (first | refine W.seq ?_ | refine W.block ?_ | refine W.skip ?_ | (refine W.condL (h := ?_); change W _ _ _ _) | refine W.regS ?_ | refine WS.done ?_ | refine WS.stoP (k := fun q hq => ?_) | refine WS.pre (n := 200) (k := ?_) | (refine WS.guard (h := ?_); change WS _ _ _ _) | refine WS.len (h := ?_) | refine WS.iaddrO (k := ?_) | refine WS.iaddr (h := ?_) | (refine WS.cmp (k1 := fun h => ?_) (k2 := fun h => ?_) <;> simp only [cmpP, oC, nTr, ne_eq] at h <;> (try (exfalso; omega))) | refine WS.inc (h := ?_) | refine WS.consN (n := 60) (k := ?_) | fail)
         exact ⟨by omega, q, by cbv, l.set j true, by rw [<- hq]; exact hlr.set j rfl, by simp [hll], hset true (by simp [Dom] at hljp hbp hbjp ⊢; exact ⟨hbp, hbjp, hljp⟩)⟩
  ·have : j = nbl := by omega
   subst this
   repeat' (first | refine W.seq ?_ | refine W.exit ?_ | (refine W.condL (h := ?_); change W _ _ _ _) | refine W.regS ?_ | refine WS.done ?_ | refine WS.setApp (h := fun r hr => ?_) | refine WS.pre (n := 200) (k := ?_) | refine WS.len (h := ?_) | (refine WS.cmp (k1 := fun h => ?_) (k2 := fun h => ?_) <;> simp only [cmpP, oC, nTr, ne_eq] at h <;> (try (exfalso; omega))) | refine WS.inc (h := ?_) | refine WS.app (h := ?_) | refine WS.consN (n := 60) (k := ?_) | fail)
   first
    | exact ⟨by omega, _, by cbv, .inr ⟨_, rfl, by rw [<- hr]; exact hend q hql hqa _ ⟨l, _, rfl, hlr, hll, hla⟩⟩⟩
    | (subst hi0
       exact ⟨by omega, _, by cbv, .inr ⟨_, rfl, hend [] rfl (fun a ha => absurd ha (Nat.not_lt_zero a)) _ ⟨l, _, rfl, hlr, hll, hla⟩⟩⟩)
end Go.Ab.Ytkmmpbmmmbebgaa
