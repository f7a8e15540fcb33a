/- What is done to a unit whose instructions are sound: it may be again. -/
import Derived.Test.YtkmmpbmmmbebgaaSound2
import Derived.Test.YtkmmpbmmmbebgaaDce5
set_option linter.all false
namespace Go.Ab.Ytkmmpbmmmbebgaa
theorem looks_uses {x : TIns} {v : Int} (h : v ∈ looksF x) : v ∈ usesF x := by
 unfold looksF at h
 unfold usesF
 split at h
 ·rename_i h1
  by_cases h38 : x.op = 38
  ·rw [if_neg (by omega), if_pos h38]
   exact h
  ·rw [if_neg (by omega), if_neg h38, if_neg (by omega), if_neg (by omega), if_pos (by omega)]
   exact h
 split at h
 ·rw [if_pos (by omega)]
  exact h
 split at h
 ·rw [if_neg (by omega), if_neg (by omega), if_pos (by omega)]
  exact h
 ·cases h
theorem dceFOK {u : TUnit} (hm : MayP u) (hs : SoundU u) {i : Nat} {f : TFunc} (hf : u.funcs[i]? = some f) (hsm : FuncSmall f) (hw : funcW f <= 100000000) : DceFOK f := by
 have hp := hm.funcs i f hf
 have hso := hs.2 i f hf
 have at' : ∀ b, b ∈ f.blocks -> ∀ x, x ∈ b.ins -> (x.op ≠ 34 /\ x.op ≠ 35) /\ (-1 <= makesF x /\ makesF x < f.size /\ (makesF x < 0 -> x.op = 42 \/ ¬ makesB x)) /\ ∀ d, d ∈ usesF x -> 0 <= d /\ d < f.size := fun b hb x hx => by
  obtain ⟨p, hp'⟩ := List.getElem?_of_mem hb
  obtain ⟨k, hk⟩ := List.getElem?_of_mem hx
  have h1 := hp.ins p b hp' k x hk
  have h2 := (hso p b hp').ins k x hk
  exact ⟨h2.get, h1.makes, h1.uses⟩
 refine ⟨hsm, ⟨⟨hp.head.2.2.1, hp.head.2.2.2.1⟩, fun b hb x hx => ?_, fun b hb hk => ?_, hw⟩, fun b hb x hx h46 => ?_⟩
 ·obtain ⟨h1, h2, h3⟩ := at' b hb x hx
  refine ⟨fun hh => ?_, fun v hv => (h3 v (looks_uses hv)).2⟩
  have hn : ¬ (x.op = 35 \/ x.op = 38 \/ x.op = 40 \/ x.op = 41 \/ x.op = 44 \/ x.op = 45 \/ x.op = 46) := by
   unfold hasF at hh
   omega
  have hmk : makesF x = x.dst := by unfold makesF; rw [if_neg hn]
  rw [hmk] at h2
  have h42 : x.op ≠ 42 := by unfold hasF at hh; omega
  by_cases h0 : x.dst < 0
  ·rcases h2.2.2 h0 with h | h
   ·exact absurd h h42
   ·exact absurd hn h
  ·omega
 ·obtain ⟨p, hp'⟩ := List.getElem?_of_mem hb
  have := (hp.term p b hp').kind
  omega
 ·obtain ⟨_, _, h3⟩ := at' b hb x hx
  have h0 := hp.head.2.2.1
  by_cases ha : 0 <= x.a
  ·refine (h3 x.a ?_).2
   unfold usesF
   rw [if_neg (by omega), if_neg (by omega), if_neg (by omega), if_pos h46, if_pos ha]
   simp
  ·omega
/-! ### what is left -/
theorem fm_at {α β : Type} {g : α -> Option β} : ∀ {l : List α} {k : Nat} {y : β}, (l.filterMap g)[k]? = some y -> ∃ (q : Nat) (x : α), l[q]? = some x /\ g x = some y /\ ∀ (j : Nat) (z : β), j < k -> (l.filterMap g)[j]? = some z -> ∃ (q' : Nat) (x' : α), q' < q /\ l[q']? = some x' /\ g x' = some z
 | [], k, y, h => by simp at h
 | a :: l, k, y, h => by
   cases hg : g a with
   | none =>
     rw [List.filterMap_cons_none hg] at h
     obtain ⟨q, x, h1, h2, h3⟩ := fm_at h
     refine ⟨q + 1, x, by simpa using h1, h2, fun j z hj hz => ?_⟩
     rw [List.filterMap_cons_none hg] at hz
     obtain ⟨q', x', k1, k2, k3⟩ := h3 j z hj hz
     exact ⟨q' + 1, x', by omega, by simpa using k2, k3⟩
   | some b =>
     rw [List.filterMap_cons_some hg] at h
     cases k with
     | zero =>
       simp at h
       subst h
       exact ⟨0, a, rfl, hg, fun j z hj => absurd hj (Nat.not_lt_zero _)⟩
     | succ k =>
       obtain ⟨q, x, h1, h2, h3⟩ := fm_at (l := l) (k := k) (by simpa using h)
       refine ⟨q + 1, x, by simpa using h1, h2, fun j z hj hz => ?_⟩
       rw [List.filterMap_cons_some hg] at hz
       cases j with
       | zero =>
         simp at hz
         subst hz
         exact ⟨0, a, by omega, rfl, hg⟩
       | succ j =>
         obtain ⟨q', x', k1, k2, k3⟩ := h3 j z (by omega) (by simpa using hz)
         exact ⟨q' + 1, x', by omega, by simpa using k2, k3⟩
theorem dceI_some {o : List Bool} {x y : TIns} (h : dceI o x = some y) : y = x \/ (x.op = 46 /\ 0 <= x.a /\ y = { x with a := -1 }) := by
 unfold dceI at h
 split at h
 ·cases h
 ·split at h
  ·rename_i hc
   cases h
   exact .inr ⟨hc.1, hc.2.1, rfl⟩
  ·cases h
   exact .inl rfl
theorem waysTo_map (o : List Bool) : ∀ (bs : List TBlock) (i : Nat) (w : List (List Int)), waysTo (bs.map (dceB o)) i w = waysTo bs i w
 | [], _, _ => rfl
 | b :: bs, i, w => by rw [List.map_cons, waysTo, waysTo, waysTo_map o bs]; rfl
theorem ways_dce (o : List Bool) (f : TFunc) : waysF (dceF o f) = waysF f := by
 unfold waysF dceF
 simp only [List.length_map]
 exact waysTo_map o _ _ _
theorem DceL.at {l l' : List TFunc} (h : DceL l l') : ∀ (i : Nat) g, l'[i]? = some g -> ∃ f o, l[i]? = some f /\ g = dceF o f /\ Needed f o := by
 induction h with
 | nil => intro i g h; simp at h
 | cons h1 _ ih =>
   intro i g h
   cases i with
   | zero => simp at h; subst h; exact ⟨_, _, rfl, rfl, h1⟩
   | succ i => exact ih i g (by simpa using h)
theorem DceL.to {l l' : List TFunc} (h : DceL l l') : ∀ (i : Nat) f, l[i]? = some f -> ∃ o, l'[i]? = some (dceF o f) /\ Needed f o := by
 induction h with
 | nil => intro i g h; simp at h
 | cons h1 _ ih =>
   intro i g h
   cases i with
   | zero => simp at h; subst h; exact ⟨_, rfl, h1⟩
   | succ i => exact ih i g (by simpa using h)
theorem insSum_dce (o : List Bool) (f : TFunc) : insSum (dceF o f) <= insSum f := by
 unfold insSum dceF
 simp only [List.map_map]
 induction f.blocks with
 | nil => simp
 | cons b bs ih =>
   simp only [List.map_cons, List.sum_cons, Function.comp_apply]
   have : (dceB o b).ins.length <= b.ins.length := List.length_filterMap_le _ _
   omega
theorem varP_eq {p : TVar -> Prop} {f g : TFunc} (h : g.vars = f.vars) (k : Int) : varP p g k ↔ varP p f k := by unfold varP; rw [h]
/-- What is known of an instruction, where only what calls look at is the same. -/
theorem known_dce {u u' : TUnit} {f : TFunc} {n : Int} {x y : TIns} {o : List Bool} (hl : ∀ (i : Nat) g, u.funcs[i]? = some g -> ∃ g', u'.funcs[i]? = some g' /\ g'.params = g.params) (hp : u'.points = u.points)
  (hy : y = x \/ (x.op = 46 /\ 0 <= x.a /\ y = { x with a := -1 })) (h : knownP u f n x) : knownP u' (dceF o f) n y := by
 have hv : (dceF o f).vars = f.vars := rfl
 have hpar : (dceF o f).params = f.params := rfl
 have hx : knownP u' (dceF o f) n x := by
  unfold knownP at h ⊢
  simp only [varP_eq hv, hpar, hp]
  split at h
  ·rename_i h1; rw [if_pos h1]; trivial
  rename_i h1; rw [if_neg h1]
  split at h
  ·rename_i h2; rw [if_pos h2]; exact h
  rename_i h2; rw [if_neg h2]
  split at h
  ·rename_i h3; rw [if_pos h3]; exact h
  rename_i h3; rw [if_neg h3]
  split at h
  ·rename_i h4; rw [if_pos h4]; exact h
  rename_i h4; rw [if_neg h4]
  split at h
  ·rename_i h5; rw [if_pos h5]; exact h
  rename_i h5; rw [if_neg h5]
  split at h
  ·rename_i h6; rw [if_pos h6]; exact h
  rename_i h6; rw [if_neg h6]
  split at h
  ·rename_i h7
   rw [if_pos h7]
   obtain ⟨k1, g, k2, k3⟩ := h
   obtain ⟨g', k4, k5⟩ := hl _ _ k2
   exact ⟨k1, g', k4, by rw [k5]; exact k3⟩
  rename_i h7; rw [if_neg h7]
  exact h
 rcases hy with rfl | ⟨h46, _, rfl⟩
 ·exact hx
 ·unfold knownP at hx ⊢
  simp only [h46] at hx ⊢
  exact hx
theorem funP_dce {u u' : TUnit} {f : TFunc} {n : Int} {o : List Bool} (hl : ∀ (i : Nat) g, u.funcs[i]? = some g -> ∃ g', u'.funcs[i]? = some g' /\ g'.params = g.params) (hpt : u'.points = u.points) (hp : FunP u n f) : FunP u' n (dceF o f) := by
 have hat : ∀ (i : Nat) (b : TBlock), (dceF o f).blocks[i]? = some b -> ∃ b0, f.blocks[i]? = some b0 /\ b = dceB o b0 := fun i b h => by
  unfold dceF at h
  simp only [List.getElem?_map, Option.map_eq_some_iff] at h
  obtain ⟨b0, h1, h2⟩ := h
  exact ⟨b0, h1, h2.symm⟩
 have hbl : (dceF o f).blocks.length = f.blocks.length := by simp [dceF]
 refine ⟨?_, fun i b hb => ?_, Nat.le_trans (insSum_dce o f) hp.many, fun i b hb k x hx => ?_⟩
 ·have := hp.head
  rw [hbl]
  exact this
 ·obtain ⟨b0, h1, rfl⟩ := hat i b hb
  have := hp.term i b0 h1
  exact ⟨fun d hd => by rw [hbl]; exact this.next d hd, this.kind⟩
 ·obtain ⟨b0, h1, rfl⟩ := hat i b hb
  obtain ⟨q, y, h2, h3, h4⟩ := fm_at hx
  have hy := dceI_some h3
  have hI := hp.ins i b0 h1 q y h2
  have hop : x.op = y.op := by rcases hy with rfl | ⟨_, _, rfl⟩ <;> rfl
  have hargs : x.args = y.args := by rcases hy with rfl | ⟨_, _, rfl⟩ <;> rfl
  have hmk : makesF x = makesF y := by
   rcases hy with rfl | ⟨h46, _, rfl⟩
   ·rfl
   ·unfold makesF
    simp only [h46]
  refine ⟨known_dce hl hpt hy hI.known, fun h47 => ?_, ?_, fun d hd => ?_⟩
  ·obtain ⟨k1, k2, w, k3, k4⟩ := hI.phi (by rw [<- hop]; exact h47)
   refine ⟨fun j z hj hz => ?_, k2, w, by rw [ways_dce]; exact k3, by rw [hargs]; exact k4⟩
   obtain ⟨q', x', l1, l2, l3⟩ := h4 j z hj hz
   have := k1 q' x' l1 l2
   rcases dceI_some l3 with rfl | ⟨_, _, rfl⟩ <;> exact this
  ·rw [hmk]
   refine ⟨hI.makes.1, hI.makes.2.1, fun h => ?_⟩
   rcases hI.makes.2.2 h with h | h
   ·exact .inl (by rw [hop]; exact h)
   ·exact .inr (by unfold makesB at h ⊢; rw [hop]; exact h)
  ·rcases hy with rfl | ⟨h46, _, rfl⟩
   ·exact hI.uses d hd
   ·unfold usesF at hd
    simp only [h46] at hd
    simp at hd
theorem mayP_dce {u : TUnit} {l : List TFunc} (hm : MayP u) (h : DceL u.funcs l) : MayP { u with funcs := l } := by
 have hl : ∀ (i : Nat) g, u.funcs[i]? = some g -> ∃ g', l[i]? = some g' /\ g'.params = g.params := fun i g hg => by
  obtain ⟨o, h1, _⟩ := h.to i g hg
  exact ⟨_, h1, rfl⟩
 refine ⟨⟨hm.main.1, ?_⟩, by simp only; rw [h.len]; exact hm.few, fun i p hp => ?_, fun i g hg k v hv => ?_, fun i g hg => ?_⟩
 ·obtain ⟨f, h1, h2⟩ := hm.main.2
  obtain ⟨g', h3, h4⟩ := hl _ _ h1
  exact ⟨g', h3, h4.trans h2⟩
 ·obtain ⟨h1, f, h2, h3⟩ := hm.points i p hp
  obtain ⟨o, h4, _⟩ := h.to _ _ h2
  exact ⟨h1, _, h4, h3⟩
 ·obtain ⟨f, o, h1, rfl, _⟩ := h.at i g hg
  exact hm.vars i f h1 k v hv
 ·obtain ⟨f, o, h1, rfl, _⟩ := h.at i g hg
  exact funP_dce (u := u) hl rfl (hm.funcs i f h1)
end Go.Ab.Ytkmmpbmmmbebgaa
