/- What is needed of a function: just what something looks at that is there, and what is there anyway. -/
import Derived.Test.YtkmmpbmmmbebgaaNeed
set_option linter.all false
namespace Go.Ab.Ytkmmpbmmmbebgaa
/-- What is to be looked at is marked. -/
def WM (s : List Bool × List Int) : Prop := ∀ v, v ∈ s.2 -> s.1[v.toNat]? = some true
theorem needF_wm {n m : Nat} {l : List Int} {s : List Bool × List Int} (hg : GoodS n m s) (hl : ∀ v, v ∈ l -> v < n) (h : WM s) : WM (needF l s) := by
 induction l generalizing s with
 | nil => exact h
 | cons v l ih =>
   rw [needF]
   have hv := hl v List.mem_cons_self
   by_cases hc : 0 <= v /\ s.1.getD v.toNat true = false
   ·rw [if_pos hc]
    have hg' : GoodS n m (s.1.set v.toNat true, s.2 ++ [v]) := by
     have := needF_good [v] s hg (by intro u hu; simp at hu; subst hu; exact hv)
     rw [needF, if_pos hc, needF] at this
     exact this
    have hj : v.toNat < s.1.length := by rw [hg.len]; omega
    refine ih hg' (fun u hu => hl u (List.mem_cons_of_mem _ hu)) fun u hu => ?_
    simp only at hu ⊢
    by_cases huv : v.toNat = u.toNat
    ·rw [<- huv, List.getElem?_set_self hj]
    ·rw [List.getElem?_set_ne huv]
     rcases List.mem_append.1 hu with hu | hu
     ·exact h u hu
     ·simp at hu; subst hu; exact absurd rfl huv
   ·rw [if_neg hc]
    exact ih hg (fun u hu => hl u (List.mem_cons_of_mem _ hu)) h
theorem ins_wm {n m : Nat} {t : NS} {x : TIns} (hg : GoodN n m t) (hx : insOK n x) (h : WM t.2) : WM (insStep t x).2 := by
 unfold insStep
 split
 ·exact h
 split
 ·exact h
 ·exact needF_wm hg.s hx.2 h
theorem fold_wm {n : Nat} : ∀ (l : List TIns) (m : Nat) (t : NS), GoodN n m t -> (∀ x, x ∈ l -> insOK n x) -> WM t.2 -> WM (l.foldl insStep t).2
 | [], _, _, _, _, h => h
 | x :: l, m, t, hg, hx, h => fold_wm l _ _ (insStep_good hg (hx x List.mem_cons_self)) (fun y hy => hx y (List.mem_cons_of_mem _ hy)) (ins_wm hg (hx x List.mem_cons_self) h)
theorem block_wm {n m : Nat} {t : NS} {b : TBlock} (hg : GoodN n m t) (hb : blockOK n b) (h : WM t.2) : WM (blockStep t b).2 := by
 have h1 := fold_wm b.ins m t hg hb.1 h
 unfold blockStep
 split
 ·exact h1
 ·rename_i hk
  exact needF_wm (foldIns_good b.ins m t hg hb.1).s (fun v hv => by simp at hv; subst hv; exact hb.2 hk) h1
theorem blocks_wm {n : Nat} : ∀ (l : List TBlock) (m : Nat) (t : NS), GoodN n m t -> (∀ b, b ∈ l -> blockOK n b) -> WM t.2 -> WM (l.foldl blockStep t).2
 | [], _, _, _, _, h => h
 | x :: l, m, t, hg, hx, h => blocks_wm l _ _ (blockStep_good hg (hx x List.mem_cons_self)) (fun y hy => hx y (List.mem_cons_of_mem _ hy)) (block_wm hg (hx x List.mem_cons_self) h)
/-- What the last part comes to. -/
theorem pops_spec {n m0 : Nat} {ms : List (List Int)} (hM : GoodM n m0 ms) {Cl : Nat -> Prop} (hcl : ∀ (j : Nat) u (k : Nat), Cl j -> u ∈ ms.getD j [] -> u = (k : Int) -> Cl k) {s : List Bool × List Int} {o' : List Bool} (h : Pops ms s o') :
  ∀ k, GoodS n k s -> WM s -> (∀ j : Nat, s.1[j]? = some true -> (j : Int) ∈ s.2 \/ ∀ u, u ∈ ms.getD j [] -> ∀ k : Nat, u = (k : Int) -> s.1[k]? = some true) -> (∀ j : Nat, s.1[j]? = some true -> Cl j) ->
   (∀ j : Nat, s.1[j]? = some true -> o'[j]? = some true) /\ (∀ j : Nat, o'[j]? = some true -> ∀ u, u ∈ ms.getD j [] -> ∀ k : Nat, u = (k : Int) -> o'[k]? = some true) /\ ∀ j : Nat, o'[j]? = some true -> Cl j := by
 induction h with
 | done =>
   intro k _ _ hi hc
   exact ⟨fun j h => h, fun j hj => (hi j hj).elim (fun h => by cases h) id, hc⟩
 | step hp ih =>
   rename_i o w v o'
   intro k hg hw hi hc
   have hv := hg.work v (by simp)
   have hmu := hg.mu
   simp only [List.length_append, List.length_cons, List.length_nil] at hmu
   have hg' : GoodS n (k - 1) (o, w) := ⟨hg.len, fun u hu => hg.work u (by simp [hu]), by simp only; omega⟩
   have hl : ∀ u, u ∈ ms.getD v.toNat [] -> u < n := by
    intro u hu
    rcases getD_mem (ms := ms) (j := v.toNat) with h0 | h0
    ·rw [h0] at hu; cases hu
    ·exact (hM.2 _ h0).2 u hu
   obtain ⟨k1, k2, k3⟩ := needF_spec _ _ hg' hl
   have hvm : o[v.toNat]? = some true := hw v (by simp)
   have hr := ih (k - 1) (needF_good _ _ hg' hl) (needF_wm hg' hl fun u hu => hw u (by simp [hu])) (fun j hj => ?_) (fun j hj => ?_)
   ·exact ⟨fun j hj => hr.1 j ((k1 j).2 (.inl hj)), hr.2.1, hr.2.2⟩
   ·rcases k3 j hj with h1 | h1
    ·rcases hi j h1 with h2 | h2
     ·simp only [List.mem_append, List.mem_singleton] at h2
      rcases h2 with h2 | h2
      ·exact .inl (k2 _ h2)
      ·have e : v.toNat = j := by omega
       rw [e] at k1
       refine .inr fun u hu q hq => ?_
       subst hq
       have := hl _ (by rw [e]; exact hu)
       rw [e]
       exact (k1 q).2 (.inr ⟨by omega, hu⟩)
     ·exact .inr fun u hu q hq => (k1 q).2 (.inl (h2 u hu q hq))
    ·exact .inl h1
   ·rcases (k1 j).1 hj with h1 | ⟨_, h1⟩
    ·exact hc j h1
    ·exact hcl v.toNat j j (hc _ hvm) h1 rfl
theorem told_zero (n : Nat) : Told n (List.replicate n [], (List.replicate n false, [])) (fun _ _ => False) fun _ => False :=
 ⟨fun j u hj => by rw [List.getD_eq_getElem?_getD, List.getElem?_replicate, if_pos hj]; simp, fun j => by rw [List.getElem?_replicate]; simp, fun j hj => by rw [List.getElem?_replicate] at hj; simp at hj⟩
theorem keep_step {n : Nat} {o : List Bool} {x : TIns} (ho : o.length = n) (j : Nat) : (keepStep n o x)[j]? = some true ↔ o[j]? = some true \/ (j < n /\ ¬ hasF x /\ x.op ≠ 46 /\ stayF x /\ x.dst = j) := by
 unfold keepStep
 by_cases hc : ¬ hasF x /\ x.op ≠ 46 /\ 0 <= x.dst /\ x.dst < (n : Int) /\ stayF x
 ·rw [if_pos hc]
  obtain ⟨h1, h2, h3, h4, h5⟩ := hc
  by_cases hj : x.dst.toNat = j
  ·subst hj
   rw [List.getElem?_set_self (by omega)]
   exact ⟨fun _ => .inr ⟨by omega, h1, h2, h5, by omega⟩, fun _ => rfl⟩
  ·rw [List.getElem?_set_ne hj]
   exact ⟨.inl, fun h => h.elim id fun h6 => absurd (by omega) hj⟩
 ·rw [if_neg hc]
  exact ⟨.inl, fun h => h.elim id fun h6 => absurd ⟨h6.2.1, h6.2.2.1, by omega, by omega, h6.2.2.2.1⟩ hc⟩
theorem keep_fold {n : Nat} : ∀ (l : List TIns) (o : List Bool), o.length = n -> ∀ j : Nat, (l.foldl (keepStep n) o)[j]? = some true ↔ o[j]? = some true \/ (j < n /\ ∃ x, x ∈ l /\ ¬ hasF x /\ x.op ≠ 46 /\ stayF x /\ x.dst = j)
 | [], o, _, j => by simp
 | x :: l, o, ho, j => by
   rw [List.foldl_cons, keep_fold l _ (by rw [keepStep_len]; exact ho) j, keep_step ho j]
   constructor
   ·rintro ((h | ⟨h1, h2⟩) | ⟨h1, y, h2, h3⟩)
    ·exact .inl h
    ·exact .inr ⟨h1, x, List.mem_cons_self, h2⟩
    ·exact .inr ⟨h1, y, List.mem_cons_of_mem _ h2, h3⟩
   ·rintro (h | ⟨h1, y, h2, h3⟩)
    ·exact .inl (.inl h)
    ·rcases List.mem_cons.1 h2 with rfl | h2
     ·exact .inl (.inr ⟨h1, h3⟩)
     ·exact .inr ⟨h1, y, h2, h3⟩
theorem keep_blocks {n : Nat} : ∀ (l : List TBlock) (o : List Bool), o.length = n -> ∀ j : Nat, (l.foldl (keepBlock n) o)[j]? = some true ↔ o[j]? = some true \/ (j < n /\ ∃ b, b ∈ l /\ ∃ x, x ∈ b.ins /\ ¬ hasF x /\ x.op ≠ 46 /\ stayF x /\ x.dst = j)
 | [], o, _, j => by simp
 | b :: l, o, ho, j => by
   rw [List.foldl_cons, keep_blocks l _ (by unfold keepBlock; rw [keepBlock_len]; exact ho) j]
   unfold keepBlock
   rw [keep_fold b.ins o ho j]
   constructor
   ·rintro ((h | ⟨h1, h2⟩) | ⟨h1, y, h2, h3⟩)
    ·exact .inl h
    ·exact .inr ⟨h1, b, List.mem_cons_self, h2⟩
    ·exact .inr ⟨h1, y, List.mem_cons_of_mem _ h2, h3⟩
   ·rintro (h | ⟨h1, y, h2, h3⟩)
    ·exact .inl (.inl h)
    ·rcases List.mem_cons.1 h2 with rfl | h2
     ·exact .inl (.inr ⟨h1, h3⟩)
     ·exact .inr ⟨h1, y, h2, h3⟩
/-- WHAT IS NEEDED. -/
theorem needed_iff {f : TFunc} {o : List Bool} (hd : DceOK f) (h : Needed f o) (j : Nat) (hj : (j : Int) < f.size) : o[j]? = some true ↔ NeedP f j \/ StayP f j := by
 obtain ⟨o1, h1, rfl⟩ := h
 obtain ⟨n, hn⟩ : ∃ n : Nat, f.size = n := ⟨f.size.toNat, by have := hd.size.1; omega⟩
 have hbo : ∀ b, b ∈ f.blocks -> blockOK n b := fun b hb => ⟨fun x hx => by have := hd.ins b hb x hx; unfold insOK; rw [<- hn]; exact this, fun hk => by rw [<- hn]; exact hd.term b hb hk⟩
 have hph : phase f f.blocks = f.blocks.foldl blockStep (List.replicate n [], (List.replicate n false, [])) := by
  unfold phase
  rw [hn]
  rfl
 have hT := told_blocks f.blocks 0 _ _ _ (told_zero n) (goodN_zero n) hbo
 have hG := foldB_good f.blocks 0 _ (goodN_zero n) hbo
 have hW := blocks_wm f.blocks 0 _ (goodN_zero n) hbo (fun v hv => by cases hv)
 rw [hph] at h1
 generalize f.blocks.foldl blockStep (List.replicate n [], (List.replicate n false, [])) = t at *
 have hms : ∀ (j : Nat) u, j < n -> (u ∈ t.1.getD j [] ↔ ∃ b, b ∈ f.blocks /\ MOfB b j u) := fun j u hj => (hT.ms j u hj).trans ⟨fun h => h.elim (fun h => h.elim) id, .inr⟩
 have hlt : ∀ (j : Nat) u, u ∈ t.1.getD j [] -> j < n := fun j u hu => by
  rw [<- hG.ms.1]
  by_cases hjl : j < t.1.length
  ·exact hjl
  ·rw [List.getD_eq_getElem?_getD, List.getElem?_eq_none (by omega)] at hu
   cases hu
 have hP := pops_spec hG.ms (Cl := fun j => NeedP f j) (fun j u k hc hu hk => by
  obtain ⟨b, hb, x, hx, hh, hdx, hux⟩ := (hms j u (hlt j u hu)).1 hu
  subst hk
  exact .step ⟨b, hb, hx⟩ hh (by rw [hdx]; exact hc) hux (by omega)) h1 n hG.s hW (fun j hj => .inl (hT.w j hj)) (fun j hj => by
  obtain ⟨_, h2 | ⟨b, hb, h2⟩⟩ := (hT.o j).1 hj
  ·exact h2.elim
  ·rcases h2 with ⟨x, hx, hh, h46, hl⟩ | ⟨hk, ha⟩
   ·exact .root ⟨b, hb, hx⟩ hh h46 hl (by omega)
   ·rw [ha]; exact .term hb hk (by omega))
 have hlen : o1.length = n := by
  have key : ∀ (ms : List (List Int)) (s : List Bool × List Int) (o1 : List Bool), Pops ms s o1 -> o1.length = s.1.length := by
   intro ms s o1 h
   induction h with
   | done => rfl
   | step _ ih => rw [ih, needF_len]
  rw [key _ _ _ h1]
  exact hG.s.len
 have hback : ∀ v, NeedP f v -> ∀ q : Nat, v = (q : Int) -> o1[q]? = some true := by
  intro v hv
  induction hv with
  | root hx hh h46 hl h0 =>
    rename_i x v
    intro q hq
    subst hq
    obtain ⟨b, hb, hxb⟩ := hx
    have hlq := (hd.ins b hb x hxb).2 _ hl
    exact hP.1 q ((hT.o q).2 ⟨by omega, .inr ⟨b, hb, .inl ⟨x, hxb, hh, h46, hl⟩⟩⟩)
  | term hb hk h0 =>
    rename_i b
    intro q hq
    have := hd.term b hb hk
    exact hP.1 q ((hT.o q).2 ⟨by omega, .inr ⟨b, hb, .inr ⟨hk, hq.symm⟩⟩⟩)
  | step hx hh hn' hl h0 ih =>
    rename_i x v
    intro q hq
    subst hq
    obtain ⟨b, hb, hxb⟩ := hx
    have hdx := (hd.ins b hb x hxb).1 hh
    obtain ⟨d, hd'⟩ : ∃ d : Nat, x.dst = d := ⟨x.dst.toNat, by omega⟩
    exact hP.2.1 d (ih d hd') _ ((hms d _ (by omega)).2 ⟨b, hb, x, hxb, hh, hd', hl⟩) q rfl
 rw [hn, keep_blocks f.blocks o1 hlen j]
 constructor
 ·rintro (h2 | ⟨_, b, hb, x, hx, h3, h4, h5, h6⟩)
  ·exact .inl (hP.2.2 j h2)
  ·exact .inr ⟨x, ⟨b, hb, hx⟩, h3, h4, h5, h6⟩
 ·rintro (h2 | ⟨x, ⟨b, hb, hx⟩, h3, h4, h5, h6⟩)
  ·exact .inl (hback _ h2 j rfl)
  ·exact .inr ⟨by omega, b, hb, x, hx, h3, h4, h5, h6⟩
end Go.Ab.Ytkmmpbmmmbebgaa
