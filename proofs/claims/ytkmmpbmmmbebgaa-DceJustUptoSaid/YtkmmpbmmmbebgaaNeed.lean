/- What is needed of a function, told plainly. -/
import Derived.Test.YtkmmpbmmmbebgaaPlain
set_option linter.all false
namespace Go.Ab.Ytkmmpbmmmbebgaa
/-- An instruction of a function. -/
def InF (f : TFunc) (x : TIns) : Prop := ∃ b, b ∈ f.blocks /\ x ∈ b.ins
inductive NeedP (f : TFunc) : Int -> Prop
 | root {x v} : InF f x -> ¬ hasF x -> x.op ≠ 46 -> v ∈ looksF x -> 0 <= v -> NeedP f v
 | term {b} : b ∈ f.blocks -> b.term.kind ≠ 1 -> 0 <= b.term.a -> NeedP f b.term.a
 | step {x v} : InF f x -> hasF x -> NeedP f x.dst -> v ∈ looksF x -> 0 <= v -> NeedP f v
def StayP (f : TFunc) (v : Int) : Prop := ∃ x, InF f x /\ ¬ hasF x /\ x.op ≠ 46 /\ stayF x /\ x.dst = v
theorem getD_true {o : List Bool} {j : Nat} (h : j < o.length) : o.getD j true = false ↔ o[j]? ≠ some true := by
 rw [List.getD_eq_getElem?_getD, List.getElem?_eq_getElem h]
 cases o[j] <;> simp
/-- What a look does. -/
theorem needF_spec {n m : Nat} : ∀ (l : List Int) (s : List Bool × List Int), GoodS n m s -> (∀ v, v ∈ l -> v < n) ->
  (∀ j : Nat, (needF l s).1[j]? = some true ↔ s.1[j]? = some true \/ (j < n /\ (j : Int) ∈ l)) /\ (∀ v, v ∈ s.2 -> v ∈ (needF l s).2) /\ ∀ j : Nat, (needF l s).1[j]? = some true -> s.1[j]? = some true \/ (j : Int) ∈ (needF l s).2
 | [], s, h, _ => ⟨fun j => by simp [needF], fun v hv => hv, fun j hj => .inl hj⟩
 | v :: l, s, h, hl => by
   have hv := hl v List.mem_cons_self
   have hl' := fun u hu => hl u (List.mem_cons_of_mem v hu)
   rw [needF]
   by_cases hc : 0 <= v /\ s.1.getD v.toNat true = false
   ·rw [if_pos hc]
    have hj : v.toNat < s.1.length := by rw [h.len]; omega
    have hg : GoodS n m (s.1.set v.toNat true, s.2 ++ [v]) := by
     have := needF_good [v] s h (by intro u hu; simp at hu; subst hu; exact hv)
     rw [needF, if_pos hc, needF] at this
     exact this
    obtain ⟨k1, k2, k3⟩ := needF_spec l _ hg hl'
    have hset : ∀ j : Nat, (s.1.set v.toNat true)[j]? = some true ↔ s.1[j]? = some true \/ (j : Int) = v := fun j => by
     by_cases hjv : v.toNat = j
     ·subst hjv
      rw [List.getElem?_set_self hj]
      exact ⟨fun _ => .inr (by omega), fun _ => rfl⟩
     ·rw [List.getElem?_set_ne hjv]
      exact ⟨.inl, fun h => h.elim id fun e => absurd (by omega) hjv⟩
    refine ⟨fun j => ?_, fun u hu => k2 u (by simp [hu]), fun j hj' => ?_⟩
    ·rw [k1 j, hset j]
     constructor
     ·rintro ((h1 | h1) | ⟨h1, h2⟩)
      ·exact .inl h1
      ·exact .inr ⟨by omega, by simp [h1]⟩
      ·exact .inr ⟨h1, List.mem_cons_of_mem _ h2⟩
     ·rintro (h1 | ⟨h1, h2⟩)
      ·exact .inl (.inl h1)
      ·rcases List.mem_cons.1 h2 with h2 | h2
       ·exact .inl (.inr h2)
       ·exact .inr ⟨h1, h2⟩
    ·rcases k3 j hj' with h1 | h1
     ·rcases (hset j).1 h1 with h2 | h2
      ·exact .inl h2
      ·exact .inr (k2 _ (by simp [h2]))
     ·exact .inr h1
   ·rw [if_neg hc]
    obtain ⟨k1, k2, k3⟩ := needF_spec l s h hl'
    refine ⟨fun j => ?_, k2, k3⟩
    rw [k1 j]
    constructor
    ·rintro (h1 | ⟨h1, h2⟩)
     ·exact .inl h1
     ·exact .inr ⟨h1, List.mem_cons_of_mem _ h2⟩
    ·rintro (h1 | ⟨h1, h2⟩)
     ·exact .inl h1
     ·rcases List.mem_cons.1 h2 with h2 | h2
      ·subst h2
       have hj : j < s.1.length := by rw [h.len]; exact h1
       have : ¬ s.1.getD j true = false := fun hh => hc ⟨by omega, hh⟩
       rw [getD_true hj] at this
       exact .inl (Classical.not_not.1 this)
      ·exact .inr ⟨h1, h2⟩
/-! ### the first way through -/
/-- What is told so far: who needs whom, what is needed; all that is needed is to be looked at. -/
structure Told (n : Nat) (t : NS) (M : Nat -> Int -> Prop) (R : Nat -> Prop) : Prop where
 ms : ∀ (j : Nat) u, j < n -> (u ∈ t.1.getD j [] ↔ M j u)
 o : ∀ j : Nat, t.2.1[j]? = some true ↔ j < n /\ R j
 w : ∀ j : Nat, t.2.1[j]? = some true -> (j : Int) ∈ t.2.2
theorem told_need {n m : Nat} {t : NS} {M : Nat -> Int -> Prop} {R : Nat -> Prop} (h : Told n t M R) (hg : GoodS n m t.2) {l : List Int} (hl : ∀ v, v ∈ l -> v < n) : Told n (t.1, needF l t.2) M fun j => R j \/ (j : Int) ∈ l := by
 obtain ⟨k1, k2, k3⟩ := needF_spec l t.2 hg hl
 refine ⟨h.ms, fun j => ?_, fun j hj => ?_⟩
 ·simp only
  rw [k1 j, h.o j]
  constructor
  ·rintro (⟨h1, h2⟩ | ⟨h1, h2⟩)
   ·exact ⟨h1, .inl h2⟩
   ·exact ⟨h1, .inr h2⟩
  ·rintro ⟨h1, h2 | h2⟩
   ·exact .inl ⟨h1, h2⟩
   ·exact .inr ⟨h1, h2⟩
 ·rcases k3 j hj with h1 | h1
  ·exact k2 _ (h.w j h1)
  ·exact h1
theorem told_ins {n m : Nat} {t : NS} {M : Nat -> Int -> Prop} {R : Nat -> Prop} {x : TIns} (h : Told n t M R) (hg : GoodN n m t) (hx : insOK n x) :
  Told n (insStep t x) (fun j u => M j u \/ (hasF x /\ x.dst = j /\ u ∈ looksF x)) fun j => R j \/ (¬ hasF x /\ x.op ≠ 46 /\ (j : Int) ∈ looksF x) := by
 unfold insStep
 by_cases hh : hasF x
 ·rw [if_pos hh]
  have hd := hx.1 hh
  refine ⟨fun j u hj => ?_, fun j => ?_, h.w⟩
  ·simp only
   rw [List.getD_eq_getElem?_getD]
   by_cases hjd : x.dst.toNat = j
   ·subst hjd
    have hlt : x.dst.toNat < t.1.length := by rw [hg.ms.1]; exact hj
    rw [List.getElem?_set_self hlt]
    simp only [Option.getD_some, List.mem_append]
    rw [h.ms _ u hj]
    exact or_congr Iff.rfl ⟨fun h1 => ⟨hh, by omega, h1⟩, fun h1 => h1.2.2⟩
   ·rw [List.getElem?_set_ne hjd, <- List.getD_eq_getElem?_getD, h.ms j u hj]
    exact ⟨.inl, fun h1 => h1.elim id fun h2 => absurd (by omega) hjd⟩
  ·simp only
   rw [h.o j]
   exact and_congr Iff.rfl ⟨.inl, fun h1 => h1.elim id fun h2 => absurd hh h2.1⟩
 ·rw [if_neg hh]
  by_cases h46 : x.op = 46
  ·rw [if_pos h46]
   refine ⟨fun j u hj => (h.ms j u hj).trans ⟨.inl, fun h1 => h1.elim id fun h2 => absurd h2.1 hh⟩, fun j => (h.o j).trans (and_congr Iff.rfl ⟨.inl, fun h1 => h1.elim id fun h2 => absurd h46 h2.2.1⟩), h.w⟩
  ·rw [if_neg h46]
   have := told_need h hg.s (l := looksF x) hx.2
   refine ⟨fun j u hj => (this.ms j u hj).trans ⟨.inl, fun h1 => h1.elim id fun h2 => absurd h2.1 hh⟩, fun j => (this.o j).trans (and_congr Iff.rfl (or_congr Iff.rfl ⟨fun h1 => ⟨hh, h46, h1⟩, fun h1 => h1.2.2⟩)), this.w⟩
theorem told_congr {n : Nat} {t : NS} {M M' : Nat -> Int -> Prop} {R R' : Nat -> Prop} (h : Told n t M R) (hM : ∀ j u, M j u ↔ M' j u) (hR : ∀ j, R j ↔ R' j) : Told n t M' R' :=
 ⟨fun j u hj => (h.ms j u hj).trans (hM j u), fun j => (h.o j).trans (and_congr Iff.rfl (hR j)), h.w⟩
def MOf (x : TIns) (j : Nat) (u : Int) : Prop := hasF x /\ x.dst = j /\ u ∈ looksF x
def ROf (x : TIns) (j : Nat) : Prop := ¬ hasF x /\ x.op ≠ 46 /\ (j : Int) ∈ looksF x
theorem told_fold {n : Nat} : ∀ (l : List TIns) (m : Nat) (t : NS) (M : Nat -> Int -> Prop) (R : Nat -> Prop), Told n t M R -> GoodN n m t -> (∀ x, x ∈ l -> insOK n x) ->
  Told n (l.foldl insStep t) (fun j u => M j u \/ ∃ x, x ∈ l /\ MOf x j u) fun j => R j \/ ∃ x, x ∈ l /\ ROf x j
 | [], m, t, M, R, h, _, _ => told_congr h (fun j u => by simp) fun j => by simp
 | x :: l, m, t, M, R, h, hg, hx => by
   have h1 := told_ins h hg (hx x List.mem_cons_self)
   have h2 := told_fold l _ _ _ _ h1 (insStep_good hg (hx x List.mem_cons_self)) fun y hy => hx y (List.mem_cons_of_mem _ hy)
   refine told_congr h2 (fun j u => ?_) fun j => ?_
   ·constructor
    ·rintro ((h3 | h3) | ⟨y, h3, h4⟩)
     ·exact .inl h3
     ·exact .inr ⟨x, List.mem_cons_self, h3⟩
     ·exact .inr ⟨y, List.mem_cons_of_mem _ h3, h4⟩
    ·rintro (h3 | ⟨y, h3, h4⟩)
     ·exact .inl (.inl h3)
     ·rcases List.mem_cons.1 h3 with rfl | h3
      ·exact .inl (.inr h4)
      ·exact .inr ⟨y, h3, h4⟩
   ·constructor
    ·rintro ((h3 | h3) | ⟨y, h3, h4⟩)
     ·exact .inl h3
     ·exact .inr ⟨x, List.mem_cons_self, h3⟩
     ·exact .inr ⟨y, List.mem_cons_of_mem _ h3, h4⟩
    ·rintro (h3 | ⟨y, h3, h4⟩)
     ·exact .inl (.inl h3)
     ·rcases List.mem_cons.1 h3 with rfl | h3
      ·exact .inl (.inr h4)
      ·exact .inr ⟨y, h3, h4⟩
def MOfB (b : TBlock) (j : Nat) (u : Int) : Prop := ∃ x, x ∈ b.ins /\ MOf x j u
def ROfB (b : TBlock) (j : Nat) : Prop := (∃ x, x ∈ b.ins /\ ROf x j) \/ (b.term.kind ≠ 1 /\ (j : Int) = b.term.a)
theorem told_block {n m : Nat} {t : NS} {M : Nat -> Int -> Prop} {R : Nat -> Prop} {b : TBlock} (h : Told n t M R) (hg : GoodN n m t) (hb : blockOK n b) :
  Told n (blockStep t b) (fun j u => M j u \/ MOfB b j u) fun j => R j \/ ROfB b j := by
 have h1 := told_fold b.ins m t M R h hg hb.1
 have hg1 := foldIns_good b.ins m t hg hb.1
 unfold blockStep
 by_cases hk : b.term.kind = 1
 ·rw [if_pos hk]
  exact told_congr h1 (fun j u => Iff.rfl) fun j => or_congr Iff.rfl ⟨.inl, fun h2 => h2.elim id fun h3 => absurd hk h3.1⟩
 ·rw [if_neg hk]
  have h2 := told_need h1 hg1.s (l := [b.term.a]) fun v hv => by simp at hv; subst hv; exact hb.2 hk
  refine told_congr h2 (fun j u => Iff.rfl) fun j => ?_
  unfold ROfB
  simp only [List.mem_singleton]
  constructor
  ·rintro ((h3 | h3) | h3)
   ·exact .inl h3
   ·exact .inr (.inl h3)
   ·exact .inr (.inr ⟨hk, h3⟩)
  ·rintro (h3 | h3 | h3)
   ·exact .inl (.inl h3)
   ·exact .inl (.inr h3)
   ·exact .inr h3.2
theorem told_blocks {n : Nat} : ∀ (l : List TBlock) (m : Nat) (t : NS) (M : Nat -> Int -> Prop) (R : Nat -> Prop), Told n t M R -> GoodN n m t -> (∀ b, b ∈ l -> blockOK n b) ->
  Told n (l.foldl blockStep t) (fun j u => M j u \/ ∃ b, b ∈ l /\ MOfB b j u) fun j => R j \/ ∃ b, b ∈ l /\ ROfB b j
 | [], m, t, M, R, h, _, _ => told_congr h (fun j u => by simp) fun j => by simp
 | x :: l, m, t, M, R, h, hg, hx => by
   have h1 := told_block h hg (hx x List.mem_cons_self)
   have h2 := told_blocks l _ _ _ _ h1 (blockStep_good hg (hx x List.mem_cons_self)) fun y hy => hx y (List.mem_cons_of_mem _ hy)
   refine told_congr h2 (fun j u => ?_) fun j => ?_
   ·constructor
    ·rintro ((h3 | h3) | ⟨y, h3, h4⟩)
     ·exact .inl h3
     ·exact .inr ⟨x, List.mem_cons_self, h3⟩
     ·exact .inr ⟨y, List.mem_cons_of_mem _ h3, h4⟩
    ·rintro (h3 | ⟨y, h3, h4⟩)
     ·exact .inl (.inl h3)
     ·rcases List.mem_cons.1 h3 with rfl | h3
      ·exact .inl (.inr h4)
      ·exact .inr ⟨y, h3, h4⟩
   ·constructor
    ·rintro ((h3 | h3) | ⟨y, h3, h4⟩)
     ·exact .inl h3
     ·exact .inr ⟨x, List.mem_cons_self, h3⟩
     ·exact .inr ⟨y, List.mem_cons_of_mem _ h3, h4⟩
    ·rintro (h3 | ⟨y, h3, h4⟩)
     ·exact .inl (.inl h3)
     ·rcases List.mem_cons.1 h3 with rfl | h3
      ·exact .inl (.inr h4)
      ·exact .inr ⟨y, h3, h4⟩
end Go.Ab.Ytkmmpbmmmbebgaa
