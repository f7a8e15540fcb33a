/- Dead instructions: what is needed. -/
import Derived.Test.YtkmmpbmmmbebgaaDce1
set_option linter.all false
namespace Go.Ab.Ytkmmpbmmmbebgaa
set_option maxRecDepth 100000
set_option maxHeartbeats 8000000
instance (x : TIns) : Decidable (hasF x) := inferInstanceAs (Decidable (¬ _))
instance (x : TIns) : Decidable (stayF x) := inferInstanceAs (Decidable (_ \/ _))
abbrev NS := List (List Int) × (List Bool × List Int)
def insStep (t : NS) (x : TIns) : NS :=
 if hasF x then (t.1.set x.dst.toNat (t.1.getD x.dst.toNat [] ++ looksF x), t.2) else if x.op = 46 then t else (t.1, needF (looksF x) t.2)
def blockStep (t : NS) (b : TBlock) : NS :=
 if b.term.kind = 1 then b.ins.foldl insStep t else ((b.ins.foldl insStep t).1, needF [b.term.a] (b.ins.foldl insStep t).2)
def phase (f : TFunc) (l : List TBlock) : NS := l.foldl blockStep (List.replicate f.size.toNat [], (List.replicate f.size.toNat false, []))
/-- What is to be looked at is taken, the last one first. -/
inductive Pops (ms : List (List Int)) : List Bool × List Int -> List Bool -> Prop
 | done {o} : Pops ms (o, []) o
 | step {o w v o'} : Pops ms (needF (ms.getD v.toNat []) (o, w)) o' -> Pops ms (o, w ++ [v]) o'
def keepStep (n : Int) (o : List Bool) (x : TIns) : List Bool := if ¬ hasF x /\ x.op ≠ 46 /\ 0 <= x.dst /\ x.dst < n /\ stayF x then o.set x.dst.toNat true else o
def keepBlock (n : Int) (o : List Bool) (b : TBlock) : List Bool := b.ins.foldl (keepStep n) o
/-- What is needed of a function. -/
def Needed (f : TFunc) (o : List Bool) : Prop := ∃ o1, Pops (phase f f.blocks).1 (phase f f.blocks).2 o1 /\ o = f.blocks.foldl (keepBlock f.size) o1
def insW (b : TBlock) : Nat := (b.ins.map fun x => x.args.length + 2).sum
def funcW (f : TFunc) : Nat := (f.blocks.map insW).sum
structure DceOK (f : TFunc) : Prop where
 size : 0 <= f.size /\ f.size <= 524288
 ins : ∀ b, b ∈ f.blocks -> ∀ x, x ∈ b.ins -> (hasF x -> 0 <= x.dst /\ x.dst < f.size) /\ ∀ v, v ∈ looksF x -> v < f.size
 term : ∀ b, b ∈ f.blocks -> b.term.kind ≠ 1 -> b.term.a < f.size
 w : funcW f <= 100000000
structure GoodS (n m : Nat) (s : List Bool × List Int) : Prop where
 len : s.1.length = n
 work : ∀ v, v ∈ s.2 -> 0 <= v /\ v < n
 mu : s.1.count false + s.2.length = m
theorem count_set_true {o : List Bool} {j : Nat} (h : o[j]? = some false) : (o.set j true).count false + 1 = o.count false := by
 induction o generalizing j with
 | nil => simp at h
 | cons a o ih =>
   cases j with
   | zero => simp at h; subst h; simp
   | succ j =>
     simp at h
     have := ih (j := j) (by simpa using h)
     simp only [List.set_cons_succ, List.count_cons]
     omega
theorem needF_good {n m : Nat} : ∀ (l : List Int) (s : List Bool × List Int), GoodS n m s -> (∀ v, v ∈ l -> v < n) -> GoodS n m (needF l s)
 | [], s, h, _ => h
 | v :: l, s, h, hl => by
   rw [needF]
   refine needF_good l _ ?_ fun v hv => hl v (List.mem_cons_of_mem _ hv)
   split
   ·rename_i hc
    obtain ⟨h0, h1⟩ := hc
    have hv := hl v List.mem_cons_self
    have hj : v.toNat < s.1.length := by rw [h.len]; omega
    have hs : s.1[v.toNat]? = some false := by
     rw [List.getD_eq_getElem?_getD, List.getElem?_eq_getElem hj] at h1
     rw [List.getElem?_eq_getElem hj]
     exact congrArg some h1
    refine ⟨by simpa using h.len, fun u hu => ?_, ?_⟩
    ·rcases List.mem_append.1 hu with hu | hu
     ·exact h.work u hu
     ·simp at hu; subst hu; exact ⟨h0, hv⟩
    ·have := count_set_true hs
     have := h.mu
     simp only [List.length_append, List.length_cons, List.length_nil]
     omega
   ·exact h
/-- What the makers look at. -/
def GoodM (n m : Nat) (ms : List (List Int)) : Prop := ms.length = n /\ ∀ l, l ∈ ms -> l.length <= m /\ ∀ v, v ∈ l -> v < n
theorem looks_len (x : TIns) : (looksF x).length <= x.args.length + 2 := by
 unfold looksF
 split
 ·simp
 split
 ·simp
 split
 ·omega
 ·simp
theorem getD_mem {ms : List (List Int)} {j : Nat} : ms.getD j [] = [] \/ ms.getD j [] ∈ ms := by
 rw [List.getD_eq_getElem?_getD]
 cases h : ms[j]? with
 | none => exact .inl rfl
 | some l => exact .inr (List.mem_of_getElem? h)
theorem goodM_set {n m k : Nat} {ms : List (List Int)} (h : GoodM n m ms) {j : Nat} {l : List Int} (hl : l.length <= k) (hv : ∀ v, v ∈ l -> v < n) : GoodM n (m + k) (ms.set j (ms.getD j [] ++ l)) := by
 refine ⟨by simpa using h.1, fun l' hl' => ?_⟩
 rcases List.mem_or_eq_of_mem_set hl' with h1 | rfl
 ·have := h.2 _ h1
  exact ⟨by omega, this.2⟩
 ·have hg : (ms.getD j []).length <= m /\ ∀ v, v ∈ ms.getD j [] -> v < n := by
   rcases getD_mem (ms := ms) (j := j) with h0 | h0
   ·rw [h0]; exact ⟨Nat.zero_le _, fun v hv => by cases hv⟩
   ·exact h.2 _ h0
  refine ⟨by rw [List.length_append]; omega, fun v hv' => ?_⟩
  rcases List.mem_append.1 hv' with h1 | h1
  ·exact hg.2 v h1
  ·exact hv v h1
theorem goodM_mono {n m m' : Nat} {ms : List (List Int)} (h : GoodM n m ms) (hm : m <= m') : GoodM n m' ms := ⟨h.1, fun l hl => ⟨Nat.le_trans (h.2 l hl).1 hm, (h.2 l hl).2⟩⟩
/-- All that is reckoned so far is in bounds. -/
structure GoodN (n m : Nat) (t : NS) : Prop where
 ms : GoodM n m t.1
 s : GoodS n n t.2
def insOK (n : Nat) (x : TIns) : Prop := (hasF x -> 0 <= x.dst /\ x.dst < n) /\ ∀ v, v ∈ looksF x -> v < n
theorem insStep_good {n m : Nat} {t : NS} {x : TIns} (h : GoodN n m t) (hx : insOK n x) : GoodN n (m + (x.args.length + 2)) (insStep t x) := by
 unfold insStep
 split
 ·exact ⟨goodM_set h.ms (looks_len x) hx.2, h.s⟩
 split
 ·exact ⟨goodM_mono h.ms (by omega), h.s⟩
 ·exact ⟨goodM_mono h.ms (by omega), needF_good _ _ h.s hx.2⟩
theorem foldIns_good {n : Nat} : ∀ (l : List TIns) (m : Nat) (t : NS), GoodN n m t -> (∀ x, x ∈ l -> insOK n x) -> GoodN n (m + (l.map fun x => x.args.length + 2).sum) (l.foldl insStep t)
 | [], m, t, h, _ => h
 | x :: l, m, t, h, hx => by
   have := foldIns_good l _ _ (insStep_good h (hx x List.mem_cons_self)) fun y hy => hx y (List.mem_cons_of_mem _ hy)
   rw [List.foldl_cons, List.map_cons, List.sum_cons, <- Nat.add_assoc]
   exact this
def blockOK (n : Nat) (b : TBlock) : Prop := (∀ x, x ∈ b.ins -> insOK n x) /\ (b.term.kind ≠ 1 -> b.term.a < n)
theorem blockStep_good {n m : Nat} {t : NS} {b : TBlock} (h : GoodN n m t) (hb : blockOK n b) : GoodN n (m + insW b) (blockStep t b) := by
 have h1 := foldIns_good b.ins m t h hb.1
 unfold blockStep
 split
 ·exact h1
 ·rename_i hk
  exact ⟨h1.ms, needF_good _ _ h1.s fun v hv => by simp at hv; subst hv; exact hb.2 hk⟩
theorem foldB_good {n : Nat} : ∀ (l : List TBlock) (m : Nat) (t : NS), GoodN n m t -> (∀ b, b ∈ l -> blockOK n b) -> GoodN n (m + (l.map insW).sum) (l.foldl blockStep t)
 | [], m, t, h, _ => h
 | b :: l, m, t, h, hb => by
   have := foldB_good l _ _ (blockStep_good h (hb b List.mem_cons_self)) fun y hy => hb y (List.mem_cons_of_mem _ hy)
   rw [List.foldl_cons, List.map_cons, List.sum_cons, <- Nat.add_assoc]
   exact this
theorem sum_take_le {α : Type} (g : α -> Nat) (l : List α) (i : Nat) : ((l.take i).map g).sum <= (l.map g).sum := by
 conv => rhs; rw [<- List.take_append_drop i l, List.map_append, List.sum_append]
 exact Nat.le_add_right _ _
theorem sum_mem_le {α : Type} (g : α -> Nat) {l : List α} {x : α} (h : x ∈ l) : g x <= (l.map g).sum := by
 induction l with
 | nil => cases h
 | cons a l ih =>
   rw [List.map_cons, List.sum_cons]
   rcases List.mem_cons.1 h with rfl | h
   ·omega
   ·have := ih h; omega
theorem goodN_zero (n : Nat) : GoodN n 0 (List.replicate n [], (List.replicate n false, [])) :=
 ⟨⟨by simp, fun l hl => by rw [(List.mem_replicate.1 hl).2]; simp⟩, ⟨by simp, fun v hv => (by cases hv), by simp⟩⟩
theorem keepStep_len (n : Int) (o : List Bool) (x : TIns) : (keepStep n o x).length = o.length := by
 unfold keepStep
 split
 ·simp
 ·rfl
theorem keepBlock_len (n : Int) : ∀ (l : List TIns) (o : List Bool), (l.foldl (keepStep n) o).length = o.length
 | [], o => rfl
 | x :: l, o => by rw [List.foldl_cons, keepBlock_len n l, keepStep_len]
theorem keep_len (n : Int) : ∀ (l : List TBlock) (o : List Bool), (l.foldl (keepBlock n) o).length = o.length
 | [], o => rfl
 | x :: l, o => by rw [List.foldl_cons, keep_len n l, keepBlock, keepBlock_len]
theorem foldl_take {α β : Type} {g : β -> α -> β} {t : β} {l : List α} {k : Nat} {x : α} (h : l[k]? = some x) : (l.take (k + 1)).foldl g t = g ((l.take k).foldl g t) x := by
 rw [take_snoc h, List.foldl_append]
 rfl
theorem intR_last {w : List Int} {v : Int} {r : List (List A)} (h : RowR IntR (w ++ [v]) r) : r.length = w.length + 1 /\ r[w.length]? = some [.v (.int .i64 v)] /\ RowR IntR w (r.take w.length) := by
 have hl := h.len
 rw [List.length_append] at hl
 obtain ⟨e, he, hv⟩ := h.at w.length (by simp)
 simp at hv
 refine ⟨by simpa using hl, by rw [he, hv], ?_⟩
 have : ∀ (w : List Int) (r : List (List A)), RowR IntR (w ++ [v]) r -> RowR IntR w (r.take w.length) := by
  intro w
  induction w with
  | nil => intro r _; exact .nil
  | cons a w ih =>
    intro r h
    cases h with
    | cons h1 h2 => exact .cons h1 (ih _ h2)
 exact this w r h
end Go.Ab.Ytkmmpbmmmbebgaa
