/- What is needed, as the statement tells it. -/
import Derived.Test.YtkmmpbmmmbebgaaNeed3
import Derived.Test.YtkmmpbmmmbebgaaM4
set_option linter.all false
namespace Go.Ab.Ytkmmpbmmmbebgaa
set_option maxRecDepth 100000
set_option maxHeartbeats 8000000
def rootP (x : TIns) : Prop := stayF x \/ (x.op ≠ 46 /\ makesF x < 0)
instance (x : TIns) : Decidable (rootP x) := inferInstanceAs (Decidable (_ \/ _))
theorem root_ok {x : TIns} {e : List A} (h : InsR x e) : WC E 19 [.agg e] [] fun r _ => IsB (rootP x) r := by
 have hc := makes_ok h
 obtain ⟨op, dst, a, b, var, num, args⟩ := x
 obtain ⟨_, rfl, ⟨nl, es, n, rfl, hn, hl, hI, _⟩⟩ := h
 have hr : ∀ mv, makesF ⟨op, dst, a, b, var, num, args⟩ = mv -> (rootP ⟨op, dst, a, b, var, num, args⟩ ↔ (op = 4 \/ op = 5 \/ op = 37 \/ op = 42 \/ op = 43) \/ (op ≠ 46 /\ mv < 0)) := fun mv h => by subst h; rfl
 generalize makesF ⟨op, dst, a, b, var, num, args⟩ = mv at *
 have hr := hr mv rfl
 refine WC.enter rfl rfl rfl ?_
 unfold b19 ki kb mw ft ll og ov oo
 repeat' (first | refine W.seq ?_ | refine W.easy (n := 200) (k := ?_) | refine W.block ?_ | refine W.skip ?_ | refine W.ret ?_ | refine Ret.ret (k := ?_) | (refine W.condL (h := ?_); change W _ _ _ _) | refine W.regS ?_ | refine WS.done ?_ | refine WS.pre (n := 200) (k := ?_) | (refine WS.guard (h := ?_); change WS _ _ _ _) | (refine WS.cmp (k1 := fun h => ?_) (k2 := fun h => ?_) <;> simp only [cmpP, oC, nTr, ne_eq] at h <;> (try (exfalso; omega))) | refine WS.consN (n := 60) (k := ?_) | fail)
 all_goals try
  refine WS.call (hc := (hc)) (k := ?_)
  rintro _ _ rfl
  refine ⟨_, _, _, by cbv; first | done | fail, by cbv; first | done | fail, ?_⟩
  repeat' (first | refine W.ret ?_ | refine Ret.ret (k := ?_) | refine WS.done ?_ | refine WS.pre (n := 200) (k := ?_) | (refine WS.guard (h := ?_); change WS _ _ _ _) | (refine WS.cmp (k1 := fun h => ?_) (k2 := fun h => ?_) <;> simp only [cmpP, oC, nTr, ne_eq] at h <;> (try (exfalso; omega))) | refine WS.consN (n := 60) (k := ?_) | fail)
 all_goals first
  | exact .inl ⟨rfl, hr.2 (by simp only [ne_eq]; omega)⟩
  | exact .inr ⟨rfl, fun h => by have := hr.1 h; simp only [ne_eq] at this; omega⟩
def rowI (x : TIns) : List Int := if rootP x then usesF x ++ (if 0 <= makesF x then [makesF x] else []) else []
def rowT (t : TTerm) : List Int := if t.kind ≠ 1 /\ 0 <= t.a then [t.a] else []
def rowB (b : TBlock) : List Int := rowT b.term ++ b.ins.flatMap rowI
def succI (v : Int) (x : TIns) : List Int := if makesF x = v then usesF x else []
def succB (v : Int) (b : TBlock) : List Int := b.ins.flatMap (succI v)
def succF (f : TFunc) (v : Int) : List Int := f.blocks.flatMap (succB v)
theorem flatMap_take {α β : Type} {g : α -> List β} {l : List α} {k : Nat} {x : α} (h : l[k]? = some x) : (l.take (k + 1)).flatMap g = (l.take k).flatMap g ++ g x := by
 rw [take_snoc h, List.flatMap_append]
 simp
theorem flatMap_len {α β : Type} {g : α -> List β} {m : α -> Nat} : ∀ {l : List α}, (∀ x, x ∈ l -> (g x).length <= m x) -> (l.flatMap g).length <= (l.map m).sum
 | [], _ => by simp
 | x :: l, h => by
   rw [List.flatMap_cons, List.length_append, List.map_cons, List.sum_cons]
   have := h x List.mem_cons_self
   have := flatMap_len (l := l) fun y hy => h y (List.mem_cons_of_mem _ hy)
   omega
theorem succ_len (f : TFunc) (v : Int) : (succF f v).length <= funcW f := by
 unfold succF funcW
 refine flatMap_len fun b _ => ?_
 unfold succB insW
 refine flatMap_len fun x _ => ?_
 unfold succI
 have := uses_len x
 split
 ·exact this
 ·simp
theorem row_len (f : TFunc) : (f.blocks.flatMap rowB).length <= f.blocks.length + 2 * funcW f := by
 have h1 : ∀ b : TBlock, (rowB b).length <= 1 + 2 * insW b := fun b => by
  unfold rowB
  rw [List.length_append]
  have h2 : (rowT b.term).length <= 1 := by unfold rowT; split <;> simp
  have h3 : (b.ins.flatMap rowI).length <= (b.ins.map fun x => 2 * (x.args.length + 2)).sum := flatMap_len fun x _ => by
   unfold rowI
   have := uses_len x
   split
   ·rw [List.length_append]
    split
    ·simp only [List.length_cons, List.length_nil]; omega
    ·simp only [List.length_nil]; omega
   ·simp
  have h4 : (b.ins.map fun x => 2 * (x.args.length + 2)).sum = 2 * insW b := by
   unfold insW
   induction b.ins with
   | nil => rfl
   | cons x l ih => simp only [List.map_cons, List.sum_cons, ih]; omega
  omega
 have h5 := flatMap_len (l := f.blocks) (g := rowB) (m := fun b => 1 + 2 * insW b) fun b _ => h1 b
 have h6 : (f.blocks.map fun b => 1 + 2 * insW b).sum = f.blocks.length + 2 * funcW f := by
  unfold funcW
  induction f.blocks with
  | nil => rfl
  | cons x l ih => simp only [List.map_cons, List.sum_cons, List.length_cons, ih]; omega
 omega
theorem flatMap_le_take {α β : Type} {g : α -> List β} {l : List α} (k : Nat) : ((l.take k).flatMap g).length <= (l.flatMap g).length := by
 conv => rhs; rw [<- List.take_append_drop k l, List.flatMap_append, List.length_append]
 omega
/-- What is told is in bounds. -/
structure NeedIn (f : TFunc) (n : Nat) : Prop where
 size : f.size = n
 few : n <= 2000
 w : funcW f <= 1200000
 uses : ∀ x, InF f x -> ∀ v, v ∈ usesF x -> 0 <= v /\ v < n
 makes : ∀ x, InF f x -> makesF x < n
 term : ∀ b, b ∈ f.blocks -> b.term.kind ≠ 1 -> b.term.a < n
end Go.Ab.Ytkmmpbmmmbebgaa
