/- The program's data, as it is handed in. -/
import Derived.Test.YtkmmpbmmmbebgaaM4
import Derived.Test.YtkmmpbmmmbebgaaLarge
set_option linter.all false
namespace Go.Ab.Ytkmmpbmmmbebgaa
theorem all2_cons' {α β : Type} {R : α -> β -> Prop} {a : α} {as : List α} {bs : List β} (h : All2 R (a :: as) bs) : ∃ b bs', bs = b :: bs' /\ R a b /\ All2 R as bs' := by
 cases h with
 | cons h1 h2 => exact ⟨_, _, rfl, h1, h2⟩
theorem all2_nil' {α β : Type} {R : α -> β -> Prop} {bs : List β} (h : All2 R [] bs) : bs = [] := by cases h; rfl
theorem fit_int {k : IntKind} {a : A} (h : Fits (.int k) a) : ∃ n, a = .v (.int k n) := by cases h; exact ⟨_, rfl⟩
theorem fit_bool {a : A} (h : Fits .bool a) : ∃ b, a = .v (.bool b) := by cases h; exact ⟨_, rfl⟩
theorem fit_str {a : A} (h : Fits .str a) : ∃ s, a = .v (.string s) := by cases h; exact ⟨_, rfl⟩
theorem row_of {α : Type} {R : α -> List A -> Prop} {m : α -> Nat} : ∀ {es : List (List A)}, (∀ e, e ∈ es -> ∃ x, R x e /\ m x <= szC e) -> ∃ l, RowR R l es /\ (l.map m).sum <= szR es
 | [], _ => ⟨[], .nil, by simp [szR]⟩
 | e :: es, h => by
   obtain ⟨x, h1, h2⟩ := h e List.mem_cons_self
   obtain ⟨l, h3, h4⟩ := row_of fun e' he => h e' (List.mem_cons_of_mem _ he)
   exact ⟨x :: l, .cons h1 h3, by simp only [List.map_cons, List.sum_cons, szR]; omega⟩
theorem sl_of {α : Type} {z : Nat} {R : α -> List A -> Prop} {m : α -> Nat} {cs : List SC} {a : A} (hz : cs.length = z) (h : Fits (.row cs) a) (k : ∀ e, All2 Fits cs e -> ∃ x, R x e /\ m x <= szC e) : ∃ l, SlA z R l a /\ (l.map m).sum + 1 <= szA a := by
 subst hz
 cases h with
 | row _ nl es h1 h2 h3 h4 =>
   obtain ⟨l, hl, hs⟩ := row_of (R := R) (m := m) (es := es) fun e he => k e (All2.of (h3 e he).symm fun i s x hs hx => h4 e he i s x hs hx)
   refine ⟨l, ⟨nl, es, es.length, rfl, rfl, hl.len, hl, fun hn => ?_⟩, by simp only [szA]; omega⟩
   have := h1 hn
   subst this
   cases hl
   rfl
def scVar : List SC := [.str, .int .u8, .int .i64, .str, .int .i64, .row [.str]]
def scIns : List SC := [.int .u8, .int .i64, .int .i64, .int .i64, .int .i64, .int .i64, .row [.int .i64]]
def scBlock : List SC := [.row scIns, .int .u8, .int .i64, .int .i64, .int .i64]
def scFunc : List SC := [.str, .int .i64, .bool, .row scVar, .row scBlock, .int .i64]
def scPoint : List SC := [.int .i64, .int .i64, .row [.int .i64]]
def scUnit : List SC := [.row scFunc, .int .i64, .row scPoint]
def iSz (x : TIns) : Nat := 1 + x.args.length
def bSz (b : TBlock) : Nat := 1 + (b.ins.map iSz).sum
def vSz (v : TVar) : Nat := 1 + v.fields.length
def fSz (f : TFunc) : Nat := 1 + (f.vars.map vSz).sum + (f.blocks.map bSz).sum
def pSz (p : TPoint) : Nat := 1 + p.scope.length
def uSz (u : TUnit) : Nat := (u.funcs.map fSz).sum + (u.points.map pSz).sum
theorem sum_one {α : Type} (l : List α) : (l.map fun _ => 1).sum = l.length := by
 induction l with
 | nil => rfl
 | cons a l ih => simp only [List.map_cons, List.sum_cons, List.length_cons, ih]; omega
theorem fit_ints {a : A} (h : Fits (.row [.int .i64]) a) : ∃ l, SlA 1 IntR l a /\ l.length + 1 <= szA a := by
 have key : ∀ e, All2 Fits [.int .i64] e -> ∃ x, IntR x e /\ 1 <= szC e := fun e he => by
  obtain ⟨b, bs, rfl, hb, he2⟩ := all2_cons' he
  obtain ⟨n, rfl⟩ := fit_int hb
  obtain rfl := all2_nil' he2
  exact ⟨n, rfl, by simp [szC, szA]⟩
 obtain ⟨l, h1, h2⟩ := sl_of (R := IntR) (m := fun _ => 1) rfl h key
 exact ⟨l, h1, by rw [sum_one] at h2; exact h2⟩
theorem fit_strs {a : A} (h : Fits (.row [.str]) a) : ∃ l, SlA 1 StrR l a /\ l.length + 1 <= szA a := by
 have key : ∀ e, All2 Fits [.str] e -> ∃ x, StrR x e /\ 1 <= szC e := fun e he => by
  obtain ⟨b, bs, rfl, hb, he2⟩ := all2_cons' he
  obtain ⟨n, rfl⟩ := fit_str hb
  obtain rfl := all2_nil' he2
  exact ⟨n, rfl, by simp [szC, szA]⟩
 obtain ⟨l, h1, h2⟩ := sl_of (R := StrR) (m := fun _ => 1) rfl h key
 exact ⟨l, h1, by rw [sum_one] at h2; exact h2⟩
theorem fit_var {e : List A} (h : All2 Fits scVar e) : ∃ x, VarR x e /\ vSz x <= szC e := by
 obtain ⟨_, _, rfl, h1, h⟩ := all2_cons' h
 obtain ⟨_, _, rfl, h2, h⟩ := all2_cons' h
 obtain ⟨_, _, rfl, h3, h⟩ := all2_cons' h
 obtain ⟨_, _, rfl, h4, h⟩ := all2_cons' h
 obtain ⟨_, _, rfl, h5, h⟩ := all2_cons' h
 obtain ⟨_, _, rfl, h6, h⟩ := all2_cons' h
 rw [all2_nil' h]
 obtain ⟨s1, rfl⟩ := fit_str h1
 obtain ⟨n2, rfl⟩ := fit_int h2
 obtain ⟨n3, rfl⟩ := fit_int h3
 obtain ⟨s4, rfl⟩ := fit_str h4
 obtain ⟨n5, rfl⟩ := fit_int h5
 obtain ⟨l, k1, k2⟩ := fit_strs h6
 exact ⟨⟨s1, ⟨n2, n3, s4⟩, n5, l⟩, ⟨_, rfl, k1⟩, by simp only [vSz, szC]; omega⟩
theorem fit_ins {e : List A} (h : All2 Fits scIns e) : ∃ x, InsR x e /\ iSz x <= szC e := by
 obtain ⟨_, _, rfl, h1, h⟩ := all2_cons' h
 obtain ⟨_, _, rfl, h2, h⟩ := all2_cons' h
 obtain ⟨_, _, rfl, h3, h⟩ := all2_cons' h
 obtain ⟨_, _, rfl, h4, h⟩ := all2_cons' h
 obtain ⟨_, _, rfl, h5, h⟩ := all2_cons' h
 obtain ⟨_, _, rfl, h6, h⟩ := all2_cons' h
 obtain ⟨_, _, rfl, h7, h⟩ := all2_cons' h
 rw [all2_nil' h]
 obtain ⟨n1, rfl⟩ := fit_int h1
 obtain ⟨n2, rfl⟩ := fit_int h2
 obtain ⟨n3, rfl⟩ := fit_int h3
 obtain ⟨n4, rfl⟩ := fit_int h4
 obtain ⟨n5, rfl⟩ := fit_int h5
 obtain ⟨n6, rfl⟩ := fit_int h6
 obtain ⟨l, k1, k2⟩ := fit_ints h7
 exact ⟨⟨n1, n2, n3, n4, n5, n6, l⟩, ⟨_, rfl, k1⟩, by simp only [iSz, szC]; omega⟩
theorem fit_block {e : List A} (h : All2 Fits scBlock e) : ∃ x, BlockR x e /\ bSz x <= szC e := by
 obtain ⟨_, _, rfl, h1, h⟩ := all2_cons' h
 obtain ⟨_, _, rfl, h2, h⟩ := all2_cons' h
 obtain ⟨_, _, rfl, h3, h⟩ := all2_cons' h
 obtain ⟨_, _, rfl, h4, h⟩ := all2_cons' h
 obtain ⟨_, _, rfl, h5, h⟩ := all2_cons' h
 rw [all2_nil' h]
 obtain ⟨l, k1, k2⟩ := sl_of (R := InsR) (m := iSz) rfl h1 fun e he => fit_ins he
 obtain ⟨n2, rfl⟩ := fit_int h2
 obtain ⟨n3, rfl⟩ := fit_int h3
 obtain ⟨n4, rfl⟩ := fit_int h4
 obtain ⟨n5, rfl⟩ := fit_int h5
 exact ⟨⟨l, ⟨n2, n3, n4, n5⟩⟩, ⟨_, rfl, k1⟩, by simp only [bSz, szC]; omega⟩
theorem fit_func {e : List A} (h : All2 Fits scFunc e) : ∃ x, FuncR x e /\ fSz x <= szC e := by
 obtain ⟨_, _, rfl, h1, h⟩ := all2_cons' h
 obtain ⟨_, _, rfl, h2, h⟩ := all2_cons' h
 obtain ⟨_, _, rfl, h3, h⟩ := all2_cons' h
 obtain ⟨_, _, rfl, h4, h⟩ := all2_cons' h
 obtain ⟨_, _, rfl, h5, h⟩ := all2_cons' h
 obtain ⟨_, _, rfl, h6, h⟩ := all2_cons' h
 rw [all2_nil' h]
 obtain ⟨s1, rfl⟩ := fit_str h1
 obtain ⟨n2, rfl⟩ := fit_int h2
 obtain ⟨b3, rfl⟩ := fit_bool h3
 obtain ⟨l4, k1, k2⟩ := sl_of (R := VarR) (m := vSz) rfl h4 fun e he => fit_var he
 obtain ⟨l5, k3, k4⟩ := sl_of (R := BlockR) (m := bSz) rfl h5 fun e he => fit_block he
 obtain ⟨n6, rfl⟩ := fit_int h6
 exact ⟨⟨s1, n2, b3, l4, l5, n6⟩, ⟨_, _, rfl, k1, k3⟩, by simp only [fSz, szC]; omega⟩
theorem fit_point {e : List A} (h : All2 Fits scPoint e) : ∃ x, PointR x e /\ pSz x <= szC e := by
 obtain ⟨_, _, rfl, h1, h⟩ := all2_cons' h
 obtain ⟨_, _, rfl, h2, h⟩ := all2_cons' h
 obtain ⟨_, _, rfl, h3, h⟩ := all2_cons' h
 rw [all2_nil' h]
 obtain ⟨n1, rfl⟩ := fit_int h1
 obtain ⟨n2, rfl⟩ := fit_int h2
 obtain ⟨l, k1, k2⟩ := fit_ints h3
 exact ⟨⟨n1, n2, l⟩, ⟨_, rfl, k1⟩, by simp only [pSz, szC]; omega⟩
theorem fit_unit {e : List A} (h : All2 Fits scUnit e) : ∃ u, UnitR u e /\ uSz u <= szC e := by
 obtain ⟨_, _, rfl, h1, h⟩ := all2_cons' h
 obtain ⟨_, _, rfl, h2, h⟩ := all2_cons' h
 obtain ⟨_, _, rfl, h3, h⟩ := all2_cons' h
 rw [all2_nil' h]
 obtain ⟨l, k1, k2⟩ := sl_of (R := FuncR) (m := fSz) rfl h1 fun e he => fit_func he
 obtain ⟨n2, rfl⟩ := fit_int h2
 obtain ⟨l3, k3, k4⟩ := sl_of (R := PointR) (m := pSz) rfl h3 fun e he => fit_point he
 exact ⟨⟨l, n2, l3⟩, ⟨_, _, rfl, k1, k3⟩, by simp only [uSz, szC]; omega⟩
/-! ### sizes -/
theorem sum_le_sum {α : Type} {g h : α -> Nat} : ∀ {l : List α}, (∀ x, x ∈ l -> g x <= h x) -> (l.map g).sum <= (l.map h).sum
 | [], _ => Nat.le_refl _
 | a :: l, k => by
   have := k a List.mem_cons_self
   have := sum_le_sum (l := l) fun x hx => k x (List.mem_cons_of_mem _ hx)
   simp only [List.map_cons, List.sum_cons]
   omega
theorem mem_le_sum {α : Type} {g : α -> Nat} {l : List α} {x : α} (h : x ∈ l) : g x <= (l.map g).sum := by
 induction l with
 | nil => cases h
 | cons a l ih =>
   rw [List.map_cons, List.sum_cons]
   rcases List.mem_cons.1 h with rfl | h
   ·omega
   ·have := ih h; omega
theorem len_le_sum {α : Type} {g : α -> Nat} {l : List α} (h : ∀ x, 1 <= g x) : l.length <= (l.map g).sum := by
 rw [<- sum_one]
 exact sum_le_sum fun x _ => h x
theorem b_le (b : TBlock) : 1 + b.ins.length <= bSz b := by
 unfold bSz
 have := len_le_sum (g := iSz) (l := b.ins) fun x => by unfold iSz; omega
 omega
theorem f_le (f : TFunc) : funcSum f <= fSz f := by
 unfold funcSum fSz insSum
 have h1 := len_le_sum (g := vSz) (l := f.vars) fun x => by unfold vSz; omega
 have h2 : f.blocks.length + (f.blocks.map fun b => b.ins.length).sum <= (f.blocks.map bSz).sum := by
  induction f.blocks with
  | nil => simp
  | cons b bs ih =>
    have := b_le b
    simp only [List.map_cons, List.sum_cons, List.length_cons]
    omega
 omega
theorem large_le (u : TUnit) : largeN u <= 2 * uSz u := by
 unfold largeN uSz
 have h1 := len_le_sum (g := fSz) (l := u.funcs) fun x => by unfold fSz; omega
 have h2 := len_le_sum (g := pSz) (l := u.points) fun x => by unfold pSz; omega
 have h3 := sum_le_sum (l := u.funcs) fun f _ => f_le f
 omega
end Go.Ab.Ytkmmpbmmmbebgaa
