/- How much there is of a unit, and of what is left of it. -/
import Derived.Test.YtkmmpbmmmbebgaaSmall
import Derived.Test.YtkmmpbmmmbebgaaPlain
import Derived.Test.YtkmmpbmmmbebgaaSame0
import Derived.Test.YtkmmpbmmmbebgaaArgs
set_option linter.all false
namespace Go.Ab.Ytkmmpbmmmbebgaa
set_option maxRecDepth 100000
set_option maxHeartbeats 8000000
/-- The same call comes to the same. -/
theorem _root_.Go.Ab.WC.fix {E : Nat -> Option AF} {f : Nat} {as : List A} {bx : List Bx} {Q : A -> List Bx -> Prop} (h : WC E f as bx Q) : ∃ r b, Q r b /\ WC E f as bx fun r' b' => r' = r /\ b' = b := by
 obtain ⟨n, r, b, h, q⟩ := h
 exact ⟨r, b, q, n, r, b, h, rfl, rfl⟩
structure Sizes (u : TUnit) : Prop where
 small : UnitSmall u
 same : ∀ f, f ∈ u.funcs -> SameSmall f
 w : ∀ f, f ∈ u.funcs -> funcW f <= 100000000
 few : u.funcs.length <= 6000
 pts : u.points.length <= 6000 /\ ∀ p, p ∈ u.points -> p.scope.length <= 2000000
theorem sizes_of {u : TUnit} (h : largeN u <= 6000) (hz : uSz u <= 1100000) : Sizes u := by
 have hf : ∀ f, f ∈ u.funcs -> funcSum f <= 6000 /\ fSz f <= 1100000 := fun f hf => by
  have h1 := mem_le_sum (g := funcSum) hf
  have h2 := mem_le_sum (g := fSz) hf
  unfold largeN at h
  unfold uSz at hz
  omega
 have hb : ∀ f, f ∈ u.funcs -> ∀ b, b ∈ f.blocks -> b.ins.length <= 6000 /\ bSz b <= 1100000 := fun f hf' b hb => by
  obtain ⟨h1, h2⟩ := hf f hf'
  have h3 := mem_le_sum (g := fun b : TBlock => b.ins.length) hb
  have h4 := mem_le_sum (g := bSz) hb
  unfold funcSum insSum at h1
  unfold fSz at h2
  omega
 have hx : ∀ f, f ∈ u.funcs -> ∀ b, b ∈ f.blocks -> ∀ x, x ∈ b.ins -> x.args.length <= 1100000 := fun f hf' b hb' x hx => by
  obtain ⟨_, h2⟩ := hb f hf' b hb'
  have h3 := mem_le_sum (g := iSz) hx
  unfold bSz at h2
  have h4 : iSz x = 1 + x.args.length := rfl
  omega
 have hv : ∀ f, f ∈ u.funcs -> ∀ v, v ∈ f.vars -> v.fields.length <= 1100000 := fun f hf' v hv => by
  obtain ⟨_, h2⟩ := hf f hf'
  have h3 := mem_le_sum (g := vSz) hv
  unfold fSz at h2
  have h4 : vSz v = 1 + v.fields.length := rfl
  omega
 have hp : ∀ p, p ∈ u.points -> p.scope.length <= 1100000 := fun p hp => by
  have h3 := mem_le_sum (g := pSz) hp
  unfold uSz at hz
  have h4 : pSz p = 1 + p.scope.length := rfl
  omega
 have hn : u.funcs.length <= 6000 /\ u.points.length <= 6000 := by unfold largeN at h; omega
 have hfs : ∀ f, f ∈ u.funcs -> f.blocks.length <= 6000 /\ f.vars.length <= 6000 /\ insSum f <= 6000 := fun f hf' => by
  obtain ⟨h1, _⟩ := hf f hf'
  unfold funcSum at h1
  omega
 refine ⟨⟨fun f hf' => ⟨⟨?_, fun b hb' => ?_, fun b hb' x hx' => ?_, ?_⟩, ?_⟩, ⟨?_, fun p hp' => ?_⟩⟩, fun f hf' => ⟨⟨?_, fun v hv' => ?_⟩, ?_, fun b hb' => ?_, fun b hb' x hx' => ?_⟩, fun f hf' => ?_, hn.1, ⟨hn.2, fun p hp' => ?_⟩⟩
 ·have := hfs f hf'; omega
 ·have := hb f hf' b hb'; omega
 ·have := hx f hf' b hb' x hx'; omega
 ·have := hfs f hf'; omega
 ·have := hfs f hf'; omega
 ·omega
 ·have := hp p hp'; omega
 ·have := hfs f hf'; omega
 ·have := hv f hf' v hv'; omega
 ·have := hfs f hf'; omega
 ·have := hb f hf' b hb'; omega
 ·have := hx f hf' b hb' x hx'; omega
 ·have h1 : funcW f <= 2 * (f.blocks.map bSz).sum := by
   unfold funcW
   have key : ∀ b : TBlock, insW b <= 2 * bSz b := fun b => by
    unfold insW bSz
    induction b.ins with
    | nil => simp
    | cons x l ih => simp only [List.map_cons, List.sum_cons, iSz] at ih ⊢; omega
   induction f.blocks with
   | nil => simp
   | cons b l ih => have := key b; simp only [List.map_cons, List.sum_cons]; omega
  obtain ⟨_, h2⟩ := hf f hf'
  unfold fSz at h2
  omega
 ·have := hp p hp'; omega
theorem dceB_mem {o : List Bool} {b : TBlock} {x : TIns} (h : x ∈ (dceB o b).ins) : ∃ y, y ∈ b.ins /\ x.args = y.args := by
 obtain ⟨y, h1, h2⟩ := List.mem_filterMap.1 h
 refine ⟨y, h1, ?_⟩
 rcases dceI_some h2 with rfl | ⟨_, _, rfl⟩ <;> rfl
theorem sizes_dce {u : TUnit} {l : List TFunc} (h : Sizes u) (hd : DceL u.funcs l) : UnitSmall { u with funcs := l } /\ ∀ g, g ∈ l -> SameSmall g := by
 have hat : ∀ g, g ∈ l -> ∃ f o, f ∈ u.funcs /\ g = dceF o f := fun g hg => by
  obtain ⟨i, hi⟩ := List.getElem?_of_mem hg
  obtain ⟨f, o, h1, h2, _⟩ := hd.at i g hi
  exact ⟨f, o, List.mem_of_getElem? h1, h2⟩
 refine ⟨⟨fun g hg => ?_, h.small.p⟩, fun g hg => ?_⟩
 ·obtain ⟨f, o, hf, rfl⟩ := hat g hg
  obtain ⟨h1, h2⟩ := h.small.f f hf
  refine ⟨⟨?_, fun b hb => ?_, fun b hb x hx => ?_, h1.v⟩, Nat.le_trans (insSum_dce o f) h2⟩
  ·simpa [dceF] using h1.b
  ·obtain ⟨b0, hb0, rfl⟩ := List.mem_map.1 hb
   exact Nat.le_trans (List.length_filterMap_le _ _) (h1.i b0 hb0)
  ·obtain ⟨b0, hb0, rfl⟩ := List.mem_map.1 hb
   obtain ⟨y, hy, hya⟩ := dceB_mem hx
   rw [hya]
   exact h1.a b0 hb0 y hy
 ·obtain ⟨f, o, hf, rfl⟩ := hat g hg
  have h1 := h.same f hf
  refine ⟨h1.v, ?_, fun b hb => ?_, fun b hb x hx => ?_⟩
  ·simpa [dceF] using h1.b
  ·obtain ⟨b0, hb0, rfl⟩ := List.mem_map.1 hb
   exact Nat.le_trans (List.length_filterMap_le _ _) (h1.i b0 hb0)
  ·obtain ⟨b0, hb0, rfl⟩ := List.mem_map.1 hb
   obtain ⟨y, hy, hya⟩ := dceB_mem hx
   rw [hya]
   exact h1.a b0 hb0 y hy
end Go.Ab.Ytkmmpbmmmbebgaa
