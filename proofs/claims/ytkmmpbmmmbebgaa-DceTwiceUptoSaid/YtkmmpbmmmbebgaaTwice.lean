/- Done a second time it is the same: plainly, and as the machine runs it. -/
import Derived.Test.YtkmmpbmmmbebgaaNeed3
import Derived.Test.YtkmmpbmmmbebgaaSizes
set_option linter.all false
set_option maxRecDepth 100000
set_option maxHeartbeats 8000000
namespace Go.Ab.Ytkmmpbmmmbebgaa

theorem filterMap_id {α : Type} {g : α → Option α} : ∀ {l : List α}, (∀ x, x ∈ l → g x = some x) → l.filterMap g = l
 | [], _ => rfl
 | x :: l, h => by rw [List.filterMap_cons_some (h x List.mem_cons_self), filterMap_id fun y hy => h y (List.mem_cons_of_mem _ hy)]

theorem insW_le (o : List Bool) (b : TBlock) : insW (dceB o b) ≤ insW b := by
 unfold insW dceB
 simp only
 induction b.ins with
 | nil => simp
 | cons x l ih =>
   cases hg : dceI o x with
   | none => rw [List.filterMap_cons_none hg, List.map_cons, List.sum_cons]; omega
   | some y =>
     have : y.args = x.args := by rcases dceI_some hg with rfl | ⟨_, _, rfl⟩ <;> rfl
     rw [List.filterMap_cons_some hg, List.map_cons, List.sum_cons, List.map_cons, List.sum_cons, this]
     omega

theorem funcW_le (o : List Bool) (f : TFunc) : funcW (dceF o f) ≤ funcW f := by
 unfold funcW dceF
 simp only [List.map_map]
 exact sum_le_sum fun b _ => insW_le o b

section
variable {u : TUnit} {n : Int} {f : TFunc} {o : List Bool} (h : SNd u n f o)
include h

theorem SNd.keep {x : TIns} (hx : InF f x) (hh : ¬ hasF x) (h46 : x.op ≠ 46) : InF (dceF o f) x := by
 obtain ⟨p, q, hq⟩ := at_inF hx
 have hy : dceI o x = some x := by
  unfold dceI
  rw [if_neg (fun hc => hh hc.1), if_neg (fun hc => h46 hc.1)]
 exact inF_at (dce_at hq hy)

theorem SNd.keepHas {x : TIns} (hx : InF f x) (hh : hasF x) (hm : o[x.dst.toNat]? = some true) : InF (dceF o f) x := by
 obtain ⟨p, q, hq⟩ := at_inF hx
 have hy : dceI o x = some x := by
  unfold dceI
  rw [if_neg (fun hc => by have := hc.2; rw [getD_false] at this; exact this hm), if_neg (fun hc => by have := hc.1; unfold hasF at hh; omega)]
 exact inF_at (dce_at hq hy)

theorem SNd.needed {v : Int} (hv : NeedP f v) : NeedP (dceF o f) v := by
 induction hv with
 | root hx hh h46 hl h0 => exact .root (h.keep hx hh h46) hh h46 hl h0
 | term hb hk h0 =>
   rename_i b
   have hb' : dceB o b ∈ (dceF o f).blocks := List.mem_map.2 ⟨b, hb, rfl⟩
   exact .term (b := dceB o b) hb' hk h0
 | step hx hh hn hl h0 ih =>
   rename_i x v
   obtain ⟨b, hb, hxb⟩ := hx
   have hd := (h.ok.ins b hb x hxb).1 hh
   exact .step (h.keepHas ⟨b, hb, hxb⟩ hh (h.marked hd.1 hd.2 (.inl hn))) hh ih hl h0

theorem SNd.stays {v : Int} (hv : StayP f v) : StayP (dceF o f) v := by
 obtain ⟨x, hx, hh, h46, hs, hd⟩ := hv
 exact ⟨x, h.keep hx hh h46, hh, h46, hs, hd⟩

/-- Nothing goes a second time. -/
theorem SNd.twice {o' : List Bool} (hd : DceOK (dceF o f)) (hn : Needed (dceF o f) o') : dceF o' (dceF o f) = dceF o f := by
 have hb : ∀ b, b ∈ (dceF o f).blocks → dceB o' b = b := fun b hb => by
  have key : ∀ y, y ∈ b.ins → dceI o' y = some y := fun y hy => by
   have hin : InF (dceF o f) y := ⟨b, hb, hy⟩
   obtain ⟨p, k, hk⟩ := at_inF hin
   obtain ⟨q, x, hx, hxy, _⟩ := at_dce hk
   have hmark : ∀ v : Int, 0 ≤ v → v < f.size → o[v.toNat]? = some true → o'[v.toNat]? = some true := fun v h0 hs hm => by
    have e : ((v.toNat : Nat) : Int) = v := by omega
    refine (needed_iff hd hn v.toNat (by rw [e]; exact hs)).2 ?_
    rw [e]
    exact (h.of_marked h0 hs hm).elim (fun h1 => .inl (h.needed h1)) fun h1 => .inr (h.stays h1)
   unfold dceI
   by_cases hh : hasF y
   ·have hyx : y = x := by
     rcases dceI_some hxy with rfl | ⟨h46, _, rfl⟩
     ·rfl
     ·unfold hasF at hh
      simp only [h46] at hh
      simp at hh
    subst hyx
    obtain ⟨b', hb', hxb'⟩ := inF_at hx
    have hdd := (h.ok.ins b' hb' y hxb').1 hh
    have hm : o[y.dst.toNat]? = some true := by
     unfold dceI at hxy
     by_cases hg : o.getD y.dst.toNat false = false
     ·rw [if_pos ⟨hh, hg⟩] at hxy; cases hxy
     ·rw [getD_false] at hg
      exact Classical.not_not.1 hg
    have := hmark _ hdd.1 hdd.2 hm
    rw [if_neg (fun hc => by have h2 := hc.2; rw [getD_false] at h2; exact h2 this), if_neg (fun hc => by have h2 := hc.1; unfold hasF at hh; omega)]
   ·rw [if_neg (fun hc => hh hc.1)]
    rw [if_neg]
    rintro ⟨h46, h0, hg⟩
    have hv : y.a ∈ usesF y := by
     unfold usesF
     rw [if_neg (by omega), if_neg (by omega), if_neg (by omega), if_pos h46, if_pos h0]
     simp
    obtain ⟨_, h1, h2, h3⟩ := h.uses hx hxy hv
    rw [getD_false] at hg
    exact hg (hmark _ h1 h2 h3)
  unfold dceB
  rw [filterMap_id key]
 have e : (dceF o f).blocks.map (dceB o') = (dceF o f).blocks := by
  have : ∀ l : List TBlock, (∀ b, b ∈ l → dceB o' b = b) → l.map (dceB o') = l := fun l hl => by
   induction l with
   | nil => rfl
   | cons b l ih => rw [List.map_cons, hl b List.mem_cons_self, ih fun c hc => hl c (List.mem_cons_of_mem _ hc)]
  exact this _ hb
 show { dceF o f with blocks := (dceF o f).blocks.map (dceB o') } = dceF o f
 rw [e]
end

/-- A unit with just what is needed: sound, and as it is when it is done again. -/
theorem twiceU {u : TUnit} {l : List TFunc} (hm : MayP u) (hs : SoundU u) (hsz : Sizes u) (hl : DceL u.funcs l) :
  SoundU { u with funcs := l } ∧ (∀ g, g ∈ l → DceFOK g) ∧ ∀ l', DceL l l' → l' = l := by
 have hm2 := mayP_dce hm hl
 have hat : ∀ (i : Nat) g, l[i]? = some g → ∃ f o, u.funcs[i]? = some f ∧ g = dceF o f ∧ SNd u i f o := fun i g hg => by
  obtain ⟨f, o, h1, h2, h3⟩ := hl.at i g hg
  have hf := List.mem_of_getElem? h1
  exact ⟨f, o, h1, h2, hm.funcs i f h1, hs.2 i f h1, (dceFOK hm hs h1 (hsz.small.f f hf).1 (hsz.w f hf)).ok, h3⟩
 have hS : SoundU { u with funcs := l } := ⟨hm2, fun i g hg => by
  obtain ⟨f, o, _, rfl, hn⟩ := hat i g hg
  exact hn.dce⟩
 have hok : ∀ (i : Nat) g, l[i]? = some g → DceFOK g := fun i g hg => by
  obtain ⟨f, o, h1, rfl, hn⟩ := hat i g hg
  have hf := List.mem_of_getElem? h1
  exact dceFOK hm2 hS (i := i) hg ((sizes_dce hsz hl).1.f _ (List.mem_of_getElem? hg)).1 (Nat.le_trans (funcW_le o f) (hsz.w f hf))
 refine ⟨hS, fun g hg => ?_, fun l' h' => ?_⟩
 ·obtain ⟨i, hi⟩ := List.getElem?_of_mem hg
  exact hok i g hi
 ·apply List.ext_getElem?
  intro i
  cases hi : l[i]? with
  | none =>
    have := List.getElem?_eq_none_iff.1 hi
    rw [List.getElem?_eq_none_iff, h'.len]
    exact this
  | some g =>
    obtain ⟨o', h1, h2⟩ := h'.to i g hi
    rw [h1]
    obtain ⟨f, o, h3, rfl, hn⟩ := hat i g hi
    rw [hn.twice (hok i _ hi).ok h2]

theorem sameRow_ok {l : List TIns} {a b : A} (ha : SlA 7 InsR l a) (hb : SlA 7 InsR l b) (hn : l.length ≤ 1000000000 ∧ ∀ v, v ∈ l → v.args.length ≤ 1000000000) : WC E 20 [a, b] [] fun r _ => r = .v (.bool true) := by
 obtain ⟨na, es, n, rfl, h1, h2, h3, _⟩ := ha
 obtain ⟨nb, es', n', rfl, h1', h2', h3', _⟩ := hb
 obtain rfl : n' = n := by omega
 refine WC.enter rfl rfl rfl ?_
 unfold b20
 repeat' (first | refine W.seq ?_ | refine W.easy (n := 200) (k := ?_) | refine W.block ?_ | refine W.skip ?_ | (refine W.condL (h := ?_); change W _ _ _ _) | refine W.regS ?_ | refine WS.done ?_ | refine WS.pre (n := 200) (k := ?_) | refine WS.len (h := ?_) | (refine WS.cmp (k1 := fun h => ?_) (k2 := fun h => ?_) <;> simp only [cmpP, Int.ofNat_eq_natCast, not_true_eq_false, ne_eq] at h <;> (try (exfalso; omega))) | fail)
 refine W.forA n' (fun k (_ : Unit) σ => sn 4 k σ) (fun _ _ => True) 0 (Nat.zero_le _) ?_ ?_
 ·exact ⟨(), by cbv, trivial⟩
 rintro QA kA k _ hk _
 refine W.norm (k := ?_)
 unfold l20_0
 by_cases hkn : k < n'
 ·have hkl : k < l.length := by omega
  obtain ⟨ek, hek, hV⟩ := h3.at k hkl
  obtain ⟨ek', hek', hV'⟩ := h3'.at k hkl
  have hfl := hn.2 _ (List.getElem_mem hkl)
  generalize l[k] = v at *
  have hc := sameIns_ok hV hV' hfl
  obtain ⟨op, dst, xa, xb, var, num, args⟩ := v
  obtain ⟨_, rfl, ⟨na, as, nal, rfl, hal, h6, hA, _⟩⟩ := hV
  obtain ⟨_, rfl, ⟨na', as', nal', rfl, hal', h6', hA', _⟩⟩ := hV'
  repeat' (first | refine W.seq ?_ | refine W.block ?_ | refine W.skip ?_ | (refine W.condL (h := ?_); change W _ _ _ _) | refine W.regS ?_ | refine WS.done ?_ | refine WS.pre (n := 200) (k := ?_) | refine WS.len (h := ?_) | (refine WS.cmp (k1 := fun h => ?_) (k2 := fun h => ?_) <;> simp only [cmpP, Int.ofNat_eq_natCast, not_true_eq_false, ne_eq] at h <;> (try (exfalso; omega))) | refine W.beginD (h := ?_) | refine WD.pre (n := 200) (ha := rfl) (k := ?_) | refine WD.iaddr (h := ?_) | fail)
  refine WD.call (hc := (hc)) (k := ?_)
  rintro _ _ rfl
  refine ⟨_, _, _, by cbv; first | done | fail, by cbv; first | done | fail, ?_⟩
  repeat' (first | refine W.skip ?_ | (refine W.condL (h := ?_); change W _ _ _ _) | refine W.regS ?_ | refine WS.done ?_ | refine WS.pre (n := 200) (k := ?_) | refine WS.inc (h := ?_) | refine WS.consN (n := 60) (k := ?_) | (refine WD.done ⟨_, by cbv; first | done | fail, ?_⟩; dsimp only) | refine WD.pre (n := 200) (ha := rfl) (k := ?_) | fail)
  exact ⟨by omega, (), by cbv, trivial⟩
 ·
  repeat' (first | refine W.seq ?_ | refine W.exit ?_ | (refine W.condL (h := ?_); change W _ _ _ _) | refine W.regS ?_ | refine WS.done ?_ | refine WS.pre (n := 200) (k := ?_) | refine WS.len (h := ?_) | (refine WS.cmp (k1 := fun h => ?_) (k2 := fun h => ?_) <;> simp only [cmpP, Int.ofNat_eq_natCast, not_true_eq_false, ne_eq] at h <;> (try (exfalso; omega))) | fail)
  refine kA _ _ ?_
  repeat' (first | refine W.seq ?_ | refine W.easy (n := 200) (k := ?_) | refine W.ret ?_ | refine Ret.ret (k := ?_) | fail)
  rfl
end Go.Ab.Ytkmmpbmmmbebgaa
