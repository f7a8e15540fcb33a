/- Where only what is needed is left, a function is sound as before. -/
import Derived.Test.YtkmmpbmmmbebgaaNeed2
set_option linter.all false
namespace Go.Ab.Ytkmmpbmmmbebgaa
/-! ### places -/
def rk {α β : Type} (g : α -> Option β) (l : List α) (q : Nat) : Nat := ((l.take q).filterMap g).length
theorem rk_le {α β : Type} (g : α -> Option β) (l : List α) {q q' : Nat} (h : q <= q') : rk g l q <= rk g l q' := by
 unfold rk
 have : l.take q' = l.take q ++ (l.drop q).take (q' - q) := by
  rw [<- List.take_add]
  congr 1
  omega
 rw [this, List.filterMap_append, List.length_append]
 omega
theorem rk_succ {α β : Type} {g : α -> Option β} {l : List α} {q : Nat} {x : α} {y : β} (h : l[q]? = some x) (hg : g x = some y) : rk g l (q + 1) = rk g l q + 1 := by
 unfold rk
 rw [fm_some h hg, List.length_append]
 rfl
theorem rk_lt {α β : Type} {g : α -> Option β} {l : List α} {q q' : Nat} {x : α} {y : β} (h : l[q]? = some x) (hg : g x = some y) (hq : q < q') : rk g l q < rk g l q' := by
 have h1 := rk_succ h hg
 have h2 := rk_le g l (q := q + 1) (q' := q') hq
 omega
theorem rk_len {α β : Type} (g : α -> Option β) (l : List α) : rk g l l.length = (l.filterMap g).length := by
 unfold rk
 rw [List.take_length]
theorem rk_fm {α β : Type} {g : α -> Option β} {l : List α} {q : Nat} {x : α} {y : β} (h : l[q]? = some x) (hg : g x = some y) : (l.filterMap g)[rk g l q]? = some y := by
 have hq := (List.getElem?_eq_some_iff.1 h).1
 have e : l = l.take q ++ (x :: l.drop (q + 1)) := by
  have h1 := List.getElem?_eq_some_iff.1 h
  obtain ⟨h2, h3⟩ := h1
  rw [<- h3, <- List.drop_eq_getElem_cons h2, List.take_append_drop]
 have e2 : l.filterMap g = (l.take q).filterMap g ++ (y :: (l.drop (q + 1)).filterMap g) := by
  conv => lhs; rw [e]
  rw [List.filterMap_append, List.filterMap_cons_some hg]
 rw [e2]
 unfold rk
 rw [List.getElem?_append_right (Nat.le_refl _)]
 simp
theorem fm_rk {α β : Type} {g : α -> Option β} : ∀ {l : List α} {k : Nat} {y : β}, (l.filterMap g)[k]? = some y -> ∃ (q : Nat) (x : α), l[q]? = some x /\ g x = some y /\ k = rk g l q
 | [], k, y, h => by simp at h
 | a :: l, k, y, h => by
   cases hg : g a with
   | none =>
     rw [List.filterMap_cons_none hg] at h
     obtain ⟨q, x, h1, h2, h3⟩ := fm_rk h
     refine ⟨q + 1, x, by simpa using h1, h2, ?_⟩
     rw [h3]
     unfold rk
     rw [List.take_succ_cons, List.filterMap_cons_none hg]
   | some b =>
     rw [List.filterMap_cons_some hg] at h
     cases k with
     | zero =>
       simp at h
       subst h
       exact ⟨0, a, rfl, hg, by simp [rk]⟩
     | succ k =>
       obtain ⟨q, x, h1, h2, h3⟩ := fm_rk (l := l) (k := k) (by simpa using h)
       refine ⟨q + 1, x, by simpa using h1, h2, ?_⟩
       rw [h3]
       unfold rk
       rw [List.take_succ_cons, List.filterMap_cons_some hg, List.length_cons]
def bIns (f : TFunc) (p : Nat) : List TIns := match f.blocks[p]? with | some b => b.ins | none => []
theorem insAt_b (f : TFunc) (p q : Nat) : insAt f p q = (bIns f p)[q]? := by
 unfold insAt bIns
 cases f.blocks[p]? <;> simp
theorem insLen_b (f : TFunc) (p : Nat) : insLen f p = (bIns f p).length := by
 unfold insLen bIns
 cases f.blocks[p]? <;> simp
theorem bIns_dce (o : List Bool) (f : TFunc) (p : Nat) : bIns (dceF o f) p = (bIns f p).filterMap (dceI o) := by
 unfold bIns dceF
 simp only [List.getElem?_map]
 cases f.blocks[p]? <;> rfl
theorem inF_at {f : TFunc} {x : TIns} {p q : Nat} (h : insAt f p q = some x) : InF f x := by
 obtain ⟨b, h1, h2⟩ := insAt_some h
 exact ⟨b, List.mem_of_getElem? h1, List.mem_of_getElem? h2⟩
theorem at_inF {f : TFunc} {x : TIns} (h : InF f x) : ∃ p q, insAt f p q = some x := by
 obtain ⟨b, h1, h2⟩ := h
 obtain ⟨p, hp⟩ := List.getElem?_of_mem h1
 obtain ⟨q, hq⟩ := List.getElem?_of_mem h2
 exact ⟨p, q, by rw [insAt_of hp]; exact hq⟩
theorem makes_dce {o : List Bool} {x y : TIns} (h : dceI o x = some y) : makesF y = makesF x := by
 rcases dceI_some h with rfl | ⟨h46, _, rfl⟩
 ·rfl
 ·unfold makesF
  simp only [h46]
theorem at_dce {o : List Bool} {f : TFunc} {p k : Nat} {y : TIns} (h : insAt (dceF o f) p k = some y) : ∃ q x, insAt f p q = some x /\ dceI o x = some y /\ k = rk (dceI o) (bIns f p) q := by
 rw [insAt_b, bIns_dce] at h
 obtain ⟨q, x, h1, h2, h3⟩ := fm_rk h
 exact ⟨q, x, by rw [insAt_b]; exact h1, h2, h3⟩
theorem dce_at {o : List Bool} {f : TFunc} {p q : Nat} {x y : TIns} (h : insAt f p q = some x) (hy : dceI o x = some y) : insAt (dceF o f) p (rk (dceI o) (bIns f p) q) = some y := by
 rw [insAt_b, bIns_dce]
 rw [insAt_b] at h
 exact rk_fm h hy
theorem first_dce {o : List Bool} {f : TFunc} {v : Int} {p q : Nat} {x y : TIns} (h : FirstMade f v p q) (hx : insAt f p q = some x) (hy : dceI o x = some y) : FirstMade (dceF o f) v p (rk (dceI o) (bIns f p) q) := by
 obtain ⟨⟨x', h1, h2⟩, h3⟩ := h
 rw [hx] at h1
 cases h1
 refine ⟨⟨y, dce_at hx hy, by rw [makes_dce hy]; exact h2⟩, fun p' k' hm => ?_⟩
 obtain ⟨y', h4, h5⟩ := hm
 obtain ⟨q', x', h6, h7, h8⟩ := at_dce h4
 rcases h3 p' q' ⟨x', h6, by rw [<- makes_dce h7]; exact h5⟩ with h9 | ⟨h9, h10⟩
 ·exact .inl h9
 ·subst h9
  exact .inr ⟨rfl, by rw [h8]; exact rk_le _ _ h10⟩
theorem next_dce (o : List Bool) (f : TFunc) (a : Nat) : nextAt (dceF o f) a = nextAt f a := by
 unfold nextAt dceF
 simp only [List.getElem?_map]
 cases f.blocks[a]? <;> rfl
theorem way_congr {f g : TFunc} (h : ∀ a, nextAt f a = nextAt g a) {x d : Int} (hw : Way f x d) : Way g x d := by
 induction hw with
 | start h1 => exact .start h1
 | step h1 h2 h3 ih => exact .step ih (by rw [<- h]; exact h2) h3
theorem way_dce (o : List Bool) (f : TFunc) (x d : Int) : Way (dceF o f) x d ↔ Way f x d := ⟨way_congr (next_dce o f), way_congr fun a => (next_dce o f a).symm⟩
theorem dom_dce {o : List Bool} {f : TFunc} {a b : Nat} (h : Dom f a b) : Dom (dceF o f) a b := by
 unfold Dom at h ⊢
 simp only [way_dce]
 exact h
/-! ### what is kept -/
theorem uses_looks {x : TIns} {v : Int} (h : v ∈ usesF x) (h35 : x.op ≠ 35) (h46 : x.op ≠ 46) : v ∈ looksF x := by
 unfold usesF at h
 unfold looksF
 split at h
 ·rw [if_neg (by omega), if_pos (by omega)]
  exact h
 split at h
 ·rw [if_pos (by omega)]
  exact h
 split at h
 ·rw [if_neg (by omega), if_neg (by omega), if_pos (by omega)]
  exact h
 split at h
 ·rw [if_pos (by omega)]
  exact h
 ·cases h
theorem getD_false {o : List Bool} {j : Nat} : o.getD j false = false ↔ o[j]? ≠ some true := by
 rw [List.getD_eq_getElem?_getD]
 cases o[j]? with
 | none => simp
 | some b => cases b <;> simp
theorem has_makes {x : TIns} (h : hasF x) (h35 : x.op ≠ 35) : makesF x = x.dst := by
 unfold makesF
 unfold hasF at h
 rw [if_neg (by omega)]
theorem stay_makes {x : TIns} (h : stayF x) : makesF x = x.dst := by
 unfold makesF
 unfold stayF at h
 rw [if_neg (by omega)]
theorem hil_of {f : TFunc} {b : Nat} {y : TBlock} (h : f.blocks[b]? = some y) : insLen f b = y.ins.length := by unfold insLen; rw [h]
/-- All that is known of a sound function, and of what is needed of it. -/
structure SNd (u : TUnit) (n : Int) (f : TFunc) (o : List Bool) : Prop where
 may : FunP u n f
 sound : SoundF f
 ok : DceOK f
 need : Needed f o
section
variable {u : TUnit} {n : Int} {f : TFunc} {o : List Bool} (h : SNd u n f o)
include h
theorem SNd.ins {p q : Nat} {x : TIns} (hx : insAt f p q = some x) : InP u n f p (bIns f p) q x /\ SoundI f p q x := by
 obtain ⟨b, h1, h2⟩ := insAt_some hx
 have hb : bIns f p = b.ins := by unfold bIns; rw [h1]
 rw [hb]
 exact ⟨h.may.ins p b h1 q x h2, (h.sound p b h1).ins q x h2⟩
theorem SNd.marked {v : Int} (h0 : 0 <= v) (hs : v < f.size) (hn : NeedP f v \/ StayP f v) : o[v.toNat]? = some true := by
 have e : ((v.toNat : Nat) : Int) = v := by omega
 exact (needed_iff h.ok h.need v.toNat (by omega)).2 (by rw [e]; exact hn)
theorem SNd.of_marked {v : Int} (h0 : 0 <= v) (hs : v < f.size) (hm : o[v.toNat]? = some true) : NeedP f v \/ StayP f v := by
 have e : ((v.toNat : Nat) : Int) = v := by omega
 have := (needed_iff h.ok h.need v.toNat (by omega)).1 hm
 rw [e] at this
 exact this
/-- What makes what is needed is kept. -/
theorem SNd.kept {v : Int} {p q : Nat} {x : TIns} (hx : insAt f p q = some x) (hv : makesF x = v) (hm : o[v.toNat]? = some true) : ∃ y, dceI o x = some y := by
 unfold dceI
 rw [if_neg]
 ·exact ⟨_, rfl⟩
 ·rintro ⟨hh, hg⟩
  have h35 := (h.ins hx).2.get.2
  rw [has_makes hh h35] at hv
  rw [hv, getD_false] at hg
  exact hg hm
/-- What a kept instruction looks at is needed. -/
theorem SNd.uses {p q : Nat} {x y : TIns} (hx : insAt f p q = some x) (hy : dceI o x = some y) {v : Int} (hv : v ∈ usesF y) : y = x /\ 0 <= v /\ v < f.size /\ o[v.toNat]? = some true := by
 obtain ⟨hi, hso⟩ := h.ins hx
 rcases dceI_some hy with rfl | ⟨h46, _, rfl⟩
 ·have hr := hi.uses v hv
  refine ⟨rfl, hr.1, hr.2, ?_⟩
  by_cases h46 : y.op = 46
  ·unfold usesF at hv
   rw [if_neg (by omega), if_neg (by omega), if_neg (by omega), if_pos h46] at hv
   split at hv
   ·rename_i ha
    simp at hv
    subst hv
    unfold dceI at hy
    rw [if_neg (fun hc => by have := hc.1; unfold hasF at this; omega)] at hy
    by_cases hg : o.getD y.a.toNat false = false
    ·rw [if_pos ⟨h46, ha, hg⟩] at hy
     have := congrArg TIns.a (Option.some.inj hy)
     simp only at this
     omega
    ·rw [getD_false] at hg
     exact Classical.not_not.1 hg
   ·cases hv
  ·have hl := uses_looks hv hso.get.2 h46
   refine h.marked hr.1 hr.2 (.inl ?_)
   by_cases hh : hasF y
   ·have hd : 0 <= y.dst /\ y.dst < f.size := by
     obtain ⟨b', hb', hxb'⟩ := inF_at hx
     exact (h.ok.ins b' hb' y hxb').1 hh
    have hmk := has_makes hh hso.get.2
    have hmd : o[y.dst.toNat]? = some true := by
     unfold dceI at hy
     by_cases hg : o.getD y.dst.toNat false = false
     ·rw [if_pos ⟨hh, hg⟩] at hy; cases hy
     ·rw [getD_false] at hg
      exact Classical.not_not.1 hg
    rcases h.of_marked hd.1 hd.2 hmd with hn | ⟨z, hz, hzh, _, hzs, hzd⟩
    ·exact .step (inF_at hx) hh hn hl hr.1
    ·obtain ⟨p2, q2, hz2⟩ := at_inF hz
     have hzm : makesF z = y.dst := (stay_makes hzs).trans hzd
     have f1 := (h.ins hz2).2.made (by rw [hzm]; exact hd.1)
     have f2 := hso.made (by rw [hmk]; exact hd.1)
     rw [hzm] at f1
     rw [hmk] at f2
     obtain ⟨rfl, rfl⟩ := firstMade_eq f1 f2
     rw [hx] at hz2
     cases hz2
     exact absurd hh hzh
   ·exact .root (inF_at hx) hh h46 hl hr.1
 ·unfold usesF at hv
  simp only [h46] at hv
  simp at hv
theorem SNd.there {v : Int} {b i : Nat} (hm : o[v.toNat]? = some true) (ht : ThereP f v b i) : ThereP (dceF o f) v b (rk (dceI o) (bIns f b) i) := by
 obtain ⟨p, q, hf, hpq⟩ := ht
 have hf0 := hf
 obtain ⟨⟨x, hx, hxm⟩, _⟩ := hf0
 obtain ⟨y, hy⟩ := h.kept hx hxm hm
 refine ⟨p, rk (dceI o) (bIns f p) q, first_dce hf hx hy, ?_⟩
 rcases hpq with ⟨rfl, hq⟩ | ⟨hne, hd⟩
 ·rw [insAt_b] at hx
  exact .inl ⟨rfl, rk_lt hx hy hq⟩
 ·exact .inr ⟨hne, dom_dce hd⟩
/-- SOUND AS BEFORE. -/
theorem SNd.dce : SoundF (dceF o f) := by
 intro b blk hb
 have hb2 : ∃ b0, f.blocks[b]? = some b0 /\ blk = dceB o b0 := by
  unfold dceF at hb
  simp only [List.getElem?_map, Option.map_eq_some_iff] at hb
  obtain ⟨b0, h1, h2⟩ := hb
  exact ⟨b0, h1, h2.symm⟩
 obtain ⟨b0, hb0, rfl⟩ := hb2
 have hbi : bIns f b = b0.ins := by unfold bIns; rw [hb0]
 have hS := h.sound b b0 hb0
 have hlen : (dceB o b0).ins.length = rk (dceI o) (bIns f b) (insLen f b) := by
  rw [insLen_b, rk_len, hbi]
  rfl
 refine ⟨(way_dce o f _ _).2 hS.way, fun k y hy => ?_, fun hk ha => ?_⟩
 ·have hy' : insAt (dceF o f) b k = some y := by rw [insAt_of hb]; exact hy
  obtain ⟨i, x, hx, hxy, rfl⟩ := at_dce hy'
  obtain ⟨hi, hso⟩ := h.ins hx
  have hop : y.op = x.op /\ y.num = x.num := by rcases dceI_some hxy with rfl | ⟨_, _, rfl⟩ <;> exact ⟨rfl, rfl⟩
  refine ⟨by rw [hop.1]; exact hso.get, fun k' v hv => ?_, fun h0 => ?_, fun h45 => ?_⟩
  ·obtain ⟨rfl, h0, h1, hm⟩ := h.uses hx hxy (List.mem_of_getElem? hv)
   have hu := hso.use k' v hv
   unfold UseP at hu ⊢
   split
   ·rename_i h47
    rw [if_pos h47] at hu
    obtain ⟨l, w, k1, k2, k3⟩ := hu
    refine ⟨l, w, by rw [ways_dce]; exact k1, k2, ?_⟩
    have := h.there hm k3
    rw [insLen_b, bIns_dce, <- rk_len, <- insLen_b]
    exact this
   ·rename_i h47
    rw [if_neg h47] at hu
    exact h.there hm hu
  ·rw [makes_dce hxy] at h0 ⊢
   exact first_dce (hso.made h0) hx hxy
  ·rintro ⟨p, k2, z, hz, hlt, hz45, hzn⟩
   obtain ⟨q, z0, hz0, hzz, rfl⟩ := at_dce hz
   have hzop : z.op = z0.op /\ z.num = z0.num := by rcases dceI_some hzz with rfl | ⟨_, _, rfl⟩ <;> exact ⟨rfl, rfl⟩
   refine hso.mark (by rw [<- hop.1]; exact h45) ⟨p, q, z0, hz0, ?_, by rw [<- hzop.1]; exact hz45, by rw [<- hzop.2, <- hop.2]; exact hzn⟩
   rcases hlt with h1 | ⟨rfl, h1⟩
   ·exact .inl h1
   ·refine .inr ⟨rfl, ?_⟩
    by_cases hqi : q < i
    ·exact hqi
    ·have := rk_le (dceI o) (bIns f p) (q := i) (q' := q) (by omega)
     omega
 ·have hk' : b0.term.kind ≠ 1 := hk
  have ha' : 0 <= b0.term.a := ha
  have hmem := List.mem_of_getElem? hb0
  have hm := h.marked ha' (h.ok.term b0 hmem hk') (.inl (.term hmem hk' ha'))
  have := h.there hm (hS.term hk' ha')
  rw [hlen]
  rw [<- hil_of hb0] at this
  exact this
end
end Go.Ab.Ytkmmpbmmmbebgaa
