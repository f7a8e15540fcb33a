/- What the statement tells as needed is what the program keeps. -/
import Derived.Test.YtkmmpbmmmbebgaaNeedRef3
import Derived.Test.YtkmmpbmmmbebgaaLike
import Derived.Test.YtkmmpbmmmbebgaaSizes
set_option linter.all false
namespace Go.Ab.Ytkmmpbmmmbebgaa
set_option maxRecDepth 100000
set_option maxHeartbeats 8000000
theorem root_not {x : TIns} (h : ¬ hasF x) (h46 : x.op ≠ 46) : rootP x := by
 unfold hasF at h
 unfold rootP
 by_cases hs : stayF x
 ·exact .inl hs
 ·refine .inr ⟨h46, ?_⟩
  unfold stayF at hs
  unfold makesF
  rw [if_pos (by omega)]
  decide
theorem mem_rowF {f : TFunc} {x : TIns} {v : Int} (hx : InF f x) (hr : rootP x) (hv : v ∈ usesF x \/ v = makesF x /\ 0 <= v) : v ∈ f.blocks.flatMap rowB := by
 obtain ⟨b, hb, hxb⟩ := hx
 refine List.mem_flatMap.2 ⟨b, hb, List.mem_append_right _ (List.mem_flatMap.2 ⟨x, hxb, ?_⟩)⟩
 unfold rowI
 rw [if_pos hr]
 rcases hv with hv | ⟨rfl, h0⟩
 ·exact List.mem_append_left _ hv
 ·rw [if_pos h0]
  exact List.mem_append_right _ List.mem_cons_self
section
variable {u : TUnit} {n : Int} {f : TFunc} {o : List Bool} (h : SNd u n f o)
include h
theorem SNd.inF {x : TIns} (hx : InF f x) : ∃ p q, insAt f p q = some x /\ InP u n f p (bIns f p) q x /\ SoundI f p q x := by
 obtain ⟨p, q, hq⟩ := at_inF hx
 exact ⟨p, q, hq, h.ins hq⟩
theorem SNd.refOf {v : Int} (hv : NeedP f v) : RefNeed f v := by
 induction hv with
 | root hx hh h46 hl h0 => exact .root (mem_rowF hx (root_not hh h46) (.inl (looks_uses hl)))
 | term hb hk h0 =>
   rename_i b
   refine .root (List.mem_flatMap.2 ⟨b, hb, List.mem_append_left _ ?_⟩)
   unfold rowT
   rw [if_pos ⟨hk, h0⟩]
   exact List.mem_cons_self
 | step hx hh hn hl h0 ih =>
   rename_i x v
   obtain ⟨p, q, hq, hi, hs⟩ := h.inF hx
   refine .step ih ?_
   obtain ⟨b, hb, hxb⟩ := hx
   refine List.mem_flatMap.2 ⟨b, hb, List.mem_flatMap.2 ⟨x, hxb, ?_⟩⟩
   unfold succI
   rw [if_pos (has_makes hh hs.get.2)]
   exact looks_uses hl
theorem SNd.refStay {v : Int} (h0 : 0 <= v) (hv : StayP f v) : RefNeed f v := by
 obtain ⟨x, hx, hh, h46, hs, hd⟩ := hv
 exact .root (mem_rowF hx (.inl hs) (.inr ⟨by rw [stay_makes hs, hd], h0⟩))
theorem SNd.ofRef {v : Int} (hv : RefNeed f v) : 0 <= v /\ (NeedP f v \/ StayP f v) := by
 induction hv with
 | root hv =>
   rename_i v
   obtain ⟨b, hb, hv⟩ := List.mem_flatMap.1 hv
   rcases List.mem_append.1 hv with hv | hv
   ·unfold rowT at hv
    split at hv
    ·rename_i hc
     simp at hv
     subst hv
     exact ⟨hc.2, .inl (.term hb hc.1 hc.2)⟩
    ·cases hv
   ·obtain ⟨x, hxb, hv⟩ := List.mem_flatMap.1 hv
    have hx : InF f x := ⟨b, hb, hxb⟩
    obtain ⟨p, q, hq, hi, hs⟩ := h.inF hx
    unfold rowI at hv
    split at hv
    ·rename_i hr
     have hnh : ¬ hasF x := fun hh => by
      rcases hr with hr | ⟨h46, hm⟩
      ·unfold stayF at hr
       unfold hasF at hh
       omega
      ·have hd := (h.ok.ins b hb x hxb).1 hh
       rw [has_makes hh hs.get.2] at hm
       omega
     have h46 : x.op ≠ 46 := by
      rcases hr with hr | hr
      ·unfold stayF at hr; omega
      ·exact hr.1
     rcases List.mem_append.1 hv with hv | hv
     ·have h0 := (hi.uses v hv).1
      exact ⟨h0, .inl (.root hx hnh h46 (uses_looks hv hs.get.2 h46) h0)⟩
     ·split at hv
      ·rename_i h0
       simp at hv
       subst hv
       refine ⟨h0, .inr ⟨x, hx, hnh, h46, ?_, ?_⟩⟩
       ·rcases hr with hr | hr
        ·exact hr
        ·omega
       ·rcases hr with hr | hr
        ·exact (stay_makes hr).symm
        ·omega
      ·cases hv
    ·cases hv
 | step hr hu ih =>
   rename_i v w
   obtain ⟨b, hb, hw⟩ := List.mem_flatMap.1 hu
   obtain ⟨x, hxb, hw⟩ := List.mem_flatMap.1 hw
   have hx : InF f x := ⟨b, hb, hxb⟩
   obtain ⟨p, q, hq, hi, hs⟩ := h.inF hx
   unfold succI at hw
   split at hw
   ·rename_i hm
    have h0 := (hi.uses w hw).1
    have h46 : x.op ≠ 46 := fun e => by
     unfold makesF at hm
     rw [if_pos (by omega)] at hm
     omega
    have hl := uses_looks hw hs.get.2 h46
    refine ⟨h0, .inl ?_⟩
    by_cases hh : hasF x
    ·have hmk := has_makes hh hs.get.2
     rcases ih.2 with hn | ⟨z, hz, hzh, _, hzs, hzd⟩
     ·exact .step hx hh (by rw [<- hmk, hm]; exact hn) hl h0
     ·obtain ⟨p2, q2, hz2, _, hs2⟩ := h.inF hz
      have hzm : makesF z = v := (stay_makes hzs).trans hzd
      have f1 := hs2.made (by rw [hzm]; exact ih.1)
      have f2 := hs.made (by rw [hm]; exact ih.1)
      rw [hzm] at f1
      rw [hm] at f2
      obtain ⟨rfl, rfl⟩ := firstMade_eq f1 f2
      rw [hq] at hz2
      cases hz2
      exact absurd hh hzh
    ·exact .root hx hh h46 hl h0
   ·cases hw
/-- What the statement tells as needed is what the program keeps. -/
theorem SNd.same_needed {o' : List Bool} {k : Nat} (hk : f.size = k) (hl : o'.length = k) (ho : ∀ j : Nat, o'[j]? = some true ↔ RefNeed f j) : o' = o := by
 have hlo : o.length = k := by rw [needed_len h.ok h.need]; omega
 refine List.ext_getElem (by omega) fun j h1 h2 => ?_
 have e1 : o'[j]? = some o'[j] := List.getElem?_eq_getElem h1
 have e2 : o[j]? = some o[j] := List.getElem?_eq_getElem h2
 have key : o'[j]? = some true ↔ o[j]? = some true := by
  rw [ho, needed_iff h.ok h.need j (by omega)]
  exact ⟨fun hr => (h.ofRef hr).2, fun hr => hr.elim h.refOf (h.refStay (by omega))⟩
 rw [e1, e2] at key
 cases h3 : o'[j] <;> cases h4 : o[j] <;> simp [h3, h4] at key ⊢
/-- What is in bounds. -/
theorem SNd.needIn {k : Nat} (hk : f.size = k) (hf : k <= 2000) (hw : funcW f <= 1200000) : NeedIn f k := by
 refine ⟨hk, hf, hw, fun x hx v hv => ?_, fun x hx => ?_, fun b hb hkd => ?_⟩
 ·obtain ⟨p, q, hq, hi, hs⟩ := h.inF hx
  have := hi.uses v hv
  omega
 ·obtain ⟨p, q, hq, hi, hs⟩ := h.inF hx
  have := hi.makes.2.1
  omega
 ·have := h.ok.term b hb hkd
  omega
end
theorem soundU_dce {u : TUnit} {l : List TFunc} (hm : MayP u) (hs : SoundU u) (hsz : Sizes u) (hl : DceL u.funcs l) : SoundU { u with funcs := l } := ⟨mayP_dce hm hl, fun i g hg => by
 obtain ⟨f, o, h1, rfl, h3⟩ := hl.at i g hg
 have hn : SNd u i f o := ⟨hm.funcs i f h1, hs.2 i f h1, (dceFOK hm hs h1 (hsz.small.f f (List.mem_of_getElem? h1)).1 (hsz.w f (List.mem_of_getElem? h1))).ok, h3⟩
 exact hn.dce⟩
/-- What stays, as the statement tells it. -/
theorem dceI_eq {o : List Bool} {x : TIns} (h35 : x.op ≠ 35) (hm : hasF x -> 0 <= x.dst) :
  dceI o x = (if rootP x \/ x.op = 46 \/ (0 <= makesF x /\ o.getD (makesF x).toNat false = true) then some (if x.op = 46 /\ 0 <= x.a /\ o.getD x.a.toNat false = false then { x with a := -1 } else x) else none) := by
 unfold dceI
 by_cases hh : hasF x
 ·have hmk := has_makes hh h35
  have h0 := hm hh
  have hnr : ¬ rootP x := fun hr => by
   rcases hr with hr | ⟨h46, hm⟩
   ·unfold stayF at hr
    unfold hasF at hh
    omega
   ·rw [hmk] at hm
    omega
  have h46 : x.op ≠ 46 := fun e => by unfold hasF at hh; omega
  rw [hmk]
  by_cases hg : o.getD x.dst.toNat false = false
  ·rw [if_pos ⟨hh, hg⟩, if_neg]
   rintro (hr | hr | hr)
   ·exact hnr hr
   ·exact h46 hr
   ·rw [hg] at hr
    cases hr.2
  ·have hc : rootP x \/ x.op = 46 \/ (0 <= x.dst /\ o.getD x.dst.toNat false = true) := .inr (.inr ⟨h0, by simpa using hg⟩)
   rw [if_neg (fun hc => hg hc.2), if_pos hc]
 ·rw [if_neg (fun hc => hh hc.1)]
  have hc : rootP x \/ x.op = 46 \/ (0 <= makesF x /\ o.getD (makesF x).toNat false = true) := by
   by_cases h46 : x.op = 46
   ·exact .inr (.inl h46)
   ·exact .inl (root_not hh h46)
  rw [if_pos hc]
end Go.Ab.Ytkmmpbmmmbebgaa
