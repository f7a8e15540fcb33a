/- DceSays, in its second form: of any unit, inputs and fuel that are read with at most 1048576 values and letters the law comes to true, and its arguments read behind the call as they read before. -/
import Derived.Test.YtkmmpbmmmbebgaaRows
import Derived.Test.YtkmmpbmmmbebgaaT11
import Derived.Test.YtkmmpbmmmbebgaaWorks
import Derived.Test.YtkmmpbmmmbebgaaLink
import Derived.Test.YtkmmpbmmmbebgaaM4
import Derived.WalkKit
import Derived.DataShut
import Derived.ProofKit
import Derived.OpenShut
import Derived.JoinedCond
set_option linter.all false
namespace Go.Proofs.Ytkmmpbmmmbebgaa.dceSays
open Go.ChangeShapes Go.WideShapes Go.ChangeAt Go.RowKit Go.Ab
theorem own:ownKnob Try.prog.godebug = none:=by kernel_rfl
theorem laid:laidOutB Try.prog = true:=by kernel_rfl
theorem follows:Try.prog.follows .mixedOrders = true:=by kernel_rfl
theorem bulk_all {H:Type}:∀ l:List (DataW H),Rows.uptoBulkAll l = (l.map Rows.uptoBulk).sum
 | [] => by simp [Rows.uptoBulkAll]
 | d :: l => by simp only [Rows.uptoBulkAll,List.map_cons,List.sum_cons,bulk_all l]
theorem bulkLike {H:Type}:BulkLike (Rows.uptoBulk (H:=H)):=by
 refine ⟨fun d => ?_,fun es sp => ?_,fun ps => ?_⟩
 ·cases d with
  | lit l => cases l <;> simp [Rows.uptoBulk]
  | _ => simp [Rows.uptoBulk]
 ·simp only [Rows.uptoBulk,bulk_all]
  omega
 ·simp only [Rows.uptoBulk,bulk_all]
  omega
theorem shape:Try.f3.params.toList.mapM (shArg Try.prog 20) = some [(true,Ab.Ytkmmpbmmmbebgaa.scUnit),(false,[.row [.int .i64]]),(false,[.int .u16])]:=by kernel_rfl
theorem readable:(Try.f3.params.toList.all fun t => Try.prog.readableRec t && decide (t < Try.prog.types.size)) = true:=by kernel_rfl
theorem pureLaw {n:Nat} (hn:n <= 1048576):∀ xs:List A,All2 FitsA [(true,Ab.Ytkmmpbmmmbebgaa.scUnit),(false,[.row [.int .i64]]),(false,[.int .u16])] xs -> (xs.map szT).sum <= n -> ∃ k bx,acall Ab.Ytkmmpbmmmbebgaa.E k 3 xs [] = some (.v (.bool true),bx):=by
 intro xs h hs
 obtain ⟨a,_,rfl,h1,h2⟩:=Ab.Ytkmmpbmmmbebgaa.all2_cons' h
 obtain ⟨a2,_,rfl,h3,h4⟩:=Ab.Ytkmmpbmmmbebgaa.all2_cons' h2
 obtain ⟨a3,_,rfl,h5,h6⟩:=Ab.Ytkmmpbmmmbebgaa.all2_cons' h4
 obtain rfl:=Ab.Ytkmmpbmmmbebgaa.all2_nil' h6
 cases h1 with
 | agg _ cs hc =>
   cases h3 with
   | one _ _ hr =>
     cases h5 with
     | one _ _ hf =>
       obtain ⟨u,hu,hz⟩:=Ab.Ytkmmpbmmmbebgaa.fit_unit hc
       obtain ⟨l,hl,hlz⟩:=Ab.Ytkmmpbmmmbebgaa.fit_ints hr
       obtain ⟨m,rfl,hm⟩:∃ m,a3 = .v (.int .u16 m) /\ 0 <= m /\ m <= 65535:=by
        cases hf with
        | int hw => exact ⟨_,rfl,(Lit.wf_int_iff _ _).1 hw⟩
       have ha2:szT a2 = szA a2:=by
        obtain ⟨_,_,_,rfl,_⟩:=hl
        rfl
       simp only [List.map_cons,List.map_nil,List.sum_cons,List.sum_nil,ha2] at hs
       simp only [szT] at hs
       obtain ⟨k,r,bx,h3,rfl⟩:=Ab.Ytkmmpbmmmbebgaa.says_law hu hl (by omega) hm Ab.Ytkmmpbmmmbebgaa.works_ok
       exact ⟨k,bx,h3⟩
set_option maxRecDepth 100000 in
theorem contract (H:Type) (enc:TypeId × Value -> H) (W:World) (base:Nat) (args:Array Value) (ds gs:List (DataW H)) (before:List MemPlace)
  (hval:∀ (j:Nat) t v,Try.f3.params[j]? = some t -> args[j]? = some v -> Value.okWide Try.prog W .any base t v)
  (hW:DataW.Whole enc Try.prog Try.f3.params.toList Rows.dceSaysSpec.vars false W args.toList ds gs before) (hk:Rows.uptoSmall H (ds ++ gs) = true) :
  Calls Try.prog 3 args W fun e W' => ∃ v,e = .returned v /\ Rows.dceSaysSpec.post enc Try.prog Try.f3 false true false false W args v W':=by
 have hW':=hW
 obtain ⟨p,q,hA0,hV,rfl,hfz,hnd⟩:=hW
 have hA:DataW.TrodAll enc Try.prog W 0 (fun _ => true) true Try.f3.params.toList args.toList ds p:=hA0
 obtain ⟨rfl,rfl⟩:=trodVars_none hV
 have hb:(ds.map Rows.uptoBulk).sum <= 1048576:=by
  have h:Rows.uptoBulkAll (ds ++ []) <= 1048576:=of_decide_eq_true hk
  rw [List.append_nil,bulk_all] at h
  exact h
 refine (law_calls bulkLike Ab.Ytkmmpbmmmbebgaa.linkOK follows shape (pureLaw hb) (fun j t v hj hv => hval j t v (by rw [<- Array.getElem?_toList]; exact hj) hv) hA).mono fun e W' ⟨he,hB⟩ => ?_
 refine ⟨_,he,?_⟩
 have hback:=args_back laid hB _ readable _ _ _ hA
 have hds:∃ d1 d2 d3,ds = [d1,d2,d3]:=by
  have hA1:=hA
  rw [Try.params3] at hA1
  obtain ⟨v0,vs0,d0,ds0,p0,q0,hargs,rfl,rfl,h0,r0⟩:=trodAll_cons hA1
  obtain ⟨v1,vs1,d1,ds1,p1,q1,hargs1,rfl,rfl,h1,r1⟩:=trodAll_cons r0
  obtain ⟨v2,vs2,d2,ds2,p2,q2,hargs2,rfl,rfl,h2,r2⟩:=trodAll_cons r1
  obtain ⟨_,rfl,_⟩:=trodAll_nil r2
  exact ⟨d0,d1,d2,rfl⟩
 obtain ⟨d1,d2,d3,rfl⟩:=hds
 refine ⟨[d1,d2,d3],[],_,[],p,[],hW',?_,hback,rfl,hB.frame _,fun h => by cases h⟩
 exact trodAll_cons_mk (shut_bool (by kernel_rfl) _) trodAll_mk0
set_option maxRecDepth 100000 in
theorem lifted (os:Os) (started:os.Started) (H:Type) (enc:TypeId × Value -> H) (F:Stop.Interp) :
  ReturnsInHanded {} Try.checked os 3 .any ((Rows.OpenSpec.upto Rows.dceSaysSpec).pre6 enc Try.prog Try.f3 Rows.dceSaysUptoRow.domain false) (((Rows.OpenSpec.upto Rows.dceSaysSpec).at F).post enc Try.prog Try.f3 false true false false):=by
 refine returnsInHanded_of_cond (C:=Try.checked) (s:=Rows.OpenSpec.upto Rows.dceSaysSpec) (k:=Rows.uptoSmall) rfl own started (by kernel_rfl) Try.func3
  (OpenSpec.witness (enc:=enc) (C:=Try.checked) (s:=Rows.OpenSpec.upto Rows.dceSaysSpec) (k:=Rows.uptoSmall) rfl false ⟨#[],#[.agg #[.slice none 0 0,.int .i64 0,.slice none 0 0],.slice none 0 0,.int .u16 0],[]⟩ 8 (by kernel_rfl) (by kernel_rfl) (by kernel_rfl)
    (x:=([.agg [.nil,.lit (.int .i64 0),.nil],.nil,.lit (.int .u16 0)],[],[])) (by kernel_rfl) rfl (by kernel_rfl)) ?_
 intro W base args ds gs before hval hW _ hk _
 exact contract H enc W base args ds gs before hval hW hk
theorem over:Rows.dceSaysUptoRow.holds Try.pinned (Rows.OpenSpec.upto Rows.dceSaysSpec) :=
 OpenClaim.holds_of_cond 3 Try.f3 rfl rfl rfl rfl rfl rfl rfl ⟨rfl,rfl,rfl,rfl,rfl⟩ rfl rfl rfl rfl rfl (by kernel_rfl) Try.func3 (by kernel_rfl)
  (of_decide_eq_true (by kernel_rfl)) (by unfold Func.isWrapper; first | (rw [if_pos (by decide +kernel)]; kernel_rfl) | (rw [if_neg (by decide +kernel)]; exact ⟨rfl,rfl⟩))
  (fun os started H enc _ F => lifted os started H enc F)
theorem proved:Rows.DceSaysUptoSaid :=
 over
end Go.Proofs.Ytkmmpbmmmbebgaa.dceSays
