/- MADE BY PROGRAM (mkLink.py): the functions of the table are the program's. -/
import Derived.Test.YtkmmpbmmmbebgaaAbE
import Derived.Test.YtkmmpbmmmbebgaaM4
import Derived.Test.YtkmmpbmmmbebgaaChecked
import Derived.KernelRfl
set_option linter.all false
set_option maxRecDepth 1000000
namespace Go.Ab.Ytkmmpbmmmbebgaa
open Go.Proofs
def shown(F:AF):Nat×Nat×List ARes×AC:=(F.np,F.nv,F.res,F.body.strip)
theorem link_of{P:Program}{f:Nat}{F:AF}{fn:Func}{vars:List Nat}(hf:P.funcs[f]?=some fn)(h:(trF P vars (fun _=>[]) fn).map shown=some (shown F)):Link P f F:=by
  cases ht:trF P vars (fun _=>[]) fn with
  |none=>rw[ht]at h;simp at h
  | some G=>
    rw[ht]at h;simp only[Option.map_some,Oe,shown,Prod.mk.injEq]at h;exact⟨fn,vars,fun _=>[],G,hf,ht,h.1,h.2.1,h.2.2.1,h.2.2.2.symm⟩
theorem link3:Link Try.prog 3 af3:=link_of (vars:=vs3) Try.func3 (by kernel_rfl)
theorem link8:Link Try.prog 8 af8:=link_of (vars:=vs8) Try.func8 (by kernel_rfl)
theorem link9:Link Try.prog 9 af9:=link_of (vars:=vs9) Try.func9 (by kernel_rfl)
theorem link10:Link Try.prog 10 af10:=link_of (vars:=vs10) Try.func10 (by kernel_rfl)
theorem link11:Link Try.prog 11 af11:=link_of (vars:=vs11) Try.func11 (by kernel_rfl)
theorem link12:Link Try.prog 12 af12:=link_of (vars:=vs12) Try.func12 (by kernel_rfl)
theorem link13:Link Try.prog 13 af13:=link_of (vars:=vs13) Try.func13 (by kernel_rfl)
theorem link14:Link Try.prog 14 af14:=link_of (vars:=vs14) Try.func14 (by kernel_rfl)
theorem link15:Link Try.prog 15 af15:=link_of (vars:=vs15) Try.func15 (by kernel_rfl)
theorem link16:Link Try.prog 16 af16:=link_of (vars:=vs16) Try.func16 (by kernel_rfl)
theorem link18:Link Try.prog 18 af18:=link_of (vars:=vs18) Try.func18 (by kernel_rfl)
theorem link21:Link Try.prog 21 af21:=link_of (vars:=vs21) Try.func21 (by kernel_rfl)
theorem link22:Link Try.prog 22 af22:=link_of (vars:=vs22) Try.func22 (by kernel_rfl)
theorem link23:Link Try.prog 23 af23:=link_of (vars:=vs23) Try.func23 (by kernel_rfl)
theorem link24:Link Try.prog 24 af24:=link_of (vars:=vs24) Try.func24 (by kernel_rfl)
theorem link26:Link Try.prog 26 af26:=link_of (vars:=vs26) Try.func26 (by kernel_rfl)
theorem link27:Link Try.prog 27 af27:=link_of (vars:=vs27) Try.func27 (by kernel_rfl)
theorem link28:Link Try.prog 28 af28:=link_of (vars:=vs28) Try.func28 (by kernel_rfl)
theorem link29:Link Try.prog 29 af29:=link_of (vars:=vs29) Try.func29 (by kernel_rfl)
theorem link30:Link Try.prog 30 af30:=link_of (vars:=vs30) Try.func30 (by kernel_rfl)
theorem link31:Link Try.prog 31 af31:=link_of (vars:=vs31) Try.func31 (by kernel_rfl)
theorem link32:Link Try.prog 32 af32:=link_of (vars:=vs32) Try.func32 (by kernel_rfl)
theorem link33:Link Try.prog 33 af33:=link_of (vars:=vs33) Try.func33 (by kernel_rfl)
theorem link34:Link Try.prog 34 af34:=link_of (vars:=vs34) Try.func34 (by kernel_rfl)
theorem link35:Link Try.prog 35 af35:=link_of (vars:=vs35) Try.func35 (by kernel_rfl)
theorem link36:Link Try.prog 36 af36:=link_of (vars:=vs36) Try.func36 (by kernel_rfl)
theorem link37:Link Try.prog 37 af37:=link_of (vars:=vs37) Try.func37 (by kernel_rfl)
theorem link38:Link Try.prog 38 af38:=link_of (vars:=vs38) Try.func38 (by kernel_rfl)
theorem link39:Link Try.prog 39 af39:=link_of (vars:=vs39) Try.func39 (by kernel_rfl)
theorem link40:Link Try.prog 40 af40:=link_of (vars:=vs40) Try.func40 (by kernel_rfl)
theorem link41:Link Try.prog 41 af41:=link_of (vars:=vs41) Try.func41 (by kernel_rfl)
theorem link42:Link Try.prog 42 af42:=link_of (vars:=vs42) Try.func42 (by kernel_rfl)
theorem link43:Link Try.prog 43 af43:=link_of (vars:=vs43) Try.func43 (by kernel_rfl)
theorem link44:Link Try.prog 44 af44:=link_of (vars:=vs44) Try.func44 (by kernel_rfl)
theorem link45:Link Try.prog 45 af45:=link_of (vars:=vs45) Try.func45 (by kernel_rfl)
theorem link46:Link Try.prog 46 af46:=link_of (vars:=vs46) Try.func46 (by kernel_rfl)
theorem link47:Link Try.prog 47 af47:=link_of (vars:=vs47) Try.func47 (by kernel_rfl)
theorem link48:Link Try.prog 48 af48:=link_of (vars:=vs48) Try.func48 (by kernel_rfl)
theorem link49:Link Try.prog 49 af49:=link_of (vars:=vs49) Try.func49 (by kernel_rfl)
theorem link50:Link Try.prog 50 af50:=link_of (vars:=vs50) Try.func50 (by kernel_rfl)
theorem link51:Link Try.prog 51 af51:=link_of (vars:=vs51) Try.func51 (by kernel_rfl)
theorem link52:Link Try.prog 52 af52:=link_of (vars:=vs52) Try.func52 (by kernel_rfl)
theorem link53:Link Try.prog 53 af53:=link_of (vars:=vs53) Try.func53 (by kernel_rfl)
theorem link54:Link Try.prog 54 af54:=link_of (vars:=vs54) Try.func54 (by kernel_rfl)
theorem link55:Link Try.prog 55 af55:=link_of (vars:=vs55) Try.func55 (by kernel_rfl)
theorem link56:Link Try.prog 56 af56:=link_of (vars:=vs56) Try.func56 (by kernel_rfl)
theorem link57:Link Try.prog 57 af57:=link_of (vars:=vs57) Try.func57 (by kernel_rfl)
theorem link58:Link Try.prog 58 af58:=link_of (vars:=vs58) Try.func58 (by kernel_rfl)
theorem link59:Link Try.prog 59 af59:=link_of (vars:=vs59) Try.func59 (by kernel_rfl)
theorem link60:Link Try.prog 60 af60:=link_of (vars:=vs60) Try.func60 (by kernel_rfl)
theorem link61:Link Try.prog 61 af61:=link_of (vars:=vs61) Try.func61 (by kernel_rfl)
theorem link62:Link Try.prog 62 af62:=link_of (vars:=vs62) Try.func62 (by kernel_rfl)
theorem link63:Link Try.prog 63 af63:=link_of (vars:=vs63) Try.func63 (by kernel_rfl)
theorem link64:Link Try.prog 64 af64:=link_of (vars:=vs64) Try.func64 (by kernel_rfl)
theorem link65:Link Try.prog 65 af65:=link_of (vars:=vs65) Try.func65 (by kernel_rfl)
theorem link66:Link Try.prog 66 af66:=link_of (vars:=vs66) Try.func66 (by kernel_rfl)
theorem link67:Link Try.prog 67 af67:=link_of (vars:=vs67) Try.func67 (by kernel_rfl)
theorem link68:Link Try.prog 68 af68:=link_of (vars:=vs68) Try.func68 (by kernel_rfl)
theorem linkOK:LinkOK Try.prog E:=by
  intro f F h;unfold E at h;split at h
  · cases h;exact link3
  · cases h;exact link8
  · cases h;exact link9
  · cases h;exact link10
  · cases h;exact link11
  · cases h;exact link12
  · cases h;exact link13
  · cases h;exact link14
  · cases h;exact link15
  · cases h;exact link16
  · cases h;exact link18
  · cases h;exact link21
  · cases h;exact link22
  · cases h;exact link23
  · cases h;exact link24
  · cases h;exact link26
  · cases h;exact link27
  · cases h;exact link28
  · cases h;exact link29
  · cases h;exact link30
  · cases h;exact link31
  · cases h;exact link32
  · cases h;exact link33
  · cases h;exact link34
  · cases h;exact link35
  · cases h;exact link36
  · cases h;exact link37
  · cases h;exact link38
  · cases h;exact link39
  · cases h;exact link40
  · cases h;exact link41
  · cases h;exact link42
  · cases h;exact link43
  · cases h;exact link44
  · cases h;exact link45
  · cases h;exact link46
  · cases h;exact link47
  · cases h;exact link48
  · cases h;exact link49
  · cases h;exact link50
  · cases h;exact link51
  · cases h;exact link52
  · cases h;exact link53
  · cases h;exact link54
  · cases h;exact link55
  · cases h;exact link56
  · cases h;exact link57
  · cases h;exact link58
  · cases h;exact link59
  · cases h;exact link60
  · cases h;exact link61
  · cases h;exact link62
  · cases h;exact link63
  · cases h;exact link64
  · cases h;exact link65
  · cases h;exact link66
  · cases h;exact link67
  · cases h;exact link68
  · cases h
end Go.Ab.Ytkmmpbmmmbebgaa
