/- The anchor holds. -/
import Derived.Test.YtkmmpbmmmbebgaaAbE
import Derived.Test.YtkmmpbmmmbebgaaM4
import Derived.KernelRfl
set_option linter.all false
namespace Go.Ab.Ytkmmpbmmmbebgaa
set_option maxRecDepth 1000000
theorem works_run:(acall E 20000 10 [] []).map (·.1)=some (.v (.bool true)):=by kernel_rfl
theorem works_ok:WC E 10 [] [] fun r _=>r= .v (.bool true):=by
 have h:=works_run;cases hc:acall E 20000 10 [] []with
 |none=>rw[hc]at h;simp at h
 | some x=>
   rw[hc]at h;simp at h;exact⟨20000,x.1,x.2,hc,h⟩
end Go.Ab.Ytkmmpbmmmbebgaa
