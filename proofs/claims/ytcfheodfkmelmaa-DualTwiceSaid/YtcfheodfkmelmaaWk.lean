/- The closed call that each statement of the layer asks first ends in true (reckoned by the slow operations). -/
import Derived.Test.YtcfheodfkmelmaaEq
import Derived.Test.YtcfheodfkmelmaaSh29
import Derived.KernelRfl
namespace Go.Sh.Of
open Go
theorem Ends.of_plainS {P : Program} {l : EL} (hl : AllOk l) {T : BT Ent} (hT : tabOf l = T) (hP : Comp P (fun f => assoc (fnsOf l) f)) (hw : ((fnsOf l).all fun p => p.2.within) = true) (hm : P.follows .mixedOrders = true) {K d i : Nat} (h : isTrue (runPF T slow K d i [] noRows) = true) : Ends P i (.bool true) :=
 Ends.of_run hP hw hm (by rw [runPF_eq hl, hT]; exact h)
def wk : CallC := closedO [(4, .bool true)]
set_option maxRecDepth 1000000 in
theorem wakeT : isTrue (runPF tab slow 100000 100 4 [] noRows) = true := by kernel_rfl
theorem wake : Ends Go.Proofs.Try.prog 4 (.bool true) := Ends.of_plainS (l := ents) entsOk tab_eq comp within mixed wakeT
theorem wkOk : CallOK Go.Proofs.Try.prog wk /\ ExtC wk := one_ok wake
end Go.Sh.Of
