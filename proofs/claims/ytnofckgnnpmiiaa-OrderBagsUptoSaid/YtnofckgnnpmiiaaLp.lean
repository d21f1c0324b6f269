/- What the plain functions make of the lists that 'lives' asks. -/
import Derived.Test.YtnofckgnnpmiiaaRf
import Derived.Test.YtnofckgnnpmiiaaTw
import Derived.Test.YtnofckgnnpmiiaaHp
import Derived.Test.YtnofckgnnpmiiaaSe
namespace Go.Proofs.Ytnofckgnnpmiiaa
def lvL : List Item := [(3, 0), (-1, 0), (2, 0), (1, 0), (-2, 0)]
def lvS : List Item := [(-1, 0), (1, 0), (2, 0), (-2, 0), (3, 0)]
theorem lv1 : addL (byC 0) [] 0 lvL = [((-2, 0), 4), ((-1, 0), 1), ((2, 0), 2), ((3, 0), 0), ((1, 0), 3)] := by kernel_rfl
theorem lv2 : stepsL (byC 1) lvL 3 = lvS := by kernel_rfl
theorem lv3 : bsearch (byC 1) ((2, 0) : Item) lvS 0 5 = 2 := by kernel_rfl
theorem lv4 : alikeAt (byC 1) ((2, 0) : Item) lvS 2 = true := by kernel_rfl
theorem lv5 : twF (byPlace (byC 1) lvL) (stepsL (byPlace (byC 1) lvL) (List.finRange 5) 3) 4 = 3 := by kernel_rfl
end Go.Proofs.Ytnofckgnnpmiiaa
