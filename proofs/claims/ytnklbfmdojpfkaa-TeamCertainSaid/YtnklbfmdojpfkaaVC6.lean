/- Part 6 of the texts of this claim. -/
import Derived.Test.YtnklbfmdojpfkaaVC5
import Derived.Test.YtnklbfmdojpfkaaVC4
import Derived.KernelRfl
/- The calls of the document's examples return what the document says: reckoned out. -/
namespace Go.Proofs.Ytnklbfmdojpfkaa
open Go Go.Oc
def fs : List (FuncId × Nat) := [(16, 0), (18, 0), (26, 0), (28, 0), (29, 0), (32, 0), (34, 0), (42, 0), (43, 0), (44, 0), (45, 0), (46, 0), (47, 0), (48, 0), (49, 0), (50, 0), (51, 0), (54, 0), (55, 0), (56, 0), (57, 0), (58, 0), (59, 2), (60, 0), (61, 0), (62, 0), (63, 0), (64, 2), (68, 0), (69, 0), (70, 0), (71, 0), (72, 1), (73, 2), (74, 0), (75, 0), (76, 0), (77, 0), (78, 0), (79, 0)]
theorem fs_ok : allOk Try.prog fs = true := by kernel_rfl
theorem known_ok : ACalls Try.prog 14 [] (.bo true) := evalA_ok follows fs_ok (k := 2000) (by kernel_rfl) (by kernel_rfl)
end Go.Proofs.Ytnklbfmdojpfkaa
