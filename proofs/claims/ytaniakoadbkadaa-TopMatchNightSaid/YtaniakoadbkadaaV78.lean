/- Part 8 of the texts of this claim. -/
import Derived.Test.YtaniakoadbkadaaV77
import Derived.Test.YtaniakoadbkadaaV76
/- The calls of the documents' examples return what the documents say: reckoned out. -/
namespace Go.Proofs.Ytaniakoadbkadaa
open Go Go.Oc
def fs : List (FuncId × Nat) := [(24, 0), (25, 0), (20, 0), (26, 0), (34, 0), (37, 0), (38, 0), (39, 0), (45, 0), (46, 0), (47, 0), (48, 0), (49, 0), (50, 0), (51, 0), (52, 0), (53, 0), (61, 0), (63, 0), (71, 1), (72, 0), (27, 0), (54, 0), (31, 0), (56, 0), (57, 0), (58, 0), (59, 0), (73, 0)]
theorem fs_ok : allOk Try.prog fs = true := by kernel_rfl
theorem pubTeam_ok : ACalls Try.prog 10 [] (.bo true) := evalA_ok follows fs_ok (k := 2000) (by kernel_rfl) (by kernel_rfl)
end Go.Proofs.Ytaniakoadbkadaa
