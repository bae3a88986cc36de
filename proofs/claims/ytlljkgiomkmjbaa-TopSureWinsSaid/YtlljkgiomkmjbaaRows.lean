/-
  No cell of these rows narrows 'for every input' (looked for: loops, veiled, ifaces, maps, wideKeys, modest, calm, conditions, laid).
  DERIVED. THE GIVEN ROWS OF THIS SEAT. 6 by the template 'for every input the law returns true; each argument reads behind the call as it read before'; 0 by the template 'total and deterministic' (their statements: YtlljkgiomkmjbaaTotals.lean).
  GIVEN WITH THE SEED: the statements are not yours to turn. If you find one false, say at which input.
  Laid BY PROGRAM, IN A SANDBOX (cutbox-rows.mjs): the forced cells as the released guide's own fill.sh prints them over the translation 2a7dee527c94de81… (all of the seat's roots in one cut). By AI agents, Wed Nov 11 2026. No macro, syntax, notation, axiom, sorry.
-/
import Derived.Test.YtlljkgiomkmjbaaChecked
import GoSem.Claim
import GoSem.ClaimJoined
import GoSem.ClaimMapViews
import Derived.JoinedTies
import Derived.KernelRfl
namespace Go.Proofs.Ytlljkgiomkmjbaa
/- THE CELL 'sum', in the pinned program and in every row, IS THE sha256 OF THE DUMP (.gsa) THAT YtlljkgiomkmjbaaProg.lean LOADS. Nothing in Lean hashes anything: it is a label: what it is worth is what the hold of that sum in a sandbox is worth. -/
noncomputable def Try.pinned : Pinned := { name := "ytlljkgiomkmjbaa", sum := "2a7dee527c94de812144a0a2aebc531a5b8147a7db096631ad906beb3f5b261d", checked := Try.checked }
namespace Rows
def none {H : Type} : Left H := { results := [], args := [] }

/-- 'ochetop.TopDuelStake': WHATEVER THE INPUT: true; the input reads as it did. -/
def topDuelStakeSpec : ChangeSpec := { name := "topDuelStake", fn := fun _ => fun
  | [d1, d2, d3] => { results := [.lit (.bool true)], args := [d1, d2, d3] }
  | _ => none }
def topDuelStakeRow : OpenClaim := { program := "ytlljkgiomkmjbaa", sum := "2a7dee527c94de812144a0a2aebc531a5b8147a7db096631ad906beb3f5b261d", func := "oche/ochetop.TopDuelStake", spec := "topDuelStake", unfollowed := true, recurses := true, plainKeys := false, apart := false }
def TopDuelStakeSaid : Prop := topDuelStakeRow.holds Try.pinned (OpenSpec.ofChange topDuelStakeSpec)

/-- ITS FALSE NEIGHBOUR: 'it returns false'. Refute it at one input. -/
def topDuelStakeWrong : ChangeSpec := { name := "topDuelStake", fn := fun _ => fun
  | [d1, d2, d3] => { results := [.lit (.bool false)], args := [d1, d2, d3] }
  | _ => none }
def TopDuelStakeWrongFalsely : Prop := topDuelStakeRow.holds Try.pinned (OpenSpec.ofChange topDuelStakeWrong)

/-- 'ochetop.TopOutMean': WHATEVER THE INPUT: true; the input reads as it did. -/
def topOutMeanSpec : ChangeSpec := { name := "topOutMean", fn := fun _ => fun
  | [d1, d2, d3] => { results := [.lit (.bool true)], args := [d1, d2, d3] }
  | _ => none }
def topOutMeanRow : OpenClaim := { program := "ytlljkgiomkmjbaa", sum := "2a7dee527c94de812144a0a2aebc531a5b8147a7db096631ad906beb3f5b261d", func := "oche/ochetop.TopOutMean", spec := "topOutMean", unfollowed := true, recurses := true, plainKeys := false, apart := false }
def TopOutMeanSaid : Prop := topOutMeanRow.holds Try.pinned (OpenSpec.ofChange topOutMeanSpec)

/-- ITS FALSE NEIGHBOUR: 'it returns false'. Refute it at one input. -/
def topOutMeanWrong : ChangeSpec := { name := "topOutMean", fn := fun _ => fun
  | [d1, d2, d3] => { results := [.lit (.bool false)], args := [d1, d2, d3] }
  | _ => none }
def TopOutMeanWrongFalsely : Prop := topOutMeanRow.holds Try.pinned (OpenSpec.ofChange topOutMeanWrong)

/-- 'ochetop.TopThrowDuel': WHATEVER THE INPUT: true; the input reads as it did. -/
def topThrowDuelSpec : ChangeSpec := { name := "topThrowDuel", fn := fun _ => fun
  | [d1, d2, d3] => { results := [.lit (.bool true)], args := [d1, d2, d3] }
  | _ => none }
def topThrowDuelRow : OpenClaim := { program := "ytlljkgiomkmjbaa", sum := "2a7dee527c94de812144a0a2aebc531a5b8147a7db096631ad906beb3f5b261d", func := "oche/ochetop.TopThrowDuel", spec := "topThrowDuel", unfollowed := true, recurses := true, plainKeys := false, apart := false }
def TopThrowDuelSaid : Prop := topThrowDuelRow.holds Try.pinned (OpenSpec.ofChange topThrowDuelSpec)

/-- ITS FALSE NEIGHBOUR: 'it returns false'. Refute it at one input. -/
def topThrowDuelWrong : ChangeSpec := { name := "topThrowDuel", fn := fun _ => fun
  | [d1, d2, d3] => { results := [.lit (.bool false)], args := [d1, d2, d3] }
  | _ => none }
def TopThrowDuelWrongFalsely : Prop := topThrowDuelRow.holds Try.pinned (OpenSpec.ofChange topThrowDuelWrong)

/-- 'ochetop.TopSureWins': WHATEVER THE INPUT: true; the input reads as it did. -/
def topSureWinsSpec : ChangeSpec := { name := "topSureWins", fn := fun _ => fun
  | [d1, d2] => { results := [.lit (.bool true)], args := [d1, d2] }
  | _ => none }
def topSureWinsRow : OpenClaim := { program := "ytlljkgiomkmjbaa", sum := "2a7dee527c94de812144a0a2aebc531a5b8147a7db096631ad906beb3f5b261d", func := "oche/ochetop.TopSureWins", spec := "topSureWins", unfollowed := true, recurses := true, plainKeys := false, apart := false }
def TopSureWinsSaid : Prop := topSureWinsRow.holds Try.pinned (OpenSpec.ofChange topSureWinsSpec)

/-- ITS FALSE NEIGHBOUR: 'it returns false'. Refute it at one input. -/
def topSureWinsWrong : ChangeSpec := { name := "topSureWins", fn := fun _ => fun
  | [d1, d2] => { results := [.lit (.bool false)], args := [d1, d2] }
  | _ => none }
def TopSureWinsWrongFalsely : Prop := topSureWinsRow.holds Try.pinned (OpenSpec.ofChange topSureWinsWrong)

/-- 'ochetop.TopFitDuel': WHATEVER THE INPUT: true; the input reads as it did. -/
def topFitDuelSpec : ChangeSpec := { name := "topFitDuel", fn := fun _ => fun
  | [d1, d2, d3] => { results := [.lit (.bool true)], args := [d1, d2, d3] }
  | _ => none }
def topFitDuelRow : OpenClaim := { program := "ytlljkgiomkmjbaa", sum := "2a7dee527c94de812144a0a2aebc531a5b8147a7db096631ad906beb3f5b261d", func := "oche/ochetop.TopFitDuel", spec := "topFitDuel", unfollowed := true, recurses := true, plainKeys := false, apart := false }
def TopFitDuelSaid : Prop := topFitDuelRow.holds Try.pinned (OpenSpec.ofChange topFitDuelSpec)

/-- ITS FALSE NEIGHBOUR: 'it returns false'. Refute it at one input. -/
def topFitDuelWrong : ChangeSpec := { name := "topFitDuel", fn := fun _ => fun
  | [d1, d2, d3] => { results := [.lit (.bool false)], args := [d1, d2, d3] }
  | _ => none }
def TopFitDuelWrongFalsely : Prop := topFitDuelRow.holds Try.pinned (OpenSpec.ofChange topFitDuelWrong)

/-- 'ochetop.TopNightTable': WHATEVER THE INPUT: true; the input reads as it did. -/
def topNightTableSpec : ChangeSpec := { name := "topNightTable", fn := fun _ => fun
  | [d] => { results := [.lit (.bool true)], args := [d] }
  | _ => none }
def topNightTableRow : OpenClaim := { program := "ytlljkgiomkmjbaa", sum := "2a7dee527c94de812144a0a2aebc531a5b8147a7db096631ad906beb3f5b261d", func := "oche/ochetop.TopNightTable", spec := "topNightTable", unfollowed := true, recurses := true, plainKeys := false, apart := false }
def TopNightTableSaid : Prop := topNightTableRow.holds Try.pinned (OpenSpec.ofChange topNightTableSpec)

/-- ITS FALSE NEIGHBOUR: 'it returns false'. Refute it at one input. -/
def topNightTableWrong : ChangeSpec := { name := "topNightTable", fn := fun _ => fun
  | [d] => { results := [.lit (.bool false)], args := [d] }
  | _ => none }
def TopNightTableWrongFalsely : Prop := topNightTableRow.holds Try.pinned (OpenSpec.ofChange topNightTableWrong)

/- THE SECOND FORM. 'bulk': how many values and letters a reading holds, each counted each time it is reached (what is shared counts as often as it is met; a slice's spare places count too). A statement '..UptoSaid' is the law's where the arguments, and the package variables that the reading takes, are together of bulk at most 1048576: NARROWER than '..Said'. Prove '..Said' where nothing that the law and all that it calls make is longer than what came in: it says more and counts as full. Else prove '..UptoSaid'. A law counts once. -/
mutual
def uptoBulk {H : Type} : DataW H → Nat
  | .lit (.string bytes) => bytes.length + 1
  | .lit _ => 1
  | .nil => 1
  | .ptr d => uptoBulk d + 1
  | .slice elems spare => uptoBulkAll elems + uptoBulkAll spare + 1
  | .agg parts => uptoBulkAll parts + 1
  | .iface _ d => uptoBulk d + 1
  | .map entries => uptoBulkEntries entries + 1
  | .held _ => 1
def uptoBulkAll {H : Type} : List (DataW H) → Nat
  | [] => 0
  | d :: r => uptoBulk d + uptoBulkAll r
def uptoBulkEntries {H : Type} : List (Lit × DataW H) → Nat
  | [] => 0
  | x :: r => uptoBulkEntry x + uptoBulkEntries r
def uptoBulkEntry {H : Type} : Lit × DataW H → Nat
  | (.string bytes, d) => bytes.length + uptoBulk d + 1
  | (_, d) => uptoBulk d + 1
 end
def uptoSmall : (H : Type) → List (DataW H) → Bool := fun _ ds => decide (uptoBulkAll ds ≤ 1048576)
def OpenSpec.upto (s : _root_.Go.ChangeSpec) : _root_.Go.OpenSpec := { _root_.Go.OpenSpec.ofChange s with cond := some uptoSmall }

/-- 'ochetop.TopDuelStake', WHERE WHAT IT READS IS OF BULK AT MOST 1048576: true; the input reads as it did. -/
def topDuelStakeUptoRow : OpenClaim := { program := "ytlljkgiomkmjbaa", sum := "2a7dee527c94de812144a0a2aebc531a5b8147a7db096631ad906beb3f5b261d", func := "oche/ochetop.TopDuelStake", spec := "topDuelStake", unfollowed := true, recurses := true, plainKeys := false, apart := false, narrowed := true }
def TopDuelStakeUptoSaid : Prop := topDuelStakeUptoRow.holds Try.pinned (OpenSpec.upto topDuelStakeSpec)

/-- 'ochetop.TopOutMean', WHERE WHAT IT READS IS OF BULK AT MOST 1048576: true; the input reads as it did. -/
def topOutMeanUptoRow : OpenClaim := { program := "ytlljkgiomkmjbaa", sum := "2a7dee527c94de812144a0a2aebc531a5b8147a7db096631ad906beb3f5b261d", func := "oche/ochetop.TopOutMean", spec := "topOutMean", unfollowed := true, recurses := true, plainKeys := false, apart := false, narrowed := true }
def TopOutMeanUptoSaid : Prop := topOutMeanUptoRow.holds Try.pinned (OpenSpec.upto topOutMeanSpec)

/-- 'ochetop.TopThrowDuel', WHERE WHAT IT READS IS OF BULK AT MOST 1048576: true; the input reads as it did. -/
def topThrowDuelUptoRow : OpenClaim := { program := "ytlljkgiomkmjbaa", sum := "2a7dee527c94de812144a0a2aebc531a5b8147a7db096631ad906beb3f5b261d", func := "oche/ochetop.TopThrowDuel", spec := "topThrowDuel", unfollowed := true, recurses := true, plainKeys := false, apart := false, narrowed := true }
def TopThrowDuelUptoSaid : Prop := topThrowDuelUptoRow.holds Try.pinned (OpenSpec.upto topThrowDuelSpec)

/-- 'ochetop.TopSureWins', WHERE WHAT IT READS IS OF BULK AT MOST 1048576: true; the input reads as it did. -/
def topSureWinsUptoRow : OpenClaim := { program := "ytlljkgiomkmjbaa", sum := "2a7dee527c94de812144a0a2aebc531a5b8147a7db096631ad906beb3f5b261d", func := "oche/ochetop.TopSureWins", spec := "topSureWins", unfollowed := true, recurses := true, plainKeys := false, apart := false, narrowed := true }
def TopSureWinsUptoSaid : Prop := topSureWinsUptoRow.holds Try.pinned (OpenSpec.upto topSureWinsSpec)

/-- 'ochetop.TopFitDuel', WHERE WHAT IT READS IS OF BULK AT MOST 1048576: true; the input reads as it did. -/
def topFitDuelUptoRow : OpenClaim := { program := "ytlljkgiomkmjbaa", sum := "2a7dee527c94de812144a0a2aebc531a5b8147a7db096631ad906beb3f5b261d", func := "oche/ochetop.TopFitDuel", spec := "topFitDuel", unfollowed := true, recurses := true, plainKeys := false, apart := false, narrowed := true }
def TopFitDuelUptoSaid : Prop := topFitDuelUptoRow.holds Try.pinned (OpenSpec.upto topFitDuelSpec)

/-- 'ochetop.TopNightTable', WHERE WHAT IT READS IS OF BULK AT MOST 1048576: true; the input reads as it did. -/
def topNightTableUptoRow : OpenClaim := { program := "ytlljkgiomkmjbaa", sum := "2a7dee527c94de812144a0a2aebc531a5b8147a7db096631ad906beb3f5b261d", func := "oche/ochetop.TopNightTable", spec := "topNightTable", unfollowed := true, recurses := true, plainKeys := false, apart := false, narrowed := true }
def TopNightTableUptoSaid : Prop := topNightTableUptoRow.holds Try.pinned (OpenSpec.upto topNightTableSpec)

end Rows
end Go.Proofs.Ytlljkgiomkmjbaa
