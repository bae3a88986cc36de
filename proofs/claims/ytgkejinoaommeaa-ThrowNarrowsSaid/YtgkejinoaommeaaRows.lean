/-
  No cell of these rows narrows 'for every input' (looked for: loops, veiled, ifaces, maps, wideKeys, modest, calm, conditions, laid).
  DERIVED. THE GIVEN ROWS OF THIS SEAT. 10 by the template 'for every input the law returns true; each argument reads behind the call as it read before'; 0 by the template 'total and deterministic' (their statements: YtgkejinoaommeaaTotals.lean).
  GIVEN WITH THE SEED: the statements are not yours to turn. If you find one false, say at which input.
  Laid BY PROGRAM, IN A SANDBOX (cutbox-rows.mjs): the forced cells as the released guide's own fill.sh prints them over the translation 119c10f66fd52b12… (all of the seat's roots in one cut). By AI agents, Wed Nov 11 2026. No macro, syntax, notation, axiom, sorry.
-/
import Derived.Test.YtgkejinoaommeaaChecked
import GoSem.Claim
import GoSem.ClaimJoined
import GoSem.ClaimMapViews
import Derived.JoinedTies
import Derived.KernelRfl
namespace Go.Proofs.Ytgkejinoaommeaa
/- THE CELL 'sum', in the pinned program and in every row, IS THE sha256 OF THE DUMP (.gsa) THAT YtgkejinoaommeaaProg.lean LOADS. Nothing in Lean hashes anything: it is a label: what it is worth is what the hold of that sum in a sandbox is worth. -/
noncomputable def Try.pinned : Pinned := { name := "ytgkejinoaommeaa", sum := "119c10f66fd52b126189d76a6d27df724e5ee1297bd46308d1f012804020170b", checked := Try.checked }
namespace Rows
def none {H : Type} : Left H := { results := [], args := [] }

/-- 'ochelaw07.ThrowTights': WHATEVER THE INPUT: true; the input reads as it did. -/
def throwTightsSpec : ChangeSpec := { name := "throwTights", fn := fun _ => fun
  | [d] => { results := [.lit (.bool true)], args := [d] }
  | _ => none }
def throwTightsRow : OpenClaim := { program := "ytgkejinoaommeaa", sum := "119c10f66fd52b126189d76a6d27df724e5ee1297bd46308d1f012804020170b", func := "oche/ochelaw07.ThrowTights", spec := "throwTights", unfollowed := true, recurses := true, apart := false }
def ThrowTightsSaid : Prop := throwTightsRow.holds Try.pinned (OpenSpec.ofChange throwTightsSpec)

/-- ITS FALSE NEIGHBOUR: 'it returns false'. Refute it at one input. -/
def throwTightsWrong : ChangeSpec := { name := "throwTights", fn := fun _ => fun
  | [d] => { results := [.lit (.bool false)], args := [d] }
  | _ => none }
def ThrowTightsWrongFalsely : Prop := throwTightsRow.holds Try.pinned (OpenSpec.ofChange throwTightsWrong)

/-- 'ochelaw07.ThrowScores': WHATEVER THE INPUT: true; the input reads as it did. -/
def throwScoresSpec : ChangeSpec := { name := "throwScores", fn := fun _ => fun
  | [d] => { results := [.lit (.bool true)], args := [d] }
  | _ => none }
def throwScoresRow : OpenClaim := { program := "ytgkejinoaommeaa", sum := "119c10f66fd52b126189d76a6d27df724e5ee1297bd46308d1f012804020170b", func := "oche/ochelaw07.ThrowScores", spec := "throwScores", unfollowed := true, recurses := true, apart := false }
def ThrowScoresSaid : Prop := throwScoresRow.holds Try.pinned (OpenSpec.ofChange throwScoresSpec)

/-- ITS FALSE NEIGHBOUR: 'it returns false'. Refute it at one input. -/
def throwScoresWrong : ChangeSpec := { name := "throwScores", fn := fun _ => fun
  | [d] => { results := [.lit (.bool false)], args := [d] }
  | _ => none }
def ThrowScoresWrongFalsely : Prop := throwScoresRow.holds Try.pinned (OpenSpec.ofChange throwScoresWrong)

/-- 'ochelaw07.ThrowFits': WHATEVER THE INPUT: true; the input reads as it did. -/
def throwFitsSpec : ChangeSpec := { name := "throwFits", fn := fun _ => fun
  | [d1, d2] => { results := [.lit (.bool true)], args := [d1, d2] }
  | _ => none }
def throwFitsRow : OpenClaim := { program := "ytgkejinoaommeaa", sum := "119c10f66fd52b126189d76a6d27df724e5ee1297bd46308d1f012804020170b", func := "oche/ochelaw07.ThrowFits", spec := "throwFits", unfollowed := true, recurses := true, apart := false }
def ThrowFitsSaid : Prop := throwFitsRow.holds Try.pinned (OpenSpec.ofChange throwFitsSpec)

/-- ITS FALSE NEIGHBOUR: 'it returns false'. Refute it at one input. -/
def throwFitsWrong : ChangeSpec := { name := "throwFits", fn := fun _ => fun
  | [d1, d2] => { results := [.lit (.bool false)], args := [d1, d2] }
  | _ => none }
def ThrowFitsWrongFalsely : Prop := throwFitsRow.holds Try.pinned (OpenSpec.ofChange throwFitsWrong)

/-- 'ochelaw07.ThrowNarrows': WHATEVER THE INPUT: true; the input reads as it did. -/
def throwNarrowsSpec : ChangeSpec := { name := "throwNarrows", fn := fun _ => fun
  | [d1, d2] => { results := [.lit (.bool true)], args := [d1, d2] }
  | _ => none }
def throwNarrowsRow : OpenClaim := { program := "ytgkejinoaommeaa", sum := "119c10f66fd52b126189d76a6d27df724e5ee1297bd46308d1f012804020170b", func := "oche/ochelaw07.ThrowNarrows", spec := "throwNarrows", unfollowed := true, recurses := true, apart := false }
def ThrowNarrowsSaid : Prop := throwNarrowsRow.holds Try.pinned (OpenSpec.ofChange throwNarrowsSpec)

/-- ITS FALSE NEIGHBOUR: 'it returns false'. Refute it at one input. -/
def throwNarrowsWrong : ChangeSpec := { name := "throwNarrows", fn := fun _ => fun
  | [d1, d2] => { results := [.lit (.bool false)], args := [d1, d2] }
  | _ => none }
def ThrowNarrowsWrongFalsely : Prop := throwNarrowsRow.holds Try.pinned (OpenSpec.ofChange throwNarrowsWrong)

/-- 'ochelaw07.ThrowAhead': WHATEVER THE INPUT: true; the input reads as it did. -/
def throwAheadSpec : ChangeSpec := { name := "throwAhead", fn := fun _ => fun
  | [d1, d2] => { results := [.lit (.bool true)], args := [d1, d2] }
  | _ => none }
def throwAheadRow : OpenClaim := { program := "ytgkejinoaommeaa", sum := "119c10f66fd52b126189d76a6d27df724e5ee1297bd46308d1f012804020170b", func := "oche/ochelaw07.ThrowAhead", spec := "throwAhead", unfollowed := true, recurses := true, apart := false }
def ThrowAheadSaid : Prop := throwAheadRow.holds Try.pinned (OpenSpec.ofChange throwAheadSpec)

/-- ITS FALSE NEIGHBOUR: 'it returns false'. Refute it at one input. -/
def throwAheadWrong : ChangeSpec := { name := "throwAhead", fn := fun _ => fun
  | [d1, d2] => { results := [.lit (.bool false)], args := [d1, d2] }
  | _ => none }
def ThrowAheadWrongFalsely : Prop := throwAheadRow.holds Try.pinned (OpenSpec.ofChange throwAheadWrong)

/-- 'ochelaw07.ThrowSets': WHATEVER THE INPUT: true; the input reads as it did. -/
def throwSetsSpec : ChangeSpec := { name := "throwSets", fn := fun _ => fun
  | [d1, d2, d3] => { results := [.lit (.bool true)], args := [d1, d2, d3] }
  | _ => none }
def throwSetsRow : OpenClaim := { program := "ytgkejinoaommeaa", sum := "119c10f66fd52b126189d76a6d27df724e5ee1297bd46308d1f012804020170b", func := "oche/ochelaw07.ThrowSets", spec := "throwSets", unfollowed := true, recurses := true, apart := false }
def ThrowSetsSaid : Prop := throwSetsRow.holds Try.pinned (OpenSpec.ofChange throwSetsSpec)

/-- ITS FALSE NEIGHBOUR: 'it returns false'. Refute it at one input. -/
def throwSetsWrong : ChangeSpec := { name := "throwSets", fn := fun _ => fun
  | [d1, d2, d3] => { results := [.lit (.bool false)], args := [d1, d2, d3] }
  | _ => none }
def ThrowSetsWrongFalsely : Prop := throwSetsRow.holds Try.pinned (OpenSpec.ofChange throwSetsWrong)

/-- 'ochelaw07.ThrowMeans': WHATEVER THE INPUT: true; the input reads as it did. -/
def throwMeansSpec : ChangeSpec := { name := "throwMeans", fn := fun _ => fun
  | [d1, d2, d3] => { results := [.lit (.bool true)], args := [d1, d2, d3] }
  | _ => none }
def throwMeansRow : OpenClaim := { program := "ytgkejinoaommeaa", sum := "119c10f66fd52b126189d76a6d27df724e5ee1297bd46308d1f012804020170b", func := "oche/ochelaw07.ThrowMeans", spec := "throwMeans", unfollowed := true, recurses := true, apart := false }
def ThrowMeansSaid : Prop := throwMeansRow.holds Try.pinned (OpenSpec.ofChange throwMeansSpec)

/-- ITS FALSE NEIGHBOUR: 'it returns false'. Refute it at one input. -/
def throwMeansWrong : ChangeSpec := { name := "throwMeans", fn := fun _ => fun
  | [d1, d2, d3] => { results := [.lit (.bool false)], args := [d1, d2, d3] }
  | _ => none }
def ThrowMeansWrongFalsely : Prop := throwMeansRow.holds Try.pinned (OpenSpec.ofChange throwMeansWrong)

/-- 'ochelaw07.ThrowTruths': WHATEVER THE INPUT: true; the input reads as it did. -/
def throwTruthsSpec : ChangeSpec := { name := "throwTruths", fn := fun _ => fun
  | [d1, d2, d3] => { results := [.lit (.bool true)], args := [d1, d2, d3] }
  | _ => none }
def throwTruthsRow : OpenClaim := { program := "ytgkejinoaommeaa", sum := "119c10f66fd52b126189d76a6d27df724e5ee1297bd46308d1f012804020170b", func := "oche/ochelaw07.ThrowTruths", spec := "throwTruths", unfollowed := true, recurses := true, apart := false }
def ThrowTruthsSaid : Prop := throwTruthsRow.holds Try.pinned (OpenSpec.ofChange throwTruthsSpec)

/-- ITS FALSE NEIGHBOUR: 'it returns false'. Refute it at one input. -/
def throwTruthsWrong : ChangeSpec := { name := "throwTruths", fn := fun _ => fun
  | [d1, d2, d3] => { results := [.lit (.bool false)], args := [d1, d2, d3] }
  | _ => none }
def ThrowTruthsWrongFalsely : Prop := throwTruthsRow.holds Try.pinned (OpenSpec.ofChange throwTruthsWrong)

/-- 'ochelaw07.ThrowPools': WHATEVER THE INPUT: true; the input reads as it did. -/
def throwPoolsSpec : ChangeSpec := { name := "throwPools", fn := fun _ => fun
  | [d1, d2] => { results := [.lit (.bool true)], args := [d1, d2] }
  | _ => none }
def throwPoolsRow : OpenClaim := { program := "ytgkejinoaommeaa", sum := "119c10f66fd52b126189d76a6d27df724e5ee1297bd46308d1f012804020170b", func := "oche/ochelaw07.ThrowPools", spec := "throwPools", unfollowed := true, recurses := true, apart := false }
def ThrowPoolsSaid : Prop := throwPoolsRow.holds Try.pinned (OpenSpec.ofChange throwPoolsSpec)

/-- ITS FALSE NEIGHBOUR: 'it returns false'. Refute it at one input. -/
def throwPoolsWrong : ChangeSpec := { name := "throwPools", fn := fun _ => fun
  | [d1, d2] => { results := [.lit (.bool false)], args := [d1, d2] }
  | _ => none }
def ThrowPoolsWrongFalsely : Prop := throwPoolsRow.holds Try.pinned (OpenSpec.ofChange throwPoolsWrong)

/-- 'ochelaw07.ThrowPooled': WHATEVER THE INPUT: true; the input reads as it did. -/
def throwPooledSpec : ChangeSpec := { name := "throwPooled", fn := fun _ => fun
  | [d1, d2, d3] => { results := [.lit (.bool true)], args := [d1, d2, d3] }
  | _ => none }
def throwPooledRow : OpenClaim := { program := "ytgkejinoaommeaa", sum := "119c10f66fd52b126189d76a6d27df724e5ee1297bd46308d1f012804020170b", func := "oche/ochelaw07.ThrowPooled", spec := "throwPooled", unfollowed := true, recurses := true, apart := false }
def ThrowPooledSaid : Prop := throwPooledRow.holds Try.pinned (OpenSpec.ofChange throwPooledSpec)

/-- ITS FALSE NEIGHBOUR: 'it returns false'. Refute it at one input. -/
def throwPooledWrong : ChangeSpec := { name := "throwPooled", fn := fun _ => fun
  | [d1, d2, d3] => { results := [.lit (.bool false)], args := [d1, d2, d3] }
  | _ => none }
def ThrowPooledWrongFalsely : Prop := throwPooledRow.holds Try.pinned (OpenSpec.ofChange throwPooledWrong)

/- THE SECOND FORM. 'bulk': how many values and letters a reading holds, each counted each time it is reached (what is shared counts as often as it is met; a slice's spare places count too). A statement '..UptoSaid' is the law's where the arguments, and the package variables that the reading takes, are together of bulk at most 1048576: NARROWER than '..Said'. Prove '..Said' where nothing that the law and all that it calls make is longer than what came in: it says more and counts as full. Else prove '..UptoSaid'. A law counts once. -/
mutual
def uptoBulk {H : Type} : DataW H → Nat
  | .lit (.string bytes) => bytes.length + 1
  | .lit _ => 1
  | .nil => 1
  | .ptr d => uptoBulk d + 1
  | .slice elems spare => uptoBulkAll elems + uptoBulkAll spare + 1
  | .agg parts => uptoBulkAll parts + 1
  | .iface _ d => uptoBulk d + 1
  | .map entries => uptoBulkEntries entries + 1
  | .held _ => 1
def uptoBulkAll {H : Type} : List (DataW H) → Nat
  | [] => 0
  | d :: r => uptoBulk d + uptoBulkAll r
def uptoBulkEntries {H : Type} : List (Lit × DataW H) → Nat
  | [] => 0
  | x :: r => uptoBulkEntry x + uptoBulkEntries r
def uptoBulkEntry {H : Type} : Lit × DataW H → Nat
  | (.string bytes, d) => bytes.length + uptoBulk d + 1
  | (_, d) => uptoBulk d + 1
 end
def uptoSmall : (H : Type) → List (DataW H) → Bool := fun _ ds => decide (uptoBulkAll ds ≤ 1048576)
def OpenSpec.upto (s : _root_.Go.ChangeSpec) : _root_.Go.OpenSpec := { _root_.Go.OpenSpec.ofChange s with cond := some uptoSmall }

/-- 'ochelaw07.ThrowTights', WHERE WHAT IT READS IS OF BULK AT MOST 1048576: true; the input reads as it did. -/
def throwTightsUptoRow : OpenClaim := { program := "ytgkejinoaommeaa", sum := "119c10f66fd52b126189d76a6d27df724e5ee1297bd46308d1f012804020170b", func := "oche/ochelaw07.ThrowTights", spec := "throwTights", unfollowed := true, recurses := true, apart := false, narrowed := true }
def ThrowTightsUptoSaid : Prop := throwTightsUptoRow.holds Try.pinned (OpenSpec.upto throwTightsSpec)

/-- 'ochelaw07.ThrowScores', WHERE WHAT IT READS IS OF BULK AT MOST 1048576: true; the input reads as it did. -/
def throwScoresUptoRow : OpenClaim := { program := "ytgkejinoaommeaa", sum := "119c10f66fd52b126189d76a6d27df724e5ee1297bd46308d1f012804020170b", func := "oche/ochelaw07.ThrowScores", spec := "throwScores", unfollowed := true, recurses := true, apart := false, narrowed := true }
def ThrowScoresUptoSaid : Prop := throwScoresUptoRow.holds Try.pinned (OpenSpec.upto throwScoresSpec)

/-- 'ochelaw07.ThrowFits', WHERE WHAT IT READS IS OF BULK AT MOST 1048576: true; the input reads as it did. -/
def throwFitsUptoRow : OpenClaim := { program := "ytgkejinoaommeaa", sum := "119c10f66fd52b126189d76a6d27df724e5ee1297bd46308d1f012804020170b", func := "oche/ochelaw07.ThrowFits", spec := "throwFits", unfollowed := true, recurses := true, apart := false, narrowed := true }
def ThrowFitsUptoSaid : Prop := throwFitsUptoRow.holds Try.pinned (OpenSpec.upto throwFitsSpec)

/-- 'ochelaw07.ThrowNarrows', WHERE WHAT IT READS IS OF BULK AT MOST 1048576: true; the input reads as it did. -/
def throwNarrowsUptoRow : OpenClaim := { program := "ytgkejinoaommeaa", sum := "119c10f66fd52b126189d76a6d27df724e5ee1297bd46308d1f012804020170b", func := "oche/ochelaw07.ThrowNarrows", spec := "throwNarrows", unfollowed := true, recurses := true, apart := false, narrowed := true }
def ThrowNarrowsUptoSaid : Prop := throwNarrowsUptoRow.holds Try.pinned (OpenSpec.upto throwNarrowsSpec)

/-- 'ochelaw07.ThrowAhead', WHERE WHAT IT READS IS OF BULK AT MOST 1048576: true; the input reads as it did. -/
def throwAheadUptoRow : OpenClaim := { program := "ytgkejinoaommeaa", sum := "119c10f66fd52b126189d76a6d27df724e5ee1297bd46308d1f012804020170b", func := "oche/ochelaw07.ThrowAhead", spec := "throwAhead", unfollowed := true, recurses := true, apart := false, narrowed := true }
def ThrowAheadUptoSaid : Prop := throwAheadUptoRow.holds Try.pinned (OpenSpec.upto throwAheadSpec)

/-- 'ochelaw07.ThrowSets', WHERE WHAT IT READS IS OF BULK AT MOST 1048576: true; the input reads as it did. -/
def throwSetsUptoRow : OpenClaim := { program := "ytgkejinoaommeaa", sum := "119c10f66fd52b126189d76a6d27df724e5ee1297bd46308d1f012804020170b", func := "oche/ochelaw07.ThrowSets", spec := "throwSets", unfollowed := true, recurses := true, apart := false, narrowed := true }
def ThrowSetsUptoSaid : Prop := throwSetsUptoRow.holds Try.pinned (OpenSpec.upto throwSetsSpec)

/-- 'ochelaw07.ThrowMeans', WHERE WHAT IT READS IS OF BULK AT MOST 1048576: true; the input reads as it did. -/
def throwMeansUptoRow : OpenClaim := { program := "ytgkejinoaommeaa", sum := "119c10f66fd52b126189d76a6d27df724e5ee1297bd46308d1f012804020170b", func := "oche/ochelaw07.ThrowMeans", spec := "throwMeans", unfollowed := true, recurses := true, apart := false, narrowed := true }
def ThrowMeansUptoSaid : Prop := throwMeansUptoRow.holds Try.pinned (OpenSpec.upto throwMeansSpec)

/-- 'ochelaw07.ThrowTruths', WHERE WHAT IT READS IS OF BULK AT MOST 1048576: true; the input reads as it did. -/
def throwTruthsUptoRow : OpenClaim := { program := "ytgkejinoaommeaa", sum := "119c10f66fd52b126189d76a6d27df724e5ee1297bd46308d1f012804020170b", func := "oche/ochelaw07.ThrowTruths", spec := "throwTruths", unfollowed := true, recurses := true, apart := false, narrowed := true }
def ThrowTruthsUptoSaid : Prop := throwTruthsUptoRow.holds Try.pinned (OpenSpec.upto throwTruthsSpec)

/-- 'ochelaw07.ThrowPools', WHERE WHAT IT READS IS OF BULK AT MOST 1048576: true; the input reads as it did. -/
def throwPoolsUptoRow : OpenClaim := { program := "ytgkejinoaommeaa", sum := "119c10f66fd52b126189d76a6d27df724e5ee1297bd46308d1f012804020170b", func := "oche/ochelaw07.ThrowPools", spec := "throwPools", unfollowed := true, recurses := true, apart := false, narrowed := true }
def ThrowPoolsUptoSaid : Prop := throwPoolsUptoRow.holds Try.pinned (OpenSpec.upto throwPoolsSpec)

/-- 'ochelaw07.ThrowPooled', WHERE WHAT IT READS IS OF BULK AT MOST 1048576: true; the input reads as it did. -/
def throwPooledUptoRow : OpenClaim := { program := "ytgkejinoaommeaa", sum := "119c10f66fd52b126189d76a6d27df724e5ee1297bd46308d1f012804020170b", func := "oche/ochelaw07.ThrowPooled", spec := "throwPooled", unfollowed := true, recurses := true, apart := false, narrowed := true }
def ThrowPooledUptoSaid : Prop := throwPooledUptoRow.holds Try.pinned (OpenSpec.upto throwPooledSpec)

end Rows
end Go.Proofs.Ytgkejinoaommeaa
