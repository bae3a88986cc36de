/-
  No cell of these rows narrows 'for every input' (looked for: loops, veiled, ifaces, maps, wideKeys, modest, calm, conditions, laid).
  DERIVED. THE GIVEN ROWS OF THIS SEAT. 12 by the template 'for every input the law returns true; each argument reads behind the call as it read before'; 0 by the template 'total and deterministic' (their statements: YtobokbhpeaakjaaTotals.lean).
  GIVEN WITH THE SEED: the statements are not yours to turn. If you find one false, say at which input.
  Laid BY PROGRAM, IN A SANDBOX (cutbox-rows.mjs): the forced cells as the released guide's own fill.sh prints them over the translation 0c3593060cd4d589… (all of the seat's roots in one cut). By AI agents, Wed Nov 11 2026. No macro, syntax, notation, axiom, sorry.
-/
import Derived.Test.YtobokbhpeaakjaaChecked
import GoSem.Claim
import GoSem.ClaimJoined
import GoSem.ClaimMapViews
import Derived.JoinedTies
import Derived.KernelRfl
namespace Go.Proofs.Ytobokbhpeaakjaa
/- THE CELL 'sum', in the pinned program and in every row, IS THE sha256 OF THE DUMP (.gsa) THAT YtobokbhpeaakjaaProg.lean LOADS. Nothing in Lean hashes anything: it is a label: what it is worth is what the hold of that sum in a sandbox is worth. -/
noncomputable def Try.pinned : Pinned := { name := "ytobokbhpeaakjaa", sum := "0c3593060cd4d5890c4ed06ff6f0ad5a0a14543641b54e80dc79044adae5443e", checked := Try.checked }
namespace Rows
def none {H : Type} : Left H := { results := [], args := [] }

/-- 'ochetop.TopKnockBracket': WHATEVER THE INPUT: true; the input reads as it did. -/
def topKnockBracketSpec : ChangeSpec := { name := "topKnockBracket", fn := fun _ => fun
  | [d1, d2] => { results := [.lit (.bool true)], args := [d1, d2] }
  | _ => none }
def topKnockBracketRow : OpenClaim := { program := "ytobokbhpeaakjaa", sum := "0c3593060cd4d5890c4ed06ff6f0ad5a0a14543641b54e80dc79044adae5443e", func := "oche/ochetop.TopKnockBracket", spec := "topKnockBracket", unfollowed := true, recurses := true, apart := false }
def TopKnockBracketSaid : Prop := topKnockBracketRow.holds Try.pinned (OpenSpec.ofChange topKnockBracketSpec)

/-- ITS FALSE NEIGHBOUR: 'it returns false'. Refute it at one input. -/
def topKnockBracketWrong : ChangeSpec := { name := "topKnockBracket", fn := fun _ => fun
  | [d1, d2] => { results := [.lit (.bool false)], args := [d1, d2] }
  | _ => none }
def TopKnockBracketWrongFalsely : Prop := topKnockBracketRow.holds Try.pinned (OpenSpec.ofChange topKnockBracketWrong)

/-- 'ochelaw11.TableTables': WHATEVER THE INPUT: true; the input reads as it did. -/
def tableTablesSpec : ChangeSpec := { name := "tableTables", fn := fun _ => fun
  | [d1, d2] => { results := [.lit (.bool true)], args := [d1, d2] }
  | _ => none }
def tableTablesRow : OpenClaim := { program := "ytobokbhpeaakjaa", sum := "0c3593060cd4d5890c4ed06ff6f0ad5a0a14543641b54e80dc79044adae5443e", func := "oche/ochelaw11.TableTables", spec := "tableTables", unfollowed := true, recurses := true, apart := false }
def TableTablesSaid : Prop := tableTablesRow.holds Try.pinned (OpenSpec.ofChange tableTablesSpec)

/-- ITS FALSE NEIGHBOUR: 'it returns false'. Refute it at one input. -/
def tableTablesWrong : ChangeSpec := { name := "tableTables", fn := fun _ => fun
  | [d1, d2] => { results := [.lit (.bool false)], args := [d1, d2] }
  | _ => none }
def TableTablesWrongFalsely : Prop := tableTablesRow.holds Try.pinned (OpenSpec.ofChange tableTablesWrong)

/-- 'ochelaw11.TableWays': WHATEVER THE INPUT: true; the input reads as it did. -/
def tableWaysSpec : ChangeSpec := { name := "tableWays", fn := fun _ => fun
  | [d1, d2, d3] => { results := [.lit (.bool true)], args := [d1, d2, d3] }
  | _ => none }
def tableWaysRow : OpenClaim := { program := "ytobokbhpeaakjaa", sum := "0c3593060cd4d5890c4ed06ff6f0ad5a0a14543641b54e80dc79044adae5443e", func := "oche/ochelaw11.TableWays", spec := "tableWays", unfollowed := true, recurses := true, apart := false }
def TableWaysSaid : Prop := tableWaysRow.holds Try.pinned (OpenSpec.ofChange tableWaysSpec)

/-- ITS FALSE NEIGHBOUR: 'it returns false'. Refute it at one input. -/
def tableWaysWrong : ChangeSpec := { name := "tableWays", fn := fun _ => fun
  | [d1, d2, d3] => { results := [.lit (.bool false)], args := [d1, d2, d3] }
  | _ => none }
def TableWaysWrongFalsely : Prop := tableWaysRow.holds Try.pinned (OpenSpec.ofChange tableWaysWrong)

/-- 'ochelaw11.TableSums': WHATEVER THE INPUT: true; the input reads as it did. -/
def tableSumsSpec : ChangeSpec := { name := "tableSums", fn := fun _ => fun
  | [d1, d2] => { results := [.lit (.bool true)], args := [d1, d2] }
  | _ => none }
def tableSumsRow : OpenClaim := { program := "ytobokbhpeaakjaa", sum := "0c3593060cd4d5890c4ed06ff6f0ad5a0a14543641b54e80dc79044adae5443e", func := "oche/ochelaw11.TableSums", spec := "tableSums", unfollowed := true, recurses := true, apart := false }
def TableSumsSaid : Prop := tableSumsRow.holds Try.pinned (OpenSpec.ofChange tableSumsSpec)

/-- ITS FALSE NEIGHBOUR: 'it returns false'. Refute it at one input. -/
def tableSumsWrong : ChangeSpec := { name := "tableSums", fn := fun _ => fun
  | [d1, d2] => { results := [.lit (.bool false)], args := [d1, d2] }
  | _ => none }
def TableSumsWrongFalsely : Prop := tableSumsRow.holds Try.pinned (OpenSpec.ofChange tableSumsWrong)

/-- 'ochelaw11.TableAny': WHATEVER THE INPUT: true; the input reads as it did. -/
def tableAnySpec : ChangeSpec := { name := "tableAny", fn := fun _ => fun
  | [d1, d2, d3] => { results := [.lit (.bool true)], args := [d1, d2, d3] }
  | _ => none }
def tableAnyRow : OpenClaim := { program := "ytobokbhpeaakjaa", sum := "0c3593060cd4d5890c4ed06ff6f0ad5a0a14543641b54e80dc79044adae5443e", func := "oche/ochelaw11.TableAny", spec := "tableAny", unfollowed := true, recurses := true, apart := false }
def TableAnySaid : Prop := tableAnyRow.holds Try.pinned (OpenSpec.ofChange tableAnySpec)

/-- ITS FALSE NEIGHBOUR: 'it returns false'. Refute it at one input. -/
def tableAnyWrong : ChangeSpec := { name := "tableAny", fn := fun _ => fun
  | [d1, d2, d3] => { results := [.lit (.bool false)], args := [d1, d2, d3] }
  | _ => none }
def TableAnyWrongFalsely : Prop := tableAnyRow.holds Try.pinned (OpenSpec.ofChange tableAnyWrong)

/-- 'ochelaw11.TableMagic': WHATEVER THE INPUT: true; the input reads as it did. -/
def tableMagicSpec : ChangeSpec := { name := "tableMagic", fn := fun _ => fun
  | [d1, d2, d3] => { results := [.lit (.bool true)], args := [d1, d2, d3] }
  | _ => none }
def tableMagicRow : OpenClaim := { program := "ytobokbhpeaakjaa", sum := "0c3593060cd4d5890c4ed06ff6f0ad5a0a14543641b54e80dc79044adae5443e", func := "oche/ochelaw11.TableMagic", spec := "tableMagic", unfollowed := true, recurses := true, apart := false }
def TableMagicSaid : Prop := tableMagicRow.holds Try.pinned (OpenSpec.ofChange tableMagicSpec)

/-- ITS FALSE NEIGHBOUR: 'it returns false'. Refute it at one input. -/
def tableMagicWrong : ChangeSpec := { name := "tableMagic", fn := fun _ => fun
  | [d1, d2, d3] => { results := [.lit (.bool false)], args := [d1, d2, d3] }
  | _ => none }
def TableMagicWrongFalsely : Prop := tableMagicRow.holds Try.pinned (OpenSpec.ofChange tableMagicWrong)

/-- 'ochelaw11.TablePlaces': WHATEVER THE INPUT: true; the input reads as it did. -/
def tablePlacesSpec : ChangeSpec := { name := "tablePlaces", fn := fun _ => fun
  | [d1, d2] => { results := [.lit (.bool true)], args := [d1, d2] }
  | _ => none }
def tablePlacesRow : OpenClaim := { program := "ytobokbhpeaakjaa", sum := "0c3593060cd4d5890c4ed06ff6f0ad5a0a14543641b54e80dc79044adae5443e", func := "oche/ochelaw11.TablePlaces", spec := "tablePlaces", unfollowed := true, recurses := true, apart := false }
def TablePlacesSaid : Prop := tablePlacesRow.holds Try.pinned (OpenSpec.ofChange tablePlacesSpec)

/-- ITS FALSE NEIGHBOUR: 'it returns false'. Refute it at one input. -/
def tablePlacesWrong : ChangeSpec := { name := "tablePlaces", fn := fun _ => fun
  | [d1, d2] => { results := [.lit (.bool false)], args := [d1, d2] }
  | _ => none }
def TablePlacesWrongFalsely : Prop := tablePlacesRow.holds Try.pinned (OpenSpec.ofChange tablePlacesWrong)

/-- 'ochelaw11.TableSure': WHATEVER THE INPUT: true; the input reads as it did. -/
def tableSureSpec : ChangeSpec := { name := "tableSure", fn := fun _ => fun
  | [d1, d2] => { results := [.lit (.bool true)], args := [d1, d2] }
  | _ => none }
def tableSureRow : OpenClaim := { program := "ytobokbhpeaakjaa", sum := "0c3593060cd4d5890c4ed06ff6f0ad5a0a14543641b54e80dc79044adae5443e", func := "oche/ochelaw11.TableSure", spec := "tableSure", unfollowed := true, recurses := true, apart := false }
def TableSureSaid : Prop := tableSureRow.holds Try.pinned (OpenSpec.ofChange tableSureSpec)

/-- ITS FALSE NEIGHBOUR: 'it returns false'. Refute it at one input. -/
def tableSureWrong : ChangeSpec := { name := "tableSure", fn := fun _ => fun
  | [d1, d2] => { results := [.lit (.bool false)], args := [d1, d2] }
  | _ => none }
def TableSureWrongFalsely : Prop := tableSureRow.holds Try.pinned (OpenSpec.ofChange tableSureWrong)

/-- 'ochelaw11.TableNights': WHATEVER THE INPUT: true; the input reads as it did. -/
def tableNightsSpec : ChangeSpec := { name := "tableNights", fn := fun _ => fun
  | [d1, d2, d3] => { results := [.lit (.bool true)], args := [d1, d2, d3] }
  | _ => none }
def tableNightsRow : OpenClaim := { program := "ytobokbhpeaakjaa", sum := "0c3593060cd4d5890c4ed06ff6f0ad5a0a14543641b54e80dc79044adae5443e", func := "oche/ochelaw11.TableNights", spec := "tableNights", unfollowed := true, recurses := true, apart := false }
def TableNightsSaid : Prop := tableNightsRow.holds Try.pinned (OpenSpec.ofChange tableNightsSpec)

/-- ITS FALSE NEIGHBOUR: 'it returns false'. Refute it at one input. -/
def tableNightsWrong : ChangeSpec := { name := "tableNights", fn := fun _ => fun
  | [d1, d2, d3] => { results := [.lit (.bool false)], args := [d1, d2, d3] }
  | _ => none }
def TableNightsWrongFalsely : Prop := tableNightsRow.holds Try.pinned (OpenSpec.ofChange tableNightsWrong)

/-- 'ochelaw11.TableEach': WHATEVER THE INPUT: true; the input reads as it did. -/
def tableEachSpec : ChangeSpec := { name := "tableEach", fn := fun _ => fun
  | [d1, d2, d3] => { results := [.lit (.bool true)], args := [d1, d2, d3] }
  | _ => none }
def tableEachRow : OpenClaim := { program := "ytobokbhpeaakjaa", sum := "0c3593060cd4d5890c4ed06ff6f0ad5a0a14543641b54e80dc79044adae5443e", func := "oche/ochelaw11.TableEach", spec := "tableEach", unfollowed := true, recurses := true, apart := false }
def TableEachSaid : Prop := tableEachRow.holds Try.pinned (OpenSpec.ofChange tableEachSpec)

/-- ITS FALSE NEIGHBOUR: 'it returns false'. Refute it at one input. -/
def tableEachWrong : ChangeSpec := { name := "tableEach", fn := fun _ => fun
  | [d1, d2, d3] => { results := [.lit (.bool false)], args := [d1, d2, d3] }
  | _ => none }
def TableEachWrongFalsely : Prop := tableEachRow.holds Try.pinned (OpenSpec.ofChange tableEachWrong)

/-- 'ochetop.TopPlacePrizes': WHATEVER THE INPUT: true; the input reads as it did. -/
def topPlacePrizesSpec : ChangeSpec := { name := "topPlacePrizes", fn := fun _ => fun
  | [d1, d2, d3] => { results := [.lit (.bool true)], args := [d1, d2, d3] }
  | _ => none }
def topPlacePrizesRow : OpenClaim := { program := "ytobokbhpeaakjaa", sum := "0c3593060cd4d5890c4ed06ff6f0ad5a0a14543641b54e80dc79044adae5443e", func := "oche/ochetop.TopPlacePrizes", spec := "topPlacePrizes", unfollowed := true, recurses := true, apart := false }
def TopPlacePrizesSaid : Prop := topPlacePrizesRow.holds Try.pinned (OpenSpec.ofChange topPlacePrizesSpec)

/-- ITS FALSE NEIGHBOUR: 'it returns false'. Refute it at one input. -/
def topPlacePrizesWrong : ChangeSpec := { name := "topPlacePrizes", fn := fun _ => fun
  | [d1, d2, d3] => { results := [.lit (.bool false)], args := [d1, d2, d3] }
  | _ => none }
def TopPlacePrizesWrongFalsely : Prop := topPlacePrizesRow.holds Try.pinned (OpenSpec.ofChange topPlacePrizesWrong)

/-- 'ochetop.TopTablePrizes': WHATEVER THE INPUT: true; the input reads as it did. -/
def topTablePrizesSpec : ChangeSpec := { name := "topTablePrizes", fn := fun _ => fun
  | [d1, d2, d3] => { results := [.lit (.bool true)], args := [d1, d2, d3] }
  | _ => none }
def topTablePrizesRow : OpenClaim := { program := "ytobokbhpeaakjaa", sum := "0c3593060cd4d5890c4ed06ff6f0ad5a0a14543641b54e80dc79044adae5443e", func := "oche/ochetop.TopTablePrizes", spec := "topTablePrizes", unfollowed := true, recurses := true, apart := false }
def TopTablePrizesSaid : Prop := topTablePrizesRow.holds Try.pinned (OpenSpec.ofChange topTablePrizesSpec)

/-- ITS FALSE NEIGHBOUR: 'it returns false'. Refute it at one input. -/
def topTablePrizesWrong : ChangeSpec := { name := "topTablePrizes", fn := fun _ => fun
  | [d1, d2, d3] => { results := [.lit (.bool false)], args := [d1, d2, d3] }
  | _ => none }
def TopTablePrizesWrongFalsely : Prop := topTablePrizesRow.holds Try.pinned (OpenSpec.ofChange topTablePrizesWrong)

/- THE SECOND FORM. 'bulk': how many values and letters a reading holds, each counted each time it is reached (what is shared counts as often as it is met; a slice's spare places count too). A statement '..UptoSaid' is the law's where the arguments, and the package variables that the reading takes, are together of bulk at most 1048576: NARROWER than '..Said'. Prove '..Said' where nothing that the law and all that it calls make is longer than what came in: it says more and counts as full. Else prove '..UptoSaid'. A law counts once. -/
mutual
def uptoBulk {H : Type} : DataW H → Nat
  | .lit (.string bytes) => bytes.length + 1
  | .lit _ => 1
  | .nil => 1
  | .ptr d => uptoBulk d + 1
  | .slice elems spare => uptoBulkAll elems + uptoBulkAll spare + 1
  | .agg parts => uptoBulkAll parts + 1
  | .iface _ d => uptoBulk d + 1
  | .map entries => uptoBulkEntries entries + 1
  | .held _ => 1
def uptoBulkAll {H : Type} : List (DataW H) → Nat
  | [] => 0
  | d :: r => uptoBulk d + uptoBulkAll r
def uptoBulkEntries {H : Type} : List (Lit × DataW H) → Nat
  | [] => 0
  | x :: r => uptoBulkEntry x + uptoBulkEntries r
def uptoBulkEntry {H : Type} : Lit × DataW H → Nat
  | (.string bytes, d) => bytes.length + uptoBulk d + 1
  | (_, d) => uptoBulk d + 1
 end
def uptoSmall : (H : Type) → List (DataW H) → Bool := fun _ ds => decide (uptoBulkAll ds ≤ 1048576)
def OpenSpec.upto (s : _root_.Go.ChangeSpec) : _root_.Go.OpenSpec := { _root_.Go.OpenSpec.ofChange s with cond := some uptoSmall }

/-- 'ochetop.TopKnockBracket', WHERE WHAT IT READS IS OF BULK AT MOST 1048576: true; the input reads as it did. -/
def topKnockBracketUptoRow : OpenClaim := { program := "ytobokbhpeaakjaa", sum := "0c3593060cd4d5890c4ed06ff6f0ad5a0a14543641b54e80dc79044adae5443e", func := "oche/ochetop.TopKnockBracket", spec := "topKnockBracket", unfollowed := true, recurses := true, apart := false, narrowed := true }
def TopKnockBracketUptoSaid : Prop := topKnockBracketUptoRow.holds Try.pinned (OpenSpec.upto topKnockBracketSpec)

/-- 'ochelaw11.TableTables', WHERE WHAT IT READS IS OF BULK AT MOST 1048576: true; the input reads as it did. -/
def tableTablesUptoRow : OpenClaim := { program := "ytobokbhpeaakjaa", sum := "0c3593060cd4d5890c4ed06ff6f0ad5a0a14543641b54e80dc79044adae5443e", func := "oche/ochelaw11.TableTables", spec := "tableTables", unfollowed := true, recurses := true, apart := false, narrowed := true }
def TableTablesUptoSaid : Prop := tableTablesUptoRow.holds Try.pinned (OpenSpec.upto tableTablesSpec)

/-- 'ochelaw11.TableWays', WHERE WHAT IT READS IS OF BULK AT MOST 1048576: true; the input reads as it did. -/
def tableWaysUptoRow : OpenClaim := { program := "ytobokbhpeaakjaa", sum := "0c3593060cd4d5890c4ed06ff6f0ad5a0a14543641b54e80dc79044adae5443e", func := "oche/ochelaw11.TableWays", spec := "tableWays", unfollowed := true, recurses := true, apart := false, narrowed := true }
def TableWaysUptoSaid : Prop := tableWaysUptoRow.holds Try.pinned (OpenSpec.upto tableWaysSpec)

/-- 'ochelaw11.TableSums', WHERE WHAT IT READS IS OF BULK AT MOST 1048576: true; the input reads as it did. -/
def tableSumsUptoRow : OpenClaim := { program := "ytobokbhpeaakjaa", sum := "0c3593060cd4d5890c4ed06ff6f0ad5a0a14543641b54e80dc79044adae5443e", func := "oche/ochelaw11.TableSums", spec := "tableSums", unfollowed := true, recurses := true, apart := false, narrowed := true }
def TableSumsUptoSaid : Prop := tableSumsUptoRow.holds Try.pinned (OpenSpec.upto tableSumsSpec)

/-- 'ochelaw11.TableAny', WHERE WHAT IT READS IS OF BULK AT MOST 1048576: true; the input reads as it did. -/
def tableAnyUptoRow : OpenClaim := { program := "ytobokbhpeaakjaa", sum := "0c3593060cd4d5890c4ed06ff6f0ad5a0a14543641b54e80dc79044adae5443e", func := "oche/ochelaw11.TableAny", spec := "tableAny", unfollowed := true, recurses := true, apart := false, narrowed := true }
def TableAnyUptoSaid : Prop := tableAnyUptoRow.holds Try.pinned (OpenSpec.upto tableAnySpec)

/-- 'ochelaw11.TableMagic', WHERE WHAT IT READS IS OF BULK AT MOST 1048576: true; the input reads as it did. -/
def tableMagicUptoRow : OpenClaim := { program := "ytobokbhpeaakjaa", sum := "0c3593060cd4d5890c4ed06ff6f0ad5a0a14543641b54e80dc79044adae5443e", func := "oche/ochelaw11.TableMagic", spec := "tableMagic", unfollowed := true, recurses := true, apart := false, narrowed := true }
def TableMagicUptoSaid : Prop := tableMagicUptoRow.holds Try.pinned (OpenSpec.upto tableMagicSpec)

/-- 'ochelaw11.TablePlaces', WHERE WHAT IT READS IS OF BULK AT MOST 1048576: true; the input reads as it did. -/
def tablePlacesUptoRow : OpenClaim := { program := "ytobokbhpeaakjaa", sum := "0c3593060cd4d5890c4ed06ff6f0ad5a0a14543641b54e80dc79044adae5443e", func := "oche/ochelaw11.TablePlaces", spec := "tablePlaces", unfollowed := true, recurses := true, apart := false, narrowed := true }
def TablePlacesUptoSaid : Prop := tablePlacesUptoRow.holds Try.pinned (OpenSpec.upto tablePlacesSpec)

/-- 'ochelaw11.TableSure', WHERE WHAT IT READS IS OF BULK AT MOST 1048576: true; the input reads as it did. -/
def tableSureUptoRow : OpenClaim := { program := "ytobokbhpeaakjaa", sum := "0c3593060cd4d5890c4ed06ff6f0ad5a0a14543641b54e80dc79044adae5443e", func := "oche/ochelaw11.TableSure", spec := "tableSure", unfollowed := true, recurses := true, apart := false, narrowed := true }
def TableSureUptoSaid : Prop := tableSureUptoRow.holds Try.pinned (OpenSpec.upto tableSureSpec)

/-- 'ochelaw11.TableNights', WHERE WHAT IT READS IS OF BULK AT MOST 1048576: true; the input reads as it did. -/
def tableNightsUptoRow : OpenClaim := { program := "ytobokbhpeaakjaa", sum := "0c3593060cd4d5890c4ed06ff6f0ad5a0a14543641b54e80dc79044adae5443e", func := "oche/ochelaw11.TableNights", spec := "tableNights", unfollowed := true, recurses := true, apart := false, narrowed := true }
def TableNightsUptoSaid : Prop := tableNightsUptoRow.holds Try.pinned (OpenSpec.upto tableNightsSpec)

/-- 'ochelaw11.TableEach', WHERE WHAT IT READS IS OF BULK AT MOST 1048576: true; the input reads as it did. -/
def tableEachUptoRow : OpenClaim := { program := "ytobokbhpeaakjaa", sum := "0c3593060cd4d5890c4ed06ff6f0ad5a0a14543641b54e80dc79044adae5443e", func := "oche/ochelaw11.TableEach", spec := "tableEach", unfollowed := true, recurses := true, apart := false, narrowed := true }
def TableEachUptoSaid : Prop := tableEachUptoRow.holds Try.pinned (OpenSpec.upto tableEachSpec)

/-- 'ochetop.TopPlacePrizes', WHERE WHAT IT READS IS OF BULK AT MOST 1048576: true; the input reads as it did. -/
def topPlacePrizesUptoRow : OpenClaim := { program := "ytobokbhpeaakjaa", sum := "0c3593060cd4d5890c4ed06ff6f0ad5a0a14543641b54e80dc79044adae5443e", func := "oche/ochetop.TopPlacePrizes", spec := "topPlacePrizes", unfollowed := true, recurses := true, apart := false, narrowed := true }
def TopPlacePrizesUptoSaid : Prop := topPlacePrizesUptoRow.holds Try.pinned (OpenSpec.upto topPlacePrizesSpec)

/-- 'ochetop.TopTablePrizes', WHERE WHAT IT READS IS OF BULK AT MOST 1048576: true; the input reads as it did. -/
def topTablePrizesUptoRow : OpenClaim := { program := "ytobokbhpeaakjaa", sum := "0c3593060cd4d5890c4ed06ff6f0ad5a0a14543641b54e80dc79044adae5443e", func := "oche/ochetop.TopTablePrizes", spec := "topTablePrizes", unfollowed := true, recurses := true, apart := false, narrowed := true }
def TopTablePrizesUptoSaid : Prop := topTablePrizesUptoRow.holds Try.pinned (OpenSpec.upto topTablePrizesSpec)

end Rows
end Go.Proofs.Ytobokbhpeaakjaa
