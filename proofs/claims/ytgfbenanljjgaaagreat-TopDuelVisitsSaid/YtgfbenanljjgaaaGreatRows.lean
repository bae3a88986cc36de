/-
  No cell of these rows narrows 'for every input' (looked for: loops, veiled, ifaces, maps, wideKeys, modest, calm, conditions, laid).
  DERIVED. THE GIVEN ROWS OF THIS SEAT. 6 by the template 'for every input the law returns true; each argument reads behind the call as it read before'; 0 by the template 'total and deterministic' (their statements: YtgfbenanljjgaaaGreatTotals.lean).
  GIVEN WITH THE SEED: the statements are not yours to turn. If you find one false, say at which input.
  Laid BY PROGRAM, IN A SANDBOX (cutbox-rows.mjs): the forced cells as the released guide's own fill.sh prints them over the translation db8de24ba155a7f3… (all of the seat's roots in one cut). By AI agents, Wed Nov 11 2026. No macro, syntax, notation, axiom, sorry.
-/
import Derived.Test.YtgfbenanljjgaaaGreatChecked
import GoSem.Claim
import GoSem.ClaimJoined
import GoSem.ClaimMapViews
import Derived.JoinedTies
import Derived.KernelRfl
namespace Go.Proofs.YtgfbenanljjgaaaGreat
/- THE CELL 'sum', in the pinned program and in every row, IS THE sha256 OF THE DUMP (.gsa) THAT YtgfbenanljjgaaaGreatProg.lean LOADS. Nothing in Lean hashes anything: it is a label: what it is worth is what the hold of that sum in a sandbox is worth. -/
noncomputable def Tryz.pinned : Pinned := { name := "ytgfbenanljjgaaagreat", sum := "db8de24ba155a7f37cadb35726ee5d3119026efc2659e0a52875f34991cd2f45", checked := Tryz.checked }
namespace Rows
def none {H : Type} : Left H := { results := [], args := [] }

/-- 'ochelaw08.AimCosts': WHATEVER THE INPUT: true; the input reads as it did. -/
def aimCostsSpec : ChangeSpec := { name := "aimCosts", fn := fun _ => fun
  | [d1, d2] => { results := [.lit (.bool true)], args := [d1, d2] }
  | _ => none }
def aimCostsRow : OpenClaim := { program := "ytgfbenanljjgaaagreat", sum := "db8de24ba155a7f37cadb35726ee5d3119026efc2659e0a52875f34991cd2f45", func := "oche/ochelaw08.AimCosts", spec := "aimCosts", unfollowed := true, recurses := true, plainKeys := false, apart := false }
def AimCostsSaid : Prop := aimCostsRow.holds Tryz.pinned (OpenSpec.ofChange aimCostsSpec)

/-- ITS FALSE NEIGHBOUR: 'it returns false'. Refute it at one input. -/
def aimCostsWrong : ChangeSpec := { name := "aimCosts", fn := fun _ => fun
  | [d1, d2] => { results := [.lit (.bool false)], args := [d1, d2] }
  | _ => none }
def AimCostsWrongFalsely : Prop := aimCostsRow.holds Tryz.pinned (OpenSpec.ofChange aimCostsWrong)

/-- 'ochetop.TopDuelVisits': WHATEVER THE INPUT: true; the input reads as it did. -/
def topDuelVisitsSpec : ChangeSpec := { name := "topDuelVisits", fn := fun _ => fun
  | [d1, d2, d3] => { results := [.lit (.bool true)], args := [d1, d2, d3] }
  | _ => none }
def topDuelVisitsRow : OpenClaim := { program := "ytgfbenanljjgaaagreat", sum := "db8de24ba155a7f37cadb35726ee5d3119026efc2659e0a52875f34991cd2f45", func := "oche/ochetop.TopDuelVisits", spec := "topDuelVisits", unfollowed := true, recurses := true, plainKeys := false, apart := false }
def TopDuelVisitsSaid : Prop := topDuelVisitsRow.holds Tryz.pinned (OpenSpec.ofChange topDuelVisitsSpec)

/-- ITS FALSE NEIGHBOUR: 'it returns false'. Refute it at one input. -/
def topDuelVisitsWrong : ChangeSpec := { name := "topDuelVisits", fn := fun _ => fun
  | [d1, d2, d3] => { results := [.lit (.bool false)], args := [d1, d2, d3] }
  | _ => none }
def TopDuelVisitsWrongFalsely : Prop := topDuelVisitsRow.holds Tryz.pinned (OpenSpec.ofChange topDuelVisitsWrong)

/-- 'ochetop.TopNeverMiss': WHATEVER THE INPUT: true; the input reads as it did. -/
def topNeverMissSpec : ChangeSpec := { name := "topNeverMiss", fn := fun _ => fun
  | [d1, d2] => { results := [.lit (.bool true)], args := [d1, d2] }
  | _ => none }
def topNeverMissRow : OpenClaim := { program := "ytgfbenanljjgaaagreat", sum := "db8de24ba155a7f37cadb35726ee5d3119026efc2659e0a52875f34991cd2f45", func := "oche/ochetop.TopNeverMiss", spec := "topNeverMiss", unfollowed := true, recurses := true, plainKeys := false, apart := false }
def TopNeverMissSaid : Prop := topNeverMissRow.holds Tryz.pinned (OpenSpec.ofChange topNeverMissSpec)

/-- ITS FALSE NEIGHBOUR: 'it returns false'. Refute it at one input. -/
def topNeverMissWrong : ChangeSpec := { name := "topNeverMiss", fn := fun _ => fun
  | [d1, d2] => { results := [.lit (.bool false)], args := [d1, d2] }
  | _ => none }
def TopNeverMissWrongFalsely : Prop := topNeverMissRow.holds Tryz.pinned (OpenSpec.ofChange topNeverMissWrong)

/-- 'ochetop.TopTightDuel': WHATEVER THE INPUT: true; the input reads as it did. -/
def topTightDuelSpec : ChangeSpec := { name := "topTightDuel", fn := fun _ => fun
  | [d1, d2, d3] => { results := [.lit (.bool true)], args := [d1, d2, d3] }
  | _ => none }
def topTightDuelRow : OpenClaim := { program := "ytgfbenanljjgaaagreat", sum := "db8de24ba155a7f37cadb35726ee5d3119026efc2659e0a52875f34991cd2f45", func := "oche/ochetop.TopTightDuel", spec := "topTightDuel", unfollowed := true, recurses := true, plainKeys := false, apart := false }
def TopTightDuelSaid : Prop := topTightDuelRow.holds Tryz.pinned (OpenSpec.ofChange topTightDuelSpec)

/-- ITS FALSE NEIGHBOUR: 'it returns false'. Refute it at one input. -/
def topTightDuelWrong : ChangeSpec := { name := "topTightDuel", fn := fun _ => fun
  | [d1, d2, d3] => { results := [.lit (.bool false)], args := [d1, d2, d3] }
  | _ => none }
def TopTightDuelWrongFalsely : Prop := topTightDuelRow.holds Tryz.pinned (OpenSpec.ofChange topTightDuelWrong)

/-- 'ochetop.TopOneVisit': WHATEVER THE INPUT: true; the input reads as it did. -/
def topOneVisitSpec : ChangeSpec := { name := "topOneVisit", fn := fun _ => fun
  | [d1, d2, d3] => { results := [.lit (.bool true)], args := [d1, d2, d3] }
  | _ => none }
def topOneVisitRow : OpenClaim := { program := "ytgfbenanljjgaaagreat", sum := "db8de24ba155a7f37cadb35726ee5d3119026efc2659e0a52875f34991cd2f45", func := "oche/ochetop.TopOneVisit", spec := "topOneVisit", unfollowed := true, recurses := true, plainKeys := false, apart := false }
def TopOneVisitSaid : Prop := topOneVisitRow.holds Tryz.pinned (OpenSpec.ofChange topOneVisitSpec)

/-- ITS FALSE NEIGHBOUR: 'it returns false'. Refute it at one input. -/
def topOneVisitWrong : ChangeSpec := { name := "topOneVisit", fn := fun _ => fun
  | [d1, d2, d3] => { results := [.lit (.bool false)], args := [d1, d2, d3] }
  | _ => none }
def TopOneVisitWrongFalsely : Prop := topOneVisitRow.holds Tryz.pinned (OpenSpec.ofChange topOneVisitWrong)

/-- 'ochetop.TopNeverOut': WHATEVER THE INPUT: true; the input reads as it did. -/
def topNeverOutSpec : ChangeSpec := { name := "topNeverOut", fn := fun _ => fun
  | [d1, d2, d3] => { results := [.lit (.bool true)], args := [d1, d2, d3] }
  | _ => none }
def topNeverOutRow : OpenClaim := { program := "ytgfbenanljjgaaagreat", sum := "db8de24ba155a7f37cadb35726ee5d3119026efc2659e0a52875f34991cd2f45", func := "oche/ochetop.TopNeverOut", spec := "topNeverOut", unfollowed := true, recurses := true, plainKeys := false, apart := false }
def TopNeverOutSaid : Prop := topNeverOutRow.holds Tryz.pinned (OpenSpec.ofChange topNeverOutSpec)

/-- ITS FALSE NEIGHBOUR: 'it returns false'. Refute it at one input. -/
def topNeverOutWrong : ChangeSpec := { name := "topNeverOut", fn := fun _ => fun
  | [d1, d2, d3] => { results := [.lit (.bool false)], args := [d1, d2, d3] }
  | _ => none }
def TopNeverOutWrongFalsely : Prop := topNeverOutRow.holds Tryz.pinned (OpenSpec.ofChange topNeverOutWrong)

/- THE SECOND FORM. 'bulk': how many values and letters a reading holds, each counted each time it is reached (what is shared counts as often as it is met; a slice's spare places count too). A statement '..UptoSaid' is the law's where the arguments, and the package variables that the reading takes, are together of bulk at most 1048576: NARROWER than '..Said'. Prove '..Said' where nothing that the law and all that it calls make is longer than what came in: it says more and counts as full. Else prove '..UptoSaid'. A law counts once. -/
mutual
def uptoBulk {H : Type} : DataW H → Nat
  | .lit (.string bytes) => bytes.length + 1
  | .lit _ => 1
  | .nil => 1
  | .ptr d => uptoBulk d + 1
  | .slice elems spare => uptoBulkAll elems + uptoBulkAll spare + 1
  | .agg parts => uptoBulkAll parts + 1
  | .iface _ d => uptoBulk d + 1
  | .map entries => uptoBulkEntries entries + 1
  | .held _ => 1
def uptoBulkAll {H : Type} : List (DataW H) → Nat
  | [] => 0
  | d :: r => uptoBulk d + uptoBulkAll r
def uptoBulkEntries {H : Type} : List (Lit × DataW H) → Nat
  | [] => 0
  | x :: r => uptoBulkEntry x + uptoBulkEntries r
def uptoBulkEntry {H : Type} : Lit × DataW H → Nat
  | (.string bytes, d) => bytes.length + uptoBulk d + 1
  | (_, d) => uptoBulk d + 1
 end
def uptoSmall : (H : Type) → List (DataW H) → Bool := fun _ ds => decide (uptoBulkAll ds ≤ 1048576)
def OpenSpec.upto (s : _root_.Go.ChangeSpec) : _root_.Go.OpenSpec := { _root_.Go.OpenSpec.ofChange s with cond := some uptoSmall }

/-- 'ochelaw08.AimCosts', WHERE WHAT IT READS IS OF BULK AT MOST 1048576: true; the input reads as it did. -/
def aimCostsUptoRow : OpenClaim := { program := "ytgfbenanljjgaaagreat", sum := "db8de24ba155a7f37cadb35726ee5d3119026efc2659e0a52875f34991cd2f45", func := "oche/ochelaw08.AimCosts", spec := "aimCosts", unfollowed := true, recurses := true, plainKeys := false, apart := false, narrowed := true }
def AimCostsUptoSaid : Prop := aimCostsUptoRow.holds Tryz.pinned (OpenSpec.upto aimCostsSpec)

/-- 'ochetop.TopDuelVisits', WHERE WHAT IT READS IS OF BULK AT MOST 1048576: true; the input reads as it did. -/
def topDuelVisitsUptoRow : OpenClaim := { program := "ytgfbenanljjgaaagreat", sum := "db8de24ba155a7f37cadb35726ee5d3119026efc2659e0a52875f34991cd2f45", func := "oche/ochetop.TopDuelVisits", spec := "topDuelVisits", unfollowed := true, recurses := true, plainKeys := false, apart := false, narrowed := true }
def TopDuelVisitsUptoSaid : Prop := topDuelVisitsUptoRow.holds Tryz.pinned (OpenSpec.upto topDuelVisitsSpec)

/-- 'ochetop.TopNeverMiss', WHERE WHAT IT READS IS OF BULK AT MOST 1048576: true; the input reads as it did. -/
def topNeverMissUptoRow : OpenClaim := { program := "ytgfbenanljjgaaagreat", sum := "db8de24ba155a7f37cadb35726ee5d3119026efc2659e0a52875f34991cd2f45", func := "oche/ochetop.TopNeverMiss", spec := "topNeverMiss", unfollowed := true, recurses := true, plainKeys := false, apart := false, narrowed := true }
def TopNeverMissUptoSaid : Prop := topNeverMissUptoRow.holds Tryz.pinned (OpenSpec.upto topNeverMissSpec)

/-- 'ochetop.TopTightDuel', WHERE WHAT IT READS IS OF BULK AT MOST 1048576: true; the input reads as it did. -/
def topTightDuelUptoRow : OpenClaim := { program := "ytgfbenanljjgaaagreat", sum := "db8de24ba155a7f37cadb35726ee5d3119026efc2659e0a52875f34991cd2f45", func := "oche/ochetop.TopTightDuel", spec := "topTightDuel", unfollowed := true, recurses := true, plainKeys := false, apart := false, narrowed := true }
def TopTightDuelUptoSaid : Prop := topTightDuelUptoRow.holds Tryz.pinned (OpenSpec.upto topTightDuelSpec)

/-- 'ochetop.TopOneVisit', WHERE WHAT IT READS IS OF BULK AT MOST 1048576: true; the input reads as it did. -/
def topOneVisitUptoRow : OpenClaim := { program := "ytgfbenanljjgaaagreat", sum := "db8de24ba155a7f37cadb35726ee5d3119026efc2659e0a52875f34991cd2f45", func := "oche/ochetop.TopOneVisit", spec := "topOneVisit", unfollowed := true, recurses := true, plainKeys := false, apart := false, narrowed := true }
def TopOneVisitUptoSaid : Prop := topOneVisitUptoRow.holds Tryz.pinned (OpenSpec.upto topOneVisitSpec)

/-- 'ochetop.TopNeverOut', WHERE WHAT IT READS IS OF BULK AT MOST 1048576: true; the input reads as it did. -/
def topNeverOutUptoRow : OpenClaim := { program := "ytgfbenanljjgaaagreat", sum := "db8de24ba155a7f37cadb35726ee5d3119026efc2659e0a52875f34991cd2f45", func := "oche/ochetop.TopNeverOut", spec := "topNeverOut", unfollowed := true, recurses := true, plainKeys := false, apart := false, narrowed := true }
def TopNeverOutUptoSaid : Prop := topNeverOutUptoRow.holds Tryz.pinned (OpenSpec.upto topNeverOutSpec)

end Rows
end Go.Proofs.YtgfbenanljjgaaaGreat
