/-
  No cell of these rows narrows 'for every input' (looked for: loops, veiled, ifaces, maps, wideKeys, modest, calm, conditions, laid).
  DERIVED. THE GIVEN ROWS OF THIS SEAT. 10 by the template 'for every input the law returns true; each argument reads behind the call as it read before'; 0 by the template 'total and deterministic' (their statements: YtnklbfmdojpfkaaTotals.lean).
  GIVEN WITH THE SEED: the statements are not yours to turn. If you find one false, say at which input.
  Laid BY PROGRAM, IN A SANDBOX (cutbox-rows.mjs): the forced cells as the released guide's own fill.sh prints them over the translation 024e5a35ab882b64… (all of the seat's roots in one cut). By AI agents, Wed Nov 11 2026. No macro, syntax, notation, axiom, sorry.
-/
import Derived.Test.YtnklbfmdojpfkaaChecked
import GoSem.Claim
import GoSem.ClaimJoined
import GoSem.ClaimMapViews
import Derived.JoinedTies
import Derived.KernelRfl
namespace Go.Proofs.Ytnklbfmdojpfkaa
/- THE CELL 'sum', in the pinned program and in every row, IS THE sha256 OF THE DUMP (.gsa) THAT YtnklbfmdojpfkaaProg.lean LOADS. Nothing in Lean hashes anything: it is a label: what it is worth is what the hold of that sum in a sandbox is worth. -/
noncomputable def Try.pinned : Pinned := { name := "ytnklbfmdojpfkaa", sum := "024e5a35ab882b64ad0d227dc2b0b5e618299dd3bcca605eb8842f0616724814", checked := Try.checked }
namespace Rows
def none {H : Type} : Left H := { results := [], args := [] }

/-- 'ochelaw10.TeamSeals': WHATEVER THE INPUT: true; the input reads as it did. -/
def teamSealsSpec : ChangeSpec := { name := "teamSeals", fn := fun _ => fun
  | [d1, d2] => { results := [.lit (.bool true)], args := [d1, d2] }
  | _ => none }
def teamSealsRow : OpenClaim := { program := "ytnklbfmdojpfkaa", sum := "024e5a35ab882b64ad0d227dc2b0b5e618299dd3bcca605eb8842f0616724814", func := "oche/ochelaw10.TeamSeals", spec := "teamSeals", unfollowed := true, recurses := true, plainKeys := false, apart := false }
def TeamSealsSaid : Prop := teamSealsRow.holds Try.pinned (OpenSpec.ofChange teamSealsSpec)

/-- ITS FALSE NEIGHBOUR: 'it returns false'. Refute it at one input. -/
def teamSealsWrong : ChangeSpec := { name := "teamSeals", fn := fun _ => fun
  | [d1, d2] => { results := [.lit (.bool false)], args := [d1, d2] }
  | _ => none }
def TeamSealsWrongFalsely : Prop := teamSealsRow.holds Try.pinned (OpenSpec.ofChange teamSealsWrong)

/-- 'ochelaw10.TeamOpens': WHATEVER THE INPUT: true; the input reads as it did. -/
def teamOpensSpec : ChangeSpec := { name := "teamOpens", fn := fun _ => fun
  | [d1, d2, d3] => { results := [.lit (.bool true)], args := [d1, d2, d3] }
  | _ => none }
def teamOpensRow : OpenClaim := { program := "ytnklbfmdojpfkaa", sum := "024e5a35ab882b64ad0d227dc2b0b5e618299dd3bcca605eb8842f0616724814", func := "oche/ochelaw10.TeamOpens", spec := "teamOpens", unfollowed := true, recurses := true, plainKeys := false, apart := false }
def TeamOpensSaid : Prop := teamOpensRow.holds Try.pinned (OpenSpec.ofChange teamOpensSpec)

/-- ITS FALSE NEIGHBOUR: 'it returns false'. Refute it at one input. -/
def teamOpensWrong : ChangeSpec := { name := "teamOpens", fn := fun _ => fun
  | [d1, d2, d3] => { results := [.lit (.bool false)], args := [d1, d2, d3] }
  | _ => none }
def TeamOpensWrongFalsely : Prop := teamOpensRow.holds Try.pinned (OpenSpec.ofChange teamOpensWrong)

/-- 'ochelaw10.TeamDraws': WHATEVER THE INPUT: true; the input reads as it did. -/
def teamDrawsSpec : ChangeSpec := { name := "teamDraws", fn := fun _ => fun
  | [d1, d2, d3] => { results := [.lit (.bool true)], args := [d1, d2, d3] }
  | _ => none }
def teamDrawsRow : OpenClaim := { program := "ytnklbfmdojpfkaa", sum := "024e5a35ab882b64ad0d227dc2b0b5e618299dd3bcca605eb8842f0616724814", func := "oche/ochelaw10.TeamDraws", spec := "teamDraws", unfollowed := true, recurses := true, plainKeys := false, apart := false }
def TeamDrawsSaid : Prop := teamDrawsRow.holds Try.pinned (OpenSpec.ofChange teamDrawsSpec)

/-- ITS FALSE NEIGHBOUR: 'it returns false'. Refute it at one input. -/
def teamDrawsWrong : ChangeSpec := { name := "teamDraws", fn := fun _ => fun
  | [d1, d2, d3] => { results := [.lit (.bool false)], args := [d1, d2, d3] }
  | _ => none }
def TeamDrawsWrongFalsely : Prop := teamDrawsRow.holds Try.pinned (OpenSpec.ofChange teamDrawsWrong)

/-- 'ochelaw10.TeamStarts': WHATEVER THE INPUT: true; the input reads as it did. -/
def teamStartsSpec : ChangeSpec := { name := "teamStarts", fn := fun _ => fun
  | [d1, d2, d3] => { results := [.lit (.bool true)], args := [d1, d2, d3] }
  | _ => none }
def teamStartsRow : OpenClaim := { program := "ytnklbfmdojpfkaa", sum := "024e5a35ab882b64ad0d227dc2b0b5e618299dd3bcca605eb8842f0616724814", func := "oche/ochelaw10.TeamStarts", spec := "teamStarts", unfollowed := true, recurses := true, plainKeys := false, apart := false }
def TeamStartsSaid : Prop := teamStartsRow.holds Try.pinned (OpenSpec.ofChange teamStartsSpec)

/-- ITS FALSE NEIGHBOUR: 'it returns false'. Refute it at one input. -/
def teamStartsWrong : ChangeSpec := { name := "teamStarts", fn := fun _ => fun
  | [d1, d2, d3] => { results := [.lit (.bool false)], args := [d1, d2, d3] }
  | _ => none }
def TeamStartsWrongFalsely : Prop := teamStartsRow.holds Try.pinned (OpenSpec.ofChange teamStartsWrong)

/-- 'ochelaw10.TeamNights': WHATEVER THE INPUT: true; the input reads as it did. -/
def teamNightsSpec : ChangeSpec := { name := "teamNights", fn := fun _ => fun
  | [d1, d2] => { results := [.lit (.bool true)], args := [d1, d2] }
  | _ => none }
def teamNightsRow : OpenClaim := { program := "ytnklbfmdojpfkaa", sum := "024e5a35ab882b64ad0d227dc2b0b5e618299dd3bcca605eb8842f0616724814", func := "oche/ochelaw10.TeamNights", spec := "teamNights", unfollowed := true, recurses := true, plainKeys := false, apart := false }
def TeamNightsSaid : Prop := teamNightsRow.holds Try.pinned (OpenSpec.ofChange teamNightsSpec)

/-- ITS FALSE NEIGHBOUR: 'it returns false'. Refute it at one input. -/
def teamNightsWrong : ChangeSpec := { name := "teamNights", fn := fun _ => fun
  | [d1, d2] => { results := [.lit (.bool false)], args := [d1, d2] }
  | _ => none }
def TeamNightsWrongFalsely : Prop := teamNightsRow.holds Try.pinned (OpenSpec.ofChange teamNightsWrong)

/-- 'ochelaw10.TeamBinds': WHATEVER THE INPUT: true; the input reads as it did. -/
def teamBindsSpec : ChangeSpec := { name := "teamBinds", fn := fun _ => fun
  | [d1, d2] => { results := [.lit (.bool true)], args := [d1, d2] }
  | _ => none }
def teamBindsRow : OpenClaim := { program := "ytnklbfmdojpfkaa", sum := "024e5a35ab882b64ad0d227dc2b0b5e618299dd3bcca605eb8842f0616724814", func := "oche/ochelaw10.TeamBinds", spec := "teamBinds", unfollowed := true, recurses := true, plainKeys := false, apart := false }
def TeamBindsSaid : Prop := teamBindsRow.holds Try.pinned (OpenSpec.ofChange teamBindsSpec)

/-- ITS FALSE NEIGHBOUR: 'it returns false'. Refute it at one input. -/
def teamBindsWrong : ChangeSpec := { name := "teamBinds", fn := fun _ => fun
  | [d1, d2] => { results := [.lit (.bool false)], args := [d1, d2] }
  | _ => none }
def TeamBindsWrongFalsely : Prop := teamBindsRow.holds Try.pinned (OpenSpec.ofChange teamBindsWrong)

/-- 'ochelaw10.TeamAnyOrder': WHATEVER THE INPUT: true; the input reads as it did. -/
def teamAnyOrderSpec : ChangeSpec := { name := "teamAnyOrder", fn := fun _ => fun
  | [d1, d2, d3] => { results := [.lit (.bool true)], args := [d1, d2, d3] }
  | _ => none }
def teamAnyOrderRow : OpenClaim := { program := "ytnklbfmdojpfkaa", sum := "024e5a35ab882b64ad0d227dc2b0b5e618299dd3bcca605eb8842f0616724814", func := "oche/ochelaw10.TeamAnyOrder", spec := "teamAnyOrder", unfollowed := true, recurses := true, plainKeys := false, apart := false }
def TeamAnyOrderSaid : Prop := teamAnyOrderRow.holds Try.pinned (OpenSpec.ofChange teamAnyOrderSpec)

/-- ITS FALSE NEIGHBOUR: 'it returns false'. Refute it at one input. -/
def teamAnyOrderWrong : ChangeSpec := { name := "teamAnyOrder", fn := fun _ => fun
  | [d1, d2, d3] => { results := [.lit (.bool false)], args := [d1, d2, d3] }
  | _ => none }
def TeamAnyOrderWrongFalsely : Prop := teamAnyOrderRow.holds Try.pinned (OpenSpec.ofChange teamAnyOrderWrong)

/-- 'ochelaw10.TeamCertain': WHATEVER THE INPUT: true; the input reads as it did. -/
def teamCertainSpec : ChangeSpec := { name := "teamCertain", fn := fun _ => fun
  | [d1, d2, d3] => { results := [.lit (.bool true)], args := [d1, d2, d3] }
  | _ => none }
def teamCertainRow : OpenClaim := { program := "ytnklbfmdojpfkaa", sum := "024e5a35ab882b64ad0d227dc2b0b5e618299dd3bcca605eb8842f0616724814", func := "oche/ochelaw10.TeamCertain", spec := "teamCertain", unfollowed := true, recurses := true, plainKeys := false, apart := false }
def TeamCertainSaid : Prop := teamCertainRow.holds Try.pinned (OpenSpec.ofChange teamCertainSpec)

/-- ITS FALSE NEIGHBOUR: 'it returns false'. Refute it at one input. -/
def teamCertainWrong : ChangeSpec := { name := "teamCertain", fn := fun _ => fun
  | [d1, d2, d3] => { results := [.lit (.bool false)], args := [d1, d2, d3] }
  | _ => none }
def TeamCertainWrongFalsely : Prop := teamCertainRow.holds Try.pinned (OpenSpec.ofChange teamCertainWrong)

/-- 'ochelaw10.TeamFair': WHATEVER THE INPUT: true; the input reads as it did. -/
def teamFairSpec : ChangeSpec := { name := "teamFair", fn := fun _ => fun
  | [d1, d2] => { results := [.lit (.bool true)], args := [d1, d2] }
  | _ => none }
def teamFairRow : OpenClaim := { program := "ytnklbfmdojpfkaa", sum := "024e5a35ab882b64ad0d227dc2b0b5e618299dd3bcca605eb8842f0616724814", func := "oche/ochelaw10.TeamFair", spec := "teamFair", unfollowed := true, recurses := true, plainKeys := false, apart := false }
def TeamFairSaid : Prop := teamFairRow.holds Try.pinned (OpenSpec.ofChange teamFairSpec)

/-- ITS FALSE NEIGHBOUR: 'it returns false'. Refute it at one input. -/
def teamFairWrong : ChangeSpec := { name := "teamFair", fn := fun _ => fun
  | [d1, d2] => { results := [.lit (.bool false)], args := [d1, d2] }
  | _ => none }
def TeamFairWrongFalsely : Prop := teamFairRow.holds Try.pinned (OpenSpec.ofChange teamFairWrong)

/-- 'ochelaw10.TeamEven': WHATEVER THE INPUT: true; the input reads as it did. -/
def teamEvenSpec : ChangeSpec := { name := "teamEven", fn := fun _ => fun
  | [d1, d2, d3] => { results := [.lit (.bool true)], args := [d1, d2, d3] }
  | _ => none }
def teamEvenRow : OpenClaim := { program := "ytnklbfmdojpfkaa", sum := "024e5a35ab882b64ad0d227dc2b0b5e618299dd3bcca605eb8842f0616724814", func := "oche/ochelaw10.TeamEven", spec := "teamEven", unfollowed := true, recurses := true, plainKeys := false, apart := false }
def TeamEvenSaid : Prop := teamEvenRow.holds Try.pinned (OpenSpec.ofChange teamEvenSpec)

/-- ITS FALSE NEIGHBOUR: 'it returns false'. Refute it at one input. -/
def teamEvenWrong : ChangeSpec := { name := "teamEven", fn := fun _ => fun
  | [d1, d2, d3] => { results := [.lit (.bool false)], args := [d1, d2, d3] }
  | _ => none }
def TeamEvenWrongFalsely : Prop := teamEvenRow.holds Try.pinned (OpenSpec.ofChange teamEvenWrong)

/- THE SECOND FORM. 'bulk': how many values and letters a reading holds, each counted each time it is reached (what is shared counts as often as it is met; a slice's spare places count too). A statement '..UptoSaid' is the law's where the arguments, and the package variables that the reading takes, are together of bulk at most 1048576: NARROWER than '..Said'. Prove '..Said' where nothing that the law and all that it calls make is longer than what came in: it says more and counts as full. Else prove '..UptoSaid'. A law counts once. -/
mutual
def uptoBulk {H : Type} : DataW H → Nat
  | .lit (.string bytes) => bytes.length + 1
  | .lit _ => 1
  | .nil => 1
  | .ptr d => uptoBulk d + 1
  | .slice elems spare => uptoBulkAll elems + uptoBulkAll spare + 1
  | .agg parts => uptoBulkAll parts + 1
  | .iface _ d => uptoBulk d + 1
  | .map entries => uptoBulkEntries entries + 1
  | .held _ => 1
def uptoBulkAll {H : Type} : List (DataW H) → Nat
  | [] => 0
  | d :: r => uptoBulk d + uptoBulkAll r
def uptoBulkEntries {H : Type} : List (Lit × DataW H) → Nat
  | [] => 0
  | x :: r => uptoBulkEntry x + uptoBulkEntries r
def uptoBulkEntry {H : Type} : Lit × DataW H → Nat
  | (.string bytes, d) => bytes.length + uptoBulk d + 1
  | (_, d) => uptoBulk d + 1
 end
def uptoSmall : (H : Type) → List (DataW H) → Bool := fun _ ds => decide (uptoBulkAll ds ≤ 1048576)
def OpenSpec.upto (s : _root_.Go.ChangeSpec) : _root_.Go.OpenSpec := { _root_.Go.OpenSpec.ofChange s with cond := some uptoSmall }

/-- 'ochelaw10.TeamSeals', WHERE WHAT IT READS IS OF BULK AT MOST 1048576: true; the input reads as it did. -/
def teamSealsUptoRow : OpenClaim := { program := "ytnklbfmdojpfkaa", sum := "024e5a35ab882b64ad0d227dc2b0b5e618299dd3bcca605eb8842f0616724814", func := "oche/ochelaw10.TeamSeals", spec := "teamSeals", unfollowed := true, recurses := true, plainKeys := false, apart := false, narrowed := true }
def TeamSealsUptoSaid : Prop := teamSealsUptoRow.holds Try.pinned (OpenSpec.upto teamSealsSpec)

/-- 'ochelaw10.TeamOpens', WHERE WHAT IT READS IS OF BULK AT MOST 1048576: true; the input reads as it did. -/
def teamOpensUptoRow : OpenClaim := { program := "ytnklbfmdojpfkaa", sum := "024e5a35ab882b64ad0d227dc2b0b5e618299dd3bcca605eb8842f0616724814", func := "oche/ochelaw10.TeamOpens", spec := "teamOpens", unfollowed := true, recurses := true, plainKeys := false, apart := false, narrowed := true }
def TeamOpensUptoSaid : Prop := teamOpensUptoRow.holds Try.pinned (OpenSpec.upto teamOpensSpec)

/-- 'ochelaw10.TeamDraws', WHERE WHAT IT READS IS OF BULK AT MOST 1048576: true; the input reads as it did. -/
def teamDrawsUptoRow : OpenClaim := { program := "ytnklbfmdojpfkaa", sum := "024e5a35ab882b64ad0d227dc2b0b5e618299dd3bcca605eb8842f0616724814", func := "oche/ochelaw10.TeamDraws", spec := "teamDraws", unfollowed := true, recurses := true, plainKeys := false, apart := false, narrowed := true }
def TeamDrawsUptoSaid : Prop := teamDrawsUptoRow.holds Try.pinned (OpenSpec.upto teamDrawsSpec)

/-- 'ochelaw10.TeamStarts', WHERE WHAT IT READS IS OF BULK AT MOST 1048576: true; the input reads as it did. -/
def teamStartsUptoRow : OpenClaim := { program := "ytnklbfmdojpfkaa", sum := "024e5a35ab882b64ad0d227dc2b0b5e618299dd3bcca605eb8842f0616724814", func := "oche/ochelaw10.TeamStarts", spec := "teamStarts", unfollowed := true, recurses := true, plainKeys := false, apart := false, narrowed := true }
def TeamStartsUptoSaid : Prop := teamStartsUptoRow.holds Try.pinned (OpenSpec.upto teamStartsSpec)

/-- 'ochelaw10.TeamNights', WHERE WHAT IT READS IS OF BULK AT MOST 1048576: true; the input reads as it did. -/
def teamNightsUptoRow : OpenClaim := { program := "ytnklbfmdojpfkaa", sum := "024e5a35ab882b64ad0d227dc2b0b5e618299dd3bcca605eb8842f0616724814", func := "oche/ochelaw10.TeamNights", spec := "teamNights", unfollowed := true, recurses := true, plainKeys := false, apart := false, narrowed := true }
def TeamNightsUptoSaid : Prop := teamNightsUptoRow.holds Try.pinned (OpenSpec.upto teamNightsSpec)

/-- 'ochelaw10.TeamBinds', WHERE WHAT IT READS IS OF BULK AT MOST 1048576: true; the input reads as it did. -/
def teamBindsUptoRow : OpenClaim := { program := "ytnklbfmdojpfkaa", sum := "024e5a35ab882b64ad0d227dc2b0b5e618299dd3bcca605eb8842f0616724814", func := "oche/ochelaw10.TeamBinds", spec := "teamBinds", unfollowed := true, recurses := true, plainKeys := false, apart := false, narrowed := true }
def TeamBindsUptoSaid : Prop := teamBindsUptoRow.holds Try.pinned (OpenSpec.upto teamBindsSpec)

/-- 'ochelaw10.TeamAnyOrder', WHERE WHAT IT READS IS OF BULK AT MOST 1048576: true; the input reads as it did. -/
def teamAnyOrderUptoRow : OpenClaim := { program := "ytnklbfmdojpfkaa", sum := "024e5a35ab882b64ad0d227dc2b0b5e618299dd3bcca605eb8842f0616724814", func := "oche/ochelaw10.TeamAnyOrder", spec := "teamAnyOrder", unfollowed := true, recurses := true, plainKeys := false, apart := false, narrowed := true }
def TeamAnyOrderUptoSaid : Prop := teamAnyOrderUptoRow.holds Try.pinned (OpenSpec.upto teamAnyOrderSpec)

/-- 'ochelaw10.TeamCertain', WHERE WHAT IT READS IS OF BULK AT MOST 1048576: true; the input reads as it did. -/
def teamCertainUptoRow : OpenClaim := { program := "ytnklbfmdojpfkaa", sum := "024e5a35ab882b64ad0d227dc2b0b5e618299dd3bcca605eb8842f0616724814", func := "oche/ochelaw10.TeamCertain", spec := "teamCertain", unfollowed := true, recurses := true, plainKeys := false, apart := false, narrowed := true }
def TeamCertainUptoSaid : Prop := teamCertainUptoRow.holds Try.pinned (OpenSpec.upto teamCertainSpec)

/-- 'ochelaw10.TeamFair', WHERE WHAT IT READS IS OF BULK AT MOST 1048576: true; the input reads as it did. -/
def teamFairUptoRow : OpenClaim := { program := "ytnklbfmdojpfkaa", sum := "024e5a35ab882b64ad0d227dc2b0b5e618299dd3bcca605eb8842f0616724814", func := "oche/ochelaw10.TeamFair", spec := "teamFair", unfollowed := true, recurses := true, plainKeys := false, apart := false, narrowed := true }
def TeamFairUptoSaid : Prop := teamFairUptoRow.holds Try.pinned (OpenSpec.upto teamFairSpec)

/-- 'ochelaw10.TeamEven', WHERE WHAT IT READS IS OF BULK AT MOST 1048576: true; the input reads as it did. -/
def teamEvenUptoRow : OpenClaim := { program := "ytnklbfmdojpfkaa", sum := "024e5a35ab882b64ad0d227dc2b0b5e618299dd3bcca605eb8842f0616724814", func := "oche/ochelaw10.TeamEven", spec := "teamEven", unfollowed := true, recurses := true, plainKeys := false, apart := false, narrowed := true }
def TeamEvenUptoSaid : Prop := teamEvenUptoRow.holds Try.pinned (OpenSpec.upto teamEvenSpec)

end Rows
end Go.Proofs.Ytnklbfmdojpfkaa
