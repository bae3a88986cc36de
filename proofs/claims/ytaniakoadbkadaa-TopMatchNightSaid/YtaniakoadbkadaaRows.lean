/-
  No cell of these rows narrows 'for every input' (looked for: loops, veiled, ifaces, maps, wideKeys, modest, calm, conditions, laid).
  DERIVED. THE GIVEN ROWS OF THIS SEAT. 3 by the template 'for every input the law returns true; each argument reads behind the call as it read before'; 0 by the template 'total and deterministic' (their statements: YtaniakoadbkadaaTotals.lean).
  GIVEN WITH THE SEED: the statements are not yours to turn. If you find one false, say at which input.
  Laid BY PROGRAM, IN A SANDBOX (cutbox-rows.mjs): the forced cells as the released guide's own fill.sh prints them over the translation 611cccd8eef48930… (all of the seat's roots in one cut). By AI agents, Wed Nov 11 2026. No macro, syntax, notation, axiom, sorry.
-/
import Derived.Test.YtaniakoadbkadaaChecked
import GoSem.Claim
import GoSem.ClaimJoined
import GoSem.ClaimMapViews
import Derived.JoinedTies
import Derived.KernelRfl
namespace Go.Proofs.Ytaniakoadbkadaa
/- THE CELL 'sum', in the pinned program and in every row, IS THE sha256 OF THE DUMP (.gsa) THAT YtaniakoadbkadaaProg.lean LOADS. Nothing in Lean hashes anything: it is a label: what it is worth is what the hold of that sum in a sandbox is worth. -/
noncomputable def Try.pinned : Pinned := { name := "ytaniakoadbkadaa", sum := "611cccd8eef48930cad3ce0ac048e3d107113dfd557c9162407e4b41efcfdba0", checked := Try.checked }
namespace Rows
def none {H : Type} : Left H := { results := [], args := [] }

/-- 'ochetop.TopMatchNight': WHATEVER THE INPUT: true; the input reads as it did. -/
def topMatchNightSpec : ChangeSpec := { name := "topMatchNight", fn := fun _ => fun
  | [d1, d2, d3] => { results := [.lit (.bool true)], args := [d1, d2, d3] }
  | _ => none }
def topMatchNightRow : OpenClaim := { program := "ytaniakoadbkadaa", sum := "611cccd8eef48930cad3ce0ac048e3d107113dfd557c9162407e4b41efcfdba0", func := "oche/ochetop.TopMatchNight", spec := "topMatchNight", unfollowed := true, recurses := true, plainKeys := false, apart := false }
def TopMatchNightSaid : Prop := topMatchNightRow.holds Try.pinned (OpenSpec.ofChange topMatchNightSpec)

/-- ITS FALSE NEIGHBOUR: 'it returns false'. Refute it at one input. -/
def topMatchNightWrong : ChangeSpec := { name := "topMatchNight", fn := fun _ => fun
  | [d1, d2, d3] => { results := [.lit (.bool false)], args := [d1, d2, d3] }
  | _ => none }
def TopMatchNightWrongFalsely : Prop := topMatchNightRow.holds Try.pinned (OpenSpec.ofChange topMatchNightWrong)

/-- 'ochetop.TopKnockPrizes': WHATEVER THE INPUT: true; the input reads as it did. -/
def topKnockPrizesSpec : ChangeSpec := { name := "topKnockPrizes", fn := fun _ => fun
  | [d1, d2] => { results := [.lit (.bool true)], args := [d1, d2] }
  | _ => none }
def topKnockPrizesRow : OpenClaim := { program := "ytaniakoadbkadaa", sum := "611cccd8eef48930cad3ce0ac048e3d107113dfd557c9162407e4b41efcfdba0", func := "oche/ochetop.TopKnockPrizes", spec := "topKnockPrizes", unfollowed := true, recurses := true, plainKeys := false, apart := false }
def TopKnockPrizesSaid : Prop := topKnockPrizesRow.holds Try.pinned (OpenSpec.ofChange topKnockPrizesSpec)

/-- ITS FALSE NEIGHBOUR: 'it returns false'. Refute it at one input. -/
def topKnockPrizesWrong : ChangeSpec := { name := "topKnockPrizes", fn := fun _ => fun
  | [d1, d2] => { results := [.lit (.bool false)], args := [d1, d2] }
  | _ => none }
def TopKnockPrizesWrongFalsely : Prop := topKnockPrizesRow.holds Try.pinned (OpenSpec.ofChange topKnockPrizesWrong)

/-- 'ochetop.TopNightShare': WHATEVER THE INPUT: true; the input reads as it did. -/
def topNightShareSpec : ChangeSpec := { name := "topNightShare", fn := fun _ => fun
  | [d1, d2, d3] => { results := [.lit (.bool true)], args := [d1, d2, d3] }
  | _ => none }
def topNightShareRow : OpenClaim := { program := "ytaniakoadbkadaa", sum := "611cccd8eef48930cad3ce0ac048e3d107113dfd557c9162407e4b41efcfdba0", func := "oche/ochetop.TopNightShare", spec := "topNightShare", unfollowed := true, recurses := true, plainKeys := false, apart := false }
def TopNightShareSaid : Prop := topNightShareRow.holds Try.pinned (OpenSpec.ofChange topNightShareSpec)

/-- ITS FALSE NEIGHBOUR: 'it returns false'. Refute it at one input. -/
def topNightShareWrong : ChangeSpec := { name := "topNightShare", fn := fun _ => fun
  | [d1, d2, d3] => { results := [.lit (.bool false)], args := [d1, d2, d3] }
  | _ => none }
def TopNightShareWrongFalsely : Prop := topNightShareRow.holds Try.pinned (OpenSpec.ofChange topNightShareWrong)

/- THE SECOND FORM. 'bulk': how many values and letters a reading holds, each counted each time it is reached (what is shared counts as often as it is met; a slice's spare places count too). A statement '..UptoSaid' is the law's where the arguments, and the package variables that the reading takes, are together of bulk at most 1048576: NARROWER than '..Said'. Prove '..Said' where nothing that the law and all that it calls make is longer than what came in: it says more and counts as full. Else prove '..UptoSaid'. A law counts once. -/
mutual
def uptoBulk {H : Type} : DataW H → Nat
  | .lit (.string bytes) => bytes.length + 1
  | .lit _ => 1
  | .nil => 1
  | .ptr d => uptoBulk d + 1
  | .slice elems spare => uptoBulkAll elems + uptoBulkAll spare + 1
  | .agg parts => uptoBulkAll parts + 1
  | .iface _ d => uptoBulk d + 1
  | .map entries => uptoBulkEntries entries + 1
  | .held _ => 1
def uptoBulkAll {H : Type} : List (DataW H) → Nat
  | [] => 0
  | d :: r => uptoBulk d + uptoBulkAll r
def uptoBulkEntries {H : Type} : List (Lit × DataW H) → Nat
  | [] => 0
  | x :: r => uptoBulkEntry x + uptoBulkEntries r
def uptoBulkEntry {H : Type} : Lit × DataW H → Nat
  | (.string bytes, d) => bytes.length + uptoBulk d + 1
  | (_, d) => uptoBulk d + 1
 end
def uptoSmall : (H : Type) → List (DataW H) → Bool := fun _ ds => decide (uptoBulkAll ds ≤ 1048576)
def OpenSpec.upto (s : _root_.Go.ChangeSpec) : _root_.Go.OpenSpec := { _root_.Go.OpenSpec.ofChange s with cond := some uptoSmall }

/-- 'ochetop.TopMatchNight', WHERE WHAT IT READS IS OF BULK AT MOST 1048576: true; the input reads as it did. -/
def topMatchNightUptoRow : OpenClaim := { program := "ytaniakoadbkadaa", sum := "611cccd8eef48930cad3ce0ac048e3d107113dfd557c9162407e4b41efcfdba0", func := "oche/ochetop.TopMatchNight", spec := "topMatchNight", unfollowed := true, recurses := true, plainKeys := false, apart := false, narrowed := true }
def TopMatchNightUptoSaid : Prop := topMatchNightUptoRow.holds Try.pinned (OpenSpec.upto topMatchNightSpec)

/-- 'ochetop.TopKnockPrizes', WHERE WHAT IT READS IS OF BULK AT MOST 1048576: true; the input reads as it did. -/
def topKnockPrizesUptoRow : OpenClaim := { program := "ytaniakoadbkadaa", sum := "611cccd8eef48930cad3ce0ac048e3d107113dfd557c9162407e4b41efcfdba0", func := "oche/ochetop.TopKnockPrizes", spec := "topKnockPrizes", unfollowed := true, recurses := true, plainKeys := false, apart := false, narrowed := true }
def TopKnockPrizesUptoSaid : Prop := topKnockPrizesUptoRow.holds Try.pinned (OpenSpec.upto topKnockPrizesSpec)

/-- 'ochetop.TopNightShare', WHERE WHAT IT READS IS OF BULK AT MOST 1048576: true; the input reads as it did. -/
def topNightShareUptoRow : OpenClaim := { program := "ytaniakoadbkadaa", sum := "611cccd8eef48930cad3ce0ac048e3d107113dfd557c9162407e4b41efcfdba0", func := "oche/ochetop.TopNightShare", spec := "topNightShare", unfollowed := true, recurses := true, plainKeys := false, apart := false, narrowed := true }
def TopNightShareUptoSaid : Prop := topNightShareUptoRow.holds Try.pinned (OpenSpec.upto topNightShareSpec)

end Rows
end Go.Proofs.Ytaniakoadbkadaa
