/-
  No cell of these rows narrows 'for every input' (looked for: loops, veiled, ifaces, maps, wideKeys, modest, calm, conditions, laid).
  DERIVED. THE GIVEN ROWS OF THIS SEAT. 9 by the template 'for every input the law returns true; each argument reads behind the call as it read before'; 0 by the template 'total and deterministic' (their statements: YtlbfkhikmigpbaaTotals.lean).
  GIVEN WITH THE SEED: the statements are not yours to turn. If you find one false, say at which input.
  Laid BY PROGRAM, IN A SANDBOX (cutbox-rows.mjs): the forced cells as the released guide's own fill.sh prints them over the translation d691587d9b0bf92d… (all of the seat's roots in one cut). By AI agents, Wed Nov 11 2026. No macro, syntax, notation, axiom, sorry.
-/
import Derived.Test.YtlbfkhikmigpbaaChecked
import GoSem.Claim
import GoSem.ClaimJoined
import GoSem.ClaimMapViews
import Derived.JoinedTies
import Derived.KernelRfl
namespace Go.Proofs.Ytlbfkhikmigpbaa
/- THE CELL 'sum', in the pinned program and in every row, IS THE sha256 OF THE DUMP (.gsa) THAT YtlbfkhikmigpbaaProg.lean LOADS. Nothing in Lean hashes anything: it is a label: what it is worth is what the hold of that sum in a sandbox is worth. -/
noncomputable def Try.pinned : Pinned := { name := "ytlbfkhikmigpbaa", sum := "d691587d9b0bf92dd7172bf9755d3ce0cfde060b4d2b237dca3184713a604b40", checked := Try.checked }
namespace Rows
def none {H : Type} : Left H := { results := [], args := [] }

/-- 'ochelaw09.DuelTables': WHATEVER THE INPUT: true; the input reads as it did. -/
def duelTablesSpec : ChangeSpec := { name := "duelTables", fn := fun _ => fun
  | [d] => { results := [.lit (.bool true)], args := [d] }
  | _ => none }
def duelTablesRow : OpenClaim := { program := "ytlbfkhikmigpbaa", sum := "d691587d9b0bf92dd7172bf9755d3ce0cfde060b4d2b237dca3184713a604b40", func := "oche/ochelaw09.DuelTables", spec := "duelTables", unfollowed := true, recurses := true, plainKeys := false, apart := false }
def DuelTablesSaid : Prop := duelTablesRow.holds Try.pinned (OpenSpec.ofChange duelTablesSpec)

/-- ITS FALSE NEIGHBOUR: 'it returns false'. Refute it at one input. -/
def duelTablesWrong : ChangeSpec := { name := "duelTables", fn := fun _ => fun
  | [d] => { results := [.lit (.bool false)], args := [d] }
  | _ => none }
def DuelTablesWrongFalsely : Prop := duelTablesRow.holds Try.pinned (OpenSpec.ofChange duelTablesWrong)

/-- 'ochelaw09.DuelAims': WHATEVER THE INPUT: true; the input reads as it did. -/
def duelAimsSpec : ChangeSpec := { name := "duelAims", fn := fun _ => fun
  | [d1, d2] => { results := [.lit (.bool true)], args := [d1, d2] }
  | _ => none }
def duelAimsRow : OpenClaim := { program := "ytlbfkhikmigpbaa", sum := "d691587d9b0bf92dd7172bf9755d3ce0cfde060b4d2b237dca3184713a604b40", func := "oche/ochelaw09.DuelAims", spec := "duelAims", unfollowed := true, recurses := true, plainKeys := false, apart := false }
def DuelAimsSaid : Prop := duelAimsRow.holds Try.pinned (OpenSpec.ofChange duelAimsSpec)

/-- ITS FALSE NEIGHBOUR: 'it returns false'. Refute it at one input. -/
def duelAimsWrong : ChangeSpec := { name := "duelAims", fn := fun _ => fun
  | [d1, d2] => { results := [.lit (.bool false)], args := [d1, d2] }
  | _ => none }
def DuelAimsWrongFalsely : Prop := duelAimsRow.holds Try.pinned (OpenSpec.ofChange duelAimsWrong)

/-- 'ochelaw09.DuelProofs': WHATEVER THE INPUT: true; the input reads as it did. -/
def duelProofsSpec : ChangeSpec := { name := "duelProofs", fn := fun _ => fun
  | [d1, d2, d3] => { results := [.lit (.bool true)], args := [d1, d2, d3] }
  | _ => none }
def duelProofsRow : OpenClaim := { program := "ytlbfkhikmigpbaa", sum := "d691587d9b0bf92dd7172bf9755d3ce0cfde060b4d2b237dca3184713a604b40", func := "oche/ochelaw09.DuelProofs", spec := "duelProofs", unfollowed := true, recurses := true, plainKeys := false, apart := false }
def DuelProofsSaid : Prop := duelProofsRow.holds Try.pinned (OpenSpec.ofChange duelProofsSpec)

/-- ITS FALSE NEIGHBOUR: 'it returns false'. Refute it at one input. -/
def duelProofsWrong : ChangeSpec := { name := "duelProofs", fn := fun _ => fun
  | [d1, d2, d3] => { results := [.lit (.bool false)], args := [d1, d2, d3] }
  | _ => none }
def DuelProofsWrongFalsely : Prop := duelProofsRow.holds Try.pinned (OpenSpec.ofChange duelProofsWrong)

/-- 'ochelaw09.DuelTosses': WHATEVER THE INPUT: true; the input reads as it did. -/
def duelTossesSpec : ChangeSpec := { name := "duelTosses", fn := fun _ => fun
  | [d] => { results := [.lit (.bool true)], args := [d] }
  | _ => none }
def duelTossesRow : OpenClaim := { program := "ytlbfkhikmigpbaa", sum := "d691587d9b0bf92dd7172bf9755d3ce0cfde060b4d2b237dca3184713a604b40", func := "oche/ochelaw09.DuelTosses", spec := "duelTosses", unfollowed := true, recurses := true, plainKeys := false, apart := false }
def DuelTossesSaid : Prop := duelTossesRow.holds Try.pinned (OpenSpec.ofChange duelTossesSpec)

/-- ITS FALSE NEIGHBOUR: 'it returns false'. Refute it at one input. -/
def duelTossesWrong : ChangeSpec := { name := "duelTosses", fn := fun _ => fun
  | [d] => { results := [.lit (.bool false)], args := [d] }
  | _ => none }
def DuelTossesWrongFalsely : Prop := duelTossesRow.holds Try.pinned (OpenSpec.ofChange duelTossesWrong)

/-- 'ochelaw09.DuelTruths': WHATEVER THE INPUT: true; the input reads as it did. -/
def duelTruthsSpec : ChangeSpec := { name := "duelTruths", fn := fun _ => fun
  | [d1, d2, d3] => { results := [.lit (.bool true)], args := [d1, d2, d3] }
  | _ => none }
def duelTruthsRow : OpenClaim := { program := "ytlbfkhikmigpbaa", sum := "d691587d9b0bf92dd7172bf9755d3ce0cfde060b4d2b237dca3184713a604b40", func := "oche/ochelaw09.DuelTruths", spec := "duelTruths", unfollowed := true, recurses := true, plainKeys := false, apart := false }
def DuelTruthsSaid : Prop := duelTruthsRow.holds Try.pinned (OpenSpec.ofChange duelTruthsSpec)

/-- ITS FALSE NEIGHBOUR: 'it returns false'. Refute it at one input. -/
def duelTruthsWrong : ChangeSpec := { name := "duelTruths", fn := fun _ => fun
  | [d1, d2, d3] => { results := [.lit (.bool false)], args := [d1, d2, d3] }
  | _ => none }
def DuelTruthsWrongFalsely : Prop := duelTruthsRow.holds Try.pinned (OpenSpec.ofChange duelTruthsWrong)

/-- 'ochelaw09.DuelProves': WHATEVER THE INPUT: true; the input reads as it did. -/
def duelProvesSpec : ChangeSpec := { name := "duelProves", fn := fun _ => fun
  | [d1, d2, d3] => { results := [.lit (.bool true)], args := [d1, d2, d3] }
  | _ => none }
def duelProvesRow : OpenClaim := { program := "ytlbfkhikmigpbaa", sum := "d691587d9b0bf92dd7172bf9755d3ce0cfde060b4d2b237dca3184713a604b40", func := "oche/ochelaw09.DuelProves", spec := "duelProves", unfollowed := true, recurses := true, plainKeys := false, apart := false }
def DuelProvesSaid : Prop := duelProvesRow.holds Try.pinned (OpenSpec.ofChange duelProvesSpec)

/-- ITS FALSE NEIGHBOUR: 'it returns false'. Refute it at one input. -/
def duelProvesWrong : ChangeSpec := { name := "duelProves", fn := fun _ => fun
  | [d1, d2, d3] => { results := [.lit (.bool false)], args := [d1, d2, d3] }
  | _ => none }
def DuelProvesWrongFalsely : Prop := duelProvesRow.holds Try.pinned (OpenSpec.ofChange duelProvesWrong)

/-- 'ochelaw09.DuelNoOther': WHATEVER THE INPUT: true; the input reads as it did. -/
def duelNoOtherSpec : ChangeSpec := { name := "duelNoOther", fn := fun _ => fun
  | [d1, d2] => { results := [.lit (.bool true)], args := [d1, d2] }
  | _ => none }
def duelNoOtherRow : OpenClaim := { program := "ytlbfkhikmigpbaa", sum := "d691587d9b0bf92dd7172bf9755d3ce0cfde060b4d2b237dca3184713a604b40", func := "oche/ochelaw09.DuelNoOther", spec := "duelNoOther", unfollowed := true, recurses := true, plainKeys := false, apart := false }
def DuelNoOtherSaid : Prop := duelNoOtherRow.holds Try.pinned (OpenSpec.ofChange duelNoOtherSpec)

/-- ITS FALSE NEIGHBOUR: 'it returns false'. Refute it at one input. -/
def duelNoOtherWrong : ChangeSpec := { name := "duelNoOther", fn := fun _ => fun
  | [d1, d2] => { results := [.lit (.bool false)], args := [d1, d2] }
  | _ => none }
def DuelNoOtherWrongFalsely : Prop := duelNoOtherRow.holds Try.pinned (OpenSpec.ofChange duelNoOtherWrong)

/-- 'ochelaw09.DuelBetter': WHATEVER THE INPUT: true; the input reads as it did. -/
def duelBetterSpec : ChangeSpec := { name := "duelBetter", fn := fun _ => fun
  | [d1, d2, d3] => { results := [.lit (.bool true)], args := [d1, d2, d3] }
  | _ => none }
def duelBetterRow : OpenClaim := { program := "ytlbfkhikmigpbaa", sum := "d691587d9b0bf92dd7172bf9755d3ce0cfde060b4d2b237dca3184713a604b40", func := "oche/ochelaw09.DuelBetter", spec := "duelBetter", unfollowed := true, recurses := true, plainKeys := false, apart := false }
def DuelBetterSaid : Prop := duelBetterRow.holds Try.pinned (OpenSpec.ofChange duelBetterSpec)

/-- ITS FALSE NEIGHBOUR: 'it returns false'. Refute it at one input. -/
def duelBetterWrong : ChangeSpec := { name := "duelBetter", fn := fun _ => fun
  | [d1, d2, d3] => { results := [.lit (.bool false)], args := [d1, d2, d3] }
  | _ => none }
def DuelBetterWrongFalsely : Prop := duelBetterRow.holds Try.pinned (OpenSpec.ofChange duelBetterWrong)

/-- 'ochelaw09.DuelFirst': WHATEVER THE INPUT: true; the input reads as it did. -/
def duelFirstSpec : ChangeSpec := { name := "duelFirst", fn := fun _ => fun
  | [d1, d2] => { results := [.lit (.bool true)], args := [d1, d2] }
  | _ => none }
def duelFirstRow : OpenClaim := { program := "ytlbfkhikmigpbaa", sum := "d691587d9b0bf92dd7172bf9755d3ce0cfde060b4d2b237dca3184713a604b40", func := "oche/ochelaw09.DuelFirst", spec := "duelFirst", unfollowed := true, recurses := true, plainKeys := false, apart := false }
def DuelFirstSaid : Prop := duelFirstRow.holds Try.pinned (OpenSpec.ofChange duelFirstSpec)

/-- ITS FALSE NEIGHBOUR: 'it returns false'. Refute it at one input. -/
def duelFirstWrong : ChangeSpec := { name := "duelFirst", fn := fun _ => fun
  | [d1, d2] => { results := [.lit (.bool false)], args := [d1, d2] }
  | _ => none }
def DuelFirstWrongFalsely : Prop := duelFirstRow.holds Try.pinned (OpenSpec.ofChange duelFirstWrong)

/- THE SECOND FORM. 'bulk': how many values and letters a reading holds, each counted each time it is reached (what is shared counts as often as it is met; a slice's spare places count too). A statement '..UptoSaid' is the law's where the arguments, and the package variables that the reading takes, are together of bulk at most 1048576: NARROWER than '..Said'. Prove '..Said' where nothing that the law and all that it calls make is longer than what came in: it says more and counts as full. Else prove '..UptoSaid'. A law counts once. -/
mutual
def uptoBulk {H : Type} : DataW H → Nat
  | .lit (.string bytes) => bytes.length + 1
  | .lit _ => 1
  | .nil => 1
  | .ptr d => uptoBulk d + 1
  | .slice elems spare => uptoBulkAll elems + uptoBulkAll spare + 1
  | .agg parts => uptoBulkAll parts + 1
  | .iface _ d => uptoBulk d + 1
  | .map entries => uptoBulkEntries entries + 1
  | .held _ => 1
def uptoBulkAll {H : Type} : List (DataW H) → Nat
  | [] => 0
  | d :: r => uptoBulk d + uptoBulkAll r
def uptoBulkEntries {H : Type} : List (Lit × DataW H) → Nat
  | [] => 0
  | x :: r => uptoBulkEntry x + uptoBulkEntries r
def uptoBulkEntry {H : Type} : Lit × DataW H → Nat
  | (.string bytes, d) => bytes.length + uptoBulk d + 1
  | (_, d) => uptoBulk d + 1
 end
def uptoSmall : (H : Type) → List (DataW H) → Bool := fun _ ds => decide (uptoBulkAll ds ≤ 1048576)
def OpenSpec.upto (s : _root_.Go.ChangeSpec) : _root_.Go.OpenSpec := { _root_.Go.OpenSpec.ofChange s with cond := some uptoSmall }

/-- 'ochelaw09.DuelTables', WHERE WHAT IT READS IS OF BULK AT MOST 1048576: true; the input reads as it did. -/
def duelTablesUptoRow : OpenClaim := { program := "ytlbfkhikmigpbaa", sum := "d691587d9b0bf92dd7172bf9755d3ce0cfde060b4d2b237dca3184713a604b40", func := "oche/ochelaw09.DuelTables", spec := "duelTables", unfollowed := true, recurses := true, plainKeys := false, apart := false, narrowed := true }
def DuelTablesUptoSaid : Prop := duelTablesUptoRow.holds Try.pinned (OpenSpec.upto duelTablesSpec)

/-- 'ochelaw09.DuelAims', WHERE WHAT IT READS IS OF BULK AT MOST 1048576: true; the input reads as it did. -/
def duelAimsUptoRow : OpenClaim := { program := "ytlbfkhikmigpbaa", sum := "d691587d9b0bf92dd7172bf9755d3ce0cfde060b4d2b237dca3184713a604b40", func := "oche/ochelaw09.DuelAims", spec := "duelAims", unfollowed := true, recurses := true, plainKeys := false, apart := false, narrowed := true }
def DuelAimsUptoSaid : Prop := duelAimsUptoRow.holds Try.pinned (OpenSpec.upto duelAimsSpec)

/-- 'ochelaw09.DuelProofs', WHERE WHAT IT READS IS OF BULK AT MOST 1048576: true; the input reads as it did. -/
def duelProofsUptoRow : OpenClaim := { program := "ytlbfkhikmigpbaa", sum := "d691587d9b0bf92dd7172bf9755d3ce0cfde060b4d2b237dca3184713a604b40", func := "oche/ochelaw09.DuelProofs", spec := "duelProofs", unfollowed := true, recurses := true, plainKeys := false, apart := false, narrowed := true }
def DuelProofsUptoSaid : Prop := duelProofsUptoRow.holds Try.pinned (OpenSpec.upto duelProofsSpec)

/-- 'ochelaw09.DuelTosses', WHERE WHAT IT READS IS OF BULK AT MOST 1048576: true; the input reads as it did. -/
def duelTossesUptoRow : OpenClaim := { program := "ytlbfkhikmigpbaa", sum := "d691587d9b0bf92dd7172bf9755d3ce0cfde060b4d2b237dca3184713a604b40", func := "oche/ochelaw09.DuelTosses", spec := "duelTosses", unfollowed := true, recurses := true, plainKeys := false, apart := false, narrowed := true }
def DuelTossesUptoSaid : Prop := duelTossesUptoRow.holds Try.pinned (OpenSpec.upto duelTossesSpec)

/-- 'ochelaw09.DuelTruths', WHERE WHAT IT READS IS OF BULK AT MOST 1048576: true; the input reads as it did. -/
def duelTruthsUptoRow : OpenClaim := { program := "ytlbfkhikmigpbaa", sum := "d691587d9b0bf92dd7172bf9755d3ce0cfde060b4d2b237dca3184713a604b40", func := "oche/ochelaw09.DuelTruths", spec := "duelTruths", unfollowed := true, recurses := true, plainKeys := false, apart := false, narrowed := true }
def DuelTruthsUptoSaid : Prop := duelTruthsUptoRow.holds Try.pinned (OpenSpec.upto duelTruthsSpec)

/-- 'ochelaw09.DuelProves', WHERE WHAT IT READS IS OF BULK AT MOST 1048576: true; the input reads as it did. -/
def duelProvesUptoRow : OpenClaim := { program := "ytlbfkhikmigpbaa", sum := "d691587d9b0bf92dd7172bf9755d3ce0cfde060b4d2b237dca3184713a604b40", func := "oche/ochelaw09.DuelProves", spec := "duelProves", unfollowed := true, recurses := true, plainKeys := false, apart := false, narrowed := true }
def DuelProvesUptoSaid : Prop := duelProvesUptoRow.holds Try.pinned (OpenSpec.upto duelProvesSpec)

/-- 'ochelaw09.DuelNoOther', WHERE WHAT IT READS IS OF BULK AT MOST 1048576: true; the input reads as it did. -/
def duelNoOtherUptoRow : OpenClaim := { program := "ytlbfkhikmigpbaa", sum := "d691587d9b0bf92dd7172bf9755d3ce0cfde060b4d2b237dca3184713a604b40", func := "oche/ochelaw09.DuelNoOther", spec := "duelNoOther", unfollowed := true, recurses := true, plainKeys := false, apart := false, narrowed := true }
def DuelNoOtherUptoSaid : Prop := duelNoOtherUptoRow.holds Try.pinned (OpenSpec.upto duelNoOtherSpec)

/-- 'ochelaw09.DuelBetter', WHERE WHAT IT READS IS OF BULK AT MOST 1048576: true; the input reads as it did. -/
def duelBetterUptoRow : OpenClaim := { program := "ytlbfkhikmigpbaa", sum := "d691587d9b0bf92dd7172bf9755d3ce0cfde060b4d2b237dca3184713a604b40", func := "oche/ochelaw09.DuelBetter", spec := "duelBetter", unfollowed := true, recurses := true, plainKeys := false, apart := false, narrowed := true }
def DuelBetterUptoSaid : Prop := duelBetterUptoRow.holds Try.pinned (OpenSpec.upto duelBetterSpec)

/-- 'ochelaw09.DuelFirst', WHERE WHAT IT READS IS OF BULK AT MOST 1048576: true; the input reads as it did. -/
def duelFirstUptoRow : OpenClaim := { program := "ytlbfkhikmigpbaa", sum := "d691587d9b0bf92dd7172bf9755d3ce0cfde060b4d2b237dca3184713a604b40", func := "oche/ochelaw09.DuelFirst", spec := "duelFirst", unfollowed := true, recurses := true, plainKeys := false, apart := false, narrowed := true }
def DuelFirstUptoSaid : Prop := duelFirstUptoRow.holds Try.pinned (OpenSpec.upto duelFirstSpec)

end Rows
end Go.Proofs.Ytlbfkhikmigpbaa
