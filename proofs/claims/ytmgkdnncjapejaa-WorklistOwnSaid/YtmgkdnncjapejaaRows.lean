/-
  No cell of these rows narrows 'for every input' (looked for: loops, veiled, ifaces, maps, wideKeys, modest, calm, conditions, laid).
  DERIVED. THE GIVEN ROWS OF THIS SEAT. 5 by the template 'for every input the law returns true; each argument reads behind the call as it read before'; 0 by the template 'total and deterministic' (their statements: YtmgkdnncjapejaaTotals.lean).
  GIVEN WITH THE SEED: the statements are not yours to turn. If you find one false, say at which input.
  Laid BY PROGRAM, IN A SANDBOX (cutbox-rows.mjs): the forced cells as the released guide's own fill.sh prints them over the translation 6327c7a5744f9d1f… (all of the seat's roots in one cut). By AI agents, Wed Nov 11 2026. No macro, syntax, notation, axiom, sorry.
-/
import Derived.Test.YtmgkdnncjapejaaChecked
import GoSem.Claim
import GoSem.ClaimJoined
import GoSem.ClaimMapViews
import Derived.JoinedTies
import Derived.KernelRfl
namespace Go.Proofs.Ytmgkdnncjapejaa
/- THE CELL 'sum', in the pinned program and in every row, IS THE sha256 OF THE DUMP (.gsa) THAT YtmgkdnncjapejaaProg.lean LOADS. Nothing in Lean hashes anything: it is a label: what it is worth is what the hold of that sum in a sandbox is worth. -/
noncomputable def Try.pinned : Pinned := { name := "ytmgkdnncjapejaa", sum := "6327c7a5744f9d1f95c318fd24b031e831bb10579d81a1409f6fb6a7adeaea61", checked := Try.checked }
namespace Rows
def none {H : Type} : Left H := { results := [], args := [] }

/-- 'burnishlaw05.WorklistQueue': WHATEVER THE INPUT: true; the input reads as it did. -/
def worklistQueueSpec : ChangeSpec := { name := "worklistQueue", fn := fun _ => fun
  | [d1, d2] => { results := [.lit (.bool true)], args := [d1, d2] }
  | _ => none }
def worklistQueueRow : OpenClaim := { program := "ytmgkdnncjapejaa", sum := "6327c7a5744f9d1f95c318fd24b031e831bb10579d81a1409f6fb6a7adeaea61", func := "burnish/burnishlaw05.WorklistQueue", spec := "worklistQueue", unfollowed := true, recurses := true, apart := false }
def WorklistQueueSaid : Prop := worklistQueueRow.holds Try.pinned (OpenSpec.ofChange worklistQueueSpec)

/-- ITS FALSE NEIGHBOUR: 'it returns false'. Refute it at one input. -/
def worklistQueueWrong : ChangeSpec := { name := "worklistQueue", fn := fun _ => fun
  | [d1, d2] => { results := [.lit (.bool false)], args := [d1, d2] }
  | _ => none }
def WorklistQueueWrongFalsely : Prop := worklistQueueRow.holds Try.pinned (OpenSpec.ofChange worklistQueueWrong)

/-- 'burnishlaw05.WorklistRank': WHATEVER THE INPUT: true; the input reads as it did. -/
def worklistRankSpec : ChangeSpec := { name := "worklistRank", fn := fun _ => fun
  | [d1, d2] => { results := [.lit (.bool true)], args := [d1, d2] }
  | _ => none }
def worklistRankRow : OpenClaim := { program := "ytmgkdnncjapejaa", sum := "6327c7a5744f9d1f95c318fd24b031e831bb10579d81a1409f6fb6a7adeaea61", func := "burnish/burnishlaw05.WorklistRank", spec := "worklistRank", unfollowed := true, recurses := true, apart := false }
def WorklistRankSaid : Prop := worklistRankRow.holds Try.pinned (OpenSpec.ofChange worklistRankSpec)

/-- ITS FALSE NEIGHBOUR: 'it returns false'. Refute it at one input. -/
def worklistRankWrong : ChangeSpec := { name := "worklistRank", fn := fun _ => fun
  | [d1, d2] => { results := [.lit (.bool false)], args := [d1, d2] }
  | _ => none }
def WorklistRankWrongFalsely : Prop := worklistRankRow.holds Try.pinned (OpenSpec.ofChange worklistRankWrong)

/-- 'burnishlaw05.WorklistSorted': WHATEVER THE INPUT: true; the input reads as it did. -/
def worklistSortedSpec : ChangeSpec := { name := "worklistSorted", fn := fun _ => fun
  | [d1, d2] => { results := [.lit (.bool true)], args := [d1, d2] }
  | _ => none }
def worklistSortedRow : OpenClaim := { program := "ytmgkdnncjapejaa", sum := "6327c7a5744f9d1f95c318fd24b031e831bb10579d81a1409f6fb6a7adeaea61", func := "burnish/burnishlaw05.WorklistSorted", spec := "worklistSorted", unfollowed := true, recurses := true, apart := false }
def WorklistSortedSaid : Prop := worklistSortedRow.holds Try.pinned (OpenSpec.ofChange worklistSortedSpec)

/-- ITS FALSE NEIGHBOUR: 'it returns false'. Refute it at one input. -/
def worklistSortedWrong : ChangeSpec := { name := "worklistSorted", fn := fun _ => fun
  | [d1, d2] => { results := [.lit (.bool false)], args := [d1, d2] }
  | _ => none }
def WorklistSortedWrongFalsely : Prop := worklistSortedRow.holds Try.pinned (OpenSpec.ofChange worklistSortedWrong)

/-- 'burnishlaw05.WorklistTurn': WHATEVER THE INPUT: true; the input reads as it did. -/
def worklistTurnSpec : ChangeSpec := { name := "worklistTurn", fn := fun _ => fun
  | [d1, d2] => { results := [.lit (.bool true)], args := [d1, d2] }
  | _ => none }
def worklistTurnRow : OpenClaim := { program := "ytmgkdnncjapejaa", sum := "6327c7a5744f9d1f95c318fd24b031e831bb10579d81a1409f6fb6a7adeaea61", func := "burnish/burnishlaw05.WorklistTurn", spec := "worklistTurn", unfollowed := true, recurses := true, apart := false }
def WorklistTurnSaid : Prop := worklistTurnRow.holds Try.pinned (OpenSpec.ofChange worklistTurnSpec)

/-- ITS FALSE NEIGHBOUR: 'it returns false'. Refute it at one input. -/
def worklistTurnWrong : ChangeSpec := { name := "worklistTurn", fn := fun _ => fun
  | [d1, d2] => { results := [.lit (.bool false)], args := [d1, d2] }
  | _ => none }
def WorklistTurnWrongFalsely : Prop := worklistTurnRow.holds Try.pinned (OpenSpec.ofChange worklistTurnWrong)

/-- 'burnishlaw05.WorklistOwn': WHATEVER THE INPUT: true; the input reads as it did. -/
def worklistOwnSpec : ChangeSpec := { name := "worklistOwn", fn := fun _ => fun
  | [d1, d2] => { results := [.lit (.bool true)], args := [d1, d2] }
  | _ => none }
def worklistOwnRow : OpenClaim := { program := "ytmgkdnncjapejaa", sum := "6327c7a5744f9d1f95c318fd24b031e831bb10579d81a1409f6fb6a7adeaea61", func := "burnish/burnishlaw05.WorklistOwn", spec := "worklistOwn", unfollowed := true, recurses := true, apart := false }
def WorklistOwnSaid : Prop := worklistOwnRow.holds Try.pinned (OpenSpec.ofChange worklistOwnSpec)

/-- ITS FALSE NEIGHBOUR: 'it returns false'. Refute it at one input. -/
def worklistOwnWrong : ChangeSpec := { name := "worklistOwn", fn := fun _ => fun
  | [d1, d2] => { results := [.lit (.bool false)], args := [d1, d2] }
  | _ => none }
def WorklistOwnWrongFalsely : Prop := worklistOwnRow.holds Try.pinned (OpenSpec.ofChange worklistOwnWrong)

/- THE SECOND FORM. 'bulk': how many values and letters a reading holds, each counted each time it is reached (what is shared counts as often as it is met; a slice's spare places count too). A statement '..UptoSaid' is the law's where the arguments, and the package variables that the reading takes, are together of bulk at most 1048576: NARROWER than '..Said'. Prove '..Said' where nothing that the law and all that it calls make is longer than what came in: it says more and counts as full. Else prove '..UptoSaid'. A law counts once. -/
mutual
def uptoBulk {H : Type} : DataW H → Nat
  | .lit (.string bytes) => bytes.length + 1
  | .lit _ => 1
  | .nil => 1
  | .ptr d => uptoBulk d + 1
  | .slice elems spare => uptoBulkAll elems + uptoBulkAll spare + 1
  | .agg parts => uptoBulkAll parts + 1
  | .iface _ d => uptoBulk d + 1
  | .map entries => uptoBulkEntries entries + 1
  | .held _ => 1
def uptoBulkAll {H : Type} : List (DataW H) → Nat
  | [] => 0
  | d :: r => uptoBulk d + uptoBulkAll r
def uptoBulkEntries {H : Type} : List (Lit × DataW H) → Nat
  | [] => 0
  | x :: r => uptoBulkEntry x + uptoBulkEntries r
def uptoBulkEntry {H : Type} : Lit × DataW H → Nat
  | (.string bytes, d) => bytes.length + uptoBulk d + 1
  | (_, d) => uptoBulk d + 1
 end
def uptoSmall : (H : Type) → List (DataW H) → Bool := fun _ ds => decide (uptoBulkAll ds ≤ 1048576)
def OpenSpec.upto (s : _root_.Go.ChangeSpec) : _root_.Go.OpenSpec := { _root_.Go.OpenSpec.ofChange s with cond := some uptoSmall }

/-- 'burnishlaw05.WorklistQueue', WHERE WHAT IT READS IS OF BULK AT MOST 1048576: true; the input reads as it did. -/
def worklistQueueUptoRow : OpenClaim := { program := "ytmgkdnncjapejaa", sum := "6327c7a5744f9d1f95c318fd24b031e831bb10579d81a1409f6fb6a7adeaea61", func := "burnish/burnishlaw05.WorklistQueue", spec := "worklistQueue", unfollowed := true, recurses := true, apart := false, narrowed := true }
def WorklistQueueUptoSaid : Prop := worklistQueueUptoRow.holds Try.pinned (OpenSpec.upto worklistQueueSpec)

/-- 'burnishlaw05.WorklistRank', WHERE WHAT IT READS IS OF BULK AT MOST 1048576: true; the input reads as it did. -/
def worklistRankUptoRow : OpenClaim := { program := "ytmgkdnncjapejaa", sum := "6327c7a5744f9d1f95c318fd24b031e831bb10579d81a1409f6fb6a7adeaea61", func := "burnish/burnishlaw05.WorklistRank", spec := "worklistRank", unfollowed := true, recurses := true, apart := false, narrowed := true }
def WorklistRankUptoSaid : Prop := worklistRankUptoRow.holds Try.pinned (OpenSpec.upto worklistRankSpec)

/-- 'burnishlaw05.WorklistSorted', WHERE WHAT IT READS IS OF BULK AT MOST 1048576: true; the input reads as it did. -/
def worklistSortedUptoRow : OpenClaim := { program := "ytmgkdnncjapejaa", sum := "6327c7a5744f9d1f95c318fd24b031e831bb10579d81a1409f6fb6a7adeaea61", func := "burnish/burnishlaw05.WorklistSorted", spec := "worklistSorted", unfollowed := true, recurses := true, apart := false, narrowed := true }
def WorklistSortedUptoSaid : Prop := worklistSortedUptoRow.holds Try.pinned (OpenSpec.upto worklistSortedSpec)

/-- 'burnishlaw05.WorklistTurn', WHERE WHAT IT READS IS OF BULK AT MOST 1048576: true; the input reads as it did. -/
def worklistTurnUptoRow : OpenClaim := { program := "ytmgkdnncjapejaa", sum := "6327c7a5744f9d1f95c318fd24b031e831bb10579d81a1409f6fb6a7adeaea61", func := "burnish/burnishlaw05.WorklistTurn", spec := "worklistTurn", unfollowed := true, recurses := true, apart := false, narrowed := true }
def WorklistTurnUptoSaid : Prop := worklistTurnUptoRow.holds Try.pinned (OpenSpec.upto worklistTurnSpec)

/-- 'burnishlaw05.WorklistOwn', WHERE WHAT IT READS IS OF BULK AT MOST 1048576: true; the input reads as it did. -/
def worklistOwnUptoRow : OpenClaim := { program := "ytmgkdnncjapejaa", sum := "6327c7a5744f9d1f95c318fd24b031e831bb10579d81a1409f6fb6a7adeaea61", func := "burnish/burnishlaw05.WorklistOwn", spec := "worklistOwn", unfollowed := true, recurses := true, apart := false, narrowed := true }
def WorklistOwnUptoSaid : Prop := worklistOwnUptoRow.holds Try.pinned (OpenSpec.upto worklistOwnSpec)

end Rows
end Go.Proofs.Ytmgkdnncjapejaa
