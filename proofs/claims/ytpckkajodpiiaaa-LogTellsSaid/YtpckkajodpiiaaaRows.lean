/-
  No cell of these rows narrows 'for every input' (looked for: loops, veiled, ifaces, maps, wideKeys, modest, calm, conditions, laid).
  DERIVED. THE GIVEN ROWS OF THIS SEAT. 7 by the template 'for every input the law returns true; each argument reads behind the call as it read before'; 0 by the template 'total and deterministic' (their statements: YtpckkajodpiiaaaTotals.lean).
  GIVEN WITH THE SEED: the statements are not yours to turn. If you find one false, say at which input.
  Laid BY PROGRAM, IN A SANDBOX (cutbox-rows.mjs): the forced cells as the released guide's own fill.sh prints them over the translation cf12de89ce0ce075… (all of the seat's roots in one cut). By AI agents, Wed Nov 11 2026. No macro, syntax, notation, axiom, sorry.
-/
import Derived.Test.YtpckkajodpiiaaaChecked
import GoSem.Claim
import GoSem.ClaimJoined
import GoSem.ClaimMapViews
import Derived.JoinedTies
import Derived.KernelRfl
namespace Go.Proofs.Ytpckkajodpiiaaa
/- THE CELL 'sum', in the pinned program and in every row, IS THE sha256 OF THE DUMP (.gsa) THAT YtpckkajodpiiaaaProg.lean LOADS. Nothing in Lean hashes anything: it is a label: what it is worth is what the hold of that sum in a sandbox is worth. -/
noncomputable def Try.pinned : Pinned := { name := "ytpckkajodpiiaaa", sum := "cf12de89ce0ce0753e02c95d2c78b482effbfb21da1f3187164d5da225997406", checked := Try.checked }
namespace Rows
def none {H : Type} : Left H := { results := [], args := [] }

/-- 'tallyhouselaw06.LogEnds': WHATEVER THE INPUT: true; the input reads as it did. -/
def logEndsSpec : ChangeSpec := { name := "logEnds", fn := fun _ => fun
  | [d1, d2, d3] => { results := [.lit (.bool true)], args := [d1, d2, d3] }
  | _ => none }
def logEndsRow : OpenClaim := { program := "ytpckkajodpiiaaa", sum := "cf12de89ce0ce0753e02c95d2c78b482effbfb21da1f3187164d5da225997406", func := "tallyhouse/tallyhouselaw06.LogEnds", spec := "logEnds", unfollowed := true, recurses := true, apart := false }
def LogEndsSaid : Prop := logEndsRow.holds Try.pinned (OpenSpec.ofChange logEndsSpec)

/-- ITS FALSE NEIGHBOUR: 'it returns false'. Refute it at one input. -/
def logEndsWrong : ChangeSpec := { name := "logEnds", fn := fun _ => fun
  | [d1, d2, d3] => { results := [.lit (.bool false)], args := [d1, d2, d3] }
  | _ => none }
def LogEndsWrongFalsely : Prop := logEndsRow.holds Try.pinned (OpenSpec.ofChange logEndsWrong)

/-- 'tallyhouselaw06.LogMeets': WHATEVER THE INPUT: true; the input reads as it did. -/
def logMeetsSpec : ChangeSpec := { name := "logMeets", fn := fun _ => fun
  | [d1, d2] => { results := [.lit (.bool true)], args := [d1, d2] }
  | _ => none }
def logMeetsRow : OpenClaim := { program := "ytpckkajodpiiaaa", sum := "cf12de89ce0ce0753e02c95d2c78b482effbfb21da1f3187164d5da225997406", func := "tallyhouse/tallyhouselaw06.LogMeets", spec := "logMeets", unfollowed := true, recurses := true, apart := false }
def LogMeetsSaid : Prop := logMeetsRow.holds Try.pinned (OpenSpec.ofChange logMeetsSpec)

/-- ITS FALSE NEIGHBOUR: 'it returns false'. Refute it at one input. -/
def logMeetsWrong : ChangeSpec := { name := "logMeets", fn := fun _ => fun
  | [d1, d2] => { results := [.lit (.bool false)], args := [d1, d2] }
  | _ => none }
def LogMeetsWrongFalsely : Prop := logMeetsRow.holds Try.pinned (OpenSpec.ofChange logMeetsWrong)

/-- 'tallyhouselaw06.LogMay': WHATEVER THE INPUT: true; the input reads as it did. -/
def logMaySpec : ChangeSpec := { name := "logMay", fn := fun _ => fun
  | [d1, d2] => { results := [.lit (.bool true)], args := [d1, d2] }
  | _ => none }
def logMayRow : OpenClaim := { program := "ytpckkajodpiiaaa", sum := "cf12de89ce0ce0753e02c95d2c78b482effbfb21da1f3187164d5da225997406", func := "tallyhouse/tallyhouselaw06.LogMay", spec := "logMay", unfollowed := true, recurses := true, apart := false }
def LogMaySaid : Prop := logMayRow.holds Try.pinned (OpenSpec.ofChange logMaySpec)

/-- ITS FALSE NEIGHBOUR: 'it returns false'. Refute it at one input. -/
def logMayWrong : ChangeSpec := { name := "logMay", fn := fun _ => fun
  | [d1, d2] => { results := [.lit (.bool false)], args := [d1, d2] }
  | _ => none }
def LogMayWrongFalsely : Prop := logMayRow.holds Try.pinned (OpenSpec.ofChange logMayWrong)

/-- 'tallyhouselaw06.LogTells': WHATEVER THE INPUT: true; the input reads as it did. -/
def logTellsSpec : ChangeSpec := { name := "logTells", fn := fun _ => fun
  | [d1, d2, d3] => { results := [.lit (.bool true)], args := [d1, d2, d3] }
  | _ => none }
def logTellsRow : OpenClaim := { program := "ytpckkajodpiiaaa", sum := "cf12de89ce0ce0753e02c95d2c78b482effbfb21da1f3187164d5da225997406", func := "tallyhouse/tallyhouselaw06.LogTells", spec := "logTells", unfollowed := true, recurses := true, apart := false }
def LogTellsSaid : Prop := logTellsRow.holds Try.pinned (OpenSpec.ofChange logTellsSpec)

/-- ITS FALSE NEIGHBOUR: 'it returns false'. Refute it at one input. -/
def logTellsWrong : ChangeSpec := { name := "logTells", fn := fun _ => fun
  | [d1, d2, d3] => { results := [.lit (.bool false)], args := [d1, d2, d3] }
  | _ => none }
def LogTellsWrongFalsely : Prop := logTellsRow.holds Try.pinned (OpenSpec.ofChange logTellsWrong)

/-- 'tallyhouselaw06.LogMatch': WHATEVER THE INPUT: true; the input reads as it did. -/
def logMatchSpec : ChangeSpec := { name := "logMatch", fn := fun _ => fun
  | [d] => { results := [.lit (.bool true)], args := [d] }
  | _ => none }
def logMatchRow : OpenClaim := { program := "ytpckkajodpiiaaa", sum := "cf12de89ce0ce0753e02c95d2c78b482effbfb21da1f3187164d5da225997406", func := "tallyhouse/tallyhouselaw06.LogMatch", spec := "logMatch", unfollowed := true, recurses := true, apart := false }
def LogMatchSaid : Prop := logMatchRow.holds Try.pinned (OpenSpec.ofChange logMatchSpec)

/-- ITS FALSE NEIGHBOUR: 'it returns false'. Refute it at one input. -/
def logMatchWrong : ChangeSpec := { name := "logMatch", fn := fun _ => fun
  | [d] => { results := [.lit (.bool false)], args := [d] }
  | _ => none }
def LogMatchWrongFalsely : Prop := logMatchRow.holds Try.pinned (OpenSpec.ofChange logMatchWrong)

/-- 'tallyhouselaw06.LogTaken': WHATEVER THE INPUT: true; the input reads as it did. -/
def logTakenSpec : ChangeSpec := { name := "logTaken", fn := fun _ => fun
  | [d1, d2] => { results := [.lit (.bool true)], args := [d1, d2] }
  | _ => none }
def logTakenRow : OpenClaim := { program := "ytpckkajodpiiaaa", sum := "cf12de89ce0ce0753e02c95d2c78b482effbfb21da1f3187164d5da225997406", func := "tallyhouse/tallyhouselaw06.LogTaken", spec := "logTaken", unfollowed := true, recurses := true, apart := false }
def LogTakenSaid : Prop := logTakenRow.holds Try.pinned (OpenSpec.ofChange logTakenSpec)

/-- ITS FALSE NEIGHBOUR: 'it returns false'. Refute it at one input. -/
def logTakenWrong : ChangeSpec := { name := "logTaken", fn := fun _ => fun
  | [d1, d2] => { results := [.lit (.bool false)], args := [d1, d2] }
  | _ => none }
def LogTakenWrongFalsely : Prop := logTakenRow.holds Try.pinned (OpenSpec.ofChange logTakenWrong)

/-- 'tallyhouselaw06.LogParts': WHATEVER THE INPUT: true; the input reads as it did. -/
def logPartsSpec : ChangeSpec := { name := "logParts", fn := fun _ => fun
  | [d1, d2] => { results := [.lit (.bool true)], args := [d1, d2] }
  | _ => none }
def logPartsRow : OpenClaim := { program := "ytpckkajodpiiaaa", sum := "cf12de89ce0ce0753e02c95d2c78b482effbfb21da1f3187164d5da225997406", func := "tallyhouse/tallyhouselaw06.LogParts", spec := "logParts", unfollowed := true, recurses := true, apart := false }
def LogPartsSaid : Prop := logPartsRow.holds Try.pinned (OpenSpec.ofChange logPartsSpec)

/-- ITS FALSE NEIGHBOUR: 'it returns false'. Refute it at one input. -/
def logPartsWrong : ChangeSpec := { name := "logParts", fn := fun _ => fun
  | [d1, d2] => { results := [.lit (.bool false)], args := [d1, d2] }
  | _ => none }
def LogPartsWrongFalsely : Prop := logPartsRow.holds Try.pinned (OpenSpec.ofChange logPartsWrong)

/- THE SECOND FORM. 'bulk': how many values and letters a reading holds, each counted each time it is reached (what is shared counts as often as it is met; a slice's spare places count too). A statement '..UptoSaid' is the law's where the arguments, and the package variables that the reading takes, are together of bulk at most 1048576: NARROWER than '..Said'. Prove '..Said' where nothing that the law and all that it calls make is longer than what came in: it says more and counts as full. Else prove '..UptoSaid'. A law counts once. -/
mutual
def uptoBulk {H : Type} : DataW H → Nat
  | .lit (.string bytes) => bytes.length + 1
  | .lit _ => 1
  | .nil => 1
  | .ptr d => uptoBulk d + 1
  | .slice elems spare => uptoBulkAll elems + uptoBulkAll spare + 1
  | .agg parts => uptoBulkAll parts + 1
  | .iface _ d => uptoBulk d + 1
  | .map entries => uptoBulkEntries entries + 1
  | .held _ => 1
def uptoBulkAll {H : Type} : List (DataW H) → Nat
  | [] => 0
  | d :: r => uptoBulk d + uptoBulkAll r
def uptoBulkEntries {H : Type} : List (Lit × DataW H) → Nat
  | [] => 0
  | x :: r => uptoBulkEntry x + uptoBulkEntries r
def uptoBulkEntry {H : Type} : Lit × DataW H → Nat
  | (.string bytes, d) => bytes.length + uptoBulk d + 1
  | (_, d) => uptoBulk d + 1
 end
def uptoSmall : (H : Type) → List (DataW H) → Bool := fun _ ds => decide (uptoBulkAll ds ≤ 1048576)
def OpenSpec.upto (s : _root_.Go.ChangeSpec) : _root_.Go.OpenSpec := { _root_.Go.OpenSpec.ofChange s with cond := some uptoSmall }

/-- 'tallyhouselaw06.LogEnds', WHERE WHAT IT READS IS OF BULK AT MOST 1048576: true; the input reads as it did. -/
def logEndsUptoRow : OpenClaim := { program := "ytpckkajodpiiaaa", sum := "cf12de89ce0ce0753e02c95d2c78b482effbfb21da1f3187164d5da225997406", func := "tallyhouse/tallyhouselaw06.LogEnds", spec := "logEnds", unfollowed := true, recurses := true, apart := false, narrowed := true }
def LogEndsUptoSaid : Prop := logEndsUptoRow.holds Try.pinned (OpenSpec.upto logEndsSpec)

/-- 'tallyhouselaw06.LogMeets', WHERE WHAT IT READS IS OF BULK AT MOST 1048576: true; the input reads as it did. -/
def logMeetsUptoRow : OpenClaim := { program := "ytpckkajodpiiaaa", sum := "cf12de89ce0ce0753e02c95d2c78b482effbfb21da1f3187164d5da225997406", func := "tallyhouse/tallyhouselaw06.LogMeets", spec := "logMeets", unfollowed := true, recurses := true, apart := false, narrowed := true }
def LogMeetsUptoSaid : Prop := logMeetsUptoRow.holds Try.pinned (OpenSpec.upto logMeetsSpec)

/-- 'tallyhouselaw06.LogMay', WHERE WHAT IT READS IS OF BULK AT MOST 1048576: true; the input reads as it did. -/
def logMayUptoRow : OpenClaim := { program := "ytpckkajodpiiaaa", sum := "cf12de89ce0ce0753e02c95d2c78b482effbfb21da1f3187164d5da225997406", func := "tallyhouse/tallyhouselaw06.LogMay", spec := "logMay", unfollowed := true, recurses := true, apart := false, narrowed := true }
def LogMayUptoSaid : Prop := logMayUptoRow.holds Try.pinned (OpenSpec.upto logMaySpec)

/-- 'tallyhouselaw06.LogTells', WHERE WHAT IT READS IS OF BULK AT MOST 1048576: true; the input reads as it did. -/
def logTellsUptoRow : OpenClaim := { program := "ytpckkajodpiiaaa", sum := "cf12de89ce0ce0753e02c95d2c78b482effbfb21da1f3187164d5da225997406", func := "tallyhouse/tallyhouselaw06.LogTells", spec := "logTells", unfollowed := true, recurses := true, apart := false, narrowed := true }
def LogTellsUptoSaid : Prop := logTellsUptoRow.holds Try.pinned (OpenSpec.upto logTellsSpec)

/-- 'tallyhouselaw06.LogMatch', WHERE WHAT IT READS IS OF BULK AT MOST 1048576: true; the input reads as it did. -/
def logMatchUptoRow : OpenClaim := { program := "ytpckkajodpiiaaa", sum := "cf12de89ce0ce0753e02c95d2c78b482effbfb21da1f3187164d5da225997406", func := "tallyhouse/tallyhouselaw06.LogMatch", spec := "logMatch", unfollowed := true, recurses := true, apart := false, narrowed := true }
def LogMatchUptoSaid : Prop := logMatchUptoRow.holds Try.pinned (OpenSpec.upto logMatchSpec)

/-- 'tallyhouselaw06.LogTaken', WHERE WHAT IT READS IS OF BULK AT MOST 1048576: true; the input reads as it did. -/
def logTakenUptoRow : OpenClaim := { program := "ytpckkajodpiiaaa", sum := "cf12de89ce0ce0753e02c95d2c78b482effbfb21da1f3187164d5da225997406", func := "tallyhouse/tallyhouselaw06.LogTaken", spec := "logTaken", unfollowed := true, recurses := true, apart := false, narrowed := true }
def LogTakenUptoSaid : Prop := logTakenUptoRow.holds Try.pinned (OpenSpec.upto logTakenSpec)

/-- 'tallyhouselaw06.LogParts', WHERE WHAT IT READS IS OF BULK AT MOST 1048576: true; the input reads as it did. -/
def logPartsUptoRow : OpenClaim := { program := "ytpckkajodpiiaaa", sum := "cf12de89ce0ce0753e02c95d2c78b482effbfb21da1f3187164d5da225997406", func := "tallyhouse/tallyhouselaw06.LogParts", spec := "logParts", unfollowed := true, recurses := true, apart := false, narrowed := true }
def LogPartsUptoSaid : Prop := logPartsUptoRow.holds Try.pinned (OpenSpec.upto logPartsSpec)

end Rows
end Go.Proofs.Ytpckkajodpiiaaa
