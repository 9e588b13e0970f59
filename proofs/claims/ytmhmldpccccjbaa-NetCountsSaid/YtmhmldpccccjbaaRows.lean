/-
  No cell of these rows narrows 'for every input' (looked for: loops, veiled, ifaces, maps, wideKeys, modest, calm, conditions, laid).
  DERIVED. THE GIVEN ROWS OF THIS SEAT. 6 by the template 'for every input the law returns true; each argument reads behind the call as it read before'; 0 by the template 'total and deterministic' (their statements: YtmhmldpccccjbaaTotals.lean).
  GIVEN WITH THE SEED: the statements are not yours to turn. If you find one false, say at which input.
  Laid BY PROGRAM, IN A SANDBOX (cutbox-rows.mjs): the forced cells as the released guide's own fill.sh prints them over the translation ba5ee836c6e0c65a… (all of the seat's roots in one cut). By AI agents, Wed Nov 11 2026. No macro, syntax, notation, axiom, sorry.
-/
import Derived.Test.YtmhmldpccccjbaaChecked
import GoSem.Claim
import GoSem.ClaimJoined
import GoSem.ClaimMapViews
import Derived.JoinedTies
import Derived.KernelRfl
namespace Go.Proofs.Ytmhmldpccccjbaa
/- THE CELL 'sum', in the pinned program and in every row, IS THE sha256 OF THE DUMP (.gsa) THAT YtmhmldpccccjbaaProg.lean LOADS. Nothing in Lean hashes anything: it is a label: what it is worth is what the hold of that sum in a sandbox is worth. -/
noncomputable def Try.pinned : Pinned := { name := "ytmhmldpccccjbaa", sum := "ba5ee836c6e0c65af2d0687f7bba5590e65c8f9e18e6142a790a0427c1b6d11a", checked := Try.checked }
namespace Rows
def none {H : Type} : Left H := { results := [], args := [] }

/-- 'tallyhouselaw23.NetTakes': WHATEVER THE INPUT: true; the input reads as it did. -/
def netTakesSpec : ChangeSpec := { name := "netTakes", fn := fun _ => fun
  | [d1, d2] => { results := [.lit (.bool true)], args := [d1, d2] }
  | _ => none }
def netTakesRow : OpenClaim := { program := "ytmhmldpccccjbaa", sum := "ba5ee836c6e0c65af2d0687f7bba5590e65c8f9e18e6142a790a0427c1b6d11a", func := "tallyhouse/tallyhouselaw23.NetTakes", spec := "netTakes", inPlace := ["slices.overlaps[tallyhouse/api.Slot]"], unfollowed := true, recurses := true, plainKeys := false, apart := false }
def NetTakesSaid : Prop := netTakesRow.holds Try.pinned (OpenSpec.ofChange netTakesSpec)

/-- ITS FALSE NEIGHBOUR: 'it returns false'. Refute it at one input. -/
def netTakesWrong : ChangeSpec := { name := "netTakes", fn := fun _ => fun
  | [d1, d2] => { results := [.lit (.bool false)], args := [d1, d2] }
  | _ => none }
def NetTakesWrongFalsely : Prop := netTakesRow.holds Try.pinned (OpenSpec.ofChange netTakesWrong)

/-- 'tallyhouselaw23.NetHears': WHATEVER THE INPUT: true; the input reads as it did. -/
def netHearsSpec : ChangeSpec := { name := "netHears", fn := fun _ => fun
  | [d1, d2] => { results := [.lit (.bool true)], args := [d1, d2] }
  | _ => none }
def netHearsRow : OpenClaim := { program := "ytmhmldpccccjbaa", sum := "ba5ee836c6e0c65af2d0687f7bba5590e65c8f9e18e6142a790a0427c1b6d11a", func := "tallyhouse/tallyhouselaw23.NetHears", spec := "netHears", inPlace := ["slices.overlaps[tallyhouse/api.Slot]", "slices.overlaps[tallyhouse/api.Deaf]"], unfollowed := true, recurses := true, plainKeys := false, apart := false }
def NetHearsSaid : Prop := netHearsRow.holds Try.pinned (OpenSpec.ofChange netHearsSpec)

/-- ITS FALSE NEIGHBOUR: 'it returns false'. Refute it at one input. -/
def netHearsWrong : ChangeSpec := { name := "netHears", fn := fun _ => fun
  | [d1, d2] => { results := [.lit (.bool false)], args := [d1, d2] }
  | _ => none }
def NetHearsWrongFalsely : Prop := netHearsRow.holds Try.pinned (OpenSpec.ofChange netHearsWrong)

/-- 'tallyhouselaw23.NetSends': WHATEVER THE INPUT: true; the input reads as it did. -/
def netSendsSpec : ChangeSpec := { name := "netSends", fn := fun _ => fun
  | [d1, d2, d3] => { results := [.lit (.bool true)], args := [d1, d2, d3] }
  | _ => none }
def netSendsRow : OpenClaim := { program := "ytmhmldpccccjbaa", sum := "ba5ee836c6e0c65af2d0687f7bba5590e65c8f9e18e6142a790a0427c1b6d11a", func := "tallyhouse/tallyhouselaw23.NetSends", spec := "netSends", inPlace := ["slices.overlaps[tallyhouse/api.Slot]"], unfollowed := true, recurses := true, plainKeys := false, apart := false }
def NetSendsSaid : Prop := netSendsRow.holds Try.pinned (OpenSpec.ofChange netSendsSpec)

/-- ITS FALSE NEIGHBOUR: 'it returns false'. Refute it at one input. -/
def netSendsWrong : ChangeSpec := { name := "netSends", fn := fun _ => fun
  | [d1, d2, d3] => { results := [.lit (.bool false)], args := [d1, d2, d3] }
  | _ => none }
def NetSendsWrongFalsely : Prop := netSendsRow.holds Try.pinned (OpenSpec.ofChange netSendsWrong)

/-- 'tallyhouselaw23.NetCounts': WHATEVER THE INPUT: true; the input reads as it did. -/
def netCountsSpec : ChangeSpec := { name := "netCounts", fn := fun _ => fun
  | [d] => { results := [.lit (.bool true)], args := [d] }
  | _ => none }
def netCountsRow : OpenClaim := { program := "ytmhmldpccccjbaa", sum := "ba5ee836c6e0c65af2d0687f7bba5590e65c8f9e18e6142a790a0427c1b6d11a", func := "tallyhouse/tallyhouselaw23.NetCounts", spec := "netCounts", inPlace := ["slices.overlaps[tallyhouse/api.Slot]", "slices.overlaps[tallyhouse/api.Deaf]"], unfollowed := true, recurses := true, plainKeys := false, apart := false }
def NetCountsSaid : Prop := netCountsRow.holds Try.pinned (OpenSpec.ofChange netCountsSpec)

/-- ITS FALSE NEIGHBOUR: 'it returns false'. Refute it at one input. -/
def netCountsWrong : ChangeSpec := { name := "netCounts", fn := fun _ => fun
  | [d] => { results := [.lit (.bool false)], args := [d] }
  | _ => none }
def NetCountsWrongFalsely : Prop := netCountsRow.holds Try.pinned (OpenSpec.ofChange netCountsWrong)

/-- 'tallyhouselaw23.NetRow': WHATEVER THE INPUT: true; the input reads as it did. -/
def netRowSpec : ChangeSpec := { name := "netRow", fn := fun _ => fun
  | [d1, d2] => { results := [.lit (.bool true)], args := [d1, d2] }
  | _ => none }
def netRowRow : OpenClaim := { program := "ytmhmldpccccjbaa", sum := "ba5ee836c6e0c65af2d0687f7bba5590e65c8f9e18e6142a790a0427c1b6d11a", func := "tallyhouse/tallyhouselaw23.NetRow", spec := "netRow", inPlace := ["slices.overlaps[tallyhouse/api.Slot]", "slices.overlaps[tallyhouse/api.Deaf]"], unfollowed := true, recurses := true, plainKeys := false, apart := false }
def NetRowSaid : Prop := netRowRow.holds Try.pinned (OpenSpec.ofChange netRowSpec)

/-- ITS FALSE NEIGHBOUR: 'it returns false'. Refute it at one input. -/
def netRowWrong : ChangeSpec := { name := "netRow", fn := fun _ => fun
  | [d1, d2] => { results := [.lit (.bool false)], args := [d1, d2] }
  | _ => none }
def NetRowWrongFalsely : Prop := netRowRow.holds Try.pinned (OpenSpec.ofChange netRowWrong)

/-- 'tallyhouselaw23.NetBack': WHATEVER THE INPUT: true; the input reads as it did. -/
def netBackSpec : ChangeSpec := { name := "netBack", fn := fun _ => fun
  | [d1, d2, d3] => { results := [.lit (.bool true)], args := [d1, d2, d3] }
  | _ => none }
def netBackRow : OpenClaim := { program := "ytmhmldpccccjbaa", sum := "ba5ee836c6e0c65af2d0687f7bba5590e65c8f9e18e6142a790a0427c1b6d11a", func := "tallyhouse/tallyhouselaw23.NetBack", spec := "netBack", inPlace := ["slices.overlaps[tallyhouse/api.Slot]", "slices.overlaps[tallyhouse/api.Deaf]"], unfollowed := true, recurses := true, plainKeys := false, apart := false }
def NetBackSaid : Prop := netBackRow.holds Try.pinned (OpenSpec.ofChange netBackSpec)

/-- ITS FALSE NEIGHBOUR: 'it returns false'. Refute it at one input. -/
def netBackWrong : ChangeSpec := { name := "netBack", fn := fun _ => fun
  | [d1, d2, d3] => { results := [.lit (.bool false)], args := [d1, d2, d3] }
  | _ => none }
def NetBackWrongFalsely : Prop := netBackRow.holds Try.pinned (OpenSpec.ofChange netBackWrong)

/- THE SECOND FORM. 'bulk': how many values and letters a reading holds, each counted each time it is reached (what is shared counts as often as it is met; a slice's spare places count too). A statement '..UptoSaid' is the law's where the arguments, and the package variables that the reading takes, are together of bulk at most 1048576: NARROWER than '..Said'. Prove '..Said' where nothing that the law and all that it calls make is longer than what came in: it says more and counts as full. Else prove '..UptoSaid'. A law counts once. -/
mutual
def uptoBulk {H : Type} : DataW H → Nat
  | .lit (.string bytes) => bytes.length + 1
  | .lit _ => 1
  | .nil => 1
  | .ptr d => uptoBulk d + 1
  | .slice elems spare => uptoBulkAll elems + uptoBulkAll spare + 1
  | .agg parts => uptoBulkAll parts + 1
  | .iface _ d => uptoBulk d + 1
  | .map entries => uptoBulkEntries entries + 1
  | .held _ => 1
def uptoBulkAll {H : Type} : List (DataW H) → Nat
  | [] => 0
  | d :: r => uptoBulk d + uptoBulkAll r
def uptoBulkEntries {H : Type} : List (Lit × DataW H) → Nat
  | [] => 0
  | x :: r => uptoBulkEntry x + uptoBulkEntries r
def uptoBulkEntry {H : Type} : Lit × DataW H → Nat
  | (.string bytes, d) => bytes.length + uptoBulk d + 1
  | (_, d) => uptoBulk d + 1
 end
def uptoSmall : (H : Type) → List (DataW H) → Bool := fun _ ds => decide (uptoBulkAll ds ≤ 1048576)
def OpenSpec.upto (s : _root_.Go.ChangeSpec) : _root_.Go.OpenSpec := { _root_.Go.OpenSpec.ofChange s with cond := some uptoSmall }

/-- 'tallyhouselaw23.NetTakes', WHERE WHAT IT READS IS OF BULK AT MOST 1048576: true; the input reads as it did. -/
def netTakesUptoRow : OpenClaim := { program := "ytmhmldpccccjbaa", sum := "ba5ee836c6e0c65af2d0687f7bba5590e65c8f9e18e6142a790a0427c1b6d11a", func := "tallyhouse/tallyhouselaw23.NetTakes", spec := "netTakes", inPlace := ["slices.overlaps[tallyhouse/api.Slot]"], unfollowed := true, recurses := true, plainKeys := false, apart := false, narrowed := true }
def NetTakesUptoSaid : Prop := netTakesUptoRow.holds Try.pinned (OpenSpec.upto netTakesSpec)

/-- 'tallyhouselaw23.NetHears', WHERE WHAT IT READS IS OF BULK AT MOST 1048576: true; the input reads as it did. -/
def netHearsUptoRow : OpenClaim := { program := "ytmhmldpccccjbaa", sum := "ba5ee836c6e0c65af2d0687f7bba5590e65c8f9e18e6142a790a0427c1b6d11a", func := "tallyhouse/tallyhouselaw23.NetHears", spec := "netHears", inPlace := ["slices.overlaps[tallyhouse/api.Slot]", "slices.overlaps[tallyhouse/api.Deaf]"], unfollowed := true, recurses := true, plainKeys := false, apart := false, narrowed := true }
def NetHearsUptoSaid : Prop := netHearsUptoRow.holds Try.pinned (OpenSpec.upto netHearsSpec)

/-- 'tallyhouselaw23.NetSends', WHERE WHAT IT READS IS OF BULK AT MOST 1048576: true; the input reads as it did. -/
def netSendsUptoRow : OpenClaim := { program := "ytmhmldpccccjbaa", sum := "ba5ee836c6e0c65af2d0687f7bba5590e65c8f9e18e6142a790a0427c1b6d11a", func := "tallyhouse/tallyhouselaw23.NetSends", spec := "netSends", inPlace := ["slices.overlaps[tallyhouse/api.Slot]"], unfollowed := true, recurses := true, plainKeys := false, apart := false, narrowed := true }
def NetSendsUptoSaid : Prop := netSendsUptoRow.holds Try.pinned (OpenSpec.upto netSendsSpec)

/-- 'tallyhouselaw23.NetCounts', WHERE WHAT IT READS IS OF BULK AT MOST 1048576: true; the input reads as it did. -/
def netCountsUptoRow : OpenClaim := { program := "ytmhmldpccccjbaa", sum := "ba5ee836c6e0c65af2d0687f7bba5590e65c8f9e18e6142a790a0427c1b6d11a", func := "tallyhouse/tallyhouselaw23.NetCounts", spec := "netCounts", inPlace := ["slices.overlaps[tallyhouse/api.Slot]", "slices.overlaps[tallyhouse/api.Deaf]"], unfollowed := true, recurses := true, plainKeys := false, apart := false, narrowed := true }
def NetCountsUptoSaid : Prop := netCountsUptoRow.holds Try.pinned (OpenSpec.upto netCountsSpec)

/-- 'tallyhouselaw23.NetRow', WHERE WHAT IT READS IS OF BULK AT MOST 1048576: true; the input reads as it did. -/
def netRowUptoRow : OpenClaim := { program := "ytmhmldpccccjbaa", sum := "ba5ee836c6e0c65af2d0687f7bba5590e65c8f9e18e6142a790a0427c1b6d11a", func := "tallyhouse/tallyhouselaw23.NetRow", spec := "netRow", inPlace := ["slices.overlaps[tallyhouse/api.Slot]", "slices.overlaps[tallyhouse/api.Deaf]"], unfollowed := true, recurses := true, plainKeys := false, apart := false, narrowed := true }
def NetRowUptoSaid : Prop := netRowUptoRow.holds Try.pinned (OpenSpec.upto netRowSpec)

/-- 'tallyhouselaw23.NetBack', WHERE WHAT IT READS IS OF BULK AT MOST 1048576: true; the input reads as it did. -/
def netBackUptoRow : OpenClaim := { program := "ytmhmldpccccjbaa", sum := "ba5ee836c6e0c65af2d0687f7bba5590e65c8f9e18e6142a790a0427c1b6d11a", func := "tallyhouse/tallyhouselaw23.NetBack", spec := "netBack", inPlace := ["slices.overlaps[tallyhouse/api.Slot]", "slices.overlaps[tallyhouse/api.Deaf]"], unfollowed := true, recurses := true, plainKeys := false, apart := false, narrowed := true }
def NetBackUptoSaid : Prop := netBackUptoRow.holds Try.pinned (OpenSpec.upto netBackSpec)

end Rows
end Go.Proofs.Ytmhmldpccccjbaa
