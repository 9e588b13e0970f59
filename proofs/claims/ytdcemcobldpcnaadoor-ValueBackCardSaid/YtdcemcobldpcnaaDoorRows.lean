/-
  NARROWER THAN 'FOR EVERY INPUT', by the rows' own cells (each row's printed sentence says how): ValueTests: laid · ValueReckons: laid · ValueBytes: laid · ValueBack: laid · ValueChecks: laid · ValueSorts: laid · ValueTruths: laid · ValueLeads: laid.
  DERIVED. THE GIVEN ROWS OF THIS SEAT. 8 by the template 'for every input the law returns true; each argument reads behind the call as it read before'; 0 by the template 'total and deterministic' (their statements: YtdcemcobldpcnaaDoorTotals.lean).
  GIVEN WITH THE SEED: the statements are not yours to turn. If you find one false, say at which input.
  Laid BY PROGRAM, IN A SANDBOX (cutbox-rows.mjs): the forced cells as the released guide's own fill.sh prints them over the translation 6707451c601354bf… (all of the seat's roots in one cut). By AI agents, Wed Nov 11 2026. No macro, syntax, notation, axiom, sorry.
-/
import Derived.Test.YtdcemcobldpcnaaDoorChecked
import GoSem.Claim
import GoSem.ClaimJoined
import GoSem.ClaimMapViews
import Derived.JoinedTies
import Derived.KernelRfl
namespace Go.Proofs.YtdcemcobldpcnaaDoor
/- THE CELL 'sum', in the pinned program and in every row, IS THE sha256 OF THE DUMP (.gsa) THAT YtdcemcobldpcnaaDoorProg.lean LOADS. Nothing in Lean hashes anything: it is a label: what it is worth is what the hold of that sum in a sandbox is worth. -/
noncomputable def Tryd.pinned : Pinned := { name := "ytdcemcobldpcnaadoor", sum := "6707451c601354bfeaac0fa33305809d4ce687060a33cbdbf81afa685c6ee9bf", checked := Tryd.checked }
namespace Rows
def none {H : Type} : Left H := { results := [], args := [] }

/- WHAT THE LISTED PACKAGE-LEVEL VARIABLES READ AS WHEN THE CALL BEGINS. Each datum BY PROGRAM (the guide's laid-datum.mjs) off the statement by which the dump's own 'gosem.cut.vars' lays the variable. In a bare row this is a premise. The card (YtdcemcobldpcnaaDoorCards.lean) ties it to the program's text. -/
def laid_tallyhouse_value_tests {H : Type} : DataW H := .iface "func table" (.agg [.nil, .iface "func" (.lit (.string [116, 97, 108, 108, 121, 104, 111, 117, 115, 101, 47, 118, 97, 108, 117, 101, 46, 116, 101, 115, 116, 115, 36, 49])), .iface "func" (.lit (.string [116, 97, 108, 108, 121, 104, 111, 117, 115, 101, 47, 118, 97, 108, 117, 101, 46, 116, 101, 115, 116, 115, 36, 50])), .iface "func" (.lit (.string [116, 97, 108, 108, 121, 104, 111, 117, 115, 101, 47, 118, 97, 108, 117, 101, 46, 116, 101, 115, 116, 115, 36, 51])), .iface "func" (.lit (.string [116, 97, 108, 108, 121, 104, 111, 117, 115, 101, 47, 118, 97, 108, 117, 101, 46, 116, 101, 115, 116, 115, 36, 52])), .iface "func" (.lit (.string [116, 97, 108, 108, 121, 104, 111, 117, 115, 101, 47, 118, 97, 108, 117, 101, 46, 116, 101, 115, 116, 115, 36, 53])), .iface "func" (.lit (.string [116, 97, 108, 108, 121, 104, 111, 117, 115, 101, 47, 118, 97, 108, 117, 101, 46, 116, 101, 115, 116, 115, 36, 54]))])
def laid_tallyhouse_value_reckons {H : Type} : DataW H := .iface "func table" (.agg [.nil, .iface "func" (.lit (.string [116, 97, 108, 108, 121, 104, 111, 117, 115, 101, 47, 118, 97, 108, 117, 101, 46, 97, 100, 100])), .iface "func" (.lit (.string [116, 97, 108, 108, 121, 104, 111, 117, 115, 101, 47, 118, 97, 108, 117, 101, 46, 115, 117, 98])), .iface "func" (.lit (.string [116, 97, 108, 108, 121, 104, 111, 117, 115, 101, 47, 118, 97, 108, 117, 101, 46, 109, 117, 108])), .iface "func" (.lit (.string [116, 97, 108, 108, 121, 104, 111, 117, 115, 101, 47, 118, 97, 108, 117, 101, 46, 100, 105, 118])), .iface "func" (.lit (.string [116, 97, 108, 108, 121, 104, 111, 117, 115, 101, 47, 118, 97, 108, 117, 101, 46, 114, 101, 109]))])

/-- 'tallyhouselaw05.ValueTests': WHATEVER THE INPUT: true; the input reads as it did. -/
def valueTestsSpec : ChangeSpec := { name := "valueTests", fn := fun _ => fun
  | [d1, d2, d3] => { results := [.lit (.bool true)], args := [d1, d2, d3] }
  | _ => none }
def valueTestsRow : OpenClaim := { program := "ytdcemcobldpcnaadoor", sum := "6707451c601354bfeaac0fa33305809d4ce687060a33cbdbf81afa685c6ee9bf", func := "tallyhouse/tallyhouselaw05.ValueTests", spec := "valueTests", unfollowed := true, recurses := true, named := ["tallyhouse/value.reckons", "tallyhouse/value.tests"], apart := false, laid := [("tallyhouse/value.tests", laid_tallyhouse_value_tests), ("tallyhouse/value.reckons", laid_tallyhouse_value_reckons)] }
def ValueTestsSaid : Prop := valueTestsRow.holds Tryd.pinned (OpenSpec.ofChange valueTestsSpec)

/-- ITS FALSE NEIGHBOUR: 'it returns false'. Refute it at one input. -/
def valueTestsWrong : ChangeSpec := { name := "valueTests", fn := fun _ => fun
  | [d1, d2, d3] => { results := [.lit (.bool false)], args := [d1, d2, d3] }
  | _ => none }
def ValueTestsWrongFalsely : Prop := valueTestsRow.holds Tryd.pinned (OpenSpec.ofChange valueTestsWrong)

/-- 'tallyhouselaw05.ValueReckons': WHATEVER THE INPUT: true; the input reads as it did. -/
def valueReckonsSpec : ChangeSpec := { name := "valueReckons", fn := fun _ => fun
  | [d1, d2, d3] => { results := [.lit (.bool true)], args := [d1, d2, d3] }
  | _ => none }
def valueReckonsRow : OpenClaim := { program := "ytdcemcobldpcnaadoor", sum := "6707451c601354bfeaac0fa33305809d4ce687060a33cbdbf81afa685c6ee9bf", func := "tallyhouse/tallyhouselaw05.ValueReckons", spec := "valueReckons", unfollowed := true, recurses := true, named := ["tallyhouse/value.reckons", "tallyhouse/value.tests"], apart := false, laid := [("tallyhouse/value.tests", laid_tallyhouse_value_tests), ("tallyhouse/value.reckons", laid_tallyhouse_value_reckons)] }
def ValueReckonsSaid : Prop := valueReckonsRow.holds Tryd.pinned (OpenSpec.ofChange valueReckonsSpec)

/-- ITS FALSE NEIGHBOUR: 'it returns false'. Refute it at one input. -/
def valueReckonsWrong : ChangeSpec := { name := "valueReckons", fn := fun _ => fun
  | [d1, d2, d3] => { results := [.lit (.bool false)], args := [d1, d2, d3] }
  | _ => none }
def ValueReckonsWrongFalsely : Prop := valueReckonsRow.holds Tryd.pinned (OpenSpec.ofChange valueReckonsWrong)

/-- 'tallyhouselaw05.ValueBytes': WHATEVER THE INPUT: true; the input reads as it did. -/
def valueBytesSpec : ChangeSpec := { name := "valueBytes", fn := fun _ => fun
  | [d1, d2] => { results := [.lit (.bool true)], args := [d1, d2] }
  | _ => none }
def valueBytesRow : OpenClaim := { program := "ytdcemcobldpcnaadoor", sum := "6707451c601354bfeaac0fa33305809d4ce687060a33cbdbf81afa685c6ee9bf", func := "tallyhouse/tallyhouselaw05.ValueBytes", spec := "valueBytes", unfollowed := true, recurses := true, named := ["tallyhouse/value.reckons", "tallyhouse/value.tests"], apart := false, laid := [("tallyhouse/value.tests", laid_tallyhouse_value_tests), ("tallyhouse/value.reckons", laid_tallyhouse_value_reckons)] }
def ValueBytesSaid : Prop := valueBytesRow.holds Tryd.pinned (OpenSpec.ofChange valueBytesSpec)

/-- ITS FALSE NEIGHBOUR: 'it returns false'. Refute it at one input. -/
def valueBytesWrong : ChangeSpec := { name := "valueBytes", fn := fun _ => fun
  | [d1, d2] => { results := [.lit (.bool false)], args := [d1, d2] }
  | _ => none }
def ValueBytesWrongFalsely : Prop := valueBytesRow.holds Tryd.pinned (OpenSpec.ofChange valueBytesWrong)

/-- 'tallyhouselaw05.ValueBack': WHATEVER THE INPUT: true; the input reads as it did. -/
def valueBackSpec : ChangeSpec := { name := "valueBack", fn := fun _ => fun
  | [d1, d2, d3] => { results := [.lit (.bool true)], args := [d1, d2, d3] }
  | _ => none }
def valueBackRow : OpenClaim := { program := "ytdcemcobldpcnaadoor", sum := "6707451c601354bfeaac0fa33305809d4ce687060a33cbdbf81afa685c6ee9bf", func := "tallyhouse/tallyhouselaw05.ValueBack", spec := "valueBack", unfollowed := true, recurses := true, named := ["tallyhouse/value.reckons", "tallyhouse/value.tests"], apart := false, laid := [("tallyhouse/value.tests", laid_tallyhouse_value_tests), ("tallyhouse/value.reckons", laid_tallyhouse_value_reckons)] }
def ValueBackSaid : Prop := valueBackRow.holds Tryd.pinned (OpenSpec.ofChange valueBackSpec)

/-- ITS FALSE NEIGHBOUR: 'it returns false'. Refute it at one input. -/
def valueBackWrong : ChangeSpec := { name := "valueBack", fn := fun _ => fun
  | [d1, d2, d3] => { results := [.lit (.bool false)], args := [d1, d2, d3] }
  | _ => none }
def ValueBackWrongFalsely : Prop := valueBackRow.holds Tryd.pinned (OpenSpec.ofChange valueBackWrong)

/-- 'tallyhouselaw05.ValueChecks': WHATEVER THE INPUT: true; the input reads as it did. -/
def valueChecksSpec : ChangeSpec := { name := "valueChecks", fn := fun _ => fun
  | [d1, d2] => { results := [.lit (.bool true)], args := [d1, d2] }
  | _ => none }
def valueChecksRow : OpenClaim := { program := "ytdcemcobldpcnaadoor", sum := "6707451c601354bfeaac0fa33305809d4ce687060a33cbdbf81afa685c6ee9bf", func := "tallyhouse/tallyhouselaw05.ValueChecks", spec := "valueChecks", unfollowed := true, recurses := true, named := ["tallyhouse/value.reckons", "tallyhouse/value.tests"], apart := false, laid := [("tallyhouse/value.tests", laid_tallyhouse_value_tests), ("tallyhouse/value.reckons", laid_tallyhouse_value_reckons)] }
def ValueChecksSaid : Prop := valueChecksRow.holds Tryd.pinned (OpenSpec.ofChange valueChecksSpec)

/-- ITS FALSE NEIGHBOUR: 'it returns false'. Refute it at one input. -/
def valueChecksWrong : ChangeSpec := { name := "valueChecks", fn := fun _ => fun
  | [d1, d2] => { results := [.lit (.bool false)], args := [d1, d2] }
  | _ => none }
def ValueChecksWrongFalsely : Prop := valueChecksRow.holds Tryd.pinned (OpenSpec.ofChange valueChecksWrong)

/-- 'tallyhouselaw05.ValueSorts': WHATEVER THE INPUT: true; the input reads as it did. -/
def valueSortsSpec : ChangeSpec := { name := "valueSorts", fn := fun _ => fun
  | [d1, d2] => { results := [.lit (.bool true)], args := [d1, d2] }
  | _ => none }
def valueSortsRow : OpenClaim := { program := "ytdcemcobldpcnaadoor", sum := "6707451c601354bfeaac0fa33305809d4ce687060a33cbdbf81afa685c6ee9bf", func := "tallyhouse/tallyhouselaw05.ValueSorts", spec := "valueSorts", inPlace := ["internal/bytealg.Compare"], unfollowed := true, recurses := true, named := ["tallyhouse/value.reckons", "tallyhouse/value.tests"], apart := false, laid := [("tallyhouse/value.tests", laid_tallyhouse_value_tests), ("tallyhouse/value.reckons", laid_tallyhouse_value_reckons)] }
def ValueSortsSaid : Prop := valueSortsRow.holds Tryd.pinned (OpenSpec.ofChange valueSortsSpec)

/-- ITS FALSE NEIGHBOUR: 'it returns false'. Refute it at one input. -/
def valueSortsWrong : ChangeSpec := { name := "valueSorts", fn := fun _ => fun
  | [d1, d2] => { results := [.lit (.bool false)], args := [d1, d2] }
  | _ => none }
def ValueSortsWrongFalsely : Prop := valueSortsRow.holds Tryd.pinned (OpenSpec.ofChange valueSortsWrong)

/-- 'tallyhouselaw05.ValueTruths': WHATEVER THE INPUT: true; the input reads as it did. -/
def valueTruthsSpec : ChangeSpec := { name := "valueTruths", fn := fun _ => fun
  | [d1, d2] => { results := [.lit (.bool true)], args := [d1, d2] }
  | _ => none }
def valueTruthsRow : OpenClaim := { program := "ytdcemcobldpcnaadoor", sum := "6707451c601354bfeaac0fa33305809d4ce687060a33cbdbf81afa685c6ee9bf", func := "tallyhouse/tallyhouselaw05.ValueTruths", spec := "valueTruths", unfollowed := true, recurses := true, named := ["tallyhouse/value.reckons", "tallyhouse/value.tests"], apart := false, laid := [("tallyhouse/value.tests", laid_tallyhouse_value_tests), ("tallyhouse/value.reckons", laid_tallyhouse_value_reckons)] }
def ValueTruthsSaid : Prop := valueTruthsRow.holds Tryd.pinned (OpenSpec.ofChange valueTruthsSpec)

/-- ITS FALSE NEIGHBOUR: 'it returns false'. Refute it at one input. -/
def valueTruthsWrong : ChangeSpec := { name := "valueTruths", fn := fun _ => fun
  | [d1, d2] => { results := [.lit (.bool false)], args := [d1, d2] }
  | _ => none }
def ValueTruthsWrongFalsely : Prop := valueTruthsRow.holds Tryd.pinned (OpenSpec.ofChange valueTruthsWrong)

/-- 'tallyhouselaw05.ValueLeads': WHATEVER THE INPUT: true; the input reads as it did. -/
def valueLeadsSpec : ChangeSpec := { name := "valueLeads", fn := fun _ => fun
  | [d1, d2, d3] => { results := [.lit (.bool true)], args := [d1, d2, d3] }
  | _ => none }
def valueLeadsRow : OpenClaim := { program := "ytdcemcobldpcnaadoor", sum := "6707451c601354bfeaac0fa33305809d4ce687060a33cbdbf81afa685c6ee9bf", func := "tallyhouse/tallyhouselaw05.ValueLeads", spec := "valueLeads", unfollowed := true, recurses := true, named := ["tallyhouse/value.reckons", "tallyhouse/value.tests"], apart := false, laid := [("tallyhouse/value.tests", laid_tallyhouse_value_tests), ("tallyhouse/value.reckons", laid_tallyhouse_value_reckons)] }
def ValueLeadsSaid : Prop := valueLeadsRow.holds Tryd.pinned (OpenSpec.ofChange valueLeadsSpec)

/-- ITS FALSE NEIGHBOUR: 'it returns false'. Refute it at one input. -/
def valueLeadsWrong : ChangeSpec := { name := "valueLeads", fn := fun _ => fun
  | [d1, d2, d3] => { results := [.lit (.bool false)], args := [d1, d2, d3] }
  | _ => none }
def ValueLeadsWrongFalsely : Prop := valueLeadsRow.holds Tryd.pinned (OpenSpec.ofChange valueLeadsWrong)

/- THE SECOND FORM. 'bulk': how many values and letters a reading holds, each counted each time it is reached (what is shared counts as often as it is met; a slice's spare places count too). A statement '..UptoSaid' is the law's where the arguments, and the package variables that the reading takes, are together of bulk at most 1048576: NARROWER than '..Said'. Prove '..Said' where nothing that the law and all that it calls make is longer than what came in: it says more and counts as full. Else prove '..UptoSaid'. A law counts once. -/
mutual
def uptoBulk {H : Type} : DataW H → Nat
  | .lit (.string bytes) => bytes.length + 1
  | .lit _ => 1
  | .nil => 1
  | .ptr d => uptoBulk d + 1
  | .slice elems spare => uptoBulkAll elems + uptoBulkAll spare + 1
  | .agg parts => uptoBulkAll parts + 1
  | .iface _ d => uptoBulk d + 1
  | .map entries => uptoBulkEntries entries + 1
  | .held _ => 1
def uptoBulkAll {H : Type} : List (DataW H) → Nat
  | [] => 0
  | d :: r => uptoBulk d + uptoBulkAll r
def uptoBulkEntries {H : Type} : List (Lit × DataW H) → Nat
  | [] => 0
  | x :: r => uptoBulkEntry x + uptoBulkEntries r
def uptoBulkEntry {H : Type} : Lit × DataW H → Nat
  | (.string bytes, d) => bytes.length + uptoBulk d + 1
  | (_, d) => uptoBulk d + 1
 end
def uptoSmall : (H : Type) → List (DataW H) → Bool := fun _ ds => decide (uptoBulkAll ds ≤ 1048576)
def OpenSpec.upto (s : _root_.Go.ChangeSpec) : _root_.Go.OpenSpec := { _root_.Go.OpenSpec.ofChange s with cond := some uptoSmall }

/-- 'tallyhouselaw05.ValueTests', WHERE WHAT IT READS IS OF BULK AT MOST 1048576: true; the input reads as it did. -/
def valueTestsUptoRow : OpenClaim := { program := "ytdcemcobldpcnaadoor", sum := "6707451c601354bfeaac0fa33305809d4ce687060a33cbdbf81afa685c6ee9bf", func := "tallyhouse/tallyhouselaw05.ValueTests", spec := "valueTests", unfollowed := true, recurses := true, named := ["tallyhouse/value.reckons", "tallyhouse/value.tests"], apart := false, laid := [("tallyhouse/value.tests", laid_tallyhouse_value_tests), ("tallyhouse/value.reckons", laid_tallyhouse_value_reckons)], narrowed := true }
def ValueTestsUptoSaid : Prop := valueTestsUptoRow.holds Tryd.pinned (OpenSpec.upto valueTestsSpec)

/-- 'tallyhouselaw05.ValueReckons', WHERE WHAT IT READS IS OF BULK AT MOST 1048576: true; the input reads as it did. -/
def valueReckonsUptoRow : OpenClaim := { program := "ytdcemcobldpcnaadoor", sum := "6707451c601354bfeaac0fa33305809d4ce687060a33cbdbf81afa685c6ee9bf", func := "tallyhouse/tallyhouselaw05.ValueReckons", spec := "valueReckons", unfollowed := true, recurses := true, named := ["tallyhouse/value.reckons", "tallyhouse/value.tests"], apart := false, laid := [("tallyhouse/value.tests", laid_tallyhouse_value_tests), ("tallyhouse/value.reckons", laid_tallyhouse_value_reckons)], narrowed := true }
def ValueReckonsUptoSaid : Prop := valueReckonsUptoRow.holds Tryd.pinned (OpenSpec.upto valueReckonsSpec)

/-- 'tallyhouselaw05.ValueBytes', WHERE WHAT IT READS IS OF BULK AT MOST 1048576: true; the input reads as it did. -/
def valueBytesUptoRow : OpenClaim := { program := "ytdcemcobldpcnaadoor", sum := "6707451c601354bfeaac0fa33305809d4ce687060a33cbdbf81afa685c6ee9bf", func := "tallyhouse/tallyhouselaw05.ValueBytes", spec := "valueBytes", unfollowed := true, recurses := true, named := ["tallyhouse/value.reckons", "tallyhouse/value.tests"], apart := false, laid := [("tallyhouse/value.tests", laid_tallyhouse_value_tests), ("tallyhouse/value.reckons", laid_tallyhouse_value_reckons)], narrowed := true }
def ValueBytesUptoSaid : Prop := valueBytesUptoRow.holds Tryd.pinned (OpenSpec.upto valueBytesSpec)

/-- 'tallyhouselaw05.ValueBack', WHERE WHAT IT READS IS OF BULK AT MOST 1048576: true; the input reads as it did. -/
def valueBackUptoRow : OpenClaim := { program := "ytdcemcobldpcnaadoor", sum := "6707451c601354bfeaac0fa33305809d4ce687060a33cbdbf81afa685c6ee9bf", func := "tallyhouse/tallyhouselaw05.ValueBack", spec := "valueBack", unfollowed := true, recurses := true, named := ["tallyhouse/value.reckons", "tallyhouse/value.tests"], apart := false, laid := [("tallyhouse/value.tests", laid_tallyhouse_value_tests), ("tallyhouse/value.reckons", laid_tallyhouse_value_reckons)], narrowed := true }
def ValueBackUptoSaid : Prop := valueBackUptoRow.holds Tryd.pinned (OpenSpec.upto valueBackSpec)

/-- 'tallyhouselaw05.ValueChecks', WHERE WHAT IT READS IS OF BULK AT MOST 1048576: true; the input reads as it did. -/
def valueChecksUptoRow : OpenClaim := { program := "ytdcemcobldpcnaadoor", sum := "6707451c601354bfeaac0fa33305809d4ce687060a33cbdbf81afa685c6ee9bf", func := "tallyhouse/tallyhouselaw05.ValueChecks", spec := "valueChecks", unfollowed := true, recurses := true, named := ["tallyhouse/value.reckons", "tallyhouse/value.tests"], apart := false, laid := [("tallyhouse/value.tests", laid_tallyhouse_value_tests), ("tallyhouse/value.reckons", laid_tallyhouse_value_reckons)], narrowed := true }
def ValueChecksUptoSaid : Prop := valueChecksUptoRow.holds Tryd.pinned (OpenSpec.upto valueChecksSpec)

/-- 'tallyhouselaw05.ValueSorts', WHERE WHAT IT READS IS OF BULK AT MOST 1048576: true; the input reads as it did. -/
def valueSortsUptoRow : OpenClaim := { program := "ytdcemcobldpcnaadoor", sum := "6707451c601354bfeaac0fa33305809d4ce687060a33cbdbf81afa685c6ee9bf", func := "tallyhouse/tallyhouselaw05.ValueSorts", spec := "valueSorts", inPlace := ["internal/bytealg.Compare"], unfollowed := true, recurses := true, named := ["tallyhouse/value.reckons", "tallyhouse/value.tests"], apart := false, laid := [("tallyhouse/value.tests", laid_tallyhouse_value_tests), ("tallyhouse/value.reckons", laid_tallyhouse_value_reckons)], narrowed := true }
def ValueSortsUptoSaid : Prop := valueSortsUptoRow.holds Tryd.pinned (OpenSpec.upto valueSortsSpec)

/-- 'tallyhouselaw05.ValueTruths', WHERE WHAT IT READS IS OF BULK AT MOST 1048576: true; the input reads as it did. -/
def valueTruthsUptoRow : OpenClaim := { program := "ytdcemcobldpcnaadoor", sum := "6707451c601354bfeaac0fa33305809d4ce687060a33cbdbf81afa685c6ee9bf", func := "tallyhouse/tallyhouselaw05.ValueTruths", spec := "valueTruths", unfollowed := true, recurses := true, named := ["tallyhouse/value.reckons", "tallyhouse/value.tests"], apart := false, laid := [("tallyhouse/value.tests", laid_tallyhouse_value_tests), ("tallyhouse/value.reckons", laid_tallyhouse_value_reckons)], narrowed := true }
def ValueTruthsUptoSaid : Prop := valueTruthsUptoRow.holds Tryd.pinned (OpenSpec.upto valueTruthsSpec)

/-- 'tallyhouselaw05.ValueLeads', WHERE WHAT IT READS IS OF BULK AT MOST 1048576: true; the input reads as it did. -/
def valueLeadsUptoRow : OpenClaim := { program := "ytdcemcobldpcnaadoor", sum := "6707451c601354bfeaac0fa33305809d4ce687060a33cbdbf81afa685c6ee9bf", func := "tallyhouse/tallyhouselaw05.ValueLeads", spec := "valueLeads", unfollowed := true, recurses := true, named := ["tallyhouse/value.reckons", "tallyhouse/value.tests"], apart := false, laid := [("tallyhouse/value.tests", laid_tallyhouse_value_tests), ("tallyhouse/value.reckons", laid_tallyhouse_value_reckons)], narrowed := true }
def ValueLeadsUptoSaid : Prop := valueLeadsUptoRow.holds Tryd.pinned (OpenSpec.upto valueLeadsSpec)

end Rows
end Go.Proofs.YtdcemcobldpcnaaDoor
