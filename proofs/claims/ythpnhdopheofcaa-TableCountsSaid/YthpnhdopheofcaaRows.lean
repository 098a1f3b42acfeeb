/-
  No cell of these rows narrows 'for every input' (looked for: loops, veiled, ifaces, maps, wideKeys, modest, calm, conditions, laid).
  DERIVED. THE GIVEN ROWS OF THIS SEAT. 10 by the template 'for every input the law returns true; each argument reads behind the call as it read before'; 0 by the template 'total and deterministic' (their statements: YthpnhdopheofcaaTotals.lean).
  GIVEN WITH THE SEED: the statements are not yours to turn. If you find one false, say at which input.
  Laid BY PROGRAM, IN A SANDBOX (cutbox-rows.mjs): the forced cells as the released guide's own fill.sh prints them over the translation 036ed16e1a839e64… (all of the seat's roots in one cut). By AI agents, Wed Nov 11 2026. No macro, syntax, notation, axiom, sorry.
-/
import Derived.Test.YthpnhdopheofcaaChecked
import GoSem.Claim
import GoSem.ClaimJoined
import GoSem.ClaimMapViews
import Derived.JoinedTies
import Derived.KernelRfl
namespace Go.Proofs.Ythpnhdopheofcaa
/- THE CELL 'sum', in the pinned program and in every row, IS THE sha256 OF THE DUMP (.gsa) THAT YthpnhdopheofcaaProg.lean LOADS. Nothing in Lean hashes anything: it is a label: what it is worth is what the hold of that sum in a sandbox is worth. -/
noncomputable def Try.pinned : Pinned := { name := "ythpnhdopheofcaa", sum := "036ed16e1a839e64472b070b58337e8d6fea3494eede585de3991212ebd5ccd0", checked := Try.checked }
namespace Rows
def none {H : Type} : Left H := { results := [], args := [] }

/-- 'tallowlaw26.StackTries': WHATEVER THE INPUT: true; the input reads as it did. -/
def stackTriesSpec : ChangeSpec := { name := "stackTries", fn := fun _ => fun
  | [d1, d2, d3] => { results := [.lit (.bool true)], args := [d1, d2, d3] }
  | _ => none }
def stackTriesRow : OpenClaim := { program := "ythpnhdopheofcaa", sum := "036ed16e1a839e64472b070b58337e8d6fea3494eede585de3991212ebd5ccd0", func := "tallow/tallowlaw26.StackTries", spec := "stackTries", unfollowed := true, recurses := true, plainKeys := false, apart := false }
def StackTriesSaid : Prop := stackTriesRow.holds Try.pinned (OpenSpec.ofChange stackTriesSpec)

/-- ITS FALSE NEIGHBOUR: 'it returns false'. Refute it at one input. -/
def stackTriesWrong : ChangeSpec := { name := "stackTries", fn := fun _ => fun
  | [d1, d2, d3] => { results := [.lit (.bool false)], args := [d1, d2, d3] }
  | _ => none }
def StackTriesWrongFalsely : Prop := stackTriesRow.holds Try.pinned (OpenSpec.ofChange stackTriesWrong)

/-- 'tallowlaw26.StackCalls': WHATEVER THE INPUT: true; the input reads as it did. -/
def stackCallsSpec : ChangeSpec := { name := "stackCalls", fn := fun _ => fun
  | [d1, d2, d3] => { results := [.lit (.bool true)], args := [d1, d2, d3] }
  | _ => none }
def stackCallsRow : OpenClaim := { program := "ythpnhdopheofcaa", sum := "036ed16e1a839e64472b070b58337e8d6fea3494eede585de3991212ebd5ccd0", func := "tallow/tallowlaw26.StackCalls", spec := "stackCalls", unfollowed := true, recurses := true, plainKeys := false, apart := false }
def StackCallsSaid : Prop := stackCallsRow.holds Try.pinned (OpenSpec.ofChange stackCallsSpec)

/-- ITS FALSE NEIGHBOUR: 'it returns false'. Refute it at one input. -/
def stackCallsWrong : ChangeSpec := { name := "stackCalls", fn := fun _ => fun
  | [d1, d2, d3] => { results := [.lit (.bool false)], args := [d1, d2, d3] }
  | _ => none }
def StackCallsWrongFalsely : Prop := stackCallsRow.holds Try.pinned (OpenSpec.ofChange stackCallsWrong)

/-- 'tallowlaw26.StackKnown': WHATEVER THE INPUT: true; the input reads as it did. -/
def stackKnownSpec : ChangeSpec := { name := "stackKnown", fn := fun _ => fun
  | [] => { results := [.lit (.bool true)], args := [] }
  | _ => none }
def stackKnownRow : OpenClaim := { program := "ythpnhdopheofcaa", sum := "036ed16e1a839e64472b070b58337e8d6fea3494eede585de3991212ebd5ccd0", func := "tallow/tallowlaw26.StackKnown", spec := "stackKnown", unfollowed := true, recurses := true, plainKeys := false, apart := false }
def StackKnownSaid : Prop := stackKnownRow.holds Try.pinned (OpenSpec.ofChange stackKnownSpec)

/-- ITS FALSE NEIGHBOUR: 'it returns false'. Refute it at one input. -/
def stackKnownWrong : ChangeSpec := { name := "stackKnown", fn := fun _ => fun
  | [] => { results := [.lit (.bool false)], args := [] }
  | _ => none }
def StackKnownWrongFalsely : Prop := stackKnownRow.holds Try.pinned (OpenSpec.ofChange stackKnownWrong)

/-- 'tallowlaw18.TableFinds': WHATEVER THE INPUT: true; the input reads as it did. -/
def tableFindsSpec : ChangeSpec := { name := "tableFinds", fn := fun _ => fun
  | [d] => { results := [.lit (.bool true)], args := [d] }
  | _ => none }
def tableFindsRow : OpenClaim := { program := "ythpnhdopheofcaa", sum := "036ed16e1a839e64472b070b58337e8d6fea3494eede585de3991212ebd5ccd0", func := "tallow/tallowlaw18.TableFinds", spec := "tableFinds", unfollowed := true, recurses := true, plainKeys := false, apart := false }
def TableFindsSaid : Prop := tableFindsRow.holds Try.pinned (OpenSpec.ofChange tableFindsSpec)

/-- ITS FALSE NEIGHBOUR: 'it returns false'. Refute it at one input. -/
def tableFindsWrong : ChangeSpec := { name := "tableFinds", fn := fun _ => fun
  | [d] => { results := [.lit (.bool false)], args := [d] }
  | _ => none }
def TableFindsWrongFalsely : Prop := tableFindsRow.holds Try.pinned (OpenSpec.ofChange tableFindsWrong)

/-- 'tallowlaw18.TableKnown': WHATEVER THE INPUT: true; the input reads as it did. -/
def tableKnownSpec : ChangeSpec := { name := "tableKnown", fn := fun _ => fun
  | [] => { results := [.lit (.bool true)], args := [] }
  | _ => none }
def tableKnownRow : OpenClaim := { program := "ythpnhdopheofcaa", sum := "036ed16e1a839e64472b070b58337e8d6fea3494eede585de3991212ebd5ccd0", func := "tallow/tallowlaw18.TableKnown", spec := "tableKnown", unfollowed := true, recurses := true, plainKeys := false, apart := false }
def TableKnownSaid : Prop := tableKnownRow.holds Try.pinned (OpenSpec.ofChange tableKnownSpec)

/-- ITS FALSE NEIGHBOUR: 'it returns false'. Refute it at one input. -/
def tableKnownWrong : ChangeSpec := { name := "tableKnown", fn := fun _ => fun
  | [] => { results := [.lit (.bool false)], args := [] }
  | _ => none }
def TableKnownWrongFalsely : Prop := tableKnownRow.holds Try.pinned (OpenSpec.ofChange tableKnownWrong)

/-- 'tallowlaw18.TableTypes': WHATEVER THE INPUT: true; the input reads as it did. -/
def tableTypesSpec : ChangeSpec := { name := "tableTypes", fn := fun _ => fun
  | [d1, d2, d3] => { results := [.lit (.bool true)], args := [d1, d2, d3] }
  | _ => none }
def tableTypesRow : OpenClaim := { program := "ythpnhdopheofcaa", sum := "036ed16e1a839e64472b070b58337e8d6fea3494eede585de3991212ebd5ccd0", func := "tallow/tallowlaw18.TableTypes", spec := "tableTypes", unfollowed := true, recurses := true, plainKeys := false, apart := false }
def TableTypesSaid : Prop := tableTypesRow.holds Try.pinned (OpenSpec.ofChange tableTypesSpec)

/-- ITS FALSE NEIGHBOUR: 'it returns false'. Refute it at one input. -/
def tableTypesWrong : ChangeSpec := { name := "tableTypes", fn := fun _ => fun
  | [d1, d2, d3] => { results := [.lit (.bool false)], args := [d1, d2, d3] }
  | _ => none }
def TableTypesWrongFalsely : Prop := tableTypesRow.holds Try.pinned (OpenSpec.ofChange tableTypesWrong)

/-- 'tallowlaw26.StackCounts': WHATEVER THE INPUT: true; the input reads as it did. -/
def stackCountsSpec : ChangeSpec := { name := "stackCounts", fn := fun _ => fun
  | [d] => { results := [.lit (.bool true)], args := [d] }
  | _ => none }
def stackCountsRow : OpenClaim := { program := "ythpnhdopheofcaa", sum := "036ed16e1a839e64472b070b58337e8d6fea3494eede585de3991212ebd5ccd0", func := "tallow/tallowlaw26.StackCounts", spec := "stackCounts", unfollowed := true, recurses := true, plainKeys := false, apart := false }
def StackCountsSaid : Prop := stackCountsRow.holds Try.pinned (OpenSpec.ofChange stackCountsSpec)

/-- ITS FALSE NEIGHBOUR: 'it returns false'. Refute it at one input. -/
def stackCountsWrong : ChangeSpec := { name := "stackCounts", fn := fun _ => fun
  | [d] => { results := [.lit (.bool false)], args := [d] }
  | _ => none }
def StackCountsWrongFalsely : Prop := stackCountsRow.holds Try.pinned (OpenSpec.ofChange stackCountsWrong)

/-- 'tallowlaw19.MetaMarks': WHATEVER THE INPUT: true; the input reads as it did. -/
def metaMarksSpec : ChangeSpec := { name := "metaMarks", fn := fun _ => fun
  | [d] => { results := [.lit (.bool true)], args := [d] }
  | _ => none }
def metaMarksRow : OpenClaim := { program := "ythpnhdopheofcaa", sum := "036ed16e1a839e64472b070b58337e8d6fea3494eede585de3991212ebd5ccd0", func := "tallow/tallowlaw19.MetaMarks", spec := "metaMarks", unfollowed := true, recurses := true, plainKeys := false, apart := false }
def MetaMarksSaid : Prop := metaMarksRow.holds Try.pinned (OpenSpec.ofChange metaMarksSpec)

/-- ITS FALSE NEIGHBOUR: 'it returns false'. Refute it at one input. -/
def metaMarksWrong : ChangeSpec := { name := "metaMarks", fn := fun _ => fun
  | [d] => { results := [.lit (.bool false)], args := [d] }
  | _ => none }
def MetaMarksWrongFalsely : Prop := metaMarksRow.holds Try.pinned (OpenSpec.ofChange metaMarksWrong)

/-- 'tallowlaw19.MetaKnown': WHATEVER THE INPUT: true; the input reads as it did. -/
def metaKnownSpec : ChangeSpec := { name := "metaKnown", fn := fun _ => fun
  | [] => { results := [.lit (.bool true)], args := [] }
  | _ => none }
def metaKnownRow : OpenClaim := { program := "ythpnhdopheofcaa", sum := "036ed16e1a839e64472b070b58337e8d6fea3494eede585de3991212ebd5ccd0", func := "tallow/tallowlaw19.MetaKnown", spec := "metaKnown", unfollowed := true, recurses := true, plainKeys := false, apart := false }
def MetaKnownSaid : Prop := metaKnownRow.holds Try.pinned (OpenSpec.ofChange metaKnownSpec)

/-- ITS FALSE NEIGHBOUR: 'it returns false'. Refute it at one input. -/
def metaKnownWrong : ChangeSpec := { name := "metaKnown", fn := fun _ => fun
  | [] => { results := [.lit (.bool false)], args := [] }
  | _ => none }
def MetaKnownWrongFalsely : Prop := metaKnownRow.holds Try.pinned (OpenSpec.ofChange metaKnownWrong)

/-- 'tallowlaw18.TableCounts': WHATEVER THE INPUT: true; the input reads as it did. -/
def tableCountsSpec : ChangeSpec := { name := "tableCounts", fn := fun _ => fun
  | [d] => { results := [.lit (.bool true)], args := [d] }
  | _ => none }
def tableCountsRow : OpenClaim := { program := "ythpnhdopheofcaa", sum := "036ed16e1a839e64472b070b58337e8d6fea3494eede585de3991212ebd5ccd0", func := "tallow/tallowlaw18.TableCounts", spec := "tableCounts", unfollowed := true, recurses := true, plainKeys := false, apart := false }
def TableCountsSaid : Prop := tableCountsRow.holds Try.pinned (OpenSpec.ofChange tableCountsSpec)

/-- ITS FALSE NEIGHBOUR: 'it returns false'. Refute it at one input. -/
def tableCountsWrong : ChangeSpec := { name := "tableCounts", fn := fun _ => fun
  | [d] => { results := [.lit (.bool false)], args := [d] }
  | _ => none }
def TableCountsWrongFalsely : Prop := tableCountsRow.holds Try.pinned (OpenSpec.ofChange tableCountsWrong)

/- THE SECOND FORM. 'bulk': how many values and letters a reading holds, each counted each time it is reached (what is shared counts as often as it is met; a slice's spare places count too). A statement '..UptoSaid' is the law's where the arguments, and the package variables that the reading takes, are together of bulk at most 1048576: NARROWER than '..Said'. Prove '..Said' where nothing that the law and all that it calls make is longer than what came in: it says more and counts as full. Else prove '..UptoSaid'. A law counts once. -/
mutual
def uptoBulk {H : Type} : DataW H → Nat
  | .lit (.string bytes) => bytes.length + 1
  | .lit _ => 1
  | .nil => 1
  | .ptr d => uptoBulk d + 1
  | .slice elems spare => uptoBulkAll elems + uptoBulkAll spare + 1
  | .agg parts => uptoBulkAll parts + 1
  | .iface _ d => uptoBulk d + 1
  | .map entries => uptoBulkEntries entries + 1
  | .held _ => 1
def uptoBulkAll {H : Type} : List (DataW H) → Nat
  | [] => 0
  | d :: r => uptoBulk d + uptoBulkAll r
def uptoBulkEntries {H : Type} : List (Lit × DataW H) → Nat
  | [] => 0
  | x :: r => uptoBulkEntry x + uptoBulkEntries r
def uptoBulkEntry {H : Type} : Lit × DataW H → Nat
  | (.string bytes, d) => bytes.length + uptoBulk d + 1
  | (_, d) => uptoBulk d + 1
 end
def uptoSmall : (H : Type) → List (DataW H) → Bool := fun _ ds => decide (uptoBulkAll ds ≤ 1048576)
def OpenSpec.upto (s : _root_.Go.ChangeSpec) : _root_.Go.OpenSpec := { _root_.Go.OpenSpec.ofChange s with cond := some uptoSmall }

/-- 'tallowlaw26.StackTries', WHERE WHAT IT READS IS OF BULK AT MOST 1048576: true; the input reads as it did. -/
def stackTriesUptoRow : OpenClaim := { program := "ythpnhdopheofcaa", sum := "036ed16e1a839e64472b070b58337e8d6fea3494eede585de3991212ebd5ccd0", func := "tallow/tallowlaw26.StackTries", spec := "stackTries", unfollowed := true, recurses := true, plainKeys := false, apart := false, narrowed := true }
def StackTriesUptoSaid : Prop := stackTriesUptoRow.holds Try.pinned (OpenSpec.upto stackTriesSpec)

/-- 'tallowlaw26.StackCalls', WHERE WHAT IT READS IS OF BULK AT MOST 1048576: true; the input reads as it did. -/
def stackCallsUptoRow : OpenClaim := { program := "ythpnhdopheofcaa", sum := "036ed16e1a839e64472b070b58337e8d6fea3494eede585de3991212ebd5ccd0", func := "tallow/tallowlaw26.StackCalls", spec := "stackCalls", unfollowed := true, recurses := true, plainKeys := false, apart := false, narrowed := true }
def StackCallsUptoSaid : Prop := stackCallsUptoRow.holds Try.pinned (OpenSpec.upto stackCallsSpec)

/-- 'tallowlaw26.StackKnown', WHERE WHAT IT READS IS OF BULK AT MOST 1048576: true; the input reads as it did. -/
def stackKnownUptoRow : OpenClaim := { program := "ythpnhdopheofcaa", sum := "036ed16e1a839e64472b070b58337e8d6fea3494eede585de3991212ebd5ccd0", func := "tallow/tallowlaw26.StackKnown", spec := "stackKnown", unfollowed := true, recurses := true, plainKeys := false, apart := false, narrowed := true }
def StackKnownUptoSaid : Prop := stackKnownUptoRow.holds Try.pinned (OpenSpec.upto stackKnownSpec)

/-- 'tallowlaw18.TableFinds', WHERE WHAT IT READS IS OF BULK AT MOST 1048576: true; the input reads as it did. -/
def tableFindsUptoRow : OpenClaim := { program := "ythpnhdopheofcaa", sum := "036ed16e1a839e64472b070b58337e8d6fea3494eede585de3991212ebd5ccd0", func := "tallow/tallowlaw18.TableFinds", spec := "tableFinds", unfollowed := true, recurses := true, plainKeys := false, apart := false, narrowed := true }
def TableFindsUptoSaid : Prop := tableFindsUptoRow.holds Try.pinned (OpenSpec.upto tableFindsSpec)

/-- 'tallowlaw18.TableKnown', WHERE WHAT IT READS IS OF BULK AT MOST 1048576: true; the input reads as it did. -/
def tableKnownUptoRow : OpenClaim := { program := "ythpnhdopheofcaa", sum := "036ed16e1a839e64472b070b58337e8d6fea3494eede585de3991212ebd5ccd0", func := "tallow/tallowlaw18.TableKnown", spec := "tableKnown", unfollowed := true, recurses := true, plainKeys := false, apart := false, narrowed := true }
def TableKnownUptoSaid : Prop := tableKnownUptoRow.holds Try.pinned (OpenSpec.upto tableKnownSpec)

/-- 'tallowlaw18.TableTypes', WHERE WHAT IT READS IS OF BULK AT MOST 1048576: true; the input reads as it did. -/
def tableTypesUptoRow : OpenClaim := { program := "ythpnhdopheofcaa", sum := "036ed16e1a839e64472b070b58337e8d6fea3494eede585de3991212ebd5ccd0", func := "tallow/tallowlaw18.TableTypes", spec := "tableTypes", unfollowed := true, recurses := true, plainKeys := false, apart := false, narrowed := true }
def TableTypesUptoSaid : Prop := tableTypesUptoRow.holds Try.pinned (OpenSpec.upto tableTypesSpec)

/-- 'tallowlaw26.StackCounts', WHERE WHAT IT READS IS OF BULK AT MOST 1048576: true; the input reads as it did. -/
def stackCountsUptoRow : OpenClaim := { program := "ythpnhdopheofcaa", sum := "036ed16e1a839e64472b070b58337e8d6fea3494eede585de3991212ebd5ccd0", func := "tallow/tallowlaw26.StackCounts", spec := "stackCounts", unfollowed := true, recurses := true, plainKeys := false, apart := false, narrowed := true }
def StackCountsUptoSaid : Prop := stackCountsUptoRow.holds Try.pinned (OpenSpec.upto stackCountsSpec)

/-- 'tallowlaw19.MetaMarks', WHERE WHAT IT READS IS OF BULK AT MOST 1048576: true; the input reads as it did. -/
def metaMarksUptoRow : OpenClaim := { program := "ythpnhdopheofcaa", sum := "036ed16e1a839e64472b070b58337e8d6fea3494eede585de3991212ebd5ccd0", func := "tallow/tallowlaw19.MetaMarks", spec := "metaMarks", unfollowed := true, recurses := true, plainKeys := false, apart := false, narrowed := true }
def MetaMarksUptoSaid : Prop := metaMarksUptoRow.holds Try.pinned (OpenSpec.upto metaMarksSpec)

/-- 'tallowlaw19.MetaKnown', WHERE WHAT IT READS IS OF BULK AT MOST 1048576: true; the input reads as it did. -/
def metaKnownUptoRow : OpenClaim := { program := "ythpnhdopheofcaa", sum := "036ed16e1a839e64472b070b58337e8d6fea3494eede585de3991212ebd5ccd0", func := "tallow/tallowlaw19.MetaKnown", spec := "metaKnown", unfollowed := true, recurses := true, plainKeys := false, apart := false, narrowed := true }
def MetaKnownUptoSaid : Prop := metaKnownUptoRow.holds Try.pinned (OpenSpec.upto metaKnownSpec)

/-- 'tallowlaw18.TableCounts', WHERE WHAT IT READS IS OF BULK AT MOST 1048576: true; the input reads as it did. -/
def tableCountsUptoRow : OpenClaim := { program := "ythpnhdopheofcaa", sum := "036ed16e1a839e64472b070b58337e8d6fea3494eede585de3991212ebd5ccd0", func := "tallow/tallowlaw18.TableCounts", spec := "tableCounts", unfollowed := true, recurses := true, plainKeys := false, apart := false, narrowed := true }
def TableCountsUptoSaid : Prop := tableCountsUptoRow.holds Try.pinned (OpenSpec.upto tableCountsSpec)

end Rows
end Go.Proofs.Ythpnhdopheofcaa
