/-
  No cell of these rows narrows 'for every input' (looked for: loops, veiled, ifaces, maps, wideKeys, modest, calm, conditions, laid).
  DERIVED. THE GIVEN ROWS OF THIS SEAT. 11 by the template 'for every input the law returns true; each argument reads behind the call as it read before'; 0 by the template 'total and deterministic' (their statements: YtpiiapoafmnhhaaGreatTotals.lean).
  GIVEN WITH THE SEED: the statements are not yours to turn. If you find one false, say at which input.
  Laid BY PROGRAM, IN A SANDBOX (cutbox-rows.mjs): the forced cells as the released guide's own fill.sh prints them over the translation f35fc5cfe82f0d0a… (all of the seat's roots in one cut). By AI agents, Wed Nov 11 2026. No macro, syntax, notation, axiom, sorry.
-/
import Derived.Test.YtpiiapoafmnhhaaGreatChecked
import GoSem.Claim
import GoSem.ClaimJoined
import GoSem.ClaimMapViews
import Derived.JoinedTies
import Derived.KernelRfl
namespace Go.Proofs.YtpiiapoafmnhhaaGreat
/- THE CELL 'sum', in the pinned program and in every row, IS THE sha256 OF THE DUMP (.gsa) THAT YtpiiapoafmnhhaaGreatProg.lean LOADS. Nothing in Lean hashes anything: it is a label: what it is worth is what the hold of that sum in a sandbox is worth. -/
noncomputable def Tryz.pinned : Pinned := { name := "ytpiiapoafmnhhaagreat", sum := "f35fc5cfe82f0d0a2b6944cefce0fef1e7280a3784de5745a483561cb3722962", checked := Tryz.checked }
namespace Rows
def none {H : Type} : Left H := { results := [], args := [] }

/-- 'laws.FnExactQueryPages': WHATEVER THE INPUT: true; the input reads as it did. -/
def fnExactQueryPagesSpec : ChangeSpec := { name := "fnExactQueryPages", fn := fun _ => fun
  | [d1, d2, d3] => { results := [.lit (.bool true)], args := [d1, d2, d3] }
  | _ => none }
def fnExactQueryPagesRow : OpenClaim := { program := "ytpiiapoafmnhhaagreat", sum := "f35fc5cfe82f0d0a2b6944cefce0fef1e7280a3784de5745a483561cb3722962", func := "loop.example/hagioscope/laws.FnExactQueryPages", spec := "fnExactQueryPages", unfollowed := true, recurses := true, apart := false }
def FnExactQueryPagesSaid : Prop := fnExactQueryPagesRow.holds Tryz.pinned (OpenSpec.ofChange fnExactQueryPagesSpec)

/-- ITS FALSE NEIGHBOUR: 'it returns false'. Refute it at one input. -/
def fnExactQueryPagesWrong : ChangeSpec := { name := "fnExactQueryPages", fn := fun _ => fun
  | [d1, d2, d3] => { results := [.lit (.bool false)], args := [d1, d2, d3] }
  | _ => none }
def FnExactQueryPagesWrongFalsely : Prop := fnExactQueryPagesRow.holds Tryz.pinned (OpenSpec.ofChange fnExactQueryPagesWrong)

/-- 'laws.FnQueryLess': WHATEVER THE INPUT: true; the input reads as it did. -/
def fnQueryLessSpec : ChangeSpec := { name := "fnQueryLess", fn := fun _ => fun
  | [d1, d2] => { results := [.lit (.bool true)], args := [d1, d2] }
  | _ => none }
def fnQueryLessRow : OpenClaim := { program := "ytpiiapoafmnhhaagreat", sum := "f35fc5cfe82f0d0a2b6944cefce0fef1e7280a3784de5745a483561cb3722962", func := "loop.example/hagioscope/laws.FnQueryLess", spec := "fnQueryLess", unfollowed := true, recurses := true, apart := false }
def FnQueryLessSaid : Prop := fnQueryLessRow.holds Tryz.pinned (OpenSpec.ofChange fnQueryLessSpec)

/-- ITS FALSE NEIGHBOUR: 'it returns false'. Refute it at one input. -/
def fnQueryLessWrong : ChangeSpec := { name := "fnQueryLess", fn := fun _ => fun
  | [d1, d2] => { results := [.lit (.bool false)], args := [d1, d2] }
  | _ => none }
def FnQueryLessWrongFalsely : Prop := fnQueryLessRow.holds Tryz.pinned (OpenSpec.ofChange fnQueryLessWrong)

/-- 'laws.FnQueryHead': WHATEVER THE INPUT: true; the input reads as it did. -/
def fnQueryHeadSpec : ChangeSpec := { name := "fnQueryHead", fn := fun _ => fun
  | [d] => { results := [.lit (.bool true)], args := [d] }
  | _ => none }
def fnQueryHeadRow : OpenClaim := { program := "ytpiiapoafmnhhaagreat", sum := "f35fc5cfe82f0d0a2b6944cefce0fef1e7280a3784de5745a483561cb3722962", func := "loop.example/hagioscope/laws.FnQueryHead", spec := "fnQueryHead", unfollowed := true, recurses := true, apart := false }
def FnQueryHeadSaid : Prop := fnQueryHeadRow.holds Tryz.pinned (OpenSpec.ofChange fnQueryHeadSpec)

/-- ITS FALSE NEIGHBOUR: 'it returns false'. Refute it at one input. -/
def fnQueryHeadWrong : ChangeSpec := { name := "fnQueryHead", fn := fun _ => fun
  | [d] => { results := [.lit (.bool false)], args := [d] }
  | _ => none }
def FnQueryHeadWrongFalsely : Prop := fnQueryHeadRow.holds Tryz.pinned (OpenSpec.ofChange fnQueryHeadWrong)

/-- 'laws.FnQueryWide': WHATEVER THE INPUT: true; the input reads as it did. -/
def fnQueryWideSpec : ChangeSpec := { name := "fnQueryWide", fn := fun _ => fun
  | [d] => { results := [.lit (.bool true)], args := [d] }
  | _ => none }
def fnQueryWideRow : OpenClaim := { program := "ytpiiapoafmnhhaagreat", sum := "f35fc5cfe82f0d0a2b6944cefce0fef1e7280a3784de5745a483561cb3722962", func := "loop.example/hagioscope/laws.FnQueryWide", spec := "fnQueryWide", unfollowed := true, recurses := true, apart := false }
def FnQueryWideSaid : Prop := fnQueryWideRow.holds Tryz.pinned (OpenSpec.ofChange fnQueryWideSpec)

/-- ITS FALSE NEIGHBOUR: 'it returns false'. Refute it at one input. -/
def fnQueryWideWrong : ChangeSpec := { name := "fnQueryWide", fn := fun _ => fun
  | [d] => { results := [.lit (.bool false)], args := [d] }
  | _ => none }
def FnQueryWideWrongFalsely : Prop := fnQueryWideRow.holds Tryz.pinned (OpenSpec.ofChange fnQueryWideWrong)

/-- 'laws.FnQueryPages': WHATEVER THE INPUT: true; the input reads as it did. -/
def fnQueryPagesSpec : ChangeSpec := { name := "fnQueryPages", fn := fun _ => fun
  | [d] => { results := [.lit (.bool true)], args := [d] }
  | _ => none }
def fnQueryPagesRow : OpenClaim := { program := "ytpiiapoafmnhhaagreat", sum := "f35fc5cfe82f0d0a2b6944cefce0fef1e7280a3784de5745a483561cb3722962", func := "loop.example/hagioscope/laws.FnQueryPages", spec := "fnQueryPages", unfollowed := true, recurses := true, apart := false }
def FnQueryPagesSaid : Prop := fnQueryPagesRow.holds Tryz.pinned (OpenSpec.ofChange fnQueryPagesSpec)

/-- ITS FALSE NEIGHBOUR: 'it returns false'. Refute it at one input. -/
def fnQueryPagesWrong : ChangeSpec := { name := "fnQueryPages", fn := fun _ => fun
  | [d] => { results := [.lit (.bool false)], args := [d] }
  | _ => none }
def FnQueryPagesWrongFalsely : Prop := fnQueryPagesRow.holds Tryz.pinned (OpenSpec.ofChange fnQueryPagesWrong)

/-- 'laws.FnExactQueryRun': WHATEVER THE INPUT: true; the input reads as it did. -/
def fnExactQueryRunSpec : ChangeSpec := { name := "fnExactQueryRun", fn := fun _ => fun
  | [d1, d2, d3, d4] => { results := [.lit (.bool true)], args := [d1, d2, d3, d4] }
  | _ => none }
def fnExactQueryRunRow : OpenClaim := { program := "ytpiiapoafmnhhaagreat", sum := "f35fc5cfe82f0d0a2b6944cefce0fef1e7280a3784de5745a483561cb3722962", func := "loop.example/hagioscope/laws.FnExactQueryRun", spec := "fnExactQueryRun", unfollowed := true, recurses := true, apart := false }
def FnExactQueryRunSaid : Prop := fnExactQueryRunRow.holds Tryz.pinned (OpenSpec.ofChange fnExactQueryRunSpec)

/-- ITS FALSE NEIGHBOUR: 'it returns false'. Refute it at one input. -/
def fnExactQueryRunWrong : ChangeSpec := { name := "fnExactQueryRun", fn := fun _ => fun
  | [d1, d2, d3, d4] => { results := [.lit (.bool false)], args := [d1, d2, d3, d4] }
  | _ => none }
def FnExactQueryRunWrongFalsely : Prop := fnExactQueryRunRow.holds Tryz.pinned (OpenSpec.ofChange fnExactQueryRunWrong)

/-- 'laws.FnQueryChange': WHATEVER THE INPUT: true; the input reads as it did. -/
def fnQueryChangeSpec : ChangeSpec := { name := "fnQueryChange", fn := fun _ => fun
  | [d1, d2] => { results := [.lit (.bool true)], args := [d1, d2] }
  | _ => none }
def fnQueryChangeRow : OpenClaim := { program := "ytpiiapoafmnhhaagreat", sum := "f35fc5cfe82f0d0a2b6944cefce0fef1e7280a3784de5745a483561cb3722962", func := "loop.example/hagioscope/laws.FnQueryChange", spec := "fnQueryChange", inPlace := ["slices.overlaps[loop.example/hagioscope/impl.Node]", "slices.overlaps[loop.example/hagioscope/impl.Edge]"], unfollowed := true, recurses := true, apart := false }
def FnQueryChangeSaid : Prop := fnQueryChangeRow.holds Tryz.pinned (OpenSpec.ofChange fnQueryChangeSpec)

/-- ITS FALSE NEIGHBOUR: 'it returns false'. Refute it at one input. -/
def fnQueryChangeWrong : ChangeSpec := { name := "fnQueryChange", fn := fun _ => fun
  | [d1, d2] => { results := [.lit (.bool false)], args := [d1, d2] }
  | _ => none }
def FnQueryChangeWrongFalsely : Prop := fnQueryChangeRow.holds Tryz.pinned (OpenSpec.ofChange fnQueryChangeWrong)

/-- 'laws.FnQueryRoom': WHATEVER THE INPUT: true; the input reads as it did. -/
def fnQueryRoomSpec : ChangeSpec := { name := "fnQueryRoom", fn := fun _ => fun
  | [d1, d2] => { results := [.lit (.bool true)], args := [d1, d2] }
  | _ => none }
def fnQueryRoomRow : OpenClaim := { program := "ytpiiapoafmnhhaagreat", sum := "f35fc5cfe82f0d0a2b6944cefce0fef1e7280a3784de5745a483561cb3722962", func := "loop.example/hagioscope/laws.FnQueryRoom", spec := "fnQueryRoom", unfollowed := true, recurses := true, apart := false }
def FnQueryRoomSaid : Prop := fnQueryRoomRow.holds Tryz.pinned (OpenSpec.ofChange fnQueryRoomSpec)

/-- ITS FALSE NEIGHBOUR: 'it returns false'. Refute it at one input. -/
def fnQueryRoomWrong : ChangeSpec := { name := "fnQueryRoom", fn := fun _ => fun
  | [d1, d2] => { results := [.lit (.bool false)], args := [d1, d2] }
  | _ => none }
def FnQueryRoomWrongFalsely : Prop := fnQueryRoomRow.holds Tryz.pinned (OpenSpec.ofChange fnQueryRoomWrong)

/-- 'laws.FnQueryTwice': WHATEVER THE INPUT: true; the input reads as it did. -/
def fnQueryTwiceSpec : ChangeSpec := { name := "fnQueryTwice", fn := fun _ => fun
  | [d] => { results := [.lit (.bool true)], args := [d] }
  | _ => none }
def fnQueryTwiceRow : OpenClaim := { program := "ytpiiapoafmnhhaagreat", sum := "f35fc5cfe82f0d0a2b6944cefce0fef1e7280a3784de5745a483561cb3722962", func := "loop.example/hagioscope/laws.FnQueryTwice", spec := "fnQueryTwice", unfollowed := true, recurses := true, apart := false }
def FnQueryTwiceSaid : Prop := fnQueryTwiceRow.holds Tryz.pinned (OpenSpec.ofChange fnQueryTwiceSpec)

/-- ITS FALSE NEIGHBOUR: 'it returns false'. Refute it at one input. -/
def fnQueryTwiceWrong : ChangeSpec := { name := "fnQueryTwice", fn := fun _ => fun
  | [d] => { results := [.lit (.bool false)], args := [d] }
  | _ => none }
def FnQueryTwiceWrongFalsely : Prop := fnQueryTwiceRow.holds Tryz.pinned (OpenSpec.ofChange fnQueryTwiceWrong)

/-- 'laws.FnQueryBlind': WHATEVER THE INPUT: true; the input reads as it did. -/
def fnQueryBlindSpec : ChangeSpec := { name := "fnQueryBlind", fn := fun _ => fun
  | [d] => { results := [.lit (.bool true)], args := [d] }
  | _ => none }
def fnQueryBlindRow : OpenClaim := { program := "ytpiiapoafmnhhaagreat", sum := "f35fc5cfe82f0d0a2b6944cefce0fef1e7280a3784de5745a483561cb3722962", func := "loop.example/hagioscope/laws.FnQueryBlind", spec := "fnQueryBlind", unfollowed := true, recurses := true, apart := false }
def FnQueryBlindSaid : Prop := fnQueryBlindRow.holds Tryz.pinned (OpenSpec.ofChange fnQueryBlindSpec)

/-- ITS FALSE NEIGHBOUR: 'it returns false'. Refute it at one input. -/
def fnQueryBlindWrong : ChangeSpec := { name := "fnQueryBlind", fn := fun _ => fun
  | [d] => { results := [.lit (.bool false)], args := [d] }
  | _ => none }
def FnQueryBlindWrongFalsely : Prop := fnQueryBlindRow.holds Tryz.pinned (OpenSpec.ofChange fnQueryBlindWrong)

/-- 'laws.FnQuery': WHATEVER THE INPUT: true; the input reads as it did. -/
def fnQuerySpec : ChangeSpec := { name := "fnQuery", fn := fun _ => fun
  | [d] => { results := [.lit (.bool true)], args := [d] }
  | _ => none }
def fnQueryRow : OpenClaim := { program := "ytpiiapoafmnhhaagreat", sum := "f35fc5cfe82f0d0a2b6944cefce0fef1e7280a3784de5745a483561cb3722962", func := "loop.example/hagioscope/laws.FnQuery", spec := "fnQuery", unfollowed := true, recurses := true, apart := false }
def FnQuerySaid : Prop := fnQueryRow.holds Tryz.pinned (OpenSpec.ofChange fnQuerySpec)

/-- ITS FALSE NEIGHBOUR: 'it returns false'. Refute it at one input. -/
def fnQueryWrong : ChangeSpec := { name := "fnQuery", fn := fun _ => fun
  | [d] => { results := [.lit (.bool false)], args := [d] }
  | _ => none }
def FnQueryWrongFalsely : Prop := fnQueryRow.holds Tryz.pinned (OpenSpec.ofChange fnQueryWrong)

/- THE SECOND FORM. 'bulk': how many values and letters a reading holds, each counted each time it is reached (what is shared counts as often as it is met; a slice's spare places count too). A statement '..UptoSaid' is the law's where the arguments, and the package variables that the reading takes, are together of bulk at most 1048576: NARROWER than '..Said'. Prove '..Said' where nothing that the law and all that it calls make is longer than what came in: it says more and counts as full. Else prove '..UptoSaid'. A law counts once. -/
mutual
def uptoBulk {H : Type} : DataW H → Nat
  | .lit (.string bytes) => bytes.length + 1
  | .lit _ => 1
  | .nil => 1
  | .ptr d => uptoBulk d + 1
  | .slice elems spare => uptoBulkAll elems + uptoBulkAll spare + 1
  | .agg parts => uptoBulkAll parts + 1
  | .iface _ d => uptoBulk d + 1
  | .map entries => uptoBulkEntries entries + 1
  | .held _ => 1
def uptoBulkAll {H : Type} : List (DataW H) → Nat
  | [] => 0
  | d :: r => uptoBulk d + uptoBulkAll r
def uptoBulkEntries {H : Type} : List (Lit × DataW H) → Nat
  | [] => 0
  | x :: r => uptoBulkEntry x + uptoBulkEntries r
def uptoBulkEntry {H : Type} : Lit × DataW H → Nat
  | (.string bytes, d) => bytes.length + uptoBulk d + 1
  | (_, d) => uptoBulk d + 1
 end
def uptoSmall : (H : Type) → List (DataW H) → Bool := fun _ ds => decide (uptoBulkAll ds ≤ 1048576)
def OpenSpec.upto (s : _root_.Go.ChangeSpec) : _root_.Go.OpenSpec := { _root_.Go.OpenSpec.ofChange s with cond := some uptoSmall }

/-- 'laws.FnExactQueryPages', WHERE WHAT IT READS IS OF BULK AT MOST 1048576: true; the input reads as it did. -/
def fnExactQueryPagesUptoRow : OpenClaim := { program := "ytpiiapoafmnhhaagreat", sum := "f35fc5cfe82f0d0a2b6944cefce0fef1e7280a3784de5745a483561cb3722962", func := "loop.example/hagioscope/laws.FnExactQueryPages", spec := "fnExactQueryPages", unfollowed := true, recurses := true, apart := false, narrowed := true }
def FnExactQueryPagesUptoSaid : Prop := fnExactQueryPagesUptoRow.holds Tryz.pinned (OpenSpec.upto fnExactQueryPagesSpec)

/-- 'laws.FnQueryLess', WHERE WHAT IT READS IS OF BULK AT MOST 1048576: true; the input reads as it did. -/
def fnQueryLessUptoRow : OpenClaim := { program := "ytpiiapoafmnhhaagreat", sum := "f35fc5cfe82f0d0a2b6944cefce0fef1e7280a3784de5745a483561cb3722962", func := "loop.example/hagioscope/laws.FnQueryLess", spec := "fnQueryLess", unfollowed := true, recurses := true, apart := false, narrowed := true }
def FnQueryLessUptoSaid : Prop := fnQueryLessUptoRow.holds Tryz.pinned (OpenSpec.upto fnQueryLessSpec)

/-- 'laws.FnQueryHead', WHERE WHAT IT READS IS OF BULK AT MOST 1048576: true; the input reads as it did. -/
def fnQueryHeadUptoRow : OpenClaim := { program := "ytpiiapoafmnhhaagreat", sum := "f35fc5cfe82f0d0a2b6944cefce0fef1e7280a3784de5745a483561cb3722962", func := "loop.example/hagioscope/laws.FnQueryHead", spec := "fnQueryHead", unfollowed := true, recurses := true, apart := false, narrowed := true }
def FnQueryHeadUptoSaid : Prop := fnQueryHeadUptoRow.holds Tryz.pinned (OpenSpec.upto fnQueryHeadSpec)

/-- 'laws.FnQueryWide', WHERE WHAT IT READS IS OF BULK AT MOST 1048576: true; the input reads as it did. -/
def fnQueryWideUptoRow : OpenClaim := { program := "ytpiiapoafmnhhaagreat", sum := "f35fc5cfe82f0d0a2b6944cefce0fef1e7280a3784de5745a483561cb3722962", func := "loop.example/hagioscope/laws.FnQueryWide", spec := "fnQueryWide", unfollowed := true, recurses := true, apart := false, narrowed := true }
def FnQueryWideUptoSaid : Prop := fnQueryWideUptoRow.holds Tryz.pinned (OpenSpec.upto fnQueryWideSpec)

/-- 'laws.FnQueryPages', WHERE WHAT IT READS IS OF BULK AT MOST 1048576: true; the input reads as it did. -/
def fnQueryPagesUptoRow : OpenClaim := { program := "ytpiiapoafmnhhaagreat", sum := "f35fc5cfe82f0d0a2b6944cefce0fef1e7280a3784de5745a483561cb3722962", func := "loop.example/hagioscope/laws.FnQueryPages", spec := "fnQueryPages", unfollowed := true, recurses := true, apart := false, narrowed := true }
def FnQueryPagesUptoSaid : Prop := fnQueryPagesUptoRow.holds Tryz.pinned (OpenSpec.upto fnQueryPagesSpec)

/-- 'laws.FnExactQueryRun', WHERE WHAT IT READS IS OF BULK AT MOST 1048576: true; the input reads as it did. -/
def fnExactQueryRunUptoRow : OpenClaim := { program := "ytpiiapoafmnhhaagreat", sum := "f35fc5cfe82f0d0a2b6944cefce0fef1e7280a3784de5745a483561cb3722962", func := "loop.example/hagioscope/laws.FnExactQueryRun", spec := "fnExactQueryRun", unfollowed := true, recurses := true, apart := false, narrowed := true }
def FnExactQueryRunUptoSaid : Prop := fnExactQueryRunUptoRow.holds Tryz.pinned (OpenSpec.upto fnExactQueryRunSpec)

/-- 'laws.FnQueryChange', WHERE WHAT IT READS IS OF BULK AT MOST 1048576: true; the input reads as it did. -/
def fnQueryChangeUptoRow : OpenClaim := { program := "ytpiiapoafmnhhaagreat", sum := "f35fc5cfe82f0d0a2b6944cefce0fef1e7280a3784de5745a483561cb3722962", func := "loop.example/hagioscope/laws.FnQueryChange", spec := "fnQueryChange", inPlace := ["slices.overlaps[loop.example/hagioscope/impl.Node]", "slices.overlaps[loop.example/hagioscope/impl.Edge]"], unfollowed := true, recurses := true, apart := false, narrowed := true }
def FnQueryChangeUptoSaid : Prop := fnQueryChangeUptoRow.holds Tryz.pinned (OpenSpec.upto fnQueryChangeSpec)

/-- 'laws.FnQueryRoom', WHERE WHAT IT READS IS OF BULK AT MOST 1048576: true; the input reads as it did. -/
def fnQueryRoomUptoRow : OpenClaim := { program := "ytpiiapoafmnhhaagreat", sum := "f35fc5cfe82f0d0a2b6944cefce0fef1e7280a3784de5745a483561cb3722962", func := "loop.example/hagioscope/laws.FnQueryRoom", spec := "fnQueryRoom", unfollowed := true, recurses := true, apart := false, narrowed := true }
def FnQueryRoomUptoSaid : Prop := fnQueryRoomUptoRow.holds Tryz.pinned (OpenSpec.upto fnQueryRoomSpec)

/-- 'laws.FnQueryTwice', WHERE WHAT IT READS IS OF BULK AT MOST 1048576: true; the input reads as it did. -/
def fnQueryTwiceUptoRow : OpenClaim := { program := "ytpiiapoafmnhhaagreat", sum := "f35fc5cfe82f0d0a2b6944cefce0fef1e7280a3784de5745a483561cb3722962", func := "loop.example/hagioscope/laws.FnQueryTwice", spec := "fnQueryTwice", unfollowed := true, recurses := true, apart := false, narrowed := true }
def FnQueryTwiceUptoSaid : Prop := fnQueryTwiceUptoRow.holds Tryz.pinned (OpenSpec.upto fnQueryTwiceSpec)

/-- 'laws.FnQueryBlind', WHERE WHAT IT READS IS OF BULK AT MOST 1048576: true; the input reads as it did. -/
def fnQueryBlindUptoRow : OpenClaim := { program := "ytpiiapoafmnhhaagreat", sum := "f35fc5cfe82f0d0a2b6944cefce0fef1e7280a3784de5745a483561cb3722962", func := "loop.example/hagioscope/laws.FnQueryBlind", spec := "fnQueryBlind", unfollowed := true, recurses := true, apart := false, narrowed := true }
def FnQueryBlindUptoSaid : Prop := fnQueryBlindUptoRow.holds Tryz.pinned (OpenSpec.upto fnQueryBlindSpec)

/-- 'laws.FnQuery', WHERE WHAT IT READS IS OF BULK AT MOST 1048576: true; the input reads as it did. -/
def fnQueryUptoRow : OpenClaim := { program := "ytpiiapoafmnhhaagreat", sum := "f35fc5cfe82f0d0a2b6944cefce0fef1e7280a3784de5745a483561cb3722962", func := "loop.example/hagioscope/laws.FnQuery", spec := "fnQuery", unfollowed := true, recurses := true, apart := false, narrowed := true }
def FnQueryUptoSaid : Prop := fnQueryUptoRow.holds Tryz.pinned (OpenSpec.upto fnQuerySpec)

end Rows
end Go.Proofs.YtpiiapoafmnhhaaGreat
